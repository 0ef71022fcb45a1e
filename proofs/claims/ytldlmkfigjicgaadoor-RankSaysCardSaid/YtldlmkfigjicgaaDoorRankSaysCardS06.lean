/- RnD, ItaP, Bst, ToM, ShelfR, ToN -/
import Derived.Test.YtldlmkfigjicgaaDoorRankSaysCardS05
import Derived.Deep.CutBlock
import Derived.Lib.ItoaNum
import Derived.WalkKit
import Derived.Test.YtldlmkfigjicgaaDoorRows
import Derived.Maps.OwnOps
import Derived.StringKeys
import Derived.Maps.Views
import Derived.Lib.AppendIntMem
import Derived.Shelf.LaysM
import Derived.Shelf.Strconv.Itoa3
import Derived.Ground.NamesProg
import Derived.Ground.SlsfProg
import Derived.Shelf.SlSortCmp.Whole1
import Derived.Shelf.SlSortCmp.NoneTotal
import Derived.Lib.ItoaLen
import Derived.Laws.Concat
/- viewref.Ranked. -/
namespace Go.Proofs.YtldlmkfigjicgaaDoor
set_option linter.unusedVariables false
set_option linter.unusedSimpArgs false
open Go.ChangeShapes Go.WideShapes Go.ChangeAt Go.RowKit

theorem kcells_map (M : List IR) : kcells M = M.map (fun x => Value.slice x.A x.row.length x.k) := by
  induction M with
  | nil => rfl
  | cons x M ih => rw [kcells, List.flatMap_cons] at *; rw [ih]; rfl
theorem kcells_ins (M : List IR) (x : IR) (i : Nat) : (kcells M).take i ++ ([.slice x.A x.row.length x.k] ++ (kcells M).drop i) = kcells (M.take i ++ ([x] ++ M.drop i)) := by
  simp only [kcells_map, List.map_append, List.map_take, List.map_drop, List.map_singleton]
theorem kcells_one (M : List IR) : ∀ v ∈ kcells M, v.oneCell' = true := fun v hv => by
  rw [kcells_map] at hv
  obtain ⟨x, -, rfl⟩ := List.mem_map.1 hv
  rfl
theorem Row.takeK {w : World} {B : Nat} {A : Option Addr} {M : List IR} (h : Row w B A (kcells M)) (n : Nat) : Row w B A (kcells (M.take n)) := by
  have e : kcells (M.take n) = (kcells M).take n := by simp only [kcells_map, List.map_take]
  rw [e]
  rcases h with h | ⟨b, off, h1, h2, h3⟩
  · rw [h]; exact .inl (by simp)
  · refine .inr ⟨b, off, h1, h2, fun j u hu => h3 j u ?_⟩
    rw [List.getElem?_take] at hu
    split at hu
    · exact hu
    · cases hu
theorem Row.krow {w : World} {B : Nat} {A : Option Addr} {M : List IR} (h : Row w B A (kcells M)) {k : Nat} (hk : k < M.length) :
    ∃ b off, A = some ⟨b, off, none⟩ ∧ b < B ∧ w.cell? ⟨b, off + k, none⟩ = some (.slice M[k].A M[k].row.length M[k].k) := by
  obtain ⟨b, off, h1, h2, h3⟩ := Row.flat (f := fun x : IR => [Value.slice x.A x.row.length x.k]) (n := 1) (fun x => rfl) h (by omega) hk
  have := h3 0 _ rfl
  rw [Nat.mul_one, Nat.add_zero] at this
  exact ⟨b, off, h1, h2, this⟩
theorem atR_is (bs r : List Int) : ∀ (out : List (List Int)) (a : Nat), a ≤ out.length → (∀ j (h : j < out.length), j < a → nahB bs r out[j] = true) → (∀ h : a < out.length, nahB bs r out[a] = false) → atR bs r out = a
  | [], a, ha, _, _ => by simp only [List.length_nil] at ha; unfold atR; simp; omega
  | x :: out, 0, _, _, h2 => by
    have := h2 (by simp)
    simp only [List.getElem_cons_zero] at this
    unfold atR
    rw [List.takeWhile_cons_of_neg (by rw [this]; simp)]
    rfl
  | x :: out, a + 1, ha, h1, h2 => by
    have h0 := h1 0 (by simp) (by omega)
    simp only [List.getElem_cons_zero] at h0
    have ih := atR_is bs r out a (by simpa using ha) (fun j h hj => by
      have := h1 (j + 1) (by simp; omega) (by omega)
      simpa only [List.getElem_cons_succ] using this) (fun h => by
      have := h2 (by simp; omega)
      simpa only [List.getElem_cons_succ] using this)
    unfold atR at *
    rw [List.takeWhile_cons_of_pos h0, List.length_cons, ih]
/-- Rows, and an error. -/
def RkPost (S : List (List Int)) (x : Int) (w : World) (e : Ending) (w' : World) : Prop :=
  ∃ (A : Option Addr) (k : Nat) (M : List IR), e = .returned (.tuple #[.slice A M.length k, .int .i64 x]) ∧ nrows M = S ∧ Row w' w'.heap.size A (kcells M) ∧ RowsAt w' w'.heap.size M ∧ M.length ≤ 9223372036854775807 ∧ Below w.heap.size w w'
theorem rkPost_nil {S : List (List Int)} {w w' : World} {x y : Int} (hS : S = []) (hx : y = x) (hb : Below w.heap.size w w') : RkPost S y w (.returned (.tuple #[.slice none 0 0, .int .i64 x])) w' := by
  subst hS hx; exact ⟨none, 0, [], rfl, rfl, .inl rfl, fun x hx => by simp at hx, by simp, hb⟩
theorem rank_none {l : List It} {bs : List Int} {most : Int} (h : rankE l bs most ≠ 0) : rankX l bs most = [] := by unfold rankX; rw [if_neg h]
theorem RowsNew.ins {w : World} {lo : Nat} {v : Value} {M : List IR} (h : RowsNew w lo v M) (i : Nat) {x : IR} (h1 : RowOwn w x.A x.row x.k) (h2 : NewAt lo x.A) (h3 : ∀ b off q, x.A = some ⟨b, off, q⟩ → some b ≠ v.ownBlock ∧ b < w.heap.size) (h4 : x.row.length ≤ 1048576) : RowsNew w lo v (M.take i ++ ([x] ++ M.drop i)) := fun y hy => by
  rcases List.mem_append.1 hy with e | e
  · exact h y (List.mem_of_mem_take e)
  · rcases List.mem_append.1 e with e | e
    · rw [List.mem_singleton.1 e]; exact ⟨h1, h2, h3, h4⟩
    · exact h y (List.mem_of_mem_drop e)
set_option maxHeartbeats 8000000 in
set_option maxRecDepth 100000 in
theorem ranked_any (M : List IR) (A : Option Addr) (c : Nat) (bs : List Int) (bA : Option Addr) (bc : Nat) (most : Int) (w : World) (hr : RowI w w.heap.size A M) (hl : M.length ≤ 9223372036854775807) (hb : Row w w.heap.size bA (icells' bs)) (hbl : bs.length ≤ 9223372036854775807) :
    Calls Tryd.prog 6 #[.slice A M.length c, .slice bA bs.length bc, .int .i64 most] w (RkPost (rankX (its M) bs most) (rankE (its M) bs most) w) := by
  have HCK := hid (Rset_any M A c w hr hl)
  have HR := hid hr
  have HBS := hid hb
  have HES := hid (fun h : setI (its M) ≠ 0 => rankE_set (bs := bs) (most := most) h)
  have HLS := hid (fun h : setI (its M) = 0 => (setI_zero.1 h))
  have HEF := hid (fun (h : setI (its M) = 0) (x : IR) (hx : x ∈ M) (q : (x.row.length : Int) ≠ wR (its M) ∨ ¬ (0 ≤ x.n ∧ x.n ≤ 400)) => rankE_form (bs := bs) (most := most) h (x := x.it) (List.mem_map.2 ⟨x, hx, rfl⟩) q)
  have HE1 := hid (fun (h : setI (its M) = 0) (hf : ∀ x ∈ its M, (x.1.length : Int) = wR (its M) ∧ 0 ≤ x.2 ∧ x.2 ≤ 400) q => rankE_one (bs := bs) (most := most) h hf q)
  have HE0 := hid (fun (h : setI (its M) = 0) (hf : ∀ x ∈ its M, (x.1.length : Int) = wR (its M) ∧ 0 ≤ x.2 ∧ x.2 ≤ 400) h1 h2 h3 => rankE_good (bs := bs) (most := most) h hf h1 h2 h3)
  have HXN := hid (fun h => rank_none (l := its M) (bs := bs) (most := most) h)
  have HXI := hid (fun h => rankX_ins (l := its M) (bs := bs) (most := most) h)
  have HW0 := hid (show ∀ h : 0 < M.length, wR (its M) = (M[0].row.length : Int) from fun h => by
    cases M with
    | nil => simp at h
    | cons x M => rfl)
  have HWN := hid (show M.length = 0 → wR (its M) = 8 from fun h => by
    rw [List.length_eq_zero_iff.1 h]; rfl)
  have HWX := hid (show wR (its M) = 8 ∨ ∃ x ∈ M, (x.row.length : Int) = wR (its M) from by
    cases M with
    | nil => exact .inl rfl
    | cons x M => exact .inr ⟨x, by simp, rfl⟩)
  clear hr hb
  obtain ⟨S, hS⟩ : ∃ q, q = setI (its M) := ⟨_, rfl⟩
  obtain ⟨W, hW⟩ : ∃ q, q = wR (its M) := ⟨_, rfl⟩
  obtain ⟨E, hE⟩ : ∃ q, q = rankE (its M) bs most := ⟨_, rfl⟩
  obtain ⟨X, hX⟩ : ∃ q, q = rankX (its M) bs most := ⟨_, rfl⟩
  rw [← hS] at HCK HES HLS HEF HE1 HE0
  simp only [← hW] at HEF HE1 HE0 HW0 HWN HWX
  rw [← hE] at HXN HXI ⊢
  simp only [← hE] at HES HEF HE1 HE0
  rw [← hX] at HXN HXI ⊢
  clear hS hW hE hX
  go_enter Tryd.func6, Tryd.ntmps6
  go_wp2_with fail
  -- STOP-a
  refine HCK.out.mono ?_
  rintro e w1 ⟨rfl, hb1⟩
  have HBW := hid hb1
  clear hb1
  by_cases q1 : S = 0
  rotate_left
  · have t1 : (S != 0) = true := by simpa using q1
    have HEE := hid (HES.out q1)
    have HQ := hid q1
    clear q1
    go_wp2_with fail
    -- STOP-b
    go_ret2
    exact rkPost_nil (HXN.out (by rw [HEE.out]; exact HQ.out)) HEE.out HBW.out
  subst q1
  replace HLS := hid (HLS.out rfl)
  have hM4 : M.length ≤ 400 := by have := HLS.out.1; rwa [its_len] at this
  have HR8 := hid (fun x (hx : x ∈ M) => (badB_false (HLS.out.2.1 x.it (List.mem_map.2 ⟨x, hx, rfl⟩))).1)
  have hW8 : 0 ≤ W ∧ W ≤ 8 := by
    rcases HWX.out with h | ⟨x, hx, h⟩
    · omega
    · have := HR8.out x hx
      simp only [IR.it] at this
      omega
  clear HES HCK HWX
  go_wp2_with fail
  -- STOP-c
  go_loopw [9, 10] (fun s9 s10 wr => ∃ i : Nat, i ≤ M.length ∧ s10 = .int .i64 i ∧ s9 = .int .i64 (if i = 0 then 8 else W) ∧ Hid (∀ x ∈ M.take i, (x.row.length : Int) = W ∧ 0 ≤ x.n ∧ x.n ≤ 400) ∧ wr = w1) (fun _ s10 _ => M.length - (intOf s10).toNat)
  case atStart => exact ⟨0, by omega, rfl, rfl, hid (fun x hx => by simp at hx), rfl⟩
  case round =>
    obtain ⟨i, hi, rfl, rfl, HG, rfl⟩ := hrel
    by_cases hlt : i < M.length
    · have t1 : ((i : Int) < (M.length : Int)) = True := eq_true (by omega)
      have h0l : 0 < M.length := by omega
      have HTS := hid (List.take_succ_eq_append_getElem hlt)
      have HMM := hid (List.getElem_mem hlt)
      have HF5 := hid (fun (q : (M[i].row.length : Int) ≠ W ∨ ¬ (0 ≤ M[i].n ∧ M[i].n ≤ 400)) => show E = 5 from HEF.out (by first | trivial | rfl) M[i] (List.getElem_mem hlt) q)
      obtain ⟨b, off, hA, hb, e0, e1⟩ := (HR.out.step HBW.out).1.it hlt
      obtain ⟨b', off', hA', hb', f0, -⟩ := (HR.out.step HBW.out).1.it h0l
      rw [hA] at hA'
      injection hA' with hA'; injection hA' with hA1 hA2
      subst hA1 hA2
      subst hA
      have hW0 := HW0.out h0l
      have HI : Hid (∀ w1, Calls Tryd.prog 31 #[.int .i64 M[i].n, .int .i64 0, .int .i64 400] w1 fun e w' => e = .returned (.bool (inB M[i].n 0 400)) ∧ w1 = w') := hid (fun w1 => in_any M[i].n 0 400 w1)
      have HIB := hid (show inB M[i].n 0 400 = true ↔ 0 ≤ M[i].n ∧ M[i].n ≤ 400 by unfold inB; simp)
      obtain ⟨x0, hx0⟩ : ∃ q, q = M[0] := ⟨_, rfl⟩
      rw [← hx0] at f0 hW0
      have HX0 := hid hx0
      clear hx0
      obtain ⟨yr, yA, yk, yn⟩ := x0
      simp only at f0 hW0
      subst hW0
      have f1 : wr.cell? ⟨b, off, none⟩ = some (.slice yA yr.length yk) := by simpa using f0
      generalize M[i] = x at *
      obtain ⟨xr, xA, xk, xn⟩ := x
      simp only at e0 e1 HF5 HI HIB HTS
      obtain ⟨B, hB⟩ : ∃ q, q = inB xn 0 400 := ⟨_, rfl⟩
      rw [← hB] at HI HIB
      clear hB
      by_cases hi0 : i = 0
      · have t2 : ((i : Int) == 0) = true := by simp [hi0]
        rw [if_pos hi0]
        have HI0 := hid hi0
        clear hi0
        by_cases hq : (xr.length : Int) = (yr.length : Int)
        · have t3 : ((xr.length : Int) != (yr.length : Int)) = false := by simp [hq]
          have HQ := hid hq
          clear hq
          cases B
          · have HE5 := hid (HF5.out (.inr fun q => by have h := HIB.out.2 q; first | (exact absurd h (by decide)) | cases h))
            go_wp2_with (go_at_call 31; refine (HI.out _).mono ?_; rintro e w' ⟨rfl, rfl⟩)
            -- STOP-d0
            go_ret2
            exact rkPost_nil (HXN.out (by rw [HE5.out]; decide)) HE5.out HBW.out
          · go_wp2_with (go_at_call 31; refine (HI.out _).mono ?_; rintro e w' ⟨rfl, rfl⟩)
            -- STOP-e0
            go_roundw
            case rel => exact ⟨i + 1, by omega, by go_num, by rw [if_neg (by omega)], hid (fun y hy => by
              rw [HTS.out] at hy
              rcases List.mem_append.1 hy with q | q
              · exact HG.out y q
              · rw [List.mem_singleton.1 q]; exact ⟨HQ.out, HIB.out.1 (by first | trivial | rfl)⟩), by first | trivial | rfl⟩
            case measure => simp [intOf]; omega
        · have t3 : ((xr.length : Int) != (yr.length : Int)) = true := by simp [hq]
          have HE5 := hid (HF5.out (.inl hq))
          clear hq
          go_wp2_with (go_at_call 31; refine (HI.out _).mono ?_; rintro e w' ⟨rfl, rfl⟩)
          go_ret2
          exact rkPost_nil (HXN.out (by rw [HE5.out]; decide)) HE5.out HBW.out
      · have t2 : ((i : Int) == 0) = false := by simp [hi0]
        rw [if_neg hi0]
        clear hi0
        by_cases hq : (xr.length : Int) = (yr.length : Int)
        · have t3 : ((xr.length : Int) != (yr.length : Int)) = false := by simp [hq]
          have HQ := hid hq
          clear hq
          cases B
          · have HE5 := hid (HF5.out (.inr fun q => by have h := HIB.out.2 q; first | (exact absurd h (by decide)) | cases h))
            go_wp2_with (go_at_call 31; refine (HI.out _).mono ?_; rintro e w' ⟨rfl, rfl⟩)
            -- STOP-d1
            go_ret2
            exact rkPost_nil (HXN.out (by rw [HE5.out]; decide)) HE5.out HBW.out
          · go_wp2_with (go_at_call 31; refine (HI.out _).mono ?_; rintro e w' ⟨rfl, rfl⟩)
            -- STOP-e1
            go_roundw
            case rel => exact ⟨i + 1, by omega, by go_num, by rw [if_neg (by omega)], hid (fun y hy => by
              rw [HTS.out] at hy
              rcases List.mem_append.1 hy with q | q
              · exact HG.out y q
              · rw [List.mem_singleton.1 q]; exact ⟨HQ.out, HIB.out.1 (by first | trivial | rfl)⟩), by first | trivial | rfl⟩
            case measure => simp [intOf]; omega
        · have t3 : ((xr.length : Int) != (yr.length : Int)) = true := by simp [hq]
          have HE5 := hid (HF5.out (.inl hq))
          clear hq
          go_wp2_with (go_at_call 31; refine (HI.out _).mono ?_; rintro e w' ⟨rfl, rfl⟩)
          go_ret2
          exact rkPost_nil (HXN.out (by rw [HE5.out]; decide)) HE5.out HBW.out
    · have t1 : ((i : Int) < (M.length : Int)) = False := eq_false (by omega)
      have hiM : i = M.length := by omega
      have hs9 : (if i = 0 then (8 : Int) else W) = W := by
        by_cases q : i = 0
        · rw [if_pos q, HWN.out (by omega)]
        · rw [if_neg q]
      rw [hs9]
      have HALL := hid (show ∀ x ∈ M, (x.row.length : Int) = W ∧ 0 ≤ x.n ∧ x.n ≤ 400 from fun x hx => HG.out x (by rw [hiM, List.take_length]; exact hx))
      clear hs9 hiM HG HEF HW0 HWN
      have HALLI := hid (show ∀ x ∈ its M, (x.1.length : Int) = W ∧ 0 ≤ x.2 ∧ x.2 ≤ 400 from fun x hx => by obtain ⟨y, hy, rfl⟩ := List.mem_map.1 hx; exact HALL.out y hy)
      replace HE1 := hid (HE1.out (by first | trivial | rfl) HALLI.out)
      replace HE0 := hid (HE0.out (by first | trivial | rfl) HALLI.out)
      have HN1 := hid (fun h : E = 1 => show RkPost X E w (.returned (.tuple #[.slice none 0 0, .int .i64 1])) wr from rkPost_nil (HXN.out (by rw [h]; decide)) h HBW.out)
      by_cases q8 : 8 < bs.length
      · have t3 : ((8 : Int) < (bs.length : Int)) = True := eq_true (by omega)
        have HEE := hid (HE1.out (.inl q8))
        clear q8
        go_wp2_with fail
        -- STOP-f
        go_ret2
        exact HN1.out HEE.out
      have t3 : ((8 : Int) < (bs.length : Int)) = False := eq_false (by omega)
      have hb8 : bs.length ≤ 8 := by omega
      have HI : Hid (∀ w1, Calls Tryd.prog 31 #[.int .i64 most, .int .i64 0, .int .i64 400] w1 fun e w' => e = .returned (.bool (inB most 0 400)) ∧ w1 = w') := hid (fun w1 => in_any most 0 400 w1)
      have HIB := hid (show inB most 0 400 = true ↔ 0 ≤ most ∧ most ≤ 400 by unfold inB; simp)
      obtain ⟨B, hB⟩ : ∃ q, q = inB most 0 400 := ⟨_, rfl⟩
      rw [← hB] at HI HIB
      clear hB q8
      cases B
      · have HEE := hid (HE1.out (by
          have h : ¬ (0 ≤ most ∧ most ≤ 400) := fun q => by have h := HIB.out.2 q; first | (exact absurd h (by decide)) | cases h
          by_cases q : most < 0
          · exact .inr (.inl q)
          · exact .inr (.inr (.inl (by omega)))))
        go_wp2_with (go_at_call 31; refine (HI.out _).mono ?_; rintro e w' ⟨rfl, rfl⟩)
        -- STOP-g
        go_ret2
        exact HN1.out HEE.out
      have hm4 : 0 ≤ most ∧ most ≤ 400 := HIB.out.1 (by first | trivial | rfl)
      clear HIB
      go_wp2_with (go_at_call 31; refine (HI.out _).mono ?_; rintro e w' ⟨rfl, rfl⟩)
      -- STOP-h
      obtain ⟨wa, hwa⟩ : ∃ q : World, q = wr := ⟨_, rfl⟩
      rw [← hwa] at HBW HN1 ⊢
      clear hwa HI t3
      have hw1 : IntKind.i64.wrap (-W) = -W := IntWalk.i64_in _ (by omega)
      go_loopw [11] (fun s11 wr => ∃ k : Nat, k ≤ bs.length ∧ s11 = .int .i64 k ∧ Hid (∀ n ∈ bs.take k, n ≠ 0 ∧ -W ≤ n ∧ n ≤ W) ∧ wr = wa) (fun s11 _ => bs.length - (intOf s11).toNat)
      case atStart => exact ⟨0, by omega, rfl, hid (fun x hx => by simp at hx), rfl⟩
      case round =>
        obtain ⟨k, hk, rfl, HGK, rfl⟩ := hrel
        by_cases hlk : k < bs.length
        · have t4 : ((k : Int) < (bs.length : Int)) = True := eq_true (by omega)
          have HTS := hid (List.take_succ_eq_append_getElem hlk)
          have HMM := hid (List.getElem_mem hlk)
          obtain ⟨bb, ob, rfl, hbb, c0⟩ := (HBS.out.step HBW.out).int' hlk
          generalize bs[k] = n at *
          by_cases hn0 : n = 0
          · have t5 : (n == 0) = true := by simp [hn0]
            have HEE := hid (HE1.out (.inr (.inr (.inr ⟨n, HMM.out, .inl hn0⟩))))
            clear hn0
            go_wp2_with fail
            -- STOP-i
            go_ret2
            exact HN1.out HEE.out
          have t5 : (n == 0) = false := by simp [hn0]
          have HN0 := hid hn0
          have HI : Hid (∀ w1, Calls Tryd.prog 31 #[.int .i64 n, .int .i64 (-W), .int .i64 W] w1 fun e w' => e = .returned (.bool (inB n (-W) W)) ∧ w1 = w') := hid (fun w1 => in_any n (-W) W w1)
          have HIB := hid (show inB n (-W) W = true ↔ -W ≤ n ∧ n ≤ W by unfold inB; simp)
          obtain ⟨B, hB⟩ : ∃ q, q = inB n (-W) W := ⟨_, rfl⟩
          rw [← hB] at HI HIB
          clear hB hn0
          cases B
          · have HEE := hid (HE1.out (.inr (.inr (.inr ⟨n, HMM.out, by
              have h : ¬ (-W ≤ n ∧ n ≤ W) := fun q => by have h := HIB.out.2 q; first | (exact absurd h (by decide)) | cases h
              by_cases q : n < -W
              · exact .inr (.inl q)
              · exact .inr (.inr (by omega))⟩))))
            go_wp2_with (go_at_call 31; refine (HI.out _).mono ?_; rintro e w' ⟨rfl, rfl⟩)
            -- STOP-j
            go_ret2
            exact HN1.out HEE.out
          · go_wp2_with (go_at_call 31; refine (HI.out _).mono ?_; rintro e w' ⟨rfl, rfl⟩)
            -- STOP-k
            go_roundw
            case rel => exact ⟨k + 1, by omega, by go_num, hid (fun y hy => by
              rw [HTS.out] at hy
              rcases List.mem_append.1 hy with q | q
              · exact HGK.out y q
              · rw [List.mem_singleton.1 q]; exact ⟨HN0.out, HIB.out.1 (by first | trivial | rfl)⟩), by first | trivial | rfl⟩
            case measure => simp [intOf]; omega
        · have t4 : ((k : Int) < (bs.length : Int)) = False := eq_false (by omega)
          have HBY := hid (show ∀ n ∈ bs, n ≠ 0 ∧ -W ≤ n ∧ n ≤ W from fun n hn => HGK.out n (by rw [List.take_of_length_le (by omega)]; exact hn))
          have HEZ := hid (HE0.out hb8 hm4 HBY.out)
          have HXI' := hid (HXI.out HEZ.out)
          clear HE0 HE1 HN1 HXN HXI HGK hlk
          obtain ⟨wb, hwb⟩ : ∃ q : World, q = wr := ⟨_, rfl⟩
          rw [← hwb] at HBW ⊢
          clear hwb hw1
          go_wp2_with fail
          -- STOP-l
          have hL0 : (0 : Int) ≤ (M.length : Int) := by omega
          go_loopw [12, 13] (fun s12 s13 wr => ∃ (i : Nat) (L : List IR), i ≤ M.length ∧ s13 = .int .i64 i ∧ L.length ≤ i * 400 ∧ Hid (nrows L = insA bs ((its M).take i)) ∧ Hid (wr.ownsRow w.heap.size 23 1 s12 L.length (kcells L)) ∧ Hid (RowsNew wr w.heap.size s12 L) ∧ Hid (∀ y ∈ L, (y.row.length : Int) = W) ∧ Hid (Below w.heap.size w wr)) (fun _ s13 _ => M.length - (intOf s13).toNat)
          case atStart => exact ⟨0, [], by omega, rfl, by simp, hid rfl, hid (World.ownsRow_nil _ _ _ _), hid (RowsNew.nil _ _ _), hid (fun y hy => by simp at hy), HBW⟩
          case round =>
            obtain ⟨i, L, hi, rfl, hLl, HNR, HOWN, HNEW, HLW, HB⟩ := hrel
            obtain ⟨wo, rfl⟩ : ∃ wx : World, wx = wr := ⟨_, rfl⟩
            obtain ⟨A6, c6, rfl⟩ := own_formS HOWN.out
            by_cases hlt : i < M.length
            · have t5 : ((i : Int) < (M.length : Int)) = True := eq_true (by omega)
              have HIS := hid (show insA bs ((its M).take (i + 1)) = insK bs (insA bs ((its M).take i)) M[i].row M[i].n.toNat from by
                rw [insA_snoc bs (its M) i (by rw [its_len]; exact hlt)]
                have : (its M)[i]'(by rw [its_len]; exact hlt) = M[i].it := by simp [its]
                rw [this]; rfl)
              obtain ⟨hxW, hx0, hx4⟩ := HALL.out _ (List.getElem_mem hlt)
              have HXR := hid ((HR.out.2 _ (List.getElem_mem hlt)).1)
              have HCL := hid (fun (w1 : World) (hb : Below w.heap.size w w1) => (HR.out.step hb).1.it hlt)
              obtain ⟨b, off, hA, hb, e0, e1⟩ := HCL.out wo HB.out
              have HC0 := hid (fun (w1 : World) (hb : Below w.heap.size w w1) => show w1.cell? ⟨b, off + i * 2, none⟩ = some (.slice M[i].A M[i].row.length M[i].k) ∧ w1.cell? ⟨b, off + i * 2 + 1, none⟩ = some (.int .i64 M[i].n) from by
                obtain ⟨b', off', e, h1, h2, h3⟩ := HCL.out w1 hb
                rw [hA] at e
                injection e with e; injection e with e1 e2
                subst e1 e2; exact ⟨h2, h3⟩)
              subst hA
              clear HCL
              generalize M[i] = x at *
              obtain ⟨xr, xA, xk, xn⟩ := x
              simp only at HIS hxW hx0 hx4 HXR e0 e1 HC0
              obtain ⟨nn, rfl⟩ : ∃ nn : Nat, xn = (nn : Int) := ⟨xn.toNat, by omega⟩
              rw [show ((nn : Int)).toNat = nn by omega] at HIS
              have hby : ByOk xr.length bs := fun k hk => by have := HBY.out k hk; omega
              have hHA := fun (y : IR) (hy : y ∈ L) (w1 : World) (hb : Below wo.heap.size wo w1) => ahead_any bs xr y.row _ xA y.A bc xk y.k w1 (HBS.out.step (Below.step' HB.out hb)) hbl (HXR.out.step (Below.step' HB.out hb)) (by omega) ((HNEW.out.rows y hy).1.step hb) (by have := HLW.out y hy; omega) hby
              have HAH := hid hHA
              clear hHA hby
              go_upto_block 6 with fail
              -- STOP-m
              go_cut [14] from 87 to 106 (fun s14 wx => s14 = .int .i64 ((atR bs xr (nrows L) : Nat) : Int) ∧ Below wo.heap.size wo wx)
              case first =>
                go_wp2_with fail
                go_loopw [14] (fun s14 wx => ∃ a : Nat, a ≤ L.length ∧ s14 = .int .i64 a ∧ Hid (∀ j (h : j < (nrows L).length), j < a → nahB bs xr (nrows L)[j] = true) ∧ Hid (Below wo.heap.size wo wx)) (fun s14 _ => L.length - (intOf s14).toNat)
                case atStart => exact ⟨0, by omega, rfl, hid (fun j h hj => by omega), hid (Below.refl _ _)⟩
                case round =>
                  obtain ⟨a, ha, rfl, HNA, HBX⟩ := hrel
                  obtain ⟨wx, rfl⟩ : ∃ q : World, q = wr := ⟨_, rfl⟩
                  have HBW2 := hid (Below.step' HB.out HBX.out)
                  obtain ⟨d0, -⟩ := HC0.out wx HBW2.out
                  have hbx : b < wx.heap.size := Nat.lt_of_lt_of_le hb HBX.out.size
                  by_cases hla : a < L.length
                  · have t6 : ((a : Int) < (L.length : Int)) = True := eq_true (by omega)
                    obtain ⟨ob, oo, rfl, hob, g0⟩ := ((Row.of_ownS HOWN.out).step HBX.out).krow hla
                    have HAC := hid (fun (w1 : World) (hb : Below wx.heap.size wx w1) => HAH.out _ (List.getElem_mem hla) w1 (Below.step' HBX.out hb))
                    have HJ := hid (show ∀ j (h : j < (nrows L).length), j = a → (nrows L)[j] = L[a].row from fun j h e => by subst e; simp [nrows])
                    generalize L[a] = y at *
                    obtain ⟨yr, yA, yk, yn⟩ := y
                    simp only at g0 HAC HJ
                    obtain ⟨G, hG⟩ : ∃ q, q = decide (cmpBy bs xr yr < 0) := ⟨_, rfl⟩
                    rw [← hG] at HAC
                    have HGG := hid hG
                    clear hG
                    cases G
                    · go_wp2_with fail
                      -- STOP-n
                      refine region_ext (by kernel_rfl) (by kernel_rfl) (fun hext => ?_)
                      repeat (any_goals ((with_reducible refine wpQuiet_step (fun K hK => ?_)); go_simp; first | (with_reducible refine hK _ ?_; clear hK K) | ((with_reducible apply Exists.intro); (with_reducible refine ⟨fun _ => ?_, hK _ ?_⟩); ((go_at_call 32; (with_reducible refine ext_call _ ?_ (HAC.out _ (Ext.below _))); simp)); clear hK K) | ((with_reducible refine (if_neg ?_).mpr (hK _ ?_)); (decide); clear hK K) | (split <;> (with_reducible refine hK _ ?_; clear hK K))))
                      all_goals ((with_reducible refine wpQuiet_nil ?_); clear hext; intro w1 hx1; have hb1 := ext_below hx1; clear hx1)
                      have HB1 := hid (Below.step' HBX.out hb1)
                      clear hb1
                      go_wp2_with fail
                      go_roundw
                      case rel =>
                        refine ⟨a + 1, by omega, by go_num, hid (fun j h hj => ?_), HB1⟩
                        by_cases e : j = a
                        · rw [HJ.out j h e]
                          have := HGG.out
                          unfold nahB
                          rw [decide_eq_true_eq]
                          have := of_decide_eq_false this.symm
                          omega
                        · exact HNA.out j h (by omega)
                      case measure => simp [intOf]; omega
                    · go_wp2_with fail
                      refine region_ext (by kernel_rfl) (by kernel_rfl) (fun hext => ?_)
                      repeat (any_goals ((with_reducible refine wpQuiet_step (fun K hK => ?_)); go_simp; first | (with_reducible refine hK _ ?_; clear hK K) | ((with_reducible apply Exists.intro); (with_reducible refine ⟨fun _ => ?_, hK _ ?_⟩); ((go_at_call 32; (with_reducible refine ext_call _ ?_ (HAC.out _ (Ext.below _))); simp)); clear hK K) | ((with_reducible refine (if_neg ?_).mpr (hK _ ?_)); (decide); clear hK K) | (split <;> (with_reducible refine hK _ ?_; clear hK K))))
                      all_goals ((with_reducible refine wpQuiet_nil ?_); clear hext; intro w1 hx1; have hb1 := ext_below hx1; clear hx1)
                      have HB1 := hid (Below.step' HBX.out hb1)
                      have hat := atR_is bs xr (nrows L) a (by rw [List.length_map]; exact ha) HNA.out (fun h => by
                        rw [HJ.out a h rfl]
                        have := of_decide_eq_true HGG.out.symm
                        unfold nahB
                        rw [decide_eq_false_iff_not]
                        omega)
                      have HAT := hid hat
                      clear hb1 hat
                      go_wp2_with fail
                      -- STOP-o
                      go_meet
                      case rel => exact ⟨by rw [HAT.out], HB1.out⟩
                  · have t6 : ((a : Int) < (L.length : Int)) = False := eq_false (by omega)
                    have hat := atR_is bs xr (nrows L) a (by rw [List.length_map]; exact ha) HNA.out (fun h => by rw [List.length_map] at h; omega)
                    have HAT := hid hat
                    clear hat
                    go_wp2_with fail
                    refine wp_region_quiet_lit (by kernel_rfl) (by kernel_rfl) ?_
                    repeat (any_goals ((with_reducible refine wpQuiet_step (fun K hK => ?_)); go_simp; first | (with_reducible refine hK _ ?_; clear hK K) | ((with_reducible apply Exists.intro); (with_reducible refine ⟨fun _ => ?_, hK _ ?_⟩); (fail); clear hK K) | ((with_reducible refine (if_neg ?_).mpr (hK _ ?_)); (decide); clear hK K) | (split <;> (with_reducible refine hK _ ?_; clear hK K))))
                    all_goals ((with_reducible refine wpQuiet_nil ?_); intro _ hw'; obtain ⟨nq, hw''⟩ := hw'; subst hw'')
                    go_wp2_with fail
                    -- STOP-p
                    go_meet
                    case rel => exact ⟨by rw [HAT.out], below_drewN HBX.out _⟩
              case rest =>
                obtain ⟨rfl, hbc⟩ := hcut
                obtain ⟨wd, rfl⟩ : ∃ q : World, q = wc := ⟨_, rfl⟩
                have HBD := hid (Below.step' HB.out hbc)
                have HOD := hid (own_laterS HOWN.out hbc)
                have HND := hid (HNEW.out.step hbc)
                have hat := atR_le bs xr (nrows L)
                rw [List.length_map] at hat
                obtain ⟨at', hAT⟩ : ∃ q, q = atR bs xr (nrows L) := ⟨_, rfl⟩
                rw [← hAT] at hat ⊢
                have HAT := hid hAT
                have hLM : L.length ≤ 160000 := Nat.le_trans hLl (by omega)
                clear hAT hbc HAH HOWN HNEW e0 e1
                go_wp2_with fail
                -- STOP-q
                go_loopw [12, 15] (fun s12 s15 wr => ∃ (k : Nat) (L2 : List IR), k ≤ nn ∧ s15 = .int .i64 k ∧ L2.length ≤ L.length + k ∧ L.length ≤ L2.length ∧ Hid (nrows L2 = insK bs (nrows L) xr k) ∧ Hid (wr.ownsRow w.heap.size 23 1 s12 L2.length (kcells L2)) ∧ Hid (RowsNew wr w.heap.size s12 L2) ∧ Hid (∀ y ∈ L2, (y.row.length : Int) = W) ∧ Hid (Below w.heap.size w wr)) (fun _ s15 _ => nn - (intOf s15).toNat)
                case atStart => exact ⟨0, L, by omega, rfl, by omega, by omega, hid (insK_zero _ _ _).symm, HOD, HND, HLW, HBD⟩
                case round =>
                  obtain ⟨k, L2, hk, rfl, hl1, hl2, HKR, HOK2, HNK, HLK, HBK⟩ := hrel
                  obtain ⟨wi, rfl⟩ : ∃ q : World, q = wr := ⟨_, rfl⟩
                  obtain ⟨A7, c7, rfl⟩ := own_formS HOK2.out
                  obtain ⟨d0, d1⟩ := HC0.out wi HBK.out
                  have hzi : w.heap.size ≤ wi.heap.size := HBK.out.size
                  by_cases hkn : k < nn
                  · have t7 : ((k : Int) < (nn : Int)) = True := eq_true (by omega)
                    have HXI := hid (HXR.out.step HBK.out)
                    have hil : (icells' xr).length = xr.length * 1 := by rw [List.length_map, Nat.mul_one]
                    have hi1 : ∀ u ∈ icells' xr, u.oneCell' = true := fun u hu => by
                      obtain ⟨n, -, rfl⟩ := List.mem_map.1 hu
                      rfl
                    go_wp2_with (at_builtin; refine wpList_append_row elem_int rfl _ _ rfl wi.heap.size (.slice none 0 0) 0 [] rfl (World.ownsRow_nil _ _ _ _) xA xr.length xk wi.heap.size (icells' xr) rfl hil HXI.out hi1 ?_ ?_ ?_ ?_; rotate_right; intro v8 w8 hown8 hg8 hif8; rw [Nat.zero_add, List.nil_append] at hown8; obtain ⟨A8, c8, rfl⟩ := own_formS hown8; have hb8' : Below wi.heap.size wi w8 := (Below.refl _ _).grown hg8 (Nat.le_refl _) (fun g e => nomatch e); rotate_left; (simp only [maxLen]; omega); (omega); (omega))
                    -- STOP-r
                    obtain ⟨W9, hW9⟩ : ∃ q : World, q = w8.alloc (.cells #[.slice A8 xr.length c8] 23) := ⟨_, rfl⟩
                    have hb89 : Below w8.heap.size w8 W9 := by rw [hW9]; exact alloc_below (Below.refl _ _) _
                    have hb9 : Below wi.heap.size wi W9 := Below.step' hb8' hb89
                    have hx9 : Blk W9 w8.heap.size #[.slice A8 xr.length c8] 23 := by rw [hW9]; exact Blk.new _ _ _
                    have hz8 : wi.heap.size ≤ w8.heap.size := hb8'.size
                    have hz9 : W9.heap.size = w8.heap.size + 1 := by rw [hW9]; simp
                    have hHC := insert_any w.heap.size L2.length c7 at' w8.heap.size A7 (kcells L2) (.slice A8 xr.length c8) W9 (own_laterS HOK2.out hb9) (by omega) (by omega) (by omega) hx9 rfl (fun g e => by have := (HOK2.out.lt g e).2; omega) (kcells_one L2)
                    have HHC := hid hHC
                    have HRO := hid ((RowOwn.of_own hown8 rfl).step hb89)
                    have HN8 := hid (own_newS hown8 (Nat.le_refl _))
                    have HL8 := hid (fun b off q (e : A8 = some ⟨b, off, q⟩) => show b < w8.heap.size from (hown8.lt b (by rw [e]; rfl)).2)
                    have HB9 := hid hb9
                    have HZ9 := hid hz9
                    rw [← hW9]
                    clear hW9 hb89 hb9 hx9 hHC hown8 hg8 hif8 hb8' hz9
                    refine HHC.out.mono ?_
                    rintro e w9 ⟨A9, c9, rfl, hown9, hg9, hif9⟩
                    have HO9 := hid hown9
                    have HG9 := hid hg9
                    have HIF := hid hif9
                    clear hown9 hg9 hif9 HHC
                    go_wp2_with fail
                    -- STOP-s
                    go_roundw
                    case rel =>
                      have hne8 : ∀ b off q, A8 = some ⟨b, off, q⟩ → some b ≠ (Value.slice A7 L2.length c7).ownBlock := fun b off q e e2 => by
                        have q1 := HN8.out b off q e
                        have q2 := (HOK2.out.lt b e2.symm).2
                        omega
                      have hNA := (HNK.out.step HB9.out).grown HG9.out HIF.out
                      have hRA := HRO.out.grown_ne (Nat.le_refl _) HG9.out hne8
                      have hlen : (L2.take at' ++ ([(⟨xr, A8, c8, 0⟩ : IR)] ++ L2.drop at')).length = L2.length + 1 := by
                        rw [List.length_append, List.length_append, List.length_take, List.length_drop, List.length_singleton]; omega
                      refine ⟨k + 1, L2.take at' ++ ([⟨xr, A8, c8, 0⟩] ++ L2.drop at'), by omega, by go_num, by rw [hlen]; omega, by rw [hlen]; omega, hid ?_, hid ?_, hid ?_, hid ?_, hid ?_⟩
                      · have h := insK_succ bs xr (nrows L) k
                        rw [← HKR.out, ← HAT.out] at h
                        rw [← h]
                        simp only [nrows, List.map_append, List.map_take, List.map_drop, List.map_singleton]
                      · rw [hlen, ← kcells_ins]
                        exact HO9.out
                      · refine hNA.ins at' (x := (⟨xr, A8, c8, 0⟩ : IR)) hRA (fun b off q e => by have := HN8.out b off q e; omega) (fun b off q e => ?_) (by simp only; omega)
                        have h1 := HL8.out b off q e
                        have h2 := HG9.out.size
                        have h3 := HZ9.out
                        refine ⟨?_, by omega⟩
                        rcases HIF.out with h | h
                        · rw [h]; exact hne8 b off q e
                        · rw [h]; intro e2; injection e2 with e2; omega
                      · intro y hy
                        rcases List.mem_append.1 hy with q | q
                        · exact HLK.out y (List.mem_of_mem_take q)
                        · rcases List.mem_append.1 q with q | q
                          · rw [List.mem_singleton.1 q]; exact hxW
                          · exact HLK.out y (List.mem_of_mem_drop q)
                      · exact (Below.step' HBK.out HB9.out).grown HG9.out (Below.step' HBK.out HB9.out).size (fun g e => (HOK2.out.lt g e).1)
                    case measure => simp [intOf]; omega
                  · have t7 : ((k : Int) < (nn : Int)) = False := eq_false (by omega)
                    have hkk : k = nn := by omega
                    have HKK := hid hkk
                    clear hkk
                    go_wp2_with fail
                    -- STOP-t
                    go_roundw
                    case rel =>
                      refine ⟨i + 1, L2, by omega, by go_num, by omega, hid ?_, HOK2, HNK, HLK, HBK⟩
                      rw [HKR.out, HIS.out, HNR.out, HKK.out]
                    case measure => simp [intOf]; omega
            · have t5 : ((i : Int) < (M.length : Int)) = False := eq_false (by omega)
              have HNX := hid (show nrows L = insA bs (its M) by rw [HNR.out, List.take_of_length_le (by rw [its_len]; omega)])
              have hLM : L.length ≤ 160000 := Nat.le_trans hLl (by omega)
              obtain ⟨mn, rfl⟩ : ∃ mn : Nat, most = (mn : Int) := ⟨most.toNat, by omega⟩
              have HXM := hid (show nrows (L.take mn) = X by rw [HXI'.out, show ((mn : Int)).toNat = mn by omega, ← HNX.out]; simp only [nrows, List.map_take])
              have HRW := hid (show Row wo wo.heap.size A6 (kcells (L.take mn)) from (Row.of_ownS HOWN.out).takeK mn)
              have HRA := hid (show RowsAt wo wo.heap.size (L.take mn) from HNEW.out.rows.sub fun x hx => List.mem_of_mem_take hx)
              have hcap := (own_capS' HOWN.out).1
              have hcap2 : c6 ≤ 9223372036854775807 := (own_capS' HOWN.out).2
              have hrow : A6 = none ∧ L.length = 0 ∧ c6 = 0 ∨ ∃ g, A6 = some ⟨g, 0, none⟩ := by
                rcases HOWN.out.2 with ⟨e1, h0⟩ | ⟨g, cap, cur, e1, -⟩
                · injection e1 with e1 e2 e3; exact .inl ⟨e1, h0, e3⟩
                · injection e1 with e1; exact .inr ⟨g, e1⟩
              have hx0 : (0 : Int) ≤ (mn : Int) := by omega
              have HFIN := hid (fun (v : Value) (h : v = .slice A6 (L.take mn).length c6) => show RkPost X E w (.returned (.tuple #[v, .int .i64 0])) wo from
                ⟨A6, c6, L.take mn, by rw [h, HEZ.out], HXM.out, HRW.out, HRA.out, by rw [List.length_take]; omega, HB.out⟩)
              clear HOWN HNEW HNR HXM HRW HRA HXI' HEZ
              by_cases hq : mn ≤ L.length
              · have hlt' : (L.take mn).length = mn := by rw [List.length_take]; omega
                have t6 : ((mn : Int) ≤ (L.length : Int)) = True := eq_true (by omega)
                have t7 : ((L.length : Int) < (mn : Int)) = False := eq_false (by omega)
                have t8 : ((mn : Int) ≤ (c6 : Int)) = True := eq_true (by omega)
                rw [hlt'] at HFIN
                clear hlt'
                rcases hrow with ⟨rfl, h0, rfl⟩ | ⟨g, rfl⟩
                · have hm0 : mn = 0 := by omega
                  subst hm0
                  go_wp2_with fail
                  -- STOP-u
                  go_ret2
                  exact HFIN.out _ rfl
                · go_wp2_with fail
                  -- STOP-v
                  go_ret2
                  exact HFIN.out _ (congrArg (fun n => Value.slice (some ⟨g, 0, none⟩) n c6) (show (min (mn : Int) (L.length : Int)).toNat = mn by omega))
              · have hlt' : (L.take mn).length = L.length := by rw [List.length_take]; omega
                have t6 : ((mn : Int) ≤ (L.length : Int)) = False := eq_false (by omega)
                have t7 : ((L.length : Int) < (mn : Int)) = True := eq_true (by omega)
                have t8 : ((L.length : Int) ≤ (c6 : Int)) = True := eq_true (by omega)
                rw [hlt'] at HFIN
                clear hlt'
                rcases hrow with ⟨rfl, h0, rfl⟩ | ⟨g, rfl⟩
                · have hL0 : L = [] := List.length_eq_zero_iff.1 h0
                  subst hL0
                  go_wp2_with fail
                  -- STOP-w
                  go_ret2
                  exact HFIN.out _ (congrArg (fun n => Value.slice none n 0) (show (min (mn : Int) 0).toNat = ([] : List IR).length by rw [List.length_nil]; omega))
                · go_wp2_with fail
                  -- STOP-x
                  go_ret2
                  exact HFIN.out _ (congrArg (fun n => Value.slice (some ⟨g, 0, none⟩) n c6) (show (min (mn : Int) (L.length : Int)).toNat = L.length by omega))
end Go.Proofs.YtldlmkfigjicgaaDoor
/- Numerals and names of rows: different ones read differently. No program in sight. -/
namespace Go.Proofs.YtldlmkfigjicgaaDoor
open Go Go.Lib
set_option linter.unusedVariables false
set_option linter.unusedSimpArgs false

/-- What a numeral says. -/
def decVal (l : List UInt8) : Nat := l.foldl (fun n b => n * 10 + (b.toNat - 48)) 0
theorem decVal_snoc (l : List UInt8) (b : UInt8) : decVal (l ++ [b]) = decVal l * 10 + (b.toNat - 48) := by simp [decVal]
theorem b8_digit (n : Nat) (h : n < 10) : (UInt8.ofNat (48 + n)).toNat = 48 + n := by rw [UInt8.toNat_ofNat']; exact Nat.mod_eq_of_lt (by omega)
theorem decDigits_small {u : Nat} (h : u < 10) : decDigits u = [UInt8.ofNat (48 + u)] := decDigits_one h
theorem decDigits_big {u : Nat} (h : ¬ u < 10) : decDigits u = decDigits (u / 10) ++ [UInt8.ofNat (48 + u % 10)] := by rw [decDigits, dif_neg h]
theorem decVal_digits (u : Nat) : decVal (decDigits u) = u := by
  induction u using Nat.strongRecOn with
  | ind u ih =>
    by_cases h : u < 10
    · rw [decDigits_small h]; simp only [decVal, List.foldl_cons, List.foldl_nil]; rw [b8_digit u h]; omega
    · rw [decDigits_big h, decVal_snoc, ih (u / 10) (by omega), b8_digit _ (Nat.mod_lt _ (by omega))]; omega
/-- All bytes of a numeral are digits. -/
theorem decDigits_all (u : Nat) : ∀ b ∈ decDigits u, 48 ≤ b.toNat ∧ b.toNat ≤ 57 := by
  induction u using Nat.strongRecOn with
  | ind u ih =>
    by_cases h : u < 10
    · rw [decDigits_small h]; intro b hb; rw [List.mem_singleton.1 hb, b8_digit u h]; omega
    · rw [decDigits_big h]
      intro b hb
      rcases List.mem_append.1 hb with hb | hb
      · exact ih (u / 10) (by omega) b hb
      · rw [List.mem_singleton.1 hb, b8_digit _ (Nat.mod_lt _ (by omega))]; omega
theorem decDigits_inj {u v : Nat} (h : decDigits u = decDigits v) : u = v := by rw [← decVal_digits u, h, decVal_digits]
theorem itoa_inj {n m : Int} (h : itoa n = itoa m) : n = m := by
  unfold itoa at h
  have hn : ∀ u l, decDigits u ≠ 45 :: l := fun u l e => by
    have := decDigits_all u 45 (by rw [e]; exact List.mem_cons_self ..)
    exact absurd this.1 (by decide)
  split at h <;> split at h
  · injection h with _ h; have := decDigits_inj h; omega
  · exact absurd h.symm (hn _ _)
  · exact absurd h (hn _ _)
  · have := decDigits_inj h; omega
theorem itoa_no_comma (n : Int) : ∀ b ∈ itoa n, b ≠ 44 := by
  intro b hb e
  subst e
  unfold itoa at hb
  split at hb
  · rcases List.mem_cons.1 hb with hb | hb
    · exact absurd hb (by decide)
    · exact absurd (decDigits_all _ _ hb).1 (by decide)
  · exact absurd (decDigits_all _ _ hb).1 (by decide)
/-- The name of a row: its numbers, each with a comma behind it. -/
def nameB : List Int → List UInt8
  | [] => []
  | n :: l => itoa n ++ 44 :: nameB l
theorem comma_split {a b c d : List UInt8} (ha : ∀ x ∈ a, x ≠ 44) (hc : ∀ x ∈ c, x ≠ 44) (h : a ++ 44 :: b = c ++ 44 :: d) : a = c ∧ b = d := by
  induction a generalizing c with
  | nil =>
    cases c with
    | nil => injection h with _ h; exact ⟨rfl, h⟩
    | cons x c => injection h with e _; exact absurd e.symm (hc x (List.mem_cons_self ..))
  | cons y a ih =>
    cases c with
    | nil => injection h with e _; exact absurd e (ha y (List.mem_cons_self ..))
    | cons x c =>
      injection h with e h
      obtain ⟨e1, e2⟩ := ih (fun z hz => ha z (List.mem_cons_of_mem _ hz)) (fun z hz => hc z (List.mem_cons_of_mem _ hz)) h
      exact ⟨by rw [e, e1], e2⟩
theorem nameB_inj : ∀ {a b : List Int}, nameB a = nameB b → a = b
  | [], [], _ => rfl
  | [], y :: b, h => by simp only [nameB] at h; exact absurd (congrArg List.length h) (by simp)
  | x :: a, [], h => by simp only [nameB] at h; exact absurd (congrArg List.length h) (by simp)
  | x :: a, y :: b, h => by
    simp only [nameB] at h
    obtain ⟨e1, e2⟩ := comma_split (itoa_no_comma x) (itoa_no_comma y) h
    rw [itoa_inj e1, nameB_inj e2]
end Go.Proofs.YtldlmkfigjicgaaDoor
/- Lists of bytes as strings. No program in sight. -/
namespace Go.Proofs.YtldlmkfigjicgaaDoor
abbrev bstr (l : List UInt8) : ByteArray := ⟨l.toArray⟩
theorem bstr_app (a b : List UInt8) : bstr a ++ bstr b = bstr (a ++ b) := by
  apply ByteArray.ext
  rw [ByteArray.data_append]
  simp
theorem bstr_size (a : List UInt8) : (bstr a).size = a.length := rfl
end Go.Proofs.YtldlmkfigjicgaaDoor
/- Maps of sums, by rows' names. -/
namespace Go.Proofs.YtldlmkfigjicgaaDoor
set_option linter.unusedVariables false
set_option linter.unusedSimpArgs false
open Go.ChangeShapes Go.WideShapes Go.ChangeAt Go.RowKit

/-- What a row's name is as a key. -/
abbrev kN (r : List Int) : Lit := .string (nameB r)
theorem kN_ne {a b : List Int} (h : a ≠ b) : kN a ≠ kN b := fun e => h (nameB_inj (by injection e))
theorem isKeyN (r : List Int) : WideAt.IsKeyLit (kN r) := trivial
/-- A map of sums: what it holds of each row. -/
def SMap (F : List Int → Int) (D : DataW Unit) : Prop := Maps.IsMap D ∧ ∀ r, D.atKey (kN r) (.lit (.int .i64 0)) = .lit (.int .i64 (F r))
theorem SMap.nil : SMap (fun _ => 0) (.map []) := ⟨Maps.isMap_empty, fun r => rfl⟩
theorem SMap.put {F G : List Int → Int} {D : DataW Unit} (h : SMap F D) (r : List Int) (v : Int) (hG : ∀ q, G q = if q = r then v else F q) : SMap G (D.put (kN r) (.lit (.int .i64 v))) := by
  refine ⟨h.1.put _ _, fun q => ?_⟩
  by_cases e : q = r
  · subst e
    rw [hG, if_pos rfl]
    exact Maps.atKey_put_same h.1 (isKeyN _) _ _
  · rw [hG, if_neg e, Maps.atKey_put_other (kN_ne e)]
    exact h.2 q
theorem SMap.at {F : List Int → Int} {D : DataW Unit} (h : SMap F D) {r : List Int} {c : Int} (hc : D.atKey (kN r) (.lit (.int .i64 0)) = .lit (.int .i64 c)) : c = F r := by
  rw [h.2 r] at hc
  injection hc with hc
  injection hc with _ hc
  exact hc.symm
end Go.Proofs.YtldlmkfigjicgaaDoor
/-
  DERIVED: THE SHELF's CONTRACTS AT THIS DUMP, IN PLAIN WORDS (tools/lay-plain.mjs out of 'YtldlmkfigjicgaaDoorShelfR.lean', which tools/lay-shelf.mjs wrote): THE SAME DECLARATIONS UNDER THE SAME NAMES: 'import', 'namespace', 'open', 'def', 'theorem' AND NOTHING ELSE: no command of the shelf's: FOR A HAND-IN. Each laying: the table of numbers ('.._ren') and one theorem, a field a fact of the dump's own or the kernel's comparison; each contract: ONE APPLICATION.
-/
namespace Go.Proofs
open Go.Shelf
def Tryd.itoaL_ren : Go.Shelf.Ren := ⟨fun | 171 => 34 | 243 => 61 | 246 => 84 | 283 => 107 | 284 => 108 | 285 => 109 | 286 => 110 | 129 => 81 | 317 => 125 | 318 => 126 | 319 => 127 | 320 => 128 | 337 => 133 | 338 => 134 | n => n, fun | 3 => 3 | 9 => 9 | 2 => 2 | 4 => 4 | 171 => 142 | 0 => 0 | 53 => 118 | 37 => 144 | 5 => 5 | 173 => 145 | 212 => 160 | 51 => 116 | 20 => 20 | 213 => 161 | 46 => 96 | 232 => 163 | 233 => 164 | n => n, fun | 17 => 0 | 18 => 1 | 19 => 2 | n => n⟩
theorem Tryd.itoaL : Go.Proofs.LaysM.n171 Tryd.prog Tryd.itoaL_ren := {
  mixed := by kernel_rfl
  f129 := Tryd.func81.trans (congrArg some (by kernel_rfl))
  f171 := Tryd.func34.trans (congrArg some (by kernel_rfl))
  f243 := Tryd.func61.trans (congrArg some (by kernel_rfl))
  f246 := Tryd.func84.trans (congrArg some (by kernel_rfl))
  f283 := Tryd.func107.trans (congrArg some (by kernel_rfl))
  f284 := Tryd.func108.trans (congrArg some (by kernel_rfl))
  f285 := Tryd.func109.trans (congrArg some (by kernel_rfl))
  f286 := Tryd.func110.trans (congrArg some (by kernel_rfl))
  f317 := Tryd.func125.trans (congrArg some (by kernel_rfl))
  f318 := Tryd.func126.trans (congrArg some (by kernel_rfl))
  f319 := Tryd.func127.trans (congrArg some (by kernel_rfl))
  f320 := Tryd.func128.trans (congrArg some (by kernel_rfl))
  f337 := Tryd.func133.trans (congrArg some (by kernel_rfl))
  f338 := Tryd.func134.trans (congrArg some (by kernel_rfl))
  t0 := Tryd.underlying0
  a0 := Tryd.isAgg0
  z0 := Tryd.sizeOf0
  v0 := Tryd.zeroValue0
  t2 := Tryd.underlying2
  a2 := Tryd.isAgg2
  z2 := Tryd.sizeOf2
  v2 := Tryd.zeroValue2
  t3 := Tryd.underlying3
  a3 := Tryd.isAgg3
  z3 := Tryd.sizeOf3
  v3 := Tryd.zeroValue3
  t4 := Tryd.underlying4
  a4 := Tryd.isAgg4
  z4 := Tryd.sizeOf4
  v4 := Tryd.zeroValue4
  t5 := Tryd.underlying5
  a5 := Tryd.isAgg5
  z5 := Tryd.sizeOf5
  v5 := Tryd.zeroValue5
  t9 := Tryd.underlying9
  a9 := Tryd.isAgg9
  z9 := Tryd.sizeOf9
  v9 := Tryd.zeroValue9
  t20 := Tryd.underlying20
  a20 := Tryd.isAgg20
  z20 := Tryd.sizeOf20
  v20 := Tryd.zeroValue20
  t37 := Tryd.underlying144
  a37 := Tryd.isAgg144
  z37 := Tryd.sizeOf144
  v37 := Tryd.zeroValue144
  t46 := Tryd.underlying96
  a46 := Tryd.isAgg96
  z46 := Tryd.sizeOf96
  v46 := Tryd.zeroValue96
  t51 := Tryd.underlying116
  a51 := Tryd.isAgg116
  z51 := Tryd.sizeOf116
  v51 := Tryd.zeroValue116
  t53 := Tryd.underlying118
  a53 := Tryd.isAgg118
  z53 := Tryd.sizeOf118
  v53 := Tryd.zeroValue118
  t171 := Tryd.underlying142
  a171 := Tryd.isAgg142
  z171 := Tryd.sizeOf142
  v171 := Tryd.zeroValue142
  t173 := Tryd.underlying145
  a173 := Tryd.isAgg145
  z173 := Tryd.sizeOf145
  v173 := Tryd.zeroValue145
  t212 := Tryd.underlying160
  a212 := Tryd.isAgg160
  z212 := Tryd.sizeOf160
  v212 := Tryd.zeroValue160
  t213 := Tryd.underlying161
  a213 := Tryd.isAgg161
  z213 := Tryd.sizeOf161
  t232 := Tryd.underlying163
  a232 := Tryd.isAgg163
  z232 := Tryd.sizeOf163
  v232 := Tryd.zeroValue163
  t233 := Tryd.underlying164
  a233 := Tryd.isAgg164
  z233 := Tryd.sizeOf164
  v233 := Tryd.zeroValue164
  g17 := by kernel_rfl
  g18 := by kernel_rfl
  g19 := by kernel_rfl
  i0 := by kernel_rfl
  i2 := by kernel_rfl
  i3 := by kernel_rfl
  i4 := by kernel_rfl
  i5 := by kernel_rfl
  i9 := by kernel_rfl
  i20 := by kernel_rfl
  i37 := by kernel_rfl
  i46 := by kernel_rfl
  i51 := by kernel_rfl
  i53 := by kernel_rfl
  i171 := by kernel_rfl
  i173 := by kernel_rfl
  i212 := by kernel_rfl
  i232 := by kernel_rfl
  i233 := by kernel_rfl
  m17 := by kernel_rfl
  m18 := by kernel_rfl
  m19 := by kernel_rfl }
end Go.Proofs
/- viewref.name: a row's name. -/
namespace Go.Proofs.YtldlmkfigjicgaaDoor
set_option linter.unusedVariables false
set_option linter.unusedSimpArgs false
open Go.ChangeShapes Go.WideShapes Go.ChangeAt Go.RowKit

/-- The library's table of powers. -/
abbrev Pow (w : World) : Prop := Lib.TabIs Tryd.prog w "internal/strconv.uint64pow10" .u64 Lib.pow10Tab
theorem Pow.step {w w' : World} (h : Pow w) (hb : Below w.heap.size w w') : Pow w' := Lib.tabBelow_of_tabIs h w' hb
/-- Numbers as they may be. -/
def In64 (l : List Int) : Prop := ∀ n ∈ l, -9223372036854775808 ≤ n ∧ n ≤ 9223372036854775807
theorem itoa_le {n : Int} (h : -9223372036854775808 ≤ n ∧ n ≤ 9223372036854775807) : (Lib.itoa n).length ≤ 21 := Lib.itoa_length_le n h.1 h.2
theorem itoa_any (n : Int) (h : -9223372036854775808 ≤ n ∧ n ≤ 9223372036854775807) (w : World) (ht : Pow w) : Calls Tryd.prog 34 #[.int .i64 n] w fun e w' => e = .returned (.string (bstr (Lib.itoa n))) ∧ Below w.heap.size w w' :=
  (Any.strconv_Itoa Tryd.itoaL n h.1 h.2 w ht).mono fun e w' ⟨he, k, os, hw⟩ => ⟨he, by rw [hw]; exact Lib.below_grow w.heap.size w (Nat.le_refl _) k os⟩
end Go.Proofs.YtldlmkfigjicgaaDoor
