/- RnT, LinP, ZgP, PlQ, PlR, IncP, IncQ, RnE -/
import Derived.Test.YtldlmkfigjicgaaDoorRankSaysCardS06
/- rank.Print, viewref.RowsText: rows as a text. -/
namespace Go.Proofs.YtldlmkfigjicgaaDoor
set_option linter.unusedVariables false
set_option linter.unusedSimpArgs false
open Go.ChangeShapes Go.WideShapes Go.ChangeAt Go.RowKit

/-- A row's numbers with spaces between them. -/
def tailT : List Int → List UInt8
  | [] => []
  | n :: l => (32 :: Lib.itoa n) ++ tailT l
def rowT : List Int → List UInt8
  | [] => []
  | n :: l => Lib.itoa n ++ tailT l
def rowsT (L : List (List Int)) : List UInt8 := L.flatMap (fun r => rowT r ++ [10])
theorem tailT_snoc (l : List Int) (n : Int) : tailT (l ++ [n]) = tailT l ++ (32 :: Lib.itoa n) := by
  induction l with
  | nil => simp [tailT]
  | cons m l ih => simp only [List.cons_append, tailT, ih, List.append_assoc]
theorem rowT_snoc (l : List Int) (n : Int) : rowT (l ++ [n]) = if l.length = 0 then rowT l ++ Lib.itoa n else (rowT l ++ [32]) ++ Lib.itoa n := by
  cases l with
  | nil => simp [rowT, tailT]
  | cons m l => simp [rowT, tailT_snoc, List.append_assoc]
theorem tailT_len {l : List Int} (h : In64 l) : (tailT l).length ≤ 22 * l.length := by
  induction l with
  | nil => simp [tailT]
  | cons n l ih =>
    have h1 := itoa_le (h n (by simp))
    have h2 := ih fun m hm => h m (by simp [hm])
    simp only [tailT, List.length_append, List.length_cons]
    omega
theorem rowT_len {l : List Int} (h : In64 l) : (rowT l).length ≤ 22 * l.length := by
  cases l with
  | nil => simp [rowT]
  | cons n l =>
    have h1 := itoa_le (h n (by simp))
    have h2 := tailT_len (l := l) fun m hm => h m (by simp [hm])
    simp only [rowT, List.length_append, List.length_cons]
    omega
theorem rowsT_snoc (L : List (List Int)) (r : List Int) : rowsT (L ++ [r]) = rowsT L ++ (rowT r ++ [10]) := by unfold rowsT; rw [List.flatMap_append]; simp
/-- Rows as they may be printed. -/
structure PrOk (M : List IR) : Prop where
  len : M.length ≤ 400
  row : ∀ x ∈ M, x.row.length ≤ 8
  num : ∀ x ∈ M, In64 x.row
theorem rowsT_len {M : List IR} (h : PrOk M) (i : Nat) : (rowsT (nrows (M.take i))).length ≤ 177 * i := by
  induction i with
  | zero => simp [rowsT]
  | succ i ih =>
    by_cases hi : i < M.length
    · rw [List.take_succ_eq_append_getElem hi, nrows, List.map_append, List.map_singleton, rowsT_snoc, List.length_append, List.length_append]
      have h1 := rowT_len (h.num _ (List.getElem_mem hi))
      have h2 := h.row _ (List.getElem_mem hi)
      simp only [nrows, List.length_singleton] at ih ⊢
      omega
    · rw [List.take_of_length_le (by omega)]
      rw [List.take_of_length_le (by omega)] at ih
      omega
theorem Row.kr {w : World} {B : Nat} {A : Option Addr} {M : List IR} (h : Row w B A (kcells M)) {k : Nat} (hk : k < M.length) :
    ∃ b off, A = some ⟨b, off, none⟩ ∧ b < B ∧ w.cell? ⟨b, off + k, none⟩ = some (.slice M[k].A M[k].row.length M[k].k) := by
  obtain ⟨b, off, h1, h2, h3⟩ := Row.flat (f := fun x : IR => [Value.slice x.A x.row.length x.k]) (n := 1) (fun x => rfl) h (by omega) hk
  have := h3 0 _ rfl
  rw [Nat.mul_one, Nat.add_zero] at this
  exact ⟨b, off, h1, h2, this⟩
set_option maxHeartbeats 2000000 in
set_option maxRecDepth 100000 in
theorem rowsText_any (M : List IR) (A : Option Addr) (c : Nat) (w : World) (hr : Row w w.heap.size A (kcells M)) (hrs : RowsAt w w.heap.size M) (hok : PrOk M) (ht : Pow w) :
    Calls Tryd.prog 11 #[.slice A M.length c] w fun e w' => e = .returned (.string (bstr (rowsT (nrows M)))) ∧ Below w.heap.size w w' := by
  have HR := hid hr
  have HRS := hid hrs
  have HT := hid ht
  have HOK := hid hok
  have hML := hok.len
  have hsz := bstr_size
  have hap := bstr_app
  clear hr hrs ht hok
  go_enter Tryd.func11, Tryd.ntmps11
  go_wp2_with fail
  -- STOP-ta
  go_loopw [3, 4] (fun s3 si wr => ∃ i : Nat, i ≤ M.length ∧ si = .int .i64 i ∧ s3 = .string (bstr (rowsT (nrows (M.take i)))) ∧ Hid (Below w.heap.size w wr)) (fun _ si _ => M.length - (intOf si).toNat)
  case atStart => exact ⟨0, by omega, rfl, rfl, hid (Below.refl _ _)⟩
  case round =>
    obtain ⟨i, hi, rfl, rfl, HB⟩ := hrel
    obtain ⟨wo, rfl⟩ : ∃ wx : World, wx = wr := ⟨_, rfl⟩
    by_cases hlt : i < M.length
    · have t1 : ((i : Int) < (M.length : Int)) = True := eq_true (by omega)
      have HN := hid (show rowsT (nrows (M.take (i + 1))) = rowsT (nrows (M.take i)) ++ (rowT M[i].row ++ [10]) by rw [List.take_succ_eq_append_getElem hlt, nrows, List.map_append, List.map_singleton, rowsT_snoc])
      have hnl := rowsT_len HOK.out i
      have hx8 := HOK.out.row _ (List.getElem_mem hlt)
      have hin := HOK.out.num _ (List.getElem_mem hlt)
      have HXR := hid (HRS.out _ (List.getElem_mem hlt)).1
      have HCL := hid (fun (w1 : World) (hb : Below w.heap.size w w1) => Row.kr (HR.out.step hb) hlt)
      obtain ⟨b, off, rfl, hb, c0⟩ := (HR.out.step HB.out).kr hlt
      have HC0 := hid (fun (w1 : World) (hb : Below w.heap.size w w1) => show w1.cell? ⟨b, off + i, none⟩ = some (.slice M[i].A M[i].row.length M[i].k) from by
        obtain ⟨b', off', e, h1, h2⟩ := HCL.out w1 hb
        injection e with e; injection e with e1 e2
        subst e1 e2; exact h2)
      clear HCL
      generalize M[i] = x at *
      obtain ⟨xr, xA, xk, xn⟩ := x
      simp only at HN hx8 hin HXR c0 HC0
      obtain ⟨S, hS⟩ : ∃ S, S = rowsT (nrows (M.take i)) := ⟨_, rfl⟩
      rw [← hS] at HN hnl ⊢
      have hsl : S.length ≤ 80000 := by omega
      clear hS hnl
      go_wp2_with fail
      -- STOP-tb
      go_loopw [3, 5] (fun s3 sk wr => ∃ k : Nat, k ≤ xr.length ∧ sk = .int .i64 k ∧ s3 = .string (bstr (S ++ rowT (xr.take k))) ∧ Hid (Below w.heap.size w wr)) (fun _ sk _ => xr.length - (intOf sk).toNat)
      case atStart => exact ⟨0, by omega, rfl, by simp [rowT], HB⟩
      case round =>
        obtain ⟨k, hk, rfl, rfl, HB1⟩ := hrel
        have c1 := HC0.out _ HB1.out
        by_cases hlk : k < xr.length
        · have t2 : ((k : Int) < (xr.length : Int)) = True := eq_true (by omega)
          have HM := hid (show rowT (xr.take (k + 1)) = if k = 0 then rowT (xr.take k) ++ Lib.itoa xr[k] else (rowT (xr.take k) ++ [32]) ++ Lib.itoa xr[k] by
            rw [List.take_succ_eq_append_getElem hlk, rowT_snoc, List.length_take, Nat.min_eq_left (by omega)])
          have hrl : (rowT (xr.take k)).length ≤ 22 * 8 := by
            have h1 := rowT_len (l := xr.take k) (fun n hn => hin n (List.mem_of_mem_take hn))
            have h2 : (xr.take k).length ≤ 8 := by rw [List.length_take]; omega
            omega
          obtain ⟨bx, ox, rfl, hbx, c2⟩ := (HXR.out.step HB1.out).int' hlk
          have h64 := hin _ (List.getElem_mem hlk)
          have hil := itoa_le h64
          generalize xr[k] = n at *
          obtain ⟨R, hR⟩ : ∃ R, R = rowT (xr.take k) := ⟨_, rfl⟩
          rw [← hR] at HM hrl ⊢
          clear hR
          have hzr : (S ++ R).length ≤ 80200 := by rw [List.length_append]; omega
          have HC := hid (fun w1 (hb : Below w.heap.size w w1) => itoa_any n h64 w1 (Pow.step HT.out hb))
          obtain ⟨I, hI⟩ : ∃ I, I = Lib.itoa n := ⟨_, rfl⟩
          rw [← hI] at HC HM hil
          clear hI
          have e32 : (⟨#[32]⟩ : ByteArray) = bstr [32] := rfl
          have hz1 : (bstr I).size = I.length := rfl
          by_cases hk0 : k = 0
          · have t3 : ((0 : Int) < (k : Int)) = False := eq_false (by omega)
            have t4 : (0 < k) = False := eq_false (by omega)
            have HM0 := hid (show S ++ rowT (xr.take (k + 1)) = (S ++ R) ++ I by rw [HM.out, if_pos hk0, List.append_assoc])
            clear HM hk0
            obtain ⟨Z, hZ⟩ : ∃ Z, Z = S ++ R := ⟨_, rfl⟩
            rw [← hZ] at HM0 hzr ⊢
            clear hZ
            go_wp2_with fail
            -- STOP-tc
            refine (HC.out _ HB1.out).mono ?_
            rintro e w2 ⟨rfl, hb2⟩
            have HB2 := hid (Below.step' HB1.out hb2)
            clear hb2 HC
            go_wp2_with fail
            go_roundw
            case rel => exact ⟨k + 1, by omega, by go_num, by rw [HM0.out], HB2⟩
            case measure => simp [intOf]; omega
          · have t3 : ((0 : Int) < (k : Int)) = True := eq_true (by omega)
            have t4 : (0 < k) = True := eq_true (by omega)
            have HM0 := hid (show S ++ rowT (xr.take (k + 1)) = ((S ++ R) ++ [32]) ++ I by rw [HM.out, if_neg hk0]; simp only [List.append_assoc])
            clear HM hk0
            obtain ⟨Z, hZ⟩ : ∃ Z, Z = S ++ R := ⟨_, rfl⟩
            rw [← hZ] at HM0 hzr ⊢
            clear hZ
            obtain ⟨Y, hY⟩ : ∃ Y, Y = Z ++ [32] := ⟨_, rfl⟩
            rw [← hY] at HM0
            have hzy : Y.length ≤ 80201 := by rw [hY, List.length_append, List.length_singleton]; omega
            have hYb : bstr Z ++ bstr [32] = bstr Y := by rw [bstr_app, hY]
            have HYE := hid hY
            clear hY
            go_wp2_with fail
            -- STOP-td
            refine (HC.out _ HB1.out).mono ?_
            rintro e w2 ⟨rfl, hb2⟩
            have HB2 := hid (Below.step' HB1.out hb2)
            clear hb2 HC
            go_wp2_with fail
            -- STOP-te
            go_roundw
            case rel => exact ⟨k + 1, by omega, by go_num, by rw [HM0.out, HYE.out]; simp only [List.append_assoc, List.singleton_append, List.cons_append, List.nil_append], HB2⟩
            case measure => simp [intOf]; omega
        · have t2 : ((k : Int) < (xr.length : Int)) = False := eq_false (by omega)
          have hkl : xr.take k = xr := List.take_of_length_le (by omega)
          have hrl : (rowT xr).length ≤ 22 * 8 := by
            have h1 := rowT_len hin
            omega
          rw [hkl]
          have e10 : (⟨#[10]⟩ : ByteArray) = bstr [10] := rfl
          have HN0 := hid (show rowsT (nrows (M.take (i + 1))) = (S ++ rowT xr) ++ [10] by rw [HN.out, List.append_assoc])
          obtain ⟨Z, hZ⟩ : ∃ Z, Z = S ++ rowT xr := ⟨_, rfl⟩
          have hzl : Z.length ≤ 80200 := by rw [hZ, List.length_append]; omega
          rw [← hZ] at HN0 ⊢
          clear hZ hkl
          go_wp2_with fail
          -- STOP-tf
          go_roundw
          case rel => exact ⟨i + 1, by omega, by go_num, by rw [HN0.out], HB1⟩
          case measure => simp [intOf]; omega
    · have t1 : ((i : Int) < (M.length : Int)) = False := eq_false (by omega)
      have hil : M.take i = M := List.take_of_length_le (by omega)
      rw [hil]
      go_wp2_with fail
      -- STOP-tg
      go_ret
      exact ⟨rfl, HB.out⟩
set_option maxHeartbeats 2000000 in
set_option maxRecDepth 100000 in
theorem rprint_any (M : List IR) (A : Option Addr) (c : Nat) (w : World) (hr : Row w w.heap.size A (kcells M)) (hrs : RowsAt w w.heap.size M) (hok : PrOk M) (ht : Pow w) :
    Calls Tryd.prog 10 #[.slice A M.length c] w fun e w' => e = .returned (.string (bstr (rowsT (nrows M)))) ∧ Below w.heap.size w w' := by
  have HR := hid hr
  have HRS := hid hrs
  have HT := hid ht
  have HOK := hid hok
  have hML := hok.len
  have hsz := bstr_size
  have hap := bstr_app
  clear hr hrs ht hok
  go_enter Tryd.func10, Tryd.ntmps10
  go_wp2_with fail
  -- STOP-pa
  go_loopw [3, 10] (fun s3 si wr => ∃ i : Nat, i ≤ M.length ∧ si = .int .i64 i ∧ s3 = .string (bstr (rowsT (nrows (M.take i)))) ∧ Hid (Below w.heap.size w wr)) (fun _ si _ => M.length - (intOf si).toNat)
  case atStart => exact ⟨0, by omega, rfl, rfl, hid (Below.refl _ _)⟩
  case round =>
    obtain ⟨i, hi, rfl, rfl, HB⟩ := hrel
    obtain ⟨wo, rfl⟩ : ∃ wx : World, wx = wr := ⟨_, rfl⟩
    by_cases hlt : i < M.length
    · have t1 : ((i : Int) < (M.length : Int)) = True := eq_true (by omega)
      have HN := hid (show rowsT (nrows (M.take (i + 1))) = rowsT (nrows (M.take i)) ++ (rowT M[i].row ++ [10]) by rw [List.take_succ_eq_append_getElem hlt, nrows, List.map_append, List.map_singleton, rowsT_snoc])
      have hnl := rowsT_len HOK.out i
      have hx8 := HOK.out.row _ (List.getElem_mem hlt)
      have hin := HOK.out.num _ (List.getElem_mem hlt)
      have HXR := hid (HRS.out _ (List.getElem_mem hlt)).1
      have HCL := hid (fun (w1 : World) (hb : Below w.heap.size w w1) => Row.kr (HR.out.step hb) hlt)
      obtain ⟨b, off, rfl, hb, c0⟩ := (HR.out.step HB.out).kr hlt
      have HC0 := hid (fun (w1 : World) (hb : Below w.heap.size w w1) => show w1.cell? ⟨b, off + i, none⟩ = some (.slice M[i].A M[i].row.length M[i].k) from by
        obtain ⟨b', off', e, h1, h2⟩ := HCL.out w1 hb
        injection e with e; injection e with e1 e2
        subst e1 e2; exact h2)
      clear HCL
      generalize M[i] = x at *
      obtain ⟨xr, xA, xk, xn⟩ := x
      simp only at HN hx8 hin HXR c0 HC0
      obtain ⟨S, hS⟩ : ∃ S, S = rowsT (nrows (M.take i)) := ⟨_, rfl⟩
      rw [← hS] at HN hnl ⊢
      have hsl : S.length ≤ 80000 := by omega
      clear hS hnl
      go_wp2_with fail
      -- STOP-pb
      go_loopw [3, 16] (fun s3 sk wr => ∃ k : Nat, k ≤ xr.length ∧ sk = .int .i64 k ∧ s3 = .string (bstr (S ++ rowT (xr.take k))) ∧ Hid (Below w.heap.size w wr)) (fun _ sk _ => xr.length - (intOf sk).toNat)
      case atStart => exact ⟨0, by omega, rfl, by simp [rowT], HB⟩
      case round =>
        obtain ⟨k, hk, rfl, rfl, HB1⟩ := hrel
        have c1 := HC0.out _ HB1.out
        by_cases hlk : k < xr.length
        · have t2 : ((k : Int) < (xr.length : Int)) = True := eq_true (by omega)
          have HM := hid (show rowT (xr.take (k + 1)) = if k = 0 then rowT (xr.take k) ++ Lib.itoa xr[k] else (rowT (xr.take k) ++ [32]) ++ Lib.itoa xr[k] by
            rw [List.take_succ_eq_append_getElem hlk, rowT_snoc, List.length_take, Nat.min_eq_left (by omega)])
          have hrl : (rowT (xr.take k)).length ≤ 22 * 8 := by
            have h1 := rowT_len (l := xr.take k) (fun n hn => hin n (List.mem_of_mem_take hn))
            have h2 : (xr.take k).length ≤ 8 := by rw [List.length_take]; omega
            omega
          obtain ⟨bx, ox, rfl, hbx, c2⟩ := (HXR.out.step HB1.out).int' hlk
          have h64 := hin _ (List.getElem_mem hlk)
          have hil := itoa_le h64
          generalize xr[k] = n at *
          obtain ⟨R, hR⟩ : ∃ R, R = rowT (xr.take k) := ⟨_, rfl⟩
          rw [← hR] at HM hrl ⊢
          clear hR
          have hzr : (S ++ R).length ≤ 80200 := by rw [List.length_append]; omega
          have HC := hid (fun w1 (hb : Below w.heap.size w w1) => itoa_any n h64 w1 (Pow.step HT.out hb))
          obtain ⟨I, hI⟩ : ∃ I, I = Lib.itoa n := ⟨_, rfl⟩
          rw [← hI] at HC HM hil
          clear hI
          have e32 : (⟨#[32]⟩ : ByteArray) = bstr [32] := rfl
          have hz1 : (bstr I).size = I.length := rfl
          by_cases hk0 : k = 0
          · have t3 : ((0 : Int) < (k : Int)) = False := eq_false (by omega)
            have t4 : (0 < k) = False := eq_false (by omega)
            have HM0 := hid (show S ++ rowT (xr.take (k + 1)) = (S ++ R) ++ I by rw [HM.out, if_pos hk0, List.append_assoc])
            clear HM hk0
            obtain ⟨Z, hZ⟩ : ∃ Z, Z = S ++ R := ⟨_, rfl⟩
            rw [← hZ] at HM0 hzr ⊢
            clear hZ
            go_wp2_with fail
            -- STOP-pc
            refine (HC.out _ HB1.out).mono ?_
            rintro e w2 ⟨rfl, hb2⟩
            have HB2 := hid (Below.step' HB1.out hb2)
            clear hb2 HC
            go_wp2_with fail
            go_roundw
            case rel => exact ⟨k + 1, by omega, by go_num, by rw [HM0.out], HB2⟩
            case measure => simp [intOf]; omega
          · have t3 : ((0 : Int) < (k : Int)) = True := eq_true (by omega)
            have t4 : (0 < k) = True := eq_true (by omega)
            have HM0 := hid (show S ++ rowT (xr.take (k + 1)) = ((S ++ R) ++ [32]) ++ I by rw [HM.out, if_neg hk0]; simp only [List.append_assoc])
            clear HM hk0
            obtain ⟨Z, hZ⟩ : ∃ Z, Z = S ++ R := ⟨_, rfl⟩
            rw [← hZ] at HM0 hzr ⊢
            clear hZ
            obtain ⟨Y, hY⟩ : ∃ Y, Y = Z ++ [32] := ⟨_, rfl⟩
            rw [← hY] at HM0
            have hzy : Y.length ≤ 80201 := by rw [hY, List.length_append, List.length_singleton]; omega
            have hYb : bstr Z ++ bstr [32] = bstr Y := by rw [bstr_app, hY]
            have HYE := hid hY
            clear hY
            go_wp2_with fail
            -- STOP-pd
            refine (HC.out _ HB1.out).mono ?_
            rintro e w2 ⟨rfl, hb2⟩
            have HB2 := hid (Below.step' HB1.out hb2)
            clear hb2 HC
            go_wp2_with fail
            -- STOP-pe
            go_roundw
            case rel => exact ⟨k + 1, by omega, by go_num, by rw [HM0.out, HYE.out]; simp only [List.append_assoc, List.singleton_append, List.cons_append, List.nil_append], HB2⟩
            case measure => simp [intOf]; omega
        · have t2 : ((k : Int) < (xr.length : Int)) = False := eq_false (by omega)
          have hkl : xr.take k = xr := List.take_of_length_le (by omega)
          have hrl : (rowT xr).length ≤ 22 * 8 := by
            have h1 := rowT_len hin
            omega
          rw [hkl]
          have e10 : (⟨#[10]⟩ : ByteArray) = bstr [10] := rfl
          have HN0 := hid (show rowsT (nrows (M.take (i + 1))) = (S ++ rowT xr) ++ [10] by rw [HN.out, List.append_assoc])
          obtain ⟨Z, hZ⟩ : ∃ Z, Z = S ++ rowT xr := ⟨_, rfl⟩
          have hzl : Z.length ≤ 80200 := by rw [hZ, List.length_append]; omega
          rw [← hZ] at HN0 ⊢
          clear hZ hkl
          go_wp2_with fail
          -- STOP-pf
          go_roundw
          case rel => exact ⟨i + 1, by omega, by go_num, by rw [HN0.out], HB1⟩
          case measure => simp [intOf]; omega
    · have t1 : ((i : Int) < (M.length : Int)) = False := eq_false (by omega)
      have hil : M.take i = M := List.take_of_length_le (by omega)
      rw [hil]
      go_wp2_with fail
      -- STOP-pg
      go_ret
      exact ⟨rfl, HB.out⟩
end Go.Proofs.YtldlmkfigjicgaaDoor
/- Sets with weights: what is linear in them. No program in sight. -/
namespace Go.Proofs.YtldlmkfigjicgaaDoor
set_option linter.unusedVariables false
set_option linter.unusedSimpArgs false

abbrev M64 : Int := 18446744073709551616
theorem wrp_dvd {a b : Int} : wrp a = wrp b ↔ M64 ∣ a - b := by
  simp only [wrp, IntKind.wrap_i64, M64]
  omega
theorem tot_neg' (r : List Int) : ∀ a : List It, tot r (a.map (fun x => (x.1, -x.2))) = - tot r a
  | [] => rfl
  | x :: a => by
    rw [List.map_cons, tot, tot, tot_neg' r a]
    split <;> omega
theorem wt_app {a b c d : List It} (h1 : ∀ r, wt a r = wt c r) (h2 : ∀ r, wt b r = wt d r) : ∀ r, wt (a ++ b) r = wt (c ++ d) r := fun r => by
  unfold wt at *
  rw [tot_app, tot_app, wrp_dvd]
  have e1 := wrp_dvd.1 (h1 r)
  have e2 := wrp_dvd.1 (h2 r)
  have : tot r a + tot r b - (tot r c + tot r d) = (tot r a - tot r c) + (tot r b - tot r d) := by omega
  rw [this]
  exact Int.dvd_add e1 e2
theorem wt_sumL (l : List It) : ∀ r, wt (sumL l) r = wt l r := (sumL_law l).2
/-- Two sums are one where their weights are. -/
theorem sumL_same {a b : List It} (h : ∀ r, wt a r = wt b r) : sumL a = sumL b := sumL_wt h
end Go.Proofs.YtldlmkfigjicgaaDoor
/- Sets with weights are a group: the plain law. -/
namespace Go.Proofs.YtldlmkfigjicgaaDoor
set_option linter.unusedVariables false
set_option linter.unusedSimpArgs false

theorem addE_sets {a b : List It} (h1 : setI a = 0) (h2 : setI b = 0) : addE a b = doneE (sumL (a ++ b)) := by
  unfold addE; rw [if_neg (by simp [h1]), if_neg (by simp [h2])]
theorem add_comm {a b : List It} (h1 : setI a = 0) (h2 : setI b = 0) : addE a b = addE b a ∧ addX a b = addX b a := by
  have e : addE a b = addE b a := by rw [addE_sets h1 h2, addE_sets h2 h1, sumL_comm]
  exact ⟨e, by unfold addX; rw [e, sumL_comm]⟩
theorem add_set {a b : List It} (h1 : setI a = 0) (h2 : setI b = 0) (h : addE a b = 0) : setI (addX a b) = 0 ∧ addX a b = sumL (a ++ b) := by
  have e : addX a b = sumL (a ++ b) := by unfold addX; rw [if_pos h]
  rw [addE_sets h1 h2] at h
  exact ⟨by rw [e]; exact done_set h, e⟩
theorem add_assoc {a b c : List It} (h1 : setI a = 0) (h2 : setI b = 0) (h3 : setI c = 0) (h4 : addE a b = 0) (h5 : addE b c = 0) : addE (addX a b) c = addE a (addX b c) ∧ addX (addX a b) c = addX a (addX b c) := by
  obtain ⟨s1, e1⟩ := add_set h1 h2 h4
  obtain ⟨s2, e2⟩ := add_set h2 h3 h5
  have k : sumL (addX a b ++ c) = sumL (a ++ addX b c) := by
    rw [e1, e2, sumL_app_sumL, sumL_comm a (sumL (b ++ c)), sumL_app_sumL, sumL_comm (b ++ c) a, List.append_assoc]
  have e : addE (addX a b) c = addE a (addX b c) := by rw [addE_sets s1 h3, addE_sets h1 s2, k]
  exact ⟨e, by unfold addX at k ⊢; rw [show addX a b = if addE a b = 0 then sumL (a ++ b) else [] from rfl, show addX b c = if addE b c = 0 then sumL (b ++ c) else [] from rfl] at e; rw [e, k]⟩
end Go.Proofs.YtldlmkfigjicgaaDoor
/- Queries over sets with weights: the plain laws of PlainParts and PlainLinear. No program in sight. -/
namespace Go.Proofs.YtldlmkfigjicgaaDoor
set_option linter.unusedVariables false
set_option linter.unusedSimpArgs false

/-- Right sets, of given widths. -/
def OkOut (out : List (List It)) (W : List Int) : Prop := out.length = W.length ∧ ∀ j, j < out.length → setI (out.getD j []) = 0 ∧ ∀ x ∈ out.getD j [], (x.1.length : Int) = W.getD j 0
theorem OkOut.snoc {out : List (List It)} {W : List Int} (h : OkOut out W) {S : List It} {v : Int} (h1 : setI S = 0) (h2 : ∀ x ∈ S, (x.1.length : Int) = v) : OkOut (out ++ [S]) (W ++ [v]) := by
  obtain ⟨h3, h4⟩ := h
  refine ⟨by simp [h3], fun j hj => ?_⟩
  by_cases q : j < out.length
  · have e1 : (out ++ [S]).getD j [] = out.getD j [] := by simp [List.getD, List.getElem?_append_left q]
    have e2 : (W ++ [v]).getD j 0 = W.getD j 0 := by simp [List.getD, List.getElem?_append_left (h3 ▸ q : j < W.length)]
    rw [e1, e2]
    exact h4 j q
  · have e : j = out.length := by simp at hj; omega
    subst e
    have e1 : (out ++ [S]).getD out.length [] = S := by simp [List.getD]
    have e2 : (W ++ [v]).getD out.length 0 = v := by rw [h3]; simp [List.getD]
    rw [e1, e2]
    exact ⟨h1, h2⟩
/-! the first steps alone -/
/-! what is linear -/
def Lin3 (X Y Z : List (List It)) : Prop := X.length = Z.length ∧ Y.length = Z.length ∧ ∀ j r, wt (Z.getD j []) r = wt (X.getD j [] ++ Y.getD j []) r
theorem wt_trans {a b c : List It} (h1 : ∀ r, wt a r = wt b r) (h2 : ∀ r, wt b r = wt c r) : ∀ r, wt a r = wt c r := fun r => (h1 r).trans (h2 r)
theorem Lin3.snoc {X Y Z : List (List It)} (h : Lin3 X Y Z) {x y z : List It} (hw : ∀ r, wt z r = wt (x ++ y) r) : Lin3 (X ++ [sumL x]) (Y ++ [sumL y]) (Z ++ [sumL z]) := by
  obtain ⟨h1, h2, h3⟩ := h
  refine ⟨by simp [h1], by simp [h2], fun j r => ?_⟩
  by_cases q : j < Z.length
  · have e1 : (X ++ [sumL x]).getD j [] = X.getD j [] := by simp [List.getD, List.getElem?_append_left (show j < X.length by omega)]
    have e2 : (Y ++ [sumL y]).getD j [] = Y.getD j [] := by simp [List.getD, List.getElem?_append_left (show j < Y.length by omega)]
    have e3 : (Z ++ [sumL z]).getD j [] = Z.getD j [] := by simp [List.getD, List.getElem?_append_left q]
    rw [e1, e2, e3]
    exact h3 j r
  · by_cases e : j = Z.length
    · subst e
      have e1 : (X ++ [sumL x]).getD Z.length [] = sumL x := by rw [← h1]; simp [List.getD]
      have e2 : (Y ++ [sumL y]).getD Z.length [] = sumL y := by rw [← h2]; simp [List.getD]
      have e3 : (Z ++ [sumL z]).getD Z.length [] = sumL z := by simp [List.getD]
      rw [e1, e2, e3]
      exact wt_trans (wt_sumL z) (wt_trans hw fun r => (wt_app (wt_sumL x) (wt_sumL y) r).symm) r
    · have e1 : (X ++ [sumL x]).getD j [] = [] := by rw [List.getD_eq_getElem?_getD, List.getElem?_eq_none (by simp; omega)]; rfl
      have e2 : (Y ++ [sumL y]).getD j [] = [] := by rw [List.getD_eq_getElem?_getD, List.getElem?_eq_none (by simp; omega)]; rfl
      have e3 : (Z ++ [sumL z]).getD j [] = [] := by rw [List.getD_eq_getElem?_getD, List.getElem?_eq_none (by simp; omega)]; rfl
      rw [e1, e2, e3]; rfl
end Go.Proofs.YtldlmkfigjicgaaDoor
/- Queries over sets with weights: bounds of a step's list. No program in sight. -/
namespace Go.Proofs.YtldlmkfigjicgaaDoor
set_option linter.unusedVariables false
set_option linter.unusedSimpArgs false

theorem badB_bound {x : It} (h : badB x = false) : x.1.length ≤ 8 ∧ (∀ z ∈ x.1, -1073741824 ≤ z ∧ z ≤ 1073741824) ∧ -1048576 ≤ x.2 ∧ x.2 ≤ 1048576 := by
  obtain ⟨h1, h2⟩ := badB_false h
  refine ⟨h1, fun z hz => ?_, h2⟩
  unfold badB rowB at h
  simp only [Bool.or_eq_false_iff, Bool.not_eq_false', Bool.and_eq_true, List.any_eq_false, Bool.not_eq_true'] at h
  have := h.1.2
  have h3 := this z hz
  unfold outB at h3
  simp only [Bool.or_eq_true, decide_eq_true_eq, not_or] at h3
  omega
end Go.Proofs.YtldlmkfigjicgaaDoor
/- Views: what is told more of a step's list, by what its inputs have more. No program in sight. -/
namespace Go.Proofs.YtldlmkfigjicgaaDoor
set_option linter.unusedVariables false
set_option linter.unusedSimpArgs false

/-- a is what there is more in A' than in A. -/
abbrev More (a A A' : List It) : Prop := ∀ r, wt a r = wt (A' ++ negL A) r
theorem more_dvd {a A A' : List It} : More a A A' ↔ ∀ r, M64 ∣ tot r a - (tot r A' - tot r A) := by
  refine forall_congr' fun r => ?_
  show wrp _ = wrp _ ↔ _
  rw [wrp_dvd, tot_app, negL, tot_neg', ← Int.sub_eq_add_neg]
/-! what is linear -/
/-! what is joined -/
/-! what is distinct -/
/-! groups -/
/-! a step -/
end Go.Proofs.YtldlmkfigjicgaaDoor
/- Views: the law of a turn. No program in sight. -/
namespace Go.Proofs.YtldlmkfigjicgaaDoor
set_option linter.unusedVariables false
set_option linter.unusedSimpArgs false

theorem More.add {X S N : List It} (h : More X S N) : sumL (S ++ X) = sumL N := sumL_same fun r => by
  have h1 := more_dvd.1 h r
  unfold wt
  rw [tot_app, wrp_dvd]
  have : tot r S + tot r X - tot r N = tot r X - (tot r N - tot r S) := by omega
  rw [this]; exact h1
theorem More.nil : More [] [] [] := fun r => rfl
/-! bounds -/
end Go.Proofs.YtldlmkfigjicgaaDoor
/- viewlaw.RankSays. -/
namespace Go.Proofs.YtldlmkfigjicgaaDoor
set_option linter.unusedVariables false
set_option linter.unusedSimpArgs false
open Go.ChangeShapes Go.WideShapes Go.ChangeAt Go.RowKit
theorem lawranks1_any (x y : IR) (w : World) (hx : Row w w.heap.size x.A (icells' x.row)) (hxl : x.row.length ≤ 9223372036854775807) (hy : Row w w.heap.size y.A (icells' y.row)) (hyl : y.row.length ≤ 9223372036854775807) :
    Calls Tryd.prog 8 #[.slice x.A x.row.length x.k, .slice y.A y.row.length y.k] w fun e w' => e = .returned (.bool (decide (x.row = y.row))) ∧ Below w.heap.size w w' := by
  obtain ⟨xr, xA, xk, xn⟩ := x
  obtain ⟨yr, yA, yk, yn⟩ := y
  simp only at hx hxl hy hyl ⊢
  have HC := hid (equalN_any xr yr xA yA xk yk w hx hy hxl hyl)
  clear hx hy
  obtain ⟨R, hR⟩ : ∃ R, R = decide (xr = yr) := ⟨_, rfl⟩
  rw [← hR] at HC ⊢
  clear hR
  go_enter Tryd.func8, Tryd.ntmps8
  go_wp2_with fail
  refine HC.out.mono ?_
  rintro e w1 ⟨rfl, hb1⟩
  go_wp2
  go_ret
  exact ⟨rfl, hb1⟩
theorem enters_lawranks1 : ∀ args w, (callFunc 8 args).run Tryd.prog w = .ok (.enter 8 args) w := enters_of Tryd.func8 (by kernel_rfl) rfl

set_option maxHeartbeats 1000000 in
set_option maxRecDepth 100000 in
theorem equalFuncL_any (M1 M2 : List IR) (A1 A2 : Option Addr) (c1 c2 : Nat) (w : World) (hr1 : RowR w w.heap.size A1 M1) (hl1 : M1.length ≤ 9223372036854775807) (hr2 : RowR w w.heap.size A2 M2) (hl2 : M2.length ≤ 9223372036854775807) :
    Calls Tryd.prog 7 #[.slice A1 M1.length c1, .slice A2 M2.length c2, .func (.func 8) #[] #[]] w fun e w' => e = .returned (.bool (decide (nrows M1 = nrows M2))) ∧ Below w.heap.size w w' := by
  have HR1 := hid hr1
  have HR2 := hid hr2
  have eg := enters_lawranks1
  clear hr1 hr2
  obtain ⟨R, hR⟩ : ∃ R, R = decide (nrows M1 = nrows M2) := ⟨_, rfl⟩
  rw [← hR]
  have HRR := hid hR
  clear hR
  by_cases hlen : M1.length = M2.length
  · have hne : ((M1.length : Int) != (M2.length : Int)) = false := by simp [hlen]
    have HL := hid hlen
    clear hlen
    go_enter Tryd.func7, Tryd.ntmps7
    go_wp2_with fail
    go_loopw [17] (fun s17 wr => ∃ k : Nat, k ≤ M1.length ∧ s17 = .int .i64 k ∧ Hid (∀ j (h : j < M1.length) (h' : j < M2.length), j < k → M1[j].row = M2[j].row) ∧ Hid (Below w.heap.size w wr)) (fun s17 _ => M1.length - (intOf s17).toNat)
    case atStart => exact ⟨0, by omega, rfl, hid (fun j _ _ h => by omega), hid (Below.refl _ _)⟩
    case round =>
      obtain ⟨k, hk, rfl, HNO, HB⟩ := hrel
      by_cases hlt : k < M1.length
      · have hlt' : k < M2.length := by have := HL.out; omega
        have HS1 := hid (HR1.out.step HB.out)
        have HS2 := hid (HR2.out.step HB.out)
        obtain ⟨b, off, rfl, hb, h0⟩ := HS1.out.1.nr hlt
        obtain ⟨b', off', rfl, hb', h0'⟩ := HS2.out.1.nr hlt'
        have q1 := HS1.out.2 _ (List.getElem_mem hlt)
        have q2 := HS2.out.2 _ (List.getElem_mem hlt')
        have HXY : Hid (∀ j (h : j < M1.length) (h' : j < M2.length), j = k → (M1[j].row = M2[j].row) = (M1[k].row = M2[k].row)) := hid (fun j h h' e => by subst e; rfl)
        generalize M1[k] = x at *
        generalize M2[k] = y at *
        have HCL := hid (fun w1 (hb : Below wr.heap.size wr w1) => lawranks1_any x y w1 (q1.1.step hb) q1.2 (q2.1.step hb) q2.2)
        clear q1 q2
        obtain ⟨bq, hbq⟩ : ∃ q, q = decide (x.row = y.row) := ⟨_, rfl⟩
        rw [← hbq] at HCL
        have HBQ := hid hbq
        clear hbq
        obtain ⟨xr, xA, xk, xn⟩ := x
        obtain ⟨yr, yA, yk, yn⟩ := y
        simp only at h0 h0' HCL
        have hnb : (b' = wr.heap.size) = False := by simp; omega
        cases bq
        · have HD : Hid (R = false) := hid (by
            rw [HRR.out, decide_eq_false_iff_not]
            intro e
            have h3 : (nrows M1)[k]? = (nrows M2)[k]? := by rw [e]
            rw [List.getElem?_eq_getElem (by rw [nrows_len]; exact hlt), List.getElem?_eq_getElem (by rw [nrows_len]; exact hlt')] at h3
            simp only [nrows, List.getElem_map, Option.some.injEq] at h3
            rw [HXY.out k hlt hlt' rfl] at h3
            have := HBQ.out
            rw [decide_eq_true h3] at this
            cases this)
          go_wp2_with fail
          refine (HCL.out _ (by (repeat' (first | (with_reducible exact Below.refl _ _) | (with_reducible assumption) | (with_reducible refine below_drewN ?_ _) | (with_reducible refine Below.drew ?_) | (with_reducible refine Below.alloc ?_ ?_ _) | (with_reducible refine Below.setCell ?_ ?_ _) | (refine Below.trans ?_ (Below.mono (by assumption) ?_)) | go_size)))).mono ?_
          rintro e w1 ⟨rfl, hb1⟩
          have hB1 : Below wr.heap.size wr w1 := (by refine Below.step' ?_ hb1; (repeat' (first | (with_reducible exact Below.refl _ _) | (with_reducible assumption) | (with_reducible refine below_drewN ?_ _) | (with_reducible refine Below.drew ?_) | (with_reducible refine Below.alloc ?_ ?_ _) | (with_reducible refine Below.setCell ?_ ?_ _) | (refine Below.trans ?_ (Below.mono (by assumption) ?_)) | go_size)))
          clear hb1
          go_wp2
          go_ret
          exact ⟨ret_bool HD.out.symm, Below.step' HB.out hB1⟩
        · go_wp2_with fail
          refine (HCL.out _ (by (repeat' (first | (with_reducible exact Below.refl _ _) | (with_reducible assumption) | (with_reducible refine below_drewN ?_ _) | (with_reducible refine Below.drew ?_) | (with_reducible refine Below.alloc ?_ ?_ _) | (with_reducible refine Below.setCell ?_ ?_ _) | (refine Below.trans ?_ (Below.mono (by assumption) ?_)) | go_size)))).mono ?_
          rintro e w1 ⟨rfl, hb1⟩
          have hB1 : Below wr.heap.size wr w1 := (by refine Below.step' ?_ hb1; (repeat' (first | (with_reducible exact Below.refl _ _) | (with_reducible assumption) | (with_reducible refine below_drewN ?_ _) | (with_reducible refine Below.drew ?_) | (with_reducible refine Below.alloc ?_ ?_ _) | (with_reducible refine Below.setCell ?_ ?_ _) | (refine Below.trans ?_ (Below.mono (by assumption) ?_)) | go_size)))
          have HB1 := hid hB1
          clear hb1 hB1
          go_wp2
          go_roundw
          case rel =>
            refine ⟨k + 1, by omega, by go_num, hid (fun j h h' hj => ?_), hid (Below.step' HB.out HB1.out)⟩
            by_cases e : j = k
            · rw [HXY.out j h h' e]; exact of_decide_eq_true HBQ.out.symm
            · exact HNO.out j h h' (by omega)
          case measure => simp [intOf]; omega
      · have HD : Hid (R = true) := hid (by
          rw [HRR.out, decide_eq_true_eq]
          refine List.ext_getElem (by rw [nrows_len, nrows_len]; exact HL.out) fun j h h' => ?_
          simp only [nrows, List.getElem_map]
          rw [nrows_len] at h h'
          exact HNO.out j h h' (by omega))
        go_wp2
        go_ret
        exact ⟨ret_bool HD.out.symm, HB.out⟩
  · have hne : ((M1.length : Int) != (M2.length : Int)) = true := by simp; omega
    have HD : Hid (R = false) := hid (by
      rw [HRR.out, decide_eq_false_iff_not]
      intro e
      exact hlen (by rw [← nrows_len M1, ← nrows_len M2, e]))
    go_enter Tryd.func7, Tryd.ntmps7
    go_wp2
    go_ret
    exact ⟨ret_bool HD.out.symm, Below.refl _ _⟩
/-- Rows that are told may be printed. -/
theorem prOk_rank {M : List IR} {l : List It} {bs : List Int} {most : Int} (h : nrows M = rankX l bs most) : PrOk M := by
  by_cases he : rankE l bs most = 0
  · obtain ⟨h1, -, -, -, -, h5, h6⟩ := rankE_zero he
    have hl := rankX_len l bs most
    have hlen : M.length ≤ 400 := by
      rw [← h, List.length_map] at hl
      omega
    have hrow : ∀ r ∈ rankX l bs most, ∃ x ∈ l, x.1 = r := fun r hr => by
      unfold rankX at hr
      rw [if_pos he] at hr
      have h2 := List.mem_of_mem_take hr
      unfold expd at h2
      obtain ⟨x, hx, h3⟩ := List.mem_flatMap.1 h2
      exact ⟨x, (List.mergeSort_perm _ _).subset hx, (List.mem_replicate.1 h3).2.symm⟩
    have hall : ∀ x ∈ M, x.row.length ≤ 8 ∧ ∀ z ∈ x.row, -1073741824 ≤ z ∧ z ≤ 1073741824 := fun x hx => by
      obtain ⟨y, hy, e⟩ := hrow x.row (by rw [← h]; exact List.mem_map.2 ⟨x, hx, rfl⟩)
      have hb := badB_bound ((setI_zero.1 h1).2.1 y hy)
      rw [e] at hb
      exact ⟨hb.1, hb.2.1⟩
    exact ⟨hlen, fun x hx => (hall x hx).1, fun x hx n hn => by have := (hall x hx).2 n hn; omega⟩
  · have h0 : rankX l bs most = [] := rank_none he
    rw [h0] at h
    have : M = [] := List.map_eq_nil_iff.1 h
    subst this
    exact ⟨by simp, fun x hx => by simp at hx, fun x hx => by simp at hx⟩
set_option maxHeartbeats 2000000 in
set_option maxRecDepth 100000 in
theorem rankSays_any (M : List IR) (A : Option Addr) (c : Nat) (bs : List Int) (bA : Option Addr) (bc : Nat) (most : Int) (w : World) (hr : RowI w w.heap.size A M) (hl : M.length ≤ 9223372036854775807) (hb : Row w w.heap.size bA (icells' bs)) (hbl : bs.length ≤ 9223372036854775807) (ht : Pow w) :
    Calls Tryd.prog 3 #[.slice A M.length c, .slice bA bs.length bc, .int .i64 most] w fun e w' => e = .returned (.bool true) ∧ Below w.heap.size w w' := by
  have H1 := hid (rows_any M A c bs bA bc most w hr hl hb hbl)
  have H2 := hid (fun w1 (hb1 : Below w.heap.size w w1) => ranked_any M A c bs bA bc most w1 (hr.step hb1) hl (hb.step hb1) hbl)
  have HT := hid ht
  have HPR := hid (fun (L : List IR) (h : nrows L = rankX (its M) bs most) => prOk_rank h)
  obtain ⟨E, hE⟩ : ∃ q, q = rankE (its M) bs most := ⟨_, rfl⟩
  obtain ⟨X, hX⟩ : ∃ q, q = rankX (its M) bs most := ⟨_, rfl⟩
  rw [← hE, ← hX] at H1 H2
  rw [← hX] at HPR
  clear hr hb ht hE hX
  go_enter Tryd.func3, Tryd.ntmps3
  go_wp2_with fail
  -- STOP-a
  refine H1.out.mono ?_
  rintro e w1 ⟨A1, k1, M1, rfl, hn1, ho1, hr1, hb1⟩
  have HR1 := hid (show RowR w1 w1.heap.size A1 M1 from ⟨Row.of_ownS ho1, hr1.rows⟩)
  have hl1 : M1.length ≤ 9223372036854775807 := Nat.le_trans (own_capS ho1).1 (own_capS ho1).2
  have HN1 := hid hn1
  have HB1 := hid hb1
  clear hn1 ho1 hr1 hb1 H1
  go_wp2_with fail
  -- STOP-b
  refine (H2.out w1 HB1.out).mono ?_
  rintro e w2 ⟨A2, k2, M2, rfl, hn2, ho2, hr2, hl2, hb2⟩
  have HR2 := hid (show RowR w2 w2.heap.size A2 M2 from ⟨ho2, hr2⟩)
  have HN2 := hid hn2
  have HB2 := hid (Below.step' HB1.out hb2)
  replace HR1 := hid (HR1.out.step hb2)
  have heq := equalFuncL_any M1 M2 A1 A2 k1 k2 w2 HR1.out hl1 HR2.out hl2
  rw [decide_eq_true (show nrows M1 = nrows M2 by rw [HN1.out, hn2])] at heq
  have HEQ := hid heq
  clear hn2 ho2 hr2 hb2 H2 heq
  go_wp2_with fail
  -- STOP-c
  refine HEQ.out.mono ?_
  rintro e w3 ⟨rfl, hb3⟩
  have HB3 := hid (Below.step' HB2.out hb3)
  replace HR1 := hid (HR1.out.step hb3)
  replace HR2 := hid (HR2.out.step hb3)
  clear hb3 HEQ
  have hp1 := rprint_any M1 A1 k1 w3 HR1.out.1 HR1.out.2 (HPR.out M1 HN1.out) (Pow.step HT.out HB3.out)
  rw [HN1.out] at hp1
  have HP1 := hid hp1
  clear hp1
  have t1 : (E == E) = true := by simp
  go_wp2_with fail
  -- STOP-d
  refine HP1.out.mono ?_
  rintro e w4 ⟨rfl, hb4⟩
  have HB4 := hid (Below.step' HB3.out hb4)
  replace HR2 := hid (HR2.out.step hb4)
  have hp2 := rowsText_any M2 A2 k2 w4 HR2.out.1 HR2.out.2 (HPR.out M2 HN2.out) (Pow.step HT.out HB4.out)
  rw [HN2.out] at hp2
  have HP2 := hid hp2
  clear hp2 hb4 HP1
  go_wp2_with fail
  -- STOP-e
  refine HP2.out.mono ?_
  rintro e w5 ⟨rfl, hb5⟩
  have HB5 := hid (Below.step' HB4.out hb5)
  clear hb5 HP2
  go_wp2_with fail
  -- STOP-f
  go_ret
  exact ⟨by simp, HB5.out⟩
end Go.Proofs.YtldlmkfigjicgaaDoor
