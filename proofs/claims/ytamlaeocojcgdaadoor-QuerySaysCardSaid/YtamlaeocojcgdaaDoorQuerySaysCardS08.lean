/- QtD, QtE, RwP, DotA -/
import Derived.Test.YtamlaeocojcgdaaDoorQuerySaysCardS07
import Derived.Lib.Join
import Derived.Test.YtamlaeocojcgdaaDoorRows
import Derived.Outline
import Derived.StillTail
import Derived.StillTactics
/- query.text at pick; query.text; query.Print. -/
namespace Go.Proofs.YtamlaeocojcgdaaDoor
set_option linter.unusedVariables false
set_option linter.unusedSimpArgs false
open Go.ChangeShapes Go.WideShapes Go.ChangeAt Go.RowKit

theorem elem_strs : Elem Tryd.prog 44 9 1 16 := ⟨Tryd.underlying44, by
  obtain ⟨i, hi, hz, hs, hb⟩ := info_parts (P := Tryd.prog) (e := 9) (z := .string ⟨#[]⟩) (size := 1) (bytes := 16) (by kernel_rfl)
  exact ⟨i, _, hi, hz, hs, hb, rfl⟩, by decide⟩
theorem join_comma (l : List Int) : Lib.join (l.map Lib.itoa) [44] = commaT l := by
  cases l with
  | nil => rfl
  | cons n l =>
    rw [List.map_cons, Lib.join_cons]
    show _ = Lib.itoa n ++ tailC l
    congr 1
    unfold Lib.joinTail
    induction l with
    | nil => rfl
    | cons m l ih =>
      rw [List.map_cons, List.map_cons, List.flatten_cons, ih]
      rfl
abbrev sitoas (l : List Int) : List Value := l.map (fun n => Value.string (bstr (Lib.itoa n)))
theorem step_t3 (a b col op val : Int) (l : List Int) (h : l.length ≠ 0) : stepT ⟨3, a, b, col, op, val, l⟩ = ((([112, 105, 99, 107, 32] ++ Lib.itoa a) ++ [32]) ++ commaT l) ++ [10] := by
  simp [stepT, argsT, verbB, numT, h]
set_option maxHeartbeats 4000000 in
set_option maxRecDepth 100000 in
theorem text_k3 (a b col op val : Int) (l : List Int) (A : Option Addr) (c : Nat) (w : World) (h : StTx ⟨3, a, b, col, op, val, l⟩) (hr : Row w w.heap.size A (icells' l)) (ht : Pow w) :
    Calls Tryd.prog 17 #[.agg #[.int .i64 3, .int .i64 a, .int .i64 b, .int .i64 col, .int .i64 op, .int .i64 val, .slice A l.length c]] w (TextPost ⟨3, a, b, col, op, val, l⟩ w) := by
  unfold TextPost
  have hl0 : 0 < l.length := h.pick.2 rfl
  have HT3 := hid (step_t3 a b col op val l (by omega))
  have h1 := h.a; have h8 := h.len; have hli := h.list
  simp only at h1 h8 hli
  obtain ⟨wa, hwa⟩ : ∃ q : World, q = w.alloc (.cells #[.int .i64 3, .int .i64 a, .int .i64 b, .int .i64 col, .int .i64 op, .int .i64 val, .slice A l.length c] 40) := ⟨_, rfl⟩
  have hb : Below w.heap.size w wa := by rw [hwa]; exact alloc_below (Below.refl _ _) _
  have HX := hid (show Blk wa w.heap.size #[.int .i64 3, .int .i64 a, .int .i64 b, .int .i64 col, .int .i64 op, .int .i64 val, .slice A l.length c] 40 by rw [hwa]; exact Blk.new _ _ _)
  have hwl : w.heap.size < wa.heap.size := HX.out.lt
  have HR := hid (hr.step hb)
  have HP := hid (Pow.step ht hb)
  have HB := hid hb
  have hsz := bstr_size
  have hap := bstr_app
  have hla := itoa21 (n := a) (by omega)
  have hlcm := commaT_len hli
  clear h hr ht hb
  obtain ⟨cHX, fHX, sHX, nHX⟩ := HX.out.all
  try simp only [cbox] at cHX
  go_enter Tryd.func17, Tryd.ntmps17
  go_upto_region 8 with fail
  rw [← hwa]
  clear hwa
  go_wp2_with fail
  clear cHX fHX sHX nHX
  -- STOP-a
  go_loopw [3, 40] (fun s3 s40 wr => ∃ i : Nat, i ≤ l.length ∧ s40 = .int .i64 i ∧ Hid (wr.ownsRow wa.heap.size 9 1 s3 i (sitoas (l.take i))) ∧ Hid (Below wa.heap.size wa wr)) (fun _ s40 _ => l.length - (intOf s40).toNat)
  case atStart => exact ⟨0, by omega, rfl, hid (World.ownsRow_nil _ _ _ _), hid (Below.refl _ _)⟩
  case round =>
    obtain ⟨i, hi, rfl, HO, HBW⟩ := hrel
    obtain ⟨wo, rfl⟩ : ∃ q : World, q = wr := ⟨_, rfl⟩
    obtain ⟨A3, c3, rfl⟩ := own_formS HO.out
    have hzo : wa.heap.size ≤ wo.heap.size := HBW.out.size
    by_cases hlt : i < l.length
    · have t1 : ((i : Int) < (l.length : Int)) = True := eq_true (by omega)
      have HTS := hid (show sitoas (l.take (i + 1)) = sitoas (l.take i) ++ [.string (bstr (Lib.itoa l[i]))] by rw [List.take_succ_eq_append_getElem hlt, sitoas, List.map_append]; rfl)
      obtain ⟨b1, off, rfl, hb1, c0⟩ := (HR.out.step HBW.out).int' hlt
      have h64 := hli _ (List.getElem_mem hlt)
      generalize l[i] = x at *
      have HC := hid (itoaN_any x (by omega) wo (Pow.step HP.out HBW.out))
      obtain ⟨I, hI⟩ : ∃ I, I = bstr (Lib.itoa x) := ⟨_, rfl⟩
      rw [← hI] at HC HTS
      clear hI
      go_wp2_with fail
      -- STOP-b
      refine HC.out.mono ?_
      rintro e w2 ⟨rfl, hb2⟩
      have HB2 := hid (Below.step' HBW.out hb2)
      have HO2 := hid (own_laterS HO.out hb2)
      have hz2 : wa.heap.size ≤ w2.heap.size := HB2.out.size
      have hone : ∀ u ∈ ([.string I] : List Value), u.oneCell' = true := fun u hu => by rw [List.mem_singleton.1 hu]; rfl
      clear hb2 HC
      go_wp2_with (at_builtin; refine wpList_append_row elem_strs rfl _ _ rfl wa.heap.size _ _ _ rfl (HO2.out.alloc _) (some ⟨w2.heap.size, 0, none⟩) 1 1 (w2.heap.size + 1) [.string I] rfl rfl (Row.new' _ _ _ rfl rfl (Nat.lt_succ_self _)) hone ?_ ?_ ?_ ?_; rotate_right; intro v7 w7 hown7 hg7 hif7; rotate_left; (simp only [maxLen]; omega); (omega); (simp; omega))
      -- STOP-c
      have HO7 := hid hown7
      have HB7 := hid (Below.grown (alloc_below HB2.out (.cells #[.string I] 9)) hg7 (by simp; omega) (fun g e => (HO2.out.lt g e).1))
      clear hown7 hg7 hif7 hone
      go_roundw
      case rel => exact ⟨i + 1, by omega, by go_num, hid (by rw [HTS.out]; exact HO7.out), HB7⟩
      case measure => simp [intOf]; omega
    · have t1 : ((i : Int) < (l.length : Int)) = False := eq_false (by omega)
      have hil : l.take i = l := List.take_of_length_le (by omega)
      have hie : i = l.length := by omega
      rw [hil] at HO
      subst hie
      have HX5 := hid (HX.out.step HBW.out)
      have HC := hid (itoaN_any a (by omega) wo (Pow.step HP.out HBW.out))
      obtain ⟨g, hg⟩ : ∃ g, A3 = some ⟨g, 0, none⟩ := by
        rcases HO.out.2 with ⟨e, h0⟩ | ⟨g, cap, cur, e, -⟩
        · omega
        · injection e with e; exact ⟨g, e⟩
      subst hg
      have hcap := (World.ownsRow.form HO.out (by omega))
      have hcc : l.length ≤ c3 := by
        rcases HO.out.2 with ⟨e, h0⟩ | ⟨g, cap, cur, e, -, -, hc, -⟩
        · omega
        · injection e with e1 e2 e3; omega
      have HJ := hid (fun (w2 : World) (hb2 : Below wo.heap.size wo w2) => show Calls Tryd.prog 30 #[.slice (some ⟨g, 0, none⟩) l.length c3, .string ⟨#[44]⟩] w2 fun e w' => e = .returned (.string (bstr (commaT l))) ∧ Below w2.heap.size w2 w' from by
        have hown := own_laterS HO.out hb2
        have hlm : (l.map (fun n => bstr (Lib.itoa n))).length = l.length := List.length_map ..
        have hmm : ((l.map (fun n => bstr (Lib.itoa n))).map (·.data.toList)) = l.map Lib.itoa := by simp [Function.comp_def]
        have hj := Tryd.strings_Join g 0 c3 (l.map (fun n => bstr (Lib.itoa n))) ⟨#[44]⟩ w2 (fun j x hx => by
            have := hown.cells (g := g) rfl j (.string x) (by
              rw [sitoas, List.getElem?_map]
              rw [List.getElem?_map] at hx
              cases hq : l[j]? with
              | none => rw [hq] at hx; simp at hx
              | some n => rw [hq] at hx; simp at hx ⊢; rw [hx])
            rwa [addr_add] at this) (hown.lt g rfl).2 (by rw [hlm]; omega) (by rw [hlm]; exact hcc) (by
            rw [hmm, show (ByteArray.mk #[44]).data.toList = [44] from rfl, join_comma]
            omega)
        rw [hlm, hmm, show (ByteArray.mk #[44]).data.toList = [44] from rfl, join_comma] at hj
        exact hj)
      obtain ⟨BA, hBA⟩ : ∃ q, q = bstr (Lib.itoa a) := ⟨_, rfl⟩
      obtain ⟨BC, hBC⟩ : ∃ q, q = bstr (commaT l) := ⟨_, rfl⟩
      obtain ⟨W0, hW0⟩ : ∃ q, q = bstr [112, 105, 99, 107, 32] := ⟨_, rfl⟩
      obtain ⟨B32, hB32⟩ : ∃ q, q = bstr [32] := ⟨_, rfl⟩
      obtain ⟨B10, hB10⟩ : ∃ q, q = bstr [10] := ⟨_, rfl⟩
      have HFIN := hid (show (((W0 ++ BA) ++ B32) ++ BC) ++ B10 = bstr (stepT ⟨3, a, b, col, op, val, l⟩) by
        rw [HT3.out, hW0, hBA, hB32, hBC, hB10]
        simp only [bstr_app, List.append_assoc])
      have s1 : W0.size = 5 := by rw [hW0]; rfl
      have s2 : BA.size ≤ 21 := by rw [hBA, bstr_size]; exact hla
      have s3 : B32.size = 1 := by rw [hB32]; rfl
      have s4 : BC.size ≤ 176 := by rw [hBC, bstr_size]; omega
      have s5 : B10.size = 1 := by rw [hB10]; rfl
      rw [← hBC] at HJ
      rw [← hBA] at HC
      have ew : (⟨#[112, 105, 99, 107, 32]⟩ : ByteArray) = W0 := hW0.symm
      have e32 : (⟨#[32]⟩ : ByteArray) = B32 := hB32.symm
      have e10 : (⟨#[10]⟩ : ByteArray) = B10 := hB10.symm
      have g1 : (9223372036854775807 < W0.size + BA.size) = False := eq_false (by omega)
      have g2 : (9223372036854775807 < W0.size + BA.size + B32.size) = False := eq_false (by omega)
      have g3 : (9223372036854775807 < W0.size + BA.size + B32.size + BC.size) = False := eq_false (by omega)
      have g4 : (9223372036854775807 < W0.size + BA.size + B32.size + BC.size + B10.size) = False := eq_false (by omega)
      clear hBA hBC hW0 hB32 hB10 s1 s2 s3 s4 s5 HT3 hap hsz hil hcap HO hla hlcm
      obtain ⟨cHX5, fHX5, sHX5, nHX5⟩ := HX5.out.all
      try simp only [cbox] at cHX5
      go_wp2_with fail
      -- STOP-d
      refine HC.out.mono ?_
      rintro e w2 ⟨rfl, hb2⟩
      have HB2 := hid hb2
      clear cHX5 fHX5 sHX5 nHX5
      clear hb2 HC
      go_wp2_with fail
      -- STOP-e
      refine (HJ.out w2 HB2.out).mono ?_
      rintro e w3 ⟨rfl, hb3⟩
      have HB3 := hid (Below.step' (Below.step' HBW.out HB2.out) hb3)
      clear hb3 HJ
      go_wp2_with fail
      -- STOP-f
      go_ret
      exact ⟨by rw [← HFIN.out]; rfl, Below.step' HB.out HB3.out⟩
theorem text_any (x : SR) (w : World) (h : StTx x.st) (hr : Row w w.heap.size x.A (icells' x.st.list)) (ht : Pow w) :
    Calls Tryd.prog 17 #[.agg x.cells.toArray] w (TextPost x.st w) := by
  obtain ⟨⟨k, a, b, col, op, val, l⟩, A, c⟩ := x
  simp only at h hr ⊢
  have hk := h.kind
  simp only at hk
  have : k = 1 ∨ k = 2 ∨ k = 3 ∨ k = 4 ∨ k = 5 ∨ k = 6 ∨ k = 7 ∨ k = 8 ∨ k = 9 := by omega
  rcases this with rfl | rfl | rfl | rfl | rfl | rfl | rfl | rfl | rfl
  · exact text_k1 a b col op val l A c w h ht
  · exact text_k2 a b col op val l A c w h ht
  · exact text_k3 a b col op val l A c w h hr ht
  · exact text_k4 a b col op val l A c w h ht
  · exact text_k5 a b col op val l A c w h ht
  · exact text_k6 a b col op val l A c w h ht
  · exact text_k7 a b col op val l A c w h ht
  · exact text_k8 a b col op val l A c w h ht
  · exact text_k9 a b col op val l A c w h ht
end Go.Proofs.YtamlaeocojcgdaaDoor
/- query.Print, query.Width. -/
namespace Go.Proofs.YtamlaeocojcgdaaDoor
set_option linter.unusedVariables false
set_option linter.unusedSimpArgs false
open Go.ChangeShapes Go.WideShapes Go.ChangeAt Go.RowKit

def printT (q : List St) : List UInt8 := if queryE q = 0 then queryT q else []
def widthN (q : List St) (i : Int) : Int := if queryE q = 0 ∧ 0 ≤ i ∧ i < (q.length : Int) then (queryW q).getD i.toNat 0 else 0
def widthE (q : List St) (i : Int) : Int := if queryE q ≠ 0 then queryE q else if 0 ≤ i ∧ i < (q.length : Int) then 0 else 4
theorem queryW_len {q : List St} (h : queryE q = 0) : (queryW q).length = q.length := by
  unfold queryW
  rw [if_pos h]
  obtain ⟨-, -, W, hW⟩ := queryE_zero.1 h
  rw [hW]
  have := (widsL_len hW).1
  simpa using this
set_option maxHeartbeats 2000000 in
set_option maxRecDepth 100000 in
theorem qprint_any (L : List SR) (A : Option Addr) (c : Nat) (w : World) (hr : RowS w w.heap.size A L) (hl : L.length ≤ 9223372036854775807) (ht : Pow w) :
    Calls Tryd.prog 10 #[.slice A L.length c] w fun e w' => e = .returned (.tuple #[.string (bstr (printT (sts L))), .int .i64 (queryE (sts L))]) ∧ Below w.heap.size w w' := by
  have HC := hid (qcheck_any L A c w hr hl)
  have HR := hid hr
  have HT := hid ht
  have HOK := hid (fun h => stTx_query (q := sts L) h)
  have hPT : printT (sts L) = if queryE (sts L) = 0 then queryT (sts L) else [] := rfl
  have HPT := hid hPT
  obtain ⟨E, hE⟩ : ∃ q, q = queryE (sts L) := ⟨_, rfl⟩
  obtain ⟨T, hT⟩ : ∃ q, q = printT (sts L) := ⟨_, rfl⟩
  rw [← hE] at HC HOK HPT ⊢
  rw [← hT] at HPT ⊢
  have hap := bstr_app
  have hsz := bstr_size
  clear hr ht hPT hE hT
  go_enter Tryd.func10, Tryd.ntmps10
  go_wp2_with fail
  -- STOP-a
  refine HC.out.mono ?_
  rintro e w1 ⟨rfl, hb1⟩
  have HB1 := hid hb1
  clear hb1 HC
  by_cases hz : E = 0
  rotate_left
  · have t1 : (E != 0) = true := by simpa using hz
    have HTN := hid (show T = [] by rw [HPT.out, if_neg hz])
    clear hz
    go_wp2_with fail
    -- STOP-b
    go_ret2
    exact ⟨by rw [HTN.out]; rfl, HB1.out⟩
  have HTN := hid (show T = queryT (sts L) by rw [HPT.out, if_pos hz])
  obtain ⟨hl8, -, hst⟩ := HOK.out hz
  have HST := hid hst
  have hl8' : L.length ≤ 8 := by simpa using hl8
  subst hz
  clear HPT HOK hst hl8
  go_wp2_with fail
  -- STOP-c
  go_loopw [5, 15] (fun s5 s15 wr => ∃ i : Nat, i ≤ L.length ∧ s15 = .int .i64 i ∧ s5 = .string (bstr (queryT (sts (L.take i)))) ∧ Hid (Below w.heap.size w wr)) (fun _ s15 _ => L.length - (intOf s15).toNat)
  case atStart => exact ⟨0, by omega, rfl, rfl, HB1⟩
  case round =>
    obtain ⟨i, hi, rfl, rfl, HB⟩ := hrel
    obtain ⟨wo, rfl⟩ : ∃ q : World, q = wr := ⟨_, rfl⟩
    by_cases hlt : i < L.length
    · have t1 : ((i : Int) < (L.length : Int)) = True := eq_true (by omega)
      have HN := hid (show queryT (sts (L.take (i + 1))) = queryT (sts (L.take i)) ++ stepT L[i].st by rw [List.take_succ_eq_append_getElem hlt, sts, List.map_append, List.map_singleton, queryT_snoc])
      have hnl : (queryT (sts (L.take i))).length ≤ 2000 := by
        have h1 := queryT_len (q := sts (L.take i)) (fun s hs => HST.out s (by
          obtain ⟨x, hx, rfl⟩ := List.mem_map.1 hs
          exact List.mem_map.2 ⟨x, List.mem_of_mem_take hx, rfl⟩))
        have h2 : (sts (L.take i)).length ≤ 8 := by rw [List.length_map, List.length_take]; omega
        omega
      obtain ⟨b, off, rfl, hb, c0, c1, c2, c3, c4, c5, c6⟩ := (HR.out.step HB.out).1.sr hlt
      have hsx : StTx L[i].st := HST.out _ (List.mem_map.2 ⟨L[i], List.getElem_mem hlt, rfl⟩)
      have HXR := hid ((HR.out.step HB.out).2 _ (List.getElem_mem hlt)).1
      generalize L[i] = x at *
      obtain ⟨S, hS⟩ : ∃ S, S = queryT (sts (L.take i)) := ⟨_, rfl⟩
      rw [← hS] at HN hnl ⊢
      clear hS
      have hxl := stepT_len hsx
      have HC := hid (fun w1 (hb : Below wo.heap.size wo w1) => text_any x w1 hsx (HXR.out.step hb) (Pow.step HT.out (Below.step' HB.out hb)))
      unfold TextPost at HC
      obtain ⟨I, hI⟩ : ∃ I, I = stepT x.st := ⟨_, rfl⟩
      rw [← hI] at HN hxl
      simp only [← hI] at HC
      clear hI hsx
      obtain ⟨⟨x1, x2, x3, x4, x5, x6, xl⟩, xA, xk⟩ := x
      simp only [SR.cells] at c0 c1 c2 c3 c4 c5 c6 HC
      obtain ⟨W, hW⟩ : ∃ W : World, W = wo.alloc (.cells #[.int .i64 x1, .int .i64 x2, .int .i64 x3, .int .i64 x4, .int .i64 x5, .int .i64 x6, .slice xA xl.length xk] 40) := ⟨_, rfl⟩
      have hWB : Below wo.heap.size wo W := by rw [hW]; exact alloc_below (Below.refl _ _) _
      have HXB := hid (show Blk W wo.heap.size #[.int .i64 x1, .int .i64 x2, .int .i64 x3, .int .i64 x4, .int .i64 x5, .int .i64 x6, .slice xA xl.length xk] 40 by rw [hW]; exact Blk.new _ _ _)
      go_upto_region 8 with fail
      -- STOP-d
      rw [← hW]
      clear hW c0 c1 c2 c3 c4 c5 c6
      obtain ⟨cHXB, fHXB, sHXB, nHXB⟩ := HXB.out.all
      try simp only [cbox] at cHXB
      go_wp2_with fail
      -- STOP-e
      refine (HC.out W hWB).mono ?_
      rintro e w2 ⟨rfl, hb2⟩
      have HB2 := hid (Below.step' (Below.step' HB.out hWB) hb2)
      clear cHXB fHXB sHXB nHXB
      clear hb2 HC hWB
      go_wp2_with fail
      -- STOP-f
      go_roundw
      case rel => exact ⟨i + 1, by omega, by go_num, by rw [HN.out], HB2⟩
      case measure => simp [intOf]; omega
    · have t1 : ((i : Int) < (L.length : Int)) = False := eq_false (by omega)
      have hil : L.take i = L := List.take_of_length_le (by omega)
      rw [hil]
      go_wp2_with fail
      -- STOP-g
      go_ret2
      exact ⟨by rw [HTN.out]; rfl, HB.out⟩
set_option maxHeartbeats 2000000 in
set_option maxRecDepth 100000 in
theorem qwidth_any (L : List SR) (A : Option Addr) (c : Nat) (i : Int) (w : World) (hr : RowS w w.heap.size A L) (hl : L.length ≤ 9223372036854775807) :
    Calls Tryd.prog 11 #[.slice A L.length c, .int .i64 i] w fun e w' => e = .returned (.tuple #[.int .i64 (widthN (sts L) i), .int .i64 (widthE (sts L) i)]) ∧ Below w.heap.size w w' := by
  have HC := hid (widths_any L A c w hr hl)
  have HQL := hid (fun h : queryE (sts L) = 0 => (queryW_len h).trans (List.length_map ..))
  have hN : widthN (sts L) i = if queryE (sts L) = 0 ∧ 0 ≤ i ∧ i < (L.length : Int) then (queryW (sts L)).getD i.toNat 0 else 0 := by unfold widthN; rw [List.length_map]
  have hE' : widthE (sts L) i = if queryE (sts L) ≠ 0 then queryE (sts L) else if 0 ≤ i ∧ i < (L.length : Int) then 0 else 4 := by unfold widthE; rw [List.length_map]
  rw [hN, hE']
  obtain ⟨E, hE⟩ : ∃ q, q = queryE (sts L) := ⟨_, rfl⟩
  obtain ⟨V, hV⟩ : ∃ q, q = queryW (sts L) := ⟨_, rfl⟩
  rw [← hE, ← hV] at HC HQL
  rw [← hE, ← hV]
  obtain ⟨N1, hN1⟩ : ∃ q, q = if E = 0 ∧ 0 ≤ i ∧ i < (L.length : Int) then V.getD i.toNat 0 else 0 := ⟨_, rfl⟩
  obtain ⟨E1, hE1⟩ : ∃ q, q = if E ≠ 0 then E else if 0 ≤ i ∧ i < (L.length : Int) then 0 else 4 := ⟨_, rfl⟩
  rw [← hN1, ← hE1]
  have HN1 := hid hN1
  have HE1 := hid hE1
  clear hr hN hE' hE hV hN1 hE1
  go_enter Tryd.func11, Tryd.ntmps11
  go_wp2_with fail
  -- STOP-h
  refine HC.out.mono ?_
  rintro e w1 ⟨v, rfl, ho, hb1⟩
  obtain ⟨A1, k1, rfl⟩ := own_formS ho
  have HO := hid ho
  have HB1 := hid hb1
  clear ho hb1 HC
  by_cases hz : E = 0
  rotate_left
  · have t1 : (E != 0) = true := by simpa using hz
    have HZ := hid (show N1 = 0 ∧ E1 = E from ⟨by rw [HN1.out, if_neg (fun h => hz h.1)], by rw [HE1.out, if_pos hz]⟩)
    clear hz
    go_wp2_with fail
    -- STOP-i
    go_ret2
    exact ⟨by rw [HZ.out.1, HZ.out.2]; rfl, HB1.out⟩
  have hql := HQL.out hz
  subst hz
  have HQ := hid hql
  by_cases h1 : i < 0
  · have t1 : (i < 0) = True := eq_true h1
    have HZ := hid (show N1 = 0 ∧ E1 = 4 from ⟨by rw [HN1.out, if_neg (fun h => by omega)], by rw [HE1.out, if_neg (by simp), if_neg (fun h => by omega)]⟩)
    clear h1 hql
    go_wp2_with fail
    -- STOP-j
    go_ret2
    exact ⟨by rw [HZ.out.1, HZ.out.2]; rfl, HB1.out⟩
  have t1 : (i < 0) = False := eq_false h1
  by_cases h2 : i < (L.length : Int)
  · obtain ⟨j, rfl⟩ : ∃ j : Nat, i = (j : Int) := ⟨i.toNat, by omega⟩
    have hj : j < V.length := by omega
    have t2 : ((V.length : Int) ≤ (j : Int)) = False := eq_false (by omega)
    obtain ⟨b, off, rfl, hb, c0⟩ := (Row.of_ownS HO.out).int' hj
    have hgd : V.getD j 0 = V[j] := by rw [List.getD_eq_getElem?_getD, List.getElem?_eq_getElem hj]; rfl
    have HG := hid (show N1 = V[j] ∧ E1 = 0 from ⟨by rw [HN1.out, if_pos ⟨rfl, by omega, h2⟩, show ((j : Int)).toNat = j by omega, hgd], by rw [HE1.out, if_neg (by simp), if_pos ⟨by omega, h2⟩]⟩)
    generalize V[j] = n at *
    have hj0 : (0 : Int) ≤ (j : Int) := by omega
    have hj2 : (j : Int) < (V.length : Int) := by omega
    clear h2 hql h1 hgd
    go_wp2_with fail
    -- STOP-k
    go_ret2
    exact ⟨by rw [HG.out.1, HG.out.2]; rfl, HB1.out⟩
  · have t2 : ((V.length : Int) ≤ i) = True := eq_true (by omega)
    have HZ := hid (show N1 = 0 ∧ E1 = 4 from ⟨by rw [HN1.out, if_neg (fun h => h2 h.2.2)], by rw [HE1.out, if_neg (by simp), if_neg (fun h => h2 h.2)]⟩)
    clear h2 hql
    go_wp2_with fail
    -- STOP-l
    go_ret2
    exact ⟨by rw [HZ.out.1, HZ.out.2]; rfl, HB1.out⟩
end Go.Proofs.YtamlaeocojcgdaaDoor
/- viewref.Widths, step by step: plain. -/
namespace Go.Proofs.YtamlaeocojcgdaaDoor
set_option linter.unusedVariables false
set_option linter.unusedSimpArgs false

def refBad1 (s : St) (last : Int) : Bool := !wiB s.kind 1 9 || (!wiB s.a 0 last || ((!twoB s && s.b != 0) || ((twoB s && !wiB s.b 0 last) || (s.list.length != 0 && s.kind != 3))))
def refN (s : St) (a b : Int) : Int := if s.kind = 3 then (s.list.length : Int) else if s.kind = 4 then a + b else if s.kind = 8 ∨ s.kind = 9 then 2 else a
def refOk (s : St) (a b : Int) : Bool :=
  if s.kind = 2 then wiB s.op 1 3 && wiB s.val (-1073741824) 1073741824
  else if s.kind = 3 then wiB (s.list.length : Int) 1 8 && s.list.all (fun n => wiB n 0 (a - 1))
  else if s.kind = 4 then decide (a + b ≤ 8) && wiB s.val 0 (b - 1)
  else if s.kind = 5 ∨ s.kind = 6 then a == b
  else if s.kind = 9 then wiB s.val 0 (a - 1)
  else true
def refCol (s : St) : Bool := s.kind == 2 || (s.kind == 4 || (s.kind == 8 || s.kind == 9))
def refOp (s : St) : Bool := s.kind == 2
def refVal (s : St) : Bool := s.kind == 2 || (s.kind == 4 || s.kind == 9)
def refBad2 (s : St) (a b : Int) : Bool := !refOk s a b || ((refCol s && !wiB s.col 0 (a - 1)) || ((!refCol s && s.col != 0) || ((!refOp s && s.op != 0) || (!refVal s && s.val != 0))))
theorem ite_two {c1 c2 d1 d2 : Bool} {n : Int} (h : (c1 = false ∧ c2 = true) ↔ (d1 = false ∧ d2 = false)) : (if c1 = true then 0 else if c2 = true then n else 0) = (if d1 = true then 0 else if d2 = true then 0 else n) := by
  cases c1 <;> cases c2 <;> cases d1 <;> cases d2 <;> simp at h ⊢
theorem allWi_not (l : List Int) (a : Int) : l.all (fun n => wiB n 0 (a - 1)) = !l.any (fun n => !wiB n 0 (a - 1)) := by
  induction l with
  | nil => rfl
  | cons x l ih => simp only [List.all_cons, List.any_cons, ih]; cases wiB x 0 (a - 1) <;> simp
theorem ref_step (s : St) (W : List Int) (hk : s.kind ≠ 1) :
    stW s W = if refBad1 s ((W.length : Int) - 1) = true then 0 else if refBad2 s (W.getD s.a.toNat 0) (W.getD s.b.toNat 0) = true then 0 else refN s (W.getD s.a.toNat 0) (W.getD s.b.toNat 0) := by
  unfold stW
  rw [if_neg hk]
  generalize W.getD s.a.toNat 0 = a
  generalize W.getD s.b.toNat 0 = b
  generalize (W.length : Int) - 1 = last
  by_cases hw : wiB s.kind 1 9 = true
  · rw [wiB_iff] at hw
    obtain ⟨k, sa, sb, sc, so, sv, sl⟩ := s
    simp only at hk hw ⊢
    have hcase : k = 2 ∨ k = 3 ∨ k = 4 ∨ k = 5 ∨ k = 6 ∨ k = 7 ∨ k = 8 ∨ k = 9 := by omega
    rcases hcase with rfl | rfl | rfl | rfl | rfl | rfl | rfl | rfl
    · have e : ofW ⟨2, sa, sb, sc, so, sv, sl⟩ a b = if (wiB sc 0 (a - 1) && (wiB so 1 3 && wiB sv (-1073741824) 1073741824)) = true then a else 0 := rfl
      rw [e]
      refine ite_two ?_
      simp [badStep, refBad1, refBad2, twoB, refOk, refCol, refOp, refVal, wiB]
      try omega
    · have e : ofW ⟨3, sa, sb, sc, so, sv, sl⟩ a b = if (noneB ⟨3, sa, sb, sc, so, sv, sl⟩ && (decide (sl.length ≤ 8) && !sl.any (fun n => !wiB n 0 (a - 1)))) = true then (sl.length : Int) else 0 := rfl
      rw [e]
      refine ite_two ?_
      have e2 : refOk ⟨3, sa, sb, sc, so, sv, sl⟩ a b = (wiB (sl.length : Int) 1 8 && !sl.any (fun n => !wiB n 0 (a - 1))) := by rw [← allWi_not]; rfl
      unfold refBad2
      rw [e2]
      generalize sl.any (fun n => !wiB n 0 (a - 1)) = q
      cases q
      · simp [badStep, refBad1, twoB, refCol, refOp, refVal, noneB, wiB]
        omega
      · simp [badStep, refBad1, twoB, refCol, refOp, refVal, noneB, wiB]
    · have e : ofW ⟨4, sa, sb, sc, so, sv, sl⟩ a b = if (wiB sc 0 (a - 1) && (so == 0 && (wiB sv 0 (b - 1) && decide (a + b ≤ 8)))) = true then a + b else 0 := rfl
      rw [e]
      refine ite_two ?_
      simp [badStep, refBad1, refBad2, twoB, refOk, refCol, refOp, refVal, wiB]
      try omega
    · have e : ofW ⟨5, sa, sb, sc, so, sv, sl⟩ a b = if (noneB ⟨5, sa, sb, sc, so, sv, sl⟩ && a == b) = true then a else 0 := rfl
      rw [e]
      refine ite_two ?_
      simp [badStep, refBad1, refBad2, twoB, refOk, refCol, refOp, refVal, noneB, wiB]
      try omega
    · have e : ofW ⟨6, sa, sb, sc, so, sv, sl⟩ a b = if (noneB ⟨6, sa, sb, sc, so, sv, sl⟩ && a == b) = true then a else 0 := rfl
      rw [e]
      refine ite_two ?_
      simp [badStep, refBad1, refBad2, twoB, refOk, refCol, refOp, refVal, noneB, wiB]
      try omega
    · have e : ofW ⟨7, sa, sb, sc, so, sv, sl⟩ a b = if noneB ⟨7, sa, sb, sc, so, sv, sl⟩ = true then a else 0 := rfl
      rw [e]
      refine ite_two ?_
      simp [badStep, refBad1, refBad2, twoB, refOk, refCol, refOp, refVal, noneB, wiB]
      try omega
    · have e : ofW ⟨8, sa, sb, sc, so, sv, sl⟩ a b = if (wiB sc 0 (a - 1) && (so == 0 && sv == 0)) = true then 2 else 0 := rfl
      rw [e]
      refine ite_two ?_
      simp [badStep, refBad1, refBad2, twoB, refOk, refCol, refOp, refVal, wiB]
      try omega
    · have e : ofW ⟨9, sa, sb, sc, so, sv, sl⟩ a b = if (wiB sc 0 (a - 1) && (so == 0 && wiB sv 0 (a - 1))) = true then 2 else 0 := rfl
      rw [e]
      refine ite_two ?_
      simp [badStep, refBad1, refBad2, twoB, refOk, refCol, refOp, refVal, wiB]
      try omega
  · have hb : refBad1 s last = true := by unfold refBad1; rw [Bool.not_eq_true _ |>.mp hw]; rfl
    rw [hb, if_pos rfl]
    have ho : ofW s a b = 0 := by
      have hw' : ¬ (1 ≤ s.kind ∧ s.kind ≤ 9) := fun h => hw (wiB_iff.2 h)
      unfold ofW
      rw [if_neg (by omega), if_neg (by omega), if_neg (by omega), if_neg (by omega), if_neg (by omega), if_neg (by omega), if_neg (by omega)]
    rw [ho]
    split <;> rfl
end Go.Proofs.YtamlaeocojcgdaaDoor
/- Contracts of the small functions of the packages cmp and dot. -/
namespace Go.Proofs.YtamlaeocojcgdaaDoor
set_option linter.unusedVariables false
open Go.ChangeShapes Go.WideShapes Go.ChangeAt Go.RowKit

def inB (n lo hi : Int) : Bool := decide (lo ≤ n) && decide (n ≤ hi)

theorem in_any (n lo hi : Int) (w : World) :
    Calls Tryd.prog 9 #[.int .i64 n, .int .i64 lo, .int .i64 hi] w fun e w' => e = .returned (.bool (inB n lo hi)) ∧ w = w' := by
  go_enter Tryd.func9, Tryd.ntmps9
  go_wp2
  all_goals go_ret
  all_goals (refine ⟨?_, rfl⟩; first | (simp [inB, *]; done) | (simp [inB, *]; omega) | (simp [inB]; omega))

end Go.Proofs.YtamlaeocojcgdaaDoor
