/- QtD, QtE, QrC, QrE -/
import Derived.Test.YtamlaeocojcgdaaDoorQueryBackCardS06
import Derived.Lib.Join
/- query.text at pick; query.text; query.Print. -/
namespace Go.Proofs.YtamlaeocojcgdaaDoor
set_option linter.unusedVariables false
set_option linter.unusedSimpArgs false
open Go.ChangeShapes Go.WideShapes Go.ChangeAt Go.RowKit

theorem elem_strs : Elem Tryd.prog 44 9 1 16 := ⟨Tryd.underlying44, by
  obtain ⟨i, hi, hz, hs, hb⟩ := info_parts (P := Tryd.prog) (e := 9) (z := .string ⟨#[]⟩) (size := 1) (bytes := 16) (by kernel_rfl)
  exact ⟨i, _, hi, hz, hs, hb, rfl⟩, by decide⟩
theorem join_comma (l : List Int) : Lib.join (l.map Lib.itoa) [44] = commaT l := by
  cases l with
  | nil => rfl
  | cons n l =>
    rw [List.map_cons, Lib.join_cons]
    show _ = Lib.itoa n ++ tailC l
    congr 1
    unfold Lib.joinTail
    induction l with
    | nil => rfl
    | cons m l ih =>
      rw [List.map_cons, List.map_cons, List.flatten_cons, ih]
      rfl
abbrev sitoas (l : List Int) : List Value := l.map (fun n => Value.string (bstr (Lib.itoa n)))
theorem step_t3 (a b col op val : Int) (l : List Int) (h : l.length ≠ 0) : stepT ⟨3, a, b, col, op, val, l⟩ = ((([112, 105, 99, 107, 32] ++ Lib.itoa a) ++ [32]) ++ commaT l) ++ [10] := by
  simp [stepT, argsT, verbB, numT, h]
set_option maxHeartbeats 4000000 in
set_option maxRecDepth 100000 in
theorem text_k3 (a b col op val : Int) (l : List Int) (A : Option Addr) (c : Nat) (w : World) (h : StTx ⟨3, a, b, col, op, val, l⟩) (hr : Row w w.heap.size A (icells' l)) (ht : Pow w) :
    Calls Tryd.prog 17 #[.agg #[.int .i64 3, .int .i64 a, .int .i64 b, .int .i64 col, .int .i64 op, .int .i64 val, .slice A l.length c]] w (TextPost ⟨3, a, b, col, op, val, l⟩ w) := by
  unfold TextPost
  have hl0 : 0 < l.length := h.pick.2 rfl
  have HT3 := hid (step_t3 a b col op val l (by omega))
  have h1 := h.a; have h8 := h.len; have hli := h.list
  simp only at h1 h8 hli
  obtain ⟨wa, hwa⟩ : ∃ q : World, q = w.alloc (.cells #[.int .i64 3, .int .i64 a, .int .i64 b, .int .i64 col, .int .i64 op, .int .i64 val, .slice A l.length c] 40) := ⟨_, rfl⟩
  have hb : Below w.heap.size w wa := by rw [hwa]; exact alloc_below (Below.refl _ _) _
  have HX := hid (show Blk wa w.heap.size #[.int .i64 3, .int .i64 a, .int .i64 b, .int .i64 col, .int .i64 op, .int .i64 val, .slice A l.length c] 40 by rw [hwa]; exact Blk.new _ _ _)
  have hwl : w.heap.size < wa.heap.size := HX.out.lt
  have HR := hid (hr.step hb)
  have HP := hid (Pow.step ht hb)
  have HB := hid hb
  have hsz := bstr_size
  have hap := bstr_app
  have hla := itoa21 (n := a) (by omega)
  have hlcm := commaT_len hli
  clear h hr ht hb
  obtain ⟨cHX, fHX, sHX, nHX⟩ := HX.out.all
  try simp only [cbox] at cHX
  go_enter Tryd.func17, Tryd.ntmps17
  go_upto_region 8 with fail
  rw [← hwa]
  clear hwa
  go_wp2_with fail
  clear cHX fHX sHX nHX
  -- STOP-a
  go_loopw [3, 40] (fun s3 s40 wr => ∃ i : Nat, i ≤ l.length ∧ s40 = .int .i64 i ∧ Hid (wr.ownsRow wa.heap.size 9 1 s3 i (sitoas (l.take i))) ∧ Hid (Below wa.heap.size wa wr)) (fun _ s40 _ => l.length - (intOf s40).toNat)
  case atStart => exact ⟨0, by omega, rfl, hid (World.ownsRow_nil _ _ _ _), hid (Below.refl _ _)⟩
  case round =>
    obtain ⟨i, hi, rfl, HO, HBW⟩ := hrel
    obtain ⟨wo, rfl⟩ : ∃ q : World, q = wr := ⟨_, rfl⟩
    obtain ⟨A3, c3, rfl⟩ := own_formS HO.out
    have hzo : wa.heap.size ≤ wo.heap.size := HBW.out.size
    by_cases hlt : i < l.length
    · have t1 : ((i : Int) < (l.length : Int)) = True := eq_true (by omega)
      have HTS := hid (show sitoas (l.take (i + 1)) = sitoas (l.take i) ++ [.string (bstr (Lib.itoa l[i]))] by rw [List.take_succ_eq_append_getElem hlt, sitoas, List.map_append]; rfl)
      obtain ⟨b1, off, rfl, hb1, c0⟩ := (HR.out.step HBW.out).int' hlt
      have h64 := hli _ (List.getElem_mem hlt)
      generalize l[i] = x at *
      have HC := hid (itoaN_any x (by omega) wo (Pow.step HP.out HBW.out))
      obtain ⟨I, hI⟩ : ∃ I, I = bstr (Lib.itoa x) := ⟨_, rfl⟩
      rw [← hI] at HC HTS
      clear hI
      go_wp2_with fail
      -- STOP-b
      refine HC.out.mono ?_
      rintro e w2 ⟨rfl, hb2⟩
      have HB2 := hid (Below.step' HBW.out hb2)
      have HO2 := hid (own_laterS HO.out hb2)
      have hz2 : wa.heap.size ≤ w2.heap.size := HB2.out.size
      have hone : ∀ u ∈ ([.string I] : List Value), u.oneCell' = true := fun u hu => by rw [List.mem_singleton.1 hu]; rfl
      clear hb2 HC
      go_wp2_with (at_builtin; refine wpList_append_row elem_strs rfl _ _ rfl wa.heap.size _ _ _ rfl (HO2.out.alloc _) (some ⟨w2.heap.size, 0, none⟩) 1 1 (w2.heap.size + 1) [.string I] rfl rfl (Row.new' _ _ _ rfl rfl (Nat.lt_succ_self _)) hone ?_ ?_ ?_ ?_; rotate_right; intro v7 w7 hown7 hg7 hif7; rotate_left; (simp only [maxLen]; omega); (omega); (simp; omega))
      -- STOP-c
      have HO7 := hid hown7
      have HB7 := hid (Below.grown (alloc_below HB2.out (.cells #[.string I] 9)) hg7 (by simp; omega) (fun g e => (HO2.out.lt g e).1))
      clear hown7 hg7 hif7 hone
      go_roundw
      case rel => exact ⟨i + 1, by omega, by go_num, hid (by rw [HTS.out]; exact HO7.out), HB7⟩
      case measure => simp [intOf]; omega
    · have t1 : ((i : Int) < (l.length : Int)) = False := eq_false (by omega)
      have hil : l.take i = l := List.take_of_length_le (by omega)
      have hie : i = l.length := by omega
      rw [hil] at HO
      subst hie
      have HX5 := hid (HX.out.step HBW.out)
      have HC := hid (itoaN_any a (by omega) wo (Pow.step HP.out HBW.out))
      obtain ⟨g, hg⟩ : ∃ g, A3 = some ⟨g, 0, none⟩ := by
        rcases HO.out.2 with ⟨e, h0⟩ | ⟨g, cap, cur, e, -⟩
        · omega
        · injection e with e; exact ⟨g, e⟩
      subst hg
      have hcap := (World.ownsRow.form HO.out (by omega))
      have hcc : l.length ≤ c3 := by
        rcases HO.out.2 with ⟨e, h0⟩ | ⟨g, cap, cur, e, -, -, hc, -⟩
        · omega
        · injection e with e1 e2 e3; omega
      have HJ := hid (fun (w2 : World) (hb2 : Below wo.heap.size wo w2) => show Calls Tryd.prog 30 #[.slice (some ⟨g, 0, none⟩) l.length c3, .string ⟨#[44]⟩] w2 fun e w' => e = .returned (.string (bstr (commaT l))) ∧ Below w2.heap.size w2 w' from by
        have hown := own_laterS HO.out hb2
        have hlm : (l.map (fun n => bstr (Lib.itoa n))).length = l.length := List.length_map ..
        have hmm : ((l.map (fun n => bstr (Lib.itoa n))).map (·.data.toList)) = l.map Lib.itoa := by simp [Function.comp_def]
        have hj := Tryd.strings_Join g 0 c3 (l.map (fun n => bstr (Lib.itoa n))) ⟨#[44]⟩ w2 (fun j x hx => by
            have := hown.cells (g := g) rfl j (.string x) (by
              rw [sitoas, List.getElem?_map]
              rw [List.getElem?_map] at hx
              cases hq : l[j]? with
              | none => rw [hq] at hx; simp at hx
              | some n => rw [hq] at hx; simp at hx ⊢; rw [hx])
            rwa [addr_add] at this) (hown.lt g rfl).2 (by rw [hlm]; omega) (by rw [hlm]; exact hcc) (by
            rw [hmm, show (ByteArray.mk #[44]).data.toList = [44] from rfl, join_comma]
            omega)
        rw [hlm, hmm, show (ByteArray.mk #[44]).data.toList = [44] from rfl, join_comma] at hj
        exact hj)
      obtain ⟨BA, hBA⟩ : ∃ q, q = bstr (Lib.itoa a) := ⟨_, rfl⟩
      obtain ⟨BC, hBC⟩ : ∃ q, q = bstr (commaT l) := ⟨_, rfl⟩
      obtain ⟨W0, hW0⟩ : ∃ q, q = bstr [112, 105, 99, 107, 32] := ⟨_, rfl⟩
      obtain ⟨B32, hB32⟩ : ∃ q, q = bstr [32] := ⟨_, rfl⟩
      obtain ⟨B10, hB10⟩ : ∃ q, q = bstr [10] := ⟨_, rfl⟩
      have HFIN := hid (show (((W0 ++ BA) ++ B32) ++ BC) ++ B10 = bstr (stepT ⟨3, a, b, col, op, val, l⟩) by
        rw [HT3.out, hW0, hBA, hB32, hBC, hB10]
        simp only [bstr_app, List.append_assoc])
      have s1 : W0.size = 5 := by rw [hW0]; rfl
      have s2 : BA.size ≤ 21 := by rw [hBA, bstr_size]; exact hla
      have s3 : B32.size = 1 := by rw [hB32]; rfl
      have s4 : BC.size ≤ 176 := by rw [hBC, bstr_size]; omega
      have s5 : B10.size = 1 := by rw [hB10]; rfl
      rw [← hBC] at HJ
      rw [← hBA] at HC
      have ew : (⟨#[112, 105, 99, 107, 32]⟩ : ByteArray) = W0 := hW0.symm
      have e32 : (⟨#[32]⟩ : ByteArray) = B32 := hB32.symm
      have e10 : (⟨#[10]⟩ : ByteArray) = B10 := hB10.symm
      have g1 : (9223372036854775807 < W0.size + BA.size) = False := eq_false (by omega)
      have g2 : (9223372036854775807 < W0.size + BA.size + B32.size) = False := eq_false (by omega)
      have g3 : (9223372036854775807 < W0.size + BA.size + B32.size + BC.size) = False := eq_false (by omega)
      have g4 : (9223372036854775807 < W0.size + BA.size + B32.size + BC.size + B10.size) = False := eq_false (by omega)
      clear hBA hBC hW0 hB32 hB10 s1 s2 s3 s4 s5 HT3 hap hsz hil hcap HO hla hlcm
      obtain ⟨cHX5, fHX5, sHX5, nHX5⟩ := HX5.out.all
      try simp only [cbox] at cHX5
      go_wp2_with fail
      -- STOP-d
      refine HC.out.mono ?_
      rintro e w2 ⟨rfl, hb2⟩
      have HB2 := hid hb2
      clear cHX5 fHX5 sHX5 nHX5
      clear hb2 HC
      go_wp2_with fail
      -- STOP-e
      refine (HJ.out w2 HB2.out).mono ?_
      rintro e w3 ⟨rfl, hb3⟩
      have HB3 := hid (Below.step' (Below.step' HBW.out HB2.out) hb3)
      clear hb3 HJ
      go_wp2_with fail
      -- STOP-f
      go_ret
      exact ⟨by rw [← HFIN.out]; rfl, Below.step' HB.out HB3.out⟩
theorem text_any (x : SR) (w : World) (h : StTx x.st) (hr : Row w w.heap.size x.A (icells' x.st.list)) (ht : Pow w) :
    Calls Tryd.prog 17 #[.agg x.cells.toArray] w (TextPost x.st w) := by
  obtain ⟨⟨k, a, b, col, op, val, l⟩, A, c⟩ := x
  simp only at h hr ⊢
  have hk := h.kind
  simp only at hk
  have : k = 1 ∨ k = 2 ∨ k = 3 ∨ k = 4 ∨ k = 5 ∨ k = 6 ∨ k = 7 ∨ k = 8 ∨ k = 9 := by omega
  rcases this with rfl | rfl | rfl | rfl | rfl | rfl | rfl | rfl | rfl
  · exact text_k1 a b col op val l A c w h ht
  · exact text_k2 a b col op val l A c w h ht
  · exact text_k3 a b col op val l A c w h hr ht
  · exact text_k4 a b col op val l A c w h ht
  · exact text_k5 a b col op val l A c w h ht
  · exact text_k6 a b col op val l A c w h ht
  · exact text_k7 a b col op val l A c w h ht
  · exact text_k8 a b col op val l A c w h ht
  · exact text_k9 a b col op val l A c w h ht
end Go.Proofs.YtamlaeocojcgdaaDoor
/- query.Print, query.Width. -/
namespace Go.Proofs.YtamlaeocojcgdaaDoor
set_option linter.unusedVariables false
set_option linter.unusedSimpArgs false
open Go.ChangeShapes Go.WideShapes Go.ChangeAt Go.RowKit

def printT (q : List St) : List UInt8 := if queryE q = 0 then queryT q else []
set_option maxHeartbeats 2000000 in
set_option maxRecDepth 100000 in
theorem qprint_any (L : List SR) (A : Option Addr) (c : Nat) (w : World) (hr : RowS w w.heap.size A L) (hl : L.length ≤ 9223372036854775807) (ht : Pow w) :
    Calls Tryd.prog 10 #[.slice A L.length c] w fun e w' => e = .returned (.tuple #[.string (bstr (printT (sts L))), .int .i64 (queryE (sts L))]) ∧ Below w.heap.size w w' := by
  have HC := hid (qcheck_any L A c w hr hl)
  have HR := hid hr
  have HT := hid ht
  have HOK := hid (fun h => stTx_query (q := sts L) h)
  have hPT : printT (sts L) = if queryE (sts L) = 0 then queryT (sts L) else [] := rfl
  have HPT := hid hPT
  obtain ⟨E, hE⟩ : ∃ q, q = queryE (sts L) := ⟨_, rfl⟩
  obtain ⟨T, hT⟩ : ∃ q, q = printT (sts L) := ⟨_, rfl⟩
  rw [← hE] at HC HOK HPT ⊢
  rw [← hT] at HPT ⊢
  have hap := bstr_app
  have hsz := bstr_size
  clear hr ht hPT hE hT
  go_enter Tryd.func10, Tryd.ntmps10
  go_wp2_with fail
  -- STOP-a
  refine HC.out.mono ?_
  rintro e w1 ⟨rfl, hb1⟩
  have HB1 := hid hb1
  clear hb1 HC
  by_cases hz : E = 0
  rotate_left
  · have t1 : (E != 0) = true := by simpa using hz
    have HTN := hid (show T = [] by rw [HPT.out, if_neg hz])
    clear hz
    go_wp2_with fail
    -- STOP-b
    go_ret2
    exact ⟨by rw [HTN.out]; rfl, HB1.out⟩
  have HTN := hid (show T = queryT (sts L) by rw [HPT.out, if_pos hz])
  obtain ⟨hl8, -, hst⟩ := HOK.out hz
  have HST := hid hst
  have hl8' : L.length ≤ 8 := by simpa using hl8
  subst hz
  clear HPT HOK hst hl8
  go_wp2_with fail
  -- STOP-c
  go_loopw [5, 15] (fun s5 s15 wr => ∃ i : Nat, i ≤ L.length ∧ s15 = .int .i64 i ∧ s5 = .string (bstr (queryT (sts (L.take i)))) ∧ Hid (Below w.heap.size w wr)) (fun _ s15 _ => L.length - (intOf s15).toNat)
  case atStart => exact ⟨0, by omega, rfl, rfl, HB1⟩
  case round =>
    obtain ⟨i, hi, rfl, rfl, HB⟩ := hrel
    obtain ⟨wo, rfl⟩ : ∃ q : World, q = wr := ⟨_, rfl⟩
    by_cases hlt : i < L.length
    · have t1 : ((i : Int) < (L.length : Int)) = True := eq_true (by omega)
      have HN := hid (show queryT (sts (L.take (i + 1))) = queryT (sts (L.take i)) ++ stepT L[i].st by rw [List.take_succ_eq_append_getElem hlt, sts, List.map_append, List.map_singleton, queryT_snoc])
      have hnl : (queryT (sts (L.take i))).length ≤ 2000 := by
        have h1 := queryT_len (q := sts (L.take i)) (fun s hs => HST.out s (by
          obtain ⟨x, hx, rfl⟩ := List.mem_map.1 hs
          exact List.mem_map.2 ⟨x, List.mem_of_mem_take hx, rfl⟩))
        have h2 : (sts (L.take i)).length ≤ 8 := by rw [List.length_map, List.length_take]; omega
        omega
      obtain ⟨b, off, rfl, hb, c0, c1, c2, c3, c4, c5, c6⟩ := (HR.out.step HB.out).1.sr hlt
      have hsx : StTx L[i].st := HST.out _ (List.mem_map.2 ⟨L[i], List.getElem_mem hlt, rfl⟩)
      have HXR := hid ((HR.out.step HB.out).2 _ (List.getElem_mem hlt)).1
      generalize L[i] = x at *
      obtain ⟨S, hS⟩ : ∃ S, S = queryT (sts (L.take i)) := ⟨_, rfl⟩
      rw [← hS] at HN hnl ⊢
      clear hS
      have hxl := stepT_len hsx
      have HC := hid (fun w1 (hb : Below wo.heap.size wo w1) => text_any x w1 hsx (HXR.out.step hb) (Pow.step HT.out (Below.step' HB.out hb)))
      unfold TextPost at HC
      obtain ⟨I, hI⟩ : ∃ I, I = stepT x.st := ⟨_, rfl⟩
      rw [← hI] at HN hxl
      simp only [← hI] at HC
      clear hI hsx
      obtain ⟨⟨x1, x2, x3, x4, x5, x6, xl⟩, xA, xk⟩ := x
      simp only [SR.cells] at c0 c1 c2 c3 c4 c5 c6 HC
      obtain ⟨W, hW⟩ : ∃ W : World, W = wo.alloc (.cells #[.int .i64 x1, .int .i64 x2, .int .i64 x3, .int .i64 x4, .int .i64 x5, .int .i64 x6, .slice xA xl.length xk] 40) := ⟨_, rfl⟩
      have hWB : Below wo.heap.size wo W := by rw [hW]; exact alloc_below (Below.refl _ _) _
      have HXB := hid (show Blk W wo.heap.size #[.int .i64 x1, .int .i64 x2, .int .i64 x3, .int .i64 x4, .int .i64 x5, .int .i64 x6, .slice xA xl.length xk] 40 by rw [hW]; exact Blk.new _ _ _)
      go_upto_region 8 with fail
      -- STOP-d
      rw [← hW]
      clear hW c0 c1 c2 c3 c4 c5 c6
      obtain ⟨cHXB, fHXB, sHXB, nHXB⟩ := HXB.out.all
      try simp only [cbox] at cHXB
      go_wp2_with fail
      -- STOP-e
      refine (HC.out W hWB).mono ?_
      rintro e w2 ⟨rfl, hb2⟩
      have HB2 := hid (Below.step' (Below.step' HB.out hWB) hb2)
      clear cHXB fHXB sHXB nHXB
      clear hb2 HC hWB
      go_wp2_with fail
      -- STOP-f
      go_roundw
      case rel => exact ⟨i + 1, by omega, by go_num, by rw [HN.out], HB2⟩
      case measure => simp [intOf]; omega
    · have t1 : ((i : Int) < (L.length : Int)) = False := eq_false (by omega)
      have hil : L.take i = L := List.take_of_length_le (by omega)
      rw [hil]
      go_wp2_with fail
      -- STOP-g
      go_ret2
      exact ⟨by rw [HTN.out]; rfl, HB.out⟩
end Go.Proofs.YtamlaeocojcgdaaDoor
/- query.where, query.pick. -/
namespace Go.Proofs.YtamlaeocojcgdaaDoor
set_option linter.unusedVariables false
set_option linter.unusedSimpArgs false
open Go.ChangeShapes Go.WideShapes Go.ChangeAt Go.RowKit

/-- The cells of a step. -/
abbrev stC (k a b c p v : Int) (l : Value) : Array Value := #[.int .i64 k, .int .i64 a, .int .i64 b, .int .i64 c, .int .i64 p, .int .i64 v, l]
/-- Numbers read into a step leave a step. -/
theorem setL_st (k p : Int) (l : Value) : ∀ (os : List Nat) (ns : List Int) (a b c v : Int), (∀ o ∈ os, o = 1 ∨ o = 2 ∨ o = 3 ∨ o = 5) → ∃ a' b' c' v', setL (stC k a b c p v l) os ns = stC k a' b' c' p v' l
  | [], ns, a, b, c, v, _ => ⟨a, b, c, v, by cases ns <;> rfl⟩
  | o :: os, [], a, b, c, v, _ => ⟨a, b, c, v, rfl⟩
  | o :: os, n :: ns, a, b, c, v, h => by
    have h' : ∀ o ∈ os, o = 1 ∨ o = 2 ∨ o = 3 ∨ o = 5 := fun x hx => h x (by simp [hx])
    rw [setL]
    rcases h o (by simp) with rfl | rfl | rfl | rfl
    · exact setL_st k p l os ns n b c v h'
    · exact setL_st k p l os ns a n c v h'
    · exact setL_st k p l os ns a b n v h'
    · exact setL_st k p l os ns a b c n h'

/-- read, into a step's box. -/
theorem qread_st (ws : List (List UInt8)) (os : List Nat) (n m : Nat) (hn : ws.length = n) (hm : os.length = m) (A : Option Addr) (c cp q b : Nat) (k a0 b0 c0 p0 v0 : Int) (l : Value) (PC : Array Value) (T TP : TypeId) (w : World) (hw : WordsAt w b A ws) (hl : n ≤ 2000) (hl2 : m ≤ 2000)
    (hB : Blk w b (stC k a0 b0 c0 p0 v0 l) T) (hos : ∀ o ∈ os, o = 1 ∨ o = 2 ∨ o = 3 ∨ o = 5) (hP : Blk w q PC TP) (hPC : PC = (os.map fun o => Value.pointer (some ⟨b, o, none⟩)).toArray) (hqb : q ≠ b) :
    Calls Tryd.prog 33 #[.slice A n c, .slice (some ⟨q, 0, none⟩) m cp] w fun e w' => e = .returned (.bool (decide (n = m) && (numsR ws).isSome)) ∧ w.grownBy w' (some b) ∧ ∃ a' b' c' v', Blk w' b (stC k a' b' c' p0 v' l) T ∧
      (n = m → ∀ ms, numsR ws = some ms → setL (stC k a0 b0 c0 p0 v0 l) os ms = stC k a' b' c' p0 v' l) := by
  subst hn hm
  refine (qread_any ws A c os q cp b (stC k a0 b0 c0 p0 v0 l) T w hw hl hB (fun o ho => by rcases hos o ho with h | h | h | h <;> rw [h] <;> show _ < 7 <;> omega) hl2 hqb hP.lt (fun j o hj => ?_)).mono ?_
  · rw [hP.cells.1 j, hPC]
    simp [hj]
  · rintro e w' ⟨he, hg, ps, ns, hx, hps, hns⟩
    refine ⟨he, hg, ?_⟩
    by_cases hok : ws.length = os.length ∧ ∃ ms, numsR ws = some ms
    · obtain ⟨h1, ms, h2⟩ := hok
      obtain ⟨e1, e2⟩ := hns h1 ms h2
      subst e1 e2
      obtain ⟨a', b', c', v', h3⟩ := setL_st k p0 l ps ns a0 b0 c0 v0 hos
      exact ⟨a', b', c', v', h3 ▸ hx, fun _ ms' h' => by rw [Option.some.inj (h'.symm.trans h2)]; exact h3⟩
    · obtain ⟨a', b', c', v', h3⟩ := setL_st k p0 l ps ns a0 b0 c0 v0 (fun o ho => hos o (hps o ho))
      exact ⟨a', b', c', v', h3 ▸ hx, fun h1 ms h2 => absurd ⟨h1, ms, h2⟩ hok⟩
theorem WordsAt.three {w : World} {b g : Nat} {x y z : List UInt8} {T : TypeId} (hb : Blk w g #[.string (bstr x), .string (bstr y), .string (bstr z)] T) (hne : g ≠ b) (h : ∀ l ∈ [x, y, z], l.length ≤ 2000) : WordsAt w b (some ⟨g, 0, none⟩) [x, y, z] :=
  ⟨h, .inr ⟨g, 0, rfl, hne, hb.lt, fun j l hj => by
    rw [Nat.zero_add, hb.cells.1 j]
    match j, hj with
    | 0, hj => cases hj; rfl
    | 1, hj => cases hj; rfl
    | 2, hj => cases hj; rfl⟩⟩
/-- What stands while numbers are read into the box b: the rest, and the place of the operator. -/
theorem keepR {wo w' : World} {b : Nat} {v : Value} (hg : wo.grownBy w' (some b)) (hc : w'.cell? ⟨b, 4, none⟩ = some v) :
    (∀ bk o, bk < wo.heap.size → (bk = b) = False → w'.cell? ⟨bk, o, none⟩ = wo.cell? ⟨bk, o, none⟩) ∧ w'.cell? ⟨b, 4, none⟩ = some v ∧ wo.grownBy w' (some b) :=
  ⟨fun bk o h1 h2 => World.cell?_of_block (w := wo) (hg.block _ h1 (fun e => Eq.mp h2 (Option.some.inj e))), hc, hg⟩
theorem keepRd {wo w' : World} {b : Nat} {v : Value} (hg : wo.grownBy w' (some b)) (hc : w'.cell? ⟨b, 4, none⟩ = some v) :
    (∀ bk o, bk < wo.heap.size → (bk = b) = False → w'.drew.cell? ⟨bk, o, none⟩ = wo.cell? ⟨bk, o, none⟩) ∧ w'.drew.cell? ⟨b, 4, none⟩ = some v ∧ wo.grownBy w'.drew (some b) := keepR (w' := w'.drew) ⟨hg.os, hg.tape, hg.output, hg.size, hg.block⟩ hc
theorem qg_alloc {wo w : World} {b : Nat} (h : wo.grownBy w (some b)) (o : Obj) : wo.grownBy (w.alloc o) (some b) := qg_below h (alloc_below (Below.refl _ _) o)
theorem qc_alloc {w : World} {b : Nat} {v : Value} (h : w.cell? ⟨b, 4, none⟩ = some v) (o : Obj) : (w.alloc o).cell? ⟨b, 4, none⟩ = some v := (World.cell?_alloc_lt _ _ _ (World.block_lt_of_cell? w _ h)).trans h

/-- What 'where' tells of words. -/
def whereR : List (List UInt8) → Option (Int × List Int)
  | [x, y, o, z] => match signR o, numsR [x, y, z] with
    | some p, some ns => some (p, ns)
    | _, _ => none
  | _ => none
def WherePost (w : World) (b : Nat) (k : Int) (l : Value) (T : TypeId) (ws : List (List UInt8)) (w' : World) : Prop :=
  w.grownBy w' (some b) ∧ ∃ a' b' c' p' v', Blk w' b (stC k a' b' c' p' v' l) T ∧ ∀ p ns, whereR ws = some (p, ns) → p' = p ∧ ns = [a', c', v'] ∧ b' = 0

theorem signR_of {j : Nat} (h1 : 1 ≤ j) (h3 : j ≤ 3) : signR (signB j) = some (j : Int) := by
  have : j = 1 ∨ j = 2 ∨ j = 3 := by omega
  rcases this with rfl | rfl | rfl <;> rfl
theorem signR_none {o : List UInt8} (h : ∀ m : Nat, 1 ≤ m → m < 4 → o ≠ signB m) : signR o = none := by
  have h1 := h 1 (by omega) (by omega)
  have h2 := h 2 (by omega) (by omega)
  have h3 := h 3 (by omega) (by omega)
  unfold signR
  rw [if_neg (fun e => h1 (e.trans rfl)), if_neg (fun e => h2 (e.trans rfl)), if_neg (fun e => h3 (e.trans rfl))]
theorem where_fin {x y o z : List UInt8} {j : Nat} (h1 : 1 ≤ j) (h3 : j ≤ 3) (ho : o = signB j) {k a' b' c' v' : Int} {l : Value}
    (hs : 3 = 3 → ∀ ms, numsR [x, y, z] = some ms → setL (stC k 0 0 0 j 0 l) [1, 3, 5] ms = stC k a' b' c' j v' l) :
    (whereR [x, y, o, z]).isSome = (decide (3 = 3) && (numsR [x, y, z]).isSome) ∧ ∀ p ns, whereR [x, y, o, z] = some (p, ns) → (j : Int) = p ∧ ns = [a', c', v'] ∧ b' = 0 := by
  have h0 : signR o = some (j : Int) := by rw [ho]; exact signR_of h1 h3
  cases hn : numsR [x, y, z] with
  | none => simp [whereR, h0, hn]
  | some ms =>
    refine ⟨by simp [whereR, h0, hn], fun p ns h => ?_⟩
    simp only [whereR, h0, hn, Option.some.injEq, Prod.mk.injEq] at h
    obtain ⟨rfl, rfl⟩ := h
    have hl := numsR_len hn
    obtain ⟨n1, n2, n3, rfl⟩ : ∃ n1 n2 n3, ms = [n1, n2, n3] := by
      match ms, hl with
      | [n1, n2, n3], _ => exact ⟨n1, n2, n3, rfl⟩
    have := hs rfl _ hn
    simp [setL, stC] at this
    obtain ⟨q1, q2, q3, q4⟩ := this
    exact ⟨rfl, by rw [q1, q3, q4], q2.symm⟩

set_option maxHeartbeats 4000000 in
set_option maxRecDepth 100000 in
theorem qwhere_any (ws : List (List UInt8)) (A : Option Addr) (cp b : Nat) (k : Int) (l : Value) (w : World) (hw : WordsAt w b A ws) (hl : ws.length ≤ 2000) (hB : Blk w b (stC k 0 0 0 0 0 l) 40) :
    Calls Tryd.prog 34 #[.slice A ws.length cp, .pointer (some ⟨b, 0, none⟩)] w fun e w' => e = .returned (.bool (whereR ws).isSome) ∧ WherePost w b k l 40 ws w' := by
  obtain ⟨R, hR⟩ : ∃ q, q = (whereR ws).isSome := ⟨_, rfl⟩
  rw [← hR]
  have HR := hid hR
  clear hR
  have HW := hid hw
  have HB := hid hB
  clear hw hB
  by_cases hlen : ws.length = 4
  · obtain ⟨x, y, o, z, rfl⟩ : ∃ x y o z, ws = [x, y, o, z] := by
      match ws, hlen with
      | [x, y, o, z], _ => exact ⟨x, y, o, z, rfl⟩
    clear hlen hl
    obtain ⟨ba, oa, rfl, hba, hbw, hcw⟩ : ∃ ba oa, A = some ⟨ba, oa, none⟩ ∧ ba ≠ b ∧ ba < w.heap.size ∧ ∀ j l, [x, y, o, z][j]? = some l → w.cell? ⟨ba, oa + j, none⟩ = some (.string (bstr l)) := by
      rcases HW.out.2 with e | h
      · cases e
      · exact h
    have hl4 : ([x, y, o, z] : List (List UInt8)).length = 4 := rfl
    rw [hl4]
    obtain ⟨cHB, fHB, sHB, nHB⟩ := HB.out.all
    try simp only [cbox] at cHB
    go_enter Tryd.func34, Tryd.ntmps34
    go_wp2_with fail
    -- STOP-a
    have c0 := hcw 0 x rfl
    have c1 := hcw 1 y rfl
    have c2 := hcw 2 o rfl
    have c3 := hcw 3 z rfl
    have HWL := hid HW.out.1
    have HB1 := hid (HB.out.set 4 (.int .i64 1))
    have HC0 := hid c0
    have HC1 := hid c1
    have HC2 := hid c2
    have HC3 := hid c3
    clear cHB fHB sHB nHB
    clear hcw c0 c1 c2 c3
    go_loopw [11] (fun s11 wr => ∃ j : Nat, 1 ≤ j ∧ j ≤ 4 ∧ Hid (w.grownBy wr (some b)) ∧ Hid (Blk wr b (stC k 0 0 0 j 0 l) 40) ∧ Hid (∀ m : Nat, 1 ≤ m → m < j → o ≠ signB m)) (fun _ wr => 5 - (wr.cell? ⟨b, 4, none⟩ |>.map (fun v => (intOf v).toNat)).getD 0)
    case atStart => exact ⟨1, by omega, by omega, hid (qg_set _ _ _ _), HB1, hid (fun m h1 h2 => by omega)⟩
    case round =>
      obtain ⟨j, hj1, hj4, HG, HX, HO⟩ := hrel
      obtain ⟨wo, rfl⟩ : ∃ q : World, q = wr := ⟨_, rfl⟩
      have hbo : ba < wo.heap.size := Nat.lt_of_lt_of_le hbw HG.out.size
      have d2 : wo.cell? ⟨ba, oa + 2, none⟩ = some (.string (bstr o)) := (World.cell?_of_block (w := w) (HG.out.block _ hbw (fun e => hba (Option.some.inj e)))).trans HC2.out
      by_cases hj3 : j ≤ 3
      · have tj : ((j : Int) ≤ 3) = True := eq_true (by omega)
        have HS := hid (fun w1 : World => sign_any j (by omega) w1)
        obtain ⟨BS, hBS⟩ : ∃ q, q = bstr (signB j) := ⟨_, rfl⟩
        rw [← hBS] at HS
        have HBS := hid hBS
        clear hBS
        obtain ⟨BO, hBO⟩ : ∃ q, q = bstr o := ⟨_, rfl⟩
        rw [← hBO] at d2
        have HBO := hid hBO
        clear hBO
        by_cases hne : o = signB j
        · have teq := bsq_eqT HBS.out HBO.out hne.symm
          have HE := hid hne
          clear hne
          obtain ⟨cHX, fHX, sHX, nHX⟩ := HX.out.all
          try simp only [cbox] at cHX
          go_upto_region 4 with fail
          refine wp_region_quiet_lit (by kernel_rfl) (by kernel_rfl) ?_
          repeat (any_goals ((with_reducible refine wpQuiet_step (fun K hK => ?_)); go_simp; first | (with_reducible refine hK _ ?_; clear hK K) | ((with_reducible apply Exists.intro); (with_reducible refine ⟨fun _ => ?_, hK _ ?_⟩); (go_at_call 29; exact (HS.out _).mono fun _ _ ⟨he, hb⟩ => ⟨he, _, hb.symm⟩); clear hK K) | ((with_reducible refine (if_neg ?_).mpr (hK _ ?_)); (decide); clear hK K) | (split <;> (with_reducible refine hK _ ?_; clear hK K))))
          all_goals ((with_reducible refine wpQuiet_nil ?_); intro _ hw'; obtain ⟨nq, hw''⟩ := hw'; subst hw'')
          go_wp2_with fail
          -- STOP-d
          have HGq := hid (qg_below HG.out (below_drewN (Below.refl _ _) nq))
          have HXq := hid (HX.out.drewN nq)
          clear cHX fHX sHX nHX
          have d0 : (wo.drewN nq).cell? ⟨ba, oa, none⟩ = some (.string (bstr x)) := (World.cell?_of_block (w := w) (HGq.out.block _ hbw (fun e => hba (Option.some.inj e)))).trans HC0.out
          have d1 : (wo.drewN nq).cell? ⟨ba, oa + 1, none⟩ = some (.string (bstr y)) := (World.cell?_of_block (w := w) (HGq.out.block _ hbw (fun e => hba (Option.some.inj e)))).trans HC1.out
          have d3 : (wo.drewN nq).cell? ⟨ba, oa + 3, none⟩ = some (.string (bstr z)) := (World.cell?_of_block (w := w) (HGq.out.block _ hbw (fun e => hba (Option.some.inj e)))).trans HC3.out
          have hbq : ba < (wo.drewN nq).heap.size := hbo
          have hbF : (ba = b) = False := eq_false hba
          obtain ⟨wq, hwq⟩ : ∃ q, q = wo.drewN nq := ⟨_, rfl⟩
          rw [← hwq] at HGq HXq d0 d1 d3 hbq ⊢
          obtain ⟨BX, hBX⟩ : ∃ q, q = bstr x := ⟨_, rfl⟩
          obtain ⟨BY, hBY⟩ : ∃ q, q = bstr y := ⟨_, rfl⟩
          obtain ⟨BZ, hBZ⟩ : ∃ q, q = bstr z := ⟨_, rfl⟩
          rw [← hBX] at d0
          rw [← hBY] at d1
          rw [← hBZ] at d3
          have HBX := hid hBX
          have HBY := hid hBY
          have HBZ := hid hBZ
          have d4 : wq.cell? ⟨b, 4, none⟩ = some (.int .i64 j) := HXq.out.cells.1 4
          have hlb : b < wq.heap.size := HXq.out.lt
          clear hwq hBX hBY hBZ d2 teq HS HBS HBO HX HG hbo hba
          -- STOP-f
          obtain ⟨C1, hC1⟩ : ∃ q : Array Value, q = #[.string BX, .string BY, .string BZ] := ⟨_, rfl⟩
          obtain ⟨C2, hC2⟩ : ∃ q : Array Value, q = #[.pointer (some ⟨b, 1, none⟩), .pointer (some ⟨b, 3, none⟩), .pointer (some ⟨b, 5, none⟩)] := ⟨_, rfl⟩
          obtain ⟨RB, hRB⟩ : ∃ q, q = (decide (3 = 3) && (numsR [x, y, z]).isSome) := ⟨_, rfl⟩
          have hC1' : C1 = #[.string (bstr x), .string (bstr y), .string (bstr z)] := by rw [hC1, HBX.out, HBY.out, HBZ.out]
          have hw3 : ∀ l ∈ [x, y, z], l.length ≤ 2000 := fun l hl => HWL.out l (by simp at hl ⊢; rcases hl with h | h | h <;> simp [h])
          have HA1 := hid (qread_st [x, y, z] [1, 3, 5] 3 3 rfl rfl (some ⟨wq.heap.size, 0, none⟩) 3 3 (wq.heap.size + 1) b k 0 0 0 j 0 l C2 40 61 ((wq.alloc (.cells C1 9)).alloc (.cells C2 61)).drew
            (WordsAt.three (T := 9) (hC1' ▸ (Blk.new wq C1 9).alloc _) (by omega) hw3) (by omega) (by omega) ((HXq.out.alloc _).alloc _) (by simp) (Blk.new' _ C2 61 (by simp)) (by rw [hC2]; rfl) (by omega))
          have HA2 := hid (qread_st [x, y, z] [1, 3, 5] 3 3 rfl rfl (some ⟨wq.heap.size + 1, 0, none⟩) 3 3 wq.heap.size b k 0 0 0 j 0 l C2 40 61 ((wq.alloc (.cells C2 61)).alloc (.cells C1 9)).drew
            (WordsAt.three (T := 9) (hC1' ▸ Blk.new' _ C1 9 (by simp)) (by omega) hw3) (by omega) (by omega) ((HXq.out.alloc _).alloc _) (by simp) ((Blk.new wq C2 61).alloc _) (by rw [hC2]; rfl) (by omega))
          rw [← hRB] at HA1 HA2
          have HGA1 := hid (qg_below (qg_alloc (qg_alloc (qg_refl wq b) (.cells C1 9)) (.cells C2 61)) (Below.refl _ _).drew)
          have HGA2 := hid (qg_below (qg_alloc (qg_alloc (qg_refl wq b) (.cells C2 61)) (.cells C1 9)) (Below.refl _ _).drew)
          rw [hC1, hC2] at HA1 HA2 HGA1 HGA2
          have HRB := hid hRB
          clear hC1 hC2 hC1' hw3 hRB
          go_region_held3 (fun w' => (∀ bk o, bk < wq.heap.size → (bk = b) = False → w'.cell? ⟨bk, o, none⟩ = wq.cell? ⟨bk, o, none⟩) ∧ w'.cell? ⟨b, 4, none⟩ = some (.int .i64 j) ∧ wq.grownBy w' (some b))
            ((go_split_ands; first | (with_reducible exact keepRd (qg_refl _ _) d4) | (with_reducible exact keepRd (qg_alloc (qg_refl _ _) _) (qc_alloc d4 _)) | (with_reducible exact keepRd (qg_alloc (qg_alloc (qg_refl _ _) _) _) (qc_alloc (qc_alloc d4 _) _)) | (with_reducible exact keepR hgA hcA)))
            (first
              | (go_at_call 33; (with_reducible refine HA1.out.mono ?_); rintro e w3 ⟨rfl, hg3, a', b', c', v', hx3, hs3⟩; have hgA := qg_trans HGA1.out hg3; have hcA : w3.cell? ⟨b, 4, none⟩ = some (.int .i64 j) := hx3.cells.1 4)
              | (go_at_call 33; (with_reducible refine HA2.out.mono ?_); rintro e w3 ⟨rfl, hg3, a', b', c', v', hx3, hs3⟩; have hgA := qg_trans HGA2.out hg3; have hcA : w3.cell? ⟨b, 4, none⟩ = some (.int .i64 j) := hx3.cells.1 4)
              | fail)
          -- STOP-g
          all_goals
            have HHA := hid hgA
            have HHX := hid hx3
            have HHS := hid hs3
            clear hgA hx3 hs3 hcA d0 d1 d3 d4
            go_wp2_with fail
            -- STOP-h
            go_ret
            have hf := where_fin hj1 hj3 HE.out (fun _ => HHS.out (by first | trivial | rfl))
            exact ⟨ret_bool (by rw [HR.out, hf.1, HRB.out]; simp), qg_trans HGq.out HHA.out, _, _, _, _, _, HHX.out, hf.2⟩
        · have teq := bsq_eqF HBS.out HBO.out (fun e => hne e.symm)
          have HE := hid hne
          have wj : IntKind.i64.wrap ((j : Int) + 1) = (j : Int) + 1 := IntWalk.i64_in _ (by omega)
          clear hne
          obtain ⟨cHX, fHX, sHX, nHX⟩ := HX.out.all
          try simp only [cbox] at cHX
          go_upto_region 4 with fail
          refine wp_region_quiet_lit (by kernel_rfl) (by kernel_rfl) ?_
          repeat (any_goals ((with_reducible refine wpQuiet_step (fun K hK => ?_)); go_simp; first | (with_reducible refine hK _ ?_; clear hK K) | ((with_reducible apply Exists.intro); (with_reducible refine ⟨fun _ => ?_, hK _ ?_⟩); (go_at_call 29; exact (HS.out _).mono fun _ _ ⟨he, hb⟩ => ⟨he, _, hb.symm⟩); clear hK K) | ((with_reducible refine (if_neg ?_).mpr (hK _ ?_)); (decide); clear hK K) | (split <;> (with_reducible refine hK _ ?_; clear hK K))))
          all_goals ((with_reducible refine wpQuiet_nil ?_); intro _ hw'; obtain ⟨nq, hw''⟩ := hw'; subst hw'')
          go_wp2_with fail
          -- STOP-e
          go_roundw
          case rel =>
            refine ⟨j + 1, by omega, by omega, hid (qg_trans (qg_below HG.out (below_drewN (Below.refl _ _) _)) (qg_set _ _ _ _)), hid ?_, hid (fun m h1 h2 => ?_)⟩
            · have := (HX.out.drewN nq).set 4 (.int .i64 ((j : Int) + 1))
              exact this
            · by_cases q : m = j
              · rw [q]; exact HE.out
              · exact HO.out m h1 (by omega)
          case measure =>
            have h1 : wo.cell? ⟨b, 4, none⟩ = some (.int .i64 j) := HX.out.cells.1 4
            have h2 : ((wo.drewN nq).setCell ⟨b, 4, none⟩ (.int .i64 ((j : Int) + 1))).cell? ⟨b, 4, none⟩ = some (.int .i64 ((j : Int) + 1)) := ((HX.out.drewN nq).set 4 (.int .i64 ((j : Int) + 1))).cells.1 4
            rw [h1, h2]
            simp [intOf]
            omega
      · have tj : ((j : Int) ≤ 3) = False := eq_false (by omega)
        have hn : whereR [x, y, o, z] = none := by
          have h0 : signR o = none := signR_none (fun m h1 h2 => HO.out m h1 (by omega))
          simp [whereR, h0]
        have HN := hid hn
        clear hn
        obtain ⟨cHX, fHX, sHX, nHX⟩ := HX.out.all
        try simp only [cbox] at cHX
        go_upto_region 4 with fail
        refine wp_region_quiet_lit (by kernel_rfl) (by kernel_rfl) ?_
        repeat (any_goals ((with_reducible refine wpQuiet_step (fun K hK => ?_)); go_simp; first | (with_reducible refine hK _ ?_; clear hK K) | ((with_reducible apply Exists.intro); (with_reducible refine ⟨fun _ => ?_, hK _ ?_⟩); (fail); clear hK K) | ((with_reducible refine (if_neg ?_).mpr (hK _ ?_)); (decide); clear hK K) | (split <;> (with_reducible refine hK _ ?_; clear hK K))))
        all_goals ((with_reducible refine wpQuiet_nil ?_); intro _ hw'; obtain ⟨nq, hw''⟩ := hw'; subst hw'')
        go_upto_region 6 with fail
        -- STOP-i
        refine wp_region_quiet_lit (by kernel_rfl) (by kernel_rfl) ?_
        repeat (any_goals ((with_reducible refine wpQuiet_step (fun K hK => ?_)); go_simp; first | (with_reducible refine hK _ ?_; clear hK K) | ((with_reducible apply Exists.intro); (with_reducible refine ⟨fun _ => ?_, hK _ ?_⟩); (fail); clear hK K) | ((with_reducible refine (if_neg ?_).mpr (hK _ ?_)); (decide); clear hK K) | (split <;> (with_reducible refine hK _ ?_; clear hK K))))
        all_goals ((with_reducible refine wpQuiet_nil ?_); intro _ hw'; obtain ⟨nq, hw''⟩ := hw'; subst hw'')
        go_wp2_with fail
        -- STOP-j
        go_ret
        exact ⟨ret_bool (by rw [HR.out, HN.out]; rfl), qg_below HG.out (by (repeat' (first | (with_reducible exact Below.refl _ _) | (with_reducible assumption) | (with_reducible refine below_drewN ?_ _) | (with_reducible refine Below.drew ?_) | (with_reducible refine Below.alloc ?_ ?_ _) | (with_reducible refine Below.setCell ?_ ?_ _) | (refine Below.trans ?_ (Below.mono (by assumption) ?_)) | go_size))), _, _, _, _, _, HX.out, fun p ns h => by rw [HN.out] at h; cases h⟩
  · have t0 : ((ws.length : Int) != 4) = true := by rw [bne_iff_ne]; exact fun e => hlen (Int.ofNat.inj e)
    have HL := hid hlen
    clear hlen
    go_enter Tryd.func34, Tryd.ntmps34
    go_wp2_with fail
    -- STOP-b
    go_ret
    have hn : whereR ws = none := by
      match ws, HL.out with
      | [], _ => rfl
      | [_], _ => rfl
      | [_, _], _ => rfl
      | [_, _, _], _ => rfl
      | [_, _, _, _], h => exact absurd rfl h
      | _ :: _ :: _ :: _ :: _ :: _, _ => rfl
    exact ⟨ret_bool (by rw [HR.out, hn]; rfl), qg_refl _ _, 0, 0, 0, 0, 0, HB.out, fun p ns h => by rw [hn] at h; cases h⟩
end Go.Proofs.YtamlaeocojcgdaaDoor
/- query.pick. -/
namespace Go.Proofs.YtamlaeocojcgdaaDoor
set_option linter.unusedVariables false
set_option linter.unusedSimpArgs false
open Go.ChangeShapes Go.WideShapes Go.ChangeAt Go.RowKit

/-- What 'pick' tells of words. -/
def pickW : List (List UInt8) → Option (Int × List Int)
  | [x, y] => match numR x, numsR (pcs 44 y) with
    | some a, some l => some (a, l)
    | _, _ => none
  | _ => none
/-- A list of numbers in a block that is not older than the base, or none. -/
def NewInts (w : World) (lo : Nat) (A : Option Addr) (l : List Int) : Prop := Row w w.heap.size A (icells' l) ∧ ∀ b off q, A = some ⟨b, off, q⟩ → lo ≤ b
def PickPost (w : World) (b : Nat) (k : Int) (T : TypeId) (ws : List (List UInt8)) (w' : World) : Prop :=
  w.grownBy w' (some b) ∧ ∃ a' b' c' v' A n c, Blk w' b (stC k a' b' c' 0 v' (.slice A n c)) T ∧ ∀ a l, pickW ws = some (a, l) → a' = a ∧ b' = 0 ∧ c' = 0 ∧ v' = 0 ∧ n = l.length ∧ NewInts w' w.heap.size A l

theorem qown_step {w w' : World} {B n s : Nat} {T : TypeId} {v : Value} {xs : List Value} (h : w.ownsRow B T s v n xs) (hb : Below w.heap.size w w') : w'.ownsRow B T s v n xs := h.kept (row := none) ⟨hb.os, hb.tape, hb.output, hb.size, fun k hk _ => hb.block k hk⟩ (Classical.em _)
theorem qg_own {w0 w w' : World} {P : Nat} {row : Option Nat} (h : w0.grownBy w (some P)) (hg : w.grownBy w' row) (hr : ∀ g, row = some g → w0.heap.size ≤ g) : w0.grownBy w' (some P) :=
  ⟨hg.os.trans h.os, hg.tape.trans h.tape, hg.output.trans h.output, Nat.le_trans h.size hg.size, fun k hk hne => (hg.block k (Nat.lt_of_lt_of_le hk h.size) (fun e => by have := hr k e.symm; omega)).trans (h.block k hk hne)⟩
set_option maxHeartbeats 4000000 in
set_option maxRecDepth 100000 in
theorem qpick_any (ws : List (List UInt8)) (A : Option Addr) (cp b : Nat) (k : Int) (w : World) (hw : WordsAt w b A ws) (hl : ws.length ≤ 2000) (hB : Blk w b (stC k 0 0 0 0 0 (.slice none 0 0)) 40) (hm : MaxAt w) (hbm : 1 ≠ b) (hcp : ws.length ≤ cp) :
    Calls Tryd.prog 35 #[.slice A ws.length cp, .pointer (some ⟨b, 0, none⟩)] w fun e w' => e = .returned (.bool (pickW ws).isSome) ∧ PickPost w b k 40 ws w' := by
  obtain ⟨R, hR⟩ : ∃ q, q = (pickW ws).isSome := ⟨_, rfl⟩
  rw [← hR]
  have HR := hid hR
  clear hR
  have HW := hid hw
  have HB := hid hB
  have HM := hid hm
  clear hw hB hm
  by_cases hlen : ws.length = 2
  · obtain ⟨x, y, rfl⟩ : ∃ x y, ws = [x, y] := by
      match ws, hlen with
      | [x, y], _ => exact ⟨x, y, rfl⟩
    clear hlen hl
    obtain ⟨ba, oa, rfl, hba, hbw, hcw⟩ : ∃ ba oa, A = some ⟨ba, oa, none⟩ ∧ ba ≠ b ∧ ba < w.heap.size ∧ ∀ j l, [x, y][j]? = some l → w.cell? ⟨ba, oa + j, none⟩ = some (.string (bstr l)) := by
      rcases HW.out.2 with e | h
      · cases e
      · exact h
    have hl2 : ([x, y] : List (List UInt8)).length = 2 := rfl
    rw [hl2] at hcp ⊢
    have hcp' : (1 : Int) ≤ (cp : Int) := by omega
    have hcp2 : (2 : Int) ≤ (cp : Int) := by omega
    have t0 : ((2 : Int) != 2) = false := rfl
    have hcx := hcw 0 x rfl
    have hcy := hcw 1 y rfl
    have HCX := hid (show WordsAt w b (some ⟨ba, oa, none⟩) [x] from ⟨fun l hl => HW.out.1 l (by simp at hl; simp [hl]), .inr ⟨ba, oa, rfl, hba, hbw, fun j l hj => by
      match j, hj with
      | 0, hj => cases hj; exact hcx⟩⟩)
    have HCY := hid (show w.cell? ⟨ba, oa + 1, none⟩ = some (.string (bstr y)) from hcy)
    have HYL := hid (HW.out.1 y (by simp))
    obtain ⟨C2, hC2⟩ : ∃ q : Array Value, q = #[.pointer (some ⟨b, 1, none⟩)] := ⟨_, rfl⟩
    have HA1 := hid (qread_st [x] [1] 1 1 rfl rfl (some ⟨ba, oa, none⟩) cp 1 w.heap.size b k 0 0 0 0 0 (.slice none 0 0) C2 40 61 (w.alloc (.cells C2 61)).drew
      (HCX.out.step ((Below.refl _ _).alloc (Nat.le_refl _) _).drew) (by omega) (by omega) (HB.out.alloc _) (by simp) (Blk.new w C2 61) (by rw [hC2]; rfl) (by have := HB.out.lt; omega))
    have HGA1 := hid (qg_below (qg_alloc (qg_refl w b) (.cells C2 61)) (Below.refl _ _).drew)
    rw [hC2] at HA1 HGA1
    obtain ⟨RB, hRB⟩ : ∃ q, q = (decide (1 = 1) && (numsR [x]).isSome) := ⟨_, rfl⟩
    rw [← hRB] at HA1
    have HRB := hid hRB
    clear hC2 hRB hcx hcy hcw
    go_enter Tryd.func35, Tryd.ntmps35
    go_upto_region 1 with fail
    -- STOP-a
    go_region_held3 (fun w' => w.grownBy w' (some b))
      (first | (with_reducible exact qg_below (qg_refl _ _) (Below.refl _ _).drew) | (with_reducible exact qg_below (qg_alloc (qg_refl _ _) _) (Below.refl _ _).drew) | (with_reducible exact hgA))
      (first
        | (go_at_call 33; (with_reducible refine HA1.out.mono ?_); rintro e w3 ⟨rfl, hg3, a', b', c', v', hx3, hs3⟩; have hgA := qg_trans HGA1.out hg3)
        | fail)
    -- STOP-c
    have HG := hid hgA
    have HX := hid hx3
    have HS := hid hs3
    clear hgA hx3 hs3 hg3
    cases hnx : numR x with
    | none =>
      have HN := hid (show pickW [x, y] = none by simp [pickW, hnx])
      have hrb : RB = false := by rw [HRB.out]; simp [numsR, hnx]
      subst hrb
      clear hnx
      go_wp2_with fail
      -- STOP-d
      go_ret
      exact ⟨ret_bool (by rw [HR.out, HN.out]; rfl), HG.out, _, _, _, _, _, _, _, HX.out, fun a l h => by rw [HN.out] at h; cases h⟩
    | some a =>
      have hst : a' = a ∧ b' = 0 ∧ c' = 0 ∧ v' = 0 := by
        have := HS.out (by first | trivial | rfl) [a] (by simp [numsR, hnx])
        simp [setL, stC] at this
        obtain ⟨q1, q2, q3, q4⟩ := this
        exact ⟨q1.symm, q2.symm, q3.symm, q4.symm⟩
      obtain ⟨rfl, rfl, rfl, rfl⟩ := hst
      have hrb : RB = true := by rw [HRB.out]; simp [numsR, hnx]
      subst hrb
      have HNX := hid hnx
      clear hnx HS HRB HA1 HGA1
      have hbw3 : ba < w3.heap.size := Nat.lt_of_lt_of_le hbw HG.out.size
      have d1 : w3.cell? ⟨ba, oa + 1, none⟩ = some (.string (bstr y)) := (World.cell?_of_block (w := w) (HG.out.block _ hbw (fun e => hba (Option.some.inj e)))).trans HCY.out
      have HSP := hid (split_any y 44 HYL.out w3 (HM.out.grown HG.out hbm))
      obtain ⟨PS, hPS⟩ : ∃ q, q = pcs 44 y := ⟨_, rfl⟩
      rw [← hPS] at HSP
      have HPS := hid hPS
      clear hPS
      go_wp2_with fail
      refine HSP.out.mono ?_
      rintro e w4 ⟨rfl, hw4⟩
      have hb4 : Below w3.heap.size w3 w4 := by rw [hw4]; exact (Below.refl _ _).alloc (Nat.le_refl _) _
      have HP4 := hid (show Blk w4 w3.heap.size (wcells PS).toArray 9 by rw [hw4]; exact Blk.new _ _ _)
      have HX4 := hid (HX.out.step hb4)
      have HG4 := hid (qg_below HG.out hb4)
      have hlt4 : w3.heap.size < w4.heap.size := by rw [hw4]; simp
      clear hb4 hw4 HSP d1
      go_wp2_with fail
      -- STOP-e
      have hwl : w.heap.size ≤ w4.heap.size := HG4.out.size
      have hb4 : b < w4.heap.size := Nat.lt_of_lt_of_le HB.out.lt hwl
      have hPL : PS.length ≤ 2001 := by have := (pcs_len 44 y).1; rw [← HPS.out] at this; have := HYL.out; omega
      have HPW := hid (show ∀ l ∈ PS, l.length ≤ 2000 by
        intro l hl
        rw [HPS.out] at hl
        have := (pcs_len 44 y).2 l hl
        have := HYL.out
        omega)
      have hne3 : w3.heap.size ≠ b := by have := HX.out.lt; omega
      have HX4' := HX4
      have HP4' := HP4
      have HG4' := HG4
      clear HX HP4 HX4 HG4 HCX HCY HW HB HM HG hbw3
      go_loopw [27] (fun s27 wr => ∃ (i : Nat) (ns : List Int) (A : Option Addr) (c : Nat), i ≤ PS.length ∧ ns.length = i ∧ s27 = .int .i64 i ∧ Hid (numsR (PS.take i) = some ns) ∧ Hid (Blk wr b (stC k a' 0 0 0 0 (.slice A i c)) 40) ∧
        Hid (wr.ownsRow w4.heap.size 3 1 (.slice A i c) i (icells' ns)) ∧ Hid (w.grownBy wr (some b)) ∧ Hid (Blk wr w3.heap.size (wcells PS).toArray 9) ∧ w4.heap.size ≤ wr.heap.size) (fun s27 _ => PS.length - (intOf s27).toNat)
      case atStart => exact ⟨0, [], none, 0, by omega, rfl, rfl, hid rfl, HX4', hid (World.ownsRow_nil _ _ _ _), HG4', HP4', Nat.le_refl _⟩
      case round =>
        obtain ⟨i, ns, A0, c0, hi, hns, rfl, HN, HX, HO, HG, HP, hs4⟩ := hrel
        obtain ⟨wo, rfl⟩ : ∃ q : World, q = wr := ⟨_, rfl⟩
        by_cases hlt : i < PS.length
        · have ti : ((i : Int) < (PS.length : Int)) = True := eq_true (by omega)
          have dp : wo.cell? ⟨w3.heap.size, i, none⟩ = some (.string (bstr PS[i])) := (HP.out.cells.1 i).trans (by simp [wcells, hlt])
          have HTP := hid (show PS.take (i + 1) = PS.take i ++ [PS[i]] from List.take_succ_eq_append_getElem hlt)
          have HBD := hid (fun (h : numR PS[i] = none) => numsR_bad (List.getElem_mem hlt) h)
          have HPL := hid (HPW.out _ (List.getElem_mem hlt))
          generalize PS[i] = l at *
          have HC := hid (qnumber_any l HPL.out wo)
          obtain ⟨RN, hRN⟩ : ∃ q, q = numR l := ⟨_, rfl⟩
          rw [← hRN] at HC
          have HRN := hid hRN
          clear hRN
          go_wp2_with fail
          refine HC.out.mono ?_
          rintro e w5 ⟨rfl, hb5⟩
          have HX5 := hid (HX.out.step hb5)
          have HG5 := hid (qg_below HG.out hb5)
          have HP5 := hid (HP.out.step hb5)
          have HO5 := hid (qown_step HO.out hb5)
          have hs5 : w4.heap.size ≤ w5.heap.size := Nat.le_trans hs4 hb5.size
          clear hb5 HC dp HX HO HG HP
          cases RN with
          | none =>
            have HZ := hid (show pickW [x, y] = none by simp only [pickW]; rw [HNX.out, ← HPS.out, HBD.out HRN.out.symm])
            go_wp2_with fail
            -- STOP-f
            go_ret
            exact ⟨ret_bool (by rw [HR.out, HZ.out]; rfl), HG5.out, _, _, _, _, _, _, _, HX5.out, fun a l h => by rw [HZ.out] at h; cases h⟩
          | some N =>
            obtain ⟨cHX5, fHX5, sHX5, nHX5⟩ := HX5.out.all
            try simp only [cbox] at cHX5
            go_wp2_with (at_builtin; refine wpList_append_row elem_int rfl _ _ rfl w4.heap.size _ _ _ rfl (HO5.out.alloc _) (some ⟨w5.heap.size, 0, none⟩) 1 1 (w5.heap.size + 1) (icells' [N]) rfl rfl (by exact Row.new' w5 _ _ rfl rfl (Nat.lt_succ_self _)) (icellsQ_one [N]) ?_ ?_ ?_ ?_; rotate_right; intro v7 w7 hown7 hg7 hif7; obtain ⟨A7, c7, rfl⟩ := own_formS hown7; have X7 := (HX5.out.alloc _).grown' hg7 (own_ne_lo HO5.out b hb4); obtain ⟨cX7, fX7, sX7, nX7⟩ := X7.all; rotate_left; (simp only [maxLen]; omega); (omega); (have := HX5.out.lt; simp; omega))
            -- STOP-g
            have HG7 := hid (qg_own (qg_below HG5.out ((Below.refl _ _).alloc (Nat.le_refl _) _)) hg7 (fun g e => by have := (HO5.out.lt g e).1; omega))
            have hs7 : w4.heap.size ≤ w7.heap.size := by have := hg7.size; simp at this; omega
            have HP7 := hid ((HP5.out.alloc _).grown' hg7 (own_ne_lo HO5.out _ hlt4))
            have HX7 := hid X7
            have HOW7 := hid hown7
            clear hg7 hif7 hown7 X7 cX7 fX7 sX7 nX7
            clear cHX5 fHX5 sHX5 nHX5
            go_roundw
            case rel =>
              refine ⟨i + 1, ns ++ [N], A7, c7, by omega, by simp [hns], by go_num, hid ?_, hid ?_, hid ?_, hid (qg_trans HG7.out (qg_set _ _ _ _)), hid (HP7.out.other hne3 _), by simpa using hs7⟩
              · rw [HTP.out]; exact numsR_snoc HN.out HRN.out.symm
              · exact HX7.out.set 6 _
              · have := ownsRow_setCell_below HOW7.out (a := ⟨b, 6, none⟩) hb4 (.slice A7 (i + 1) c7)
                simpa [icells'] using this
            case measure => simp [intOf]; exact Nat.sub_lt_sub_left hlt (Nat.lt_succ_self i)
        · have ti : ((i : Int) < (PS.length : Int)) = False := eq_false (by omega)
          have hti : PS.take i = PS := List.take_of_length_le (by omega)
          rw [hti] at HN
          have HZ := hid (show pickW [x, y] = some (a', ns) by simp only [pickW]; rw [HNX.out, ← HPS.out, HN.out])
          clear hti
          go_wp2_with fail
          -- STOP-h
          go_ret
          refine ⟨ret_bool (by rw [HR.out, HZ.out]; rfl), HG.out, _, _, _, _, _, _, _, HX.out, fun a l h => ?_⟩
          rw [HZ.out] at h
          obtain ⟨rfl, rfl⟩ := Prod.mk.inj (Option.some.inj h)
          refine ⟨rfl, rfl, rfl, rfl, hns.symm, Row.of_ownS HO.out, fun g off q e => ?_⟩
          have := (HO.out.lt g (by rw [e]; rfl)).1
          omega
  · have t0 : ((ws.length : Int) != 2) = true := by rw [bne_iff_ne]; exact fun e => hlen (Int.ofNat.inj e)
    have HL := hid hlen
    clear hlen
    go_enter Tryd.func35, Tryd.ntmps35
    go_upto_region 1 with fail
    refine wp_region_quiet_lit (by kernel_rfl) (by kernel_rfl) ?_
    repeat (any_goals ((with_reducible refine wpQuiet_step (fun K hK => ?_)); go_simp; first | (with_reducible refine hK _ ?_; clear hK K) | ((with_reducible apply Exists.intro); (with_reducible refine ⟨fun _ => ?_, hK _ ?_⟩); (fail); clear hK K) | ((with_reducible refine (if_neg ?_).mpr (hK _ ?_)); (decide); clear hK K) | (split <;> (with_reducible refine hK _ ?_; clear hK K))))
    all_goals ((with_reducible refine wpQuiet_nil ?_); intro _ hw'; obtain ⟨nq, hw''⟩ := hw'; subst hw'')
    go_wp2_with fail
    -- STOP-b
    go_ret
    have hn : pickW ws = none := by
      match ws, HL.out with
      | [], _ => rfl
      | [_], _ => rfl
      | [_, _], h => exact absurd rfl h
      | _ :: _ :: _ :: _, _ => rfl
    exact ⟨ret_bool (by rw [HR.out, hn]; rfl), qg_below (qg_refl _ _) (by (repeat' (first | (with_reducible exact Below.refl _ _) | (with_reducible assumption) | (with_reducible refine below_drewN ?_ _) | (with_reducible refine Below.drew ?_) | (with_reducible refine Below.alloc ?_ ?_ _) | (with_reducible refine Below.setCell ?_ ?_ _) | (refine Below.trans ?_ (Below.mono (by assumption) ?_)) | go_size))), 0, 0, 0, 0, none, 0, 0, HB.out, fun a l h => by rw [hn] at h; cases h⟩
end Go.Proofs.YtamlaeocojcgdaaDoor
