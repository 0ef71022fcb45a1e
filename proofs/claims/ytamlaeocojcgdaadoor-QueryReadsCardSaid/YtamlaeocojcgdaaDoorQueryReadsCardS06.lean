/- QrE, QsA, DotA, QsB, QsC -/
import Derived.Test.YtamlaeocojcgdaaDoorQueryReadsCardS05
import Derived.Deep.AppendLies
import Derived.Test.YtamlaeocojcgdaaDoorRows
import Derived.Outline
import Derived.StillTail
import Derived.StillTactics
/- query.pick. -/
namespace Go.Proofs.YtamlaeocojcgdaaDoor
set_option linter.unusedVariables false
set_option linter.unusedSimpArgs false
open Go.ChangeShapes Go.WideShapes Go.ChangeAt Go.RowKit

/-- What 'pick' tells of words. -/
def pickW : List (List UInt8) → Option (Int × List Int)
  | [x, y] => match numR x, numsR (pcs 44 y) with
    | some a, some l => some (a, l)
    | _, _ => none
  | _ => none
/-- A list of numbers in a block that is not older than the base, or none. -/
def NewInts (w : World) (lo : Nat) (A : Option Addr) (l : List Int) : Prop := Row w w.heap.size A (icells' l) ∧ ∀ b off q, A = some ⟨b, off, q⟩ → lo ≤ b
def PickPost (w : World) (b : Nat) (k : Int) (T : TypeId) (ws : List (List UInt8)) (w' : World) : Prop :=
  w.grownBy w' (some b) ∧ ∃ a' b' c' v' A n c, Blk w' b (stC k a' b' c' 0 v' (.slice A n c)) T ∧ ∀ a l, pickW ws = some (a, l) → a' = a ∧ b' = 0 ∧ c' = 0 ∧ v' = 0 ∧ n = l.length ∧ NewInts w' w.heap.size A l

theorem qown_step {w w' : World} {B n s : Nat} {T : TypeId} {v : Value} {xs : List Value} (h : w.ownsRow B T s v n xs) (hb : Below w.heap.size w w') : w'.ownsRow B T s v n xs := h.kept (row := none) ⟨hb.os, hb.tape, hb.output, hb.size, fun k hk _ => hb.block k hk⟩ (Classical.em _)
theorem qg_own {w0 w w' : World} {P : Nat} {row : Option Nat} (h : w0.grownBy w (some P)) (hg : w.grownBy w' row) (hr : ∀ g, row = some g → w0.heap.size ≤ g) : w0.grownBy w' (some P) :=
  ⟨hg.os.trans h.os, hg.tape.trans h.tape, hg.output.trans h.output, Nat.le_trans h.size hg.size, fun k hk hne => (hg.block k (Nat.lt_of_lt_of_le hk h.size) (fun e => by have := hr k e.symm; omega)).trans (h.block k hk hne)⟩
set_option maxHeartbeats 4000000 in
set_option maxRecDepth 100000 in
theorem qpick_any (ws : List (List UInt8)) (A : Option Addr) (cp b : Nat) (k : Int) (w : World) (hw : WordsAt w b A ws) (hl : ws.length ≤ 2000) (hB : Blk w b (stC k 0 0 0 0 0 (.slice none 0 0)) 40) (hm : MaxAt w) (hbm : 1 ≠ b) (hcp : ws.length ≤ cp) :
    Calls Tryd.prog 35 #[.slice A ws.length cp, .pointer (some ⟨b, 0, none⟩)] w fun e w' => e = .returned (.bool (pickW ws).isSome) ∧ PickPost w b k 40 ws w' := by
  obtain ⟨R, hR⟩ : ∃ q, q = (pickW ws).isSome := ⟨_, rfl⟩
  rw [← hR]
  have HR := hid hR
  clear hR
  have HW := hid hw
  have HB := hid hB
  have HM := hid hm
  clear hw hB hm
  by_cases hlen : ws.length = 2
  · obtain ⟨x, y, rfl⟩ : ∃ x y, ws = [x, y] := by
      match ws, hlen with
      | [x, y], _ => exact ⟨x, y, rfl⟩
    clear hlen hl
    obtain ⟨ba, oa, rfl, hba, hbw, hcw⟩ : ∃ ba oa, A = some ⟨ba, oa, none⟩ ∧ ba ≠ b ∧ ba < w.heap.size ∧ ∀ j l, [x, y][j]? = some l → w.cell? ⟨ba, oa + j, none⟩ = some (.string (bstr l)) := by
      rcases HW.out.2 with e | h
      · cases e
      · exact h
    have hl2 : ([x, y] : List (List UInt8)).length = 2 := rfl
    rw [hl2] at hcp ⊢
    have hcp' : (1 : Int) ≤ (cp : Int) := by omega
    have hcp2 : (2 : Int) ≤ (cp : Int) := by omega
    have t0 : ((2 : Int) != 2) = false := rfl
    have hcx := hcw 0 x rfl
    have hcy := hcw 1 y rfl
    have HCX := hid (show WordsAt w b (some ⟨ba, oa, none⟩) [x] from ⟨fun l hl => HW.out.1 l (by simp at hl; simp [hl]), .inr ⟨ba, oa, rfl, hba, hbw, fun j l hj => by
      match j, hj with
      | 0, hj => cases hj; exact hcx⟩⟩)
    have HCY := hid (show w.cell? ⟨ba, oa + 1, none⟩ = some (.string (bstr y)) from hcy)
    have HYL := hid (HW.out.1 y (by simp))
    obtain ⟨C2, hC2⟩ : ∃ q : Array Value, q = #[.pointer (some ⟨b, 1, none⟩)] := ⟨_, rfl⟩
    have HA1 := hid (qread_st [x] [1] 1 1 rfl rfl (some ⟨ba, oa, none⟩) cp 1 w.heap.size b k 0 0 0 0 0 (.slice none 0 0) C2 40 61 (w.alloc (.cells C2 61)).drew
      (HCX.out.step ((Below.refl _ _).alloc (Nat.le_refl _) _).drew) (by omega) (by omega) (HB.out.alloc _) (by simp) (Blk.new w C2 61) (by rw [hC2]; rfl) (by have := HB.out.lt; omega))
    have HGA1 := hid (qg_below (qg_alloc (qg_refl w b) (.cells C2 61)) (Below.refl _ _).drew)
    rw [hC2] at HA1 HGA1
    obtain ⟨RB, hRB⟩ : ∃ q, q = (decide (1 = 1) && (numsR [x]).isSome) := ⟨_, rfl⟩
    rw [← hRB] at HA1
    have HRB := hid hRB
    clear hC2 hRB hcx hcy hcw
    go_enter Tryd.func35, Tryd.ntmps35
    go_upto_region 1 with fail
    -- STOP-a
    go_region_held3 (fun w' => w.grownBy w' (some b))
      (first | (with_reducible exact qg_below (qg_refl _ _) (Below.refl _ _).drew) | (with_reducible exact qg_below (qg_alloc (qg_refl _ _) _) (Below.refl _ _).drew) | (with_reducible exact hgA))
      (first
        | (go_at_call 33; (with_reducible refine HA1.out.mono ?_); rintro e w3 ⟨rfl, hg3, a', b', c', v', hx3, hs3⟩; have hgA := qg_trans HGA1.out hg3)
        | fail)
    -- STOP-c
    have HG := hid hgA
    have HX := hid hx3
    have HS := hid hs3
    clear hgA hx3 hs3 hg3
    cases hnx : numR x with
    | none =>
      have HN := hid (show pickW [x, y] = none by simp [pickW, hnx])
      have hrb : RB = false := by rw [HRB.out]; simp [numsR, hnx]
      subst hrb
      clear hnx
      go_wp2_with fail
      -- STOP-d
      go_ret
      exact ⟨ret_bool (by rw [HR.out, HN.out]; rfl), HG.out, _, _, _, _, _, _, _, HX.out, fun a l h => by rw [HN.out] at h; cases h⟩
    | some a =>
      have hst : a' = a ∧ b' = 0 ∧ c' = 0 ∧ v' = 0 := by
        have := HS.out (by first | trivial | rfl) [a] (by simp [numsR, hnx])
        simp [setL, stC] at this
        obtain ⟨q1, q2, q3, q4⟩ := this
        exact ⟨q1.symm, q2.symm, q3.symm, q4.symm⟩
      obtain ⟨rfl, rfl, rfl, rfl⟩ := hst
      have hrb : RB = true := by rw [HRB.out]; simp [numsR, hnx]
      subst hrb
      have HNX := hid hnx
      clear hnx HS HRB HA1 HGA1
      have hbw3 : ba < w3.heap.size := Nat.lt_of_lt_of_le hbw HG.out.size
      have d1 : w3.cell? ⟨ba, oa + 1, none⟩ = some (.string (bstr y)) := (World.cell?_of_block (w := w) (HG.out.block _ hbw (fun e => hba (Option.some.inj e)))).trans HCY.out
      have HSP := hid (split_any y 44 HYL.out w3 (HM.out.grown HG.out hbm))
      obtain ⟨PS, hPS⟩ : ∃ q, q = pcs 44 y := ⟨_, rfl⟩
      rw [← hPS] at HSP
      have HPS := hid hPS
      clear hPS
      go_wp2_with fail
      refine HSP.out.mono ?_
      rintro e w4 ⟨rfl, hw4⟩
      have hb4 : Below w3.heap.size w3 w4 := by rw [hw4]; exact (Below.refl _ _).alloc (Nat.le_refl _) _
      have HP4 := hid (show Blk w4 w3.heap.size (wcells PS).toArray 9 by rw [hw4]; exact Blk.new _ _ _)
      have HX4 := hid (HX.out.step hb4)
      have HG4 := hid (qg_below HG.out hb4)
      have hlt4 : w3.heap.size < w4.heap.size := by rw [hw4]; simp
      clear hb4 hw4 HSP d1
      go_wp2_with fail
      -- STOP-e
      have hwl : w.heap.size ≤ w4.heap.size := HG4.out.size
      have hb4 : b < w4.heap.size := Nat.lt_of_lt_of_le HB.out.lt hwl
      have hPL : PS.length ≤ 2001 := by have := (pcs_len 44 y).1; rw [← HPS.out] at this; have := HYL.out; omega
      have HPW := hid (show ∀ l ∈ PS, l.length ≤ 2000 by
        intro l hl
        rw [HPS.out] at hl
        have := (pcs_len 44 y).2 l hl
        have := HYL.out
        omega)
      have hne3 : w3.heap.size ≠ b := by have := HX.out.lt; omega
      have HX4' := HX4
      have HP4' := HP4
      have HG4' := HG4
      clear HX HP4 HX4 HG4 HCX HCY HW HB HM HG hbw3
      go_loopw [27] (fun s27 wr => ∃ (i : Nat) (ns : List Int) (A : Option Addr) (c : Nat), i ≤ PS.length ∧ ns.length = i ∧ s27 = .int .i64 i ∧ Hid (numsR (PS.take i) = some ns) ∧ Hid (Blk wr b (stC k a' 0 0 0 0 (.slice A i c)) 40) ∧
        Hid (wr.ownsRow w4.heap.size 3 1 (.slice A i c) i (icells' ns)) ∧ Hid (w.grownBy wr (some b)) ∧ Hid (Blk wr w3.heap.size (wcells PS).toArray 9) ∧ w4.heap.size ≤ wr.heap.size) (fun s27 _ => PS.length - (intOf s27).toNat)
      case atStart => exact ⟨0, [], none, 0, by omega, rfl, rfl, hid rfl, HX4', hid (World.ownsRow_nil _ _ _ _), HG4', HP4', Nat.le_refl _⟩
      case round =>
        obtain ⟨i, ns, A0, c0, hi, hns, rfl, HN, HX, HO, HG, HP, hs4⟩ := hrel
        obtain ⟨wo, rfl⟩ : ∃ q : World, q = wr := ⟨_, rfl⟩
        by_cases hlt : i < PS.length
        · have ti : ((i : Int) < (PS.length : Int)) = True := eq_true (by omega)
          have dp : wo.cell? ⟨w3.heap.size, i, none⟩ = some (.string (bstr PS[i])) := (HP.out.cells.1 i).trans (by simp [wcells, hlt])
          have HTP := hid (show PS.take (i + 1) = PS.take i ++ [PS[i]] from List.take_succ_eq_append_getElem hlt)
          have HBD := hid (fun (h : numR PS[i] = none) => numsR_bad (List.getElem_mem hlt) h)
          have HPL := hid (HPW.out _ (List.getElem_mem hlt))
          generalize PS[i] = l at *
          have HC := hid (qnumber_any l HPL.out wo)
          obtain ⟨RN, hRN⟩ : ∃ q, q = numR l := ⟨_, rfl⟩
          rw [← hRN] at HC
          have HRN := hid hRN
          clear hRN
          go_wp2_with fail
          refine HC.out.mono ?_
          rintro e w5 ⟨rfl, hb5⟩
          have HX5 := hid (HX.out.step hb5)
          have HG5 := hid (qg_below HG.out hb5)
          have HP5 := hid (HP.out.step hb5)
          have HO5 := hid (qown_step HO.out hb5)
          have hs5 : w4.heap.size ≤ w5.heap.size := Nat.le_trans hs4 hb5.size
          clear hb5 HC dp HX HO HG HP
          cases RN with
          | none =>
            have HZ := hid (show pickW [x, y] = none by simp only [pickW]; rw [HNX.out, ← HPS.out, HBD.out HRN.out.symm])
            go_wp2_with fail
            -- STOP-f
            go_ret
            exact ⟨ret_bool (by rw [HR.out, HZ.out]; rfl), HG5.out, _, _, _, _, _, _, _, HX5.out, fun a l h => by rw [HZ.out] at h; cases h⟩
          | some N =>
            obtain ⟨cHX5, fHX5, sHX5, nHX5⟩ := HX5.out.all
            try simp only [cbox] at cHX5
            go_wp2_with (at_builtin; refine wpList_append_row elem_int rfl _ _ rfl w4.heap.size _ _ _ rfl (HO5.out.alloc _) (some ⟨w5.heap.size, 0, none⟩) 1 1 (w5.heap.size + 1) (icells' [N]) rfl rfl (by exact Row.new' w5 _ _ rfl rfl (Nat.lt_succ_self _)) (icellsQ_one [N]) ?_ ?_ ?_ ?_; rotate_right; intro v7 w7 hown7 hg7 hif7; obtain ⟨A7, c7, rfl⟩ := own_formS hown7; have X7 := (HX5.out.alloc _).grown' hg7 (own_ne_lo HO5.out b hb4); obtain ⟨cX7, fX7, sX7, nX7⟩ := X7.all; rotate_left; (simp only [maxLen]; omega); (omega); (have := HX5.out.lt; simp; omega))
            -- STOP-g
            have HG7 := hid (qg_own (qg_below HG5.out ((Below.refl _ _).alloc (Nat.le_refl _) _)) hg7 (fun g e => by have := (HO5.out.lt g e).1; omega))
            have hs7 : w4.heap.size ≤ w7.heap.size := by have := hg7.size; simp at this; omega
            have HP7 := hid ((HP5.out.alloc _).grown' hg7 (own_ne_lo HO5.out _ hlt4))
            have HX7 := hid X7
            have HOW7 := hid hown7
            clear hg7 hif7 hown7 X7 cX7 fX7 sX7 nX7
            clear cHX5 fHX5 sHX5 nHX5
            go_roundw
            case rel =>
              refine ⟨i + 1, ns ++ [N], A7, c7, by omega, by simp [hns], by go_num, hid ?_, hid ?_, hid ?_, hid (qg_trans HG7.out (qg_set _ _ _ _)), hid (HP7.out.other hne3 _), by simpa using hs7⟩
              · rw [HTP.out]; exact numsR_snoc HN.out HRN.out.symm
              · exact HX7.out.set 6 _
              · have := ownsRow_setCell_below HOW7.out (a := ⟨b, 6, none⟩) hb4 (.slice A7 (i + 1) c7)
                simpa [icells'] using this
            case measure => simp [intOf]; exact Nat.sub_lt_sub_left hlt (Nat.lt_succ_self i)
        · have ti : ((i : Int) < (PS.length : Int)) = False := eq_false (by omega)
          have hti : PS.take i = PS := List.take_of_length_le (by omega)
          rw [hti] at HN
          have HZ := hid (show pickW [x, y] = some (a', ns) by simp only [pickW]; rw [HNX.out, ← HPS.out, HN.out])
          clear hti
          go_wp2_with fail
          -- STOP-h
          go_ret
          refine ⟨ret_bool (by rw [HR.out, HZ.out]; rfl), HG.out, _, _, _, _, _, _, _, HX.out, fun a l h => ?_⟩
          rw [HZ.out] at h
          obtain ⟨rfl, rfl⟩ := Prod.mk.inj (Option.some.inj h)
          refine ⟨rfl, rfl, rfl, rfl, hns.symm, Row.of_ownS HO.out, fun g off q e => ?_⟩
          have := (HO.out.lt g (by rw [e]; rfl)).1
          omega
  · have t0 : ((ws.length : Int) != 2) = true := by rw [bne_iff_ne]; exact fun e => hlen (Int.ofNat.inj e)
    have HL := hid hlen
    clear hlen
    go_enter Tryd.func35, Tryd.ntmps35
    go_upto_region 1 with fail
    refine wp_region_quiet_lit (by kernel_rfl) (by kernel_rfl) ?_
    repeat (any_goals ((with_reducible refine wpQuiet_step (fun K hK => ?_)); go_simp; first | (with_reducible refine hK _ ?_; clear hK K) | ((with_reducible apply Exists.intro); (with_reducible refine ⟨fun _ => ?_, hK _ ?_⟩); (fail); clear hK K) | ((with_reducible refine (if_neg ?_).mpr (hK _ ?_)); (decide); clear hK K) | (split <;> (with_reducible refine hK _ ?_; clear hK K))))
    all_goals ((with_reducible refine wpQuiet_nil ?_); intro _ hw'; obtain ⟨nq, hw''⟩ := hw'; subst hw'')
    go_wp2_with fail
    -- STOP-b
    go_ret
    have hn : pickW ws = none := by
      match ws, HL.out with
      | [], _ => rfl
      | [_], _ => rfl
      | [_, _], h => exact absurd rfl h
      | _ :: _ :: _ :: _, _ => rfl
    exact ⟨ret_bool (by rw [HR.out, hn]; rfl), qg_below (qg_refl _ _) (by (repeat' (first | (with_reducible exact Below.refl _ _) | (with_reducible assumption) | (with_reducible refine below_drewN ?_ _) | (with_reducible refine Below.drew ?_) | (with_reducible refine Below.alloc ?_ ?_ _) | (with_reducible refine Below.setCell ?_ ?_ _) | (refine Below.trans ?_ (Below.mono (by assumption) ?_)) | go_size))), 0, 0, 0, 0, none, 0, 0, HB.out, fun a l h => by rw [hn] at h; cases h⟩
end Go.Proofs.YtamlaeocojcgdaaDoor
/- viewref.Pieces. -/
namespace Go.Proofs.YtamlaeocojcgdaaDoor
set_option linter.unusedVariables false
set_option linter.unusedSimpArgs false
open Go.ChangeShapes Go.WideShapes Go.ChangeAt Go.RowKit

theorem elem_str : Elem Tryd.prog 44 9 1 16 := ⟨Tryd.underlying44, by
  obtain ⟨i, hi, hz, hs, hb⟩ := info_parts (P := Tryd.prog) (e := 9) (z := .string ⟨#[]⟩) (size := 1) (bytes := 16) (by kernel_rfl)
  exact ⟨i, _, hi, hz, hs, hb, rfl⟩, by decide⟩
theorem wcells_one (l : List (List UInt8)) : ∀ u ∈ wcells l, u.oneCell' = true := by
  intro u hu
  obtain ⟨x, -, rfl⟩ := List.mem_map.1 hu
  rfl
theorem bsq_one (D : List UInt8) (i : Nat) (h : i < D.length) : (bstr D).extract i (i + 1) = bstr [D[i]] := by
  apply ByteArray.ext
  rw [ByteArray.data_extract]
  simp
  rw [List.drop_eq_getElem_cons h]
  rfl
/-- Strings of a call's own making. -/
def StrsPost (P : List (List UInt8)) (w : World) (e : Ending) (w' : World) : Prop :=
  ∃ (A : Option Addr) (k : Nat), e = .returned (.slice A P.length k) ∧ w'.ownsRow w.heap.size 9 1 (.slice A P.length k) P.length (wcells P) ∧ Below w.heap.size w w'

set_option maxHeartbeats 4000000 in
set_option maxRecDepth 100000 in
theorem rpieces_any (D : List UInt8) (hD : D.length ≤ 2000) (c : UInt8) (w : World) :
    Calls Tryd.prog 22 #[.string (bstr D), .int .u8 c.toNat] w (StrsPost (pcs c D) w) := by
  have hsz := bstr_size D
  have hc8 := bsq_lt c
  go_enter Tryd.func22, Tryd.ntmps22
  go_wp2_with fail
  -- STOP-a
  go_loopw [5, 6] (fun s5 s6 wr => ∃ (i : Nat) (P : List (List UInt8)) (j : Nat), i ≤ D.length ∧ P.length = j + 1 ∧ j ≤ i ∧ s6 = .int .i64 i ∧ Hid (P = pcs c (D.take i)) ∧ Hid (wr.ownsRow w.heap.size 9 1 s5 (j + 1) (wcells P)) ∧ Hid (Below w.heap.size w wr)) (fun _ s6 _ => D.length - (intOf s6).toNat)
  case atStart => exact ⟨0, [[]], 0, by omega, rfl, by omega, rfl, hid rfl, hid (World.ownsRow_lit w #[.string ⟨#[]⟩] 1 (Nat.le_refl _) (by decide) rfl), hid ((Below.refl _ _).alloc (Nat.le_refl _) _)⟩
  case round =>
    obtain ⟨i, P, j, hi, hPj, hji, rfl, HP, HO, HB⟩ := hrel
    obtain ⟨wo, rfl⟩ : ∃ q : World, q = wr := ⟨_, rfl⟩
    obtain ⟨g, k, rfl, hgb, hgl⟩ := HO.out.form (by omega)
    by_cases hlt : i < D.length
    · have ti : ((i : Int) < (D.length : Int)) = True := eq_true (by omega)
      have hgi := bsq_get D i hlt
      have he := bsq_one D i hlt
      have HT := hid (show D.take (i + 1) = D.take i ++ [D[i]] from List.take_succ_eq_append_getElem hlt)
      generalize hb : D[i] = b at *
      have hb8 := bsq_lt b
      by_cases hbc : b = c
      · have tb : ((b.toNat : Int) == (c.toNat : Int)) = true := by rw [hbc]; simp
        have HN := hid (show P ++ [[]] = pcs c (D.take (i + 1)) by rw [HT.out, hbc, pcs_snoc_sep, ← HP.out])
        clear hbc hb
        go_wp2_with (at_builtin; refine wpList_append_row elem_str rfl _ _ rfl w.heap.size _ _ _ rfl (HO.out.alloc _) (some ⟨wo.heap.size, 0, none⟩) 1 1 (wo.heap.size + 1) (wcells [[]]) rfl rfl (by exact Row.new' wo _ _ rfl rfl (Nat.lt_succ_self _)) (wcells_one [[]]) ?_ ?_ ?_ ?_; rotate_right; intro v7 w7 hown7 hg7 hif7; obtain ⟨A7, c7, rfl⟩ := own_formS hown7; rotate_left; (simp only [maxLen]; omega); (omega); (have := HB.out.size; simp; omega))
        -- STOP-b
        have HOW := hid hown7
        have HB7 := hid (Below.grown (HB.out.alloc HB.out.size _) hg7 (HB.out.alloc HB.out.size _).size (fun g e => (HO.out.lt g e).1))
        clear hown7 hg7 hif7
        go_roundw
        case rel =>
          refine ⟨i + 1, P ++ [[]], j + 1, by omega, by simp [hPj], by omega, by go_num, HN, hid ?_, HB7⟩
          have := HOW.out
          simpa [wcells] using this
        case measure => simp [intOf]; exact Nat.sub_lt_sub_left hlt (Nat.lt_succ_self i)
      · have tb : ((b.toNat : Int) == (c.toNat : Int)) = false := beq_eq_false_iff_ne.2 (fun e => hbc (UInt8.toNat_inj.1 (Int.ofNat.inj e)))
        obtain ⟨r, p, e1, e2⟩ := pcs_snoc hbc (D.take i)
        have HN := hid (show r ++ [p ++ [b]] = pcs c (D.take (i + 1)) by rw [HT.out, e2])
        have hPr : P = r ++ [p] := HP.out.trans e1
        have hrj : r.length = j := by rw [hPr] at hPj; simpa using hPj
        have hp : p.length ≤ 2000 := by
          have := (pcs_len c (D.take i)).2 p (by rw [e1]; simp)
          rw [List.length_take] at this
          omega
        have hcl : wo.cell? ⟨g, j, none⟩ = some (.string (bstr p)) := by
          rw [HO.out.cellAt j (by omega), hPr]
          simp [wcells, ← hrj]
        have hfl : wo.frozen? ⟨g, j, none⟩ = false := HO.out.frozenAt j
        have hne : p.length + 1 ≤ 2001 := by omega
        obtain ⟨BP, hBP⟩ : ∃ q, q = bstr p := ⟨_, rfl⟩
        obtain ⟨BB, hBB⟩ : ∃ q, q = bstr [b] := ⟨_, rfl⟩
        have hzp : BP.size = p.length := by rw [hBP]; rfl
        have hzb : BB.size = 1 := by rw [hBB]; rfl
        have gz : (9223372036854775807 < BP.size + BB.size) = False := eq_false (by omega)
        have HAD := hid (show BP ++ BB = bstr (p ++ [b]) by rw [hBP, hBB, bstr_app])
        rw [← hBP] at hcl
        rw [← hBB] at he
        have wj : IntKind.i64.wrap ((j : Int) + 1 - 1) = (j : Int) := by rw [show (j : Int) + 1 - 1 = j by omega]; exact IntWalk.i64_in _ (by omega)
        have wi : IntKind.i64.wrap ((i : Int) + 1) = (i : Int) + 1 := IntWalk.i64_in _ (by omega)
        have hj0 : (0 : Int) ≤ (j : Int) := by omega
        have hi1 : (i : Int) + 1 ≤ (D.length : Int) := by omega
        have HE1 := hid e1
        have HPR := hid hPr
        have HRJ := hid hrj
        clear hBP hBB hzp hzb hb hbc e1 e2 hPr hrj hp hne
        go_upto_region 7 with fail
        -- STOP-c
        go_region
        -- STOP-e
        go_wp2_with fail
        go_roundw
        case rel =>
          have hst := HO.out.stored j (.string (BP ++ BB))
          refine ⟨i + 1, r ++ [p ++ [b]], j, by omega, by have := HRJ.out; simp [this], by omega, by go_num, HN, hid ?_, hid ?_⟩
          · have hx : (wcells P).set j (.string (BP ++ BB)) = wcells (r ++ [p ++ [b]]) := by
              rw [HPR.out, HAD.out, ← HRJ.out]
              simp [wcells]
            rw [← hx]
            exact hst.1
          · exact (Below.grown HB.out hst.2 HB.out.size (fun q e => by injection e with e; omega)).drew
        case measure => simp [intOf]; exact Nat.sub_lt_sub_left hlt (Nat.lt_succ_self i)
    · have ti : ((i : Int) < (D.length : Int)) = False := eq_false (by omega)
      have hti : D.take i = D := List.take_of_length_le (by omega)
      rw [hti] at HP
      clear hti
      go_wp2_with fail
      -- STOP-d
      go_ret
      refine ⟨some ⟨g, 0, none⟩, k, ?_, ?_, HB.out⟩
      · rw [← HP.out, hPj]; first | done | rfl
      · rw [← HP.out, hPj]; exact HO.out
end Go.Proofs.YtamlaeocojcgdaaDoor
/- Contracts of the small functions of the packages cmp and dot. -/
namespace Go.Proofs.YtamlaeocojcgdaaDoor
set_option linter.unusedVariables false
open Go.ChangeShapes Go.WideShapes Go.ChangeAt Go.RowKit

def inB (n lo hi : Int) : Bool := decide (lo ≤ n) && decide (n ≤ hi)

theorem in_any (n lo hi : Int) (w : World) :
    Calls Tryd.prog 9 #[.int .i64 n, .int .i64 lo, .int .i64 hi] w fun e w' => e = .returned (.bool (inB n lo hi)) ∧ w = w' := by
  go_enter Tryd.func9, Tryd.ntmps9
  go_wp2
  all_goals go_ret
  all_goals (refine ⟨?_, rfl⟩; first | (simp [inB, *]; done) | (simp [inB, *]; omega) | (simp [inB]; omega))

end Go.Proofs.YtamlaeocojcgdaaDoor
/- viewref.Whole. -/
namespace Go.Proofs.YtamlaeocojcgdaaDoor
set_option linter.unusedVariables false
set_option linter.unusedSimpArgs false
open Go.ChangeShapes Go.WideShapes Go.ChangeAt Go.RowKit

theorem numR_first (D : List UInt8) : (D = [] ∧ numR D = none) ∨ (∃ d, D = 45 :: d ∧ numR D = numD true d) ∨ (∃ x d, D = x :: d ∧ x ≠ 45 ∧ numR D = numD false D) := by
  cases D with
  | nil => exact .inl ⟨rfl, by decide⟩
  | cons x d =>
    by_cases h : x = 45
    · subst h; exact .inr (.inl ⟨d, rfl, rfl⟩)
    · exact .inr (.inr ⟨x, d, rfl, h, by simp [numR, h]⟩)
theorem lt_or (n : Nat) : (1 < (n : Int)) = True ∨ (1 < (n : Int)) = False := by
  by_cases q : 1 < n
  · exact .inl (eq_true (by omega))
  · exact .inr (eq_false (by omega))
set_option maxHeartbeats 4000000 in
set_option maxRecDepth 100000 in
theorem rwhole_any (D : List UInt8) (hD : D.length ≤ 2000) (w : World) :
    Calls Tryd.prog 50 #[.string (bstr D), .int .i64 10] w fun e w' => e = .returned (.tuple #[.int .i64 ((numR D).getD 0), .bool (numR D).isSome]) ∧ Below w.heap.size w w' := by
  have hsz := bstr_size D
  obtain ⟨RR, hRR⟩ : ∃ q, q = numR D := ⟨_, rfl⟩
  rw [← hRR]
  have hcas : ∃ (m : Bool) (d : List UInt8), Hid (RR = numD m d) ∧ d.length ≤ 2000 ∧ ((m = true ∧ ∃ hh : 0 < D.length, (bstr D)[0]'hh = 45 ∧ (0 < D.length) = True ∧ (bstr D).extract 1 D.length = bstr d) ∨
      (m = false ∧ d = D ∧ (0 < D.length) = False) ∨ (m = false ∧ d = D ∧ (0 < D.length) = True ∧ ∃ (hh : 0 < D.length) (x : UInt8), (bstr D)[0]'hh = x ∧ ((x.toNat : Int) == 45) = false)) := by
    rcases numR_first D with ⟨h1, h2⟩ | ⟨d, h1, h2⟩ | ⟨x, d, h1, h2, h3⟩
    · exact ⟨false, D, hid (by rw [hRR, h1]; decide), hD, .inr (.inl ⟨rfl, rfl, eq_false (by simp [h1])⟩)⟩
    · refine ⟨true, d, hid (hRR.trans h2), by rw [h1] at hD; simp at hD; omega, .inl ⟨rfl, by rw [h1]; simp, ?_⟩⟩
      subst h1
      refine ⟨rfl, eq_true (by simp only [List.length_cons]; omega), ?_⟩
      apply ByteArray.ext
      rw [ByteArray.data_extract]
      simp
    · refine ⟨false, D, hid (hRR.trans h3), hD, .inr (.inr ⟨rfl, rfl, eq_true (by rw [h1]; simp only [List.length_cons]; omega), by rw [h1]; simp, x, ?_, beq_eq_false_iff_ne.2 fun e => h2 (UInt8.toNat_inj.1 (Int.ofNat.inj e))⟩)⟩
      subst h1
      rfl
  clear hRR
  obtain ⟨m, d, HR, hdl, hcas⟩ := hcas
  have HL := hid (fun (h : ¬ (1 ≤ d.length ∧ d.length ≤ 10)) => HR.out.trans (numD_len (m := m) h))
  have HXB := hid (fun (b : UInt8) (h : b ∈ d) (h2 : digB b = false) => HR.out.trans (numD_bad (m := m) h h2))
  have HNT := hid (fun (h : d.head? = some 48 ∧ (1 < d.length ∨ m = true)) => HR.out.trans (numD_nought h))
  have HG := hid (fun (h1 : 1 ≤ d.length) (h2 : d.length ≤ 10) (h3 : ¬ (d.head? = some 48 ∧ (1 < d.length ∨ m = true))) (h4 : ∀ x ∈ d, digB x = true) => HR.out.trans (numD_good (m := m) (d := d) h1 h2 h3 h4))
  have HNM := hid (fun (hm : m = true) (h : d.head? = some 48) => HNT.out ⟨h, .inr hm⟩)
  have HGM := hid (fun (hm : m = false) (hl : ¬ 1 < d.length) (h1 : 1 ≤ d.length) (h2 : d.length ≤ 10) h4 => HG.out h1 h2 (fun q => q.2.elim hl (by rw [hm]; decide)) h4)
  have hdz := bstr_size d
  clear HR hsz
  rcases hcas with ⟨rfl, hh, hx, t0, hex⟩ | ⟨rfl, hdD, t0⟩ | ⟨rfl, hdD, t0, hh, x, hx, t00⟩
  all_goals try subst hdD
  all_goals
    go_enter Tryd.func50, Tryd.ntmps50
    go_wp2_with fail
  all_goals try clear t00
  all_goals try clear t0
  all_goals try clear hx
  all_goals
    -- STOP-a
    go_loop [7, 8] (fun s7 s8 => ∃ (i : Nat) (N : Int), i ≤ d.length ∧ i ≤ 12 ∧ s8 = .int .i64 i ∧ s7 = .int .i64 N ∧ Hid (N = valD (d.take i)) ∧ Hid (∀ x ∈ d.take i, digB x = true)) (fun _ s8 => 12 - (intOf s8).toNat)
    case atStart => exact ⟨0, 0, by omega, by omega, rfl, rfl, hid rfl, hid (fun x hx => by simp at hx)⟩
    case round =>
      obtain ⟨i, N, hi, hi2, rfl, rfl, HV, HD⟩ := hrel
      have hN : 0 ≤ N ∧ N < 1000000000000 := by
        have h1 := valD_rng _ (d.take i) rfl HD.out
        have h2 : (10 : Int) ^ (d.take i).length ≤ 10 ^ 12 := by exact_mod_cast Nat.pow_le_pow_right (n := 10) (by omega) (by rw [List.length_take]; omega)
        have h4 : (10 : Int) ^ 12 = 1000000000000 := by decide
        rw [HV.out]; omega
      by_cases hlt : i < d.length ∧ i < 12
      · have ti : ((i : Int) < (d.length : Int)) = True := eq_true (by omega)
        have ti2 : ((i : Int) < 12) = True := eq_true (by omega)
        have hgi := bsq_get d i hlt.1
        have HT := hid (show d.take (i + 1) = d.take i ++ [d[i]] from List.take_succ_eq_append_getElem hlt.1)
        have HM := hid (List.getElem_mem hlt.1)
        generalize d[i] = b at *
        have hb8 := bsq_lt b
        by_cases hb1 : b.toNat < 48
        · have t2 : ((b.toNat : Int) < 48) = True := eq_true (by omega)
          have HB := hid (HXB.out b HM.out (show digB b = false by simp [digB]; omega))
          go_wp2_with fail
          -- STOP-b
          go_ret2
          exact ⟨by rw [HB.out]; rfl, Below.refl _ _⟩
        · have t2 : ((b.toNat : Int) < 48) = False := eq_false (by omega)
          by_cases hb2 : 57 < b.toNat
          · have t3 : (57 < (b.toNat : Int)) = True := eq_true (by omega)
            have HB := hid (HXB.out b HM.out (show digB b = false by simp [digB]; omega))
            go_wp2_with fail
            go_ret2
            exact ⟨by rw [HB.out]; rfl, Below.refl _ _⟩
          · have t3 : (57 < (b.toNat : Int)) = False := eq_false (by omega)
            have w1 : IntKind.i64.wrap (N * 10) = N * 10 := IntWalk.i64_in _ (by omega)
            have w2 : IntKind.i64.wrap (b.toNat : Int) = (b.toNat : Int) := IntWalk.i64_in _ (by omega)
            have w3 : IntKind.i64.wrap (N * 10 + (b.toNat : Int)) = N * 10 + (b.toNat : Int) := IntWalk.i64_in _ (by omega)
            have w4 : IntKind.i64.wrap (N * 10 + (b.toNat : Int) - 48) = N * 10 + (b.toNat : Int) - 48 := IntWalk.i64_in _ (by omega)
            go_wp2_with fail
            -- STOP-c
            go_round
            case rel =>
              refine ⟨i + 1, N * 10 + (b.toNat : Int) - 48, by omega, by omega, by go_num, rfl, hid ?_, hid (fun x hx => ?_)⟩
              · rw [HT.out, valD_snoc, ← HV.out]; omega
              · rw [HT.out] at hx
                rcases List.mem_append.1 hx with q | q
                · exact HD.out x q
                · rw [List.mem_singleton.1 q]; simp [digB]; omega
            case measure => simp [intOf]; omega
      · have hor : (((i : Int) < (d.length : Int)) = False) ∨ (((i : Int) < (d.length : Int)) = True ∧ ((i : Int) < 12) = False) := by
          by_cases q : i < d.length
          · exact .inr ⟨eq_true (by omega), eq_false (by omega)⟩
          · exact .inl (eq_false (by omega))
        by_cases hin : 1 ≤ d.length ∧ d.length ≤ 10
        · have ti : ((i : Int) < (d.length : Int)) = False := eq_false (by omega)
          have hti : d.take i = d := List.take_of_length_le (by omega)
          rw [hti] at HV HD
          have tin : inB (d.length : Int) 1 10 = true := by simp [inB]; omega
          have h0 : 0 < d.length := by omega
          have hy := bsq_get d 0 h0
          have HY := hid (show d.head? = some d[0] by rw [List.head?_eq_getElem?, List.getElem?_eq_getElem h0])
          have HDX := hid (show ∃ t, d = d[0] :: t from ⟨d.tail, by cases d with | nil => simp at h0 | cons x t => rfl⟩)
          generalize d[0] = y at *
          have hy8 := bsq_lt y
          have w1 : IntKind.i64.wrap (-N) = -N := IntWalk.i64_in _ (by omega)
          have HGG := hid (fun h3 => HG.out hin.1 hin.2 h3 HD.out)
          clear hor hti hlt hi hi2
          by_cases hy48 : y = 48
          · have ty : ((y.toNat : Int) == 48) = true := by rw [hy48]; rfl
            by_cases h1 : 1 < d.length
            · have t1 : (1 < (d.length : Int)) = True := eq_true (by omega)
              have HF := hid (HNT.out ⟨by rw [HY.out, hy48], .inl h1⟩)
              go_wp2_with (go_at_call 9; refine (in_any _ _ _ _).mono ?_; rintro e w' ⟨rfl, rfl⟩)
              -- STOP-d
              go_ret2
              exact ⟨by rw [HF.out]; rfl, Below.refl _ _⟩
            · have t1 : (1 < (d.length : Int)) = False := eq_false (by omega)
              have hN0 : N = 0 := by
                obtain ⟨t, ht⟩ := HDX.out
                have : t = [] := by
                  rw [ht] at h1
                  simp at h1
                  exact h1
                rw [HV.out, ht, this, hy48]
                decide
              have tN : (N == 0) = true := by rw [hN0]; rfl
              have HF1 := hid (show d.head? = some 48 by rw [HY.out, hy48])
              clear hN0
              first
                | (have HF := hid (HNM.out (by first | trivial | rfl) HF1.out)
                   go_wp2_with (go_at_call 9; refine (in_any _ _ _ _).mono ?_; rintro e w' ⟨rfl, rfl⟩)
                   go_ret2
                   exact ⟨by rw [HF.out]; rfl, Below.refl _ _⟩)
                | (have HF := hid (HGM.out (by first | trivial | rfl) h1 hin.1 hin.2 HD.out)
                   go_wp2_with (go_at_call 9; refine (in_any _ _ _ _).mono ?_; rintro e w' ⟨rfl, rfl⟩)
                   go_ret2
                   exact ⟨by rw [HF.out, ← HV.out]; rfl, Below.refl _ _⟩)
          · have ty : ((y.toNat : Int) == 48) = false := beq_eq_false_iff_ne.2 (fun e => hy48 (UInt8.toNat_inj.1 (Int.ofNat.inj e)))
            have hNp : 0 < N := by
              obtain ⟨t, ht⟩ := HDX.out
              rw [HV.out, ht]
              exact valD_pos (HD.out y (by rw [ht]; simp)) hy48 (fun x hx => HD.out x (by rw [ht]; simp [hx]))
            have tN : (N == 0) = false := beq_eq_false_iff_ne.2 (by omega)
            have HF := hid (HGG.out (fun q => hy48 (by have := HY.out.symm.trans q.1; exact Option.some.inj this)))
            rcases lt_or d.length with t1 | t1
            all_goals
              go_wp2_with (go_at_call 9; refine (in_any _ _ _ _).mono ?_; rintro e w' ⟨rfl, rfl⟩)
              -- STOP-e
              go_ret2
              exact ⟨by rw [HF.out, ← HV.out]; rfl, Below.refl _ _⟩
        · have tin : inB (d.length : Int) 1 10 = false := by
            unfold inB
            by_cases q : 1 ≤ d.length
            · rw [decide_eq_false (p := ((d.length : Int) ≤ 10)) (by omega), Bool.and_false]
            · rw [decide_eq_false (p := ((1 : Int) ≤ (d.length : Int))) (by omega), Bool.false_and]
          have HF := hid (HL.out hin)
          clear hin hlt
          rcases hor with ti | ⟨ti, ti2⟩
          all_goals
            go_wp2_with (go_at_call 9; refine (in_any _ _ _ _).mono ?_; rintro e w' ⟨rfl, rfl⟩)
            -- STOP-f
            go_ret2
            exact ⟨by rw [HF.out]; rfl, Below.refl _ _⟩
end Go.Proofs.YtamlaeocojcgdaaDoor
/- viewref.Wholes; slices.Index at strings. -/
namespace Go.Proofs.YtamlaeocojcgdaaDoor
set_option linter.unusedVariables false
set_option linter.unusedSimpArgs false
open Go.ChangeShapes Go.WideShapes Go.ChangeAt Go.RowKit

/-- viewref.Whole's contract. -/
def WholeC : Prop := ∀ (D : List UInt8), D.length ≤ 2000 → ∀ w : World,
    Calls Tryd.prog 50 #[.string (bstr D), .int .i64 10] w fun e w' => e = .returned (.tuple #[.int .i64 ((numR D).getD 0), .bool (numR D).isSome]) ∧ Below w.heap.size w w'
/-- Words as a row. -/
def WRow (w : World) (A : Option Addr) (ws : List (List UInt8)) : Prop := (∀ l ∈ ws, l.length ≤ 2000) ∧ Row w w.heap.size A (wcells ws)
theorem WRow.step {w w' : World} {A : Option Addr} {ws : List (List UInt8)} (h : WRow w A ws) (hb : Below w.heap.size w w') : WRow w' A ws := ⟨h.1, h.2.step hb⟩
theorem WRow.get {w : World} {A : Option Addr} {ws : List (List UInt8)} (h : WRow w A ws) {i : Nat} (hi : i < ws.length) : ∃ b off, A = some ⟨b, off, none⟩ ∧ b < w.heap.size ∧ w.cell? ⟨b, off + i, none⟩ = some (.string (bstr ws[i])) := by
  rcases h.2 with e | ⟨b, off, h1, h2, h3⟩
  · rw [List.map_eq_nil_iff.1 e] at hi; simp at hi
  · exact ⟨b, off, h1, h2, h3 i _ (by simp [wcells, hi])⟩
/-- Numbers of a call's own making, or none. -/
def WholesPost (ws : List (List UInt8)) (w : World) (e : Ending) (w' : World) : Prop :=
  ∃ (A : Option Addr) (n k : Nat), e = .returned (.tuple #[.slice A n k, .bool (numsR ws).isSome]) ∧ Below w.heap.size w w' ∧ ∀ ns, numsR ws = some ns → n = ns.length ∧ NewInts w' w.heap.size A ns

set_option maxHeartbeats 4000000 in
set_option maxRecDepth 100000 in
theorem rwholes_any (hWC : WholeC) (ws : List (List UInt8)) (A : Option Addr) (cp : Nat) (w : World) (hw : WRow w A ws) (hl : ws.length ≤ 2001) :
    Calls Tryd.prog 38 #[.slice A ws.length cp, .int .i64 10] w (WholesPost ws w) := by
  have HW := hid hw
  have HWC := hid hWC
  clear hw hWC
  go_enter Tryd.func38, Tryd.ntmps38
  go_wp2_with fail
  -- STOP-a
  go_loopw [6, 7] (fun s6 s7 wr => ∃ (i : Nat) (ns : List Int), i ≤ ws.length ∧ ns.length = i ∧ s7 = .int .i64 i ∧ Hid (numsR (ws.take i) = some ns) ∧ Hid (wr.ownsRow w.heap.size 3 1 s6 i (icells' ns)) ∧ Hid (Below w.heap.size w wr)) (fun _ s7 _ => ws.length - (intOf s7).toNat)
  case atStart => exact ⟨0, [], by omega, rfl, rfl, hid rfl, hid (World.ownsRow_nil _ _ _ _), hid (Below.refl _ _)⟩
  case round =>
    obtain ⟨i, ns, hi, hns, rfl, HN, HO, HB⟩ := hrel
    obtain ⟨wo, rfl⟩ : ∃ q : World, q = wr := ⟨_, rfl⟩
    obtain ⟨A6, c6, rfl⟩ := own_formS HO.out
    by_cases hlt : i < ws.length
    · have ti : ((i : Int) < (ws.length : Int)) = True := eq_true (by omega)
      obtain ⟨b, off, rfl, hb, hc⟩ := (HW.out.step HB.out).get hlt
      have HT := hid (show ws.take (i + 1) = ws.take i ++ [ws[i]] from List.take_succ_eq_append_getElem hlt)
      have HBD := hid (fun (h : numR ws[i] = none) => numsR_bad (List.getElem_mem hlt) h)
      have HPL := hid (HW.out.1 _ (List.getElem_mem hlt))
      generalize ws[i] = l at *
      have HC := hid (HWC.out l HPL.out wo)
      obtain ⟨RN, hRN⟩ : ∃ q, q = numR l := ⟨_, rfl⟩
      rw [← hRN] at HC
      have HRN := hid hRN
      clear hRN
      go_wp2_with fail
      refine HC.out.mono ?_
      rintro e w5 ⟨rfl, hb5⟩
      have HB5 := hid (Below.step' HB.out hb5)
      have HO5 := hid (qown_step HO.out hb5)
      clear hb5 HC hc HO
      cases RN with
      | none =>
        have HZ := hid (HBD.out HRN.out.symm)
        go_wp2_with fail
        -- STOP-c0
        go_ret2
        exact ⟨none, 0, 0, by rw [HZ.out]; rfl, HB5.out, fun ns h => by rw [HZ.out] at h; cases h⟩
      | some N =>
        go_wp2_with (at_builtin; refine wpList_append_row elem_int rfl _ _ rfl w.heap.size _ _ _ rfl (HO5.out.alloc _) (some ⟨w5.heap.size, 0, none⟩) 1 1 (w5.heap.size + 1) (icells' [N]) rfl rfl (by exact Row.new' w5 _ _ rfl rfl (Nat.lt_succ_self _)) (icellsQ_one [N]) ?_ ?_ ?_ ?_; rotate_right; intro v7 w7 hown7 hg7 hif7; obtain ⟨A7, c7, rfl⟩ := own_formS hown7; rotate_left; (simp only [maxLen]; omega); (omega); (have := HB5.out.size; simp; omega))
        -- STOP-g
        have HOW := hid hown7
        have HB7 := hid (Below.grown (HB5.out.alloc HB5.out.size _) hg7 (HB5.out.alloc HB5.out.size _).size (fun g e => (HO5.out.lt g e).1))
        clear hown7 hg7 hif7
        go_roundw
        case rel =>
          refine ⟨i + 1, ns ++ [N], by omega, by simp [hns], by go_num, hid ?_, hid ?_, HB7⟩
          · rw [HT.out]; exact numsR_snoc HN.out HRN.out.symm
          · have := HOW.out
            simpa [icells'] using this
        case measure => simp [intOf]; exact Nat.sub_lt_sub_left hlt (Nat.lt_succ_self i)
    · have ti : ((i : Int) < (ws.length : Int)) = False := eq_false (by omega)
      have hti : ws.take i = ws := List.take_of_length_le (by omega)
      rw [hti] at HN
      clear hti
      go_wp2_with fail
      -- STOP-h
      go_ret2
      refine ⟨A6, i, c6, by rw [HN.out]; rfl, HB.out, fun ns' h => ?_⟩
      rw [HN.out] at h
      obtain rfl := Option.some.inj h
      exact ⟨hns.symm, Row.of_ownS HO.out, fun g off q e => (HO.out.lt g (by rw [e]; rfl)).1⟩
def idxR (ws : List (List UInt8)) (v : List UInt8) : Int := match ws with
  | [] => -1
  | x :: l => if v = x then 0 else if idxR l v = -1 then -1 else idxR l v + 1
theorem idxR_miss : ∀ {ws : List (List UInt8)} {v : List UInt8}, (∀ l ∈ ws, v ≠ l) → idxR ws v = -1
  | [], _, _ => rfl
  | x :: l, v, h => by
    rw [idxR, if_neg (h x (by simp)), idxR_miss (fun y hy => h y (by simp [hy])), if_pos rfl]
theorem idxR_hit : ∀ {ws : List (List UInt8)} {v : List UInt8} {i : Nat} (hi : i < ws.length), (∀ l ∈ ws.take i, v ≠ l) → v = ws[i] → idxR ws v = i
  | x :: l, v, 0, hi, _, h => by
    have h' : v = x := h
    rw [idxR, if_pos h']; rfl
  | x :: l, v, i + 1, hi, hn, h => by
    have h1 : v ≠ x := hn x (by simp)
    have h2 := idxR_hit (ws := l) (v := v) (i := i) (by simpa using hi) (fun y hy => hn y (by simp [hy])) (by simpa using h)
    rw [idxR, if_neg h1, h2, if_neg (by omega)]
    omega
set_option maxHeartbeats 4000000 in
set_option maxRecDepth 100000 in
theorem indexS_any (ws : List (List UInt8)) (A : Option Addr) (cp : Nat) (v : List UInt8) (w : World) (hw : WRow w A ws) (hl : ws.length ≤ 2001) :
    Calls Tryd.prog 37 #[.slice A ws.length cp, .string (bstr v)] w fun e w' => e = .returned (.int .i64 (idxR ws v)) ∧ Below w.heap.size w w' := by
  have HW := hid hw
  clear hw
  obtain ⟨BV, hBV⟩ : ∃ q, q = bstr v := ⟨_, rfl⟩
  rw [← hBV]
  have HBV := hid hBV
  clear hBV
  go_enter Tryd.func37, Tryd.ntmps37
  go_wp2_with fail
  -- STOP-b
  go_loop [8] (fun s8 => ∃ i : Nat, i ≤ ws.length ∧ s8 = .int .i64 i ∧ Hid (∀ l ∈ ws.take i, v ≠ l)) (fun s8 => ws.length - (intOf s8).toNat)
  case atStart => exact ⟨0, by omega, rfl, hid (fun l hl => by simp at hl)⟩
  case round =>
    obtain ⟨i, hi, rfl, HN⟩ := hrel
    by_cases hlt : i < ws.length
    · have ti : ((i : Int) < (ws.length : Int)) = True := eq_true (by omega)
      obtain ⟨b, off, rfl, hb, hc⟩ := HW.out.get hlt
      have HT := hid (show ws.take (i + 1) = ws.take i ++ [ws[i]] from List.take_succ_eq_append_getElem hlt)
      have HH := hid (fun (h : v = ws[i]) => idxR_hit hlt HN.out h)
      generalize ws[i] = x at *
      obtain ⟨BX, hBX⟩ : ∃ q, q = bstr x := ⟨_, rfl⟩
      rw [← hBX] at hc
      by_cases he : v = x
      · have te : (BV.toList == BX.toList) = true := bsq_eqT HBV.out hBX he
        have HI := hid (HH.out he)
        clear hBX he
        go_wp2_with fail
        -- STOP-c
        go_ret
        exact ⟨ret_int HI.out.symm, Below.refl _ _⟩
      · have te : (BV.toList == BX.toList) = false := bsq_eqF HBV.out hBX he
        have HE := hid he
        clear hBX he
        go_wp2_with fail
        -- STOP-d
        go_round
        case rel =>
          refine ⟨i + 1, by omega, by go_num, hid (fun l hl => ?_)⟩
          rw [HT.out] at hl
          rcases List.mem_append.1 hl with q | q
          · exact HN.out l q
          · rw [List.mem_singleton.1 q]; exact HE.out
        case measure => simp [intOf]; exact Nat.sub_lt_sub_left hlt (Nat.lt_succ_self i)
    · have ti : ((i : Int) < (ws.length : Int)) = False := eq_false (by omega)
      have hti : ws.take i = ws := List.take_of_length_le (by omega)
      rw [hti] at HN
      have HI := hid (idxR_miss HN.out)
      clear hti
      go_wp2_with fail
      -- STOP-e
      go_ret
      exact ⟨ret_int HI.out.symm, Below.refl _ _⟩
end Go.Proofs.YtamlaeocojcgdaaDoor
