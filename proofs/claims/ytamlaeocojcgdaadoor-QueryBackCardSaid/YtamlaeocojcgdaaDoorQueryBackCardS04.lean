/- QtA, QrA, QrB, QrD, FrameN, OpenB, OpenI, OpenS, FrameO, QbP -/
import Derived.Test.YtamlaeocojcgdaaDoorQueryBackCardS03
import Derived.OpenShut
import Derived.ChangeMaps5
import Derived.Lay
import Derived.Deep.Slices
import Derived.JoinedCond
/- query.line, query.sign. -/
namespace Go.Proofs.YtamlaeocojcgdaaDoor
set_option linter.unusedVariables false
set_option linter.unusedSimpArgs false
open Go.ChangeShapes Go.WideShapes Go.ChangeAt Go.RowKit

/-- Numbers, each with a space ahead. -/
def numsT (l : List Int) : List UInt8 := l.flatMap numT
theorem numsT_snoc (l : List Int) (n : Int) : numsT (l ++ [n]) = numsT l ++ (32 :: Lib.itoa n) := by unfold numsT numT; rw [List.flatMap_append]; simp
def Small (l : List Int) : Prop := ∀ n ∈ l, -1073741824 ≤ n ∧ n ≤ 1073741824
theorem numsT_len {l : List Int} (h : Small l) : (numsT l).length ≤ 22 * l.length := by
  induction l with
  | nil => simp [numsT]
  | cons n l ih =>
    have h1 := numT_len (h n (by simp))
    have h2 := ih fun m hm => h m (by simp [hm])
    unfold numsT at h2 ⊢
    rw [List.flatMap_cons, List.length_append, List.length_cons]
    omega
set_option maxHeartbeats 1000000 in
set_option maxRecDepth 100000 in
theorem line_any (W0 : List UInt8) (l : List Int) (A : Option Addr) (c : Nat) (w : World) (hW : W0.length ≤ 100000) (hr : Row w w.heap.size A (icells' l)) (hl : l.length ≤ 100) (hs : Small l) (ht : Pow w) :
    Calls Tryd.prog 28 #[.string (bstr W0), .slice A l.length c] w fun e w' => e = .returned (.string (bstr (W0 ++ (numsT l ++ [10])))) ∧ Below w.heap.size w w' := by
  have HR := hid hr
  have HT := hid ht
  have hsz := bstr_size
  have hap := bstr_app
  clear hr ht
  go_enter Tryd.func28, Tryd.ntmps28
  go_wp2_with fail
  -- STOP-a
  go_loopw [0, 9] (fun s0 s9 wr => ∃ i : Nat, i ≤ l.length ∧ s9 = .int .i64 i ∧ s0 = .string (bstr (W0 ++ numsT (l.take i))) ∧ Hid (Below w.heap.size w wr)) (fun _ s9 _ => l.length - (intOf s9).toNat)
  case atStart => exact ⟨0, by omega, rfl, by simp [numsT], hid (Below.refl _ _)⟩
  case round =>
    obtain ⟨i, hi, rfl, rfl, HB⟩ := hrel
    by_cases hlt : i < l.length
    · have t1 : ((i : Int) < (l.length : Int)) = True := eq_true (by omega)
      have HN := hid (show W0 ++ numsT (l.take (i + 1)) = (W0 ++ numsT (l.take i)) ++ (32 :: Lib.itoa l[i]) by rw [List.take_succ_eq_append_getElem hlt, numsT_snoc, List.append_assoc])
      have hnl : (W0 ++ numsT (l.take i)).length ≤ 102200 := by
        have h1 := numsT_len (l := l.take i) (fun n hn => hs n (List.mem_of_mem_take hn))
        have h2 : (l.take i).length ≤ 100 := by rw [List.length_take]; omega
        rw [List.length_append]
        omega
      obtain ⟨b, off, rfl, hb, c0⟩ := (HR.out.step HB.out).int' hlt
      have h64 := hs _ (List.getElem_mem hlt)
      have hil := itoa21 h64
      generalize l[i] = x at *
      obtain ⟨S, hS⟩ : ∃ S, S = W0 ++ numsT (l.take i) := ⟨_, rfl⟩
      rw [← hS] at HN hnl ⊢
      clear hS
      have HC := hid (itoaN_any x h64 wr (Pow.step HT.out HB.out))
      obtain ⟨I, hI⟩ : ∃ I, I = Lib.itoa x := ⟨_, rfl⟩
      rw [← hI] at HC HN hil
      clear hI
      go_wp2_with fail
      -- STOP-b
      refine HC.out.mono ?_
      rintro e w2 ⟨rfl, hb2⟩
      have HB2 := hid (Below.step' HB.out hb2)
      have e32 : (⟨#[32]⟩ : ByteArray) = bstr [32] := rfl
      have hz1 : (bstr I).size = I.length := rfl
      clear hb2 HC
      go_wp2_with fail
      -- STOP-c
      go_roundw
      case rel => exact ⟨i + 1, by omega, by go_num, by rw [HN.out], HB2⟩
      case measure => simp [intOf]; omega
    · have t1 : ((i : Int) < (l.length : Int)) = False := eq_false (by omega)
      have hil : l.take i = l := List.take_of_length_le (by omega)
      rw [hil]
      have hnl : (W0 ++ numsT l).length ≤ 102200 := by
        have h1 := numsT_len hs
        rw [List.length_append]
        omega
      obtain ⟨S, hS⟩ : ∃ S, S = W0 ++ numsT l := ⟨_, rfl⟩
      have HE := hid (show W0 ++ (numsT l ++ [10]) = S ++ [10] by rw [hS, List.append_assoc])
      rw [← hS] at hnl ⊢
      clear hS
      have e10 : (⟨#[10]⟩ : ByteArray) = bstr [10] := rfl
      go_wp2_with fail
      -- STOP-d
      go_ret
      exact ⟨by rw [HE.out]; rfl, HB.out⟩
set_option maxHeartbeats 1000000 in
set_option maxRecDepth 100000 in
theorem sign_any (n : Int) (h : 0 ≤ n ∧ n ≤ 3) (w : World) :
    Calls Tryd.prog 29 #[.int .i64 n] w fun e w' => e = .returned (.string (bstr (signB n))) ∧ w = w' := by
  have hix : (Instr.index 68 (.agg #[.string ⟨#[]⟩, .string ⟨#[60]⟩, .string ⟨#[61]⟩, .string ⟨#[62]⟩]) (.int .i64 n)).run Tryd.prog w = .ok (.string (bstr (signB n))) w := by
    have hn : n = 0 ∨ n = 1 ∨ n = 2 ∨ n = 3 := by omega
    rcases hn with rfl | rfl | rfl | rfl
    all_goals first | rfl | kernel_rfl
  obtain ⟨S, hS⟩ : ∃ S, S = bstr (signB n) := ⟨_, rfl⟩
  rw [← hS] at hix ⊢
  clear hS
  go_enter Tryd.func29, Tryd.ntmps29
  go_wp2_with (simp only [hix])
  -- STOP-e
  go_ret
  exact ⟨rfl, rfl⟩
end Go.Proofs.YtamlaeocojcgdaaDoor
/- query.number. -/
namespace Go.Proofs.YtamlaeocojcgdaaDoor
set_option linter.unusedVariables false
set_option linter.unusedSimpArgs false
open Go.ChangeShapes Go.WideShapes Go.ChangeAt Go.RowKit

theorem numR_parts (D : List UInt8) : ∃ (m : Bool) (d : List UInt8), numR D = numD m d ∧ Lib.trimPrefix D [45] = d ∧ Lib.hasPrefix D [45] = m ∧ d.length ≤ D.length := by
  cases D with
  | nil => exact ⟨false, [], rfl, rfl, rfl, Nat.le_refl _⟩
  | cons x D =>
    by_cases h : x = 45
    · subst h
      refine ⟨true, D, rfl, ?_, ?_, by simp⟩ <;> simp [Lib.trimPrefix, Lib.hasPrefix, List.isPrefixOf]
    · refine ⟨false, x :: D, ?_, ?_, ?_, Nat.le_refl _⟩
      · simp [numR, h]
      · simp [Lib.trimPrefix, Lib.hasPrefix, List.isPrefixOf, Ne.symm h]
      · simp [Lib.hasPrefix, List.isPrefixOf, Ne.symm h]
theorem numD_len {m : Bool} {d : List UInt8} (h : ¬ (1 ≤ d.length ∧ d.length ≤ 10)) : numD m d = none := by
  unfold numD; rw [if_neg (fun q => h ⟨q.1, q.2.1⟩)]
theorem numD_nought {m : Bool} {d : List UInt8} (h : d.head? = some 48 ∧ (1 < d.length ∨ m = true)) : numD m d = none := by
  unfold numD; rw [if_neg (fun q => q.2.2.1 h)]
theorem numD_bad {m : Bool} {d : List UInt8} {x : UInt8} (hx : x ∈ d) (h : digB x = false) : numD m d = none := by
  unfold numD; rw [if_neg (fun q => by have := q.2.2.2 x hx; rw [h] at this; cases this)]
theorem numD_good {m : Bool} {d : List UInt8} (h1 : 1 ≤ d.length) (h2 : d.length ≤ 10) (h3 : ¬ (d.head? = some 48 ∧ (1 < d.length ∨ m = true))) (h4 : ∀ x ∈ d, digB x = true) : numD m d = some (if m then - valD d else valD d) := by
  unfold numD; rw [if_pos ⟨h1, h2, h3, h4⟩]

set_option maxHeartbeats 4000000 in
set_option maxRecDepth 100000 in
theorem qnumber_any (D : List UInt8) (hD : D.length ≤ 2000) (w : World) :
    Calls Tryd.prog 46 #[.string (bstr D)] w fun e w' => e = .returned (.tuple #[.int .i64 ((numR D).getD 0), .bool (numR D).isSome]) ∧ Below w.heap.size w w' := by
  obtain ⟨m, d, h1, h2, h3, h4⟩ := numR_parts D
  have HC := hid (Tryd.strings_CutPrefix (bstr D) ⟨#[45]⟩ w)
  have e1 : (⟨(Lib.trimPrefix (bstr D).data.toList (⟨#[45]⟩ : ByteArray).data.toList).toArray⟩ : ByteArray) = bstr d := by rw [← h2]
  have e2 : Lib.hasPrefix (bstr D).data.toList (⟨#[45]⟩ : ByteArray).data.toList = m := h3
  rw [e1, e2] at HC
  rw [h1]
  have hsz := bstr_size d
  have HDL := hid (show d.length ≤ 2000 by omega)
  clear e1 e2 h1 h2 h3 h4 hD
  obtain ⟨R, hR⟩ : ∃ q, q = numD m d := ⟨_, rfl⟩
  rw [← hR]
  have HR := hid hR
  clear hR
  go_enter Tryd.func46, Tryd.ntmps46
  go_wp2_with fail
  refine HC.out.mono ?_
  rintro e w' ⟨rfl, rfl⟩
  clear HC
  by_cases hl : 1 ≤ d.length ∧ d.length ≤ 10
  · have hwi : wiB (d.length : Int) 1 10 = true := wiB_iff.2 (by omega)
    have h0 : 0 < d.length := by omega
    have hx0 : (bstr d)[0]'h0 = d[0] := bsq_get d 0 h0
    have HX := hid (show d.head? = some d[0] by rw [List.head?_eq_getElem?, List.getElem?_eq_getElem h0])
    have HX1 := hid (List.getElem_mem h0)
    generalize d[0] = x at *
    have hx8 := bsq_lt x
    have hcas : (((x.toNat : Int) == 48) = true ∧ (1 < (d.length : Int)) = True ∧ Hid (numD m d = none)) ∨ (((x.toNat : Int) == 48) = true ∧ (1 < (d.length : Int)) = False ∧ m = true ∧ Hid (numD m d = none)) ∨
        (((x.toNat : Int) == 48) = true ∧ (1 < (d.length : Int)) = False ∧ m = false ∧ Hid (¬ (d.head? = some 48 ∧ (1 < d.length ∨ m = true)))) ∨ (((x.toNat : Int) == 48) = false ∧ Hid (¬ (d.head? = some 48 ∧ (1 < d.length ∨ m = true)))) := by
      by_cases hx : x = 48
      · have q0 : ((x.toNat : Int) == 48) = true := by rw [hx]; rfl
        by_cases h1 : 1 < d.length
        · exact .inl ⟨q0, eq_true (by omega), hid (numD_nought ⟨by rw [HX.out, hx], .inl h1⟩)⟩
        · cases m with
          | true => exact .inr (.inl ⟨q0, eq_false (by omega), rfl, hid (numD_nought ⟨by rw [HX.out, hx], .inr rfl⟩)⟩)
          | false => exact .inr (.inr (.inl ⟨q0, eq_false (by omega), rfl, hid (fun q => by rcases q.2 with r | r; exact h1 r; cases r)⟩))
      · refine .inr (.inr (.inr ⟨beq_eq_false_iff_ne.2 fun q => hx (UInt8.toNat_inj.1 (Int.ofNat.inj q)), hid (fun q => hx ?_)⟩))
        rw [HX.out] at q
        exact Option.some.inj q.1
    have hl1 := hl.2
    have HBD := hid (fun (y : UInt8) (h : y ∈ d) (h2 : digB y = false) => numD_bad (m := m) h h2)
    have HGD := hid (fun (h2 : d.length ≤ 10) h3 h4 => numD_good (m := m) (by omega) h2 h3 h4)
    clear hl HX HX1
    rcases hcas with ⟨t0, t1, HN⟩ | ⟨t0, t1, rfl, HN⟩ | ⟨t0, t1, rfl, HN⟩ | ⟨t0, HN⟩
    · go_wp2_with (go_at_call 43; refine (qwithin_any _ _ _ _).mono ?_; rintro e w' ⟨rfl, rfl⟩)
      go_ret2
      exact ⟨by rw [HR.out, HN.out]; rfl, Below.refl _ _⟩
    · go_wp2_with (go_at_call 43; refine (qwithin_any _ _ _ _).mono ?_; rintro e w' ⟨rfl, rfl⟩)
      go_ret2
      exact ⟨by rw [HR.out, HN.out]; rfl, Below.refl _ _⟩
    all_goals

      go_wp2_with (go_at_call 43; refine (qwithin_any _ _ _ _).mono ?_; rintro e w' ⟨rfl, rfl⟩)
      -- STOP-a
      go_loop [6, 32] (fun s6 s32 => ∃ (i : Nat) (N : Int), i ≤ d.length ∧ s32 = .int .i64 i ∧ s6 = .int .i64 N ∧ Hid (N = valD (d.take i)) ∧ Hid (∀ x ∈ d.take i, digB x = true)) (fun _ s32 => d.length - (intOf s32).toNat)
      case atStart => exact ⟨0, 0, by omega, rfl, rfl, hid rfl, hid (fun x hx => by simp at hx)⟩
      case round =>
        obtain ⟨i, N, hi, rfl, rfl, HV, HD⟩ := hrel
        have hN : 0 ≤ N ∧ N < 10000000000 := by
          have h1 := valD_rng _ (d.take i) rfl HD.out
          have h2 : (10 : Int) ^ (d.take i).length ≤ 10 ^ 10 := by exact_mod_cast Nat.pow_le_pow_right (n := 10) (by omega) (by rw [List.length_take]; omega)
          have h4 : (10 : Int) ^ 10 = 10000000000 := by decide
          rw [HV.out]; omega
        by_cases hlt : i < d.length
        · have ti : ((i : Int) < (d.length : Int)) = True := eq_true (by omega)
          have hgi := bsq_get d i hlt
          have HT := hid (show d.take (i + 1) = d.take i ++ [d[i]] from List.take_succ_eq_append_getElem hlt)
          have HM := hid (List.getElem_mem hlt)
          generalize d[i] = b at *
          have hb8 := bsq_lt b
          by_cases hb1 : b.toNat < 48
          · have t2 : ((b.toNat : Int) < 48) = True := eq_true (by omega)
            have HB := hid (HBD.out b HM.out (show digB b = false by simp [digB]; omega))
            go_wp2_with fail
            go_ret2
            exact ⟨by rw [HR.out, HB.out]; rfl, Below.refl _ _⟩
          · have t2 : ((b.toNat : Int) < 48) = False := eq_false (by omega)
            by_cases hb2 : 57 < b.toNat
            · have t3 : (57 < (b.toNat : Int)) = True := eq_true (by omega)
              have HB := hid (HBD.out b HM.out (show digB b = false by simp [digB]; omega))
              go_wp2_with fail
              go_ret2
              exact ⟨by rw [HR.out, HB.out]; rfl, Below.refl _ _⟩
            · have t3 : (57 < (b.toNat : Int)) = False := eq_false (by omega)
              have w1 : IntKind.i64.wrap (10 * N) = 10 * N := IntWalk.i64_in _ (by omega)
              have w2 : IntKind.u8.wrap ((b.toNat : Int) - 48) = (b.toNat : Int) - 48 := by simp [IntKind.wrap, IntKind.bits, IntKind.signed]; omega
              have w3 : IntKind.i64.wrap ((b.toNat : Int) - 48) = (b.toNat : Int) - 48 := IntWalk.i64_in _ (by omega)
              have w4 : IntKind.i64.wrap (10 * N + ((b.toNat : Int) - 48)) = 10 * N + ((b.toNat : Int) - 48) := IntWalk.i64_in _ (by omega)
              go_wp2_with fail
              -- STOP-c
              go_round
              case rel =>
                refine ⟨i + 1, 10 * N + ((b.toNat : Int) - 48), by omega, by go_num, rfl, hid ?_, hid (fun x hx => ?_)⟩
                · rw [HT.out, valD_snoc, ← HV.out]
                · rw [HT.out] at hx
                  rcases List.mem_append.1 hx with q | q
                  · exact HD.out x q
                  · rw [List.mem_singleton.1 q]; simp [digB]; omega
              case measure => simp [intOf]; omega
        · have ti : ((i : Int) < (d.length : Int)) = False := eq_false (by omega)
          have hti : d.take i = d := List.take_of_length_le (by omega)
          rw [hti] at HV HD
          have HG := hid (HGD.out hl1 HN.out HD.out)
          have w1 : IntKind.i64.wrap (-N) = -N := IntWalk.i64_in _ (by omega)
          clear hti
          try (cases m)
          all_goals
            go_wp2_with fail
            -- STOP-d
            go_ret2
            exact ⟨by rw [HR.out, HG.out, HV.out]; rfl, Below.refl _ _⟩
  · have hwi : wiB (d.length : Int) 1 10 = false := by
      cases q : wiB (d.length : Int) 1 10 with
      | false => rfl
      | true => have := wiB_out q; omega
    have HN := hid (numD_len (m := m) hl)
    clear hl
    go_wp2_with (go_at_call 43; refine (qwithin_any _ _ _ _).mono ?_; rintro e w' ⟨rfl, rfl⟩)
    -- STOP-b
    go_ret2
    exact ⟨by rw [HR.out, HN.out]; rfl, Below.refl _ _⟩
end Go.Proofs.YtamlaeocojcgdaaDoor
/- query.read: numbers of words into places of one block. -/
namespace Go.Proofs.YtamlaeocojcgdaaDoor
set_option linter.unusedVariables false
set_option linter.unusedSimpArgs false
open Go.ChangeShapes Go.WideShapes Go.ChangeAt Go.RowKit

/-- Words in memory, outside the block b. -/
def WordsAt (w : World) (b : Nat) (A : Option Addr) (ws : List (List UInt8)) : Prop :=
  (∀ l ∈ ws, l.length ≤ 2000) ∧ (ws = [] ∨ ∃ ba oa, A = some ⟨ba, oa, none⟩ ∧ ba ≠ b ∧ ba < w.heap.size ∧ ∀ j l, ws[j]? = some l → w.cell? ⟨ba, oa + j, none⟩ = some (.string (bstr l)))
theorem WordsAt.step {w w' : World} {b : Nat} {A : Option Addr} {ws : List (List UInt8)} (h : WordsAt w b A ws) (hb : Below w.heap.size w w') : WordsAt w' b A ws :=
  ⟨h.1, h.2.imp id fun ⟨ba, oa, h1, h2, h3, h4⟩ => ⟨ba, oa, h1, h2, Nat.lt_of_lt_of_le h3 hb.size, fun j l hj => ((bcell hb).1 _ _ h3).trans (h4 j l hj)⟩⟩
theorem WordsAt.grown {w w' : World} {b : Nat} {A : Option Addr} {ws : List (List UInt8)} (h : WordsAt w b A ws) (hb : w.grownBy w' (some b)) : WordsAt w' b A ws :=
  ⟨h.1, h.2.imp id fun ⟨ba, oa, h1, h2, h3, h4⟩ => ⟨ba, oa, h1, h2, Nat.lt_of_lt_of_le h3 hb.size, fun j l hj => (World.cell?_of_block (w := w) (hb.block _ h3 (fun e => h2 (Option.some.inj e)))).trans (h4 j l hj)⟩⟩
theorem WordsAt.tail {w : World} {b : Nat} {ba oa : Nat} {l : List UInt8} {ws : List (List UInt8)} (h : WordsAt w b (some ⟨ba, oa, none⟩) (l :: ws)) : WordsAt w b (some ⟨ba, oa + 1, none⟩) ws := by
  refine ⟨fun x hx => h.1 x (List.mem_cons_of_mem _ hx), ?_⟩
  rcases h.2 with e | ⟨ba', oa', e, h2, h3, h4⟩
  · cases e
  · obtain ⟨rfl, rfl, -⟩ := Addr.mk.inj (Option.some.inj e)
    refine .inr ⟨ba, oa + 1, rfl, h2, h3, fun j x hj => ?_⟩
    have := h4 (j + 1) x hj
    rw [show oa + 1 + j = oa + (j + 1) by omega]; exact this
theorem qg_refl (w : World) (b : Nat) : w.grownBy w (some b) := ⟨rfl, rfl, rfl, Nat.le_refl _, fun _ _ _ => rfl⟩
theorem qg_below {w w1 w2 : World} {b : Nat} (h : w.grownBy w1 (some b)) (hb : Below w1.heap.size w1 w2) : w.grownBy w2 (some b) :=
  ⟨hb.os.trans h.os, hb.tape.trans h.tape, hb.output.trans h.output, Nat.le_trans h.size hb.size, fun k hk hne => (hb.block k (Nat.lt_of_lt_of_le hk h.size)).trans (h.block k hk hne)⟩
theorem qg_trans {w w1 w2 : World} {b : Nat} (h : w.grownBy w1 (some b)) (hb : w1.grownBy w2 (some b)) : w.grownBy w2 (some b) :=
  ⟨hb.os.trans h.os, hb.tape.trans h.tape, hb.output.trans h.output, Nat.le_trans h.size hb.size, fun k hk hne => (hb.block k (Nat.lt_of_lt_of_le hk h.size) hne).trans (h.block k hk hne)⟩
theorem qg_set (w : World) (b o : Nat) (v : Value) : w.grownBy (w.setCell ⟨b, o, none⟩ v) (some b) :=
  ⟨by first | rfl | simp, by first | rfl | simp, by first | rfl | simp, by simp, fun k _ hne => Below.heap_setCell w ⟨b, o, none⟩ v k (fun e => hne (by rw [e]))⟩
/-- A block with numbers laid at places. -/
def setL (cs : Array Value) : List Nat → List Int → Array Value
  | o :: os, n :: ns => setL (cs.setIfInBounds o (.int .i64 n)) os ns
  | _, _ => cs
theorem setL_snoc : ∀ (os : List Nat) (ns : List Int) (cs : Array Value) (o : Nat) (n : Int), os.length = ns.length → setL cs (os ++ [o]) (ns ++ [n]) = (setL cs os ns).setIfInBounds o (.int .i64 n)
  | [], [], _, _, _, _ => rfl
  | o' :: os, n' :: ns, cs, o, n, h => by
    rw [List.cons_append, List.cons_append, setL, setL]
    exact setL_snoc os ns _ o n (by simpa using h)
  | [], _ :: _, _, _, _, h => by simp at h
  | _ :: _, [], _, _, _, h => by simp at h
theorem setL_size : ∀ (os : List Nat) (ns : List Int) (cs : Array Value), (setL cs os ns).size = cs.size
  | [], _, cs => by cases ‹List Int› <;> rfl
  | o :: os, [], cs => rfl
  | o :: os, n :: ns, cs => by rw [setL, setL_size os ns]; simp
/-- What read leaves behind it. -/
def ReadPost (w : World) (b : Nat) (cs : Array Value) (T : TypeId) (os : List Nat) (ws : List (List UInt8)) (w' : World) : Prop :=
  w.grownBy w' (some b) ∧ ∃ ps ns, Blk w' b (setL cs ps ns) T ∧ (∀ o ∈ ps, o ∈ os) ∧ (ws.length = os.length → ∀ ms, numsR ws = some ms → ps = os ∧ ns = ms)

set_option maxHeartbeats 4000000 in
set_option maxRecDepth 100000 in
theorem qread_any (ws : List (List UInt8)) (A : Option Addr) (c : Nat) (os : List Nat) (p cp b : Nat) (cs : Array Value) (T : TypeId) (w : World) (hw : WordsAt w b A ws) (hl : ws.length ≤ 2000) (hB : Blk w b cs T) (hos : ∀ o ∈ os, o < cs.size) (hol : os.length ≤ 2000)
    (hpb : p ≠ b) (hp : p < w.heap.size) (hpc : ∀ j o, os[j]? = some o → w.cell? ⟨p, j, none⟩ = some (.pointer (some ⟨b, o, none⟩))) :
    Calls Tryd.prog 33 #[.slice A ws.length c, .slice (some ⟨p, 0, none⟩) os.length cp] w fun e w' => e = .returned (.bool (decide (ws.length = os.length) && (numsR ws).isSome)) ∧ ReadPost w b cs T os ws w' := by
  obtain ⟨R, hR⟩ : ∃ q, q = (decide (ws.length = os.length) && (numsR ws).isSome) := ⟨_, rfl⟩
  rw [← hR]
  have HR := hid hR
  clear hR
  have HW := hid hw
  have HB := hid hB
  have HP := hid hpc
  clear hw hB hpc
  by_cases hlen : ws.length = os.length
  · have t0 : ((ws.length : Int) != (os.length : Int)) = false := by rw [hlen]; simp
    have HL := hid hlen
    clear hlen
    go_enter Tryd.func33, Tryd.ntmps33
    go_wp2_with fail
    -- STOP-a
    go_loopw [16] (fun s16 wr => ∃ (i : Nat) (ms : List Int), i ≤ ws.length ∧ s16 = .int .i64 i ∧ Hid (numsR (ws.take i) = some ms) ∧ Hid (w.grownBy wr (some b)) ∧ Hid (Blk wr b (setL cs (os.take i) ms) T)) (fun s16 _ => ws.length - (intOf s16).toNat)
    case atStart => exact ⟨0, [], by omega, rfl, hid rfl, hid (qg_refl _ _), HB⟩
    case round =>
      obtain ⟨i, ms, hi, rfl, HM, HG, HX⟩ := hrel
      obtain ⟨wo, rfl⟩ : ∃ q : World, q = wr := ⟨_, rfl⟩
      by_cases hlt : i < ws.length
      · have ti : ((i : Int) < (ws.length : Int)) = True := eq_true (by omega)
        obtain ⟨ba, oa, rfl, hba, hbw, hcw⟩ : ∃ ba oa, A = some ⟨ba, oa, none⟩ ∧ ba ≠ b ∧ ba < wo.heap.size ∧ wo.cell? ⟨ba, oa + i, none⟩ = some (.string (bstr ws[i])) := by
          rcases (HW.out.grown HG.out).2 with e | ⟨ba, oa, e1, e2, e3, e4⟩
          · rw [e] at hlt; simp at hlt
          · exact ⟨ba, oa, e1, e2, e3, e4 i _ (List.getElem?_eq_getElem hlt)⟩
        have hlo : i < os.length := by have := HL.out; omega
        have to1 : ((i : Int) < (os.length : Int)) = True := eq_true (by omega)
        have HWL := hid (HW.out.1 _ (List.getElem_mem hlt))
        have HTW := hid (show ws.take (i + 1) = ws.take i ++ [ws[i]] from List.take_succ_eq_append_getElem hlt)
        have HTO := hid (show os.take (i + 1) = os.take i ++ [os[i]] from List.take_succ_eq_append_getElem hlo)
        have hml : (os.take i).length = ms.length := by rw [numsR_len HM.out, List.length_take, List.length_take]; omega
        have HML := hid hml
        clear hml
        have hpo := HP.out i _ (List.getElem?_eq_getElem hlo)
        have HOS := hid (hos _ (List.getElem_mem hlo))
        have HBD := hid (fun (h : numR ws[i] = none) => numsR_bad (List.getElem_mem hlt) h)
        generalize ws[i] = l at *
        generalize os[i] = o at *
        have HC := hid (qnumber_any l HWL.out wo)
        obtain ⟨RN, hRN⟩ : ∃ q, q = numR l := ⟨_, rfl⟩
        rw [← hRN] at HC
        have HRN := hid hRN
        clear hRN
        go_wp2_with fail
        refine HC.out.mono ?_
        rintro e w2 ⟨rfl, hb2⟩
        have HG2 := hid (qg_below HG.out hb2)
        have HX2 := hid (HX.out.step hb2)
        have hp2 : w2.cell? ⟨p, i, none⟩ = some (.pointer (some ⟨b, o, none⟩)) := (World.cell?_of_block (w := w) (HG2.out.block _ hp (fun e => hpb (Option.some.inj e)))).trans hpo
        clear hb2 HC hcw hpo HX
        have hsz : o < (setL cs (os.take i) ms).size := by rw [setL_size]; exact HOS.out
        obtain ⟨Z, hZ⟩ : ∃ Z, w2.cell? ⟨b, o, none⟩ = some Z := ⟨_, (HX2.out.cells.1 o).trans (Array.getElem?_eq_getElem hsz)⟩
        have hZf : w2.frozen? ⟨b, o, none⟩ = false := HX2.out.cells.2 o
        clear hsz
        cases RN with
        | none =>
          have HN := hid (HBD.out HRN.out.symm)
          go_wp2_with fail
          -- STOP-c
          go_ret
          exact ⟨ret_bool (by rw [HR.out, HN.out]; simp), HG2.out, _, _, HX2.out, fun x hx => List.mem_of_mem_take hx, fun _ ms' h' => by rw [HN.out] at h'; cases h'⟩
        | some N =>
          go_wp2_with fail
          -- STOP-e
          go_roundw
          case rel =>
            refine ⟨i + 1, ms ++ [N], by omega, by go_num, hid ?_, hid (qg_trans HG2.out (qg_set _ _ _ _)), hid ?_⟩
            · rw [HTW.out]; exact numsR_snoc HM.out HRN.out.symm
            · rw [HTO.out, setL_snoc _ _ _ _ _ HML.out]; exact HX2.out.set o _
          case measure =>
            simp [intOf]
            exact Nat.sub_lt_sub_left hlt (Nat.lt_succ_self i)
      · have ti : ((i : Int) < (ws.length : Int)) = False := eq_false (by omega)
        have hti : ws.take i = ws := List.take_of_length_le (by omega)
        have hto : os.take i = os := List.take_of_length_le (by have := HL.out; omega)
        rw [hti] at HM
        rw [hto] at HX
        clear hti hto
        go_wp2_with fail
        -- STOP-d
        go_ret
        exact ⟨ret_bool (by rw [HR.out, HM.out, decide_eq_true HL.out]; rfl), HG.out, os, ms, HX.out, fun _ h => h, fun _ ms' h' => ⟨rfl, Option.some.inj (HM.out.symm.trans h')⟩⟩
  · have t0 : ((ws.length : Int) != (os.length : Int)) = true := by rw [bne_iff_ne]; exact fun e => hlen (Int.ofNat.inj e)
    go_enter Tryd.func33, Tryd.ntmps33
    go_wp2_with fail
    -- STOP-b
    go_ret
    exact ⟨ret_bool (by rw [HR.out, decide_eq_false hlen]; rfl), qg_refl _ _, [], [], HB.out, fun _ h => absurd h (by simp), fun h => absurd h hlen⟩
end Go.Proofs.YtamlaeocojcgdaaDoor
/- strings.Split, strings.Cut at one byte. -/
namespace Go.Proofs.YtamlaeocojcgdaaDoor
set_option linter.unusedVariables false
set_option linter.unusedSimpArgs false
open Go.ChangeShapes Go.WideShapes Go.ChangeAt Go.RowKit

/-- The library's variable that the search reads. -/
def MaxAt (w : World) : Prop := ∃ m, w.cell? ⟨1, 0, none⟩ = some (.int .i64 m)
theorem MaxAt.lt {w : World} (h : MaxAt w) : 1 < w.heap.size := by
  obtain ⟨m, hm⟩ := h
  exact World.block_lt_of_cell? w ⟨1, 0, none⟩ hm
theorem MaxAt.step {w w' : World} (h : MaxAt w) (hb : Below w.heap.size w w') : MaxAt w' := by
  have hl := h.lt
  obtain ⟨m, hm⟩ := h
  exact ⟨m, ((bcell hb).1 _ _ hl).trans hm⟩
theorem MaxAt.grown {w w' : World} {b : Nat} (h : MaxAt w) (hb : w.grownBy w' (some b)) (hne : 1 ≠ b) : MaxAt w' := by
  have hl := h.lt
  obtain ⟨m, hm⟩ := h
  exact ⟨m, (World.cell?_of_block (w := w) (hb.block _ hl (fun e => hne (Option.some.inj e)))).trans hm⟩
theorem MaxAt.of_shaped {w : World} (h : w.ShapedOpen Tryd.prog) : MaxAt w := Tryd.laysM146.s1_3 w h
/-- The pieces as strings. -/
abbrev wcells (ws : List (List UInt8)) : List Value := ws.map fun l => Value.string (bstr l)
theorem split_cells (c : UInt8) (D : List UInt8) : (Lib.splitB ⟨#[c]⟩ 0 (Lib.countB (bstr D) ⟨#[c]⟩) (bstr D)).map Value.string = wcells (pcs c D) := by
  have h := split_pcs c (bstr D)
  rw [bstr_list] at h
  rw [wcells, ← h, List.map_map]
  rfl
theorem split_count (c : UInt8) (D : List UInt8) : Lib.countB (bstr D) ⟨#[c]⟩ + 1 = (pcs c D).length := by
  have h := congrArg List.length (split_cells c D)
  have h2 := Lib.splitB_all ⟨#[c]⟩ (show 1 ≤ (#[c] : Array UInt8).size from Nat.le_refl 1) 0 _ (bstr D) rfl
  rw [List.length_map, List.length_map, h2] at h
  exact h
theorem split_any (D : List UInt8) (c : UInt8) (hD : D.length ≤ 2000) (w : World) (hm : MaxAt w) :
    Calls Tryd.prog 21 #[.string (bstr D), .string ⟨#[c]⟩] w fun e w' =>
      e = .returned (.slice (some ⟨w.heap.size, 0, none⟩) (pcs c D).length (pcs c D).length) ∧ w' = w.alloc (.cells (wcells (pcs c D)).toArray 9) := by
  obtain ⟨m, hm⟩ := hm
  have h := Any.strings_Split { Tryd.laysM146 with } Tryd.laysM146.i9 (bstr D) ⟨#[c]⟩ m w (by rw [bstr_size]; omega) hm (show 1 ≤ (#[c] : Array UInt8).size from Nat.le_refl 1)
  rw [split_cells, split_count] at h
  exact h
theorem cut_any (D : List UInt8) (c : UInt8) (hD : D.length ≤ 2000) (w : World) (hm : MaxAt w) :
    Calls Tryd.prog 19 #[.string (bstr D), .string ⟨#[c]⟩] w fun e w' =>
      e = .returned (.tuple #[.string (bstr (Lib.cut D [c]).1), .string (bstr (Lib.cut D [c]).2.1), .bool (Lib.cut D [c]).2.2]) ∧ ∃ n, w' = w.drewN n := by
  obtain ⟨m, hm⟩ := hm
  exact Any.strings_Cut { Tryd.laysM145 with } (bstr D) ⟨#[c]⟩ m w (by rw [bstr_size]; omega) hm
theorem WordsAt.new {w : World} {b g : Nat} {ws : List (List UInt8)} {T : TypeId} (hb : Blk w g (wcells ws).toArray T) (hne : g ≠ b) (h : ∀ l ∈ ws, l.length ≤ 2000) : WordsAt w b (some ⟨g, 0, none⟩) ws :=
  ⟨h, .inr ⟨g, 0, rfl, hne, hb.lt, fun j l hj => by
    rw [Nat.zero_add, hb.cells.1 j]
    simp [wcells, hj]⟩⟩
end Go.Proofs.YtamlaeocojcgdaaDoor
/- The frame of a law whose row lists tables, the world's shape kept; strings as a claim reads them. No law in sight. -/
namespace Go.Proofs.YtamlaeocojcgdaaDoor
set_option linter.unusedVariables false
open Go.ChangeShapes Go.WideShapes Go.ChangeAt Go.RowKit

section
variable {H : Type} {enc : TypeId × Value → H}
theorem handed_and_shaped {a : Assume} {C : Checked} {os : Os} {f : FuncId} {fn : Func} {s : ChangeSpec} {conds : List PathCond} {apart fresh handsOn again : Bool} {X : World → Array Value → Prop}
    (hX : ∀ (w w' : World) (args : Array Value), w.heap = w'.heap → X w args → X w' args)
    (own : ownKnob C.prog.godebug = none) (started : os.Started) (noInit : C.prog.inits.idxOf? f = none) (hfn : C.prog.funcs[f]? = some fn)
    (witness : ∃ (w : World) (tape : Tape) (i : Input), w.os = os ∧ (w.forCall tape i).Shaped C.prog ∧ i.vars = [] ∧ Input.okWide C.prog (w.forCall tape i) .any w.heap.size f i ∧
      ((s.pre enc C.prog fn conds apart (w.forCall tape i).memory i.args ∧ X (w.forCall tape i).memory i.args) ∧ sizedMet enc C.prog fn (OpenSpec.ofChange s) apart (w.forCall tape i).memory i.args) ∧ a.holds C.prog (lone (Frame.enter C.prog f i.args .normal) [] (w.forCall tape i)))
    (contract : ∀ (W : World) (base : Nat) (args : Array Value) (ds gs : List (DataW H)) (before : List MemPlace),
      (∀ (j : Nat) t v, fn.params[j]? = some t → args[j]? = some v → Value.okWide C.prog W .any base t v) →
      DataW.Whole enc C.prog fn.params.toList s.vars apart W args.toList ds gs before → W.ShapedOpen C.prog → X W args →
      Calls C.prog f args W fun e W' => ∃ v, e = .returned v ∧ s.post enc C.prog fn apart fresh handsOn again W args v W') :
    ReturnsInHanded a C os f .any (fun w args => (s.pre enc C.prog fn conds apart w args ∧ X w args) ∧ sizedMet enc C.prog fn (OpenSpec.ofChange s) apart w args) (s.post enc C.prog fn apart fresh handsOn again) := by
  refine returnsInHanded_of_calls own started noInit witness ?_
  intro w tape i _ hsh _ hok hpre hholds
  obtain ⟨_, _, _, fn', hfn', _, _, _, _, hval⟩ := hok
  have e : fn' = fn := Option.some.inj (hfn'.symm.trans hfn)
  subst e
  obtain ⟨⟨⟨ds, gs, before, hw, hc⟩, hx⟩, hz⟩ := hpre
  have hw' := DataW.Whole.of_heap (w' := w.forCall tape i) (by rfl) hw
  refine (contract (w.forCall tape i) w.heap.size i.args ds gs before hval hw' hsh (hX _ _ _ (by rfl) hx)).mono fun e W' ⟨v, he, hp⟩ => ?_
  subst he
  exact ChangeSpec.post_blind hp
theorem law_lifted_shaped {C : Checked} {os : Os} {f : FuncId} {fn : Func} {s : ChangeSpec} {L : List (String × DataW Unit)} {tb : TypeId}
    (own : ownKnob C.prog.godebug = none) (started : os.Started) (noInit : C.prog.inits.idxOf? f = none) (hfn : C.prog.funcs[f]? = some fn)
    (witness : ∃ (w : World) (tape : Tape) (i : Input), w.os = os ∧ (w.forCall tape i).Shaped C.prog ∧ i.vars = [] ∧ Input.okWide C.prog (w.forCall tape i) .any w.heap.size f i ∧
      ((s.pre enc C.prog fn [] false (w.forCall tape i).memory i.args ∧ laidMetH C.prog L (w.forCall tape i).memory) ∧ sizedMet enc C.prog fn (OpenSpec.ofChange s) false (w.forCall tape i).memory i.args) ∧ ({} : Assume).holds C.prog (lone (Frame.enter C.prog f i.args .normal) [] (w.forCall tape i)))
    (hl : laidOutB C.prog = true) (hts : ∀ t ∈ fn.params.toList, C.prog.readableRec t = true ∧ t < C.prog.types.size) (hres : fn.resultTypes = #[tb]) (hbool : C.prog.underlying tb = some .bool) (hvars : s.vars = [])
    (hspec : ∀ es : List (DataW H), es.length = fn.params.toList.length → s.fn H es = { results := [.lit (.bool true)], args := es })
    (walk : ∀ (W : World) (base : Nat) (args : Array Value) (ds : List (DataW H)) (ps : List MemPlace),
      (∀ (j : Nat) t v, fn.params[j]? = some t → args[j]? = some v → Value.okWide C.prog W .any base t v) → DataW.TrodAll enc C.prog W 0 (fun _ => true) true fn.params.toList args.toList ds ps → W.ShapedOpen C.prog → laidMetH C.prog L W →
      Calls C.prog f args W fun e W' => e = .returned (.bool true) ∧ Below W.heap.size W W') :
    ReturnsInHanded {} C os f .any (fun w args => (s.pre enc C.prog fn [] false w args ∧ laidMetH C.prog L w) ∧ sizedMet enc C.prog fn (OpenSpec.ofChange s) false w args) (s.post enc C.prog fn false true false false) := by
  refine handed_and_shaped (C := C) (X := fun w _ => laidMetH C.prog L w) (fun _ _ _ hh h => laidMetH.of_heap hh h) own started noInit hfn witness ?_
  intro W base args ds gs before hval hW hS hL
  have hW' := hW
  obtain ⟨p, q, hA, _⟩ := hW
  refine (walk W base args ds p hval hA hS hL).mono fun e W' ⟨he, hb⟩ => ?_
  exact ⟨_, he, law_post hl hts hres hbool hvars hspec hW' hb⟩
end
set_option maxRecDepth 100000 in
theorem arg_text {H : Type} {enc : TypeId × Value → H} {w : World} {r : Reach} {b0 base : Nat} {spare : Nat → Bool} {held : Bool} {v : Value} {d : DataW H} {p : List MemPlace}
    (hv : Value.okWide Tryd.prog w r b0 9 v) (h : DataW.Trod enc Tryd.prog w base spare held 9 v d p) :
    ∃ L : List UInt8, v = .string (bstr L) ∧ L.length ≤ 9223372036854775807 := by
  obtain ⟨s, rfl, -, -, hs⟩ := Go.ChangeMaps.open_string Tryd.underlying9 hv h
  refine ⟨s.data.toList, by rw [← bstr_of], ?_⟩
  have : s.data.toList.length = s.size := by rw [Array.length_toList]; rfl
  simp only [maxLen] at hs
  omega
end Go.Proofs.YtamlaeocojcgdaaDoor
/- Slices as a claim reads them; what the second form's bound gives. -/
namespace Go.Proofs.YtamlaeocojcgdaaDoor
set_option linter.unusedVariables false
open Go.ChangeShapes Go.WideShapes Go.ChangeAt Go.RowKit Go.Deep

theorem bulk_one {H : Type} (d : DataW H) : 1 ≤ Rows.uptoBulk d := by
  cases d with
  | lit l => cases l <;> simp [Rows.uptoBulk]
  | nil => simp [Rows.uptoBulk]
  | ptr d => simp [Rows.uptoBulk]
  | slice elems spare => simp [Rows.uptoBulk]
  | agg parts => simp [Rows.uptoBulk]
  | iface t d => simp [Rows.uptoBulk]
  | map entries => simp [Rows.uptoBulk]
  | held h => simp [Rows.uptoBulk]
theorem bulk_len {H : Type} (l : List (DataW H)) : l.length ≤ Rows.uptoBulkAll l := by
  induction l with
  | nil => simp [Rows.uptoBulkAll]
  | cons x r ih => have := bulk_one x; simp only [Rows.uptoBulkAll, List.length_cons]; omega
theorem bulk_slice {H : Type} (elems spare : List (DataW H)) : elems.length + 1 ≤ Rows.uptoBulk (.slice elems spare) := by
  have h1 := bulk_len elems
  simp only [Rows.uptoBulk]
  omega
/-- A slice of things of s cells each, as the claim reads it. -/
theorem open_each {α H : Type} {f : α → List Value} {s : Nat} (hf : ∀ x, (f x).length = s) (hs : 0 < s) {Q : α → Prop} {enc : TypeId × Value → H} {w : World} {base n : Nat} {spare : Nat → Bool} {held : Bool} {cs : List Value} {x : DataW H × List MemPlace} {t e : TypeId}
    (ht : Tryd.prog.underlying t = some (.slice e)) (hc : Tryd.prog.cellsOf e = s)
    (ho : ∀ n cs y, DataW.trod enc Tryd.prog w base spare held n e cs = some y → ∃ z : α, Q z ∧ cs = f z)
    (h : DataW.trod enc Tryd.prog w base spare held n t cs = some x) :
    ∃ (A : Option Addr) (k : Nat) (l : List α), cs = [.slice A l.length k] ∧ Row w w.heap.size A (l.flatMap f) ∧ (∀ z ∈ l, Q z) ∧ l.length ≤ 9223372036854775807 ∧ l.length ≤ Rows.uptoBulk x.1 := by
  rcases open_slice ht h with ⟨rfl, hx⟩ | ⟨a, len, cap, m, n', D, Pl, rfl, hb, hl, hm, hmm, hx, hi⟩
  · exact ⟨none, 0, [], rfl, Row.nil, by simp, by simp, by simp⟩
  · by_cases h0 : len = 0
    · subst h0
      exact ⟨some a, cap, [], rfl, Row.nil, by simp, by simp, by simp⟩
    · have hlm : len ≤ m := by rw [hmm]; split <;> omega
      have hd : ∀ i, i < len → ∃ z : α, Q z ∧ ∀ j u, (f z)[j]? = some u → w.cell? ((a.add (i * s)).add j) = some u := by
        intro i hil
        obtain ⟨cs', hc', ht'⟩ := hi i (by omega)
        obtain ⟨z, hq, rfl⟩ := ho _ _ _ ht'
        rw [hc] at hc'
        obtain ⟨_, _, hat⟩ := World.cells?_some hc'
        refine ⟨z, hq, fun j u hu => ?_⟩
        have hj : j < s := by
          rcases Nat.lt_or_ge j s with q | q
          · exact q
          · rw [List.getElem?_eq_none (by rw [hf]; exact q)] at hu; cases hu
        rw [hat j hj]; exact hu
      obtain ⟨b, off, spot⟩ := a
      obtain ⟨z0, _, hz0⟩ := hd 0 (by omega)
      have hu0 : (f z0)[0]? = some ((f z0)[0]'(by rw [hf]; exact hs)) := List.getElem?_eq_getElem _
      have hx0 := hz0 0 _ hu0
      have hspot : spot = none := by simpa [Addr.add] using World.cell?_spot hx0
      subst hspot
      have hblk : b < w.heap.size := World.block_lt_of_cell? _ _ (by simpa [Addr.add] using hx0)
      obtain ⟨l, hll, hql, hr⟩ := Row.of_each hf (w := w) (b := b) (off := off) (n := len) hblk (Q := Q) (fun i hil => by
        obtain ⟨z, hq, hz⟩ := hd i hil
        refine ⟨z, hq, fun j u hu => ?_⟩
        have := hz j u hu
        rw [add_none, add_none, Nat.add_assoc] at this
        exact this)
      subst hll
      refine ⟨some ⟨b, off, none⟩, cap, l, rfl, hr, hql, ?_, ?_⟩
      · simp only [maxLen] at hm
        omega
      · rw [hx]
        have := bulk_slice ((List.range l.length).map D) ((List.range (m - l.length)).map fun j => D (l.length + j))
        simp only [List.length_map, List.length_range] at this
        simp only
        omega
end Go.Proofs.YtamlaeocojcgdaaDoor
/- Arguments that are lists of items, or of ints, as a claim reads them. -/
namespace Go.Proofs.YtamlaeocojcgdaaDoor
set_option linter.unusedVariables false
open Go.ChangeShapes Go.WideShapes Go.ChangeAt Go.RowKit Go.Deep

set_option maxRecDepth 100000 in
theorem open_ints_cells {H : Type} {enc : TypeId × Value → H} {w : World} {base n : Nat} {spare : Nat → Bool} {held : Bool} {cs : List Value} {x : DataW H × List MemPlace}
    (h : DataW.trod enc Tryd.prog w base spare held n 26 cs = some x) : ∃ (A : Option Addr) (k : Nat) (l : List Int), cs = [.slice A l.length k] ∧ Row w w.heap.size A (icells' l) ∧ l.length ≤ 9223372036854775807 ∧ l.length ≤ Rows.uptoBulk x.1 := by
  obtain ⟨A, k, l, e, hr, hq, hl, hb⟩ := open_each (f := fun z : Int => [.int .i64 z]) (s := 1) (Q := fun _ => True) (fun _ => rfl) (by decide) Tryd.underlying26 (by kernel_rfl) (fun n cs y hy => by
    obtain ⟨z, hz, -⟩ := DataW.trod_int Tryd.underlying3 hy
    exact ⟨z, trivial, hz⟩) h
  exact ⟨A, k, l, e, by rw [show icells' l = l.flatMap (fun z => [Value.int .i64 z]) from List.map_eq_flatMap]; exact hr, hl, hb⟩
end Go.Proofs.YtamlaeocojcgdaaDoor
/- Arguments that are queries, as a claim reads them. -/
namespace Go.Proofs.YtamlaeocojcgdaaDoor
set_option linter.unusedVariables false
set_option linter.unusedSimpArgs false
open Go.ChangeShapes Go.WideShapes Go.ChangeAt Go.RowKit Go.Deep

set_option maxRecDepth 100000 in
theorem open_step {H : Type} {enc : TypeId × Value → H} {w : World} {base n : Nat} {spare : Nat → Bool} {held : Bool} {cs : List Value} {x : DataW H × List MemPlace}
    (h : DataW.trod enc Tryd.prog w base spare held n 40 cs = some x) : ∃ z : SR, (Row w w.heap.size z.A (icells' z.st.list) ∧ z.st.list.length ≤ 9223372036854775807) ∧ cs = z.cells := by
  obtain ⟨xs, n', _, hx, hlen, hxl, hf⟩ := DataW.trod_struct Tryd.underlying40 h
  have c2 : Tryd.prog.cellsOf 40 = 7 := by kernel_rfl
  have c1 : Tryd.prog.cellsOf 26 = 1 := by kernel_rfl
  have c1' : Tryd.prog.cellsOf 3 = 1 := by kernel_rfl
  rw [c2] at hlen
  match cs, hlen with
  | [u0, u1, u2, u3, u4, u5, u6], _ =>
    match xs, hxl with
    | [y0, y1, y2, y3, y4, y5, y6], _ =>
      have h0 := hf 0 _ rfl
      have h1 := hf 1 _ rfl
      have h2 := hf 2 _ rfl
      have h3 := hf 3 _ rfl
      have h4 := hf 4 _ rfl
      have h5 := hf 5 _ rfl
      have h6 := hf 6 _ rfl
      simp only [List.getElem_toArray, List.getElem_cons_zero, List.getElem_cons_succ, List.getElem?_cons_zero, List.getElem?_cons_succ] at h0 h1 h2 h3 h4 h5 h6
      simp only [c1, c1', List.drop_zero, List.take_succ_cons, List.take_zero, List.drop_succ_cons] at h0 h1 h2 h3 h4 h5 h6
      obtain ⟨z0, e0, _⟩ := DataW.trod_int Tryd.underlying3 h0
      obtain ⟨z1, e1, _⟩ := DataW.trod_int Tryd.underlying3 h1
      obtain ⟨z2, e2, _⟩ := DataW.trod_int Tryd.underlying3 h2
      obtain ⟨z3, e3, _⟩ := DataW.trod_int Tryd.underlying3 h3
      obtain ⟨z4, e4, _⟩ := DataW.trod_int Tryd.underlying3 h4
      obtain ⟨z5, e5, _⟩ := DataW.trod_int Tryd.underlying3 h5
      obtain ⟨A, k, l, e6, r0, l0, -⟩ := open_ints_cells h6
      injection e0 with e0
      injection e1 with e1
      injection e2 with e2
      injection e3 with e3
      injection e4 with e4
      injection e5 with e5
      injection e6 with e6
      subst e0 e1 e2 e3 e4 e5 e6
      exact ⟨⟨⟨z0, z1, z2, z3, z4, z5, l⟩, A, k⟩, ⟨r0, l0⟩, rfl⟩
set_option maxRecDepth 100000 in
theorem arg_steps {H : Type} {enc : TypeId × Value → H} {w : World} {r : Reach} {b0 base : Nat} {spare : Nat → Bool} {held : Bool} {v : Value} {d : DataW H} {p : List MemPlace}
    (hv : Value.okWide Tryd.prog w r b0 22 v) (h : DataW.Trod enc Tryd.prog w base spare held 22 v d p) :
    ∃ (A : Option Addr) (k : Nat) (L : List SR), v = .slice A L.length k ∧ RowS w w.heap.size A L ∧ L.length ≤ 9223372036854775807 := by
  obtain ⟨a, n, c, rfl⟩ := okWide_slice Tryd.underlying22 hv
  obtain ⟨m, hm⟩ := h
  obtain ⟨A, k, L, e, hr, hq, hl, -⟩ := open_each (f := SR.cells) (Q := fun z : SR => Row w w.heap.size z.A (icells' z.st.list) ∧ z.st.list.length ≤ 9223372036854775807) SR.len (by decide) Tryd.underlying22 (by kernel_rfl) (fun n cs y hy => open_step hy) hm
  simp only [Value.cells, List.cons.injEq, and_true] at e
  exact ⟨A, k, L, e, ⟨hr, hq⟩, hl⟩
end Go.Proofs.YtamlaeocojcgdaaDoor
/- The tables that QueryBack's row lists. No law in sight. -/
namespace Go.Proofs.YtamlaeocojcgdaaDoor
set_option linter.unusedVariables false
open Go.ChangeShapes Go.WideShapes Go.ChangeAt Go.RowKit

abbrev listedB : List (String × DataW Unit) := [("math/bits.deBruijn32tab", Rows.laid_math_bits_deBruijn32tab), ("math/bits.deBruijn64tab", Rows.laid_math_bits_deBruijn64tab), ("internal/strconv.uint64pow10", Rows.laid_internal_strconv_uint64pow10), ("unicode/utf8.acceptRanges", Rows.laid_unicode_utf8_acceptRanges), ("unicode/utf8.first", Rows.laid_unicode_utf8_first)]
theorem pow_of_laidB {W : World} (h : laidMetH Tryd.prog listedB W) : Lib.TabIs Tryd.prog W "internal/strconv.uint64pow10" .u64 Lib.pow10Tab := by
  rw [MakeChecks.laidMetH_plain _ _ _ (by kernel_rfl)] at h
  have h2 := h.tail.tail
  rw [pow_data] at h2
  exact Lib.tabIs_of_head pow_named pow_type Tryd.underlying104 Tryd.underlying87 (by kernel_rfl) (by kernel_rfl) h2
end Go.Proofs.YtamlaeocojcgdaaDoor
/- What is printed is read as it was; what is read is printed as it stood. No program in sight. -/
namespace Go.Proofs.YtamlaeocojcgdaaDoor
set_option linter.unusedVariables false
set_option linter.unusedSimpArgs false

/-! numerals -/
theorem ofNat_dig {k : Nat} (h : k < 10) : (UInt8.ofNat (48 + k)).toNat = 48 + k := by
  rw [UInt8.toNat_ofNat']; omega
theorem digB_ofNat {k : Nat} (h : k < 10) : digB (UInt8.ofNat (48 + k)) = true := by
  simp only [digB, ofNat_dig h, Bool.and_eq_true, decide_eq_true_eq]; omega
theorem dec_digs : ∀ u : Nat, ∀ x ∈ Lib.decDigits u, digB x = true := by
  intro u
  induction u using Nat.strongRecOn with
  | _ u ih =>
    intro x hx
    rw [Lib.decDigits] at hx
    by_cases h : u < 10
    · rw [dif_pos h] at hx
      rw [List.mem_singleton.1 hx]; exact digB_ofNat h
    · rw [dif_neg h] at hx
      rcases List.mem_append.1 hx with q | q
      · exact ih (u / 10) (by omega) x q
      · rw [List.mem_singleton.1 q]; exact digB_ofNat (by omega)
theorem dec_val : ∀ u : Nat, valD (Lib.decDigits u) = u := by
  intro u
  induction u using Nat.strongRecOn with
  | _ u ih =>
    rw [Lib.decDigits]
    by_cases h : u < 10
    · rw [dif_pos h]
      simp only [valD, List.foldl_cons, List.foldl_nil, ofNat_dig h]; omega
    · rw [dif_neg h, valD_snoc, ih (u / 10) (by omega), ofNat_dig (by omega)]
      omega
theorem dec_ne (u : Nat) : Lib.decDigits u ≠ [] := by
  rw [Lib.decDigits]
  by_cases h : u < 10
  · rw [dif_pos h]; simp
  · rw [dif_neg h]; simp
theorem dec_head : ∀ u : Nat, 1 ≤ u → (Lib.decDigits u).head? ≠ some 48 := by
  intro u
  induction u using Nat.strongRecOn with
  | _ u ih =>
    intro h1
    rw [Lib.decDigits]
    by_cases h : u < 10
    · rw [dif_pos h]
      intro e
      have := congrArg UInt8.toNat (Option.some.inj e)
      rw [ofNat_dig h] at this
      have h2 : (48 : UInt8).toNat = 48 := rfl
      omega
    · rw [dif_neg h]
      obtain ⟨y, t, e⟩ := List.exists_cons_of_ne_nil (dec_ne (u / 10))
      have := ih (u / 10) (by omega) (by omega)
      rw [e] at this ⊢
      exact this
theorem dec_len : ∀ (k u : Nat), u < 10 ^ (k + 1) → (Lib.decDigits u).length ≤ k + 1
  | 0, u, h => by
    rw [Lib.decDigits, dif_pos (by simpa using h)]
    simp
  | k + 1, u, h => by
    rw [Lib.decDigits]
    by_cases h1 : u < 10
    · rw [dif_pos h1]; simp
    · rw [dif_neg h1, List.length_append, List.length_singleton]
      have := dec_len k (u / 10) (by rw [Nat.pow_succ] at h; omega)
      omega
theorem dec_zero : Lib.decDigits 0 = [48] := by rw [Lib.decDigits, dif_pos (by omega)]; rfl
/-- A numeral is read as its number. -/
theorem numR_itoa {n : Int} (h : -10000000000 < n ∧ n < 10000000000) : numR (Lib.itoa n) = some n := by
  unfold Lib.itoa
  by_cases hn : n < 0
  · rw [if_pos hn]
    have h1 := dec_head n.natAbs (by omega)
    have h2 : numD true (Lib.decDigits n.natAbs) = some (-valD (Lib.decDigits n.natAbs)) := by
      unfold numD
      rw [if_pos ⟨List.length_pos_iff.2 (dec_ne _), dec_len 9 _ (by have : (10 : Nat) ^ (9 + 1) = 10000000000 := by decide
                                                                    omega), fun q => h1 q.1, dec_digs _⟩]
      rfl
    have h3 : numR (45 :: Lib.decDigits n.natAbs) = numD true (Lib.decDigits n.natAbs) := rfl
    rw [h3, h2, dec_val]
    congr 1; omega
  · rw [if_neg hn]
    have hh : (Lib.decDigits n.toNat).head? ≠ some 45 := by
      obtain ⟨y, t, e⟩ := List.exists_cons_of_ne_nil (dec_ne n.toNat)
      have hd := dec_digs n.toNat y (by rw [e]; simp)
      rw [e]
      intro q
      have : y = 45 := Option.some.inj q
      rw [this] at hd; revert hd; decide
    have h3 : numR (Lib.decDigits n.toNat) = numD false (Lib.decDigits n.toNat) := by unfold numR; rw [if_neg hh]
    have h2 : numD false (Lib.decDigits n.toNat) = some (valD (Lib.decDigits n.toNat)) := by
      unfold numD
      rw [if_pos ⟨List.length_pos_iff.2 (dec_ne _), dec_len 9 _ (by have : (10 : Nat) ^ (9 + 1) = 10000000000 := by decide
                                                                    omega), fun q => by
        rcases Nat.eq_zero_or_pos n.toNat with e | e
        · rw [e, dec_zero] at q
          rcases q.2 with r | r
          · simp at r
          · cases r
        · exact dec_head _ e q.1, dec_digs _⟩]
      rfl
    rw [h3, h2, dec_val]
    congr 1; omega
/-- Digits without noughts ahead are the numeral of their value. -/
theorem dec_of : ∀ (k : Nat) (d : List UInt8), d.length = k + 1 → (∀ x ∈ d, digB x = true) → (1 < d.length → d.head? ≠ some 48) → Lib.decDigits (valD d).toNat = d := by
  intro k
  induction k with
  | zero =>
    intro d hl hd _
    match d, hl with
    | [x], _ =>
      have hx := hd x (by simp)
      simp only [digB, Bool.and_eq_true, decide_eq_true_eq] at hx
      have hv : (valD [x]).toNat = x.toNat - 48 := by simp only [valD, List.foldl_cons, List.foldl_nil]; omega
      rw [hv, Lib.decDigits, dif_pos (by omega)]
      congr 1
      apply UInt8.toNat_inj.1
      rw [ofNat_dig (by omega)]; omega
  | succ k ih =>
    intro d hl hd hh
    have hne : d ≠ [] := fun e => by rw [e] at hl; simp at hl
    obtain ⟨l, x, rfl⟩ : ∃ l x, d = l ++ [x] := ⟨d.dropLast, d.getLast hne, (List.dropLast_concat_getLast hne).symm⟩
    have hll : l.length = k + 1 := by simpa using hl
    have hx := hd x (by simp)
    simp only [digB, Bool.and_eq_true, decide_eq_true_eq] at hx
    have hdl : ∀ y ∈ l, digB y = true := fun y hy => hd y (by simp [hy])
    obtain ⟨y, t, rfl⟩ := List.exists_cons_of_ne_nil (show l ≠ [] from fun e => by rw [e] at hll; simp at hll)
    have hy0 : y ≠ 48 := fun e => hh (by simp) (by rw [e]; rfl)
    have hp := valD_pos (l := t) (hdl y (by simp)) hy0 (fun z hz => hdl z (by simp [hz]))
    have hi := ih (y :: t) hll hdl (fun _ e => hy0 (Option.some.inj e))
    have hv : (valD ((y :: t) ++ [x])).toNat = 10 * (valD (y :: t)).toNat + (x.toNat - 48) := by
      rw [valD_snoc]; omega
    rw [hv, Lib.decDigits, dif_neg (by omega), show (10 * (valD (y :: t)).toNat + (x.toNat - 48)) / 10 = (valD (y :: t)).toNat by omega, hi, show (10 * (valD (y :: t)).toNat + (x.toNat - 48)) % 10 = x.toNat - 48 by omega]
    congr 2
    apply UInt8.toNat_inj.1
    rw [ofNat_dig (by omega)]; omega
/-- What is read as a number is that number's numeral. -/
theorem itoa_numR {d : List UInt8} {n : Int} (h : numR d = some n) : Lib.itoa n = d := by
  unfold numR at h
  by_cases h45 : d.head? = some 45
  · rw [if_pos h45] at h
    obtain ⟨t, rfl⟩ : ∃ t, d = 45 :: t := by
      cases d with
      | nil => cases h45
      | cons y t => exact ⟨t, by rw [Option.some.inj h45]⟩
    rw [List.tail_cons] at h
    unfold numD at h
    split at h
    · next q =>
      obtain ⟨q1, q2, q3, q4⟩ := q
      have hn := Option.some.inj h
      simp only [if_true] at hn
      obtain ⟨y, t', rfl⟩ := List.exists_cons_of_ne_nil (List.length_pos_iff.1 q1)
      have hy0 : y ≠ 48 := fun e => q3 ⟨by rw [e]; rfl, .inr rfl⟩
      have hp := valD_pos (l := t') (q4 y (by simp)) hy0 (fun z hz => q4 z (by simp [hz]))
      unfold Lib.itoa
      rw [if_pos (by omega), show n.natAbs = (valD (y :: t')).toNat by omega, dec_of t'.length (y :: t') rfl q4 (fun _ e => hy0 (Option.some.inj e))]
    · cases h
  · rw [if_neg h45] at h
    unfold numD at h
    split at h
    · next q =>
      obtain ⟨q1, q2, q3, q4⟩ := q
      have hn := Option.some.inj h
      simp only [Bool.false_eq_true, if_false] at hn
      have hv := (valD_rng _ d rfl q4).1
      unfold Lib.itoa
      rw [if_neg (by omega), show n.toNat = (valD d).toNat by omega]
      exact dec_of (d.length - 1) d (by omega) q4 (fun h1 e => q3 ⟨e, .inl h1⟩)
    · cases h
theorem numsR_itoa {l : List (List UInt8)} {ns : List Int} (h : numsR l = some ns) : l = ns.map Lib.itoa := by
  induction l generalizing ns with
  | nil => rw [numsR] at h; rw [← Option.some.inj h]; rfl
  | cons y l ih =>
    rw [numsR] at h
    revert h
    cases hy : numR y with
    | none => simp
    | some m =>
      cases hl : numsR l with
      | none => simp
      | some ms =>
        intro h
        rw [← Option.some.inj h, List.map_cons, itoa_numR hy, ← ih hl]
theorem numsR_map {ns : List Int} (h : ∀ n ∈ ns, -10000000000 < n ∧ n < 10000000000) : numsR (ns.map Lib.itoa) = some ns := by
  induction ns with
  | nil => rfl
  | cons n ns ih => rw [List.map_cons, numsR, numR_itoa (h n (by simp)), ih (fun m hm => h m (by simp [hm]))]
/-- No other byte stands in a numeral. -/
theorem itoa_no {c : UInt8} (hc : digB c = false) (h45 : c ≠ 45) (n : Int) : c ∉ Lib.itoa n := by
  unfold Lib.itoa
  have hd : ∀ u, c ∉ Lib.decDigits u := fun u h => by have := dec_digs u c h; rw [hc] at this; cases this
  split
  · intro h
    rcases List.mem_cons.1 h with e | e
    · exact h45 e
    · exact hd _ e
  · exact hd _
/-! words -/
def joinC (c : UInt8) : List (List UInt8) → List UInt8
  | [] => []
  | [x] => x
  | x :: y :: r => x ++ c :: joinC c (y :: r)
theorem joinC_cons {c : UInt8} {x : List UInt8} {r : List (List UInt8)} (h : r ≠ []) : joinC c (x :: r) = x ++ c :: joinC c r := by
  cases r with
  | nil => exact absurd rfl h
  | cons y r => rfl
theorem join_pcs (c : UInt8) (l : List UInt8) : joinC c (pcs c l) = l := by
  induction l with
  | nil => rfl
  | cons x l ih =>
    by_cases h : x = c
    · subst h
      rw [pcs_sep, joinC_cons (pcs_ne x l), ih]; rfl
    · obtain ⟨p, r, e⟩ := pcs_ex c l
      rw [pcs_cons h e]
      rw [e] at ih
      cases r with
      | nil => simp only [joinC] at ih ⊢; rw [ih]
      | cons y r => simp only [joinC, List.cons_append] at ih ⊢; rw [ih]
theorem pcs_join {c : UInt8} : ∀ {ws : List (List UInt8)}, ws ≠ [] → (∀ w ∈ ws, c ∉ w) → pcs c (joinC c ws) = ws
  | [], h, _ => absurd rfl h
  | [x], _, h => pcs_nosep (h x (by simp))
  | x :: y :: r, _, h => by
    rw [joinC_cons (by simp), pcs_first (h x (by simp)), pcs_join (by simp) (fun w hw => h w (by simp [hw]))]
theorem tailC_join (l : List Int) (n : Int) : Lib.itoa n ++ tailC l = joinC 44 ((n :: l).map Lib.itoa) := by
  induction l generalizing n with
  | nil => simp [tailC, joinC]
  | cons m l ih =>
    rw [List.map_cons, joinC_cons (by simp), ← ih m]
    simp [tailC]
theorem commaT_join {l : List Int} (h : l ≠ []) : commaT l = joinC 44 (l.map Lib.itoa) := by
  cases l with
  | nil => exact absurd rfl h
  | cons n l => exact tailC_join l n
end Go.Proofs.YtamlaeocojcgdaaDoor
