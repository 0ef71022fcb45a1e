/- QtA, QrA, QrB, QrD, FrameN, QrC, ZgP, PlQ -/
import Derived.Test.YtamlaeocojcgdaaDoorQueryReadsCardS03
import Derived.OpenShut
import Derived.ChangeMaps5
import Derived.Lay
import Derived.Deep.RegionHeld3
/- query.line, query.sign. -/
namespace Go.Proofs.YtamlaeocojcgdaaDoor
set_option linter.unusedVariables false
set_option linter.unusedSimpArgs false
open Go.ChangeShapes Go.WideShapes Go.ChangeAt Go.RowKit

set_option maxHeartbeats 1000000 in
set_option maxRecDepth 100000 in
theorem sign_any (n : Int) (h : 0 ≤ n ∧ n ≤ 3) (w : World) :
    Calls Tryd.prog 29 #[.int .i64 n] w fun e w' => e = .returned (.string (bstr (signB n))) ∧ w = w' := by
  have hix : (Instr.index 68 (.agg #[.string ⟨#[]⟩, .string ⟨#[60]⟩, .string ⟨#[61]⟩, .string ⟨#[62]⟩]) (.int .i64 n)).run Tryd.prog w = .ok (.string (bstr (signB n))) w := by
    have hn : n = 0 ∨ n = 1 ∨ n = 2 ∨ n = 3 := by omega
    rcases hn with rfl | rfl | rfl | rfl
    all_goals first | rfl | kernel_rfl
  obtain ⟨S, hS⟩ : ∃ S, S = bstr (signB n) := ⟨_, rfl⟩
  rw [← hS] at hix ⊢
  clear hS
  go_enter Tryd.func29, Tryd.ntmps29
  go_wp2_with (simp only [hix])
  -- STOP-e
  go_ret
  exact ⟨rfl, rfl⟩
end Go.Proofs.YtamlaeocojcgdaaDoor
/- query.number. -/
namespace Go.Proofs.YtamlaeocojcgdaaDoor
set_option linter.unusedVariables false
set_option linter.unusedSimpArgs false
open Go.ChangeShapes Go.WideShapes Go.ChangeAt Go.RowKit

theorem numR_parts (D : List UInt8) : ∃ (m : Bool) (d : List UInt8), numR D = numD m d ∧ Lib.trimPrefix D [45] = d ∧ Lib.hasPrefix D [45] = m ∧ d.length ≤ D.length := by
  cases D with
  | nil => exact ⟨false, [], rfl, rfl, rfl, Nat.le_refl _⟩
  | cons x D =>
    by_cases h : x = 45
    · subst h
      refine ⟨true, D, rfl, ?_, ?_, by simp⟩ <;> simp [Lib.trimPrefix, Lib.hasPrefix, List.isPrefixOf]
    · refine ⟨false, x :: D, ?_, ?_, ?_, Nat.le_refl _⟩
      · simp [numR, h]
      · simp [Lib.trimPrefix, Lib.hasPrefix, List.isPrefixOf, Ne.symm h]
      · simp [Lib.hasPrefix, List.isPrefixOf, Ne.symm h]
theorem numD_len {m : Bool} {d : List UInt8} (h : ¬ (1 ≤ d.length ∧ d.length ≤ 10)) : numD m d = none := by
  unfold numD; rw [if_neg (fun q => h ⟨q.1, q.2.1⟩)]
theorem numD_nought {m : Bool} {d : List UInt8} (h : d.head? = some 48 ∧ (1 < d.length ∨ m = true)) : numD m d = none := by
  unfold numD; rw [if_neg (fun q => q.2.2.1 h)]
theorem numD_bad {m : Bool} {d : List UInt8} {x : UInt8} (hx : x ∈ d) (h : digB x = false) : numD m d = none := by
  unfold numD; rw [if_neg (fun q => by have := q.2.2.2 x hx; rw [h] at this; cases this)]
theorem numD_good {m : Bool} {d : List UInt8} (h1 : 1 ≤ d.length) (h2 : d.length ≤ 10) (h3 : ¬ (d.head? = some 48 ∧ (1 < d.length ∨ m = true))) (h4 : ∀ x ∈ d, digB x = true) : numD m d = some (if m then - valD d else valD d) := by
  unfold numD; rw [if_pos ⟨h1, h2, h3, h4⟩]

set_option maxHeartbeats 4000000 in
set_option maxRecDepth 100000 in
theorem qnumber_any (D : List UInt8) (hD : D.length ≤ 2000) (w : World) :
    Calls Tryd.prog 46 #[.string (bstr D)] w fun e w' => e = .returned (.tuple #[.int .i64 ((numR D).getD 0), .bool (numR D).isSome]) ∧ Below w.heap.size w w' := by
  obtain ⟨m, d, h1, h2, h3, h4⟩ := numR_parts D
  have HC := hid (Tryd.strings_CutPrefix (bstr D) ⟨#[45]⟩ w)
  have e1 : (⟨(Lib.trimPrefix (bstr D).data.toList (⟨#[45]⟩ : ByteArray).data.toList).toArray⟩ : ByteArray) = bstr d := by rw [← h2]
  have e2 : Lib.hasPrefix (bstr D).data.toList (⟨#[45]⟩ : ByteArray).data.toList = m := h3
  rw [e1, e2] at HC
  rw [h1]
  have hsz := bstr_size d
  have HDL := hid (show d.length ≤ 2000 by omega)
  clear e1 e2 h1 h2 h3 h4 hD
  obtain ⟨R, hR⟩ : ∃ q, q = numD m d := ⟨_, rfl⟩
  rw [← hR]
  have HR := hid hR
  clear hR
  go_enter Tryd.func46, Tryd.ntmps46
  go_wp2_with fail
  refine HC.out.mono ?_
  rintro e w' ⟨rfl, rfl⟩
  clear HC
  by_cases hl : 1 ≤ d.length ∧ d.length ≤ 10
  · have hwi : wiB (d.length : Int) 1 10 = true := wiB_iff.2 (by omega)
    have h0 : 0 < d.length := by omega
    have hx0 : (bstr d)[0]'h0 = d[0] := bsq_get d 0 h0
    have HX := hid (show d.head? = some d[0] by rw [List.head?_eq_getElem?, List.getElem?_eq_getElem h0])
    have HX1 := hid (List.getElem_mem h0)
    generalize d[0] = x at *
    have hx8 := bsq_lt x
    have hcas : (((x.toNat : Int) == 48) = true ∧ (1 < (d.length : Int)) = True ∧ Hid (numD m d = none)) ∨ (((x.toNat : Int) == 48) = true ∧ (1 < (d.length : Int)) = False ∧ m = true ∧ Hid (numD m d = none)) ∨
        (((x.toNat : Int) == 48) = true ∧ (1 < (d.length : Int)) = False ∧ m = false ∧ Hid (¬ (d.head? = some 48 ∧ (1 < d.length ∨ m = true)))) ∨ (((x.toNat : Int) == 48) = false ∧ Hid (¬ (d.head? = some 48 ∧ (1 < d.length ∨ m = true)))) := by
      by_cases hx : x = 48
      · have q0 : ((x.toNat : Int) == 48) = true := by rw [hx]; rfl
        by_cases h1 : 1 < d.length
        · exact .inl ⟨q0, eq_true (by omega), hid (numD_nought ⟨by rw [HX.out, hx], .inl h1⟩)⟩
        · cases m with
          | true => exact .inr (.inl ⟨q0, eq_false (by omega), rfl, hid (numD_nought ⟨by rw [HX.out, hx], .inr rfl⟩)⟩)
          | false => exact .inr (.inr (.inl ⟨q0, eq_false (by omega), rfl, hid (fun q => by rcases q.2 with r | r; exact h1 r; cases r)⟩))
      · refine .inr (.inr (.inr ⟨beq_eq_false_iff_ne.2 fun q => hx (UInt8.toNat_inj.1 (Int.ofNat.inj q)), hid (fun q => hx ?_)⟩))
        rw [HX.out] at q
        exact Option.some.inj q.1
    have hl1 := hl.2
    have HBD := hid (fun (y : UInt8) (h : y ∈ d) (h2 : digB y = false) => numD_bad (m := m) h h2)
    have HGD := hid (fun (h2 : d.length ≤ 10) h3 h4 => numD_good (m := m) (by omega) h2 h3 h4)
    clear hl HX HX1
    rcases hcas with ⟨t0, t1, HN⟩ | ⟨t0, t1, rfl, HN⟩ | ⟨t0, t1, rfl, HN⟩ | ⟨t0, HN⟩
    · go_wp2_with (go_at_call 43; refine (qwithin_any _ _ _ _).mono ?_; rintro e w' ⟨rfl, rfl⟩)
      go_ret2
      exact ⟨by rw [HR.out, HN.out]; rfl, Below.refl _ _⟩
    · go_wp2_with (go_at_call 43; refine (qwithin_any _ _ _ _).mono ?_; rintro e w' ⟨rfl, rfl⟩)
      go_ret2
      exact ⟨by rw [HR.out, HN.out]; rfl, Below.refl _ _⟩
    all_goals

      go_wp2_with (go_at_call 43; refine (qwithin_any _ _ _ _).mono ?_; rintro e w' ⟨rfl, rfl⟩)
      -- STOP-a
      go_loop [6, 32] (fun s6 s32 => ∃ (i : Nat) (N : Int), i ≤ d.length ∧ s32 = .int .i64 i ∧ s6 = .int .i64 N ∧ Hid (N = valD (d.take i)) ∧ Hid (∀ x ∈ d.take i, digB x = true)) (fun _ s32 => d.length - (intOf s32).toNat)
      case atStart => exact ⟨0, 0, by omega, rfl, rfl, hid rfl, hid (fun x hx => by simp at hx)⟩
      case round =>
        obtain ⟨i, N, hi, rfl, rfl, HV, HD⟩ := hrel
        have hN : 0 ≤ N ∧ N < 10000000000 := by
          have h1 := valD_rng _ (d.take i) rfl HD.out
          have h2 : (10 : Int) ^ (d.take i).length ≤ 10 ^ 10 := by exact_mod_cast Nat.pow_le_pow_right (n := 10) (by omega) (by rw [List.length_take]; omega)
          have h4 : (10 : Int) ^ 10 = 10000000000 := by decide
          rw [HV.out]; omega
        by_cases hlt : i < d.length
        · have ti : ((i : Int) < (d.length : Int)) = True := eq_true (by omega)
          have hgi := bsq_get d i hlt
          have HT := hid (show d.take (i + 1) = d.take i ++ [d[i]] from List.take_succ_eq_append_getElem hlt)
          have HM := hid (List.getElem_mem hlt)
          generalize d[i] = b at *
          have hb8 := bsq_lt b
          by_cases hb1 : b.toNat < 48
          · have t2 : ((b.toNat : Int) < 48) = True := eq_true (by omega)
            have HB := hid (HBD.out b HM.out (show digB b = false by simp [digB]; omega))
            go_wp2_with fail
            go_ret2
            exact ⟨by rw [HR.out, HB.out]; rfl, Below.refl _ _⟩
          · have t2 : ((b.toNat : Int) < 48) = False := eq_false (by omega)
            by_cases hb2 : 57 < b.toNat
            · have t3 : (57 < (b.toNat : Int)) = True := eq_true (by omega)
              have HB := hid (HBD.out b HM.out (show digB b = false by simp [digB]; omega))
              go_wp2_with fail
              go_ret2
              exact ⟨by rw [HR.out, HB.out]; rfl, Below.refl _ _⟩
            · have t3 : (57 < (b.toNat : Int)) = False := eq_false (by omega)
              have w1 : IntKind.i64.wrap (10 * N) = 10 * N := IntWalk.i64_in _ (by omega)
              have w2 : IntKind.u8.wrap ((b.toNat : Int) - 48) = (b.toNat : Int) - 48 := by simp [IntKind.wrap, IntKind.bits, IntKind.signed]; omega
              have w3 : IntKind.i64.wrap ((b.toNat : Int) - 48) = (b.toNat : Int) - 48 := IntWalk.i64_in _ (by omega)
              have w4 : IntKind.i64.wrap (10 * N + ((b.toNat : Int) - 48)) = 10 * N + ((b.toNat : Int) - 48) := IntWalk.i64_in _ (by omega)
              go_wp2_with fail
              -- STOP-c
              go_round
              case rel =>
                refine ⟨i + 1, 10 * N + ((b.toNat : Int) - 48), by omega, by go_num, rfl, hid ?_, hid (fun x hx => ?_)⟩
                · rw [HT.out, valD_snoc, ← HV.out]
                · rw [HT.out] at hx
                  rcases List.mem_append.1 hx with q | q
                  · exact HD.out x q
                  · rw [List.mem_singleton.1 q]; simp [digB]; omega
              case measure => simp [intOf]; omega
        · have ti : ((i : Int) < (d.length : Int)) = False := eq_false (by omega)
          have hti : d.take i = d := List.take_of_length_le (by omega)
          rw [hti] at HV HD
          have HG := hid (HGD.out hl1 HN.out HD.out)
          have w1 : IntKind.i64.wrap (-N) = -N := IntWalk.i64_in _ (by omega)
          clear hti
          try (cases m)
          all_goals
            go_wp2_with fail
            -- STOP-d
            go_ret2
            exact ⟨by rw [HR.out, HG.out, HV.out]; rfl, Below.refl _ _⟩
  · have hwi : wiB (d.length : Int) 1 10 = false := by
      cases q : wiB (d.length : Int) 1 10 with
      | false => rfl
      | true => have := wiB_out q; omega
    have HN := hid (numD_len (m := m) hl)
    clear hl
    go_wp2_with (go_at_call 43; refine (qwithin_any _ _ _ _).mono ?_; rintro e w' ⟨rfl, rfl⟩)
    -- STOP-b
    go_ret2
    exact ⟨by rw [HR.out, HN.out]; rfl, Below.refl _ _⟩
end Go.Proofs.YtamlaeocojcgdaaDoor
/- query.read: numbers of words into places of one block. -/
namespace Go.Proofs.YtamlaeocojcgdaaDoor
set_option linter.unusedVariables false
set_option linter.unusedSimpArgs false
open Go.ChangeShapes Go.WideShapes Go.ChangeAt Go.RowKit

/-- Words in memory, outside the block b. -/
def WordsAt (w : World) (b : Nat) (A : Option Addr) (ws : List (List UInt8)) : Prop :=
  (∀ l ∈ ws, l.length ≤ 2000) ∧ (ws = [] ∨ ∃ ba oa, A = some ⟨ba, oa, none⟩ ∧ ba ≠ b ∧ ba < w.heap.size ∧ ∀ j l, ws[j]? = some l → w.cell? ⟨ba, oa + j, none⟩ = some (.string (bstr l)))
theorem WordsAt.step {w w' : World} {b : Nat} {A : Option Addr} {ws : List (List UInt8)} (h : WordsAt w b A ws) (hb : Below w.heap.size w w') : WordsAt w' b A ws :=
  ⟨h.1, h.2.imp id fun ⟨ba, oa, h1, h2, h3, h4⟩ => ⟨ba, oa, h1, h2, Nat.lt_of_lt_of_le h3 hb.size, fun j l hj => ((bcell hb).1 _ _ h3).trans (h4 j l hj)⟩⟩
theorem WordsAt.grown {w w' : World} {b : Nat} {A : Option Addr} {ws : List (List UInt8)} (h : WordsAt w b A ws) (hb : w.grownBy w' (some b)) : WordsAt w' b A ws :=
  ⟨h.1, h.2.imp id fun ⟨ba, oa, h1, h2, h3, h4⟩ => ⟨ba, oa, h1, h2, Nat.lt_of_lt_of_le h3 hb.size, fun j l hj => (World.cell?_of_block (w := w) (hb.block _ h3 (fun e => h2 (Option.some.inj e)))).trans (h4 j l hj)⟩⟩
theorem WordsAt.tail {w : World} {b : Nat} {ba oa : Nat} {l : List UInt8} {ws : List (List UInt8)} (h : WordsAt w b (some ⟨ba, oa, none⟩) (l :: ws)) : WordsAt w b (some ⟨ba, oa + 1, none⟩) ws := by
  refine ⟨fun x hx => h.1 x (List.mem_cons_of_mem _ hx), ?_⟩
  rcases h.2 with e | ⟨ba', oa', e, h2, h3, h4⟩
  · cases e
  · obtain ⟨rfl, rfl, -⟩ := Addr.mk.inj (Option.some.inj e)
    refine .inr ⟨ba, oa + 1, rfl, h2, h3, fun j x hj => ?_⟩
    have := h4 (j + 1) x hj
    rw [show oa + 1 + j = oa + (j + 1) by omega]; exact this
theorem qg_refl (w : World) (b : Nat) : w.grownBy w (some b) := ⟨rfl, rfl, rfl, Nat.le_refl _, fun _ _ _ => rfl⟩
theorem qg_below {w w1 w2 : World} {b : Nat} (h : w.grownBy w1 (some b)) (hb : Below w1.heap.size w1 w2) : w.grownBy w2 (some b) :=
  ⟨hb.os.trans h.os, hb.tape.trans h.tape, hb.output.trans h.output, Nat.le_trans h.size hb.size, fun k hk hne => (hb.block k (Nat.lt_of_lt_of_le hk h.size)).trans (h.block k hk hne)⟩
theorem qg_trans {w w1 w2 : World} {b : Nat} (h : w.grownBy w1 (some b)) (hb : w1.grownBy w2 (some b)) : w.grownBy w2 (some b) :=
  ⟨hb.os.trans h.os, hb.tape.trans h.tape, hb.output.trans h.output, Nat.le_trans h.size hb.size, fun k hk hne => (hb.block k (Nat.lt_of_lt_of_le hk h.size) hne).trans (h.block k hk hne)⟩
theorem qg_set (w : World) (b o : Nat) (v : Value) : w.grownBy (w.setCell ⟨b, o, none⟩ v) (some b) :=
  ⟨by first | rfl | simp, by first | rfl | simp, by first | rfl | simp, by simp, fun k _ hne => Below.heap_setCell w ⟨b, o, none⟩ v k (fun e => hne (by rw [e]))⟩
/-- A block with numbers laid at places. -/
def setL (cs : Array Value) : List Nat → List Int → Array Value
  | o :: os, n :: ns => setL (cs.setIfInBounds o (.int .i64 n)) os ns
  | _, _ => cs
theorem setL_snoc : ∀ (os : List Nat) (ns : List Int) (cs : Array Value) (o : Nat) (n : Int), os.length = ns.length → setL cs (os ++ [o]) (ns ++ [n]) = (setL cs os ns).setIfInBounds o (.int .i64 n)
  | [], [], _, _, _, _ => rfl
  | o' :: os, n' :: ns, cs, o, n, h => by
    rw [List.cons_append, List.cons_append, setL, setL]
    exact setL_snoc os ns _ o n (by simpa using h)
  | [], _ :: _, _, _, _, h => by simp at h
  | _ :: _, [], _, _, _, h => by simp at h
theorem setL_size : ∀ (os : List Nat) (ns : List Int) (cs : Array Value), (setL cs os ns).size = cs.size
  | [], _, cs => by cases ‹List Int› <;> rfl
  | o :: os, [], cs => rfl
  | o :: os, n :: ns, cs => by rw [setL, setL_size os ns]; simp
/-- What read leaves behind it. -/
def ReadPost (w : World) (b : Nat) (cs : Array Value) (T : TypeId) (os : List Nat) (ws : List (List UInt8)) (w' : World) : Prop :=
  w.grownBy w' (some b) ∧ ∃ ps ns, Blk w' b (setL cs ps ns) T ∧ (∀ o ∈ ps, o ∈ os) ∧ (ws.length = os.length → ∀ ms, numsR ws = some ms → ps = os ∧ ns = ms)

set_option maxHeartbeats 4000000 in
set_option maxRecDepth 100000 in
theorem qread_any (ws : List (List UInt8)) (A : Option Addr) (c : Nat) (os : List Nat) (p cp b : Nat) (cs : Array Value) (T : TypeId) (w : World) (hw : WordsAt w b A ws) (hl : ws.length ≤ 2000) (hB : Blk w b cs T) (hos : ∀ o ∈ os, o < cs.size) (hol : os.length ≤ 2000)
    (hpb : p ≠ b) (hp : p < w.heap.size) (hpc : ∀ j o, os[j]? = some o → w.cell? ⟨p, j, none⟩ = some (.pointer (some ⟨b, o, none⟩))) :
    Calls Tryd.prog 33 #[.slice A ws.length c, .slice (some ⟨p, 0, none⟩) os.length cp] w fun e w' => e = .returned (.bool (decide (ws.length = os.length) && (numsR ws).isSome)) ∧ ReadPost w b cs T os ws w' := by
  obtain ⟨R, hR⟩ : ∃ q, q = (decide (ws.length = os.length) && (numsR ws).isSome) := ⟨_, rfl⟩
  rw [← hR]
  have HR := hid hR
  clear hR
  have HW := hid hw
  have HB := hid hB
  have HP := hid hpc
  clear hw hB hpc
  by_cases hlen : ws.length = os.length
  · have t0 : ((ws.length : Int) != (os.length : Int)) = false := by rw [hlen]; simp
    have HL := hid hlen
    clear hlen
    go_enter Tryd.func33, Tryd.ntmps33
    go_wp2_with fail
    -- STOP-a
    go_loopw [16] (fun s16 wr => ∃ (i : Nat) (ms : List Int), i ≤ ws.length ∧ s16 = .int .i64 i ∧ Hid (numsR (ws.take i) = some ms) ∧ Hid (w.grownBy wr (some b)) ∧ Hid (Blk wr b (setL cs (os.take i) ms) T)) (fun s16 _ => ws.length - (intOf s16).toNat)
    case atStart => exact ⟨0, [], by omega, rfl, hid rfl, hid (qg_refl _ _), HB⟩
    case round =>
      obtain ⟨i, ms, hi, rfl, HM, HG, HX⟩ := hrel
      obtain ⟨wo, rfl⟩ : ∃ q : World, q = wr := ⟨_, rfl⟩
      by_cases hlt : i < ws.length
      · have ti : ((i : Int) < (ws.length : Int)) = True := eq_true (by omega)
        obtain ⟨ba, oa, rfl, hba, hbw, hcw⟩ : ∃ ba oa, A = some ⟨ba, oa, none⟩ ∧ ba ≠ b ∧ ba < wo.heap.size ∧ wo.cell? ⟨ba, oa + i, none⟩ = some (.string (bstr ws[i])) := by
          rcases (HW.out.grown HG.out).2 with e | ⟨ba, oa, e1, e2, e3, e4⟩
          · rw [e] at hlt; simp at hlt
          · exact ⟨ba, oa, e1, e2, e3, e4 i _ (List.getElem?_eq_getElem hlt)⟩
        have hlo : i < os.length := by have := HL.out; omega
        have to1 : ((i : Int) < (os.length : Int)) = True := eq_true (by omega)
        have HWL := hid (HW.out.1 _ (List.getElem_mem hlt))
        have HTW := hid (show ws.take (i + 1) = ws.take i ++ [ws[i]] from List.take_succ_eq_append_getElem hlt)
        have HTO := hid (show os.take (i + 1) = os.take i ++ [os[i]] from List.take_succ_eq_append_getElem hlo)
        have hml : (os.take i).length = ms.length := by rw [numsR_len HM.out, List.length_take, List.length_take]; omega
        have HML := hid hml
        clear hml
        have hpo := HP.out i _ (List.getElem?_eq_getElem hlo)
        have HOS := hid (hos _ (List.getElem_mem hlo))
        have HBD := hid (fun (h : numR ws[i] = none) => numsR_bad (List.getElem_mem hlt) h)
        generalize ws[i] = l at *
        generalize os[i] = o at *
        have HC := hid (qnumber_any l HWL.out wo)
        obtain ⟨RN, hRN⟩ : ∃ q, q = numR l := ⟨_, rfl⟩
        rw [← hRN] at HC
        have HRN := hid hRN
        clear hRN
        go_wp2_with fail
        refine HC.out.mono ?_
        rintro e w2 ⟨rfl, hb2⟩
        have HG2 := hid (qg_below HG.out hb2)
        have HX2 := hid (HX.out.step hb2)
        have hp2 : w2.cell? ⟨p, i, none⟩ = some (.pointer (some ⟨b, o, none⟩)) := (World.cell?_of_block (w := w) (HG2.out.block _ hp (fun e => hpb (Option.some.inj e)))).trans hpo
        clear hb2 HC hcw hpo HX
        have hsz : o < (setL cs (os.take i) ms).size := by rw [setL_size]; exact HOS.out
        obtain ⟨Z, hZ⟩ : ∃ Z, w2.cell? ⟨b, o, none⟩ = some Z := ⟨_, (HX2.out.cells.1 o).trans (Array.getElem?_eq_getElem hsz)⟩
        have hZf : w2.frozen? ⟨b, o, none⟩ = false := HX2.out.cells.2 o
        clear hsz
        cases RN with
        | none =>
          have HN := hid (HBD.out HRN.out.symm)
          go_wp2_with fail
          -- STOP-c
          go_ret
          exact ⟨ret_bool (by rw [HR.out, HN.out]; simp), HG2.out, _, _, HX2.out, fun x hx => List.mem_of_mem_take hx, fun _ ms' h' => by rw [HN.out] at h'; cases h'⟩
        | some N =>
          go_wp2_with fail
          -- STOP-e
          go_roundw
          case rel =>
            refine ⟨i + 1, ms ++ [N], by omega, by go_num, hid ?_, hid (qg_trans HG2.out (qg_set _ _ _ _)), hid ?_⟩
            · rw [HTW.out]; exact numsR_snoc HM.out HRN.out.symm
            · rw [HTO.out, setL_snoc _ _ _ _ _ HML.out]; exact HX2.out.set o _
          case measure =>
            simp [intOf]
            exact Nat.sub_lt_sub_left hlt (Nat.lt_succ_self i)
      · have ti : ((i : Int) < (ws.length : Int)) = False := eq_false (by omega)
        have hti : ws.take i = ws := List.take_of_length_le (by omega)
        have hto : os.take i = os := List.take_of_length_le (by have := HL.out; omega)
        rw [hti] at HM
        rw [hto] at HX
        clear hti hto
        go_wp2_with fail
        -- STOP-d
        go_ret
        exact ⟨ret_bool (by rw [HR.out, HM.out, decide_eq_true HL.out]; rfl), HG.out, os, ms, HX.out, fun _ h => h, fun _ ms' h' => ⟨rfl, Option.some.inj (HM.out.symm.trans h')⟩⟩
  · have t0 : ((ws.length : Int) != (os.length : Int)) = true := by rw [bne_iff_ne]; exact fun e => hlen (Int.ofNat.inj e)
    go_enter Tryd.func33, Tryd.ntmps33
    go_wp2_with fail
    -- STOP-b
    go_ret
    exact ⟨ret_bool (by rw [HR.out, decide_eq_false hlen]; rfl), qg_refl _ _, [], [], HB.out, fun _ h => absurd h (by simp), fun h => absurd h hlen⟩
end Go.Proofs.YtamlaeocojcgdaaDoor
/- strings.Split, strings.Cut at one byte. -/
namespace Go.Proofs.YtamlaeocojcgdaaDoor
set_option linter.unusedVariables false
set_option linter.unusedSimpArgs false
open Go.ChangeShapes Go.WideShapes Go.ChangeAt Go.RowKit

/-- The library's variable that the search reads. -/
def MaxAt (w : World) : Prop := ∃ m, w.cell? ⟨1, 0, none⟩ = some (.int .i64 m)
theorem MaxAt.lt {w : World} (h : MaxAt w) : 1 < w.heap.size := by
  obtain ⟨m, hm⟩ := h
  exact World.block_lt_of_cell? w ⟨1, 0, none⟩ hm
theorem MaxAt.step {w w' : World} (h : MaxAt w) (hb : Below w.heap.size w w') : MaxAt w' := by
  have hl := h.lt
  obtain ⟨m, hm⟩ := h
  exact ⟨m, ((bcell hb).1 _ _ hl).trans hm⟩
theorem MaxAt.grown {w w' : World} {b : Nat} (h : MaxAt w) (hb : w.grownBy w' (some b)) (hne : 1 ≠ b) : MaxAt w' := by
  have hl := h.lt
  obtain ⟨m, hm⟩ := h
  exact ⟨m, (World.cell?_of_block (w := w) (hb.block _ hl (fun e => hne (Option.some.inj e)))).trans hm⟩
theorem MaxAt.of_shaped {w : World} (h : w.ShapedOpen Tryd.prog) : MaxAt w := Tryd.laysM146.s1_3 w h
/-- The pieces as strings. -/
abbrev wcells (ws : List (List UInt8)) : List Value := ws.map fun l => Value.string (bstr l)
theorem split_cells (c : UInt8) (D : List UInt8) : (Lib.splitB ⟨#[c]⟩ 0 (Lib.countB (bstr D) ⟨#[c]⟩) (bstr D)).map Value.string = wcells (pcs c D) := by
  have h := split_pcs c (bstr D)
  rw [bstr_list] at h
  rw [wcells, ← h, List.map_map]
  rfl
theorem split_count (c : UInt8) (D : List UInt8) : Lib.countB (bstr D) ⟨#[c]⟩ + 1 = (pcs c D).length := by
  have h := congrArg List.length (split_cells c D)
  have h2 := Lib.splitB_all ⟨#[c]⟩ (show 1 ≤ (#[c] : Array UInt8).size from Nat.le_refl 1) 0 _ (bstr D) rfl
  rw [List.length_map, List.length_map, h2] at h
  exact h
theorem split_any (D : List UInt8) (c : UInt8) (hD : D.length ≤ 2000) (w : World) (hm : MaxAt w) :
    Calls Tryd.prog 21 #[.string (bstr D), .string ⟨#[c]⟩] w fun e w' =>
      e = .returned (.slice (some ⟨w.heap.size, 0, none⟩) (pcs c D).length (pcs c D).length) ∧ w' = w.alloc (.cells (wcells (pcs c D)).toArray 9) := by
  obtain ⟨m, hm⟩ := hm
  have h := Any.strings_Split { Tryd.laysM146 with } Tryd.laysM146.i9 (bstr D) ⟨#[c]⟩ m w (by rw [bstr_size]; omega) hm (show 1 ≤ (#[c] : Array UInt8).size from Nat.le_refl 1)
  rw [split_cells, split_count] at h
  exact h
theorem cut_any (D : List UInt8) (c : UInt8) (hD : D.length ≤ 2000) (w : World) (hm : MaxAt w) :
    Calls Tryd.prog 19 #[.string (bstr D), .string ⟨#[c]⟩] w fun e w' =>
      e = .returned (.tuple #[.string (bstr (Lib.cut D [c]).1), .string (bstr (Lib.cut D [c]).2.1), .bool (Lib.cut D [c]).2.2]) ∧ ∃ n, w' = w.drewN n := by
  obtain ⟨m, hm⟩ := hm
  exact Any.strings_Cut { Tryd.laysM145 with } (bstr D) ⟨#[c]⟩ m w (by rw [bstr_size]; omega) hm
theorem WordsAt.new {w : World} {b g : Nat} {ws : List (List UInt8)} {T : TypeId} (hb : Blk w g (wcells ws).toArray T) (hne : g ≠ b) (h : ∀ l ∈ ws, l.length ≤ 2000) : WordsAt w b (some ⟨g, 0, none⟩) ws :=
  ⟨h, .inr ⟨g, 0, rfl, hne, hb.lt, fun j l hj => by
    rw [Nat.zero_add, hb.cells.1 j]
    simp [wcells, hj]⟩⟩
end Go.Proofs.YtamlaeocojcgdaaDoor
/- The frame of a law whose row lists tables, the world's shape kept; strings as a claim reads them. No law in sight. -/
namespace Go.Proofs.YtamlaeocojcgdaaDoor
set_option linter.unusedVariables false
open Go.ChangeShapes Go.WideShapes Go.ChangeAt Go.RowKit

section
variable {H : Type} {enc : TypeId × Value → H}
theorem handed_and_shaped {a : Assume} {C : Checked} {os : Os} {f : FuncId} {fn : Func} {s : ChangeSpec} {conds : List PathCond} {apart fresh handsOn again : Bool} {X : World → Array Value → Prop}
    (hX : ∀ (w w' : World) (args : Array Value), w.heap = w'.heap → X w args → X w' args)
    (own : ownKnob C.prog.godebug = none) (started : os.Started) (noInit : C.prog.inits.idxOf? f = none) (hfn : C.prog.funcs[f]? = some fn)
    (witness : ∃ (w : World) (tape : Tape) (i : Input), w.os = os ∧ (w.forCall tape i).Shaped C.prog ∧ i.vars = [] ∧ Input.okWide C.prog (w.forCall tape i) .any w.heap.size f i ∧
      ((s.pre enc C.prog fn conds apart (w.forCall tape i).memory i.args ∧ X (w.forCall tape i).memory i.args) ∧ sizedMet enc C.prog fn (OpenSpec.ofChange s) apart (w.forCall tape i).memory i.args) ∧ a.holds C.prog (lone (Frame.enter C.prog f i.args .normal) [] (w.forCall tape i)))
    (contract : ∀ (W : World) (base : Nat) (args : Array Value) (ds gs : List (DataW H)) (before : List MemPlace),
      (∀ (j : Nat) t v, fn.params[j]? = some t → args[j]? = some v → Value.okWide C.prog W .any base t v) →
      DataW.Whole enc C.prog fn.params.toList s.vars apart W args.toList ds gs before → W.ShapedOpen C.prog → X W args →
      Calls C.prog f args W fun e W' => ∃ v, e = .returned v ∧ s.post enc C.prog fn apart fresh handsOn again W args v W') :
    ReturnsInHanded a C os f .any (fun w args => (s.pre enc C.prog fn conds apart w args ∧ X w args) ∧ sizedMet enc C.prog fn (OpenSpec.ofChange s) apart w args) (s.post enc C.prog fn apart fresh handsOn again) := by
  refine returnsInHanded_of_calls own started noInit witness ?_
  intro w tape i _ hsh _ hok hpre hholds
  obtain ⟨_, _, _, fn', hfn', _, _, _, _, hval⟩ := hok
  have e : fn' = fn := Option.some.inj (hfn'.symm.trans hfn)
  subst e
  obtain ⟨⟨⟨ds, gs, before, hw, hc⟩, hx⟩, hz⟩ := hpre
  have hw' := DataW.Whole.of_heap (w' := w.forCall tape i) (by rfl) hw
  refine (contract (w.forCall tape i) w.heap.size i.args ds gs before hval hw' hsh (hX _ _ _ (by rfl) hx)).mono fun e W' ⟨v, he, hp⟩ => ?_
  subst he
  exact ChangeSpec.post_blind hp
theorem law_lifted_shaped {C : Checked} {os : Os} {f : FuncId} {fn : Func} {s : ChangeSpec} {L : List (String × DataW Unit)} {tb : TypeId}
    (own : ownKnob C.prog.godebug = none) (started : os.Started) (noInit : C.prog.inits.idxOf? f = none) (hfn : C.prog.funcs[f]? = some fn)
    (witness : ∃ (w : World) (tape : Tape) (i : Input), w.os = os ∧ (w.forCall tape i).Shaped C.prog ∧ i.vars = [] ∧ Input.okWide C.prog (w.forCall tape i) .any w.heap.size f i ∧
      ((s.pre enc C.prog fn [] false (w.forCall tape i).memory i.args ∧ laidMetH C.prog L (w.forCall tape i).memory) ∧ sizedMet enc C.prog fn (OpenSpec.ofChange s) false (w.forCall tape i).memory i.args) ∧ ({} : Assume).holds C.prog (lone (Frame.enter C.prog f i.args .normal) [] (w.forCall tape i)))
    (hl : laidOutB C.prog = true) (hts : ∀ t ∈ fn.params.toList, C.prog.readableRec t = true ∧ t < C.prog.types.size) (hres : fn.resultTypes = #[tb]) (hbool : C.prog.underlying tb = some .bool) (hvars : s.vars = [])
    (hspec : ∀ es : List (DataW H), es.length = fn.params.toList.length → s.fn H es = { results := [.lit (.bool true)], args := es })
    (walk : ∀ (W : World) (base : Nat) (args : Array Value) (ds : List (DataW H)) (ps : List MemPlace),
      (∀ (j : Nat) t v, fn.params[j]? = some t → args[j]? = some v → Value.okWide C.prog W .any base t v) → DataW.TrodAll enc C.prog W 0 (fun _ => true) true fn.params.toList args.toList ds ps → W.ShapedOpen C.prog → laidMetH C.prog L W →
      Calls C.prog f args W fun e W' => e = .returned (.bool true) ∧ Below W.heap.size W W') :
    ReturnsInHanded {} C os f .any (fun w args => (s.pre enc C.prog fn [] false w args ∧ laidMetH C.prog L w) ∧ sizedMet enc C.prog fn (OpenSpec.ofChange s) false w args) (s.post enc C.prog fn false true false false) := by
  refine handed_and_shaped (C := C) (X := fun w _ => laidMetH C.prog L w) (fun _ _ _ hh h => laidMetH.of_heap hh h) own started noInit hfn witness ?_
  intro W base args ds gs before hval hW hS hL
  have hW' := hW
  obtain ⟨p, q, hA, _⟩ := hW
  refine (walk W base args ds p hval hA hS hL).mono fun e W' ⟨he, hb⟩ => ?_
  exact ⟨_, he, law_post hl hts hres hbool hvars hspec hW' hb⟩
end
set_option maxRecDepth 100000 in
theorem arg_text {H : Type} {enc : TypeId × Value → H} {w : World} {r : Reach} {b0 base : Nat} {spare : Nat → Bool} {held : Bool} {v : Value} {d : DataW H} {p : List MemPlace}
    (hv : Value.okWide Tryd.prog w r b0 9 v) (h : DataW.Trod enc Tryd.prog w base spare held 9 v d p) :
    ∃ L : List UInt8, v = .string (bstr L) ∧ L.length ≤ 9223372036854775807 := by
  obtain ⟨s, rfl, -, -, hs⟩ := Go.ChangeMaps.open_string Tryd.underlying9 hv h
  refine ⟨s.data.toList, by rw [← bstr_of], ?_⟩
  have : s.data.toList.length = s.size := by rw [Array.length_toList]; rfl
  simp only [maxLen] at hs
  omega
/-- The tables that QueryReads' row lists. -/
abbrev listedR : List (String × DataW Unit) := [("unicode/utf8.acceptRanges", Rows.laid_unicode_utf8_acceptRanges), ("viewmere/viewref.verbs", Rows.laid_viewmere_viewref_verbs), ("unicode/utf8.first", Rows.laid_unicode_utf8_first)]
theorem verbs_of_laidR {W : World} (h : laidMetH Tryd.prog listedR W) : VerbsAt W := by
  rw [MakeChecks.laidMetH_plain _ _ _ (by kernel_rfl)] at h
  have h2 := h.tail
  rw [verbs_data] at h2
  obtain ⟨ps, ⟨g', t', cs, fuel, p, q, hg', ht', hvar, hd, _, _⟩, _⟩ := h2
  obtain rfl := Option.some.inj (verbs_named.symm.trans hg')
  obtain rfl := Option.some.inj (verbs_type.symm.trans ht')
  have hcs := cells_of_strs Tryd.underlying43 Tryd.underlying9 (by kernel_rfl) (by kernel_rfl) hd
  have hcell : ∀ k : Nat, k ≤ 9 → W.cell? ⟨0, k, none⟩ = some (.string (bstr (verbB (k : Int)))) := fun k hk => by
    have := World.var?_cell verbs_named hvar k
    rw [this, ← Array.getElem?_toList, hcs]
    have hk' : k = 0 ∨ k = 1 ∨ k = 2 ∨ k = 3 ∨ k = 4 ∨ k = 5 ∨ k = 6 ∨ k = 7 ∨ k = 8 ∨ k = 9 := by omega
    rcases hk' with rfl | rfl | rfl | rfl | rfl | rfl | rfl | rfl | rfl | rfl <;> rfl
  exact ⟨block_lt_of_cell (hcell 0 (by omega)), hcell⟩
end Go.Proofs.YtamlaeocojcgdaaDoor
/- query.where, query.pick. -/
namespace Go.Proofs.YtamlaeocojcgdaaDoor
set_option linter.unusedVariables false
set_option linter.unusedSimpArgs false
open Go.ChangeShapes Go.WideShapes Go.ChangeAt Go.RowKit

/-- The cells of a step. -/
abbrev stC (k a b c p v : Int) (l : Value) : Array Value := #[.int .i64 k, .int .i64 a, .int .i64 b, .int .i64 c, .int .i64 p, .int .i64 v, l]
/-- Numbers read into a step leave a step. -/
theorem setL_st (k p : Int) (l : Value) : ∀ (os : List Nat) (ns : List Int) (a b c v : Int), (∀ o ∈ os, o = 1 ∨ o = 2 ∨ o = 3 ∨ o = 5) → ∃ a' b' c' v', setL (stC k a b c p v l) os ns = stC k a' b' c' p v' l
  | [], ns, a, b, c, v, _ => ⟨a, b, c, v, by cases ns <;> rfl⟩
  | o :: os, [], a, b, c, v, _ => ⟨a, b, c, v, rfl⟩
  | o :: os, n :: ns, a, b, c, v, h => by
    have h' : ∀ o ∈ os, o = 1 ∨ o = 2 ∨ o = 3 ∨ o = 5 := fun x hx => h x (by simp [hx])
    rw [setL]
    rcases h o (by simp) with rfl | rfl | rfl | rfl
    · exact setL_st k p l os ns n b c v h'
    · exact setL_st k p l os ns a n c v h'
    · exact setL_st k p l os ns a b n v h'
    · exact setL_st k p l os ns a b c n h'

/-- read, into a step's box. -/
theorem qread_st (ws : List (List UInt8)) (os : List Nat) (n m : Nat) (hn : ws.length = n) (hm : os.length = m) (A : Option Addr) (c cp q b : Nat) (k a0 b0 c0 p0 v0 : Int) (l : Value) (PC : Array Value) (T TP : TypeId) (w : World) (hw : WordsAt w b A ws) (hl : n ≤ 2000) (hl2 : m ≤ 2000)
    (hB : Blk w b (stC k a0 b0 c0 p0 v0 l) T) (hos : ∀ o ∈ os, o = 1 ∨ o = 2 ∨ o = 3 ∨ o = 5) (hP : Blk w q PC TP) (hPC : PC = (os.map fun o => Value.pointer (some ⟨b, o, none⟩)).toArray) (hqb : q ≠ b) :
    Calls Tryd.prog 33 #[.slice A n c, .slice (some ⟨q, 0, none⟩) m cp] w fun e w' => e = .returned (.bool (decide (n = m) && (numsR ws).isSome)) ∧ w.grownBy w' (some b) ∧ ∃ a' b' c' v', Blk w' b (stC k a' b' c' p0 v' l) T ∧
      (n = m → ∀ ms, numsR ws = some ms → setL (stC k a0 b0 c0 p0 v0 l) os ms = stC k a' b' c' p0 v' l) := by
  subst hn hm
  refine (qread_any ws A c os q cp b (stC k a0 b0 c0 p0 v0 l) T w hw hl hB (fun o ho => by rcases hos o ho with h | h | h | h <;> rw [h] <;> show _ < 7 <;> omega) hl2 hqb hP.lt (fun j o hj => ?_)).mono ?_
  · rw [hP.cells.1 j, hPC]
    simp [hj]
  · rintro e w' ⟨he, hg, ps, ns, hx, hps, hns⟩
    refine ⟨he, hg, ?_⟩
    by_cases hok : ws.length = os.length ∧ ∃ ms, numsR ws = some ms
    · obtain ⟨h1, ms, h2⟩ := hok
      obtain ⟨e1, e2⟩ := hns h1 ms h2
      subst e1 e2
      obtain ⟨a', b', c', v', h3⟩ := setL_st k p0 l ps ns a0 b0 c0 v0 hos
      exact ⟨a', b', c', v', h3 ▸ hx, fun _ ms' h' => by rw [Option.some.inj (h'.symm.trans h2)]; exact h3⟩
    · obtain ⟨a', b', c', v', h3⟩ := setL_st k p0 l ps ns a0 b0 c0 v0 (fun o ho => hos o (hps o ho))
      exact ⟨a', b', c', v', h3 ▸ hx, fun h1 ms h2 => absurd ⟨h1, ms, h2⟩ hok⟩
theorem WordsAt.three {w : World} {b g : Nat} {x y z : List UInt8} {T : TypeId} (hb : Blk w g #[.string (bstr x), .string (bstr y), .string (bstr z)] T) (hne : g ≠ b) (h : ∀ l ∈ [x, y, z], l.length ≤ 2000) : WordsAt w b (some ⟨g, 0, none⟩) [x, y, z] :=
  ⟨h, .inr ⟨g, 0, rfl, hne, hb.lt, fun j l hj => by
    rw [Nat.zero_add, hb.cells.1 j]
    match j, hj with
    | 0, hj => cases hj; rfl
    | 1, hj => cases hj; rfl
    | 2, hj => cases hj; rfl⟩⟩
/-- What stands while numbers are read into the box b: the rest, and the place of the operator. -/
theorem keepR {wo w' : World} {b : Nat} {v : Value} (hg : wo.grownBy w' (some b)) (hc : w'.cell? ⟨b, 4, none⟩ = some v) :
    (∀ bk o, bk < wo.heap.size → (bk = b) = False → w'.cell? ⟨bk, o, none⟩ = wo.cell? ⟨bk, o, none⟩) ∧ w'.cell? ⟨b, 4, none⟩ = some v ∧ wo.grownBy w' (some b) :=
  ⟨fun bk o h1 h2 => World.cell?_of_block (w := wo) (hg.block _ h1 (fun e => Eq.mp h2 (Option.some.inj e))), hc, hg⟩
theorem keepRd {wo w' : World} {b : Nat} {v : Value} (hg : wo.grownBy w' (some b)) (hc : w'.cell? ⟨b, 4, none⟩ = some v) :
    (∀ bk o, bk < wo.heap.size → (bk = b) = False → w'.drew.cell? ⟨bk, o, none⟩ = wo.cell? ⟨bk, o, none⟩) ∧ w'.drew.cell? ⟨b, 4, none⟩ = some v ∧ wo.grownBy w'.drew (some b) := keepR (w' := w'.drew) ⟨hg.os, hg.tape, hg.output, hg.size, hg.block⟩ hc
theorem qg_alloc {wo w : World} {b : Nat} (h : wo.grownBy w (some b)) (o : Obj) : wo.grownBy (w.alloc o) (some b) := qg_below h (alloc_below (Below.refl _ _) o)
theorem qc_alloc {w : World} {b : Nat} {v : Value} (h : w.cell? ⟨b, 4, none⟩ = some v) (o : Obj) : (w.alloc o).cell? ⟨b, 4, none⟩ = some v := (World.cell?_alloc_lt _ _ _ (World.block_lt_of_cell? w _ h)).trans h

/-- What 'where' tells of words. -/
def whereR : List (List UInt8) → Option (Int × List Int)
  | [x, y, o, z] => match signR o, numsR [x, y, z] with
    | some p, some ns => some (p, ns)
    | _, _ => none
  | _ => none
def WherePost (w : World) (b : Nat) (k : Int) (l : Value) (T : TypeId) (ws : List (List UInt8)) (w' : World) : Prop :=
  w.grownBy w' (some b) ∧ ∃ a' b' c' p' v', Blk w' b (stC k a' b' c' p' v' l) T ∧ ∀ p ns, whereR ws = some (p, ns) → p' = p ∧ ns = [a', c', v'] ∧ b' = 0

theorem signR_of {j : Nat} (h1 : 1 ≤ j) (h3 : j ≤ 3) : signR (signB j) = some (j : Int) := by
  have : j = 1 ∨ j = 2 ∨ j = 3 := by omega
  rcases this with rfl | rfl | rfl <;> rfl
theorem signR_none {o : List UInt8} (h : ∀ m : Nat, 1 ≤ m → m < 4 → o ≠ signB m) : signR o = none := by
  have h1 := h 1 (by omega) (by omega)
  have h2 := h 2 (by omega) (by omega)
  have h3 := h 3 (by omega) (by omega)
  unfold signR
  rw [if_neg (fun e => h1 (e.trans rfl)), if_neg (fun e => h2 (e.trans rfl)), if_neg (fun e => h3 (e.trans rfl))]
theorem where_fin {x y o z : List UInt8} {j : Nat} (h1 : 1 ≤ j) (h3 : j ≤ 3) (ho : o = signB j) {k a' b' c' v' : Int} {l : Value}
    (hs : 3 = 3 → ∀ ms, numsR [x, y, z] = some ms → setL (stC k 0 0 0 j 0 l) [1, 3, 5] ms = stC k a' b' c' j v' l) :
    (whereR [x, y, o, z]).isSome = (decide (3 = 3) && (numsR [x, y, z]).isSome) ∧ ∀ p ns, whereR [x, y, o, z] = some (p, ns) → (j : Int) = p ∧ ns = [a', c', v'] ∧ b' = 0 := by
  have h0 : signR o = some (j : Int) := by rw [ho]; exact signR_of h1 h3
  cases hn : numsR [x, y, z] with
  | none => simp [whereR, h0, hn]
  | some ms =>
    refine ⟨by simp [whereR, h0, hn], fun p ns h => ?_⟩
    simp only [whereR, h0, hn, Option.some.injEq, Prod.mk.injEq] at h
    obtain ⟨rfl, rfl⟩ := h
    have hl := numsR_len hn
    obtain ⟨n1, n2, n3, rfl⟩ : ∃ n1 n2 n3, ms = [n1, n2, n3] := by
      match ms, hl with
      | [n1, n2, n3], _ => exact ⟨n1, n2, n3, rfl⟩
    have := hs rfl _ hn
    simp [setL, stC] at this
    obtain ⟨q1, q2, q3, q4⟩ := this
    exact ⟨rfl, by rw [q1, q3, q4], q2.symm⟩

set_option maxHeartbeats 4000000 in
set_option maxRecDepth 100000 in
theorem qwhere_any (ws : List (List UInt8)) (A : Option Addr) (cp b : Nat) (k : Int) (l : Value) (w : World) (hw : WordsAt w b A ws) (hl : ws.length ≤ 2000) (hB : Blk w b (stC k 0 0 0 0 0 l) 40) :
    Calls Tryd.prog 34 #[.slice A ws.length cp, .pointer (some ⟨b, 0, none⟩)] w fun e w' => e = .returned (.bool (whereR ws).isSome) ∧ WherePost w b k l 40 ws w' := by
  obtain ⟨R, hR⟩ : ∃ q, q = (whereR ws).isSome := ⟨_, rfl⟩
  rw [← hR]
  have HR := hid hR
  clear hR
  have HW := hid hw
  have HB := hid hB
  clear hw hB
  by_cases hlen : ws.length = 4
  · obtain ⟨x, y, o, z, rfl⟩ : ∃ x y o z, ws = [x, y, o, z] := by
      match ws, hlen with
      | [x, y, o, z], _ => exact ⟨x, y, o, z, rfl⟩
    clear hlen hl
    obtain ⟨ba, oa, rfl, hba, hbw, hcw⟩ : ∃ ba oa, A = some ⟨ba, oa, none⟩ ∧ ba ≠ b ∧ ba < w.heap.size ∧ ∀ j l, [x, y, o, z][j]? = some l → w.cell? ⟨ba, oa + j, none⟩ = some (.string (bstr l)) := by
      rcases HW.out.2 with e | h
      · cases e
      · exact h
    have hl4 : ([x, y, o, z] : List (List UInt8)).length = 4 := rfl
    rw [hl4]
    obtain ⟨cHB, fHB, sHB, nHB⟩ := HB.out.all
    try simp only [cbox] at cHB
    go_enter Tryd.func34, Tryd.ntmps34
    go_wp2_with fail
    -- STOP-a
    have c0 := hcw 0 x rfl
    have c1 := hcw 1 y rfl
    have c2 := hcw 2 o rfl
    have c3 := hcw 3 z rfl
    have HWL := hid HW.out.1
    have HB1 := hid (HB.out.set 4 (.int .i64 1))
    have HC0 := hid c0
    have HC1 := hid c1
    have HC2 := hid c2
    have HC3 := hid c3
    clear cHB fHB sHB nHB
    clear hcw c0 c1 c2 c3
    go_loopw [11] (fun s11 wr => ∃ j : Nat, 1 ≤ j ∧ j ≤ 4 ∧ Hid (w.grownBy wr (some b)) ∧ Hid (Blk wr b (stC k 0 0 0 j 0 l) 40) ∧ Hid (∀ m : Nat, 1 ≤ m → m < j → o ≠ signB m)) (fun _ wr => 5 - (wr.cell? ⟨b, 4, none⟩ |>.map (fun v => (intOf v).toNat)).getD 0)
    case atStart => exact ⟨1, by omega, by omega, hid (qg_set _ _ _ _), HB1, hid (fun m h1 h2 => by omega)⟩
    case round =>
      obtain ⟨j, hj1, hj4, HG, HX, HO⟩ := hrel
      obtain ⟨wo, rfl⟩ : ∃ q : World, q = wr := ⟨_, rfl⟩
      have hbo : ba < wo.heap.size := Nat.lt_of_lt_of_le hbw HG.out.size
      have d2 : wo.cell? ⟨ba, oa + 2, none⟩ = some (.string (bstr o)) := (World.cell?_of_block (w := w) (HG.out.block _ hbw (fun e => hba (Option.some.inj e)))).trans HC2.out
      by_cases hj3 : j ≤ 3
      · have tj : ((j : Int) ≤ 3) = True := eq_true (by omega)
        have HS := hid (fun w1 : World => sign_any j (by omega) w1)
        obtain ⟨BS, hBS⟩ : ∃ q, q = bstr (signB j) := ⟨_, rfl⟩
        rw [← hBS] at HS
        have HBS := hid hBS
        clear hBS
        obtain ⟨BO, hBO⟩ : ∃ q, q = bstr o := ⟨_, rfl⟩
        rw [← hBO] at d2
        have HBO := hid hBO
        clear hBO
        by_cases hne : o = signB j
        · have teq := bsq_eqT HBS.out HBO.out hne.symm
          have HE := hid hne
          clear hne
          obtain ⟨cHX, fHX, sHX, nHX⟩ := HX.out.all
          try simp only [cbox] at cHX
          go_upto_region 4 with fail
          refine wp_region_quiet_lit (by kernel_rfl) (by kernel_rfl) ?_
          repeat (any_goals ((with_reducible refine wpQuiet_step (fun K hK => ?_)); go_simp; first | (with_reducible refine hK _ ?_; clear hK K) | ((with_reducible apply Exists.intro); (with_reducible refine ⟨fun _ => ?_, hK _ ?_⟩); (go_at_call 29; exact (HS.out _).mono fun _ _ ⟨he, hb⟩ => ⟨he, _, hb.symm⟩); clear hK K) | ((with_reducible refine (if_neg ?_).mpr (hK _ ?_)); (decide); clear hK K) | (split <;> (with_reducible refine hK _ ?_; clear hK K))))
          all_goals ((with_reducible refine wpQuiet_nil ?_); intro _ hw'; obtain ⟨nq, hw''⟩ := hw'; subst hw'')
          go_wp2_with fail
          -- STOP-d
          have HGq := hid (qg_below HG.out (below_drewN (Below.refl _ _) nq))
          have HXq := hid (HX.out.drewN nq)
          clear cHX fHX sHX nHX
          have d0 : (wo.drewN nq).cell? ⟨ba, oa, none⟩ = some (.string (bstr x)) := (World.cell?_of_block (w := w) (HGq.out.block _ hbw (fun e => hba (Option.some.inj e)))).trans HC0.out
          have d1 : (wo.drewN nq).cell? ⟨ba, oa + 1, none⟩ = some (.string (bstr y)) := (World.cell?_of_block (w := w) (HGq.out.block _ hbw (fun e => hba (Option.some.inj e)))).trans HC1.out
          have d3 : (wo.drewN nq).cell? ⟨ba, oa + 3, none⟩ = some (.string (bstr z)) := (World.cell?_of_block (w := w) (HGq.out.block _ hbw (fun e => hba (Option.some.inj e)))).trans HC3.out
          have hbq : ba < (wo.drewN nq).heap.size := hbo
          have hbF : (ba = b) = False := eq_false hba
          obtain ⟨wq, hwq⟩ : ∃ q, q = wo.drewN nq := ⟨_, rfl⟩
          rw [← hwq] at HGq HXq d0 d1 d3 hbq ⊢
          obtain ⟨BX, hBX⟩ : ∃ q, q = bstr x := ⟨_, rfl⟩
          obtain ⟨BY, hBY⟩ : ∃ q, q = bstr y := ⟨_, rfl⟩
          obtain ⟨BZ, hBZ⟩ : ∃ q, q = bstr z := ⟨_, rfl⟩
          rw [← hBX] at d0
          rw [← hBY] at d1
          rw [← hBZ] at d3
          have HBX := hid hBX
          have HBY := hid hBY
          have HBZ := hid hBZ
          have d4 : wq.cell? ⟨b, 4, none⟩ = some (.int .i64 j) := HXq.out.cells.1 4
          have hlb : b < wq.heap.size := HXq.out.lt
          clear hwq hBX hBY hBZ d2 teq HS HBS HBO HX HG hbo hba
          -- STOP-f
          obtain ⟨C1, hC1⟩ : ∃ q : Array Value, q = #[.string BX, .string BY, .string BZ] := ⟨_, rfl⟩
          obtain ⟨C2, hC2⟩ : ∃ q : Array Value, q = #[.pointer (some ⟨b, 1, none⟩), .pointer (some ⟨b, 3, none⟩), .pointer (some ⟨b, 5, none⟩)] := ⟨_, rfl⟩
          obtain ⟨RB, hRB⟩ : ∃ q, q = (decide (3 = 3) && (numsR [x, y, z]).isSome) := ⟨_, rfl⟩
          have hC1' : C1 = #[.string (bstr x), .string (bstr y), .string (bstr z)] := by rw [hC1, HBX.out, HBY.out, HBZ.out]
          have hw3 : ∀ l ∈ [x, y, z], l.length ≤ 2000 := fun l hl => HWL.out l (by simp at hl ⊢; rcases hl with h | h | h <;> simp [h])
          have HA1 := hid (qread_st [x, y, z] [1, 3, 5] 3 3 rfl rfl (some ⟨wq.heap.size, 0, none⟩) 3 3 (wq.heap.size + 1) b k 0 0 0 j 0 l C2 40 61 ((wq.alloc (.cells C1 9)).alloc (.cells C2 61)).drew
            (WordsAt.three (T := 9) (hC1' ▸ (Blk.new wq C1 9).alloc _) (by omega) hw3) (by omega) (by omega) ((HXq.out.alloc _).alloc _) (by simp) (Blk.new' _ C2 61 (by simp)) (by rw [hC2]; rfl) (by omega))
          have HA2 := hid (qread_st [x, y, z] [1, 3, 5] 3 3 rfl rfl (some ⟨wq.heap.size + 1, 0, none⟩) 3 3 wq.heap.size b k 0 0 0 j 0 l C2 40 61 ((wq.alloc (.cells C2 61)).alloc (.cells C1 9)).drew
            (WordsAt.three (T := 9) (hC1' ▸ Blk.new' _ C1 9 (by simp)) (by omega) hw3) (by omega) (by omega) ((HXq.out.alloc _).alloc _) (by simp) ((Blk.new wq C2 61).alloc _) (by rw [hC2]; rfl) (by omega))
          rw [← hRB] at HA1 HA2
          have HGA1 := hid (qg_below (qg_alloc (qg_alloc (qg_refl wq b) (.cells C1 9)) (.cells C2 61)) (Below.refl _ _).drew)
          have HGA2 := hid (qg_below (qg_alloc (qg_alloc (qg_refl wq b) (.cells C2 61)) (.cells C1 9)) (Below.refl _ _).drew)
          rw [hC1, hC2] at HA1 HA2 HGA1 HGA2
          have HRB := hid hRB
          clear hC1 hC2 hC1' hw3 hRB
          go_region_held3 (fun w' => (∀ bk o, bk < wq.heap.size → (bk = b) = False → w'.cell? ⟨bk, o, none⟩ = wq.cell? ⟨bk, o, none⟩) ∧ w'.cell? ⟨b, 4, none⟩ = some (.int .i64 j) ∧ wq.grownBy w' (some b))
            ((go_split_ands; first | (with_reducible exact keepRd (qg_refl _ _) d4) | (with_reducible exact keepRd (qg_alloc (qg_refl _ _) _) (qc_alloc d4 _)) | (with_reducible exact keepRd (qg_alloc (qg_alloc (qg_refl _ _) _) _) (qc_alloc (qc_alloc d4 _) _)) | (with_reducible exact keepR hgA hcA)))
            (first
              | (go_at_call 33; (with_reducible refine HA1.out.mono ?_); rintro e w3 ⟨rfl, hg3, a', b', c', v', hx3, hs3⟩; have hgA := qg_trans HGA1.out hg3; have hcA : w3.cell? ⟨b, 4, none⟩ = some (.int .i64 j) := hx3.cells.1 4)
              | (go_at_call 33; (with_reducible refine HA2.out.mono ?_); rintro e w3 ⟨rfl, hg3, a', b', c', v', hx3, hs3⟩; have hgA := qg_trans HGA2.out hg3; have hcA : w3.cell? ⟨b, 4, none⟩ = some (.int .i64 j) := hx3.cells.1 4)
              | fail)
          -- STOP-g
          all_goals
            have HHA := hid hgA
            have HHX := hid hx3
            have HHS := hid hs3
            clear hgA hx3 hs3 hcA d0 d1 d3 d4
            go_wp2_with fail
            -- STOP-h
            go_ret
            have hf := where_fin hj1 hj3 HE.out (fun _ => HHS.out (by first | trivial | rfl))
            exact ⟨ret_bool (by rw [HR.out, hf.1, HRB.out]; simp), qg_trans HGq.out HHA.out, _, _, _, _, _, HHX.out, hf.2⟩
        · have teq := bsq_eqF HBS.out HBO.out (fun e => hne e.symm)
          have HE := hid hne
          have wj : IntKind.i64.wrap ((j : Int) + 1) = (j : Int) + 1 := IntWalk.i64_in _ (by omega)
          clear hne
          obtain ⟨cHX, fHX, sHX, nHX⟩ := HX.out.all
          try simp only [cbox] at cHX
          go_upto_region 4 with fail
          refine wp_region_quiet_lit (by kernel_rfl) (by kernel_rfl) ?_
          repeat (any_goals ((with_reducible refine wpQuiet_step (fun K hK => ?_)); go_simp; first | (with_reducible refine hK _ ?_; clear hK K) | ((with_reducible apply Exists.intro); (with_reducible refine ⟨fun _ => ?_, hK _ ?_⟩); (go_at_call 29; exact (HS.out _).mono fun _ _ ⟨he, hb⟩ => ⟨he, _, hb.symm⟩); clear hK K) | ((with_reducible refine (if_neg ?_).mpr (hK _ ?_)); (decide); clear hK K) | (split <;> (with_reducible refine hK _ ?_; clear hK K))))
          all_goals ((with_reducible refine wpQuiet_nil ?_); intro _ hw'; obtain ⟨nq, hw''⟩ := hw'; subst hw'')
          go_wp2_with fail
          -- STOP-e
          go_roundw
          case rel =>
            refine ⟨j + 1, by omega, by omega, hid (qg_trans (qg_below HG.out (below_drewN (Below.refl _ _) _)) (qg_set _ _ _ _)), hid ?_, hid (fun m h1 h2 => ?_)⟩
            · have := (HX.out.drewN nq).set 4 (.int .i64 ((j : Int) + 1))
              exact this
            · by_cases q : m = j
              · rw [q]; exact HE.out
              · exact HO.out m h1 (by omega)
          case measure =>
            have h1 : wo.cell? ⟨b, 4, none⟩ = some (.int .i64 j) := HX.out.cells.1 4
            have h2 : ((wo.drewN nq).setCell ⟨b, 4, none⟩ (.int .i64 ((j : Int) + 1))).cell? ⟨b, 4, none⟩ = some (.int .i64 ((j : Int) + 1)) := ((HX.out.drewN nq).set 4 (.int .i64 ((j : Int) + 1))).cells.1 4
            rw [h1, h2]
            simp [intOf]
            omega
      · have tj : ((j : Int) ≤ 3) = False := eq_false (by omega)
        have hn : whereR [x, y, o, z] = none := by
          have h0 : signR o = none := signR_none (fun m h1 h2 => HO.out m h1 (by omega))
          simp [whereR, h0]
        have HN := hid hn
        clear hn
        obtain ⟨cHX, fHX, sHX, nHX⟩ := HX.out.all
        try simp only [cbox] at cHX
        go_upto_region 4 with fail
        refine wp_region_quiet_lit (by kernel_rfl) (by kernel_rfl) ?_
        repeat (any_goals ((with_reducible refine wpQuiet_step (fun K hK => ?_)); go_simp; first | (with_reducible refine hK _ ?_; clear hK K) | ((with_reducible apply Exists.intro); (with_reducible refine ⟨fun _ => ?_, hK _ ?_⟩); (fail); clear hK K) | ((with_reducible refine (if_neg ?_).mpr (hK _ ?_)); (decide); clear hK K) | (split <;> (with_reducible refine hK _ ?_; clear hK K))))
        all_goals ((with_reducible refine wpQuiet_nil ?_); intro _ hw'; obtain ⟨nq, hw''⟩ := hw'; subst hw'')
        go_upto_region 6 with fail
        -- STOP-i
        refine wp_region_quiet_lit (by kernel_rfl) (by kernel_rfl) ?_
        repeat (any_goals ((with_reducible refine wpQuiet_step (fun K hK => ?_)); go_simp; first | (with_reducible refine hK _ ?_; clear hK K) | ((with_reducible apply Exists.intro); (with_reducible refine ⟨fun _ => ?_, hK _ ?_⟩); (fail); clear hK K) | ((with_reducible refine (if_neg ?_).mpr (hK _ ?_)); (decide); clear hK K) | (split <;> (with_reducible refine hK _ ?_; clear hK K))))
        all_goals ((with_reducible refine wpQuiet_nil ?_); intro _ hw'; obtain ⟨nq, hw''⟩ := hw'; subst hw'')
        go_wp2_with fail
        -- STOP-j
        go_ret
        exact ⟨ret_bool (by rw [HR.out, HN.out]; rfl), qg_below HG.out (by (repeat' (first | (with_reducible exact Below.refl _ _) | (with_reducible assumption) | (with_reducible refine below_drewN ?_ _) | (with_reducible refine Below.drew ?_) | (with_reducible refine Below.alloc ?_ ?_ _) | (with_reducible refine Below.setCell ?_ ?_ _) | (refine Below.trans ?_ (Below.mono (by assumption) ?_)) | go_size))), _, _, _, _, _, HX.out, fun p ns h => by rw [HN.out] at h; cases h⟩
  · have t0 : ((ws.length : Int) != 4) = true := by rw [bne_iff_ne]; exact fun e => hlen (Int.ofNat.inj e)
    have HL := hid hlen
    clear hlen
    go_enter Tryd.func34, Tryd.ntmps34
    go_wp2_with fail
    -- STOP-b
    go_ret
    have hn : whereR ws = none := by
      match ws, HL.out with
      | [], _ => rfl
      | [_], _ => rfl
      | [_, _], _ => rfl
      | [_, _, _], _ => rfl
      | [_, _, _, _], h => exact absurd rfl h
      | _ :: _ :: _ :: _ :: _ :: _, _ => rfl
    exact ⟨ret_bool (by rw [HR.out, hn]; rfl), qg_refl _ _, 0, 0, 0, 0, 0, HB.out, fun p ns h => by rw [hn] at h; cases h⟩
end Go.Proofs.YtamlaeocojcgdaaDoor
/- Sets with weights are a group: the plain law. -/
namespace Go.Proofs.YtamlaeocojcgdaaDoor
set_option linter.unusedVariables false
set_option linter.unusedSimpArgs false

theorem addE_sets {a b : List It} (h1 : setI a = 0) (h2 : setI b = 0) : addE a b = doneE (sumL (a ++ b)) := by
  unfold addE; rw [if_neg (by simp [h1]), if_neg (by simp [h2])]
theorem add_comm {a b : List It} (h1 : setI a = 0) (h2 : setI b = 0) : addE a b = addE b a ∧ addX a b = addX b a := by
  have e : addE a b = addE b a := by rw [addE_sets h1 h2, addE_sets h2 h1, sumL_comm]
  exact ⟨e, by unfold addX; rw [e, sumL_comm]⟩
theorem add_set {a b : List It} (h1 : setI a = 0) (h2 : setI b = 0) (h : addE a b = 0) : setI (addX a b) = 0 ∧ addX a b = sumL (a ++ b) := by
  have e : addX a b = sumL (a ++ b) := by unfold addX; rw [if_pos h]
  rw [addE_sets h1 h2] at h
  exact ⟨by rw [e]; exact done_set h, e⟩
theorem add_assoc {a b c : List It} (h1 : setI a = 0) (h2 : setI b = 0) (h3 : setI c = 0) (h4 : addE a b = 0) (h5 : addE b c = 0) : addE (addX a b) c = addE a (addX b c) ∧ addX (addX a b) c = addX a (addX b c) := by
  obtain ⟨s1, e1⟩ := add_set h1 h2 h4
  obtain ⟨s2, e2⟩ := add_set h2 h3 h5
  have k : sumL (addX a b ++ c) = sumL (a ++ addX b c) := by
    rw [e1, e2, sumL_app_sumL, sumL_comm a (sumL (b ++ c)), sumL_app_sumL, sumL_comm (b ++ c) a, List.append_assoc]
  have e : addE (addX a b) c = addE a (addX b c) := by rw [addE_sets s1 h3, addE_sets h1 s2, k]
  exact ⟨e, by unfold addX at k ⊢; rw [show addX a b = if addE a b = 0 then sumL (a ++ b) else [] from rfl, show addX b c = if addE b c = 0 then sumL (b ++ c) else [] from rfl] at e; rw [e, k]⟩
end Go.Proofs.YtamlaeocojcgdaaDoor
/- Queries over sets with weights: the plain laws of PlainParts and PlainLinear. No program in sight. -/
namespace Go.Proofs.YtamlaeocojcgdaaDoor
set_option linter.unusedVariables false
set_option linter.unusedSimpArgs false

def wv (s : St) (W : List Int) : Int := if s.kind = 1 then 4 else if s.kind = 3 then (s.list.length : Int) else if s.kind = 4 then W.getD s.a.toNat 0 + W.getD s.b.toNat 0 else if s.kind = 8 ∨ s.kind = 9 then 2 else W.getD s.a.toNat 0
theorem stW_val {s : St} {W : List Int} (h : stW s W ≠ 0) : stW s W = wv s W := by
  unfold stW at h ⊢
  unfold wv
  by_cases h1 : s.kind = 1
  · rw [if_pos h1] at h ⊢
    rw [if_pos h1]
    split at h
    · rename_i e; rw [if_pos e]
    · exact absurd rfl h
  · rw [if_neg h1] at h ⊢
    rw [if_neg h1]
    split at h
    · exact absurd rfl h
    · rename_i e
      rw [if_neg e]
      unfold ofW at h ⊢
      generalize W.getD s.a.toNat 0 = x at *
      generalize W.getD s.b.toNat 0 = y at *
      by_cases k2 : s.kind = 2
      · rw [if_pos k2] at h ⊢
        split at h
        · rename_i e; rw [if_pos e, if_neg (show ¬ s.kind = 3 by omega), if_neg (show ¬ s.kind = 4 by omega), if_neg (show ¬ (s.kind = 8 ∨ s.kind = 9) by omega)]
        · exact absurd rfl h
      · rw [if_neg k2] at h ⊢
        by_cases k3 : s.kind = 3
        · rw [if_pos k3] at h ⊢
          split at h
          · rename_i e; rw [if_pos e, if_pos k3]
          · exact absurd rfl h
        · rw [if_neg k3] at h ⊢
          by_cases k4 : s.kind = 4
          · rw [if_pos k4] at h ⊢
            split at h
            · rename_i e; rw [if_pos e, if_neg (show ¬ s.kind = 3 by omega), if_pos k4]
            · exact absurd rfl h
          · rw [if_neg k4] at h ⊢
            by_cases k5 : s.kind = 5 ∨ s.kind = 6
            · rw [if_pos k5] at h ⊢
              split at h
              · rename_i e; rw [if_pos e, if_neg (show ¬ s.kind = 3 by omega), if_neg (show ¬ s.kind = 4 by omega), if_neg (show ¬ (s.kind = 8 ∨ s.kind = 9) by omega)]
              · exact absurd rfl h
            · rw [if_neg k5] at h ⊢
              by_cases k7 : s.kind = 7
              · rw [if_pos k7] at h ⊢
                split at h
                · rename_i e; rw [if_pos e, if_neg (show ¬ s.kind = 3 by omega), if_neg (show ¬ s.kind = 4 by omega), if_neg (show ¬ (s.kind = 8 ∨ s.kind = 9) by omega)]
                · exact absurd rfl h
              · rw [if_neg k7] at h ⊢
                by_cases k8 : s.kind = 8
                · rw [if_pos k8] at h ⊢
                  split at h
                  · rename_i e; rw [if_pos e, if_neg (show ¬ s.kind = 3 by omega), if_neg (show ¬ s.kind = 4 by omega), if_pos (show s.kind = 8 ∨ s.kind = 9 by omega)]
                  · exact absurd rfl h
                · rw [if_neg k8] at h ⊢
                  by_cases k9 : s.kind = 9
                  · rw [if_pos k9] at h ⊢
                    split at h
                    · rename_i e; rw [if_pos e, if_neg (show ¬ s.kind = 3 by omega), if_neg (show ¬ s.kind = 4 by omega), if_pos (show s.kind = 8 ∨ s.kind = 9 by omega)]
                    · exact absurd rfl h
                  · rw [if_neg k9] at h; exact absurd rfl h
/-- Right sets, of given widths. -/
def OkOut (out : List (List It)) (W : List Int) : Prop := out.length = W.length ∧ ∀ j, j < out.length → setI (out.getD j []) = 0 ∧ ∀ x ∈ out.getD j [], (x.1.length : Int) = W.getD j 0
theorem OkOut.snoc {out : List (List It)} {W : List Int} (h : OkOut out W) {S : List It} {v : Int} (h1 : setI S = 0) (h2 : ∀ x ∈ S, (x.1.length : Int) = v) : OkOut (out ++ [S]) (W ++ [v]) := by
  obtain ⟨h3, h4⟩ := h
  refine ⟨by simp [h3], fun j hj => ?_⟩
  by_cases q : j < out.length
  · have e1 : (out ++ [S]).getD j [] = out.getD j [] := by simp [List.getD, List.getElem?_append_left q]
    have e2 : (W ++ [v]).getD j 0 = W.getD j 0 := by simp [List.getD, List.getElem?_append_left (h3 ▸ q : j < W.length)]
    rw [e1, e2]
    exact h4 j q
  · have e : j = out.length := by simp at hj; omega
    subst e
    have e1 : (out ++ [S]).getD out.length [] = S := by simp [List.getD]
    have e2 : (W ++ [v]).getD out.length 0 = v := by rw [h3]; simp [List.getD]
    rw [e1, e2]
    exact ⟨h1, h2⟩
theorem OkOut.get {out : List (List It)} {W : List Int} (h : OkOut out W) {i : Int} (h0 : 0 ≤ i) (h1 : i < W.length) : setI (out.getD i.toNat []) = 0 ∧ ∀ x ∈ out.getD i.toNat [], (x.1.length : Int) = W.getD i.toNat 0 := h.2 i.toNat (by rw [h.1]; omega)
/-! the first steps alone -/
/-! what is linear -/
def Lin3 (X Y Z : List (List It)) : Prop := X.length = Z.length ∧ Y.length = Z.length ∧ ∀ j r, wt (Z.getD j []) r = wt (X.getD j [] ++ Y.getD j []) r
theorem wt_trans {a b c : List It} (h1 : ∀ r, wt a r = wt b r) (h2 : ∀ r, wt b r = wt c r) : ∀ r, wt a r = wt c r := fun r => (h1 r).trans (h2 r)
theorem Lin3.snoc {X Y Z : List (List It)} (h : Lin3 X Y Z) {x y z : List It} (hw : ∀ r, wt z r = wt (x ++ y) r) : Lin3 (X ++ [sumL x]) (Y ++ [sumL y]) (Z ++ [sumL z]) := by
  obtain ⟨h1, h2, h3⟩ := h
  refine ⟨by simp [h1], by simp [h2], fun j r => ?_⟩
  by_cases q : j < Z.length
  · have e1 : (X ++ [sumL x]).getD j [] = X.getD j [] := by simp [List.getD, List.getElem?_append_left (show j < X.length by omega)]
    have e2 : (Y ++ [sumL y]).getD j [] = Y.getD j [] := by simp [List.getD, List.getElem?_append_left (show j < Y.length by omega)]
    have e3 : (Z ++ [sumL z]).getD j [] = Z.getD j [] := by simp [List.getD, List.getElem?_append_left q]
    rw [e1, e2, e3]
    exact h3 j r
  · by_cases e : j = Z.length
    · subst e
      have e1 : (X ++ [sumL x]).getD Z.length [] = sumL x := by rw [← h1]; simp [List.getD]
      have e2 : (Y ++ [sumL y]).getD Z.length [] = sumL y := by rw [← h2]; simp [List.getD]
      have e3 : (Z ++ [sumL z]).getD Z.length [] = sumL z := by simp [List.getD]
      rw [e1, e2, e3]
      exact wt_trans (wt_sumL z) (wt_trans hw fun r => (wt_app (wt_sumL x) (wt_sumL y) r).symm) r
    · have e1 : (X ++ [sumL x]).getD j [] = [] := by rw [List.getD_eq_getElem?_getD, List.getElem?_eq_none (by simp; omega)]; rfl
      have e2 : (Y ++ [sumL y]).getD j [] = [] := by rw [List.getD_eq_getElem?_getD, List.getElem?_eq_none (by simp; omega)]; rfl
      have e3 : (Z ++ [sumL z]).getD j [] = [] := by rw [List.getD_eq_getElem?_getD, List.getElem?_eq_none (by simp; omega)]; rfl
      rw [e1, e2, e3]; rfl
end Go.Proofs.YtamlaeocojcgdaaDoor
