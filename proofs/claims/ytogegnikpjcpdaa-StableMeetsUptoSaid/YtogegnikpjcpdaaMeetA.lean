/- stable.Meet: no context, a wrong one. -/
import Derived.Test.YtogegnikpjcpdaaStab
import Derived.Test.YtogegnikpjcpdaaJoined
namespace Go.Proofs.Ytogegnikpjcpdaa
set_option linter.unusedVariables false
open Go.ChangeShapes Go.WideShapes Go.ChangeAt Go.RowKit

theorem gb_below {w0 w w' : World} {row : Option Nat} (h : w0.grownBy w row) (hb : Below w.heap.size w w') : w0.grownBy w' row :=
  grown_trans h ⟨hb.os, hb.tape, hb.output, hb.size, fun k hk _ => hb.block k hk⟩
theorem gb_set {w0 w : World} {P : Nat} (h : w0.grownBy w (some P)) (i : Nat) (v : Value) : w0.grownBy (w.setCell ⟨P, i, none⟩ v) (some P) :=
  grown_trans h ⟨rfl, rfl, rfl, by simp, fun k hk hne => Below.heap_setCell w ⟨P, i, none⟩ v k (by intro e; exact hne (by rw [e]))⟩
theorem gb_own {w0 w w' : World} {P : Nat} {row : Option Nat} (h : w0.grownBy w (some P)) (hg : w.grownBy w' row) (hr : ∀ g, row = some g → w0.heap.size ≤ g) : w0.grownBy w' (some P) :=
  ⟨hg.os.trans h.os, hg.tape.trans h.tape, hg.output.trans h.output, Nat.le_trans h.size hg.size, fun k hk hne => (hg.block k (Nat.lt_of_lt_of_le hk h.size) (fun e => by have := hr k e.symm; omega)).trans (h.block k hk hne)⟩
theorem gb_to {w0 w' : World} {P B : Nat} (h : w0.grownBy w' (some P)) (hB : B ≤ P) (hB2 : B ≤ w0.heap.size) : Below B w0 w' :=
  ⟨h.os, h.tape, h.output, h.size, fun k hk => h.block k (by omega) (by intro e; injection e with e; omega)⟩
theorem gb_blk {w0 w' : World} {P b : Nat} {cs : Array Value} {T : TypeId} (h : w0.grownBy w' (some P)) (hx : Blk w0 b cs T) (hne : b ≠ P) : Blk w' b cs T :=
  hx.grown h (by intro e; injection e with e; exact hne e)

theorem ctxs_get (L : List CR) (i : Nat) (h : i < L.length) : (CR.ctxs L)[i]'(by simpa using h) = L[i].c := by simp

theorem meet_none (A : Option Addr) (k : Nat) (w : World) : Calls Try.prog 35 #[.slice A 0 k] w (CtxErr ⟨0, 0, 0, 0, []⟩ 1 w) := by
  go_enter Try.func35, Try.ntmps35
  go_wp2
  exact bodyPost_ret (v := .tuple #[cval ⟨0, 0, 0, 0, []⟩ none 0, .int .i64 1]) (by simp [results, Try.results35, go_sem]) rfl ⟨none, 0, rfl, Row.nil, by (repeat' (first | (with_reducible exact Below.refl _ _) | (with_reducible assumption) | (with_reducible refine below_drewN ?_ _) | (with_reducible refine Below.drew ?_) | (with_reducible refine Below.alloc ?_ ?_ _) | (with_reducible refine Below.setCell ?_ ?_ _) | (refine Below.trans ?_ (Below.mono (by assumption) ?_)) | go_size)), fun _ _ _ h => by cases h⟩

set_option maxHeartbeats 1000000 in
set_option maxRecDepth 100000 in
theorem meet_bad (L : List CR) (A : Option Addr) (k : Nat) (w : World) (hr : RowC w w.heap.size A L) (hl : L.length ≤ 9223372036854775807) (h0 : badL (CR.ctxs L) ≠ 0) :
    Calls Try.prog 35 #[.slice A L.length k] w (CtxErr ⟨0, 0, 0, 0, []⟩ (badL (CR.ctxs L)) w) := by
  have hpos : 0 < L.length := by
    rcases Nat.eq_zero_or_pos L.length with h | h
    · rw [List.eq_nil_of_length_eq_zero h] at h0; exact absurd rfl h0
    · exact h
  have hz : ((L.length : Int) == 0) = false := by simp only [beq_eq_false_iff_ne, ne_eq]; omega
  have HR := hid hr
  have HE := hid h0
  clear hr h0
  go_enter Try.func35, Try.ntmps35
  go_wp2
  obtain ⟨W0, hW0⟩ : ∃ W0 : World, W0 = w.alloc (.cells #[.int .i64 0, .int .i64 0, .int .i64 0, .int .i64 0, .slice none 0 0] 25) := ⟨_, rfl⟩
  rw [← hW0]
  have HB0 := hid (show Below w.heap.size w W0 by rw [hW0]; (repeat' (first | (with_reducible exact Below.refl _ _) | (with_reducible assumption) | (with_reducible refine below_drewN ?_ _) | (with_reducible refine Below.drew ?_) | (with_reducible refine Below.alloc ?_ ?_ _) | (with_reducible refine Below.setCell ?_ ?_ _) | (refine Below.trans ?_ (Below.mono (by assumption) ?_)) | go_size)))
  have HXR := hid (show Blk W0 w.heap.size #[.int .i64 0, .int .i64 0, .int .i64 0, .int .i64 0, .slice none 0 0] 25 by rw [hW0]; exact Blk.new _ _ _)
  clear hW0
  go_loopw [24] (fun s24 wr => ∃ i : Nat, i ≤ L.length ∧ s24 = .int .i64 i ∧ (∀ c ∈ (CR.ctxs L).take i, checkI c = 0) ∧ Below W0.heap.size W0 wr) (fun s24 _ => L.length - (intOf s24).toNat)
  case atStart => exact ⟨0, by omega, rfl, by simp, Below.refl _ _⟩
  case round =>
    obtain ⟨i, hi, rfl, hno, hbw⟩ := hrel
    by_cases hlt : i < L.length
    · obtain ⟨b, off, hA, hb, c0, c1, c2, c3, c4, rx, lx⟩ := (HR.out.step (Below.step' HB0.out hbw)).at_ hlt
      subst hA
      have HC := hid (fun w1 (hb1 : Below wr.heap.size wr w1) => check_any L[i].c L[i].A L[i].k w1 (rx.step hb1) lx)
      have htk := List.take_succ_eq_append_getElem (show i < (CR.ctxs L).length by simpa using hlt)
      rw [ctxs_get L i hlt] at htk
      have hbt := badL_take (show i < (CR.ctxs L).length by simpa using hlt) hno
      rw [ctxs_get L i hlt] at hbt
      have HXR1 := hid (HXR.out.step hbw)
      have HBW := hid hbw
      have HN := hid hno
      have HTK := hid htk
      have HBT := hid hbt
      clear hno hbw htk hbt rx
      generalize L[i] = x at *
      obtain ⟨⟨x0, x1, x2, x3, xl⟩, xA, xk⟩ := x
      simp only at c0 c1 c2 c3 c4
      simp only [cval] at HC
      obtain ⟨I, hI⟩ : ∃ I, I = checkI ⟨x0, x1, x2, x3, xl⟩ := ⟨_, rfl⟩
      rw [← hI] at HC
      have HI := hid hI
      clear hI
      by_cases q : I = 0
      · subst q
        go_wp2_with fail
        refine (HC.out _ ((Below.refl _ _).alloc (Nat.le_refl _) _)).mono ?_
        rintro e w1 ⟨rfl, hb1⟩
        have HB1 := hid (show Below wr.heap.size wr w1 from (by refine Below.step' ?_ hb1; (repeat' (first | (with_reducible exact Below.refl _ _) | (with_reducible assumption) | (with_reducible refine below_drewN ?_ _) | (with_reducible refine Below.drew ?_) | (with_reducible refine Below.alloc ?_ ?_ _) | (with_reducible refine Below.setCell ?_ ?_ _) | (refine Below.trans ?_ (Below.mono (by assumption) ?_)) | go_size))))
        clear hb1 c0 c1 c2 c3 c4
        go_wp2
        go_roundw
        case rel =>
          refine ⟨i + 1, by omega, by go_num, fun c hc => ?_, Below.step' HBW.out HB1.out⟩
          rw [HTK.out, List.mem_append, List.mem_singleton] at hc
          rcases hc with hc | rfl
          · exact HN.out c hc
          · exact HI.out.symm
        case measure => simp [intOf]; omega
      · have q2 : (I != 0) = true := by simpa using q
        have q3 : badL (CR.ctxs L) = I := (HBT.out (by rw [← HI.out]; exact q)).trans HI.out.symm
        have HQ := hid q3
        clear q q3
        go_wp2_with fail
        refine (HC.out _ ((Below.refl _ _).alloc (Nat.le_refl _) _)).mono ?_
        rintro e w1 ⟨rfl, hb1⟩
        have hB1 : Below wr.heap.size wr w1 := (by refine Below.step' ?_ hb1; (repeat' (first | (with_reducible exact Below.refl _ _) | (with_reducible assumption) | (with_reducible refine below_drewN ?_ _) | (with_reducible refine Below.drew ?_) | (with_reducible refine Below.alloc ?_ ?_ _) | (with_reducible refine Below.setCell ?_ ?_ _) | (refine Below.trans ?_ (Below.mono (by assumption) ?_)) | go_size)))
        have hR := HXR1.out.step hB1
        have hsz := HXR.out.lt
        obtain ⟨⟨cr0, cr1, cr2, cr3, cr4⟩, fr0, fr1, fr2, fr3, fr4⟩ := hR.five
        have HR5 := hid (Blk.set5 hR (.int .i64 0) (.int .i64 0) (.int .i64 0) (.int .i64 0) (.slice none 0 0))
        have HB5 := hid (Below.set5 (Below.step' (Below.step' HB0.out HBW.out) hB1) (Nat.le_refl _) (.int .i64 0) (.int .i64 0) (.int .i64 0) (.int .i64 0) (.slice none 0 0))
        clear hb1 hB1 hR c0 c1 c2 c3 c4
        go_wp2
        obtain ⟨⟨q0, q1, q2, q3, q4⟩, -⟩ := HR5.out.five
        exact bodyPost_ret (v := .tuple #[cval ⟨0, 0, 0, 0, []⟩ none 0, .int .i64 I]) (by simp [results, Try.results35, go_sem, q0, q1, q2, q3, q4]) rfl ⟨none, 0, by rw [HQ.out], Row.nil, HB5.out, fun _ _ _ h => by cases h⟩
    · exact absurd (badL_zero.2 (fun c hc => hno c (by rw [List.take_of_length_le (by simp; omega)]; exact hc))) HE.out
end Go.Proofs.Ytogegnikpjcpdaa
