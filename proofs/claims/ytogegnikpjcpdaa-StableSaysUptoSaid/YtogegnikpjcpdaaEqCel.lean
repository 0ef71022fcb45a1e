/- slices.Equal at Cell. -/
import Derived.Test.YtogegnikpjcpdaaFlat
namespace Go.Proofs.Ytogegnikpjcpdaa
set_option linter.unusedVariables false
open Go.ChangeShapes Go.WideShapes Go.ChangeAt Go.RowKit

theorem under_cel : Try.prog.underlying 62 = some (.struct (Try.prog.fieldsOf 62)) := by kernel_rfl
theorem stood_cel : Try.prog.stoodInHeld 62 = false := by kernel_rfl
theorem guard_cel : Try.prog.eqGuardType Try.prog.depth 62 = false := by kernel_rfl
theorem neq_cel (a b c d e a' b' c' d' e' : Int) (w : World) : (binOp .neq 62 (.agg #[.int .i64 a, .int .i64 b, .int .i64 c, .int .i64 d, .int .i64 e]) (.agg #[.int .i64 a', .int .i64 b', .int .i64 c', .int .i64 d', .int .i64 e'])).run Try.prog w = .ok (.bool (!(a == a' && b == b' && c == c' && d == d' && e == e'))) w := by
  have h1 := under_cel
  have h2 := stood_cel
  have h3 := under_dot
  have h4 := stood_dot
  simp only [run_neq_struct, run_equalIn_agg _ _ _ _ _ h1 h2]
  simp [go_sem]
  by_cases ha : a = a' <;> by_cases hb : b = b' <;> by_cases hc : c = c' <;> by_cases hd : d = d' <;> by_cases he : e = e' <;> simp [ha, hb, hc, hd, he]
theorem eql_cel (a b c d e a' b' c' d' e' : Int) (w : World) : (binOp .eql 62 (.agg #[.int .i64 a, .int .i64 b, .int .i64 c, .int .i64 d, .int .i64 e]) (.agg #[.int .i64 a', .int .i64 b', .int .i64 c', .int .i64 d', .int .i64 e'])).run Try.prog w = .ok (.bool (a == a' && b == b' && c == c' && d == d' && e == e')) w := by
  have h1 := under_cel
  have h2 := stood_cel
  have h3 := under_dot
  have h4 := stood_dot
  simp only [run_eql_struct, run_equalIn_agg _ _ _ _ _ h1 h2]
  simp [go_sem]
  by_cases ha : a = a' <;> by_cases hb : b = b' <;> by_cases hc : c = c' <;> by_cases hd : d = d' <;> by_cases he : e = e' <;> simp [ha, hb, hc, hd, he]
theorem cel_eq (a b c d e a' b' c' d' e' : Int) : (a == a' && b == b' && c == c' && d == d' && e == e') = decide ((⟨(a, b), c, d, e⟩ : Cel) = ⟨(a', b'), c', d', e'⟩) := by
  rw [Bool.eq_iff_iff]
  simp [and_assoc]

set_option maxHeartbeats 400000 in
set_option maxRecDepth 100000 in
theorem equalT_any (l m : List Cel) (A B : Option Addr) (c e : Nat) (w : World) (hr : Row w w.heap.size A (tcells l)) (hs : Row w w.heap.size B (tcells m)) (hl : l.length ≤ 9223372036854775807) (hm : m.length ≤ 9223372036854775807) :
    Calls Try.prog 42 #[.slice A l.length c, .slice B m.length e] w fun e w' => e = .returned (.bool (decide (l = m))) ∧ Below w.heap.size w w' := by
  have HR := hid hr
  have HS := hid hs
  clear hr hs
  by_cases hlen : l.length = m.length
  · have hne : ((l.length : Int) != (m.length : Int)) = false := by simp [hlen]
    have HL := hid hlen
    clear hlen
    go_enter Try.func42, Try.ntmps42
    go_wp2
    go_loopw [13] (fun i wr => (∃ k : Nat, k ≤ l.length ∧ i = .int .i64 k ∧ ∀ j (h : j < l.length) (h' : j < m.length), j < k → l[j] = m[j]) ∧ Below w.heap.size w wr) (fun i _ => l.length - (intOf i).toNat)
    case atStart => exact ⟨⟨0, by omega, rfl, fun j _ _ h => absurd h (by omega)⟩, Below.refl _ _⟩
    case round =>
      obtain ⟨⟨k, hk, rfl, hno⟩, hbw⟩ := hrel
      by_cases hlt : k < l.length
      · have hlt' : k < m.length := by have := HL.out; omega
        obtain ⟨b, off, rfl, hb, h0, h1, h2, h3, h4⟩ := (HR.out.below hbw (Nat.le_refl _)).cel hlt
        obtain ⟨b', off', rfl, hb', h0', h1', h2', h3', h4'⟩ := (HS.out.below hbw (Nat.le_refl _)).cel hlt'
        have HN := hid hno
        have HB := hid hbw
        clear hno hbw
        generalize hd : l[k] = d at *
        generalize hd' : m[k] = d' at *
        obtain ⟨⟨d0, d1⟩, d2, d3, d4⟩ := d
        obtain ⟨⟨f0, f1⟩, f2, f3, f4⟩ := d'
        have HD := hid hd
        have HD' := hid hd'
        clear hd hd'
        simp only at h0 h1 h2 h3 h4 h0' h1' h2' h3' h4'
        have g1 := guard_cel
        have g2 := fun w => neq_cel d0 d1 d2 d3 d4 f0 f1 f2 f3 f4 w
        have ce := cel_eq d0 d1 d2 d3 d4 f0 f1 f2 f3 f4
        rw [ce] at g2
        clear ce
        cases hq : decide ((⟨(d0, d1), d2, d3, d4⟩ : Cel) = ⟨(f0, f1), f2, f3, f4⟩)
        all_goals
          rw [hq] at g2
          have HQ := hid hq
          clear hq
          go_wp2
          refine wp_region_quiet_lit (by kernel_rfl) (by kernel_rfl) ?_
          repeat (any_goals ((with_reducible refine wpQuiet_step (fun K hK => ?_)); go_simp; first | (with_reducible refine hK _ ?_; clear hK K) | ((with_reducible apply Exists.intro); (with_reducible refine ⟨fun _ => ?_, hK _ ?_⟩); (fail); clear hK K) | ((with_reducible refine (if_neg ?_).mpr (hK _ ?_)); (decide); clear hK K) | (split <;> (with_reducible refine hK _ ?_; clear hK K))))
          all_goals ((with_reducible refine wpQuiet_nil ?_); intro _ hw'; obtain ⟨nq, hw''⟩ := hw'; subst hw'')
          go_wp2
        · go_ret
          refine ⟨ret_bool ?_, below_drewN HB.out _⟩
          symm
          rw [decide_eq_false_iff_not]
          rintro rfl
          exact (of_decide_eq_false HQ.out) (HD.out.symm.trans HD'.out)
        · go_roundw
          case rel =>
            refine ⟨⟨k + 1, by omega, by go_num, fun j h h' hj => ?_⟩, below_drewN HB.out _⟩
            by_cases e : j = k
            · subst e; rw [HD.out, HD'.out]; exact of_decide_eq_true HQ.out
            · exact HN.out j h h' (by omega)
          case measure => simp [intOf]; omega
      · go_wp2
        go_ret
        refine ⟨ret_bool ?_, hbw⟩
        have : l = m := List.ext_getElem HL.out fun j h h' => hno j h h' (by omega)
        simp [this]
  · have hne : ((l.length : Int) != (m.length : Int)) = true := by simp; omega
    go_enter Try.func42, Try.ntmps42
    go_wp2
    go_ret
    exact ⟨ret_bool (by symm; simp; rintro rfl; exact hlen rfl), Below.refl _ _⟩
end Go.Proofs.Ytogegnikpjcpdaa
