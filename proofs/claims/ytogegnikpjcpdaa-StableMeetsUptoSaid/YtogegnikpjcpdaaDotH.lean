/- Contracts of slices.Equal at Dot, viewref.SameContext. -/
import Derived.Test.YtogegnikpjcpdaaDotG
namespace Go.Proofs.Ytogegnikpjcpdaa
set_option linter.unusedVariables false
open Go.ChangeShapes Go.WideShapes Go.ChangeAt Go.RowKit

theorem neq_dot (a b c d : Int) (w : World) : (binOp .neq 27 (.agg #[.int .i64 a, .int .i64 b]) (.agg #[.int .i64 c, .int .i64 d])).run Try.prog w = .ok (.bool (!(a == c && b == d))) w := by
  have h1 := under_dot
  have h2 := stood_dot
  simp only [run_neq_struct, run_equalIn_agg _ _ _ _ _ h1 h2]
  simp [go_sem]
  by_cases ha : a = c <;> by_cases hb : b = d <;> simp [ha, hb, go_sem]

set_option maxHeartbeats 400000 in
set_option maxRecDepth 100000 in
theorem equal_any (l m : List (Int × Int)) (A B : Option Addr) (c e : Nat) (w : World) (hr : Row w w.heap.size A (dcells l)) (hs : Row w w.heap.size B (dcells m)) (hl : l.length ≤ 9223372036854775807) (hm : m.length ≤ 9223372036854775807) :
    Calls Try.prog 34 #[.slice A l.length c, .slice B m.length e] w fun e w' => e = .returned (.bool (decide (l = m))) ∧ Below w.heap.size w w' := by
  have HR := hid hr
  have HS := hid hs
  clear hr hs
  by_cases hlen : l.length = m.length
  · have hne : ((l.length : Int) != (m.length : Int)) = false := by simp [hlen]
    have HL := hid hlen
    clear hlen
    go_enter Try.func34, Try.ntmps34
    go_wp2
    go_loopw [13] (fun i wr => (∃ k : Nat, k ≤ l.length ∧ i = .int .i64 k ∧ ∀ j (h : j < l.length) (h' : j < m.length), j < k → l[j] = m[j]) ∧ Below w.heap.size w wr) (fun i _ => l.length - (intOf i).toNat)
    case atStart => exact ⟨⟨0, by omega, rfl, fun j _ _ h => absurd h (by omega)⟩, Below.refl _ _⟩
    case round =>
      obtain ⟨⟨k, hk, rfl, hno⟩, hbw⟩ := hrel
      by_cases hlt : k < l.length
      · have hlt' : k < m.length := by have := HL.out; omega
        obtain ⟨b, off, rfl, hb, h0, h1⟩ := (HR.out.below hbw (Nat.le_refl _)).dot hlt
        obtain ⟨b', off', rfl, hb', h0', h1'⟩ := (HS.out.below hbw (Nat.le_refl _)).dot hlt'
        have HN := hid hno
        have HB := hid hbw
        clear hno hbw
        generalize hd : l[k] = d at *
        generalize hd' : m[k] = d' at *
        obtain ⟨d0, d1⟩ := d
        obtain ⟨f0, f1⟩ := d'
        have HD := hid hd
        have HD' := hid hd'
        clear hd hd'
        simp only at h0 h1 h0' h1'
        have g1 := guard_dot
        have g2 := neq_dot
        go_wp2
        refine wp_region_quiet_lit (by kernel_rfl) (by kernel_rfl) ?_
        repeat (any_goals ((with_reducible refine wpQuiet_step (fun K hK => ?_)); go_simp; first | (with_reducible refine hK _ ?_; clear hK K) | ((with_reducible apply Exists.intro); (with_reducible refine ⟨fun _ => ?_, hK _ ?_⟩); (fail); clear hK K) | ((with_reducible refine (if_neg ?_).mpr (hK _ ?_)); (decide); clear hK K) | (split <;> (with_reducible refine hK _ ?_; clear hK K))))
        all_goals ((with_reducible refine wpQuiet_nil ?_); intro _ hw'; obtain ⟨nq, hw''⟩ := hw'; subst hw'')
        go_wp2
        · have ht : (!d0 == f0) = true ∨ (!d1 == f1) = true := by assumption
          go_ret
          refine ⟨ret_bool ?_, below_drewN HB.out _⟩
          symm
          rw [decide_eq_false_iff_not]
          rintro rfl
          have e := HD.out.symm.trans HD'.out
          injection e with e0 e1
          subst e0 e1
          simp at ht
        · have ht : (!d0 == f0) = false ∧ (!d1 == f1) = false := by assumption
          go_roundw
          case rel =>
            refine ⟨⟨k + 1, by omega, by go_num, fun j h h' hj => ?_⟩, below_drewN HB.out _⟩
            by_cases e : j = k
            · subst e; rw [HD.out, HD'.out]; ext <;> simp_all
            · exact HN.out j h h' (by omega)
          case measure => simp [intOf]; omega
      · go_wp2
        go_ret
        refine ⟨ret_bool ?_, hbw⟩
        have : l = m := List.ext_getElem HL.out fun j h h' => hno j h h' (by omega)
        simp [this]
  · have hne : ((l.length : Int) != (m.length : Int)) = true := by simp; omega
    go_enter Try.func34, Try.ntmps34
    go_wp2
    go_ret
    exact ⟨ret_bool (by symm; simp; rintro rfl; exact hlen rfl), Below.refl _ _⟩

set_option maxRecDepth 100000 in
theorem equalIn_clk (a b c d a' b' c' d' : Int) (w : World) : (Op.equalIn 10000 22 (.agg #[.int .i64 a, .int .i64 b, .int .i64 c, .int .i64 d]) (.agg #[.int .i64 a', .int .i64 b', .int .i64 c', .int .i64 d'])).run Try.prog w = .ok (a == a' && b == b' && c == c' && d == d') w := by
  rw [show (10000 : Nat) = 9998 + 1 + 1 from rfl, Op.equalIn.eq_2]
  have hu := Try.underlying22
  have hs : ∀ w, (Go.sizeOf 3).run Try.prog w = .ok 1 w := fun _ => by kernel_rfl
  simp [run_underlying hu, hs]
  have hp : ∀ (x0 x1 x2 x3 : Int) w, (part 3 #[.int .i64 x0, .int .i64 x1, .int .i64 x2, .int .i64 x3] 0).run Try.prog w = .ok (.int .i64 x0) w ∧ (part 3 #[.int .i64 x0, .int .i64 x1, .int .i64 x2, .int .i64 x3] 1).run Try.prog w = .ok (.int .i64 x1) w ∧
      (part 3 #[.int .i64 x0, .int .i64 x1, .int .i64 x2, .int .i64 x3] 2).run Try.prog w = .ok (.int .i64 x2) w ∧ (part 3 #[.int .i64 x0, .int .i64 x1, .int .i64 x2, .int .i64 x3] 3).run Try.prog w = .ok (.int .i64 x3) w := fun _ _ _ _ _ => ⟨by kernel_rfl, by kernel_rfl, by kernel_rfl, by kernel_rfl⟩
  have he : ∀ (x y : Int) w, (Op.equalIn 9999 3 (.int .i64 x) (.int .i64 y)).run Try.prog w = .ok (x == y) w := fun x y w => run_equalIn_int w 9998 3 .i64 .i64 x y Try.underlying3
  simp only [List.range', List.forIn_cons, List.forIn_nil, Sem.run_bind, hp, he, Result.andThen_ok]
  by_cases ha : a = a' <;> by_cases hb : b = b' <;> by_cases hc : c = c' <;> by_cases hd : d = d' <;> simp [ha, hb, hc, hd, hp, he, Sem.run_bind]

theorem eql_clk (a b c d a' b' c' d' : Int) (w : World) : (binOp .eql 22 (.agg #[.int .i64 a, .int .i64 b, .int .i64 c, .int .i64 d]) (.agg #[.int .i64 a', .int .i64 b', .int .i64 c', .int .i64 d'])).run Try.prog w = .ok (.bool (a == a' && b == b' && c == c' && d == d')) w := by
  simp only [run_eql_struct, equalIn_clk, Result.andThen_ok]
theorem guard_clk : Try.prog.eqGuardType Try.prog.depth 22 = false := by kernel_rfl

def sameB (a b : Ctx) : Bool := (a.c0 == b.c0 && a.c1 == b.c1 && a.c2 == b.c2 && a.c3 == b.c3) && decide (a.cloud = b.cloud)
theorem sameB_iff (a b : Ctx) : sameB a b = true ↔ a = b := by
  cases a; cases b; simp [sameB, and_assoc]

set_option maxHeartbeats 400000 in
set_option maxRecDepth 100000 in
theorem same_ints (a0 a1 a2 a3 b0 b1 b2 b3 : Int) (l m : List (Int × Int)) (A B : Option Addr) (c e : Nat) (w : World) (hr : Row w w.heap.size A (dcells l)) (hs : Row w w.heap.size B (dcells m)) (hl : l.length ≤ 9223372036854775807) (hm : m.length ≤ 9223372036854775807) :
    Calls Try.prog 27 #[.agg #[.int .i64 a0, .int .i64 a1, .int .i64 a2, .int .i64 a3, .slice A l.length c], .agg #[.int .i64 b0, .int .i64 b1, .int .i64 b2, .int .i64 b3, .slice B m.length e]] w
      fun e w' => e = .returned (.bool (sameB ⟨a0, a1, a2, a3, l⟩ ⟨b0, b1, b2, b3, m⟩)) ∧ Below w.heap.size w w' := by
  have H : ∀ w1, Below w.heap.size w w1 → Calls Try.prog 34 #[.slice A l.length c, .slice B m.length e] w1 fun e w' => e = .returned (.bool (decide (l = m))) ∧ Below w1.heap.size w1 w' :=
    fun w1 hb => equal_any l m A B c e w1 ((hr.below hb (Nat.le_refl _)).more hb.size) ((hs.below hb (Nat.le_refl _)).more hb.size) hl hm
  have HC := hid H
  clear H hr hs
  have g1 := guard_clk
  have g2 := eql_clk
  cases hc : (a0 == b0 && a1 == b1 && a2 == b2 && a3 == b3)
  all_goals
    go_enter Try.func27, Try.ntmps27
    go_wp2_with (go_at_call 34; refine (HC.out _ ?_).mono ?_; rotate_left; ((repeat' (first | (with_reducible exact Below.refl _ _) | (with_reducible assumption) | (with_reducible refine below_drewN ?_ _) | (with_reducible refine Below.drew ?_) | (with_reducible refine Below.alloc ?_ ?_ _) | (with_reducible refine Below.setCell ?_ ?_ _) | (refine Below.trans ?_ (Below.mono (by assumption) ?_)) | go_size))); rintro e w' ⟨rfl, hb⟩)
    all_goals go_ret
    all_goals exact ⟨ret_bool (by simp only [sameB, hc, Bool.false_and, Bool.true_and]), by (repeat' (first | (with_reducible exact Below.refl _ _) | (with_reducible assumption) | (with_reducible refine below_drewN ?_ _) | (with_reducible refine Below.drew ?_) | (with_reducible refine Below.alloc ?_ ?_ _) | (with_reducible refine Below.setCell ?_ ?_ _) | (refine Below.trans ?_ (Below.mono (by assumption) ?_)) | go_size))⟩
end Go.Proofs.Ytogegnikpjcpdaa
