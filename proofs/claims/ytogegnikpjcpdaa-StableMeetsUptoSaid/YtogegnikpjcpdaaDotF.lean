/- Contract of viewref.Has. -/
import Derived.Test.YtogegnikpjcpdaaDotE
namespace Go.Proofs.Ytogegnikpjcpdaa
set_option linter.unusedVariables false
open Go.ChangeShapes Go.WideShapes Go.ChangeAt Go.RowKit

theorem hasB_mem {c : Ctx} {n s : Int} (h : (n, s) ∈ c.cloud) : hasB c (n, s) = true := by simp [hasB, Ctx.has, h]
theorem hasB_notin {c : Ctx} {n s : Int} (h : (n, s) ∉ c.cloud) : hasB c (n, s) = (inB n 0 3 && decide (1 ≤ s) && decide (s ≤ c.at_ n)) := by
  rw [Bool.eq_iff_iff]
  simp [hasB, Ctx.has, h, inB]
  omega

set_option maxHeartbeats 1000000 in
set_option maxRecDepth 100000 in
theorem Rhas_ints (c0 c1 c2 c3 : Int) (l : List (Int × Int)) (n s : Int) (A : Option Addr) (k0 : Nat) (w : World) (hr : Row w w.heap.size A (dcells l)) (hl : l.length ≤ 9223372036854775807) :
    Calls Try.prog 26 #[.agg #[.int .i64 c0, .int .i64 c1, .int .i64 c2, .int .i64 c3, .slice A l.length k0], .agg #[.int .i64 n, .int .i64 s]] w fun e w' => e = .returned (.bool (hasB ⟨c0, c1, c2, c3, l⟩ (n, s))) ∧ Below w.heap.size w w' := by
  have HR := hid hr
  clear hr
  go_enter Try.func26, Try.ntmps26
  go_wp2
  go_loopw [5] (fun i wr => (∃ k : Nat, k ≤ l.length ∧ i = .int .i64 k ∧ ∀ j (h : j < l.length), j < k → l[j] ≠ (n, s)) ∧ Below (w.heap.size + 1 + 1) ((w.alloc (.cells #[.int .i64 c0, .int .i64 c1, .int .i64 c2, .int .i64 c3, .slice A l.length k0] 25)).alloc (.cells #[.int .i64 n, .int .i64 s] 27)) wr) (fun i _ => l.length - (intOf i).toNat)
  case atStart => exact ⟨⟨0, by omega, rfl, fun j _ h => absurd h (by omega)⟩, by (repeat' (first | (with_reducible exact Below.refl _ _) | (with_reducible assumption) | (with_reducible refine below_drewN ?_ _) | (with_reducible refine Below.drew ?_) | (with_reducible refine Below.alloc ?_ ?_ _) | (with_reducible refine Below.setCell ?_ ?_ _) | (refine Below.trans ?_ (Below.mono (by assumption) ?_)) | go_size))⟩
  case round =>
    obtain ⟨⟨k, hk, rfl, hno⟩, hbw⟩ := hrel
    have hB := (bcell hbw).1
    have e0 : wr.cell? ⟨w.heap.size, 4, none⟩ = some (.slice A l.length k0) := by rw [hB _ _ (by omega)]; simp [go_sem]
    have e1 : wr.cell? ⟨w.heap.size + 1, 0, none⟩ = some (.int .i64 n) := by rw [hB _ _ (by omega)]; simp [go_sem]
    have e2 : wr.cell? ⟨w.heap.size + 1, 1, none⟩ = some (.int .i64 s) := by rw [hB _ _ (by omega)]; simp [go_sem]
    have hW : Below w.heap.size w wr := Below.trans (b := (w.alloc _).alloc _) (by (repeat' (first | (with_reducible exact Below.refl _ _) | (with_reducible assumption) | (with_reducible refine below_drewN ?_ _) | (with_reducible refine Below.drew ?_) | (with_reducible refine Below.alloc ?_ ?_ _) | (with_reducible refine Below.setCell ?_ ?_ _) | (refine Below.trans ?_ (Below.mono (by assumption) ?_)) | go_size))) (hbw.mono (by omega))
    have ec : 0 ≤ n → n < 4 → wr.cell? ⟨w.heap.size, n.toNat, none⟩ = some (.int .i64 (Ctx.at_ ⟨c0, c1, c2, c3, l⟩ n)) := by
      intro q0 q4
      rw [hB _ _ (by omega)]
      rcases (by omega : n = 0 ∨ n = 1 ∨ n = 2 ∨ n = 3) with h | h | h | h <;> subst h <;> simp [go_sem, Ctx.at_]
    have hs1 : w.heap.size + 1 < wr.heap.size := by have := hbw.size; simp at this; omega
    have hs0 : w.heap.size < wr.heap.size := by omega
    have HB := hid hbw
    have HN := hid hno
    have HW := hid hW
    clear hB hbw hno
    have g1 := guard_dot
    have g2 := eql_dot
    by_cases hlt : k < l.length
    · obtain ⟨b, off, rfl, hb, h0, h1⟩ := (HR.out.below hW (Nat.le_refl _)).dot hlt
      clear hW ec
      generalize hd : l[k] = d at *
      obtain ⟨d0, d1⟩ := d
      have HD := hid hd
      clear hd
      simp only at h0 h1
      go_wp2
      refine wp_region_quiet_lit (by kernel_rfl) (by kernel_rfl) ?_
      repeat (any_goals ((with_reducible refine wpQuiet_step (fun K hK => ?_)); go_simp; first | (with_reducible refine hK _ ?_; clear hK K) | ((with_reducible apply Exists.intro); (with_reducible refine ⟨fun _ => ?_, hK _ ?_⟩); (fail); clear hK K) | ((with_reducible refine (if_neg ?_).mpr (hK _ ?_)); (decide); clear hK K) | (split <;> (with_reducible refine hK _ ?_; clear hK K))))
      all_goals ((with_reducible refine wpQuiet_nil ?_); intro _ hw'; obtain ⟨nq, hw''⟩ := hw'; subst hw'')
      go_wp2
      · have ht : (d0 == n) = true ∧ (d1 == s) = true := by assumption
        go_ret
        have e : (n, s) = l[k] := by rw [HD.out]; ext <;> simp_all
        refine ⟨ret_bool (hasB_mem (c := ⟨c0, c1, c2, c3, l⟩) (by rw [e]; exact List.getElem_mem _)).symm, ?_⟩
        have hW := HW.out
        (repeat' (first | (with_reducible exact Below.refl _ _) | (with_reducible assumption) | (with_reducible refine below_drewN ?_ _) | (with_reducible refine Below.drew ?_) | (with_reducible refine Below.alloc ?_ ?_ _) | (with_reducible refine Below.setCell ?_ ?_ _) | (refine Below.trans ?_ (Below.mono (by assumption) ?_)) | go_size))
      · have ht : (d0 == n) = false ∨ (d1 == s) = false := by assumption
        go_roundw
        case rel =>
          refine ⟨⟨k + 1, by omega, by go_num, fun j h hj => ?_⟩, below_drewN HB.out _⟩
          by_cases e : j = k
          · subst e; intro h2; rw [HD.out] at h2; injection h2 with h3 h4; subst h3 h4; simp at ht
          · exact HN.out j h (by omega)
        case measure => simp [intOf]; omega
    · clear hW
      by_cases hi : inB n 0 3 = true
      · have hn : 0 ≤ n ∧ n ≤ 3 := by simpa [inB] using hi
        obtain ⟨hn0, hn3⟩ := hn
        have ec1 := ec hn0 (by omega)
        have m1 : (if (3 : Int) < n then 3 else n) = n := if_neg (by omega)
        have m2 : (if (0 : Int) < n then n else 0) = n := by split <;> omega
        have m3 : n < 4 := by omega
        clear ec
        go_wp2
        refine region_ext (by kernel_rfl) (by kernel_rfl) (fun hext => ?_)
        repeat (any_goals ((with_reducible refine wpQuiet_step (fun K hK => ?_)); go_simp; first | (with_reducible refine hK _ ?_; clear hK K) | ((with_reducible apply Exists.intro); (with_reducible refine ⟨fun _ => ?_, hK _ ?_⟩); (first | (go_at_call 21; exact ext_call_same _ (in_any _ _ _ _))); clear hK K) | ((with_reducible refine (if_neg ?_).mpr (hK _ ?_)); (decide); clear hK K) | (split <;> (with_reducible refine hK _ ?_; clear hK K))))
        all_goals ((with_reducible refine wpQuiet_nil ?_); clear hext; intro w1 hx1; have hb1 := ext_below hx1; clear hx1)
        go_wp2
        all_goals go_ret
        all_goals
          have hni : (n, s) ∉ l := by
            intro hm
            obtain ⟨j, hj, e⟩ := List.getElem_of_mem hm
            exact HN.out j hj (by omega) e
          have hW := HW.out
        · have h1s : 1 ≤ s := by omega
          exact ⟨ret_bool (by rw [hasB_notin (c := ⟨c0, c1, c2, c3, l⟩) hni, hi]; simp [h1s]), by (repeat' (first | (with_reducible exact Below.refl _ _) | (with_reducible assumption) | (with_reducible refine below_drewN ?_ _) | (with_reducible refine Below.drew ?_) | (with_reducible refine Below.alloc ?_ ?_ _) | (with_reducible refine Below.setCell ?_ ?_ _) | (refine Below.trans ?_ (Below.mono (by assumption) ?_)) | go_size))⟩
        · have h1s : ¬ 1 ≤ s := by omega
          exact ⟨ret_bool (by rw [hasB_notin (c := ⟨c0, c1, c2, c3, l⟩) hni, hi]; simp [h1s]), by (repeat' (first | (with_reducible exact Below.refl _ _) | (with_reducible assumption) | (with_reducible refine below_drewN ?_ _) | (with_reducible refine Below.drew ?_) | (with_reducible refine Below.alloc ?_ ?_ _) | (with_reducible refine Below.setCell ?_ ?_ _) | (refine Below.trans ?_ (Below.mono (by assumption) ?_)) | go_size))⟩
      · have hi' : inB n 0 3 = false := by simpa using hi
        clear ec hi
        go_wp2
        refine region_ext (by kernel_rfl) (by kernel_rfl) (fun hext => ?_)
        repeat (any_goals ((with_reducible refine wpQuiet_step (fun K hK => ?_)); go_simp; first | (with_reducible refine hK _ ?_; clear hK K) | ((with_reducible apply Exists.intro); (with_reducible refine ⟨fun _ => ?_, hK _ ?_⟩); (first | (go_at_call 21; exact ext_call_same _ (in_any _ _ _ _))); clear hK K) | ((with_reducible refine (if_neg ?_).mpr (hK _ ?_)); (decide); clear hK K) | (split <;> (with_reducible refine hK _ ?_; clear hK K))))
        all_goals ((with_reducible refine wpQuiet_nil ?_); clear hext; intro w1 hx1; have hb1 := ext_below hx1; clear hx1)
        go_wp2
        go_ret
        have hni : (n, s) ∉ l := by
          intro hm
          obtain ⟨j, hj, e⟩ := List.getElem_of_mem hm
          exact HN.out j hj (by omega) e
        refine ⟨ret_bool (by rw [hasB_notin (c := ⟨c0, c1, c2, c3, l⟩) hni, hi']; simp), ?_⟩
        have hW := HW.out
        (repeat' (first | (with_reducible exact Below.refl _ _) | (with_reducible assumption) | (with_reducible refine below_drewN ?_ _) | (with_reducible refine Below.drew ?_) | (with_reducible refine Below.alloc ?_ ?_ _) | (with_reducible refine Below.setCell ?_ ?_ _) | (refine Below.trans ?_ (Below.mono (by assumption) ?_)) | go_size))

theorem Rhas_any (c : Ctx) (d : Int × Int) (A : Option Addr) (k : Nat) (w : World) (hr : Row w w.heap.size A (dcells c.cloud)) (hl : c.cloud.length ≤ 9223372036854775807) :
    Calls Try.prog 26 #[cval c A k, dval d] w fun e w' => e = .returned (.bool (hasB c d)) ∧ Below w.heap.size w w' :=
  Rhas_ints c.c0 c.c1 c.c2 c.c3 c.cloud d.1 d.2 A k w hr hl
end Go.Proofs.Ytogegnikpjcpdaa
