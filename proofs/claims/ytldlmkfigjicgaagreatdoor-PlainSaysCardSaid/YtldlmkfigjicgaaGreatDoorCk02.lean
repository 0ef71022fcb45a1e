/- DotE, DotF, DotG, DotH, Two -/
import Derived.Test.YtldlmkfigjicgaaGreatDoorCk01
import Derived.Shelf.Abstract
/- Contracts of viewref.Right, viewref.Before, viewref.Context. -/
namespace Go.Proofs.YtldlmkfigjicgaaGreatDoor
set_option linter.unusedVariables false
open Go.ChangeShapes Go.WideShapes Go.ChangeAt Go.RowKit

theorem rightB_in (n s : Int) : rightB n s = (inB n 0 3 && inB s 1 1099511627776) := by
  unfold rightB inB
  rw [Bool.eq_iff_iff]
  simp
  omega

theorem clkOk_in (n : Int) : clkOk n = inB n 0 1099511627776 := rfl

theorem clk_bad {c0 c1 c2 c3 : Int} (h : (!inB c0 0 1099511627776) = true ∨ (!inB c1 0 1099511627776) = true ∨ (!inB c2 0 1099511627776) = true ∨ (!inB c3 0 1099511627776) = true) :
    (clkOk c0 && clkOk c1 && clkOk c2 && clkOk c3) = false := by
  simp only [clkOk_in]
  simp only [Bool.not_eq_true'] at h
  rcases h with h | h | h | h <;> simp [h]
theorem clk_good {c0 c1 c2 c3 : Int} (h0 : (!inB c0 0 1099511627776) = false) (h1 : (!inB c1 0 1099511627776) = false) (h2 : (!inB c2 0 1099511627776) = false) (h3 : (!inB c3 0 1099511627776) = false) :
    (clkOk c0 && clkOk c1 && clkOk c2 && clkOk c3) = true := by
  simp only [clkOk_in]
  simp only [Bool.not_eq_false'] at h0 h1 h2 h3
  simp [h0, h1, h2, h3]
theorem inB_of {n lo hi : Int} (h : (!inB n lo hi) = false) : lo ≤ n ∧ n ≤ hi := by simpa [inB] using h

theorem Rright_any (n s : Int) (w : World) :
    Calls Tryz.prog 45 #[.agg #[.int .i64 n, .int .i64 s]] w fun e w' => e = .returned (.bool (rightB n s)) ∧ Below w.heap.size w w' := by
  have H := rightB_in n s
  have HR := hid H
  clear H
  cases h1 : inB n 0 3
  all_goals
    go_enter Tryz.func45, Tryz.ntmps45
    go_wp2_with (go_at_call 38; refine (in_any _ _ _ _).mono ?_; rintro e w' ⟨rfl, rfl⟩)
    go_ret
    exact ⟨ret_bool (by rw [HR.out, h1]; simp), by (repeat' (first | (with_reducible exact Below.refl _ _) | (with_reducible assumption) | (with_reducible refine below_drewN ?_ _) | (with_reducible refine Below.drew ?_) | (with_reducible refine Below.alloc ?_ ?_ _) | (with_reducible refine Below.setCell ?_ ?_ _) | (refine Below.trans ?_ (Below.mono (by assumption) ?_)) | go_size))⟩

theorem before_any (a0 a1 b0 b1 : Int) (w : World) :
    Calls Tryz.prog 47 #[.agg #[.int .i64 a0, .int .i64 a1], .agg #[.int .i64 b0, .int .i64 b1]] w fun e w' => e = .returned (.bool (before (a0, a1) (b0, b1))) ∧ Below w.heap.size w w' := by
  go_enter Tryz.func47, Tryz.ntmps47
  go_wp2
  all_goals go_ret
  all_goals (refine ⟨ret_bool ?_, by (repeat' (first | (with_reducible exact Below.refl _ _) | (with_reducible assumption) | (with_reducible refine below_drewN ?_ _) | (with_reducible refine Below.drew ?_) | (with_reducible refine Below.alloc ?_ ?_ _) | (with_reducible refine Below.setCell ?_ ?_ _) | (refine Below.trans ?_ (Below.mono (by assumption) ?_)) | go_size))⟩; unfold before; first | (simp [*]; done) | (simp [*]; omega) | (simp; omega))

set_option maxHeartbeats 1000000 in
set_option maxRecDepth 100000 in
theorem context_any (c : Ctx) (A : Option Addr) (k0 : Nat) (w : World) (hr : Row w w.heap.size A (dcells c.cloud)) (hl : c.cloud.length ≤ 9223372036854775807) :
    Calls Tryz.prog 44 #[cval c A k0] w fun e w' => e = .returned (.int .i64 (checkI c)) ∧ Below w.heap.size w w' := by
  obtain ⟨c0, c1, c2, c3, l⟩ := c
  have HR := hid hr
  clear hr
  simp only [cval] at *
  go_enter Tryz.func44, Tryz.ntmps44
  go_wp2
  refine wp_loop_rounds 5 ?_
  repeat any_goals (rw [rounds_succ]; go_wp2_with (go_at_call 38; refine (in_any _ _ _ _).mono ?_; rintro e w' ⟨rfl, rfl⟩))
  all_goals first
    | (have h := ‹(!inB c0 0 1099511627776) = true›; go_ret; refine ⟨ret_int (checkI_arg (c := ⟨c0, c1, c2, c3, l⟩) (clk_bad (.inl h))).symm, ?_⟩; (repeat' (first | (with_reducible exact Below.refl _ _) | (with_reducible assumption) | (with_reducible refine below_drewN ?_ _) | (with_reducible refine Below.drew ?_) | (with_reducible refine Below.alloc ?_ ?_ _) | (with_reducible refine Below.setCell ?_ ?_ _) | (refine Below.trans ?_ (Below.mono (by assumption) ?_)) | go_size)))
    | (have h := ‹(!inB c1 0 1099511627776) = true›; go_ret; refine ⟨ret_int (checkI_arg (c := ⟨c0, c1, c2, c3, l⟩) (clk_bad (.inr (.inl h)))).symm, ?_⟩; (repeat' (first | (with_reducible exact Below.refl _ _) | (with_reducible assumption) | (with_reducible refine below_drewN ?_ _) | (with_reducible refine Below.drew ?_) | (with_reducible refine Below.alloc ?_ ?_ _) | (with_reducible refine Below.setCell ?_ ?_ _) | (refine Below.trans ?_ (Below.mono (by assumption) ?_)) | go_size)))
    | (have h := ‹(!inB c2 0 1099511627776) = true›; go_ret; refine ⟨ret_int (checkI_arg (c := ⟨c0, c1, c2, c3, l⟩) (clk_bad (.inr (.inr (.inl h))))).symm, ?_⟩; (repeat' (first | (with_reducible exact Below.refl _ _) | (with_reducible assumption) | (with_reducible refine below_drewN ?_ _) | (with_reducible refine Below.drew ?_) | (with_reducible refine Below.alloc ?_ ?_ _) | (with_reducible refine Below.setCell ?_ ?_ _) | (refine Below.trans ?_ (Below.mono (by assumption) ?_)) | go_size)))
    | (have h := ‹(!inB c3 0 1099511627776) = true›; go_ret; refine ⟨ret_int (checkI_arg (c := ⟨c0, c1, c2, c3, l⟩) (clk_bad (.inr (.inr (.inr h))))).symm, ?_⟩; (repeat' (first | (with_reducible exact Below.refl _ _) | (with_reducible assumption) | (with_reducible refine below_drewN ?_ _) | (with_reducible refine Below.drew ?_) | (with_reducible refine Below.alloc ?_ ?_ _) | (with_reducible refine Below.setCell ?_ ?_ _) | (refine Below.trans ?_ (Below.mono (by assumption) ?_)) | go_size)))
    | (go_ret; refine ⟨ret_int (checkI_large (c := ⟨c0, c1, c2, c3, l⟩) (clk_good ‹_› ‹_› ‹_› ‹_›) ?_).symm, ?_⟩; (simp only; omega); (repeat' (first | (with_reducible exact Below.refl _ _) | (with_reducible assumption) | (with_reducible refine below_drewN ?_ _) | (with_reducible refine Below.drew ?_) | (with_reducible refine Below.alloc ?_ ?_ _) | (with_reducible refine Below.setCell ?_ ?_ _) | (refine Below.trans ?_ (Below.mono (by assumption) ?_)) | go_size)))
    | skip
  have hc : (clkOk c0 && clkOk c1 && clkOk c2 && clkOk c3) = true := clk_good ‹_› ‹_› ‹_› ‹_›
  have q0 := inB_of ‹(!inB c0 0 1099511627776) = false›
  have q1 := inB_of ‹(!inB c1 0 1099511627776) = false›
  have q2 := inB_of ‹(!inB c2 0 1099511627776) = false›
  have q3 := inB_of ‹(!inB c3 0 1099511627776) = false›
  have h4 : l.length ≤ 400 := by omega
  rw [‹(!inB c3 0 1099511627776) = false›]
  go_loopw [4] (fun i wr => (∃ k : Nat, k ≤ l.length ∧ i = .int .i64 k ∧ ∀ j, j < k → badAt ⟨c0, c1, c2, c3, l⟩ j = false) ∧ Below (w.heap.size + 1) (w.alloc (.cells #[.int .i64 c0, .int .i64 c1, .int .i64 c2, .int .i64 c3, .slice A l.length k0] 26)) wr) (fun i _ => l.length - (intOf i).toNat)
  case atStart => exact ⟨⟨0, by omega, rfl, fun j h => absurd h (by omega)⟩, by (repeat' (first | (with_reducible exact Below.refl _ _) | (with_reducible assumption) | (with_reducible refine below_drewN ?_ _) | (with_reducible refine Below.drew ?_) | (with_reducible refine Below.alloc ?_ ?_ _) | (with_reducible refine Below.setCell ?_ ?_ _) | (refine Below.trans ?_ (Below.mono (by assumption) ?_)) | go_size))⟩
  case round =>
    obtain ⟨⟨k, hk, rfl, hno⟩, hbw⟩ := hrel
    by_cases hlt : k < l.length
    · have hr1 := HR.out.later hbw
      have hsz := size_later hbw
      obtain ⟨b, off, rfl, hb, h0, h1⟩ := hr1.dot hlt
      have hp : 0 < k → ∃ p : Int × Int, l.getD (k - 1) (0, 0) = p ∧ wr.cell? ⟨b, off + (k - 1) * 2, none⟩ = some (.int .i64 p.1) ∧ wr.cell? ⟨b, off + (k - 1) * 2 + 1, none⟩ = some (.int .i64 p.2) := by
        intro hm
        obtain ⟨b', off', he, hb', h0', h1'⟩ := hr1.dot (k := k - 1) (by omega)
        injection he with he
        injection he with he1 he2
        subst he1 he2
        exact ⟨l[k - 1], by simp [List.getD, show k - 1 < l.length by omega], h0', h1'⟩
      have hB := (bcell hbw).1
      have e0 : wr.cell? ⟨w.heap.size, 4, none⟩ = some (.slice (some ⟨b, off, none⟩) l.length k0) := by rw [hB _ _ (by omega)]; simp [go_sem]
      have ec : 0 ≤ (l[k]).1 → (l[k]).1 < 4 → wr.cell? ⟨w.heap.size, (l[k]).1.toNat, none⟩ = some (.int .i64 (Ctx.at_ ⟨c0, c1, c2, c3, l⟩ (l[k]).1)) := by
        intro q0 q4
        rw [hB _ _ (by omega)]
        rcases (by omega : (l[k]).1 = 0 ∨ (l[k]).1 = 1 ∨ (l[k]).1 = 2 ∨ (l[k]).1 = 3) with h | h | h | h <;> simp [h, go_sem, Ctx.at_]
      have hgd : l.getD k (0, 0) = l[k] := by simp [List.getD, hlt]
      have hbad : badAt ⟨c0, c1, c2, c3, l⟩ k = (!rightB (l[k]).1 (l[k]).2 || (decide (0 < k) && !before (l.getD (k - 1) (0, 0)) l[k]) || decide ((l[k]).2 ≤ Ctx.at_ ⟨c0, c1, c2, c3, l⟩ (l[k]).1 + 1)) := by
        simp only [badAt, hgd]
      have HBAD := hid hbad
      have HN := hid hno
      have HB := hid hbw
      clear hgd hbad hno hbw hr1 hB
      generalize l[k] = d at *
      obtain ⟨d0, d1⟩ := d
      simp only at *
      have hne : (b = wr.heap.size) = False := by simp; omega
      have hne2 : (w.heap.size = wr.heap.size) = False := by simp; omega
      have hb1 : b < wr.heap.size + 1 := by omega
      have hb2 : b < wr.heap.size := by omega
      have hw1 : w.heap.size < wr.heap.size + 1 := by omega
      cases hright : rightB d0 d1
      · clear hp
        go_wp2
        refine region_ext (by kernel_rfl) (by kernel_rfl) (fun hext => ?_)
        repeat (any_goals ((with_reducible refine wpQuiet_step (fun K hK => ?_)); go_simp; first | (with_reducible refine hK _ ?_; clear hK K) | ((with_reducible apply Exists.intro); (with_reducible refine ⟨fun _ => ?_, hK _ ?_⟩); (first | (go_at_call 45; exact ext_call _ (by simp) (Rright_any _ _ _)) | (go_at_call 47; exact ext_call _ (by simp) (before_any _ _ _ _ _))); clear hK K) | ((with_reducible refine (if_neg ?_).mpr (hK _ ?_)); (decide); clear hK K) | (split <;> (with_reducible refine hK _ ?_; clear hK K))))
        all_goals ((with_reducible refine wpQuiet_nil ?_); clear hext; intro w1 hx1; have hb1 := ext_below hx1; clear hx1)
        go_wp2
        go_ret
        refine ⟨ret_int (checkI_form (c := ⟨c0, c1, c2, c3, l⟩) hc h4 hlt (by rw [HBAD.out]; simp [hright])).symm, ?_⟩
        have hbw := HB.out
        (repeat' (first | (with_reducible exact Below.refl _ _) | (with_reducible assumption) | (with_reducible refine below_drewN ?_ _) | (with_reducible refine Below.drew ?_) | (with_reducible refine Below.alloc ?_ ?_ _) | (with_reducible refine Below.setCell ?_ ?_ _) | (refine Below.trans ?_ (Below.mono (by assumption) ?_)) | go_size))
      · have hR : 0 ≤ d0 ∧ d0 < 4 ∧ 1 ≤ d1 ∧ d1 ≤ 1099511627776 := by simpa [rightB, and_assoc] using hright
        obtain ⟨r0, r4, s0, s1⟩ := hR
        have ec1 := ec r0 r4
        have hat : 0 ≤ Ctx.at_ ⟨c0, c1, c2, c3, l⟩ d0 ∧ Ctx.at_ ⟨c0, c1, c2, c3, l⟩ d0 ≤ 1099511627776 := by simp only [Ctx.at_]; split <;> (try split) <;> (try split) <;> omega
        obtain ⟨hat0, hat1⟩ := hat
        clear ec
        generalize hA : Ctx.at_ ⟨c0, c1, c2, c3, l⟩ d0 = at0 at *
        clear hA
        have zw : IntKind.i64.wrap (at0 + 2) = at0 + 2 := IntWalk.i64_in _ (by omega)
        by_cases hk0 : 0 < k
        · obtain ⟨⟨p0, p1⟩, hpe, g0, g1⟩ := hp hk0
          have hd : decide ((0 : Int) < (k : Int)) = true := by simp; omega
          simp only at g0 g1
          clear hp
          have z1 : IntKind.i64.wrap ((k : Int) - 1) = (k : Int) - 1 := IntWalk.i64_in _ (by omega)
          have z2 : (1 : Int) ≤ (k : Int) := by omega
          have z3 : (k : Int) - 1 < (l.length : Int) := by omega
          have z4 : ((k : Int) - 1).toNat = k - 1 := by omega
          have HPE := hid hpe
          clear hpe
          cases hbf : before (p0, p1) (d0, d1)
          rotate_left
          · have HBE := hid hbf
            go_wp2
            refine region_ext (by kernel_rfl) (by kernel_rfl) (fun hext => ?_)
            repeat (any_goals ((with_reducible refine wpQuiet_step (fun K hK => ?_)); go_simp; first | (with_reducible refine hK _ ?_; clear hK K) | ((with_reducible apply Exists.intro); (with_reducible refine ⟨fun _ => ?_, hK _ ?_⟩); (first | (go_at_call 45; exact ext_call _ (by simp) (Rright_any _ _ _)) | (go_at_call 47; exact ext_call _ (by simp) (before_any _ _ _ _ _))); clear hK K) | ((with_reducible refine (if_neg ?_).mpr (hK _ ?_)); (decide); clear hK K) | (split <;> (with_reducible refine hK _ ?_; clear hK K))))
            all_goals ((with_reducible refine wpQuiet_nil ?_); clear hext; intro w1 hx1; have hb1 := ext_below hx1; clear hx1)
            go_wp2
            · have ht : d1 ≤ at0 + 1 := by omega
              go_ret
              refine ⟨ret_int (checkI_form (c := ⟨c0, c1, c2, c3, l⟩) hc h4 hlt (by rw [HBAD.out]; simp [ht])).symm, ?_⟩
              have hbw := HB.out
              (repeat' (first | (with_reducible exact Below.refl _ _) | (with_reducible assumption) | (with_reducible refine below_drewN ?_ _) | (with_reducible refine Below.drew ?_) | (with_reducible refine Below.alloc ?_ ?_ _) | (with_reducible refine Below.setCell ?_ ?_ _) | (refine Below.trans ?_ (Below.mono (by assumption) ?_)) | go_size))
            · have ht : at0 + 1 < d1 := by omega
              go_roundw
              case rel =>
                refine ⟨⟨k + 1, by omega, by go_num, fun j hj => ?_⟩, ?_⟩
                · by_cases e : j = k
                  · subst e; rw [HBAD.out, HPE.out, HBE.out, hright]; simp; omega
                  · exact HN.out j (by omega)
                · have hbw := HB.out
                  (repeat' (first | (with_reducible exact Below.refl _ _) | (with_reducible assumption) | (with_reducible refine below_drewN ?_ _) | (with_reducible refine Below.drew ?_) | (with_reducible refine Below.alloc ?_ ?_ _) | (with_reducible refine Below.setCell ?_ ?_ _) | (refine Below.trans ?_ (Below.mono (by assumption) ?_)) | go_size))
              case measure => simp [intOf]; omega
          · have HBE := hid hbf
            go_wp2
            refine region_ext (by kernel_rfl) (by kernel_rfl) (fun hext => ?_)
            repeat (any_goals ((with_reducible refine wpQuiet_step (fun K hK => ?_)); go_simp; first | (with_reducible refine hK _ ?_; clear hK K) | ((with_reducible apply Exists.intro); (with_reducible refine ⟨fun _ => ?_, hK _ ?_⟩); (first | (go_at_call 45; exact ext_call _ (by simp) (Rright_any _ _ _)) | (go_at_call 47; exact ext_call _ (by simp) (before_any _ _ _ _ _))); clear hK K) | ((with_reducible refine (if_neg ?_).mpr (hK _ ?_)); (decide); clear hK K) | (split <;> (with_reducible refine hK _ ?_; clear hK K))))
            all_goals ((with_reducible refine wpQuiet_nil ?_); clear hext; intro w1 hx1; have hb1 := ext_below hx1; clear hx1)
            go_wp2
            go_ret
            refine ⟨ret_int (checkI_form (c := ⟨c0, c1, c2, c3, l⟩) hc h4 hlt (by rw [HBAD.out, HPE.out, HBE.out]; simp [hk0])).symm, ?_⟩
            have hbw := HB.out
            (repeat' (first | (with_reducible exact Below.refl _ _) | (with_reducible assumption) | (with_reducible refine below_drewN ?_ _) | (with_reducible refine Below.drew ?_) | (with_reducible refine Below.alloc ?_ ?_ _) | (with_reducible refine Below.setCell ?_ ?_ _) | (refine Below.trans ?_ (Below.mono (by assumption) ?_)) | go_size))
        · have hd : decide ((0 : Int) < (k : Int)) = false := by simp; omega
          have hd2 : decide (0 < k) = false := by simp; omega
          rw [hd2] at HBAD
          clear hp hd2
          go_wp2
          refine region_ext (by kernel_rfl) (by kernel_rfl) (fun hext => ?_)
          repeat (any_goals ((with_reducible refine wpQuiet_step (fun K hK => ?_)); go_simp; first | (with_reducible refine hK _ ?_; clear hK K) | ((with_reducible apply Exists.intro); (with_reducible refine ⟨fun _ => ?_, hK _ ?_⟩); (first | (go_at_call 45; exact ext_call _ (by simp) (Rright_any _ _ _)) | (go_at_call 47; exact ext_call _ (by simp) (before_any _ _ _ _ _))); clear hK K) | ((with_reducible refine (if_neg ?_).mpr (hK _ ?_)); (decide); clear hK K) | (split <;> (with_reducible refine hK _ ?_; clear hK K))))
          all_goals ((with_reducible refine wpQuiet_nil ?_); clear hext; intro w1 hx1; have hb1 := ext_below hx1; clear hx1)
          go_wp2
          · have ht : d1 ≤ at0 + 1 := by omega
            go_ret
            refine ⟨ret_int (checkI_form (c := ⟨c0, c1, c2, c3, l⟩) hc h4 hlt (by rw [HBAD.out]; simp [ht])).symm, ?_⟩
            have hbw := HB.out
            (repeat' (first | (with_reducible exact Below.refl _ _) | (with_reducible assumption) | (with_reducible refine below_drewN ?_ _) | (with_reducible refine Below.drew ?_) | (with_reducible refine Below.alloc ?_ ?_ _) | (with_reducible refine Below.setCell ?_ ?_ _) | (refine Below.trans ?_ (Below.mono (by assumption) ?_)) | go_size))
          · have ht : at0 + 1 < d1 := by omega
            go_roundw
            case rel =>
              refine ⟨⟨k + 1, by omega, by go_num, fun j hj => ?_⟩, ?_⟩
              · by_cases e : j = k
                · subst e; rw [HBAD.out, hright]; simp; omega
                · exact HN.out j (by omega)
              · have hbw := HB.out
                (repeat' (first | (with_reducible exact Below.refl _ _) | (with_reducible assumption) | (with_reducible refine below_drewN ?_ _) | (with_reducible refine Below.drew ?_) | (with_reducible refine Below.alloc ?_ ?_ _) | (with_reducible refine Below.setCell ?_ ?_ _) | (refine Below.trans ?_ (Below.mono (by assumption) ?_)) | go_size))
            case measure => simp [intOf]; omega
    · have e0 : wr.cell? ⟨w.heap.size, 4, none⟩ = some (.slice A l.length k0) := by rw [(bcell hbw).1 _ _ (by omega)]; simp [go_sem]
      have HB := hid hbw
      have HN := hid hno
      clear hbw hno
      go_wp2
      go_ret
      exact ⟨ret_int (checkI_ok (c := ⟨c0, c1, c2, c3, l⟩) hc h4 (fun i hi => HN.out i (by simp only at hi; omega))).symm, Below.trans (b := w.alloc _) (by (repeat' (first | (with_reducible exact Below.refl _ _) | (with_reducible assumption) | (with_reducible refine below_drewN ?_ _) | (with_reducible refine Below.drew ?_) | (with_reducible refine Below.alloc ?_ ?_ _) | (with_reducible refine Below.setCell ?_ ?_ _) | (refine Below.trans ?_ (Below.mono (by assumption) ?_)) | go_size))) (HB.out.mono (Nat.le_succ _))⟩
end Go.Proofs.YtldlmkfigjicgaaGreatDoor
/- Contract of viewref.Has. -/
namespace Go.Proofs.YtldlmkfigjicgaaGreatDoor
set_option linter.unusedVariables false
open Go.ChangeShapes Go.WideShapes Go.ChangeAt Go.RowKit

theorem hasB_mem {c : Ctx} {n s : Int} (h : (n, s) ∈ c.cloud) : hasB c (n, s) = true := by simp [hasB, Ctx.has, h]
theorem hasB_notin {c : Ctx} {n s : Int} (h : (n, s) ∉ c.cloud) : hasB c (n, s) = (inB n 0 3 && decide (1 ≤ s) && decide (s ≤ c.at_ n)) := by
  rw [Bool.eq_iff_iff]
  simp [hasB, Ctx.has, h, inB]
  omega

set_option maxHeartbeats 1000000 in
set_option maxRecDepth 100000 in
theorem Rhas_ints (c0 c1 c2 c3 : Int) (l : List (Int × Int)) (n s : Int) (A : Option Addr) (k0 : Nat) (w : World) (hr : Row w w.heap.size A (dcells l)) (hl : l.length ≤ 9223372036854775807) :
    Calls Tryz.prog 46 #[.agg #[.int .i64 c0, .int .i64 c1, .int .i64 c2, .int .i64 c3, .slice A l.length k0], .agg #[.int .i64 n, .int .i64 s]] w fun e w' => e = .returned (.bool (hasB ⟨c0, c1, c2, c3, l⟩ (n, s))) ∧ Below w.heap.size w w' := by
  have HR := hid hr
  clear hr
  go_enter Tryz.func46, Tryz.ntmps46
  go_wp2
  go_loopw [5] (fun i wr => (∃ k : Nat, k ≤ l.length ∧ i = .int .i64 k ∧ ∀ j (h : j < l.length), j < k → l[j] ≠ (n, s)) ∧ Below (w.heap.size + 1 + 1) ((w.alloc (.cells #[.int .i64 c0, .int .i64 c1, .int .i64 c2, .int .i64 c3, .slice A l.length k0] 26)).alloc (.cells #[.int .i64 n, .int .i64 s] 78)) wr) (fun i _ => l.length - (intOf i).toNat)
  case atStart => exact ⟨⟨0, by omega, rfl, fun j _ h => absurd h (by omega)⟩, by (repeat' (first | (with_reducible exact Below.refl _ _) | (with_reducible assumption) | (with_reducible refine below_drewN ?_ _) | (with_reducible refine Below.drew ?_) | (with_reducible refine Below.alloc ?_ ?_ _) | (with_reducible refine Below.setCell ?_ ?_ _) | (refine Below.trans ?_ (Below.mono (by assumption) ?_)) | go_size))⟩
  case round =>
    obtain ⟨⟨k, hk, rfl, hno⟩, hbw⟩ := hrel
    have hB := (bcell hbw).1
    have e0 : wr.cell? ⟨w.heap.size, 4, none⟩ = some (.slice A l.length k0) := by rw [hB _ _ (by omega)]; simp [go_sem]
    have e1 : wr.cell? ⟨w.heap.size + 1, 0, none⟩ = some (.int .i64 n) := by rw [hB _ _ (by omega)]; simp [go_sem]
    have e2 : wr.cell? ⟨w.heap.size + 1, 1, none⟩ = some (.int .i64 s) := by rw [hB _ _ (by omega)]; simp [go_sem]
    have hW : Below w.heap.size w wr := Below.trans (b := (w.alloc _).alloc _) (by (repeat' (first | (with_reducible exact Below.refl _ _) | (with_reducible assumption) | (with_reducible refine below_drewN ?_ _) | (with_reducible refine Below.drew ?_) | (with_reducible refine Below.alloc ?_ ?_ _) | (with_reducible refine Below.setCell ?_ ?_ _) | (refine Below.trans ?_ (Below.mono (by assumption) ?_)) | go_size))) (hbw.mono (by omega))
    have ec : 0 ≤ n → n < 4 → wr.cell? ⟨w.heap.size, n.toNat, none⟩ = some (.int .i64 (Ctx.at_ ⟨c0, c1, c2, c3, l⟩ n)) := by
      intro q0 q4
      rw [hB _ _ (by omega)]
      rcases (by omega : n = 0 ∨ n = 1 ∨ n = 2 ∨ n = 3) with h | h | h | h <;> subst h <;> simp [go_sem, Ctx.at_]
    have hs1 : w.heap.size + 1 < wr.heap.size := by have := hbw.size; simp at this; omega
    have hs0 : w.heap.size < wr.heap.size := by omega
    have HB := hid hbw
    have HN := hid hno
    have HW := hid hW
    clear hB hbw hno
    have g1 := guard_dot
    have g2 := eql_dot
    by_cases hlt : k < l.length
    · obtain ⟨b, off, rfl, hb, h0, h1⟩ := (HR.out.below hW (Nat.le_refl _)).dot hlt
      clear hW ec
      generalize hd : l[k] = d at *
      obtain ⟨d0, d1⟩ := d
      have HD := hid hd
      clear hd
      simp only at h0 h1
      go_wp2
      refine wp_region_quiet_lit (by kernel_rfl) (by kernel_rfl) ?_
      repeat (any_goals ((with_reducible refine wpQuiet_step (fun K hK => ?_)); go_simp; first | (with_reducible refine hK _ ?_; clear hK K) | ((with_reducible apply Exists.intro); (with_reducible refine ⟨fun _ => ?_, hK _ ?_⟩); (fail); clear hK K) | ((with_reducible refine (if_neg ?_).mpr (hK _ ?_)); (decide); clear hK K) | (split <;> (with_reducible refine hK _ ?_; clear hK K))))
      all_goals ((with_reducible refine wpQuiet_nil ?_); intro _ hw'; obtain ⟨nq, hw''⟩ := hw'; subst hw'')
      go_wp2
      · have ht : (d0 == n) = true ∧ (d1 == s) = true := by assumption
        go_ret
        have e : (n, s) = l[k] := by rw [HD.out]; ext <;> simp_all
        refine ⟨ret_bool (hasB_mem (c := ⟨c0, c1, c2, c3, l⟩) (by rw [e]; exact List.getElem_mem _)).symm, ?_⟩
        have hW := HW.out
        (repeat' (first | (with_reducible exact Below.refl _ _) | (with_reducible assumption) | (with_reducible refine below_drewN ?_ _) | (with_reducible refine Below.drew ?_) | (with_reducible refine Below.alloc ?_ ?_ _) | (with_reducible refine Below.setCell ?_ ?_ _) | (refine Below.trans ?_ (Below.mono (by assumption) ?_)) | go_size))
      · have ht : (d0 == n) = false ∨ (d1 == s) = false := by assumption
        go_roundw
        case rel =>
          refine ⟨⟨k + 1, by omega, by go_num, fun j h hj => ?_⟩, below_drewN HB.out _⟩
          by_cases e : j = k
          · subst e; intro h2; rw [HD.out] at h2; injection h2 with h3 h4; subst h3 h4; simp at ht
          · exact HN.out j h (by omega)
        case measure => simp [intOf]; omega
    · clear hW
      by_cases hi : inB n 0 3 = true
      · have hn : 0 ≤ n ∧ n ≤ 3 := by simpa [inB] using hi
        obtain ⟨hn0, hn3⟩ := hn
        have ec1 := ec hn0 (by omega)
        have m1 : (if (3 : Int) < n then 3 else n) = n := if_neg (by omega)
        have m2 : (if (0 : Int) < n then n else 0) = n := by split <;> omega
        have m3 : n < 4 := by omega
        clear ec
        go_wp2
        refine region_ext (by kernel_rfl) (by kernel_rfl) (fun hext => ?_)
        repeat (any_goals ((with_reducible refine wpQuiet_step (fun K hK => ?_)); go_simp; first | (with_reducible refine hK _ ?_; clear hK K) | ((with_reducible apply Exists.intro); (with_reducible refine ⟨fun _ => ?_, hK _ ?_⟩); (first | (go_at_call 38; exact ext_call_same _ (in_any _ _ _ _))); clear hK K) | ((with_reducible refine (if_neg ?_).mpr (hK _ ?_)); (decide); clear hK K) | (split <;> (with_reducible refine hK _ ?_; clear hK K))))
        all_goals ((with_reducible refine wpQuiet_nil ?_); clear hext; intro w1 hx1; have hb1 := ext_below hx1; clear hx1)
        go_wp2
        all_goals go_ret
        all_goals
          have hni : (n, s) ∉ l := by
            intro hm
            obtain ⟨j, hj, e⟩ := List.getElem_of_mem hm
            exact HN.out j hj (by omega) e
          have hW := HW.out
        · have h1s : 1 ≤ s := by omega
          exact ⟨ret_bool (by rw [hasB_notin (c := ⟨c0, c1, c2, c3, l⟩) hni, hi]; simp [h1s]), by (repeat' (first | (with_reducible exact Below.refl _ _) | (with_reducible assumption) | (with_reducible refine below_drewN ?_ _) | (with_reducible refine Below.drew ?_) | (with_reducible refine Below.alloc ?_ ?_ _) | (with_reducible refine Below.setCell ?_ ?_ _) | (refine Below.trans ?_ (Below.mono (by assumption) ?_)) | go_size))⟩
        · have h1s : ¬ 1 ≤ s := by omega
          exact ⟨ret_bool (by rw [hasB_notin (c := ⟨c0, c1, c2, c3, l⟩) hni, hi]; simp [h1s]), by (repeat' (first | (with_reducible exact Below.refl _ _) | (with_reducible assumption) | (with_reducible refine below_drewN ?_ _) | (with_reducible refine Below.drew ?_) | (with_reducible refine Below.alloc ?_ ?_ _) | (with_reducible refine Below.setCell ?_ ?_ _) | (refine Below.trans ?_ (Below.mono (by assumption) ?_)) | go_size))⟩
      · have hi' : inB n 0 3 = false := by simpa using hi
        clear ec hi
        go_wp2
        refine region_ext (by kernel_rfl) (by kernel_rfl) (fun hext => ?_)
        repeat (any_goals ((with_reducible refine wpQuiet_step (fun K hK => ?_)); go_simp; first | (with_reducible refine hK _ ?_; clear hK K) | ((with_reducible apply Exists.intro); (with_reducible refine ⟨fun _ => ?_, hK _ ?_⟩); (first | (go_at_call 38; exact ext_call_same _ (in_any _ _ _ _))); clear hK K) | ((with_reducible refine (if_neg ?_).mpr (hK _ ?_)); (decide); clear hK K) | (split <;> (with_reducible refine hK _ ?_; clear hK K))))
        all_goals ((with_reducible refine wpQuiet_nil ?_); clear hext; intro w1 hx1; have hb1 := ext_below hx1; clear hx1)
        go_wp2
        go_ret
        have hni : (n, s) ∉ l := by
          intro hm
          obtain ⟨j, hj, e⟩ := List.getElem_of_mem hm
          exact HN.out j hj (by omega) e
        refine ⟨ret_bool (by rw [hasB_notin (c := ⟨c0, c1, c2, c3, l⟩) hni, hi']; simp), ?_⟩
        have hW := HW.out
        (repeat' (first | (with_reducible exact Below.refl _ _) | (with_reducible assumption) | (with_reducible refine below_drewN ?_ _) | (with_reducible refine Below.drew ?_) | (with_reducible refine Below.alloc ?_ ?_ _) | (with_reducible refine Below.setCell ?_ ?_ _) | (refine Below.trans ?_ (Below.mono (by assumption) ?_)) | go_size))

theorem Rhas_any (c : Ctx) (d : Int × Int) (A : Option Addr) (k : Nat) (w : World) (hr : Row w w.heap.size A (dcells c.cloud)) (hl : c.cloud.length ≤ 9223372036854775807) :
    Calls Tryz.prog 46 #[cval c A k, dval d] w fun e w' => e = .returned (.bool (hasB c d)) ∧ Below w.heap.size w w' :=
  Rhas_ints c.c0 c.c1 c.c2 c.c3 c.cloud d.1 d.2 A k w hr hl
end Go.Proofs.YtldlmkfigjicgaaGreatDoor
/- Contracts of slices.IndexFunc, ContainsFunc at Dot, and of the predicates handed to them. -/
namespace Go.Proofs.YtldlmkfigjicgaaGreatDoor
set_option linter.unusedVariables false
open Go.ChangeShapes Go.WideShapes Go.ChangeAt Go.RowKit

/-- What is asked of a function value: handed a dot of the list, in whatever later world, it answers p, and leaves what was there. -/
def PredD (g : Nat) (caps : Array Value) (p : Int × Int → Bool) (l : List (Int × Int)) (w : World) : Prop :=
  ∀ w', Below w.heap.size w w' → ∀ d ∈ l, Calls Tryz.prog g (#[dval d] ++ caps) w' fun e w'' => e = .returned (.bool (p d)) ∧ Below w'.heap.size w' w''

set_option maxHeartbeats 400000 in
set_option maxRecDepth 100000 in
theorem indexFunc_any (g : Nat) (caps : Array Value) (p : Int × Int → Bool) (l : List (Int × Int)) (A : Option Addr) (c : Nat) (w : World) (hr : Row w w.heap.size A (dcells l)) (hl : l.length ≤ 9223372036854775807)
    (eg : ∀ args w, (callFunc g args).run Tryz.prog w = .ok (.enter g args) w) (hp : PredD g caps p l w) :
    Calls Tryz.prog 114 #[.slice A l.length c, .func (.func g) #[] caps] w (IdxPost (l.any p = true) w) := by
  have HR := hid hr
  clear hr
  go_enter Tryz.func114, Tryz.ntmps114
  go_wp2
  go_loopw [8] (fun i wr => (∃ k : Nat, k ≤ l.length ∧ i = .int .i64 k ∧ ∀ j (h : j < l.length), j < k → p l[j] = false) ∧ Below w.heap.size w wr) (fun i _ => l.length - (intOf i).toNat)
  case atStart => exact ⟨⟨0, by omega, rfl, fun j _ h => absurd h (by omega)⟩, Below.refl _ _⟩
  case round =>
    obtain ⟨⟨k, hk, rfl, hno⟩, hbw⟩ := hrel
    by_cases hlt : k < l.length
    · obtain ⟨b, off, rfl, hb, h0, h1⟩ := (HR.out.below hbw (Nat.le_refl _)).dot hlt
      have hc := hp wr hbw l[k] (List.getElem_mem _)
      have HN := hid hno
      have HB := hid hbw
      have HC := hid hc
      clear hno hbw hc
      generalize hd : l[k] = d at *
      obtain ⟨d0, d1⟩ := d
      have HD := hid hd
      clear hd
      simp only at h0 h1
      cases hpd : p (d0, d1)
      all_goals
        rw [hpd] at HC
        have HP := hid hpd
        clear hpd
        go_wp2_with (refine (HC.out).mono ?_; rintro e w1 ⟨rfl, hb1⟩)
      · go_roundw
        case rel =>
          refine ⟨⟨k + 1, by omega, by go_num, fun j h hj => ?_⟩, HB.out.trans (hb1.mono HB.out.size)⟩
          by_cases e : j = k
          · subst e; rw [HD.out]; exact HP.out
          · exact HN.out j h (by omega)
        case measure => simp [intOf]; omega
      · go_ret
        refine ⟨k, rfl, iff_of_true (by omega) (List.any_eq_true.2 ⟨l[k], List.getElem_mem _, by rw [HD.out]; exact HP.out⟩), HB.out.trans (hb1.mono HB.out.size)⟩
    · go_wp2
      go_ret
      refine ⟨-1, rfl, iff_of_false (by omega) ?_, hbw⟩
      intro hm
      obtain ⟨d, hd, e⟩ := List.any_eq_true.1 hm
      obtain ⟨j, hj, rfl⟩ := List.getElem_of_mem hd
      rw [hno j hj (by omega)] at e
      cases e

theorem containsFunc_any (g : Nat) (caps : Array Value) (p : Int × Int → Bool) (l : List (Int × Int)) (A : Option Addr) (c : Nat) (w : World) (hr : Row w w.heap.size A (dcells l)) (hl : l.length ≤ 9223372036854775807)
    (eg : ∀ args w, (callFunc g args).run Tryz.prog w = .ok (.enter g args) w) (hp : PredD g caps p l w) :
    Calls Tryz.prog 95 #[.slice A l.length c, .func (.func g) #[] caps] w fun e w' => e = .returned (.bool (l.any p)) ∧ Below w.heap.size w w' := by
  have H := indexFunc_any g caps p l A c w hr hl eg hp
  have HR := hid hr
  have HP := hid hp
  clear hr eg hp
  go_enter Tryz.func95, Tryz.ntmps95
  go_wp2_with (go_at_call 114; refine H.mono ?_; rintro e w' ⟨i, rfl, hi, hb⟩)
  go_ret
  refine ⟨ret_bool ?_, hb⟩
  cases h : l.any p
  · rw [h] at hi; simpa using hi
  · rw [h] at hi; simpa using hi

theorem notRight_any (d : Int × Int) (w : World) :
    Calls Tryz.prog 96 #[dval d] w fun e w' => e = .returned (.bool (!rightB d.1 d.2)) ∧ Below w.heap.size w w' := by
  obtain ⟨n, s⟩ := d
  simp only [dval]
  go_enter Tryz.func96, Tryz.ntmps96
  go_wp2_with (go_at_call 94; refine (right_any _ _ _).mono ?_; rintro e w' ⟨rfl, hb⟩)
  go_ret
  exact ⟨rfl, by (repeat' (first | (with_reducible exact Below.refl _ _) | (with_reducible assumption) | (with_reducible refine below_drewN ?_ _) | (with_reducible refine Below.drew ?_) | (with_reducible refine Below.alloc ?_ ?_ _) | (with_reducible refine Below.setCell ?_ ?_ _) | (refine Below.trans ?_ (Below.mono (by assumption) ?_)) | go_size))⟩

theorem enters_makeF : ∀ args w, (callFunc 96 args).run Tryz.prog w = .ok (.enter 96 args) w := enters_of Tryz.func96 (by kernel_rfl) rfl
theorem predMake (l : List (Int × Int)) (w : World) : PredD 96 #[] (fun d => !rightB d.1 d.2) l w := fun w' _ d _ => notRight_any d w'
end Go.Proofs.YtldlmkfigjicgaaGreatDoor
/- Contracts of slices.Equal at Dot, viewref.SameContext. -/
namespace Go.Proofs.YtldlmkfigjicgaaGreatDoor
set_option linter.unusedVariables false
open Go.ChangeShapes Go.WideShapes Go.ChangeAt Go.RowKit

theorem neq_dot (a b c d : Int) (w : World) : (binOp .neq 78 (.agg #[.int .i64 a, .int .i64 b]) (.agg #[.int .i64 c, .int .i64 d])).run Tryz.prog w = .ok (.bool (!(a == c && b == d))) w := by
  have h1 := under_dot
  have h2 := stood_dot
  simp only [run_neq_struct, run_equalIn_agg _ _ _ _ _ h1 h2]
  simp [go_sem]
  by_cases ha : a = c <;> by_cases hb : b = d <;> simp [ha, hb, go_sem]

set_option maxRecDepth 100000 in
theorem equalIn_clk (a b c d a' b' c' d' : Int) (w : World) : (Op.equalIn 10000 23 (.agg #[.int .i64 a, .int .i64 b, .int .i64 c, .int .i64 d]) (.agg #[.int .i64 a', .int .i64 b', .int .i64 c', .int .i64 d'])).run Tryz.prog w = .ok (a == a' && b == b' && c == c' && d == d') w := by
  rw [show (10000 : Nat) = 9998 + 1 + 1 from rfl, Op.equalIn.eq_2]
  have hu := Tryz.underlying23
  have hs : ∀ w, (Go.sizeOf 3).run Tryz.prog w = .ok 1 w := fun _ => by kernel_rfl
  simp [run_underlying hu, hs]
  have hp : ∀ (x0 x1 x2 x3 : Int) w, (part 3 #[.int .i64 x0, .int .i64 x1, .int .i64 x2, .int .i64 x3] 0).run Tryz.prog w = .ok (.int .i64 x0) w ∧ (part 3 #[.int .i64 x0, .int .i64 x1, .int .i64 x2, .int .i64 x3] 1).run Tryz.prog w = .ok (.int .i64 x1) w ∧
      (part 3 #[.int .i64 x0, .int .i64 x1, .int .i64 x2, .int .i64 x3] 2).run Tryz.prog w = .ok (.int .i64 x2) w ∧ (part 3 #[.int .i64 x0, .int .i64 x1, .int .i64 x2, .int .i64 x3] 3).run Tryz.prog w = .ok (.int .i64 x3) w := fun _ _ _ _ _ => ⟨by kernel_rfl, by kernel_rfl, by kernel_rfl, by kernel_rfl⟩
  have he : ∀ (x y : Int) w, (Op.equalIn 9999 3 (.int .i64 x) (.int .i64 y)).run Tryz.prog w = .ok (x == y) w := fun x y w => run_equalIn_int w 9998 3 .i64 .i64 x y Tryz.underlying3
  simp only [List.range', List.forIn_cons, List.forIn_nil, Sem.run_bind, hp, he, Result.andThen_ok]
  by_cases ha : a = a' <;> by_cases hb : b = b' <;> by_cases hc : c = c' <;> by_cases hd : d = d' <;> simp [ha, hb, hc, hd, hp, he, Sem.run_bind]

theorem eql_clk (a b c d a' b' c' d' : Int) (w : World) : (binOp .eql 23 (.agg #[.int .i64 a, .int .i64 b, .int .i64 c, .int .i64 d]) (.agg #[.int .i64 a', .int .i64 b', .int .i64 c', .int .i64 d'])).run Tryz.prog w = .ok (.bool (a == a' && b == b' && c == c' && d == d')) w := by
  simp only [run_eql_struct, equalIn_clk, Result.andThen_ok]
theorem guard_clk : Tryz.prog.eqGuardType Tryz.prog.depth 23 = false := by kernel_rfl

def sameB (a b : Ctx) : Bool := (a.c0 == b.c0 && a.c1 == b.c1 && a.c2 == b.c2 && a.c3 == b.c3) && decide (a.cloud = b.cloud)
theorem sameB_iff (a b : Ctx) : sameB a b = true ↔ a = b := by
  cases a; cases b; simp [sameB, and_assoc]

end Go.Proofs.YtldlmkfigjicgaaGreatDoor
/- dot.both, viewref.Two. -/
namespace Go.Proofs.YtldlmkfigjicgaaGreatDoor
set_option linter.unusedVariables false
open Go.ChangeShapes Go.WideShapes Go.ChangeAt Go.RowKit

def twoI (a b : Ctx) : Int := if checkI a ≠ 0 then checkI a else checkI b

end Go.Proofs.YtldlmkfigjicgaaGreatDoor
