/- Contracts of viewref.Right, viewref.Before, viewref.Context. -/
import Derived.Test.YtogegnikpjcpdaaDotD
namespace Go.Proofs.Ytogegnikpjcpdaa
set_option linter.unusedVariables false
open Go.ChangeShapes Go.WideShapes Go.ChangeAt Go.RowKit

theorem rightB_in (n s : Int) : rightB n s = (inB n 0 3 && inB s 1 1099511627776) := by
  unfold rightB inB
  rw [Bool.eq_iff_iff]
  simp
  omega

theorem clkOk_in (n : Int) : clkOk n = inB n 0 1099511627776 := rfl

theorem clk_bad {c0 c1 c2 c3 : Int} (h : (!inB c0 0 1099511627776) = true ∨ (!inB c1 0 1099511627776) = true ∨ (!inB c2 0 1099511627776) = true ∨ (!inB c3 0 1099511627776) = true) :
    (clkOk c0 && clkOk c1 && clkOk c2 && clkOk c3) = false := by
  simp only [clkOk_in]
  simp only [Bool.not_eq_true'] at h
  rcases h with h | h | h | h <;> simp [h]
theorem clk_good {c0 c1 c2 c3 : Int} (h0 : (!inB c0 0 1099511627776) = false) (h1 : (!inB c1 0 1099511627776) = false) (h2 : (!inB c2 0 1099511627776) = false) (h3 : (!inB c3 0 1099511627776) = false) :
    (clkOk c0 && clkOk c1 && clkOk c2 && clkOk c3) = true := by
  simp only [clkOk_in]
  simp only [Bool.not_eq_false'] at h0 h1 h2 h3
  simp [h0, h1, h2, h3]
theorem inB_of {n lo hi : Int} (h : (!inB n lo hi) = false) : lo ≤ n ∧ n ≤ hi := by simpa [inB] using h

theorem Rright_any (n s : Int) (w : World) :
    Calls Try.prog 19 #[.agg #[.int .i64 n, .int .i64 s]] w fun e w' => e = .returned (.bool (rightB n s)) ∧ Below w.heap.size w w' := by
  have H := rightB_in n s
  have HR := hid H
  clear H
  cases h1 : inB n 0 3
  all_goals
    go_enter Try.func19, Try.ntmps19
    go_wp2_with (go_at_call 21; refine (in_any _ _ _ _).mono ?_; rintro e w' ⟨rfl, rfl⟩)
    go_ret
    exact ⟨ret_bool (by rw [HR.out, h1]; simp), by (repeat' (first | (with_reducible exact Below.refl _ _) | (with_reducible assumption) | (with_reducible refine below_drewN ?_ _) | (with_reducible refine Below.drew ?_) | (with_reducible refine Below.alloc ?_ ?_ _) | (with_reducible refine Below.setCell ?_ ?_ _) | (refine Below.trans ?_ (Below.mono (by assumption) ?_)) | go_size))⟩

theorem before_any (a0 a1 b0 b1 : Int) (w : World) :
    Calls Try.prog 61 #[.agg #[.int .i64 a0, .int .i64 a1], .agg #[.int .i64 b0, .int .i64 b1]] w fun e w' => e = .returned (.bool (before (a0, a1) (b0, b1))) ∧ Below w.heap.size w w' := by
  go_enter Try.func61, Try.ntmps61
  go_wp2
  all_goals go_ret
  all_goals (refine ⟨ret_bool ?_, by (repeat' (first | (with_reducible exact Below.refl _ _) | (with_reducible assumption) | (with_reducible refine below_drewN ?_ _) | (with_reducible refine Below.drew ?_) | (with_reducible refine Below.alloc ?_ ?_ _) | (with_reducible refine Below.setCell ?_ ?_ _) | (refine Below.trans ?_ (Below.mono (by assumption) ?_)) | go_size))⟩; unfold before; first | (simp [*]; done) | (simp [*]; omega) | (simp; omega))

set_option maxHeartbeats 1000000 in
set_option maxRecDepth 100000 in
theorem context_any (c : Ctx) (A : Option Addr) (k0 : Nat) (w : World) (hr : Row w w.heap.size A (dcells c.cloud)) (hl : c.cloud.length ≤ 9223372036854775807) :
    Calls Try.prog 15 #[cval c A k0] w fun e w' => e = .returned (.int .i64 (checkI c)) ∧ Below w.heap.size w w' := by
  obtain ⟨c0, c1, c2, c3, l⟩ := c
  have HR := hid hr
  clear hr
  simp only [cval] at *
  go_enter Try.func15, Try.ntmps15
  go_wp2
  refine wp_loop_rounds 5 ?_
  repeat any_goals (rw [rounds_succ]; go_wp2_with (go_at_call 21; refine (in_any _ _ _ _).mono ?_; rintro e w' ⟨rfl, rfl⟩))
  all_goals first
    | (have h := ‹(!inB c0 0 1099511627776) = true›; go_ret; refine ⟨ret_int (checkI_arg (c := ⟨c0, c1, c2, c3, l⟩) (clk_bad (.inl h))).symm, ?_⟩; (repeat' (first | (with_reducible exact Below.refl _ _) | (with_reducible assumption) | (with_reducible refine below_drewN ?_ _) | (with_reducible refine Below.drew ?_) | (with_reducible refine Below.alloc ?_ ?_ _) | (with_reducible refine Below.setCell ?_ ?_ _) | (refine Below.trans ?_ (Below.mono (by assumption) ?_)) | go_size)))
    | (have h := ‹(!inB c1 0 1099511627776) = true›; go_ret; refine ⟨ret_int (checkI_arg (c := ⟨c0, c1, c2, c3, l⟩) (clk_bad (.inr (.inl h)))).symm, ?_⟩; (repeat' (first | (with_reducible exact Below.refl _ _) | (with_reducible assumption) | (with_reducible refine below_drewN ?_ _) | (with_reducible refine Below.drew ?_) | (with_reducible refine Below.alloc ?_ ?_ _) | (with_reducible refine Below.setCell ?_ ?_ _) | (refine Below.trans ?_ (Below.mono (by assumption) ?_)) | go_size)))
    | (have h := ‹(!inB c2 0 1099511627776) = true›; go_ret; refine ⟨ret_int (checkI_arg (c := ⟨c0, c1, c2, c3, l⟩) (clk_bad (.inr (.inr (.inl h))))).symm, ?_⟩; (repeat' (first | (with_reducible exact Below.refl _ _) | (with_reducible assumption) | (with_reducible refine below_drewN ?_ _) | (with_reducible refine Below.drew ?_) | (with_reducible refine Below.alloc ?_ ?_ _) | (with_reducible refine Below.setCell ?_ ?_ _) | (refine Below.trans ?_ (Below.mono (by assumption) ?_)) | go_size)))
    | (have h := ‹(!inB c3 0 1099511627776) = true›; go_ret; refine ⟨ret_int (checkI_arg (c := ⟨c0, c1, c2, c3, l⟩) (clk_bad (.inr (.inr (.inr h))))).symm, ?_⟩; (repeat' (first | (with_reducible exact Below.refl _ _) | (with_reducible assumption) | (with_reducible refine below_drewN ?_ _) | (with_reducible refine Below.drew ?_) | (with_reducible refine Below.alloc ?_ ?_ _) | (with_reducible refine Below.setCell ?_ ?_ _) | (refine Below.trans ?_ (Below.mono (by assumption) ?_)) | go_size)))
    | (go_ret; refine ⟨ret_int (checkI_large (c := ⟨c0, c1, c2, c3, l⟩) (clk_good ‹_› ‹_› ‹_› ‹_›) ?_).symm, ?_⟩; (simp only; omega); (repeat' (first | (with_reducible exact Below.refl _ _) | (with_reducible assumption) | (with_reducible refine below_drewN ?_ _) | (with_reducible refine Below.drew ?_) | (with_reducible refine Below.alloc ?_ ?_ _) | (with_reducible refine Below.setCell ?_ ?_ _) | (refine Below.trans ?_ (Below.mono (by assumption) ?_)) | go_size)))
    | skip
  have hc : (clkOk c0 && clkOk c1 && clkOk c2 && clkOk c3) = true := clk_good ‹_› ‹_› ‹_› ‹_›
  have q0 := inB_of ‹(!inB c0 0 1099511627776) = false›
  have q1 := inB_of ‹(!inB c1 0 1099511627776) = false›
  have q2 := inB_of ‹(!inB c2 0 1099511627776) = false›
  have q3 := inB_of ‹(!inB c3 0 1099511627776) = false›
  have h4 : l.length ≤ 400 := by omega
  rw [‹(!inB c3 0 1099511627776) = false›]
  go_loopw [4] (fun i wr => (∃ k : Nat, k ≤ l.length ∧ i = .int .i64 k ∧ ∀ j, j < k → badAt ⟨c0, c1, c2, c3, l⟩ j = false) ∧ Below (w.heap.size + 1) (w.alloc (.cells #[.int .i64 c0, .int .i64 c1, .int .i64 c2, .int .i64 c3, .slice A l.length k0] 25)) wr) (fun i _ => l.length - (intOf i).toNat)
  case atStart => exact ⟨⟨0, by omega, rfl, fun j h => absurd h (by omega)⟩, by (repeat' (first | (with_reducible exact Below.refl _ _) | (with_reducible assumption) | (with_reducible refine below_drewN ?_ _) | (with_reducible refine Below.drew ?_) | (with_reducible refine Below.alloc ?_ ?_ _) | (with_reducible refine Below.setCell ?_ ?_ _) | (refine Below.trans ?_ (Below.mono (by assumption) ?_)) | go_size))⟩
  case round =>
    obtain ⟨⟨k, hk, rfl, hno⟩, hbw⟩ := hrel
    by_cases hlt : k < l.length
    · have hr1 := HR.out.later hbw
      have hsz := size_later hbw
      obtain ⟨b, off, rfl, hb, h0, h1⟩ := hr1.dot hlt
      have hp : 0 < k → ∃ p : Int × Int, l.getD (k - 1) (0, 0) = p ∧ wr.cell? ⟨b, off + (k - 1) * 2, none⟩ = some (.int .i64 p.1) ∧ wr.cell? ⟨b, off + (k - 1) * 2 + 1, none⟩ = some (.int .i64 p.2) := by
        intro hm
        obtain ⟨b', off', he, hb', h0', h1'⟩ := hr1.dot (k := k - 1) (by omega)
        injection he with he
        injection he with he1 he2
        subst he1 he2
        exact ⟨l[k - 1], by simp [List.getD, show k - 1 < l.length by omega], h0', h1'⟩
      have hB := (bcell hbw).1
      have e0 : wr.cell? ⟨w.heap.size, 4, none⟩ = some (.slice (some ⟨b, off, none⟩) l.length k0) := by rw [hB _ _ (by omega)]; simp [go_sem]
      have ec : 0 ≤ (l[k]).1 → (l[k]).1 < 4 → wr.cell? ⟨w.heap.size, (l[k]).1.toNat, none⟩ = some (.int .i64 (Ctx.at_ ⟨c0, c1, c2, c3, l⟩ (l[k]).1)) := by
        intro q0 q4
        rw [hB _ _ (by omega)]
        rcases (by omega : (l[k]).1 = 0 ∨ (l[k]).1 = 1 ∨ (l[k]).1 = 2 ∨ (l[k]).1 = 3) with h | h | h | h <;> simp [h, go_sem, Ctx.at_]
      have hgd : l.getD k (0, 0) = l[k] := by simp [List.getD, hlt]
      have hbad : badAt ⟨c0, c1, c2, c3, l⟩ k = (!rightB (l[k]).1 (l[k]).2 || (decide (0 < k) && !before (l.getD (k - 1) (0, 0)) l[k]) || decide ((l[k]).2 ≤ Ctx.at_ ⟨c0, c1, c2, c3, l⟩ (l[k]).1 + 1)) := by
        simp only [badAt, hgd]
      have HBAD := hid hbad
      have HN := hid hno
      have HB := hid hbw
      clear hgd hbad hno hbw hr1 hB
      generalize l[k] = d at *
      obtain ⟨d0, d1⟩ := d
      simp only at *
      have hne : (b = wr.heap.size) = False := by simp; omega
      have hne2 : (w.heap.size = wr.heap.size) = False := by simp; omega
      have hb1 : b < wr.heap.size + 1 := by omega
      have hb2 : b < wr.heap.size := by omega
      have hw1 : w.heap.size < wr.heap.size + 1 := by omega
      cases hright : rightB d0 d1
      · clear hp
        go_wp2
        refine region_ext (by kernel_rfl) (by kernel_rfl) (fun hext => ?_)
        repeat (any_goals ((with_reducible refine wpQuiet_step (fun K hK => ?_)); go_simp; first | (with_reducible refine hK _ ?_; clear hK K) | ((with_reducible apply Exists.intro); (with_reducible refine ⟨fun _ => ?_, hK _ ?_⟩); (first | (go_at_call 19; exact ext_call _ (by simp) (Rright_any _ _ _)) | (go_at_call 61; exact ext_call _ (by simp) (before_any _ _ _ _ _))); clear hK K) | ((with_reducible refine (if_neg ?_).mpr (hK _ ?_)); (decide); clear hK K) | (split <;> (with_reducible refine hK _ ?_; clear hK K))))
        all_goals ((with_reducible refine wpQuiet_nil ?_); clear hext; intro w1 hx1; have hb1 := ext_below hx1; clear hx1)
        go_wp2
        go_ret
        refine ⟨ret_int (checkI_form (c := ⟨c0, c1, c2, c3, l⟩) hc h4 hlt (by rw [HBAD.out]; simp [hright])).symm, ?_⟩
        have hbw := HB.out
        (repeat' (first | (with_reducible exact Below.refl _ _) | (with_reducible assumption) | (with_reducible refine below_drewN ?_ _) | (with_reducible refine Below.drew ?_) | (with_reducible refine Below.alloc ?_ ?_ _) | (with_reducible refine Below.setCell ?_ ?_ _) | (refine Below.trans ?_ (Below.mono (by assumption) ?_)) | go_size))
      · have hR : 0 ≤ d0 ∧ d0 < 4 ∧ 1 ≤ d1 ∧ d1 ≤ 1099511627776 := by simpa [rightB, and_assoc] using hright
        obtain ⟨r0, r4, s0, s1⟩ := hR
        have ec1 := ec r0 r4
        have hat : 0 ≤ Ctx.at_ ⟨c0, c1, c2, c3, l⟩ d0 ∧ Ctx.at_ ⟨c0, c1, c2, c3, l⟩ d0 ≤ 1099511627776 := by simp only [Ctx.at_]; split <;> (try split) <;> (try split) <;> omega
        obtain ⟨hat0, hat1⟩ := hat
        clear ec
        generalize hA : Ctx.at_ ⟨c0, c1, c2, c3, l⟩ d0 = at0 at *
        clear hA
        have zw : IntKind.i64.wrap (at0 + 2) = at0 + 2 := IntWalk.i64_in _ (by omega)
        by_cases hk0 : 0 < k
        · obtain ⟨⟨p0, p1⟩, hpe, g0, g1⟩ := hp hk0
          have hd : decide ((0 : Int) < (k : Int)) = true := by simp; omega
          simp only at g0 g1
          clear hp
          have z1 : IntKind.i64.wrap ((k : Int) - 1) = (k : Int) - 1 := IntWalk.i64_in _ (by omega)
          have z2 : (1 : Int) ≤ (k : Int) := by omega
          have z3 : (k : Int) - 1 < (l.length : Int) := by omega
          have z4 : ((k : Int) - 1).toNat = k - 1 := by omega
          have HPE := hid hpe
          clear hpe
          cases hbf : before (p0, p1) (d0, d1)
          rotate_left
          · have HBE := hid hbf
            go_wp2
            refine region_ext (by kernel_rfl) (by kernel_rfl) (fun hext => ?_)
            repeat (any_goals ((with_reducible refine wpQuiet_step (fun K hK => ?_)); go_simp; first | (with_reducible refine hK _ ?_; clear hK K) | ((with_reducible apply Exists.intro); (with_reducible refine ⟨fun _ => ?_, hK _ ?_⟩); (first | (go_at_call 19; exact ext_call _ (by simp) (Rright_any _ _ _)) | (go_at_call 61; exact ext_call _ (by simp) (before_any _ _ _ _ _))); clear hK K) | ((with_reducible refine (if_neg ?_).mpr (hK _ ?_)); (decide); clear hK K) | (split <;> (with_reducible refine hK _ ?_; clear hK K))))
            all_goals ((with_reducible refine wpQuiet_nil ?_); clear hext; intro w1 hx1; have hb1 := ext_below hx1; clear hx1)
            go_wp2
            · have ht : d1 ≤ at0 + 1 := by omega
              go_ret
              refine ⟨ret_int (checkI_form (c := ⟨c0, c1, c2, c3, l⟩) hc h4 hlt (by rw [HBAD.out]; simp [ht])).symm, ?_⟩
              have hbw := HB.out
              (repeat' (first | (with_reducible exact Below.refl _ _) | (with_reducible assumption) | (with_reducible refine below_drewN ?_ _) | (with_reducible refine Below.drew ?_) | (with_reducible refine Below.alloc ?_ ?_ _) | (with_reducible refine Below.setCell ?_ ?_ _) | (refine Below.trans ?_ (Below.mono (by assumption) ?_)) | go_size))
            · have ht : at0 + 1 < d1 := by omega
              go_roundw
              case rel =>
                refine ⟨⟨k + 1, by omega, by go_num, fun j hj => ?_⟩, ?_⟩
                · by_cases e : j = k
                  · subst e; rw [HBAD.out, HPE.out, HBE.out, hright]; simp; omega
                  · exact HN.out j (by omega)
                · have hbw := HB.out
                  (repeat' (first | (with_reducible exact Below.refl _ _) | (with_reducible assumption) | (with_reducible refine below_drewN ?_ _) | (with_reducible refine Below.drew ?_) | (with_reducible refine Below.alloc ?_ ?_ _) | (with_reducible refine Below.setCell ?_ ?_ _) | (refine Below.trans ?_ (Below.mono (by assumption) ?_)) | go_size))
              case measure => simp [intOf]; omega
          · have HBE := hid hbf
            go_wp2
            refine region_ext (by kernel_rfl) (by kernel_rfl) (fun hext => ?_)
            repeat (any_goals ((with_reducible refine wpQuiet_step (fun K hK => ?_)); go_simp; first | (with_reducible refine hK _ ?_; clear hK K) | ((with_reducible apply Exists.intro); (with_reducible refine ⟨fun _ => ?_, hK _ ?_⟩); (first | (go_at_call 19; exact ext_call _ (by simp) (Rright_any _ _ _)) | (go_at_call 61; exact ext_call _ (by simp) (before_any _ _ _ _ _))); clear hK K) | ((with_reducible refine (if_neg ?_).mpr (hK _ ?_)); (decide); clear hK K) | (split <;> (with_reducible refine hK _ ?_; clear hK K))))
            all_goals ((with_reducible refine wpQuiet_nil ?_); clear hext; intro w1 hx1; have hb1 := ext_below hx1; clear hx1)
            go_wp2
            go_ret
            refine ⟨ret_int (checkI_form (c := ⟨c0, c1, c2, c3, l⟩) hc h4 hlt (by rw [HBAD.out, HPE.out, HBE.out]; simp [hk0])).symm, ?_⟩
            have hbw := HB.out
            (repeat' (first | (with_reducible exact Below.refl _ _) | (with_reducible assumption) | (with_reducible refine below_drewN ?_ _) | (with_reducible refine Below.drew ?_) | (with_reducible refine Below.alloc ?_ ?_ _) | (with_reducible refine Below.setCell ?_ ?_ _) | (refine Below.trans ?_ (Below.mono (by assumption) ?_)) | go_size))
        · have hd : decide ((0 : Int) < (k : Int)) = false := by simp; omega
          have hd2 : decide (0 < k) = false := by simp; omega
          rw [hd2] at HBAD
          clear hp hd2
          go_wp2
          refine region_ext (by kernel_rfl) (by kernel_rfl) (fun hext => ?_)
          repeat (any_goals ((with_reducible refine wpQuiet_step (fun K hK => ?_)); go_simp; first | (with_reducible refine hK _ ?_; clear hK K) | ((with_reducible apply Exists.intro); (with_reducible refine ⟨fun _ => ?_, hK _ ?_⟩); (first | (go_at_call 19; exact ext_call _ (by simp) (Rright_any _ _ _)) | (go_at_call 61; exact ext_call _ (by simp) (before_any _ _ _ _ _))); clear hK K) | ((with_reducible refine (if_neg ?_).mpr (hK _ ?_)); (decide); clear hK K) | (split <;> (with_reducible refine hK _ ?_; clear hK K))))
          all_goals ((with_reducible refine wpQuiet_nil ?_); clear hext; intro w1 hx1; have hb1 := ext_below hx1; clear hx1)
          go_wp2
          · have ht : d1 ≤ at0 + 1 := by omega
            go_ret
            refine ⟨ret_int (checkI_form (c := ⟨c0, c1, c2, c3, l⟩) hc h4 hlt (by rw [HBAD.out]; simp [ht])).symm, ?_⟩
            have hbw := HB.out
            (repeat' (first | (with_reducible exact Below.refl _ _) | (with_reducible assumption) | (with_reducible refine below_drewN ?_ _) | (with_reducible refine Below.drew ?_) | (with_reducible refine Below.alloc ?_ ?_ _) | (with_reducible refine Below.setCell ?_ ?_ _) | (refine Below.trans ?_ (Below.mono (by assumption) ?_)) | go_size))
          · have ht : at0 + 1 < d1 := by omega
            go_roundw
            case rel =>
              refine ⟨⟨k + 1, by omega, by go_num, fun j hj => ?_⟩, ?_⟩
              · by_cases e : j = k
                · subst e; rw [HBAD.out, hright]; simp; omega
                · exact HN.out j (by omega)
              · have hbw := HB.out
                (repeat' (first | (with_reducible exact Below.refl _ _) | (with_reducible assumption) | (with_reducible refine below_drewN ?_ _) | (with_reducible refine Below.drew ?_) | (with_reducible refine Below.alloc ?_ ?_ _) | (with_reducible refine Below.setCell ?_ ?_ _) | (refine Below.trans ?_ (Below.mono (by assumption) ?_)) | go_size))
            case measure => simp [intOf]; omega
    · have e0 : wr.cell? ⟨w.heap.size, 4, none⟩ = some (.slice A l.length k0) := by rw [(bcell hbw).1 _ _ (by omega)]; simp [go_sem]
      have HB := hid hbw
      have HN := hid hno
      clear hbw hno
      go_wp2
      go_ret
      exact ⟨ret_int (checkI_ok (c := ⟨c0, c1, c2, c3, l⟩) hc h4 (fun i hi => HN.out i (by simp only at hi; omega))).symm, Below.trans (b := w.alloc _) (by (repeat' (first | (with_reducible exact Below.refl _ _) | (with_reducible assumption) | (with_reducible refine below_drewN ?_ _) | (with_reducible refine Below.drew ?_) | (with_reducible refine Below.alloc ?_ ?_ _) | (with_reducible refine Below.setCell ?_ ?_ _) | (refine Below.trans ?_ (Below.mono (by assumption) ?_)) | go_size))) (HB.out.mono (Nat.le_succ _))⟩
end Go.Proofs.Ytogegnikpjcpdaa
