/- Contract of dot.Check. -/
import Derived.Test.YtogegnikpjcpdaaDotC
namespace Go.Proofs.Ytogegnikpjcpdaa
set_option linter.unusedVariables false
open Go.ChangeShapes Go.WideShapes Go.ChangeAt Go.RowKit

def before (a b : Int × Int) : Bool := decide (a.1 < b.1) || (decide (a.1 = b.1) && decide (a.2 < b.2))
theorem cmp_before (a b : Int × Int) : (0 ≤ or2 (cmpI a.1 b.1) (cmpI a.2 b.2)) ↔ before a b = false := by
  unfold or2 cmpI before
  rcases Int.lt_trichotomy a.1 b.1 with h | h | h <;> rcases Int.lt_trichotomy a.2 b.2 with h' | h' | h' <;> simp <;> split <;> omega

def clkOk (n : Int) : Bool := decide (0 ≤ n) && decide (n ≤ 1099511627776)
def badAt (c : Ctx) (i : Nat) : Bool :=
  !rightB (c.cloud.getD i (0, 0)).1 (c.cloud.getD i (0, 0)).2 || (decide (0 < i) && !before (c.cloud.getD (i - 1) (0, 0)) (c.cloud.getD i (0, 0))) ||
    decide ((c.cloud.getD i (0, 0)).2 ≤ c.at_ (c.cloud.getD i (0, 0)).1 + 1)
def checkI (c : Ctx) : Int :=
  if (clkOk c.c0 && clkOk c.c1 && clkOk c.c2 && clkOk c.c3) = false then 1 else if 400 < c.cloud.length then 2
  else if (List.range c.cloud.length).any (badAt c) = true then 5 else 0

theorem checkI_arg {c : Ctx} (h : (clkOk c.c0 && clkOk c.c1 && clkOk c.c2 && clkOk c.c3) = false) : checkI c = 1 := by simp only [checkI, h, if_true]
theorem checkI_large {c : Ctx} (h : (clkOk c.c0 && clkOk c.c1 && clkOk c.c2 && clkOk c.c3) = true) (h2 : 400 < c.cloud.length) : checkI c = 2 := by
  rw [checkI, if_neg (by simp [h]), if_pos h2]
theorem checkI_form {c : Ctx} (h : (clkOk c.c0 && clkOk c.c1 && clkOk c.c2 && clkOk c.c3) = true) (h2 : c.cloud.length ≤ 400) {i : Nat} (hi : i < c.cloud.length) (hb : badAt c i = true) : checkI c = 5 := by
  rw [checkI, if_neg (by simp [h]), if_neg (by omega), if_pos (List.any_eq_true.2 ⟨i, List.mem_range.2 hi, hb⟩)]
theorem checkI_ok {c : Ctx} (h : (clkOk c.c0 && clkOk c.c1 && clkOk c.c2 && clkOk c.c3) = true) (h2 : c.cloud.length ≤ 400) (hg : ∀ i, i < c.cloud.length → badAt c i = false) : checkI c = 0 := by
  rw [checkI, if_neg (by simp [h]), if_neg (by omega), if_neg]
  intro ha
  obtain ⟨i, hi, hb⟩ := List.any_eq_true.1 ha
  rw [hg i (List.mem_range.1 hi)] at hb
  cases hb

abbrev clkv (c0 c1 c2 c3 : Int) : Value := .agg #[.int .i64 c0, .int .i64 c1, .int .i64 c2, .int .i64 c3]
theorem clk0 (c0 c1 c2 c3 : Int) (w : World) : (Instr.index 22 (clkv c0 c1 c2 c3) (.int .i64 0)).run Try.prog w = .ok (.int .i64 c0) w := by kernel_rfl
theorem clk1 (c0 c1 c2 c3 : Int) (w : World) : (Instr.index 22 (clkv c0 c1 c2 c3) (.int .i64 1)).run Try.prog w = .ok (.int .i64 c1) w := by kernel_rfl
theorem clk2 (c0 c1 c2 c3 : Int) (w : World) : (Instr.index 22 (clkv c0 c1 c2 c3) (.int .i64 2)).run Try.prog w = .ok (.int .i64 c2) w := by kernel_rfl
theorem clk3 (c0 c1 c2 c3 : Int) (w : World) : (Instr.index 22 (clkv c0 c1 c2 c3) (.int .i64 3)).run Try.prog w = .ok (.int .i64 c3) w := by kernel_rfl

set_option maxHeartbeats 1000000 in
set_option maxRecDepth 100000 in
theorem check_any (c : Ctx) (A : Option Addr) (k0 : Nat) (w : World) (hr : Row w w.heap.size A (dcells c.cloud)) (hl : c.cloud.length ≤ 9223372036854775807) :
    Calls Try.prog 24 #[cval c A k0] w fun e w' => e = .returned (.int .i64 (checkI c)) ∧ Below w.heap.size w w' := by
  obtain ⟨c0, c1, c2, c3, l⟩ := c
  have HR := hid hr
  clear hr
  simp only [cval] at *
  have i0 := clk0 c0 c1 c2 c3
  have i1 := clk1 c0 c1 c2 c3
  have i2 := clk2 c0 c1 c2 c3
  have i3 := clk3 c0 c1 c2 c3
  go_enter Try.func24, Try.ntmps24
  go_wp2
  go_rounds 5
  all_goals first
    | (go_ret; exact ⟨ret_int (checkI_arg (c := ⟨c0, c1, c2, c3, l⟩) (by simp only [clkOk, Bool.and_eq_false_iff, decide_eq_false_iff_not]; omega)).symm, by (repeat' (first | (with_reducible exact Below.refl _ _) | (with_reducible assumption) | (with_reducible refine below_drewN ?_ _) | (with_reducible refine Below.drew ?_) | (with_reducible refine Below.alloc ?_ ?_ _) | (with_reducible refine Below.setCell ?_ ?_ _) | (refine Below.trans ?_ (Below.mono (by assumption) ?_)) | go_size))⟩)
    | (go_ret; exact ⟨ret_int (checkI_large (c := ⟨c0, c1, c2, c3, l⟩) (by simp only [clkOk, Bool.and_eq_true, decide_eq_true_eq]; omega) (by simp only; omega)).symm, by (repeat' (first | (with_reducible exact Below.refl _ _) | (with_reducible assumption) | (with_reducible refine below_drewN ?_ _) | (with_reducible refine Below.drew ?_) | (with_reducible refine Below.alloc ?_ ?_ _) | (with_reducible refine Below.setCell ?_ ?_ _) | (refine Below.trans ?_ (Below.mono (by assumption) ?_)) | go_size))⟩)
    | skip
  have hc : (clkOk c0 && clkOk c1 && clkOk c2 && clkOk c3) = true := by simp only [clkOk, Bool.and_eq_true, decide_eq_true_eq]; omega
  have h4 : l.length ≤ 400 := by omega
  go_loopw [26] (fun i wr => (∃ k : Nat, k ≤ l.length ∧ i = .int .i64 k ∧ ∀ j, j < k → badAt ⟨c0, c1, c2, c3, l⟩ j = false) ∧ Below (w.heap.size + 1) (w.alloc (.cells #[.int .i64 c0, .int .i64 c1, .int .i64 c2, .int .i64 c3, .slice A l.length k0] 25)) wr) (fun i _ => l.length - (intOf i).toNat)
  case atStart => exact ⟨⟨0, by omega, rfl, fun j h => absurd h (by omega)⟩, by (repeat' (first | (with_reducible exact Below.refl _ _) | (with_reducible assumption) | (with_reducible refine below_drewN ?_ _) | (with_reducible refine Below.drew ?_) | (with_reducible refine Below.alloc ?_ ?_ _) | (with_reducible refine Below.setCell ?_ ?_ _) | (refine Below.trans ?_ (Below.mono (by assumption) ?_)) | go_size))⟩
  case round =>
    obtain ⟨⟨k, hk, rfl, hno⟩, hbw⟩ := hrel
    by_cases hlt : k < l.length
    · have hr1 := HR.out.later hbw
      have hsz := size_later hbw
      obtain ⟨b, off, rfl, hb, h0, h1⟩ := hr1.dot hlt
      have hp : 0 < k → ∃ p : Int × Int, l.getD (k - 1) (0, 0) = p ∧ wr.cell? ⟨b, off + (k - 1) * 2, none⟩ = some (.int .i64 p.1) ∧ wr.cell? ⟨b, off + (k - 1) * 2 + 1, none⟩ = some (.int .i64 p.2) := by
        intro hm
        obtain ⟨b', off', he, hb', h0', h1'⟩ := hr1.dot (k := k - 1) (by omega)
        injection he with he
        injection he with he1 he2
        subst he1 he2
        exact ⟨l[k - 1], by simp [List.getD, show k - 1 < l.length by omega], h0', h1'⟩
      have hB := (bcell hbw).1
      have e0 : wr.cell? ⟨w.heap.size, 4, none⟩ = some (.slice (some ⟨b, off, none⟩) l.length k0) := by rw [hB _ _ (by omega)]; simp [go_sem]
      have ec : 0 ≤ (l[k]).1 → (l[k]).1 < 4 → wr.cell? ⟨w.heap.size, (l[k]).1.toNat, none⟩ = some (.int .i64 (Ctx.at_ ⟨c0, c1, c2, c3, l⟩ (l[k]).1)) := by
        intro q0 q4
        rw [hB _ _ (by omega)]
        rcases (by omega : (l[k]).1 = 0 ∨ (l[k]).1 = 1 ∨ (l[k]).1 = 2 ∨ (l[k]).1 = 3) with h | h | h | h <;> simp [h, go_sem, Ctx.at_]
      have hgd : l.getD k (0, 0) = l[k] := by simp [List.getD, hlt]
      have hbad : badAt ⟨c0, c1, c2, c3, l⟩ k = (!rightB (l[k]).1 (l[k]).2 || (decide (0 < k) && !before (l.getD (k - 1) (0, 0)) l[k]) || decide ((l[k]).2 ≤ Ctx.at_ ⟨c0, c1, c2, c3, l⟩ (l[k]).1 + 1)) := by
        simp only [badAt, hgd]
      have HBAD := hid hbad
      have HN := hid hno
      have HB := hid hbw
      clear hgd hbad hno hbw hr1 hB
      generalize l[k] = d at *
      obtain ⟨d0, d1⟩ := d
      simp only at *
      have hne : (b = wr.heap.size) = False := by simp; omega
      have hne2 : (w.heap.size = wr.heap.size) = False := by simp; omega
      have hb1 : b < wr.heap.size + 1 := by omega
      have hb2 : b < wr.heap.size := by omega
      have hw1 : w.heap.size < wr.heap.size + 1 := by omega
      cases hright : rightB d0 d1
      · clear hp
        go_wp2
        refine region_ext (by kernel_rfl) (by kernel_rfl) (fun hext => ?_)
        repeat (any_goals ((with_reducible refine wpQuiet_step (fun K hK => ?_)); go_simp; first | (with_reducible refine hK _ ?_; clear hK K) | ((with_reducible apply Exists.intro); (with_reducible refine ⟨fun _ => ?_, hK _ ?_⟩); (first | (go_at_call 63; exact ext_call _ (by simp) (right_any _ _ _)) | (go_at_call 66; exact ext_call _ (by simp) (order_ints _ _ _ _ _))); clear hK K) | ((with_reducible refine (if_neg ?_).mpr (hK _ ?_)); (decide); clear hK K) | (split <;> (with_reducible refine hK _ ?_; clear hK K))))
        all_goals ((with_reducible refine wpQuiet_nil ?_); clear hext; intro w1 hx1; have hb1 := ext_below hx1; clear hx1)
        go_wp2
        go_ret
        refine ⟨ret_int (checkI_form (c := ⟨c0, c1, c2, c3, l⟩) hc h4 hlt (by rw [HBAD.out]; simp [hright])).symm, ?_⟩
        have hbw := HB.out
        (repeat' (first | (with_reducible exact Below.refl _ _) | (with_reducible assumption) | (with_reducible refine below_drewN ?_ _) | (with_reducible refine Below.drew ?_) | (with_reducible refine Below.alloc ?_ ?_ _) | (with_reducible refine Below.setCell ?_ ?_ _) | (refine Below.trans ?_ (Below.mono (by assumption) ?_)) | go_size))
      · have hR : 0 ≤ d0 ∧ d0 < 4 ∧ 1 ≤ d1 ∧ d1 ≤ 1099511627776 := by simpa [rightB, and_assoc] using hright
        obtain ⟨r0, r4, s0, s1⟩ := hR
        have ec1 := ec r0 r4
        have hat : 0 ≤ Ctx.at_ ⟨c0, c1, c2, c3, l⟩ d0 ∧ Ctx.at_ ⟨c0, c1, c2, c3, l⟩ d0 ≤ 1099511627776 := by simp only [Ctx.at_]; split <;> (try split) <;> (try split) <;> omega
        obtain ⟨hat0, hat1⟩ := hat
        clear ec
        generalize hA : Ctx.at_ ⟨c0, c1, c2, c3, l⟩ d0 = at0 at *
        clear hA
        have zw : IntKind.i64.wrap (at0 + 1) = at0 + 1 := IntWalk.i64_in _ (by omega)
        by_cases hk0 : 0 < k
        · obtain ⟨⟨p0, p1⟩, hpe, g0, g1⟩ := hp hk0
          have hd : decide ((0 : Int) < (k : Int)) = true := by simp; omega
          simp only at g0 g1
          clear hp
          have z1 : IntKind.i64.wrap ((k : Int) - 1) = (k : Int) - 1 := IntWalk.i64_in _ (by omega)
          have z2 : (1 : Int) ≤ (k : Int) := by omega
          have z3 : (k : Int) - 1 < (l.length : Int) := by omega
          have z4 : ((k : Int) - 1).toNat = k - 1 := by omega
          have HPE := hid hpe
          clear hpe
          cases hbf : decide (0 ≤ or2 (cmpI p0 d0) (cmpI p1 d1))
          · have hbe : before (p0, p1) (d0, d1) = true := by
              have := cmp_before (p0, p1) (d0, d1)
              cases hq : before (p0, p1) (d0, d1)
              · rw [hq] at this; simp only [iff_true] at this; rw [decide_eq_false_iff_not] at hbf; exact absurd this hbf
              · rfl
            have HBE := hid hbe
            clear hbe
            go_wp2
            refine region_ext (by kernel_rfl) (by kernel_rfl) (fun hext => ?_)
            repeat (any_goals ((with_reducible refine wpQuiet_step (fun K hK => ?_)); go_simp; first | (with_reducible refine hK _ ?_; clear hK K) | ((with_reducible apply Exists.intro); (with_reducible refine ⟨fun _ => ?_, hK _ ?_⟩); (first | (go_at_call 63; exact ext_call _ (by simp) (right_any _ _ _)) | (go_at_call 66; exact ext_call _ (by simp) (order_ints _ _ _ _ _))); clear hK K) | ((with_reducible refine (if_neg ?_).mpr (hK _ ?_)); (decide); clear hK K) | (split <;> (with_reducible refine hK _ ?_; clear hK K))))
            all_goals ((with_reducible refine wpQuiet_nil ?_); clear hext; intro w1 hx1; have hb1 := ext_below hx1; clear hx1)
            go_wp2
            · have ht : d1 ≤ at0 + 1 := by omega
              go_ret
              refine ⟨ret_int (checkI_form (c := ⟨c0, c1, c2, c3, l⟩) hc h4 hlt (by rw [HBAD.out]; simp [ht])).symm, ?_⟩
              have hbw := HB.out
              (repeat' (first | (with_reducible exact Below.refl _ _) | (with_reducible assumption) | (with_reducible refine below_drewN ?_ _) | (with_reducible refine Below.drew ?_) | (with_reducible refine Below.alloc ?_ ?_ _) | (with_reducible refine Below.setCell ?_ ?_ _) | (refine Below.trans ?_ (Below.mono (by assumption) ?_)) | go_size))
            · have ht : at0 + 1 < d1 := by omega
              go_roundw
              case rel =>
                refine ⟨⟨k + 1, by omega, by go_num, fun j hj => ?_⟩, ?_⟩
                · by_cases e : j = k
                  · subst e; rw [HBAD.out, HPE.out, HBE.out, hright]; simp; omega
                  · exact HN.out j (by omega)
                · have hbw := HB.out
                  (repeat' (first | (with_reducible exact Below.refl _ _) | (with_reducible assumption) | (with_reducible refine below_drewN ?_ _) | (with_reducible refine Below.drew ?_) | (with_reducible refine Below.alloc ?_ ?_ _) | (with_reducible refine Below.setCell ?_ ?_ _) | (refine Below.trans ?_ (Below.mono (by assumption) ?_)) | go_size))
              case measure => simp [intOf]; omega
          · have hbe : before (p0, p1) (d0, d1) = false := (cmp_before (p0, p1) (d0, d1)).1 (by simpa using hbf)
            have HBE := hid hbe
            clear hbe
            go_wp2
            refine region_ext (by kernel_rfl) (by kernel_rfl) (fun hext => ?_)
            repeat (any_goals ((with_reducible refine wpQuiet_step (fun K hK => ?_)); go_simp; first | (with_reducible refine hK _ ?_; clear hK K) | ((with_reducible apply Exists.intro); (with_reducible refine ⟨fun _ => ?_, hK _ ?_⟩); (first | (go_at_call 63; exact ext_call _ (by simp) (right_any _ _ _)) | (go_at_call 66; exact ext_call _ (by simp) (order_ints _ _ _ _ _))); clear hK K) | ((with_reducible refine (if_neg ?_).mpr (hK _ ?_)); (decide); clear hK K) | (split <;> (with_reducible refine hK _ ?_; clear hK K))))
            all_goals ((with_reducible refine wpQuiet_nil ?_); clear hext; intro w1 hx1; have hb1 := ext_below hx1; clear hx1)
            go_wp2
            go_ret
            refine ⟨ret_int (checkI_form (c := ⟨c0, c1, c2, c3, l⟩) hc h4 hlt (by rw [HBAD.out, HPE.out, HBE.out]; simp [hk0])).symm, ?_⟩
            have hbw := HB.out
            (repeat' (first | (with_reducible exact Below.refl _ _) | (with_reducible assumption) | (with_reducible refine below_drewN ?_ _) | (with_reducible refine Below.drew ?_) | (with_reducible refine Below.alloc ?_ ?_ _) | (with_reducible refine Below.setCell ?_ ?_ _) | (refine Below.trans ?_ (Below.mono (by assumption) ?_)) | go_size))
        · have hd : decide ((0 : Int) < (k : Int)) = false := by simp; omega
          have hd2 : decide (0 < k) = false := by simp; omega
          rw [hd2] at HBAD
          clear hp hd2
          go_wp2
          refine region_ext (by kernel_rfl) (by kernel_rfl) (fun hext => ?_)
          repeat (any_goals ((with_reducible refine wpQuiet_step (fun K hK => ?_)); go_simp; first | (with_reducible refine hK _ ?_; clear hK K) | ((with_reducible apply Exists.intro); (with_reducible refine ⟨fun _ => ?_, hK _ ?_⟩); (first | (go_at_call 63; exact ext_call _ (by simp) (right_any _ _ _)) | (go_at_call 66; exact ext_call _ (by simp) (order_ints _ _ _ _ _))); clear hK K) | ((with_reducible refine (if_neg ?_).mpr (hK _ ?_)); (decide); clear hK K) | (split <;> (with_reducible refine hK _ ?_; clear hK K))))
          all_goals ((with_reducible refine wpQuiet_nil ?_); clear hext; intro w1 hx1; have hb1 := ext_below hx1; clear hx1)
          go_wp2
          · have ht : d1 ≤ at0 + 1 := by omega
            go_ret
            refine ⟨ret_int (checkI_form (c := ⟨c0, c1, c2, c3, l⟩) hc h4 hlt (by rw [HBAD.out]; simp [ht])).symm, ?_⟩
            have hbw := HB.out
            (repeat' (first | (with_reducible exact Below.refl _ _) | (with_reducible assumption) | (with_reducible refine below_drewN ?_ _) | (with_reducible refine Below.drew ?_) | (with_reducible refine Below.alloc ?_ ?_ _) | (with_reducible refine Below.setCell ?_ ?_ _) | (refine Below.trans ?_ (Below.mono (by assumption) ?_)) | go_size))
          · have ht : at0 + 1 < d1 := by omega
            go_roundw
            case rel =>
              refine ⟨⟨k + 1, by omega, by go_num, fun j hj => ?_⟩, ?_⟩
              · by_cases e : j = k
                · subst e; rw [HBAD.out, hright]; simp; omega
                · exact HN.out j (by omega)
              · have hbw := HB.out
                (repeat' (first | (with_reducible exact Below.refl _ _) | (with_reducible assumption) | (with_reducible refine below_drewN ?_ _) | (with_reducible refine Below.drew ?_) | (with_reducible refine Below.alloc ?_ ?_ _) | (with_reducible refine Below.setCell ?_ ?_ _) | (refine Below.trans ?_ (Below.mono (by assumption) ?_)) | go_size))
            case measure => simp [intOf]; omega
    · go_wp2
      go_ret
      exact ⟨ret_int (checkI_ok (c := ⟨c0, c1, c2, c3, l⟩) hc h4 (fun i hi => hno i (by simp only at hi; omega))).symm, Below.trans (b := w.alloc _) (by (repeat' (first | (with_reducible exact Below.refl _ _) | (with_reducible assumption) | (with_reducible refine below_drewN ?_ _) | (with_reducible refine Below.drew ?_) | (with_reducible refine Below.alloc ?_ ?_ _) | (with_reducible refine Below.setCell ?_ ?_ _) | (refine Below.trans ?_ (Below.mono (by assumption) ?_)) | go_size))) (hbw.mono (Nat.le_succ _))⟩
end Go.Proofs.Ytogegnikpjcpdaa
