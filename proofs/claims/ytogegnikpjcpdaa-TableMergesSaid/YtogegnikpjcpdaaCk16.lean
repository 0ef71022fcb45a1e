/- Since, TSi -/
import Derived.Test.YtogegnikpjcpdaaCk15
import Derived.Test.YtogegnikpjcpdaaCk10
import Derived.Test.YtogegnikpjcpdaaCk11
import Derived.Test.YtogegnikpjcpdaaCk13
import Derived.Test.YtogegnikpjcpdaaCk07
/- table.Since. -/
namespace Go.Proofs.Ytogegnikpjcpdaa
set_option linter.unusedVariables false
open Go.ChangeShapes Go.WideShapes Go.ChangeAt Go.RowKit

set_option maxRecDepth 100000 in
theorem since1_any (x : Cel) (c : Ctx) (X : Nat) (A : Option Addr) (k : Nat) (w : World) (hX : Blk w X (cbox c A k) 25) (ra : Row w w.heap.size A (dcells c.cloud)) (la : c.cloud.length ≤ 9223372036854775807) :
    Calls Try.prog 93 #[celv x, .pointer (some ⟨X, 0, none⟩)] w fun e w' => e = .returned (.bool (hasB c x.d)) ∧ Below w.heap.size w w' := by
  have HH := hid (fun w1 (hb : Below w.heap.size w w1) => has_any c x.d A k w1 (ra.step hb) la)
  obtain ⟨cx, fx, sx, nx⟩ := hX.all
  simp only [cbox] at cx
  clear hX ra
  obtain ⟨⟨d0, d1⟩, ky, co, vl⟩ := x
  simp only [celv, cval, dval] at HH ⊢
  go_enter Try.func93, Try.ntmps93
  go_wp2_with fail
  refine (HH.out _ (by (repeat' (first | (with_reducible exact Below.refl _ _) | (with_reducible assumption) | (with_reducible refine below_drewN ?_ _) | (with_reducible refine Below.drew ?_) | (with_reducible refine Below.alloc ?_ ?_ _) | (with_reducible refine Below.setCell ?_ ?_ _) | (refine Below.trans ?_ (Below.mono (by assumption) ?_)) | go_size)))).mono ?_
  rintro e w1 ⟨rfl, hb1⟩
  have HBW := hid (show Below w.heap.size w w1 from (by refine Below.step' ?_ hb1; (repeat' (first | (with_reducible exact Below.refl _ _) | (with_reducible assumption) | (with_reducible refine below_drewN ?_ _) | (with_reducible refine Below.drew ?_) | (with_reducible refine Below.alloc ?_ ?_ _) | (with_reducible refine Below.setCell ?_ ?_ _) | (refine Below.trans ?_ (Below.mono (by assumption) ?_)) | go_size))))
  go_wp2
  go_ret
  exact ⟨rfl, HBW.out⟩
theorem enters_since1 : ∀ args w, (callFunc 93 args).run Try.prog w = .ok (.enter 93 args) w := enters_of Try.func93 (by kernel_rfl) rfl

set_option maxHeartbeats 4000000 in
set_option maxRecDepth 100000 in
theorem since_any (t : Tab) (c : Ctx) (A : Option Addr) (k : Nat) (B : Option Addr) (m : Nat) (A' : Option Addr) (k' : Nat) (w : World)
    (ra : Row w w.heap.size A (dcells t.c.cloud)) (la : t.c.cloud.length ≤ 9223372036854775807) (rb : Row w w.heap.size B (tcells t.cells)) (lb : t.cells.length ≤ 9223372036854775807)
    (ra' : Row w w.heap.size A' (dcells c.cloud)) (la' : c.cloud.length ≤ 9223372036854775807) :
    Calls Try.prog 56 #[tval t A k B m, cval c A' k'] w (TabErr (sinceX t c) (sinceE t c) w) := by
  have HTC := hid (fun w1 (hb : Below w.heap.size w w1) => tcheck_any t A k B m w1 (ra.step hb) la (rb.step hb) lb)
  have HCC := hid (fun w1 (hb : Below w.heap.size w w1) => check_any c A' k' w1 (ra'.step hb) la')
  have HDO : Hid (tabI t = 0 → ∀ w1 X, Below w.heap.size w w1 → Blk w1 X (cbox c A' k') 25 → Calls Try.prog 78 #[tval t A k B m, .func (.func 93) #[] #[.pointer (some ⟨X, 0, none⟩)]] w1 (DotsPost (goneL t c) w1)) :=
    hid (fun h w1 X hb hX => dots_any t 93 #[.pointer (some ⟨X, 0, none⟩)] (fun x => hasB c x.d) A k B m w1 (rb.step hb) (by have := (tabI_zero h).2.1; omega) enters_since1
      (fun w2 hb2 x _ => since1_any x c X A' k' w2 (hX.step hb2) (ra'.step (Below.step' hb hb2)) la'))
  have HWO : Hid (tabI t = 0 → ∀ w1 G n, Below w.heap.size w w1 → Row w1 w1.heap.size G (dcells (goneL t c)) → Calls Try.prog 92 #[cval t.c A k, .slice G (goneL t c).length n] w1 (CtxErr (woX t.c (goneL t c)) (woE t.c (goneL t c)) w1)) :=
    hid (fun h w1 G n hb hG => by
      obtain ⟨t1, t2, t3, -, -⟩ := tabI_iff.1 h
      exact without_any t.c (goneL t c) A G k n w1 (ra.step hb) t2 hG (Nat.le_trans (gone_len t c) t3) t1 (gone_right h))
  have HHC := hid (fun d w1 (hb : Below w.heap.size w w1) => has_any c d A' k' w1 (ra'.step hb) la')
  have HRB := hid (fun w1 (hb : Below w.heap.size w w1) => rb.step hb)
  have HLN : Hid (tabI t = 0 → t.cells.length ≤ 400) := hid (fun h => (tabI_zero h).2.1)
  have HKP := hid (show keepL t c = t.cells.filter (fun x => !hasB c x.d) from rfl)
  have hX1 : (tabI t ≠ 0 ∨ checkI c ≠ 0 ∨ woE t.c (goneL t c) ≠ 0) → sinceX t c = zT := fun h => by unfold sinceX; rw [if_pos h]
  have hX2 : tabI t = 0 → checkI c = 0 → woE t.c (goneL t c) = 0 → sinceX t c = ⟨woX t.c (goneL t c), keepL t c⟩ := fun h1 h2 h3 => by
    unfold sinceX; rw [if_neg (by simp [h1, h2, h3])]
    unfold woX
    rw [if_neg]
    intro h4
    unfold woE at h3; rw [if_pos h4] at h3; cases h3
  have hE : sinceE t c = if tabI t ≠ 0 then tabI t else if checkI c ≠ 0 then checkI c else woE t.c (goneL t c) := rfl
  obtain ⟨R, hR⟩ : ∃ R, R = sinceX t c := ⟨_, rfl⟩
  obtain ⟨RE, hRE⟩ : ∃ RE, RE = sinceE t c := ⟨_, rfl⟩
  rw [← hR, ← hRE]
  rw [← hR] at hX1 hX2
  rw [← hRE] at hE
  clear hR hRE
  obtain ⟨KL, hKL⟩ : ∃ KL, KL = keepL t c := ⟨_, rfl⟩
  rw [← hKL] at HKP hX2
  clear hKL
  obtain ⟨G, hG⟩ : ∃ G, G = goneL t c := ⟨_, rfl⟩
  rw [← hG] at HDO HWO hX1 hX2 hE
  clear hG
  obtain ⟨J, hJ⟩ : ∃ J, J = woX t.c G := ⟨_, rfl⟩
  obtain ⟨JE, hJE⟩ : ∃ J, J = woE t.c G := ⟨_, rfl⟩
  rw [← hJ, ← hJE] at HWO
  rw [← hJ] at hX2
  rw [← hJE] at hX1 hX2 hE
  clear hJ hJE
  obtain ⟨TE, hTE⟩ : ∃ J, J = tabI t := ⟨_, rfl⟩
  obtain ⟨CE, hCE⟩ : ∃ J, J = checkI c := ⟨_, rfl⟩
  rw [← hTE] at HTC HDO HWO HLN hX1 hX2 hE
  rw [← hCE] at HCC hX1 hX2 hE
  clear hTE hCE
  have HX1 := hid hX1
  have HX2 := hid hX2
  have HE := hid hE
  clear hX1 hX2 hE ra rb ra'
  obtain ⟨⟨c0, c1, c2, c3, cl⟩, l⟩ := t
  obtain ⟨f0, f1, f2, f3, fl⟩ := c
  simp only [tval, cval, dval, cbox] at HTC HCC HDO HWO HHC ⊢
  simp only at HRB HLN HKP
  obtain ⟨i0, hi0, hz0, hz1, hz2⟩ := info_parts info_cel
  go_enter Try.func56, Try.ntmps56
  go_wp2_with fail
  refine (HTC.out _ (by (repeat' (first | (with_reducible exact Below.refl _ _) | (with_reducible assumption) | (with_reducible refine below_drewN ?_ _) | (with_reducible refine Below.drew ?_) | (with_reducible refine Below.alloc ?_ ?_ _) | (with_reducible refine Below.setCell ?_ ?_ _) | (refine Below.trans ?_ (Below.mono (by assumption) ?_)) | go_size)))).mono ?_
  rintro e w1 ⟨rfl, hb1⟩
  have HBW := hid (show Below w.heap.size w w1 from (by refine Below.step' ?_ hb1; (repeat' (first | (with_reducible exact Below.refl _ _) | (with_reducible assumption) | (with_reducible refine below_drewN ?_ _) | (with_reducible refine Below.drew ?_) | (with_reducible refine Below.alloc ?_ ?_ _) | (with_reducible refine Below.setCell ?_ ?_ _) | (refine Below.trans ?_ (Below.mono (by assumption) ?_)) | go_size))))
  have HXA := hid (Blk.step (w := _) (b := w.heap.size) (cs := #[.int .i64 c0, .int .i64 c1, .int .i64 c2, .int .i64 c3, .slice A cl.length k, .slice B l.length m]) (T := 59) (by exact ((Blk.new w _ _).alloc _).alloc _) hb1)
  have HXB := hid (Blk.step (w := _) (b := w.heap.size + 1) (cs := #[.int .i64 f0, .int .i64 f1, .int .i64 f2, .int .i64 f3, .slice A' fl.length k']) (T := 25) (by exact (Blk.new' (w.alloc _) _ _ (by simp)).alloc _) hb1)
  have HXR := hid (Blk.step (w := _) (b := w.heap.size + 1 + 1) (cs := #[.int .i64 0, .int .i64 0, .int .i64 0, .int .i64 0, .slice none 0 0, .slice none 0 0]) (T := 59) (by exact Blk.new' ((w.alloc _).alloc _) _ _ (by simp)) hb1)
  clear hb1
  have hs := HBW.out.size
  have hxr := HXR.out.lt
  by_cases qA : TE = 0
  rotate_left
  · have t1 : (TE != 0) = true := by simpa using qA
    have EZ := hid qA
    clear qA
    have E1 : Hid (R = zT) := hid (HX1.out (.inl EZ.out))
    have E2 : Hid (RE = TE) := hid (by have e := HE.out; rw [if_pos EZ.out] at e; exact e)
    have hR := HXR.out
    obtain ⟨⟨r0, r1, r2, r3, r4, r5⟩, g0, g1, g2, g3, g4, g5⟩ := hR.six
    have HR6 := hid (Blk.set6 hR (.int .i64 0) (.int .i64 0) (.int .i64 0) (.int .i64 0) (.slice none 0 0) (.slice none 0 0))
    have HB6 := hid (Below.set6 HBW.out (show w.heap.size ≤ w.heap.size + 1 + 1 by omega) (.int .i64 0) (.int .i64 0) (.int .i64 0) (.int .i64 0) (.slice none 0 0) (.slice none 0 0))
    clear hR
    go_wp2
    obtain ⟨⟨q0, q1, q2, q3, q4, q5⟩, -⟩ := HR6.out.six
    exact bodyPost_ret (v := .tuple #[tval zT none 0 none 0, .int .i64 TE]) (by simp [results, Try.results56, go_sem, q0, q1, q2, q3, q4, q5, zT]) rfl ⟨none, 0, none, 0, by rw [E1.out, E2.out], by rw [E1.out]; exact Row.nil, by rw [E1.out]; exact Row.nil, HB6.out, newAt_none _, newAt_none _⟩
  · subst qA
    obtain ⟨cHXB, fHXB, sHXB, nHXB⟩ := HXB.out.all
    try simp only [cbox] at cHXB
    go_wp2_with fail
    refine (HCC.out _ HBW.out).mono ?_
    rintro e w2 ⟨rfl, hb2⟩
    clear cHXB fHXB sHXB nHXB
    replace HXA := hid (HXA.out.step hb2)
    replace HXB := hid (HXB.out.step hb2)
    replace HXR := hid (HXR.out.step hb2)
    replace HBW := hid (Below.step' HBW.out hb2)
    clear hb2
    by_cases qB : CE = 0
    rotate_left
    · have t1 : (CE != 0) = true := by simpa using qB
      have EZ := hid qB
      clear qB
      have E1 : Hid (R = zT) := hid (HX1.out (.inr (.inl EZ.out)))
      have E2 : Hid (RE = CE) := hid (by have e := HE.out; rw [if_neg (by simp), if_pos EZ.out] at e; exact e)
      have hR := HXR.out
      obtain ⟨⟨r0, r1, r2, r3, r4, r5⟩, g0, g1, g2, g3, g4, g5⟩ := hR.six
      have HR6 := hid (Blk.set6 hR (.int .i64 0) (.int .i64 0) (.int .i64 0) (.int .i64 0) (.slice none 0 0) (.slice none 0 0))
      have HB6 := hid (Below.set6 HBW.out (show w.heap.size ≤ w.heap.size + 1 + 1 by omega) (.int .i64 0) (.int .i64 0) (.int .i64 0) (.int .i64 0) (.slice none 0 0) (.slice none 0 0))
      clear hR
      go_wp2
      obtain ⟨⟨q0, q1, q2, q3, q4, q5⟩, -⟩ := HR6.out.six
      exact bodyPost_ret (v := .tuple #[tval zT none 0 none 0, .int .i64 CE]) (by simp [results, Try.results56, go_sem, q0, q1, q2, q3, q4, q5, zT]) rfl ⟨none, 0, none, 0, by rw [E1.out, E2.out], by rw [E1.out]; exact Row.nil, by rw [E1.out]; exact Row.nil, HB6.out, newAt_none _, newAt_none _⟩
    · subst qB
      have hl1 := HLN.out (by first | rfl | trivial)
      obtain ⟨W, hW⟩ : ∃ W : World, W = w2 := ⟨_, rfl⟩
      subst hW
      have hbw := HBW.out
      have hxrW := HXR.out.lt
      have hxb := HXB.out
      have KDO := hid (fun w1 (hb : Below W.heap.size W w1) => HDO.out (by first | rfl | trivial) w1 (w.heap.size + 1) (Below.step' hbw hb) (hxb.step hb))
      have KWO := hid (fun w1 G n (hb : Below W.heap.size W w1) => HWO.out (by first | rfl | trivial) w1 G n (Below.step' hbw hb))
      clear hbw hxb HDO HWO HLN HTC HCC
      obtain ⟨cHXA, fHXA, sHXA, nHXA⟩ := HXA.out.all
      try simp only [cbox] at cHXA
      obtain ⟨cHXB, fHXB, sHXB, nHXB⟩ := HXB.out.all
      try simp only [cbox] at cHXB
      go_upto_region 7 with fail
      go_cut [8, 9] from 26 to 33 (fun s8 s9 wx => ∃ X A5 k5, s8 = .pointer (some ⟨X, 0, none⟩) ∧ s9 = .int .i64 JE ∧ Blk wx X (cbox J A5 k5) 25 ∧ Row wx wx.heap.size A5 (dcells J.cloud) ∧ NewAt W.heap.size A5 ∧ Below W.heap.size W wx)
      case first =>
        go_region_held3 (fun w' => (∀ b o, b < W.heap.size → w'.cell? ⟨b, o, none⟩ = W.cell? ⟨b, o, none⟩) ∧ Below W.heap.size W w')
          ((go_split_ands; refine keepS ?_; first | (with_reducible assumption) | (with_reducible exact (Below.refl _ _).drew) | (with_reducible exact (alloc_below (Below.refl _ _) _).drew) | (with_reducible refine alloc_below ?_ _; with_reducible assumption) | (with_reducible refine Below.drew (alloc_below ?_ _); with_reducible assumption) | (with_reducible refine Below.set5 ?_ ?_ _ _ _ _ _; with_reducible assumption; first | exact Nat.le_refl _ | (refine Below.size (B := W.heap.size) (w := W) ?_; with_reducible assumption))))
          (first
            | (go_split_ands; go_at_call 78; (with_reducible refine (KDO.out _ (by with_reducible assumption)).mono ?_); rintro e w5 ⟨v5, rfl, hown5, hb5⟩; obtain ⟨A5, c5, rfl⟩ := own_form hown5; have hB5 := Below.step' (by with_reducible assumption : Below W.heap.size W _) hb5; (try have x5 := Blk.step (show Blk (World.drew (W.alloc (.cells #[.int .i64 0, .int .i64 0, .int .i64 0, .int .i64 0, .slice none 0 0] 25))) W.heap.size #[.int .i64 0, .int .i64 0, .int .i64 0, .int .i64 0, .slice none 0 0] 25 from Blk.new W #[.int .i64 0, .int .i64 0, .int .i64 0, .int .i64 0, .slice none 0 0] 25) hb5))
            | (go_split_ands; go_at_call 92; (with_reducible refine (KWO.out _ A5 c5 (by with_reducible assumption) (Row.of_own hown5)).mono ?_); rintro e w9 ⟨A9, k9, rfl, hrow9, hb9, hnew9⟩; have hB9 := Below.step' (by with_reducible assumption : Below W.heap.size W _) hb9; (try have x9 := Blk.step x5 hb9); (try have x9 := Blk.step (Blk.new w5 #[.int .i64 0, .int .i64 0, .int .i64 0, .int .i64 0, .slice none 0 0] 25) hb9); (try obtain ⟨⟨cx0, cx1, cx2, cx3, cx4⟩, fx0, fx1, fx2, fx3, fx4⟩ := x9.five))
            | (go_split_ands; go_at_call 92; (with_reducible refine (KWO.out _ A5 c5 (by with_reducible assumption) (Row.of_own (World.ownsRow.alloc hown5 _))).mono ?_); rintro e w9 ⟨A9, k9, rfl, hrow9, hb9, hnew9⟩; have hB9 := Below.step' (by with_reducible assumption : Below W.heap.size W _) hb9; (try have x9 := Blk.step x5 hb9); (try have x9 := Blk.step (Blk.new w5 #[.int .i64 0, .int .i64 0, .int .i64 0, .int .i64 0, .slice none 0 0] 25) hb9); (try obtain ⟨⟨cx0, cx1, cx2, cx3, cx4⟩, fx0, fx1, fx2, fx3, fx4⟩ := x9.five)))
        · go_wp2
          go_meet
          case rel => exact ⟨w9.heap.size, A9, k9, rfl, rfl, Blk.new w9 _ _, hrow9.alloc _, fun b off q e => Nat.le_trans hB5.size (hnew9 b off q e), alloc_below hB9 _⟩
        · go_wp2
          go_meet
          case rel => exact ⟨w5.heap.size, A9, k9, rfl, rfl, Blk.set5 x9 _ _ _ _ _, Row.set5 hrow9 hnew9 (lt_alloc w5 _) _ _ _ _ _, fun b off q e => Nat.le_trans (Nat.le_trans hB5.size (le_alloc _ _)) (hnew9 b off q e), Below.set5 hB9 hB5.size _ _ _ _ _⟩
        all_goals
          go_wp2
          go_meet
          case rel => exact ⟨W.heap.size, A9, k9, rfl, rfl, Blk.set5 x9 _ _ _ _ _, Row.set5 hrow9 hnew9 (Nat.lt_of_lt_of_le (lt_alloc W _) hb5.size) _ _ _ _ _, fun b off q e => Nat.le_trans hB5.size (hnew9 b off q e), Below.set5 hB9 (Nat.le_refl _) _ _ _ _ _⟩
      case rest =>
        clear cHXA fHXA sHXA nHXA
        clear cHXB fHXB sHXB nHXB
        obtain ⟨X, A5, k5, rfl, rfl, hX, hrow, hnew, hb⟩ := hcut
        obtain ⟨wx, rfl⟩ : ∃ wx : World, wx = wc := ⟨_, rfl⟩
        have hsW := HBW.out.size
        replace HXA := hid (HXA.out.step hb)
        replace HXB := hid (HXB.out.step hb)
        replace HXR := hid (HXR.out.step hb)
        replace HBW := hid (Below.step' HBW.out hb)
        have HX := hid hX
        have HROW := hid hrow
        have HNEW := hid hnew
        have hsx := hb.size
        clear hX hrow hnew hb KDO KWO
        by_cases qJ : JE = 0
        rotate_left
        · have t1 : (JE != 0) = true := by simpa using qJ
          have EZ := hid qJ
          clear qJ
          have E1 : Hid (R = zT) := hid (HX1.out (.inr (.inr EZ.out)))
          have E2 : Hid (RE = JE) := hid (by have e := HE.out; rw [if_neg (by simp), if_neg (by simp)] at e; exact e)
          have hR := HXR.out
          obtain ⟨⟨r0, r1, r2, r3, r4, r5⟩, g0, g1, g2, g3, g4, g5⟩ := hR.six
          have HR6 := hid (Blk.set6 hR (.int .i64 0) (.int .i64 0) (.int .i64 0) (.int .i64 0) (.slice none 0 0) (.slice none 0 0))
          have HB6 := hid (Below.set6 HBW.out (show w.heap.size ≤ w.heap.size + 1 + 1 by omega) (.int .i64 0) (.int .i64 0) (.int .i64 0) (.int .i64 0) (.slice none 0 0) (.slice none 0 0))
          clear hR
          go_wp2
          obtain ⟨⟨q0, q1, q2, q3, q4, q5⟩, -⟩ := HR6.out.six
          exact bodyPost_ret (v := .tuple #[tval zT none 0 none 0, .int .i64 JE]) (by simp [results, Try.results56, go_sem, q0, q1, q2, q3, q4, q5, zT]) rfl ⟨none, 0, none, 0, by rw [E1.out, E2.out], by rw [E1.out]; exact Row.nil, by rw [E1.out]; exact Row.nil, HB6.out, newAt_none _, newAt_none _⟩
        · subst qJ
          have E1 := hid (HX2.out (by first | rfl | trivial) (by first | rfl | trivial) (by first | rfl | trivial))
          have E2 : Hid (RE = 0) := hid (by have e := HE.out; rw [if_neg (by simp), if_neg (by simp)] at e; exact e)
          have KHC := hid (fun w1 (hb : Below wx.heap.size wx w1) d => HHC.out d w1 (Below.step' HBW.out hb))
          have KRB := hid (fun w1 (hb : Below wx.heap.size wx w1) => HRB.out w1 (Below.step' HBW.out hb))
          obtain ⟨⟨x0, x1, x2, x3, x4⟩, -⟩ := HX.out.five
          obtain ⟨cxa, -, sxa, nxa⟩ := HXA.out.all
          have bt := fun w => build_tab0 J.c0 J.c1 J.c2 J.c3 A5 J.cloud.length k5 w
          have nx3 : w.heap.size < wx.heap.size := HXA.out.lt
          go_wp2
          obtain ⟨W3, hW3⟩ : ∃ W3 : World, W3 = wx.alloc (.cells #[.int .i64 J.c0, .int .i64 J.c1, .int .i64 J.c2, .int .i64 J.c3, .slice A5 J.cloud.length k5, .slice none 0 0] 59) := ⟨_, rfl⟩
          rw [← hW3]
          have HB3 := hid (show Below wx.heap.size wx W3 by rw [hW3]; exact alloc_below (Below.refl _ _) _)
          have HXO := hid (show Blk W3 wx.heap.size #[.int .i64 J.c0, .int .i64 J.c1, .int .i64 J.c2, .int .i64 J.c3, .slice A5 J.cloud.length k5, .slice none 0 0] 59 by rw [hW3]; exact Blk.new _ _ _)
          have hs3 : wx.heap.size < W3.heap.size := HXO.out.lt
          clear hW3 x0 x1 x2 x3 x4 cxa sxa nxa bt
          go_loopw [43] (fun s43 wr => ∃ (i : Nat) (A8 : Option Addr) (c8 : Nat), i ≤ l.length ∧ s43 = .int .i64 i ∧ Blk wr wx.heap.size #[.int .i64 J.c0, .int .i64 J.c1, .int .i64 J.c2, .int .i64 J.c3, .slice A5 J.cloud.length k5, .slice A8 ((l.take i).filter (fun x => !hasB ⟨f0, f1, f2, f3, fl⟩ x.d)).length c8] 59 ∧
            wr.ownsRow (wx.heap.size + 1) 62 5 (.slice A8 ((l.take i).filter (fun x => !hasB ⟨f0, f1, f2, f3, fl⟩ x.d)).length c8) ((l.take i).filter (fun x => !hasB ⟨f0, f1, f2, f3, fl⟩ x.d)).length (tcells ((l.take i).filter (fun x => !hasB ⟨f0, f1, f2, f3, fl⟩ x.d))) ∧ Below wx.heap.size W3 wr) (fun s43 _ => l.length - (intOf s43).toNat)
          case atStart => exact ⟨0, none, 0, by omega, rfl, by simpa using HXO.out, by simpa using World.ownsRow_nil _ _ _ _, Below.refl _ _⟩
          case round =>
            obtain ⟨i, A8, c8, hi, rfl, hxo, hown, hbw⟩ := hrel
            have hst : ∀ hj : i < l.length, (l.take (i + 1)).filter (fun x => !hasB ⟨f0, f1, f2, f3, fl⟩ x.d) = (l.take i).filter (fun x => !hasB ⟨f0, f1, f2, f3, fl⟩ x.d) ++ (if hasB ⟨f0, f1, f2, f3, fl⟩ l[i].d = true then [] else [l[i]]) := by
              intro hj
              rw [List.take_succ_eq_append_getElem hj, List.filter_append, List.filter_cons, List.filter_nil]
              cases hasB ⟨f0, f1, f2, f3, fl⟩ l[i].d <;> rfl
            have hol : ((l.take i).filter (fun x => !hasB ⟨f0, f1, f2, f3, fl⟩ x.d)).length ≤ 400 := by
              have := List.length_filter_le (fun x : Cel => !hasB ⟨f0, f1, f2, f3, fl⟩ x.d) (l.take i)
              rw [List.length_take] at this
              omega
            have hfin : ¬ i < l.length → (l.take i).filter (fun x => !hasB ⟨f0, f1, f2, f3, fl⟩ x.d) = KL := fun h => by rw [HKP.out, List.take_of_length_le (by omega)]
            obtain ⟨O, hO⟩ : ∃ O, O = (l.take i).filter (fun x => !hasB ⟨f0, f1, f2, f3, fl⟩ x.d) := ⟨_, rfl⟩
            rw [← hO] at hown hxo hst hol hfin
            clear hO
            have HOWN := hid hown
            have HXO1 := hid hxo
            have HB1 := hid hbw
            have HBX := hid (HB3.out.trans hbw)
            have HFIN := hid hfin
            have HXB1 := hid (HXB.out.step (HB3.out.trans hbw))
            have hxl := hxo.lt
            have hs4 := hbw.size
            clear hown hxo hbw hfin HXO
            by_cases hlt : i < l.length
            · obtain ⟨b, off, hA, hb, e0, e1, e2, e3, e4⟩ := (KRB.out wr HBX.out).cel hlt
              subst hA
              have HST := hid (hst hlt)
              clear hst
              generalize l[i] = x at *
              obtain ⟨⟨d0, d1⟩, ky, co, vl⟩ := x
              simp only at e0 e1 e2 e3 e4
              have hh := fun w1 hb => KHC.out w1 hb (d0, d1)
              simp only [dval] at hh
              have hneb : (b = wr.heap.size) = False := by simp; omega
              obtain ⟨cHXB1, fHXB1, sHXB1, nHXB1⟩ := HXB1.out.all
              try simp only [cbox] at cHXB1
              cases hhas : hasB ⟨f0, f1, f2, f3, fl⟩ (d0, d1)
              all_goals
                rw [hhas] at hh
                have HHH := hid hh
                have HQ := hid hhas
                clear hh hhas
                go_wp2_with fail
                refine (HHH.out _ (HBX.out.alloc HBX.out.size _)).mono ?_
                rintro e w5 ⟨rfl, hb5⟩
                have hB5 : Below wr.heap.size wr w5 := (by refine Below.step' ?_ hb5; (repeat' (first | (with_reducible exact Below.refl _ _) | (with_reducible assumption) | (with_reducible refine below_drewN ?_ _) | (with_reducible refine Below.drew ?_) | (with_reducible refine Below.alloc ?_ ?_ _) | (with_reducible refine Below.setCell ?_ ?_ _) | (refine Below.trans ?_ (Below.mono (by assumption) ?_)) | go_size)))
                have HOWN5 := hid (own_laterS HOWN.out hB5)
                have HXO5 := hid (HXO1.out.step hB5)
                have HB5 := hid (HB1.out.trans (hB5.mono (Nat.le_of_lt hxl)))
                have HX5 := hid (Blk.step (Blk.new wr #[.int .i64 d0, .int .i64 d1, .int .i64 ky, .int .i64 co, .int .i64 vl] 62) hb5)
                have hs5 := hB5.size
                clear cHXB1 fHXB1 sHXB1 nHXB1
                clear hb5 hB5 e0 e1 e2 e3 e4 hneb hb
              · obtain ⟨⟨o0, o1, o2, o3, o4, o5⟩, p0, p1, p2, p3, p4, p5⟩ := HXO5.out.six
                obtain ⟨cHX5, fHX5, sHX5, nHX5⟩ := HX5.out.all
                try simp only [cbox] at cHX5
                go_wp2_with (at_builtin; refine wpList_append_own _ rfl _ _ 57 rfl (wx.heap.size + 1) 62 i0 _ 5 40 Try.underlying57 hi0 hz0 hz1 hz2 rfl (by decide) _ _ _ rfl (HOWN5.out.alloc _) ⟨w5.heap.size, 0, none⟩ 1 1 (tcells [⟨(d0, d1), ky, co, vl⟩]) rfl rfl (newsT w5 ⟨(d0, d1), ky, co, vl⟩ _ _ rfl) (tcells_one _) ?_ ?_ ?_ ?_; rotate_right; intro v6 w6 hown6 hg6 hif6; clear hif6; obtain ⟨A6, c6, rfl⟩ := own_formS hown6; have hxo6 := (HXO5.out.alloc _).grown' hg6 (own_ne_lo HOWN5.out _ (Nat.lt_succ_self _)); obtain ⟨⟨y0, y1, y2, y3, y4, y5⟩, z0, z1, z2, z3, z4, z5⟩ := hxo6.six; have HXO6 := hid hxo6; have HB6 := hid ((HB5.out.alloc (by omega) _).grown hg6 (by simp; omega) (fun g e => by have := (HOWN5.out.lt g e).1; omega)); have HOWN6 := hid hown6; clear hxo6 hown6 hg6; rotate_left; (simp only [maxLen]; omega); (omega); (simp; omega))
                go_roundw
                case rel =>
                  have h7 := HXO6.out.set 5 (.slice A6 (O.length + 1) c6)
                  have h8 := own_setS HOWN6.out (Nat.lt_succ_self wx.heap.size) 5 (.slice A6 (O.length + 1) c6)
                  refine ⟨i + 1, A6, c6, by omega, by go_num, ?_, ?_, HB6.out.setCell (p := ⟨wx.heap.size, 5, none⟩) (Nat.le_refl _) _⟩
                  · rw [HST.out, HQ.out, if_neg (by simp)]
                    simpa using h7
                  · rw [HST.out, HQ.out, if_neg (by simp), tcells_snoc]
                    simpa using h8
                case measure => simp [intOf]; omega
              · go_wp2
                go_roundw
                case rel =>
                  refine ⟨i + 1, A8, c8, by omega, by go_num, ?_, ?_, HB5.out⟩
                  · rw [HST.out, HQ.out, if_pos rfl, List.append_nil]; exact HXO5.out
                  · rw [HST.out, HQ.out, if_pos rfl, List.append_nil]; exact HOWN5.out
                case measure => simp [intOf]; omega
            · have hf := HFIN.out hlt
              subst hf
              have hR := HXR.out.step HBX.out
              have hro := Row.of_ownS HOWN.out
              have hne : NewAt (wx.heap.size + 1) A8 := own_newS HOWN.out (Nat.le_refl _)
              have hra := HROW.out.step HBX.out
              obtain ⟨⟨r0, r1, r2, r3, r4, r5⟩, g0, g1, g2, g3, g4, g5⟩ := hR.six
              obtain ⟨⟨x0, x1, x2, x3, x4, x5⟩, -⟩ := HXO1.out.six
              have HR6 := hid (Blk.set6 hR (.int .i64 J.c0) (.int .i64 J.c1) (.int .i64 J.c2) (.int .i64 J.c3) (.slice A5 J.cloud.length k5) (.slice A8 O.length c8))
              have HB6 := hid (Below.set6 (Below.step' HBW.out HBX.out) (show w.heap.size ≤ w.heap.size + 1 + 1 by omega) (.int .i64 J.c0) (.int .i64 J.c1) (.int .i64 J.c2) (.int .i64 J.c3) (.slice A5 J.cloud.length k5) (.slice A8 O.length c8))
              have HROW1 := hid (Row.set6 hra HNEW.out (show w.heap.size + 1 + 1 < W.heap.size by omega) (.int .i64 J.c0) (.int .i64 J.c1) (.int .i64 J.c2) (.int .i64 J.c3) (.slice A5 J.cloud.length k5) (.slice A8 O.length c8))
              have HROW2 := hid (Row.set6 hro hne (show w.heap.size + 1 + 1 < wx.heap.size + 1 by omega) (.int .i64 J.c0) (.int .i64 J.c1) (.int .i64 J.c2) (.int .i64 J.c3) (.slice A5 J.cloud.length k5) (.slice A8 O.length c8))
              have HNE := hid hne
              clear hR hro hne hra hst
              have hq1 : w.heap.size ≤ W.heap.size := hsW
              go_wp2
              obtain ⟨⟨q0, q1, q2, q3, q4, q5⟩, -⟩ := HR6.out.six
              exact bodyPost_ret (v := .tuple #[tval ⟨J, O⟩ A5 k5 A8 c8, .int .i64 0]) (by simp [results, Try.results56, go_sem, q0, q1, q2, q3, q4, q5]) rfl
                ⟨A5, k5, A8, c8, by rw [E1.out, E2.out], by rw [E1.out]; exact HROW1.out, by rw [E1.out]; exact HROW2.out, HB6.out, fun b off q e => Nat.le_trans hq1 (HNEW.out b off q e), fun b off q e => Nat.le_trans (by omega) (HNE.out b off q e)⟩
end Go.Proofs.Ytogegnikpjcpdaa
/- viewkeep.TableSince: the walk. -/
namespace Go.Proofs.Ytogegnikpjcpdaa
set_option linter.unusedVariables false
open Go.ChangeShapes Go.WideShapes Go.ChangeAt Go.RowKit

set_option maxHeartbeats 4000000 in
set_option maxRecDepth 100000 in
theorem tsi_any (a b : Tab) (A : Option Addr) (k : Nat) (A' : Option Addr) (k' : Nat) (B : Option Addr) (m : Nat) (B' : Option Addr) (m' : Nat) (w : World)
    (ra : Row w w.heap.size A (dcells a.c.cloud)) (la : a.c.cloud.length ≤ 9223372036854775807) (ra' : Row w w.heap.size A' (tcells a.cells)) (la' : a.cells.length ≤ 9223372036854775807)
    (rb : Row w w.heap.size B (dcells b.c.cloud)) (lb : b.c.cloud.length ≤ 9223372036854775807) (rb' : Row w w.heap.size B' (tcells b.cells)) (lb' : b.cells.length ≤ 9223372036854775807) :
    Calls Try.prog 14 #[tval a A k A' k', tval b B m B' m'] w fun e w' => e = .returned (.bool true) ∧ Below w.heap.size w w' := by
  have HBA := hid (fun w1 (hb : Below w.heap.size w w1) => merge_any b a B m B' m' A k A' k' w1 (rb.step hb) lb (rb'.step hb) lb' (ra.step hb) la (ra'.step hb) la')
  have HSI := hid (fun w1 (hb : Below w.heap.size w w1) => since_any a b.c A k A' k' B m w1 (ra.step hb) la (ra'.step hb) la' (rb.step hb) lb)
  have HBM := hid (fun (M : Tab) (A2 : Option Addr) (k2 : Nat) (B2 : Option Addr) (m2 : Nat) w1 (hb : Below w.heap.size w w1) (h1 : Row w1 w1.heap.size A2 (dcells M.c.cloud)) (l1 : M.c.cloud.length ≤ 400) (h2 : Row w1 w1.heap.size B2 (tcells M.cells)) (l2 : M.cells.length ≤ 400) =>
    merge_any b M B m B' m' A2 k2 B2 m2 w1 (rb.step hb) lb (rb'.step hb) lb' h1 (by omega) h2 (by omega))
  have HL : Hid (mergeE b a = 0 → sinceE a b.c = 0 → mergeE b (sinceX a b.c) = 0 ∧ mergeX b (sinceX a b.c) = mergeX b a ∧ tabI (mergeX b a) = 0 ∧ tabI (sinceX a b.c) = 0) :=
    hid (fun h h' => ⟨(since_law h h').1, (since_law h h').2, (merge_ok h).1, (since_ok h').1⟩)
  clear ra ra' rb rb'
  obtain ⟨⟨a0, a1, a2, a3, al⟩, acs⟩ := a
  obtain ⟨⟨b0, b1, b2, b3, bl⟩, bcs⟩ := b
  obtain ⟨BA, hBA⟩ : ∃ M, M = mergeX ⟨⟨b0, b1, b2, b3, bl⟩, bcs⟩ ⟨⟨a0, a1, a2, a3, al⟩, acs⟩ := ⟨_, rfl⟩
  obtain ⟨EBA, hEBA⟩ : ∃ M, M = mergeE ⟨⟨b0, b1, b2, b3, bl⟩, bcs⟩ ⟨⟨a0, a1, a2, a3, al⟩, acs⟩ := ⟨_, rfl⟩
  obtain ⟨D, hD⟩ : ∃ M, M = sinceX ⟨⟨a0, a1, a2, a3, al⟩, acs⟩ ⟨b0, b1, b2, b3, bl⟩ := ⟨_, rfl⟩
  obtain ⟨ED, hED⟩ : ∃ M, M = sinceE ⟨⟨a0, a1, a2, a3, al⟩, acs⟩ ⟨b0, b1, b2, b3, bl⟩ := ⟨_, rfl⟩
  simp only [← hBA, ← hEBA, ← hD, ← hED] at HBA HSI HL
  clear hBA hEBA hD hED
  simp only [tval, cval] at HBA HSI ⊢
  go_enter Try.func14, Try.ntmps14
  go_wp2_with fail
  refine (puts_any _).mono ?_
  rintro e w1 ⟨rfl, hb1⟩
  have HBW := hid (show Below w.heap.size w w1 from (by refine Below.step' ?_ hb1; (repeat' (first | (with_reducible exact Below.refl _ _) | (with_reducible assumption) | (with_reducible refine below_drewN ?_ _) | (with_reducible refine Below.drew ?_) | (with_reducible refine Below.alloc ?_ ?_ _) | (with_reducible refine Below.setCell ?_ ?_ _) | (refine Below.trans ?_ (Below.mono (by assumption) ?_)) | go_size))))
  have HXA := hid (Blk.step (w := _) (b := w.heap.size) (cs := #[.int .i64 a0, .int .i64 a1, .int .i64 a2, .int .i64 a3, .slice A al.length k, .slice A' acs.length k']) (T := 59) (by exact (Blk.new w _ _).alloc _) hb1)
  have HXB := hid (Blk.step (w := _) (b := w.heap.size + 1) (cs := #[.int .i64 b0, .int .i64 b1, .int .i64 b2, .int .i64 b3, .slice B bl.length m, .slice B' bcs.length m']) (T := 59) (by exact Blk.new' (w.alloc _) _ _ (by simp)) hb1)
  clear hb1
  obtain ⟨cHXA, fHXA, sHXA, nHXA⟩ := HXA.out.all
  try simp only [cbox] at cHXA
  obtain ⟨cHXB, fHXB, sHXB, nHXB⟩ := HXB.out.all
  try simp only [cbox] at cHXB
  go_wp2_with fail
  refine (HBA.out _ HBW.out).mono ?_
  rintro e w2 ⟨A2, k2, B2, m2, rfl, hr2, hs2, hb2, -, -⟩
  obtain ⟨⟨u0, u1, u2, u3, ul⟩, us⟩ := BA
  simp only [tval] at hr2 hs2 ⊢
  clear cHXA fHXA sHXA nHXA
  clear cHXB fHXB sHXB nHXB
  replace HXA := hid (HXA.out.step hb2)
  replace HXB := hid (HXB.out.step hb2)
  replace HBW := hid (Below.step' HBW.out hb2)
  have HR2 := hid hr2
  have HS2 := hid hs2
  clear hr2 hs2 hb2
  obtain ⟨cHXA, fHXA, sHXA, nHXA⟩ := HXA.out.all
  try simp only [cbox] at cHXA
  obtain ⟨cHXB, fHXB, sHXB, nHXB⟩ := HXB.out.all
  try simp only [cbox] at cHXB
  go_wp2_with fail
  refine (HSI.out _ (HBW.out.alloc HBW.out.size _)).mono ?_
  rintro e w3 ⟨A3, k3, B3, m3, rfl, hr3, hs3, hb3, -, -⟩
  obtain ⟨⟨v0, v1, v2, v3, vl⟩, vs⟩ := D
  simp only [tval] at hr3 hs3 ⊢
  clear cHXA fHXA sHXA nHXA
  clear cHXB fHXB sHXB nHXB
  have hB3 : Below w2.heap.size w2 w3 := (by refine Below.step' ?_ hb3; (repeat' (first | (with_reducible exact Below.refl _ _) | (with_reducible assumption) | (with_reducible refine below_drewN ?_ _) | (with_reducible refine Below.drew ?_) | (with_reducible refine Below.alloc ?_ ?_ _) | (with_reducible refine Below.setCell ?_ ?_ _) | (refine Below.trans ?_ (Below.mono (by assumption) ?_)) | go_size)))
  have HX5 := hid (Blk.step (Blk.new w2 #[.int .i64 u0, .int .i64 u1, .int .i64 u2, .int .i64 u3, .slice A2 ul.length k2, .slice B2 us.length m2] 59) hb3)
  replace HXA := hid (HXA.out.step hB3)
  replace HXB := hid (HXB.out.step hB3)
  replace HR2 := hid (HR2.out.step hB3)
  replace HS2 := hid (HS2.out.step hB3)
  replace HBW := hid (Below.step' HBW.out hB3)
  have HR3 := hid hr3
  have HS3 := hid hs3
  clear hr3 hs3 hb3 hB3
  have hBy : Below w3.heap.size w3 (w3.alloc (.cells #[.int .i64 v0, .int .i64 v1, .int .i64 v2, .int .i64 v3, .slice A3 vl.length k3, .slice B3 vs.length m3] 59)) := (Below.refl _ _).alloc (Nat.le_refl _) _
  have HX7 := hid (Blk.new w3 #[.int .i64 v0, .int .i64 v1, .int .i64 v2, .int .i64 v3, .slice A3 vl.length k3, .slice B3 vs.length m3] 59)
  by_cases r1 : EBA = 0
  rotate_left
  · have t1 : (EBA != 0) = true := by simpa using r1
    clear r1
    go_wp2
    go_ret
    exact ⟨rfl, Below.step' HBW.out hBy⟩
  · subst r1
    by_cases r2 : ED = 0
    rotate_left
    · have t1 : (ED != 0) = true := by simpa using r2
      clear r2
      go_wp2
      go_ret
      exact ⟨rfl, Below.step' HBW.out hBy⟩
    · subst r2
      obtain ⟨f1, f2, f3, f4⟩ := HL.out (by first | rfl | trivial) (by first | rfl | trivial)
      obtain ⟨fl1, fl2⟩ := tab_small f3
      obtain ⟨el1, el2⟩ := tab_small f4
      simp only at fl1 fl2 el1 el2
      have hcall := HBM.out ⟨⟨v0, v1, v2, v3, vl⟩, vs⟩ A3 k3 B3 m3
      rw [f1, f2] at hcall
      simp only [tval] at hcall
      have KBM := hid hcall
      have F4 := hid f4
      clear hcall f1 f2 f3 f4 HBM HL HBA HSI
      replace HXA := hid (HXA.out.step hBy)
      replace HXB := hid (HXB.out.step hBy)
      replace HX5 := hid (HX5.out.step hBy)
      replace HR2 := hid (HR2.out.step hBy)
      replace HS2 := hid (HS2.out.step hBy)
      replace HR3 := hid (HR3.out.step hBy)
      replace HS3 := hid (HS3.out.step hBy)
      replace HBW := hid (Below.step' HBW.out hBy)
      obtain ⟨W2, hW2⟩ : ∃ W : World, W = w3.alloc (.cells #[.int .i64 v0, .int .i64 v1, .int .i64 v2, .int .i64 v3, .slice A3 vl.length k3, .slice B3 vs.length m3] 59) := ⟨_, rfl⟩
      rw [← hW2] at HXA HXB HX5 HX7 HR2 HS2 HR3 HS3 HBW
      go_upto_region 7 with fail
      rw [← hW2]
      clear hW2 hBy
      obtain ⟨cHXB, fHXB, sHXB, nHXB⟩ := HXB.out.all
      try simp only [cbox] at cHXB
      obtain ⟨cHX7, fHX7, sHX7, nHX7⟩ := HX7.out.all
      try simp only [cbox] at cHX7
      go_wp2_with fail
      refine (KBM.out _ HBW.out HR3.out el1 HS3.out el2).mono ?_
      rintro e w5 ⟨A5, k5, B5, m5, rfl, hr5, hs5, hb5, -, -⟩
      simp only [tval] at hr5 hs5 ⊢
      clear cHXB fHXB sHXB nHXB
      clear cHX7 fHX7 sHX7 nHX7
      replace HXA := hid (HXA.out.step hb5)
      replace HXB := hid (HXB.out.step hb5)
      replace HX5 := hid (HX5.out.step hb5)
      replace HX7 := hid (HX7.out.step hb5)
      replace HR2 := hid (HR2.out.step hb5)
      replace HS2 := hid (HS2.out.step hb5)
      replace HR3 := hid (HR3.out.step hb5)
      replace HS3 := hid (HS3.out.step hb5)
      replace HBW := hid (Below.step' HBW.out hb5)
      have HR5 := hid hr5
      have HS5 := hid hs5
      clear hr5 hs5 hb5 KBM
      have PS := hid (fun w1 (hb : Below w5.heap.size w5 w1) => sameT_any ⟨⟨u0, u1, u2, u3, ul⟩, us⟩ A5 k5 B5 m5 A2 k2 B2 m2 w1 (HR5.out.step hb) (by simp only; omega) (HS5.out.step hb) (by simp only; omega) (HR2.out.step hb) (HS2.out.step hb))
      have PCK := hid (fun w1 (hb : Below w5.heap.size w5 w1) => tcheck_any ⟨⟨v0, v1, v2, v3, vl⟩, vs⟩ A3 k3 B3 m3 w1 (HR3.out.step hb) (by simp only; omega) (HS3.out.step hb) (by simp only; omega))
      rw [F4.out] at PCK
      simp only [tval] at PS PCK
      obtain ⟨cHX5, fHX5, sHX5, nHX5⟩ := HX5.out.all
      try simp only [cbox] at cHX5
      go_wp2_with fail
      refine (PS.out _ ((Below.refl _ _).alloc (Nat.le_refl _) _)).mono ?_
      rintro e w6 ⟨rfl, hb6⟩
      have hB6 : Below w5.heap.size w5 w6 := (by refine Below.step' ?_ hb6; (repeat' (first | (with_reducible exact Below.refl _ _) | (with_reducible assumption) | (with_reducible refine below_drewN ?_ _) | (with_reducible refine Below.drew ?_) | (with_reducible refine Below.alloc ?_ ?_ _) | (with_reducible refine Below.setCell ?_ ?_ _) | (refine Below.trans ?_ (Below.mono (by assumption) ?_)) | go_size)))
      have HB6 := hid hB6
      clear cHX5 fHX5 sHX5 nHX5
      clear hb6
      replace HX7 := hid (HX7.out.step hB6)
      clear hB6
      obtain ⟨cHX7, fHX7, sHX7, nHX7⟩ := HX7.out.all
      try simp only [cbox] at cHX7
      go_wp2_with fail
      refine (PCK.out _ HB6.out).mono ?_
      rintro e w7 ⟨rfl, hb7⟩
      have hB7 := Below.step' HB6.out hb7
      clear cHX7 fHX7 sHX7 nHX7
      have HBX := hid (Below.step' HBW.out hB7)
      clear hb7 hB7
      go_wp2
      go_ret
      exact ⟨rfl, HBX.out⟩
end Go.Proofs.Ytogegnikpjcpdaa
