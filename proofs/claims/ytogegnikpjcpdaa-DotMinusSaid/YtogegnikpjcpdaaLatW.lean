/- viewkeep.DotLattice: the walk. -/
import Derived.Test.YtogegnikpjcpdaaLat
import Derived.Deep.CutBlock
import Derived.Deep.CutRange
namespace Go.Proofs.Ytogegnikpjcpdaa
set_option linter.unusedVariables false
open Go.ChangeShapes Go.WideShapes Go.ChangeAt Go.RowKit

theorem make_lit (l : List (Int × Int)) (n k : Nat) (c : Ctx) (x : Int) (hn : n = l.length) (hc : makeC l = c) (hx : makeE l = x) (A : Option Addr) (w : World) (hr : Row w w.heap.size A (dcells l)) (hl : l.length ≤ 400) :
    Calls Try.prog 16 #[.slice A n k] w (CtxErr c x w) := by
  subst hn hc hx
  exact make_any l A k w hr (by omega)
theorem equal_lit (l m : List (Int × Int)) (n p : Nat) (r : Bool) (hn : n = l.length) (hp : p = m.length) (hr : decide (l = m) = r) (A B : Option Addr) (c e : Nat) (w : World) (h1 : Row w w.heap.size A (dcells l)) (h2 : Row w w.heap.size B (dcells m)) (hl : l.length ≤ 400) (hm : m.length ≤ 400) :
    Calls Try.prog 34 #[.slice A n c, .slice B p e] w fun e w' => e = .returned (.bool r) ∧ Below w.heap.size w w' := by
  subst hn hp hr
  exact equal_any l m A B c e w h1 h2 (by omega) (by omega)

set_option maxHeartbeats 4000000 in
set_option maxRecDepth 100000 in
theorem lat_any (a b c : Ctx) (d : Int × Int) (A B C : Option Addr) (k m n : Nat) (w : World) (ra : Row w w.heap.size A (dcells a.cloud)) (la : a.cloud.length ≤ 9223372036854775807)
    (rb : Row w w.heap.size B (dcells b.cloud)) (lb : b.cloud.length ≤ 9223372036854775807) (rc : Row w w.heap.size C (dcells c.cloud)) (lc : c.cloud.length ≤ 9223372036854775807) :
    Calls Try.prog 5 #[cval a A k, cval b B m, cval c C n, dval d] w fun e w' => e = .returned (.bool true) ∧ Below w.heap.size w w' := by
  have HJab := hid (fun w1 (hb : Below w.heap.size w w1) => join_any a b A B k m w1 (ra.step hb) la (rb.step hb) lb)
  have HJba := hid (fun w1 (hb : Below w.heap.size w w1) => join_any b a B A m k w1 (rb.step hb) lb (ra.step hb) la)
  have HJbc := hid (fun w1 (hb : Below w.heap.size w w1) => join_any b c B C m n w1 (rb.step hb) lb (rc.step hb) lc)
  have HLab := hid (fun w1 (hb : Below w.heap.size w w1) => less_any a b A B k m w1 (ra.step hb) la (rb.step hb) lb)
  have HHa := hid (fun w1 (hb : Below w.heap.size w w1) => has_any a d A k w1 (ra.step hb) la)
  have HHb := hid (fun w1 (hb : Below w.heap.size w w1) => has_any b d B m w1 (rb.step hb) lb)
  have RA := hid (fun w1 (hb : Below w.heap.size w w1) => ra.step hb)
  have RB := hid (fun w1 (hb : Below w.heap.size w w1) => rb.step hb)
  have RC := hid (fun w1 (hb : Below w.heap.size w w1) => rc.step hb)
  have LA := hid la
  have LB := hid lb
  have LC := hid lc
  have HMK := hid (make_lit [(0, 1), (0, 2), (1, 3)] 3 3 _ _ rfl make_three.1 make_three.2)
  have HEQ := hid (equal_lit [(1, 3)] [(1, 3)] 1 1 true rfl rfl (by simp))
  clear ra rb rc
  obtain ⟨d0, d1⟩ := d
  go_enter Try.func5, Try.ntmps5
  simp only [cval, dval]
  go_wp2_with fail
  refine (HMK.out _ _ (by exact Row.new' ((((w.alloc _).alloc _).alloc _).alloc _) _ _ (by simp) rfl (by simp)) (by simp)).mono ?_
  rintro e w1 ⟨A1, k1, rfl, hr1, hb1, hn1⟩
  have hB1 : Below w.heap.size w w1 := (by refine Below.step' ?_ hb1; (repeat' (first | (with_reducible exact Below.refl _ _) | (with_reducible assumption) | (with_reducible refine below_drewN ?_ _) | (with_reducible refine Below.drew ?_) | (with_reducible refine Below.alloc ?_ ?_ _) | (with_reducible refine Below.setCell ?_ ?_ _) | (refine Below.trans ?_ (Below.mono (by assumption) ?_)) | go_size)))
  have HBW := hid hB1
  have HXA := hid (Blk.step (w := _) (b := w.heap.size) (cs := cbox a A k) (T := 25) (by exact ((((Blk.new w _ _).alloc _).alloc _).alloc _).alloc _) hb1)
  have HXB := hid (Blk.step (w := _) (b := w.heap.size + 1) (cs := cbox b B m) (T := 25) (by exact (((Blk.new' (w.alloc _) _ _ (by simp)).alloc _).alloc _).alloc _) hb1)
  have HXC := hid (Blk.step (w := _) (b := w.heap.size + 1 + 1) (cs := cbox c C n) (T := 25) (by exact ((Blk.new' ((w.alloc _).alloc _) _ _ (by simp)).alloc _).alloc _) hb1)
  have HXD := hid (Blk.step (w := _) (b := w.heap.size + 1 + 1 + 1) (cs := #[.int .i64 d0, .int .i64 d1]) (T := 27) (by exact (Blk.new' (((w.alloc _).alloc _).alloc _) _ _ (by simp)).alloc _) hb1)
  have HR1 := hid hr1
  clear hb1 hB1 hr1 hn1
  go_wp2_with fail
  refine (HEQ.out _ _ _ _ _ (by exact (HR1.out.alloc _).alloc _) (by exact Row.new' (w1.alloc _) _ _ (by simp) rfl (by simp)) (by simp) (by simp)).mono ?_
  rintro e w2 ⟨rfl, hb2⟩
  have hB2 : Below w1.heap.size w1 w2 := (by refine Below.step' ?_ hb2; (repeat' (first | (with_reducible exact Below.refl _ _) | (with_reducible assumption) | (with_reducible refine below_drewN ?_ _) | (with_reducible refine Below.drew ?_) | (with_reducible refine Below.alloc ?_ ?_ _) | (with_reducible refine Below.setCell ?_ ?_ _) | (refine Below.trans ?_ (Below.mono (by assumption) ?_)) | go_size)))
  replace HXA := hid (HXA.out.step hB2)
  replace HXB := hid (HXB.out.step hB2)
  replace HXC := hid (HXC.out.step hB2)
  replace HXD := hid (HXD.out.step hB2)
  replace HBW := hid (Below.step' HBW.out hB2)
  clear hb2 hB2 HR1 HMK HEQ
  -- the two joins
  obtain ⟨cHXA, fHXA, sHXA, nHXA⟩ := HXA.out.all
  try simp only [cbox] at cHXA
  obtain ⟨cHXB, fHXB, sHXB, nHXB⟩ := HXB.out.all
  try simp only [cbox] at cHXB
  go_wp2_with fail
  refine (HJab.out _ HBW.out).mono ?_
  rintro e w3 ⟨A3, k3, rfl, hr3, hb3, hn3⟩
  clear cHXA fHXA sHXA nHXA
  clear cHXB fHXB sHXB nHXB
  replace HXA := hid (HXA.out.step hb3)
  replace HXB := hid (HXB.out.step hb3)
  replace HXC := hid (HXC.out.step hb3)
  replace HXD := hid (HXD.out.step hb3)
  replace HBW := hid (Below.step' HBW.out hb3)
  obtain ⟨J, hJ⟩ : ∃ J, J = joinX a b := ⟨_, rfl⟩
  obtain ⟨E1, hE1⟩ : ∃ E1, E1 = joinE a b := ⟨_, rfl⟩
  rw [← hJ] at hr3 ⊢
  rw [← hE1]
  have HR3 := hid hr3
  have HEJ := hid hJ
  have HE1 := hid hE1
  clear hr3 hb3 hn3 hJ hE1
  obtain ⟨cHXA, fHXA, sHXA, nHXA⟩ := HXA.out.all
  try simp only [cbox] at cHXA
  obtain ⟨cHXB, fHXB, sHXB, nHXB⟩ := HXB.out.all
  try simp only [cbox] at cHXB
  go_wp2_with fail
  refine (HJba.out _ (HBW.out.alloc HBW.out.size _)).mono ?_
  rintro e w4 ⟨A4, k4, rfl, hr4, hb4, hn4⟩
  have hB4 : Below w3.heap.size w3 w4 := (by refine Below.step' ?_ hb4; (repeat' (first | (with_reducible exact Below.refl _ _) | (with_reducible assumption) | (with_reducible refine below_drewN ?_ _) | (with_reducible refine Below.drew ?_) | (with_reducible refine Below.alloc ?_ ?_ _) | (with_reducible refine Below.setCell ?_ ?_ _) | (refine Below.trans ?_ (Below.mono (by assumption) ?_)) | go_size)))
  have HX1 := hid (Blk.step (Blk.new w3 (cbox J A3 k3) 25) hb4)
  clear cHXA fHXA sHXA nHXA
  clear cHXB fHXB sHXB nHXB
  replace HXA := hid (HXA.out.step hB4)
  replace HXB := hid (HXB.out.step hB4)
  replace HXC := hid (HXC.out.step hB4)
  replace HXD := hid (HXD.out.step hB4)
  replace HR3 := hid (HR3.out.step hB4)
  replace HBW := hid (Below.step' HBW.out hB4)
  have HR4 := hid hr4
  clear hr4 hb4 hn4 hB4
  by_cases q1 : joinE a b = 0
  rotate_left
  · have q2 : joinE b a ≠ 0 := fun h => q1 (joinE_comm.2 h)
    have t1 : (E1 == 0) = false := by rw [HE1.out]; simpa using q1
    have t2 : (joinE b a == 0) = false := by simpa using q2
    clear q1 q2
    go_wp2
    go_ret
    exact ⟨rfl, HBW.out.alloc HBW.out.size _⟩
  · have q2 : joinE b a = 0 := joinE_comm.1 q1
    obtain ⟨e1, e2, e3, e4, e5, e6⟩ := lattice1 q1
    have hjl : J.cloud.length ≤ 400 := by rw [HEJ.out, (joinX_ok q1).1]; exact (joinE_zero.1 q1).2
    rw [HE1.out, q1, q2]
    have hJ := HEJ.out
    rw [← hJ] at e1 e2 e3 e4 e5 e6
    rw [e1] at HR4 ⊢
    have Q1 := hid q1
    -- what is asked of the join
    have RJ := hid (fun w1 (hb : Below w4.heap.size w4 w1) => HR3.out.step hb)
    have hbw4 := HBW.out
    have HLaj := hid (fun w1 (hb : Below w4.heap.size w4 w1) => less_any a J A A3 k k3 w1 (RA.out w1 (Below.step' hbw4 hb)) LA.out (HR3.out.step hb) (by omega))
    rw [e3, e4] at HLaj
    have HSM := hid (fun w1 (hb : Below w4.heap.size w4 w1) => same_ints J.c0 J.c1 J.c2 J.c3 J.c0 J.c1 J.c2 J.c3 J.cloud J.cloud A3 A4 k3 k4 w1 (HR3.out.step hb) (HR4.out.step hb) (by omega) (by omega))
    rw [show sameB ⟨J.c0, J.c1, J.c2, J.c3, J.cloud⟩ ⟨J.c0, J.c1, J.c2, J.c3, J.cloud⟩ = true from (sameB_iff _ _).2 rfl] at HSM
    have HCJ := hid (fun w1 (hb : Below w4.heap.size w4 w1) => check_any J A3 k3 w1 (HR3.out.step hb) (by omega))
    rw [e2] at HCJ
    have HHJ := hid (fun w1 (hb : Below w4.heap.size w4 w1) => has_any J (d0, d1) A3 k3 w1 (HR3.out.step hb) (by omega))
    rw [e5] at HHJ
    have HSB := hid (fun w1 (hb : Below w4.heap.size w4 w1) => same_ints J.c0 J.c1 J.c2 J.c3 b.c0 b.c1 b.c2 b.c3 J.cloud b.cloud A3 B k3 m w1 (HR3.out.step hb) (RB.out w1 (Below.step' hbw4 hb)) (by omega) LB.out)
    have HJJ := hid (fun w1 (hb : Below w4.heap.size w4 w1) => join_any J c A3 C k3 n w1 (HR3.out.step hb) (by omega) (RC.out w1 (Below.step' hbw4 hb)) LC.out)
    have E6 := hid e6
    have HB4 := hid (Below.refl w4.heap.size w4)
    clear e1 e2 e3 e4 e5 e6 q1 q2 hJ hbw4
    obtain ⟨cHXA, fHXA, sHXA, nHXA⟩ := HXA.out.all
    try simp only [cbox] at cHXA
    obtain ⟨cHXB, fHXB, sHXB, nHXB⟩ := HXB.out.all
    try simp only [cbox] at cHXB
    obtain ⟨cHX1, fHX1, sHX1, nHX1⟩ := HX1.out.all
    try simp only [cbox] at cHX1
    go_wp2_with fail
    refine (HLaj.out _ (HB4.out.alloc (Nat.le_refl _) _)).mono ?_
    rintro e w5 ⟨rfl, hb5⟩
    have hB5 : Below w4.heap.size w4 w5 := (by refine Below.step' ?_ hb5; (repeat' (first | (with_reducible exact Below.refl _ _) | (with_reducible assumption) | (with_reducible refine below_drewN ?_ _) | (with_reducible refine Below.drew ?_) | (with_reducible refine Below.alloc ?_ ?_ _) | (with_reducible refine Below.setCell ?_ ?_ _) | (refine Below.trans ?_ (Below.mono (by assumption) ?_)) | go_size)))
    have HX2 := hid (Blk.step (Blk.new w4 (cbox J A4 k4) 25) hb5)
    clear cHXA fHXA sHXA nHXA
    clear cHXB fHXB sHXB nHXB
    clear cHX1 fHX1 sHX1 nHX1
    replace HXA := hid (HXA.out.step hB5)
    replace HXB := hid (HXB.out.step hB5)
    replace HXC := hid (HXC.out.step hB5)
    replace HXD := hid (HXD.out.step hB5)
    replace HX1 := hid (HX1.out.step hB5)
    replace HBW := hid (Below.step' HBW.out hB5)
    replace HB4 := hid (Below.step' HB4.out hB5)
    clear hb5 hB5
    go_upto_region 9 with fail
    go_cut [104] from 74 to 104 (fun s104 wx => s104 = .bool false ∧ Below w5.heap.size w5 wx)
    case first =>
      obtain ⟨cHXA, fHXA, sHXA, nHXA⟩ := HXA.out.all
      try simp only [cbox] at cHXA
      obtain ⟨cHXB, fHXB, sHXB, nHXB⟩ := HXB.out.all
      try simp only [cbox] at cHXB
      obtain ⟨cHXD, fHXD, sHXD, nHXD⟩ := HXD.out.all
      try simp only [cbox] at cHXD
      obtain ⟨cHX1, fHX1, sHX1, nHX1⟩ := HX1.out.all
      try simp only [cbox] at cHX1
      obtain ⟨cHX2, fHX2, sHX2, nHX2⟩ := HX2.out.all
      try simp only [cbox] at cHX2
      cases hqa : hasB a (d0, d1) <;> cases hqb : hasB b (d0, d1)
      all_goals
        rw [hqa] at HHa HHJ
        rw [hqb] at HHb HHJ
        simp only [Bool.false_or, Bool.true_or] at HHJ
        clear hqa hqb
        refine region_ext (by kernel_rfl) (by kernel_rfl) (fun hext => ?_)
        repeat (any_goals ((with_reducible refine wpQuiet_step (fun K hK => ?_)); go_simp; first | (with_reducible refine hK _ ?_; clear hK K) | ((with_reducible apply Exists.intro); (with_reducible refine ⟨fun _ => ?_, hK _ ?_⟩); (first | (go_at_call 27; (with_reducible refine ext_call _ ?_ (HSM.out _ (Below.step' HB4.out (Ext.below _)))); simp) | (go_at_call 24; (with_reducible refine ext_call _ ?_ (HCJ.out _ (Below.step' HB4.out (Ext.below _)))); simp) | (go_at_call 25; (with_reducible refine ext_call _ ?_ (HHJ.out _ (Below.step' HB4.out (Ext.below _)))); simp) | (go_at_call 25; (with_reducible refine ext_call _ ?_ (HHa.out _ (Below.step' HBW.out (Ext.below _)))); simp) | (go_at_call 25; (with_reducible refine ext_call _ ?_ (HHb.out _ (Below.step' HBW.out (Ext.below _)))); simp)); clear hK K) | ((with_reducible refine (if_neg ?_).mpr (hK _ ?_)); (decide); clear hK K) | (split <;> (with_reducible refine hK _ ?_; clear hK K))))
        all_goals ((with_reducible refine wpQuiet_nil ?_); clear hext; intro w1 hx1; have hb1 := ext_below hx1; clear hx1)
        go_wp2
        go_meet
        case rel => exact ⟨rfl, hb1⟩
    case rest =>
      obtain ⟨rfl, hb6⟩ := hcut
      obtain ⟨w6, rfl⟩ : ∃ w6 : World, w6 = wc := ⟨_, rfl⟩
      replace HXA := hid (HXA.out.step hb6)
      replace HXB := hid (HXB.out.step hb6)
      replace HXC := hid (HXC.out.step hb6)
      replace HX1 := hid (HX1.out.step hb6)
      replace HBW := hid (Below.step' HBW.out hb6)
      replace HB4 := hid (Below.step' HB4.out hb6)
      clear hb6 HX2 HXD HLaj HSM HCJ HHJ HHa HHb HR4
      rw [E6.out] at HLab
      obtain ⟨cHXA, fHXA, sHXA, nHXA⟩ := HXA.out.all
      try simp only [cbox] at cHXA
      obtain ⟨cHXB, fHXB, sHXB, nHXB⟩ := HXB.out.all
      try simp only [cbox] at cHXB
      go_wp2_with fail
      refine (HLab.out _ HBW.out).mono ?_
      rintro e w7 ⟨rfl, hb7⟩
      clear cHXA fHXA sHXA nHXA
      clear cHXB fHXB sHXB nHXB
      replace HXA := hid (HXA.out.step hb7)
      replace HXB := hid (HXB.out.step hb7)
      replace HXC := hid (HXC.out.step hb7)
      replace HX1 := hid (HX1.out.step hb7)
      replace HBW := hid (Below.step' HBW.out hb7)
      replace HB4 := hid (Below.step' HB4.out hb7)
      clear hb7
      obtain ⟨cHX1, fHX1, sHX1, nHX1⟩ := HX1.out.all
      try simp only [cbox] at cHX1
      obtain ⟨cHXB, fHXB, sHXB, nHXB⟩ := HXB.out.all
      try simp only [cbox] at cHXB
      go_wp2_with fail
      refine (HSB.out _ HB4.out).mono ?_
      rintro e w8 ⟨rfl, hb8⟩
      clear cHX1 fHX1 sHX1 nHX1
      clear cHXB fHXB sHXB nHXB
      replace HXA := hid (HXA.out.step hb8)
      replace HXB := hid (HXB.out.step hb8)
      replace HXC := hid (HXC.out.step hb8)
      replace HX1 := hid (HX1.out.step hb8)
      replace HBW := hid (Below.step' HBW.out hb8)
      replace HB4 := hid (Below.step' HB4.out hb8)
      clear hb8
      obtain ⟨cHX1, fHX1, sHX1, nHX1⟩ := HX1.out.all
      try simp only [cbox] at cHX1
      obtain ⟨cHXC, fHXC, sHXC, nHXC⟩ := HXC.out.all
      try simp only [cbox] at cHXC
      go_wp2_with fail
      refine (HJJ.out _ HB4.out).mono ?_
      rintro e w9 ⟨A9, k9, rfl, hr9, hb9, hn9⟩
      clear cHX1 fHX1 sHX1 nHX1
      clear cHXC fHXC sHXC nHXC
      replace HXA := hid (HXA.out.step hb9)
      replace HXB := hid (HXB.out.step hb9)
      replace HXC := hid (HXC.out.step hb9)
      replace HBW := hid (Below.step' HBW.out hb9)
      replace HB4 := hid (Below.step' HB4.out hb9)
      have HL2 := hid (fun (h1 : joinE J c = 0) (h2 : joinE b c = 0) (h3 : joinE a (joinX b c) = 0) => lattice2 Q1.out (by rw [← HEJ.out]; exact h1) h2 h3)
      rw [← HEJ.out] at HL2
      have hjl9 := joinE_zero (a := J) (b := c)
      obtain ⟨L9, hL9⟩ : ∃ L9, L9 = joinX J c := ⟨_, rfl⟩
      have hl9 : L9.cloud.length ≤ 400 := by rw [hL9]; exact joinX_le _ _
      rw [← hL9] at hr9 HL2 ⊢
      have HR9 := hid hr9
      clear hr9 hb9 hn9 hL9 hjl9
      obtain ⟨cHXB, fHXB, sHXB, nHXB⟩ := HXB.out.all
      try simp only [cbox] at cHXB
      obtain ⟨cHXC, fHXC, sHXC, nHXC⟩ := HXC.out.all
      try simp only [cbox] at cHXC
      go_wp2_with fail
      refine (HJbc.out _ (HBW.out.alloc HBW.out.size _)).mono ?_
      rintro e w10 ⟨A10, k10, rfl, hr10, hb10, hn10⟩
      have hB10 : Below w9.heap.size w9 w10 := (by refine Below.step' ?_ hb10; (repeat' (first | (with_reducible exact Below.refl _ _) | (with_reducible assumption) | (with_reducible refine below_drewN ?_ _) | (with_reducible refine Below.drew ?_) | (with_reducible refine Below.alloc ?_ ?_ _) | (with_reducible refine Below.setCell ?_ ?_ _) | (refine Below.trans ?_ (Below.mono (by assumption) ?_)) | go_size)))
      have HX9 := hid (Blk.step (Blk.new w9 (cbox L9 A9 k9) 25) hb10)
      clear cHXB fHXB sHXB nHXB
      clear cHXC fHXC sHXC nHXC
      replace HXA := hid (HXA.out.step hB10)
      replace HR9 := hid (HR9.out.step hB10)
      replace HBW := hid (Below.step' HBW.out hB10)
      obtain ⟨M, hM⟩ : ∃ M, M = joinX b c := ⟨_, rfl⟩
      have hml : M.cloud.length ≤ 400 := by rw [hM]; exact joinX_le _ _
      rw [← hM] at hr10 HL2 ⊢
      have HJaM := hid (fun w1 (hb : Below w10.heap.size w10 w1) => join_any a M A A10 k k10 w1 (RA.out w1 (Below.step' HBW.out hb)) LA.out (hr10.step hb) (by omega))
      have hbw10 := HBW.out.alloc HBW.out.size (.cells (cbox M A10 k10) 25)
      clear hb10 hn10 hB10 hM hr10
      by_cases p1 : joinE J c = 0
      rotate_left
      · have t1 : (joinE J c == 0) = false := by simpa using p1
        have HBE := hid hbw10
        clear p1 hbw10
        go_wp2
        go_ret
        exact ⟨rfl, HBE.out⟩
      · have P1 := hid p1
        rw [p1]
        by_cases p2 : joinE b c = 0
        rotate_left
        · have t1 : (joinE b c == 0) = false := by simpa using p2
          have HBE := hid hbw10
          clear p1 p2 hbw10
          go_wp2
          go_ret
          exact ⟨rfl, HBE.out⟩
        · have P2 := hid p2
          rw [p2]
          clear p1 p2 hbw10
          obtain ⟨cHXA, fHXA, sHXA, nHXA⟩ := HXA.out.all
          try simp only [cbox] at cHXA
          have hs9 := HX9.out.lt
          go_wp2_with fail
          refine (HJaM.out _ ((Below.refl _ _).alloc (Nat.le_refl _) _)).mono ?_
          rintro e w11 ⟨A11, k11, rfl, hr11, hb11, hn11⟩
          have hB11 : Below w10.heap.size w10 w11 := (by refine Below.step' ?_ hb11; (repeat' (first | (with_reducible exact Below.refl _ _) | (with_reducible assumption) | (with_reducible refine below_drewN ?_ _) | (with_reducible refine Below.drew ?_) | (with_reducible refine Below.alloc ?_ ?_ _) | (with_reducible refine Below.setCell ?_ ?_ _) | (refine Below.trans ?_ (Below.mono (by assumption) ?_)) | go_size)))
          clear cHXA fHXA sHXA nHXA
          replace HX9 := hid (HX9.out.step hB11)
          replace HR9 := hid (HR9.out.step hB11)
          replace HBW := hid (Below.step' HBW.out hB11)
          have hrl : (joinX a M).cloud.length ≤ 400 := joinX_le _ _
          by_cases p3 : joinE a M = 0
          rotate_left
          · have t1 : (joinE a M == 0) = false := by simpa using p3
            have t2 : (joinE a M != 0) = true := by simpa using p3
            have HBE := hid (HBW.out.alloc HBW.out.size (.cells (cbox (joinX a M) A11 k11) 25))
            clear p3 hr11 hb11 hn11 hB11
            go_wp2
            go_ret
            exact ⟨rfl, HBE.out⟩
          · have e9 := HL2.out P1.out P2.out p3
            have HSL := hid (fun w1 (hb : Below w11.heap.size w11 w1) => same_ints L9.c0 L9.c1 L9.c2 L9.c3 L9.c0 L9.c1 L9.c2 L9.c3 L9.cloud L9.cloud A9 A11 k9 k11 w1 (HR9.out.step hb) (by rw [e9]; exact hr11.step hb) (by omega) (by omega))
            rw [show sameB ⟨L9.c0, L9.c1, L9.c2, L9.c3, L9.cloud⟩ ⟨L9.c0, L9.c1, L9.c2, L9.c3, L9.cloud⟩ = true from (sameB_iff _ _).2 rfl] at HSL
            rw [← e9, p3]
            clear p3 hr11 hb11 hn11 hB11 e9
            obtain ⟨cHX9, fHX9, sHX9, nHX9⟩ := HX9.out.all
            try simp only [cbox] at cHX9
            go_wp2_with fail
            refine (HSL.out _ ((Below.refl _ _).alloc (Nat.le_refl _) _)).mono ?_
            rintro e w12 ⟨rfl, hb12⟩
            go_wp2
            go_ret
            exact ⟨rfl, Below.step' (HBW.out.alloc HBW.out.size _) hb12⟩
end Go.Proofs.Ytogegnikpjcpdaa
