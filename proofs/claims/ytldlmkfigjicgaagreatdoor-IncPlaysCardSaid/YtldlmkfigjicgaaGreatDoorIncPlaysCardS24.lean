/- IplA, Sq, IplB -/
import Derived.Test.YtldlmkfigjicgaaGreatDoorIncPlaysCardS23
/- viewref.Pool.Feed. -/
namespace Go.Proofs.YtldlmkfigjicgaaGreatDoor
set_option linter.unusedVariables false
set_option linter.unusedSimpArgs false
open Go.ChangeShapes Go.WideShapes Go.ChangeAt Go.RowKit

/-- What the reference of a view holds: both tables, and what it has told. -/
structure PL where
  X : LR
  Y : LR
  Z : LR
abbrev PL.cells (p : PL) (qA : Option Addr) (n qk : Nat) : Array Value := #[.slice qA n qk, .slice p.X.A p.X.L.length p.X.k, .slice p.Y.A p.Y.L.length p.Y.k, .slice p.Z.A p.Z.L.length p.Z.k]
structure PL.at_ (p : PL) (w : World) (lo pp : Nat) (qA : Option Addr) (n qk : Nat) (u : VS) : Prop where
  box : Blk w pp (p.cells qA n qk) 58
  x : SetIn w lo p.X.A p.X.k p.X.L
  y : SetIn w lo p.Y.A p.Y.k p.Y.L
  z : SetIn w lo p.Z.A p.Z.k p.Z.L
  ix : its p.X.L = u.T0
  iy : its p.Y.L = u.T1
  iz : its p.Z.L = u.told
theorem PL.at_.step {p : PL} {w w' : World} {lo pp n qk : Nat} {qA : Option Addr} {u : VS} (h : p.at_ w lo pp qA n qk u) (hb : Below w.heap.size w w') : p.at_ w' lo pp qA n qk u :=
  ⟨h.box.step hb, h.x.step hb, h.y.step hb, h.z.step hb, h.ix, h.iy, h.iz⟩
theorem SetIn.turn {w w' : World} {b lo : Nat} {cs : Array Value} {T : TypeId} {A : Option Addr} {k : Nat} {L : List IR} (h : SetIn w lo A k L) (hb : Blk w b cs T) (h1 : 67 ≠ T) (h2 : 3 ≠ T) (hg : w.grownBy w' (some b)) : SetIn w' lo A k L := by
  have hst : ∀ U, U ≠ T → Stand U w w' := fun U hne => Stand.grown hg fun g cur d hc q => by
    injection q with q
    subst q
    unfold Blk at hb
    rw [hc] at hb
    injection hb with hb
    injection hb with _ hb _
    exact hne hb
  exact h.stand (hst _ h1) (hst _ h2) hg.size
theorem PL.at_.fed {p : PL} {w w' : World} {lo pp vp n qk : Nat} {qA : Option Addr} {u : VS} {v : VR} (h : p.at_ w lo pp qA n qk u) (hv : v.at_ w vp) (hne : pp ≠ vp) (hg : w.grownBy w' (some vp)) : p.at_ w' lo pp qA n qk u :=
  ⟨h.box.grown hg (fun e => by injection e with e; exact hne e), h.x.fed hv hg, h.y.fed hv hg, h.z.fed hv hg, h.ix, h.iy, h.iz⟩
/-- What the reference answers, and what it holds then. -/
def PFeed (pp lo : Nat) (qA : Option Addr) (n qk : Nat) (u : VS) (a b : List It) (w : World) (e : Ending) (w' : World) : Prop :=
  ∃ (A : Option Addr) (k : Nat) (M : List IR) (p' : PL), e = .returned (.tuple #[.slice A M.length k, .int .i64 (u.feedE a b)]) ∧ its M = u.more a b ∧ RowI w' w'.heap.size A M ∧ M.length ≤ 9223372036854775807 ∧ w.grownBy w' (some pp) ∧ p'.at_ w' lo pp qA n qk (u.fed a b)
theorem pfeed_bad {p : PL} {w w' : World} {lo pp n qk : Nat} {qA : Option Addr} {u : VS} {a b : List It} {E : Int} (hp : p.at_ w lo pp qA n qk u) (hE : u.feedE a b = E) (hz : E ≠ 0) (hb : Below w.heap.size w w') : PFeed pp lo qA n qk u a b w (.returned (.tuple #[.slice none 0 0, .int .i64 E])) w' := by
  obtain ⟨e1, e2⟩ := VS.fed_bad (show u.feedE a b ≠ 0 by rw [hE]; exact hz)
  exact ⟨none, 0, [], p, by rw [hE]; rfl, by rw [e2]; rfl, RowI.nil' _ _, by simp, grown_some (grown_of_below hb) _, by rw [e1]; exact hp.step hb⟩
theorem more_allE {u : VS} (hok : u.ok) {a b : List It} (e1 : basesE u.q a b = 0) (e2 : addE u.T0 a = 0) (e3 : addE u.T1 b = 0) : allE u.q (addX u.T0 a) (addX u.T1 b) = (setsG (sumL (u.T0 ++ a)) (sumL (u.T1 ++ b)) u.q []).1 ∧ u.feedE a b = allE u.q (addX u.T0 a) (addX u.T1 b) := by
  obtain ⟨-, -, -, b4, b5⟩ := basesE_zero.1 e1
  have hA : addX u.T0 a = sumL (u.T0 ++ a) := if_pos e2
  have hB : addX u.T1 b = sumL (u.T1 ++ b) := if_pos e3
  have hbs : basesE u.q (addX u.T0 a) (addX u.T1 b) = 0 := by
    rw [hA, hB]
    exact basesE_zero.2 ⟨hok.qe, done_set (addE_zero.1 e2).2.2, done_set (addE_zero.1 e3).2.2, sum_wide hok.w0 b4, sum_wide hok.w1 b5⟩
  have h : allE u.q (addX u.T0 a) (addX u.T1 b) = (setsG (sumL (u.T0 ++ a)) (sumL (u.T1 ++ b)) u.q []).1 := by
    unfold allE
    rw [if_neg (by rw [hbs]; simp), hA, hB]
  refine ⟨h, ?_⟩
  rw [h]
  unfold VS.feedE
  rw [if_neg (by rw [e1]; simp), if_neg (by rw [e2]; simp), if_neg (by rw [e3]; simp)]
/-- What is told and what was told, to be totalled. -/
theorem told_small {u : VS} (hok : u.ok) (a b : List It) : ((u.fed a b).told ++ negL u.told).length ≤ 1200 ∧ ∀ x ∈ (u.fed a b).told ++ negL u.told, x.1.length ≤ 8 ∧ ∀ n ∈ x.1, -1073741824 ≤ n ∧ n ≤ 1073741824 := by
  have one : ∀ {l : List It}, setI l = 0 → l.length ≤ 400 ∧ ∀ x ∈ l, x.1.length ≤ 8 ∧ ∀ n ∈ x.1, -1073741824 ≤ n ∧ n ≤ 1073741824 := fun h => by
    obtain ⟨l1, l2, l3⟩ := setI_zero.1 h
    exact ⟨l1, fun x hx => ⟨(badB_bound (l2 x hx)).1, (badB_bound (l2 x hx)).2.1⟩⟩
  obtain ⟨a1, a2⟩ := one (VS.told_set (hok.fed a b))
  obtain ⟨b1, b2⟩ := one (VS.told_set hok)
  refine ⟨by rw [List.length_append, negL, List.length_map]; omega, fun x hx => ?_⟩
  rcases List.mem_append.1 hx with q | q
  · exact a2 x q
  · obtain ⟨y, hy, rfl⟩ := List.mem_map.1 q
    exact b2 y hy
theorem totOk_small' {M : List IR} {l : List It} (e : its M = l) (h : l.length ≤ 1200 ∧ ∀ x ∈ l, x.1.length ≤ 8 ∧ ∀ n ∈ x.1, -1073741824 ≤ n ∧ n ≤ 1073741824) : TotOk M := by
  subst e
  have hx : ∀ x ∈ M, x.row.length ≤ 8 ∧ ∀ n ∈ x.row, -1073741824 ≤ n ∧ n ≤ 1073741824 := fun x hx => h.2 x.it (List.mem_map.2 ⟨x, hx, rfl⟩)
  refine ⟨by have := h.1; rw [its_len] at this; omega, fun x q => by have := (hx x q).1; omega, fun x q n hn => by have := (hx x q).2 n hn; omega⟩
set_option maxHeartbeats 8000000 in
set_option maxRecDepth 100000 in
theorem pfeed_any (Q : List SR) (qA : Option Addr) (qk : Nat) (u : VS) (p : PL) (pp lo : Nat) (m0 m1 : LR) (W0 w : World) (hp : p.at_ w lo pp qA Q.length qk u) (hok : u.ok) (hq : u.q = sts Q) (hr : RowS W0 W0.heap.size qA Q) (hl : Q.length ≤ 9223372036854775807) (hB : Below W0.heap.size W0 w) (hlo : lo ≤ w.heap.size) (hpp : W0.heap.size ≤ pp)
    (h0 : RowI w w.heap.size m0.A m0.L) (h1 : RowI w w.heap.size m1.A m1.L) (l0 : m0.L.length ≤ 9223372036854775807) (l1 : m1.L.length ≤ 9223372036854775807) (ht0 : Pow W0) :
    Calls Tryz.prog 27 #[.pointer (some ⟨pp, 0, none⟩), .slice m0.A m0.L.length m0.k, .slice m1.A m1.L.length m1.k] w (PFeed pp lo qA Q.length qk u (its m0.L) (its m1.L) w) := by
  have ht : Pow w := Pow.step ht0 hB
  have HBAD := hid (fun (E : Int) (w' : World) (hE : u.feedE (its m0.L) (its m1.L) = E) (hz : E ≠ 0) (hb : Below w.heap.size w w') => pfeed_bad hp hE hz hb)
  have HBS := hid (Rbased_any Q m0.L m1.L qA m0.A m1.A qk m0.k m1.k w (hr.step hB) hl h0 l0 h1 l1)
  rw [← hq] at HBS
  have hlx : p.X.L.length ≤ 400 := by have := (setI_zero.1 hok.s0).1; rw [← hp.ix, its_len] at this; exact this
  have hly : p.Y.L.length ≤ 400 := by have := (setI_zero.1 hok.s1).1; rw [← hp.iy, its_len] at this; exact this
  have hlz : p.Z.L.length ≤ 400 := by have := (setI_zero.1 (VS.told_set hok)).1; rw [← hp.iz, its_len] at this; exact this
  have HA0 := hid (fun w1 (hb : Below w.heap.size w w1) => Radd_any p.X.L m0.L p.X.A m0.A p.X.k m0.k w1 (hp.x.rowI.step hb) (by omega) (h0.step hb) l0 (Pow.step ht hb))
  have HA1 := hid (fun w1 (hb : Below w.heap.size w w1) => Radd_any p.Y.L m1.L p.Y.A m1.A p.Y.k m1.k w1 (hp.y.rowI.step hb) (by omega) (h1.step hb) l1 (Pow.step ht hb))
  rw [hp.ix] at HA0
  rw [hp.iy] at HA1
  have HST := hid (fun w1 (hb : Below w.heap.size w w1) (M4 M5 : List IR) A4 A5 k4 k5 r4 l4 r5 l5 => Rsets_any Q M4 M5 qA A4 A5 qk k4 k5 w1 ((hr.step hB).step hb) hl r4 l4 r5 l5 (Pow.step ht hb))
  have HV := hid hp.box
  have HP := hid hp
  have HFE := hid (fun e1 e2 e3 => (more_allE hok (a := its m0.L) (b := its m1.L) e1 e2 e3).2)
  have HFB := hid (show u.feedE (its m0.L) (its m1.L) = if basesE u.q (its m0.L) (its m1.L) ≠ 0 then basesE u.q (its m0.L) (its m1.L) else if addE u.T0 (its m0.L) ≠ 0 then addE u.T0 (its m0.L) else if addE u.T1 (its m1.L) ≠ 0 then addE u.T1 (its m1.L) else (setsG (sumL (u.T0 ++ its m0.L)) (sumL (u.T1 ++ its m1.L)) u.q []).1 from rfl)
  obtain ⟨E, hE⟩ : ∃ E, E = basesE u.q (its m0.L) (its m1.L) := ⟨_, rfl⟩
  obtain ⟨E0, hE0⟩ : ∃ E, E = addE u.T0 (its m0.L) := ⟨_, rfl⟩
  obtain ⟨E1, hE1⟩ : ∃ E, E = addE u.T1 (its m1.L) := ⟨_, rfl⟩
  rw [← hE] at HBS HFB HFE
  rw [← hE0] at HFB HFE HA0
  rw [← hE1] at HFB HFE HA1
  have HE := hid hE
  have HE0 := hid hE0
  have HE1 := hid hE1
  clear hE hE0 hE1
  obtain ⟨cHV, fHV, sHV, nHV⟩ := HV.out.all
  try simp only [cbox] at cHV
  go_enter Tryz.func27, Tryz.ntmps27
  go_wp2_with fail
  -- STOP-a
  refine HBS.out.mono ?_
  rintro e w1 ⟨rfl, hb1⟩
  have HB1 := hid hb1
  clear cHV fHV sHV nHV
  replace HV := hid (HV.out.step hb1)
  clear hb1 HBS
  by_cases hz : E = 0
  rotate_left
  · have t1 : (E != 0) = true := by simpa using hz
    have HF := hid (show u.feedE (its m0.L) (its m1.L) = E by rw [HFB.out, if_pos hz])
    have HNZ := hid hz
    clear hz
    go_wp2_with fail
    -- STOP-b
    go_ret2
    exact HBAD.out E _ HF.out HNZ.out HB1.out
  subst hz
  rw [if_neg (show ¬ (0 : Int) ≠ 0 by simp)] at HFB
  obtain ⟨cHV, fHV, sHV, nHV⟩ := HV.out.all
  try simp only [cbox] at cHV
  go_wp2_with fail
  -- STOP-c
  refine (HA0.out w1 HB1.out).mono ?_
  rintro e w4 ⟨A4, k4, M4, rfl, hi4, ho4, hn4, hb4⟩
  have HS4 := hid (show SetIn w4 lo A4 k4 M4 from SetIn.lo ⟨ho4, hn4⟩ (Nat.le_trans hlo HB1.out.size))
  have HI4 := hid hi4
  have HB4 := hid (Below.step' HB1.out hb4)
  have hz4 : w.heap.size ≤ w4.heap.size := HB4.out.size
  clear cHV fHV sHV nHV
  replace HV := hid (HV.out.step hb4)
  clear hi4 ho4 hn4 hb4 HA0 HB1
  by_cases hz : E0 = 0
  rotate_left
  · have t1 : (E0 != 0) = true := by simpa using hz
    have HF := hid (show u.feedE (its m0.L) (its m1.L) = E0 by rw [HFB.out, if_pos hz])
    have HNZ := hid hz
    clear hz
    go_wp2_with fail
    -- STOP-d
    go_ret2
    exact HBAD.out E0 _ HF.out HNZ.out HB4.out
  subst hz
  rw [if_neg (show ¬ (0 : Int) ≠ 0 by simp)] at HFB
  obtain ⟨cHV, fHV, sHV, nHV⟩ := HV.out.all
  try simp only [cbox] at cHV
  go_wp2_with fail
  -- STOP-e
  refine (HA1.out w4 HB4.out).mono ?_
  rintro e w5 ⟨A5, k5, M5, rfl, hi5, ho5, hn5, hb5⟩
  have HS5 := hid (show SetIn w5 lo A5 k5 M5 from SetIn.lo ⟨ho5, hn5⟩ (Nat.le_trans hlo hz4))
  have HI5 := hid hi5
  have HB5 := hid (Below.step' HB4.out hb5)
  have hz5 : w.heap.size ≤ w5.heap.size := HB5.out.size
  clear cHV fHV sHV nHV
  replace HV := hid (HV.out.step hb5)
  replace HS4 := hid (HS4.out.step hb5)
  clear hi5 ho5 hn5 hb5 HA1 HB4 hz4
  by_cases hz : E1 = 0
  rotate_left
  · have t1 : (E1 != 0) = true := by simpa using hz
    have HF := hid (show u.feedE (its m0.L) (its m1.L) = E1 by rw [HFB.out, if_pos hz])
    have HNZ := hid hz
    clear hz
    go_wp2_with fail
    -- STOP-f
    go_ret2
    exact HBAD.out E1 _ HF.out HNZ.out HB5.out
  subst hz
  have HEQ := hid (HFE.out (by first | trivial | rfl | exact HE.out.symm) (by first | trivial | rfl | exact HE0.out.symm) (by first | trivial | rfl | exact HE1.out.symm))
  have hl4 := addX_len HE0.out.symm HI4.out
  have hl5 := addX_len HE1.out.symm HI5.out
  have hst := HST.out w5 HB5.out M4 M5 A4 A5 k4 k5 HS4.out.rowI (by omega) HS5.out.rowI (by omega)
  rw [HI4.out, HI5.out, ← hq] at hst
  have HX := hid (show (u.feedE (its m0.L) (its m1.L) = 0 → (u.fed (its m0.L) (its m1.L)).told = (allX u.q (addX u.T0 (its m0.L)) (addX u.T1 (its m1.L))).getLastD []) from fun he => by
    obtain ⟨-, -, q2, q3, -⟩ := hok.eats he
    obtain ⟨-, q5⟩ := (hok.fed (its m0.L) (its m1.L)).tells
    rw [q2, q3, ← q5, VS.fed_q]; rfl)
  obtain ⟨F, hF⟩ : ∃ F, F = allE u.q (addX u.T0 (its m0.L)) (addX u.T1 (its m1.L)) := ⟨_, rfl⟩
  obtain ⟨X, hX⟩ : ∃ X, X = allX u.q (addX u.T0 (its m0.L)) (addX u.T1 (its m1.L)) := ⟨_, rfl⟩
  have HOK2 := hid (fun h : F = 0 => all_ok (q := u.q) (a := addX u.T0 (its m0.L)) (b := addX u.T1 (its m1.L)) (by rw [← hF]; exact h))
  rw [← hX] at HX hst HOK2
  rw [← hF] at HEQ hst
  have HSTS := hid hst
  clear hst hF hX HFB HFE
  obtain ⟨cHV, fHV, sHV, nHV⟩ := HV.out.all
  try simp only [cbox] at cHV
  go_wp2_with fail
  -- STOP-g
  refine HSTS.out.mono ?_
  rintro e w6 ⟨B6, k6, LL, rfl, hS6, ho6, hn6, hb6, -, hl30⟩
  have hSl : (setsOf LL).length = X.length := by rw [hS6]
  have hown : ∀ b off q, B6 = some ⟨b, off, q⟩ → w5.heap.size ≤ b := fun b off q e => own_newS ho6 (Nat.le_refl _) b off q e
  have HS6 := hid hS6
  have HRP := hid (rowP_of ho6 hn6)
  have HSN := hid (fun x (hx : x ∈ LL) => show SetIn w6 lo x.A x.k x.L from SetIn.lo ⟨(hn6 x hx).1, (hn6 x hx).2.1⟩ (Nat.le_trans hlo hz5))
  have HB6 := hid (Below.step' HB5.out hb6)
  have hz6 : w.heap.size ≤ w6.heap.size := HB6.out.size
  clear cHV fHV sHV nHV
  have hppl : pp < w5.heap.size := HV.out.lt
  replace HV := hid (HV.out.step hb6)
  replace HS4 := hid (HS4.out.step hb6)
  replace HS5 := hid (HS5.out.step hb6)
  clear hS6 ho6 hn6 hb6 HSTS
  by_cases hz : F = 0
  rotate_left
  · have t1 : (F != 0) = true := by simpa using hz
    have HF := hid (show u.feedE (its m0.L) (its m1.L) = F from HEQ.out)
    have HNZ := hid hz
    clear hz
    go_wp2_with fail
    -- STOP-h
    go_ret2
    exact HBAD.out F _ HF.out HNZ.out HB6.out
  subst hz
  have HEZ := hid (show u.feedE (its m0.L) (its m1.L) = 0 from HEQ.out)
  obtain ⟨Wf, -, -, o3, o4⟩ := HOK2.out rfl
  have hlen : LL.length = X.length := by rw [← hSl, setsOf_len]
  obtain ⟨j, hj⟩ : ∃ j : Nat, j + 1 = LL.length := ⟨LL.length - 1, by omega⟩
  have hjl : j < LL.length := by omega
  obtain ⟨bo, oo, rfl, hbo, ga⟩ := HRP.out.1.lr hjl
  have hbo5 := hown bo oo none rfl
  have HRJ := hid (HSN.out _ (List.getElem_mem hjl))
  have HY1 := hid (show its LL[j].L = (u.fed (its m0.L) (its m1.L)).told by
    rw [HX.out HEZ.out, ← HS6.out, ← getD_last _ _ (by rw [setsOf_len]; omega), setsOf_len, show LL.length - 1 = j by omega, setsOf_getD hjl])
  generalize LL[j] = R at *
  obtain ⟨M, A, k⟩ := R
  simp only at ga HRJ HY1
  have hw : IntKind.i64.wrap ((LL.length : Int) - 1) = (j : Int) := by
    rw [IntWalk.i64_in _ (by omega)]; omega
  have hjl' : (j : Int) < (LL.length : Int) := by omega
  have hj0 : (0 : Int) ≤ (j : Int) := by omega
  clear hlen o3 o4 hj hown hSl HOK2 HX HS6 HSN HRP
  have nb1 : (pp = bo) = False := by simp; omega
  have nb2 : (bo = pp) = False := by simp; omega
  obtain ⟨cHV, fHV, sHV, nHV⟩ := HV.out.all
  try simp only [cbox] at cHV
  go_upto_region 14 with fail
  -- STOP-i
  go_big_region
  -- STOP-j
  clear cHV fHV sHV nHV
  obtain ⟨W7, hW7⟩ : ∃ W7, W7 = (((w6.setCell ⟨pp, 1, none⟩ (.slice A4 M4.length k4)).setCell ⟨pp, 2, none⟩ (.slice A5 M5.length k5)).setCell ⟨pp, 3, none⟩ (.slice A M.length k)).drew := ⟨_, rfl⟩
  rw [← hW7]
  have HG7 := hid (show w6.grownBy W7 (some pp) by rw [hW7]; exact grown_drew (((grown_setS _ _ _ _).trans (grown_setS _ _ _ _)).trans (grown_setS _ _ _ _)))
  have HV7 := hid (show Blk W7 pp #[.slice qA Q.length qk, .slice A4 M4.length k4, .slice A5 M5.length k5, .slice A M.length k] 58 by rw [hW7]; exact (((HV.out.set 1 _).set 2 _).set 3 _).eq rfl)
  clear hW7 nb1 nb2 ga hbo hbo5 hw hjl' hj0 hjl
  have HZ7 := hid ((HP.out.z.step HB6.out).turn HV.out (by decide) (by decide) HG7.out)
  have HIZ := hid hp.iz
  have HP7 := hid (show PL.at_ ⟨⟨M4, A4, k4⟩, ⟨M5, A5, k5⟩, ⟨M, A, k⟩⟩ W7 lo pp qA Q.length qk (u.fed (its m0.L) (its m1.L)) from
    ⟨HV7.out, HS4.out.turn HV.out (by decide) (by decide) HG7.out, HS5.out.turn HV.out (by decide) (by decide) HG7.out, HRJ.out.turn HV.out (by decide) (by decide) HG7.out, by
      show its M4 = _
      rw [HI4.out, (hok.eats HEZ.out).2.2.1], by
      show its M5 = _
      rw [HI5.out, (hok.eats HEZ.out).2.2.2.1], HY1.out⟩)
  have HGW := hid (show w.grownBy W7 (some pp) from (grown_some (grown_of_below HB6.out) _).trans HG7.out)
  have HT7 := hid (show Pow W7 from Pow.step ht0 ((Below.step' hB HB6.out).grown HG7.out (Below.step' hB HB6.out).size (fun g e => by injection e with e; omega)))
  have HR7 := hid (show RowI W7 W7.heap.size A M from (HRJ.out.turn HV.out (by decide) (by decide) HG7.out).rowI)
  have hlm : M.length ≤ 400 := by have := (setI_zero.1 (VS.told_set (hok.fed (its m0.L) (its m1.L)))).1; rw [← HY1.out, its_len] at this; exact this
  have HMN := hid (fun w8 (hb : Below W7.heap.size W7 w8) => Rminus_map p.Z.L p.Z.A p.Z.k w8 (HZ7.out.rowI.step hb) (by rw [HIZ.out]; exact VS.told_set hok))
  obtain ⟨⟨ZL, ZA, Zk⟩, hZ⟩ : ∃ z, z = p.Z := ⟨_, rfl⟩
  rw [← hZ] at HMN hlz HIZ HZ7
  try rw [← hZ]
  simp only at HMN hlz HIZ HZ7
  clear HS4 HS5 HRJ HV HBAD hZ
  obtain ⟨cHV7, fHV7, sHV7, nHV7⟩ := HV7.out.all
  try simp only [cbox] at cHV7
  go_wp2_with (first
    | (at_builtin; refine wpList_append_row elem_item rfl _ _ rfl W7.heap.size (.slice none 0 0) 0 [] rfl (World.ownsRow_nil _ _ _ _) A M.length k W7.heap.size (rcells M) rfl (rcells_len M) HR7.out.1 (rcells_one M) ?_ ?_ ?_ ?_; rotate_right; intro v8 w8 hown8 hg8 hif8; rw [Nat.zero_add, List.nil_append] at hown8; obtain ⟨A8, c8, rfl⟩ := own_formS hown8; have hb8 : Below W7.heap.size W7 w8 := (Below.refl _ _).grown hg8 (Nat.le_refl _) (fun g e => nomatch e); rotate_left; (simp only [maxLen]; omega); (omega); (omega)))
  -- STOP-k
  refine (HMN.out w8 hb8).mono ?_
  rintro e w9 ⟨A9, k9, rfl, hr9, hl9, hb9⟩
  obtain ⟨M9, hM9⟩ : ∃ q, q = ZL.map negR := ⟨_, rfl⟩
  rw [← hM9] at hr9 ⊢
  have HI9 := hid (show its M9 = negL (its ZL) by rw [hM9]; exact its_negR ZL)
  have hl9' : M9.length ≤ 400 := by rw [hM9, List.length_map]; exact hl9
  have HM9 := hid hM9
  have HR9 := hid hr9
  have HO8 := hid (own_laterS hown8 hb9)
  have HB9 := hid (Below.step' hb8 hb9)
  have hz9 : W7.heap.size ≤ w9.heap.size := HB9.out.size
  clear cHV7 fHV7 sHV7 nHV7
  clear hr9 hl9 hM9 hown8 hg8 hif8 hb8 hb9 HMN
  go_wp2_with (first
    | (at_builtin; refine wpList_append_row elem_item rfl _ _ rfl W7.heap.size (.slice A8 M.length c8) M.length (rcells M) rfl HO8.out A9 M9.length k9 w9.heap.size (rcells M9) rfl (rcells_len M9) HR9.out (rcells_one M9) ?_ ?_ ?_ ?_; rotate_right; intro v10 w10 hown10 hg10 hif10; obtain ⟨A10, c10, rfl⟩ := own_formS hown10; rotate_left; (simp only [maxLen]; omega); (omega); (exact hz9)))
  -- STOP-l
  have hb10 : Below W7.heap.size W7 w10 := HB9.out.grown hg10 hz9 (fun g e => (HO8.out.lt g e).1)
  have HRW := hid (show RowI w10 w10.heap.size A10 (M ++ M9) from ⟨by rw [rcells, List.flatMap_append]; exact Row.of_ownS hown10, RowsAt.app (HR7.out.step hb10).2 (by rw [HM9.out]; exact (HZ7.out.rowI.step hb10).2.negR)⟩)
  have HTOK := hid (totOk_small' (M := M ++ M9) (l := (u.fed (its m0.L) (its m1.L)).told ++ negL u.told) (by
    rw [its, List.map_append]
    have h1 := HY1.out
    have h2 := HI9.out
    rw [HIZ.out] at h2
    simp only [its] at h1 h2
    rw [h1, h2]) (told_small hok _ _))
  have hto := total_any (M ++ M9) A10 c10 w10 HRW.out HTOK.out (Pow.step HT7.out hb10)
  have hits : its (M ++ M9) = (u.fed (its m0.L) (its m1.L)).told ++ negL u.told := by
    rw [its, List.map_append]
    have h1 := HY1.out
    have h2 := HI9.out
    rw [HIZ.out] at h2
    simp only [its] at h1 h2
    rw [h1, h2]
  have hmo : sumL ((u.fed (its m0.L) (its m1.L)).told ++ negL u.told) = u.more (its m0.L) (its m1.L) := by
    unfold VS.more
    rw [if_pos HEZ.out]; rfl
  rw [List.length_append, hits, hmo] at hto
  have HTO := hid hto
  have HB10 := hid hb10
  clear hto hits hmo hown10 hg10 hif10 hb10 HTOK HRW HO8 HR9 HR7
  refine HTO.out.mono ?_
  rintro e w11 ⟨A11, k11, M11, rfl, hi11, ho11, hn11, hb11⟩
  have HB11 := hid (Below.step' HB10.out hb11)
  have HI11 := hid hi11
  have HS11 := hid (show SetIn w11 w10.heap.size A11 k11 M11 from ⟨ho11, hn11⟩)
  have hl11 := own_len1 ho11
  clear hi11 ho11 hn11 hb11 HTO
  go_wp2_with fail
  -- STOP-m
  go_ret2
  have he : u.feedE (its m0.L) (its m1.L) = 0 := HEZ.out
  exact ⟨A11, k11, M11, _, by rw [he]; rfl, HI11.out, HS11.out.rowI, hl11, HGW.out.trans (grown_some (grown_of_below HB11.out) _), HP7.out.step HB11.out⟩
end Go.Proofs.YtldlmkfigjicgaaGreatDoor
/- viewref.SameQuery. -/
namespace Go.Proofs.YtldlmkfigjicgaaGreatDoor
set_option linter.unusedVariables false
set_option linter.unusedSimpArgs false
open Go.ChangeShapes Go.WideShapes Go.ChangeAt Go.RowKit

instance : DecidableEq St := fun s t => decidable_of_iff (s.kind = t.kind ∧ s.a = t.a ∧ s.b = t.b ∧ s.col = t.col ∧ s.op = t.op ∧ s.val = t.val ∧ s.list = t.list) (by cases s; cases t; simp)
theorem sts_len (L : List SR) : (sts L).length = L.length := List.length_map ..
set_option maxHeartbeats 1000000 in
set_option maxRecDepth 100000 in
theorem sameStep_any (x y : SR) (w : World) (hx : Row w w.heap.size x.A (icells' x.st.list)) (hxl : x.st.list.length ≤ 9223372036854775807) (hy : Row w w.heap.size y.A (icells' y.st.list)) (hyl : y.st.list.length ≤ 9223372036854775807) :
    Calls Tryz.prog 66 #[.agg x.cells.toArray, .agg y.cells.toArray] w fun e w' => e = .returned (.bool (decide (x.st = y.st))) ∧ Below w.heap.size w w' := by
  obtain ⟨⟨x1, x2, x3, x4, x5, x6, xr⟩, xA, xk⟩ := x
  obtain ⟨⟨y1, y2, y3, y4, y5, y6, yr⟩, yA, yk⟩ := y
  simp only at hx hxl hy hyl
  have HC := hid (fun w1 (hb : Below w.heap.size w w1) => equalN_any xr yr xA yA xk yk w1 (hx.step hb) (hy.step hb) hxl hyl)
  clear hx hy
  obtain ⟨R, hR⟩ : ∃ R, R = decide ((⟨x1, x2, x3, x4, x5, x6, xr⟩ : St) = ⟨y1, y2, y3, y4, y5, y6, yr⟩) := ⟨_, rfl⟩
  simp only [← hR]
  have HX : Hid (R = (decide (x1 = y1) && (decide (x2 = y2) && (decide (x3 = y3) && (decide (x4 = y4) && (decide (x5 = y5) && (decide (x6 = y6) && decide (xr = yr)))))))) := hid (by
    rw [hR, Bool.eq_iff_iff]
    simp [St.mk.injEq])
  clear hR
  obtain ⟨rb, hrb⟩ : ∃ b, b = decide (xr = yr) := ⟨_, rfl⟩
  rw [← hrb] at HC HX
  clear hrb
  simp only [SR.cells]
  by_cases h1 : x1 = y1
  rotate_left
  · have t1 : (x1 == y1) = false := by simp [h1]
    have HD : Hid (R = false) := hid (by rw [HX.out]; simp [h1])
    clear h1
    go_enter Tryz.func66, Tryz.ntmps66
    go_wp2
    go_ret
    exact ⟨ret_bool HD.out.symm, by (repeat' (first | (with_reducible exact Below.refl _ _) | (with_reducible assumption) | (with_reducible refine below_drewN ?_ _) | (with_reducible refine Below.drew ?_) | (with_reducible refine Below.alloc ?_ ?_ _) | (with_reducible refine Below.setCell ?_ ?_ _) | (refine Below.trans ?_ (Below.mono (by assumption) ?_)) | go_size))⟩
  have t1 : (x1 == y1) = true := by simp [h1]
  rw [decide_eq_true h1, Bool.true_and] at HX
  clear h1
  by_cases h2 : x2 = y2
  rotate_left
  · have t2 : (x2 == y2) = false := by simp [h2]
    have HD : Hid (R = false) := hid (by rw [HX.out]; simp [h2])
    clear h2
    go_enter Tryz.func66, Tryz.ntmps66
    go_wp2
    go_ret
    exact ⟨ret_bool HD.out.symm, by (repeat' (first | (with_reducible exact Below.refl _ _) | (with_reducible assumption) | (with_reducible refine below_drewN ?_ _) | (with_reducible refine Below.drew ?_) | (with_reducible refine Below.alloc ?_ ?_ _) | (with_reducible refine Below.setCell ?_ ?_ _) | (refine Below.trans ?_ (Below.mono (by assumption) ?_)) | go_size))⟩
  have t2 : (x2 == y2) = true := by simp [h2]
  rw [decide_eq_true h2, Bool.true_and] at HX
  clear h2
  by_cases h3 : x3 = y3
  rotate_left
  · have t3 : (x3 == y3) = false := by simp [h3]
    have HD : Hid (R = false) := hid (by rw [HX.out]; simp [h3])
    clear h3
    go_enter Tryz.func66, Tryz.ntmps66
    go_wp2
    go_ret
    exact ⟨ret_bool HD.out.symm, by (repeat' (first | (with_reducible exact Below.refl _ _) | (with_reducible assumption) | (with_reducible refine below_drewN ?_ _) | (with_reducible refine Below.drew ?_) | (with_reducible refine Below.alloc ?_ ?_ _) | (with_reducible refine Below.setCell ?_ ?_ _) | (refine Below.trans ?_ (Below.mono (by assumption) ?_)) | go_size))⟩
  have t3 : (x3 == y3) = true := by simp [h3]
  rw [decide_eq_true h3, Bool.true_and] at HX
  clear h3
  by_cases h4 : x4 = y4
  rotate_left
  · have t4 : (x4 == y4) = false := by simp [h4]
    have HD : Hid (R = false) := hid (by rw [HX.out]; simp [h4])
    clear h4
    go_enter Tryz.func66, Tryz.ntmps66
    go_wp2
    go_ret
    exact ⟨ret_bool HD.out.symm, by (repeat' (first | (with_reducible exact Below.refl _ _) | (with_reducible assumption) | (with_reducible refine below_drewN ?_ _) | (with_reducible refine Below.drew ?_) | (with_reducible refine Below.alloc ?_ ?_ _) | (with_reducible refine Below.setCell ?_ ?_ _) | (refine Below.trans ?_ (Below.mono (by assumption) ?_)) | go_size))⟩
  have t4 : (x4 == y4) = true := by simp [h4]
  rw [decide_eq_true h4, Bool.true_and] at HX
  clear h4
  by_cases h5 : x5 = y5
  rotate_left
  · have t5 : (x5 == y5) = false := by simp [h5]
    have HD : Hid (R = false) := hid (by rw [HX.out]; simp [h5])
    clear h5
    go_enter Tryz.func66, Tryz.ntmps66
    go_wp2
    go_ret
    exact ⟨ret_bool HD.out.symm, by (repeat' (first | (with_reducible exact Below.refl _ _) | (with_reducible assumption) | (with_reducible refine below_drewN ?_ _) | (with_reducible refine Below.drew ?_) | (with_reducible refine Below.alloc ?_ ?_ _) | (with_reducible refine Below.setCell ?_ ?_ _) | (refine Below.trans ?_ (Below.mono (by assumption) ?_)) | go_size))⟩
  have t5 : (x5 == y5) = true := by simp [h5]
  rw [decide_eq_true h5, Bool.true_and] at HX
  clear h5
  by_cases h6 : x6 = y6
  rotate_left
  · have t6 : (x6 == y6) = false := by simp [h6]
    have HD : Hid (R = false) := hid (by rw [HX.out]; simp [h6])
    clear h6
    go_enter Tryz.func66, Tryz.ntmps66
    go_wp2
    go_ret
    exact ⟨ret_bool HD.out.symm, by (repeat' (first | (with_reducible exact Below.refl _ _) | (with_reducible assumption) | (with_reducible refine below_drewN ?_ _) | (with_reducible refine Below.drew ?_) | (with_reducible refine Below.alloc ?_ ?_ _) | (with_reducible refine Below.setCell ?_ ?_ _) | (refine Below.trans ?_ (Below.mono (by assumption) ?_)) | go_size))⟩
  have t6 : (x6 == y6) = true := by simp [h6]
  rw [decide_eq_true h6, Bool.true_and] at HX
  clear h6
  go_enter Tryz.func66, Tryz.ntmps66
  go_wp2_with fail
  -- STOP-a
  refine (HC.out _ (by (repeat' (first | (with_reducible exact Below.refl _ _) | (with_reducible assumption) | (with_reducible refine below_drewN ?_ _) | (with_reducible refine Below.drew ?_) | (with_reducible refine Below.alloc ?_ ?_ _) | (with_reducible refine Below.setCell ?_ ?_ _) | (refine Below.trans ?_ (Below.mono (by assumption) ?_)) | go_size)))).mono ?_
  rintro e w1 ⟨rfl, hb1⟩
  have hB1 : Below w.heap.size w w1 := (by refine Below.step' ?_ hb1; (repeat' (first | (with_reducible exact Below.refl _ _) | (with_reducible assumption) | (with_reducible refine below_drewN ?_ _) | (with_reducible refine Below.drew ?_) | (with_reducible refine Below.alloc ?_ ?_ _) | (with_reducible refine Below.setCell ?_ ?_ _) | (refine Below.trans ?_ (Below.mono (by assumption) ?_)) | go_size)))
  clear hb1
  go_wp2
  go_ret
  exact ⟨ret_bool HX.out.symm, hB1⟩
theorem enters_sameStep : ∀ args w, (callFunc 66 args).run Tryz.prog w = .ok (.enter 66 args) w := enters_of Tryz.func66 (by kernel_rfl) rfl

set_option maxHeartbeats 1000000 in
set_option maxRecDepth 100000 in
theorem equalSteps_any (M1 M2 : List SR) (A1 A2 : Option Addr) (c1 c2 : Nat) (w : World) (hr1 : RowS w w.heap.size A1 M1) (hl1 : M1.length ≤ 9223372036854775807) (hr2 : RowS w w.heap.size A2 M2) (hl2 : M2.length ≤ 9223372036854775807) :
    Calls Tryz.prog 65 #[.slice A1 M1.length c1, .slice A2 M2.length c2, .func (.func 66) #[] #[]] w fun e w' => e = .returned (.bool (decide (sts M1 = sts M2))) ∧ Below w.heap.size w w' := by
  have HR1 := hid hr1
  have HR2 := hid hr2
  have eg := enters_sameStep
  clear hr1 hr2
  obtain ⟨R, hR⟩ : ∃ R, R = decide (sts M1 = sts M2) := ⟨_, rfl⟩
  rw [← hR]
  have HRR := hid hR
  clear hR
  by_cases hlen : M1.length = M2.length
  · have hne : ((M1.length : Int) != (M2.length : Int)) = false := by simp [hlen]
    have HL := hid hlen
    clear hlen
    go_enter Tryz.func65, Tryz.ntmps65
    go_wp2_with fail
    go_loopw [17] (fun s17 wr => ∃ k : Nat, k ≤ M1.length ∧ s17 = .int .i64 k ∧ Hid (∀ j (h : j < M1.length) (h' : j < M2.length), j < k → M1[j].st = M2[j].st) ∧ Hid (Below w.heap.size w wr)) (fun s17 _ => M1.length - (intOf s17).toNat)
    case atStart => exact ⟨0, by omega, rfl, hid (fun j _ _ h => by omega), hid (Below.refl _ _)⟩
    case round =>
      obtain ⟨k, hk, rfl, HNO, HB⟩ := hrel
      by_cases hlt : k < M1.length
      · have hlt' : k < M2.length := by have := HL.out; omega
        have HS1 := hid (HR1.out.step HB.out)
        have HS2 := hid (HR2.out.step HB.out)
        obtain ⟨b, off, rfl, hb, h0, h1, h2, h3, h4, h5, h6⟩ := HS1.out.1.sr hlt
        obtain ⟨b', off', rfl, hb', h0', h1', h2', h3', h4', h5', h6'⟩ := HS2.out.1.sr hlt'
        have q1 := HS1.out.2 _ (List.getElem_mem hlt)
        have q2 := HS2.out.2 _ (List.getElem_mem hlt')
        have HXY : Hid (∀ j (h : j < M1.length) (h' : j < M2.length), j = k → (M1[j].st = M2[j].st) = (M1[k].st = M2[k].st)) := hid (fun j h h' e => by subst e; rfl)
        generalize M1[k] = x at *
        generalize M2[k] = y at *
        have HCL := hid (fun w1 (hb : Below wr.heap.size wr w1) => sameStep_any x y w1 (q1.1.step hb) q1.2 (q2.1.step hb) q2.2)
        clear q1 q2
        obtain ⟨bq, hbq⟩ : ∃ q, q = decide (x.st = y.st) := ⟨_, rfl⟩
        rw [← hbq] at HCL
        have HBQ := hid hbq
        clear hbq
        obtain ⟨⟨x1, x2, x3, x4, x5, x6, xr⟩, xA, xk⟩ := x
        obtain ⟨⟨y1, y2, y3, y4, y5, y6, yr⟩, yA, yk⟩ := y
        simp only [SR.cells] at h0 h1 h2 h3 h4 h5 h6 h0' h1' h2' h3' h4' h5' h6' HCL
        have hnb : (b' = wr.heap.size) = False := by simp; omega
        cases bq
        · have HD : Hid (R = false) := hid (by
            rw [HRR.out, decide_eq_false_iff_not]
            intro e
            have e3 : (sts M1)[k]? = (sts M2)[k]? := by rw [e]
            rw [List.getElem?_eq_getElem (by rw [sts_len]; exact hlt), List.getElem?_eq_getElem (by rw [sts_len]; exact hlt')] at e3
            simp only [sts, List.getElem_map, Option.some.injEq] at e3
            rw [HXY.out k hlt hlt' rfl] at e3
            have := HBQ.out
            rw [decide_eq_true e3] at this
            cases this)
          go_wp2_with fail
          refine (HCL.out _ (by (repeat' (first | (with_reducible exact Below.refl _ _) | (with_reducible assumption) | (with_reducible refine below_drewN ?_ _) | (with_reducible refine Below.drew ?_) | (with_reducible refine Below.alloc ?_ ?_ _) | (with_reducible refine Below.setCell ?_ ?_ _) | (refine Below.trans ?_ (Below.mono (by assumption) ?_)) | go_size)))).mono ?_
          rintro e w1 ⟨rfl, hb1⟩
          have hB1 : Below wr.heap.size wr w1 := (by refine Below.step' ?_ hb1; (repeat' (first | (with_reducible exact Below.refl _ _) | (with_reducible assumption) | (with_reducible refine below_drewN ?_ _) | (with_reducible refine Below.drew ?_) | (with_reducible refine Below.alloc ?_ ?_ _) | (with_reducible refine Below.setCell ?_ ?_ _) | (refine Below.trans ?_ (Below.mono (by assumption) ?_)) | go_size)))
          clear hb1
          go_wp2
          go_ret
          exact ⟨ret_bool HD.out.symm, Below.step' HB.out hB1⟩
        · go_wp2_with fail
          refine (HCL.out _ (by (repeat' (first | (with_reducible exact Below.refl _ _) | (with_reducible assumption) | (with_reducible refine below_drewN ?_ _) | (with_reducible refine Below.drew ?_) | (with_reducible refine Below.alloc ?_ ?_ _) | (with_reducible refine Below.setCell ?_ ?_ _) | (refine Below.trans ?_ (Below.mono (by assumption) ?_)) | go_size)))).mono ?_
          rintro e w1 ⟨rfl, hb1⟩
          have hB1 : Below wr.heap.size wr w1 := (by refine Below.step' ?_ hb1; (repeat' (first | (with_reducible exact Below.refl _ _) | (with_reducible assumption) | (with_reducible refine below_drewN ?_ _) | (with_reducible refine Below.drew ?_) | (with_reducible refine Below.alloc ?_ ?_ _) | (with_reducible refine Below.setCell ?_ ?_ _) | (refine Below.trans ?_ (Below.mono (by assumption) ?_)) | go_size)))
          have HB1 := hid hB1
          clear hb1 hB1
          go_wp2
          go_roundw
          case rel =>
            refine ⟨k + 1, by omega, by go_num, hid (fun j h h' hj => ?_), hid (Below.step' HB.out HB1.out)⟩
            by_cases e : j = k
            · rw [HXY.out j h h' e]; exact of_decide_eq_true HBQ.out.symm
            · exact HNO.out j h h' (by omega)
          case measure => simp [intOf]; omega
      · have HD : Hid (R = true) := hid (by
          rw [HRR.out, decide_eq_true_eq]
          refine List.ext_getElem (by rw [sts_len, sts_len]; exact HL.out) fun j h h' => ?_
          simp only [sts, List.getElem_map]
          rw [sts_len] at h h'
          exact HNO.out j h h' (by omega))
        go_wp2
        go_ret
        exact ⟨ret_bool HD.out.symm, HB.out⟩
  · have hne : ((M1.length : Int) != (M2.length : Int)) = true := by simp; omega
    have HD : Hid (R = false) := hid (by
      rw [HRR.out, decide_eq_false_iff_not]
      intro e
      exact hlen (by rw [← sts_len M1, ← sts_len M2, e]))
    go_enter Tryz.func65, Tryz.ntmps65
    go_wp2
    go_ret
    exact ⟨ret_bool HD.out.symm, Below.refl _ _⟩

set_option maxRecDepth 100000 in
theorem sameQuery_any (M1 M2 : List SR) (A1 A2 : Option Addr) (c1 c2 : Nat) (w : World) (hr1 : RowS w w.heap.size A1 M1) (hl1 : M1.length ≤ 9223372036854775807) (hr2 : RowS w w.heap.size A2 M2) (hl2 : M2.length ≤ 9223372036854775807) :
    Calls Tryz.prog 29 #[.slice A1 M1.length c1, .slice A2 M2.length c2] w fun e w' => e = .returned (.bool (decide (sts M1 = sts M2))) ∧ Below w.heap.size w w' := by
  have HC := hid (equalSteps_any M1 M2 A1 A2 c1 c2 w hr1 hl1 hr2 hl2)
  clear hr1 hr2
  obtain ⟨R, hR⟩ : ∃ R, R = decide (sts M1 = sts M2) := ⟨_, rfl⟩
  rw [← hR] at HC ⊢
  clear hR
  go_enter Tryz.func29, Tryz.ntmps29
  go_wp2_with fail
  refine HC.out.mono ?_
  rintro e w1 ⟨rfl, hb1⟩
  go_wp2
  go_ret
  exact ⟨rfl, hb1⟩

end Go.Proofs.YtldlmkfigjicgaaGreatDoor
/- viewlaw.IncPlays. -/
namespace Go.Proofs.YtldlmkfigjicgaaGreatDoor
set_option linter.unusedVariables false
set_option linter.unusedSimpArgs false
open Go.ChangeShapes Go.WideShapes Go.ChangeAt Go.RowKit

theorem lists8 {v : VR} (hok : v.vs.ok) : ∀ x ∈ v.Q, x.st.list.length ≤ 8 := fun x hx => by
  obtain ⟨W, hW, -⟩ := hok.wids
  have hm : x.st ∈ v.vs.q := List.mem_map.2 ⟨x, hx, rfl⟩
  obtain ⟨i, hi, e⟩ := List.mem_iff_getElem.1 hm
  have := stW_list (refs_of hW i hi)
  rwa [e] at this
set_option maxHeartbeats 1000000 in
set_option maxRecDepth 100000 in
theorem vquery_any (v : VR) (vp : Nat) (w : World) (hv : v.at_ w vp) (hok : v.vs.ok) :
    Calls Tryz.prog 30 #[.pointer (some ⟨vp, 0, none⟩)] w (StpsPost (sts v.Q) w) := by
  have hq8 := (hok.wids).choose_spec.2.2.2
  have hQl : v.Q.length ≤ 1048576 := by
    have : v.vs.q.length = v.Q.length := List.length_map ..
    omega
  have HC := hid (icopied_any v.Q v.qA v.qk w hv.q hQl (fun x hx => by have := lists8 hok x hx; omega))
  have HV := hid (show Blk w vp #[.slice v.qA v.Q.length v.qk, .slice v.T0.A v.T0.L.length v.T0.k, .slice v.T1.A v.T1.L.length v.T1.k, .slice v.nA v.N.length v.nk] 94 from hv.box)
  clear hv hok hq8
  obtain ⟨cHV, fHV, sHV, nHV⟩ := HV.out.all
  try simp only [cbox] at cHV
  go_enter Tryz.func30, Tryz.ntmps30
  go_wp2_with fail
  -- STOP-a
  refine HC.out.mono ?_
  rintro e w1 ⟨A1, k1, M1, rfl, h1, h2, h3, h4⟩
  go_wp2_with fail
  go_ret
  exact ⟨A1, k1, M1, rfl, h1, h2, h3, h4⟩
set_option maxHeartbeats 8000000 in
set_option maxRecDepth 100000 in
theorem incPlays_any (L : List SR) (A : Option Addr) (k : Nat) (l : List FR) (FA : Option Addr) (fk : Nat) (w : World) (hr : RowS w w.heap.size A L) (hl : L.length ≤ 9223372036854775807)
    (hf : Row w w.heap.size FA (l.flatMap FR.cells)) (hfs : ∀ z ∈ l, z.at_ w) (hfl : l.length ≤ 9223372036854775807) (ht : Pow w) :
    Calls Tryz.prog 5 #[.slice A L.length k, .slice FA l.length fk] w fun e w' => e = .returned (.bool true) ∧ Below w.heap.size w w' := by
  have HN := hid (inew_any L A k w hr hl)
  have HQ := hid (fun (w1 : World) (hb : Below w.heap.size w w1) => Rquery_any L A k w1 (hr.step hb) hl)
  have HR := hid hr
  have HF := hid hf
  have HFS := hid hfs
  have HT := hid ht
  clear hr hf hfs ht
  go_enter Tryz.func5, Tryz.ntmps5
  go_wp2_with fail
  -- STOP-a
  refine HN.out.mono ?_
  by_cases hq : queryE (sts L) = 0
  rotate_left
  · rintro e w2 (⟨-, rfl, hb2⟩ | ⟨h, -⟩)
    rotate_left
    · exact absurd h hq
    have HB2 := hid hb2
    obtain ⟨E, hE⟩ : ∃ E, E = queryE (sts L) := ⟨_, rfl⟩
    rw [← hE] at hq HQ ⊢
    have t1 : (E != 0) = true := by simpa using hq
    have t2 : (E == E) = true := by simp
    clear hE hq hb2 HN
    go_wp2_with fail
    refine (HQ.out w2 HB2.out).mono ?_
    rintro e w3 ⟨rfl, hb3⟩
    have HB3 := hid (Below.step' HB2.out hb3)
    clear hb3
    go_wp2_with fail
    -- STOP-b
    go_ret
    exact ⟨by rfl, HB3.out⟩
  rintro e w2 (⟨h, -⟩ | ⟨-, vp, v, rfl, hv, hsq, h0, h1, hNl, hNn, hvp, hb2, ho⟩)
  · exact absurd hq h
  have HB2 := hid hb2
  rw [hq] at HQ
  have HVS := hid (vs_new hsq h0 h1 hNl hNn)
  have HOK := hid (VS.start_ok hq)
  have HV := hid hv
  have HVO := hid ho
  have hvl : vp < w2.heap.size := hv.box.lt
  clear hv hsq h0 h1 hNl hNn ho hb2 HN hq
  go_wp2_with fail
  -- STOP-c
  refine (HQ.out w2 HB2.out).mono ?_
  rintro e w3 ⟨rfl, hb3⟩
  have HB3 := hid (Below.step' HB2.out hb3)
  have hvl3 : vp < w3.heap.size := Nat.lt_of_lt_of_le hvl hb3.size
  replace HV := hid (HV.out.step hb3)
  clear hb3
  by_cases hlong : 30 < l.length
  · have t1 : decide ((30 : Int) < (l.length : Int)) = true := decide_eq_true (by omega)
    have t2 : ((30 : Int) < (l.length : Int)) = True := eq_true (by omega)
    clear hlong
    go_wp2_with fail
    -- STOP-d
    go_ret
    exact ⟨by rfl, HB3.out⟩
  have t1 : decide ((30 : Int) < (l.length : Int)) = false := decide_eq_false (by omega)
  have t2 : ((30 : Int) < (l.length : Int)) = False := eq_false (by omega)
  have hl30 : l.length ≤ 30 := by omega
  clear hlong
  have hpp0 : w.heap.size ≤ w3.heap.size := HB3.out.size
  obtain ⟨pp, hpp⟩ : ∃ p, p = w3.heap.size := ⟨_, rfl⟩
  obtain ⟨wp, hwp⟩ : ∃ q : World, q = w3.alloc (.cells #[.slice A L.length k, .slice none 0 0, .slice none 0 0, .slice none 0 0] 58) := ⟨_, rfl⟩
  have hbp : Below w3.heap.size w3 wp := by rw [hwp]; exact alloc_below (Below.refl _ _) _
  have HP0 := hid (show PL.at_ ⟨⟨[], none, 0⟩, ⟨[], none, 0⟩, ⟨[], none, 0⟩⟩ wp wp.heap.size pp A L.length k v.vs from by
    refine ⟨by rw [hwp, hpp]; exact Blk.new _ _ _, SetIn.nil _ _, SetIn.nil _ _, SetIn.nil _ _, by rw [HVS.out]; rfl, by rw [HVS.out]; rfl, ?_⟩
    rw [HVS.out]
    show [] = (List.replicate (sts L).length []).getLastD []
    cases (sts L).length with
    | zero => rfl
    | succ n => rw [List.replicate_succ', List.getLastD_concat])
  have HVO3 := hid ((HV.out.off_new (HVO.out)).imp (BV := fun b => b = vp ∨ b = pp ∨ b < w.heap.size) fun b h => show (b = vp ∨ b < w.heap.size) ∨ w3.heap.size ≤ b by
    have h' : b = vp ∨ b = pp ∨ b < w.heap.size := h
    omega)
  have HVP := hid (HV.out.step hbp)
  have HBP := hid (Below.step' HB3.out hbp)
  have hplt : pp < wp.heap.size := HP0.out.box.lt
  have hvpp : vp ≠ pp := by omega
  have hppw : w.heap.size ≤ pp := by omega
  have hvlp : vp < wp.heap.size := HVP.out.box.lt
  go_upto_region 8 with fail
  -- STOP-e
  rw [← hpp, ← hwp]
  clear hwp hbp HV HVO hvl hvl3 hpp
  go_wp2_with fail
  -- STOP-f
  go_loopw [43] (fun s43 wr => ∃ (j : Nat) (u : VR) (p : PL), j ≤ l.length ∧ s43 = .int .i64 j ∧ Hid (u.at_ wr vp) ∧ Hid u.vs.ok ∧ Hid (u.off (fun b => b = vp ∨ b = pp ∨ b < w.heap.size)) ∧ Hid (u.vs.q = sts L) ∧ Hid (p.at_ wr wp.heap.size pp A L.length k u.vs) ∧ wp.heap.size ≤ wr.heap.size ∧ Hid (Below w.heap.size w wr)) (fun s43 _ => l.length - (intOf s43).toNat)
  case atStart => exact ⟨0, v, _, by omega, rfl, HVP, hid (by rw [HVS.out]; exact HOK.out), HVO3, hid (by rw [HVS.out]; rfl), HP0, Nat.le_refl _, HBP⟩
  case round =>
    clear HVP HVO3 HP0 HBP HVS HOK
    obtain ⟨j, u, p, hj, rfl, HU, HUOK, HUO, HUQ, HP, hz, HB⟩ := hrel
    obtain ⟨wo, rfl⟩ : ∃ wx : World, wx = wr := ⟨_, rfl⟩
    by_cases hlt : j < l.length
    · have t3 : ((j : Int) < (l.length : Int)) = True := eq_true (by omega)
      obtain ⟨b, off, rfl, hb, c0, c1⟩ := (HF.out.step HB.out).fr hlt
      have HFJ := hid (HFS.out _ (List.getElem_mem hlt))
      generalize l[j] = fj at *
      obtain ⟨⟨XL, XA, Xk⟩, ⟨YL, YA, Yk⟩⟩ := fj
      simp only at c0 c1
      obtain ⟨W, hW⟩ : ∃ W : World, W = wo.alloc (.cells #[.slice XA XL.length Xk, .slice YA YL.length Yk] 60) := ⟨_, rfl⟩
      have hWB : Below wo.heap.size wo W := by rw [hW]; exact alloc_below (Below.refl _ _) _
      have HXB := hid (show Blk W wo.heap.size #[.slice XA XL.length Xk, .slice YA YL.length Yk] 60 by rw [hW]; exact Blk.new _ _ _)
      go_upto_region 11 with fail
      -- STOP-g
      rw [← hW]
      clear hW c0 c1 hb
      have HBW := hid (Below.step' HB.out hWB)
      have hzW : wp.heap.size ≤ W.heap.size := Nat.le_trans hz hWB.size
      have hvo : vp < wo.heap.size := HU.out.box.lt
      have hpo : pp < wo.heap.size := HP.out.box.lt
      replace HU := hid (HU.out.step hWB)
      replace HP := hid (HP.out.step hWB)
      clear hWB
      have hsw : w.heap.size ≤ W.heap.size := HBW.out.size
      have HF1 := hid (feed_any u vp ⟨XL, XA, Xk⟩ ⟨YL, YA, Yk⟩ (fun b => b = vp ∨ b = pp ∨ b < w.heap.size) W HU.out HUOK.out HUO.out (.inl rfl) (fun b h => by
        have h' : b = vp ∨ b = pp ∨ b < w.heap.size := h
        omega) (HFJ.out.step HBW.out).1.1 (HFJ.out.step HBW.out).2.1 HFJ.out.1.2 HFJ.out.2.2)
      obtain ⟨cHXB, fHXB, sHXB, nHXB⟩ := HXB.out.all
      try simp only [cbox] at cHXB
      go_wp2_with fail
      -- STOP-h
      refine HF1.out.mono ?_
      rintro e w6 ⟨A6, k6, M6, rfl, hi6, hs6, hg6, v1, hv1, hvs1, ho1, -⟩
      clear cHXB fHXB sHXB nHXB
      have HB6 := hid (HBW.out.grown hg6 hsw (fun g e => by injection e with e; omega))
      replace HP := hid (HP.out.fed HU.out (Ne.symm hvpp) hg6)
      replace HXB := hid (HXB.out.grown hg6 (fun e => by injection e with e; omega))
      have HV1 := hid hv1
      have HVO1 := hid ho1
      have HVS1 := hid hvs1
      have HS6 := hid hs6
      have HI6 := hid hi6
      have hz6 : wp.heap.size ≤ w6.heap.size := Nat.le_trans hzW hg6.size
      have HOKF := hid (HUOK.out.fed (its XL) (its YL))
      have HFQ := hid (show (u.vs.fed (its XL) (its YL)).q = sts L by rw [VS.fed_q, HUQ.out])
      have HF2 := hid (pfeed_any L A k u.vs p pp wp.heap.size ⟨XL, XA, Xk⟩ ⟨YL, YA, Yk⟩ w w6 HP.out HUOK.out HUQ.out HR.out hl HB6.out hz6 hppw (HFJ.out.step HB6.out).1.1 (HFJ.out.step HB6.out).2.1 HFJ.out.1.2 HFJ.out.2.2 HT.out)
      try simp only at HI6 HVS1 HF2
      obtain ⟨E, hE⟩ : ∃ E, E = u.vs.feedE (its XL) (its YL) := ⟨_, rfl⟩
      obtain ⟨FV, hFV⟩ : ∃ V, V = u.vs.fed (its XL) (its YL) := ⟨_, rfl⟩
      obtain ⟨MO, hMO⟩ : ∃ V, V = u.vs.more (its XL) (its YL) := ⟨_, rfl⟩
      unfold PFeed at HF2
      rw [← hE, ← hFV, ← hMO] at HF2
      rw [← hFV] at HVS1 HOKF HFQ
      rw [← hMO] at HI6
      try simp only
      rw [← hE]
      clear hg6 hv1 hvs1 ho1 hs6 hi6 HF1 hE hFV hMO HUQ HUO HU
      obtain ⟨cHXB, fHXB, sHXB, nHXB⟩ := HXB.out.all
      try simp only [cbox] at cHXB
      go_wp2_with fail
      -- STOP-i
      refine HF2.out.mono ?_
      rintro e w7 ⟨A7, k7, M7, p', rfl, hi7, hr7, hl7, hg7, hp7⟩
      clear cHXB fHXB sHXB nHXB
      have HB7 := hid (HB6.out.grown hg7 HB6.out.size (fun g e => by injection e with e; omega))
      have HR6 := hid (HS6.out.turn HP.out.box (by decide) (by decide) hg7).rowI
      have hl6 := own_len1 HS6.out.1
      replace HV1 := hid (HV1.out.kept HVO1.out hg7 (.inr (.inl rfl)) hvpp ⟨_, _, _, HP.out.box⟩)
      have HPN := hid hp7
      have hz7 : wp.heap.size ≤ w7.heap.size := Nat.le_trans hz6 hg7.size
      have HSS := hid (fun w8 (hb : Below w7.heap.size w7 w8) => show Calls Tryz.prog 19 #[.slice A6 M6.length k6, .slice A7 M7.length k7] w8 fun e w' => e = .returned (.bool true) ∧ Below w8.heap.size w8 w' from by
        have := sameSet_any M6 M7 A6 A7 k6 k7 w8 (HR6.out.step hb) hl6 (hr7.step hb) hl7
        rwa [decide_eq_true (by rw [HI6.out, hi7])] at this)
      have HAV := hid (fun w8 (hb : Below w7.heap.size w7 w8) => show Calls Tryz.prog 28 #[.pointer (some ⟨vp, 0, none⟩)] w8 (ItsPost FV.told w8) from by
        have := all_tells v1 vp w8 (HV1.out.step hb) (by rw [HVS1.out]; exact HOKF.out)
        rwa [HVS1.out] at this)
      have HPB := hid hp7.box
      obtain ⟨⟨PXL, PXA, PXk⟩, ⟨PYL, PYA, PYk⟩, ⟨PZL, PZA, PZk⟩⟩ := p'
      have HS3 := hid (fun (w8 w9 : World) A8 k8 M8 (hi : its M8 = FV.told) (ho : w9.ownsRow w8.heap.size 67 2 (.slice A8 M8.length k8) M8.length (rcells M8)) (hn : RowsNew w9 w8.heap.size (.slice A8 M8.length k8) M8) (hb : Below w7.heap.size w7 w9) (w10 : World) (hb2 : Below w9.heap.size w9 w10) => show Calls Tryz.prog 19 #[.slice A8 M8.length k8, .slice PZA PZL.length PZk] w10 fun e w' => e = .returned (.bool true) ∧ Below w10.heap.size w10 w' from by
        have h1 : RowI w9 w9.heap.size A8 M8 := SetIn.rowI (⟨ho, hn⟩ : SetIn w9 w8.heap.size A8 k8 M8)
        have h2 := hp7.z.rowI.step hb
        have := sameSet_any M8 PZL A8 PZA k8 PZk w10 (h1.step hb2) (own_len1 ho) (h2.step hb2) (own_len1 hp7.z.1)
        rwa [decide_eq_true (by rw [hi]; exact hp7.iz.symm)] at this)
      have hpl7 : pp < w7.heap.size := HPB.out.lt
      clear hi7 hr7 hl7 hg7 hp7 HF2 HI6 HS6 HR6 HP HXB HFJ hl6
      go_upto_region 13 with fail
      -- STOP-i3
      go_cut [83] from 65 to 82 (fun s83 wx => s83 = .bool false ∧ Below w7.heap.size w7 wx)
      case first =>
        obtain ⟨cHPB, fHPB, sHPB, nHPB⟩ := HPB.out.all
        try simp only [cbox] at cHPB
        go_region_held3 (fun w' => (∀ b o, b < w7.heap.size → w'.cell? ⟨b, o, none⟩ = w7.cell? ⟨b, o, none⟩) ∧ Below w7.heap.size w7 w')
          ((go_split_ands; refine keepS ?_; first | (with_reducible assumption) | (with_reducible exact (Below.refl _ _).drew)))
          (first
            | (go_split_ands; go_at_call 19; (with_reducible refine (HSS.out _ (by with_reducible assumption)).mono ?_); rintro e w8 ⟨rfl, hb8⟩; have hB8 := Below.step' (by with_reducible assumption : Below w7.heap.size w7 _) hb8)
            | (go_split_ands; go_at_call 28; (with_reducible refine (HAV.out _ (by with_reducible assumption)).mono ?_); rintro e w9 ⟨A9, k9, M9, rfl, hi9, ho9, hn9, hb9⟩; have hB9 := Below.step' (by with_reducible assumption : Below w7.heap.size w7 _) hb9)
            | (go_split_ands; go_at_call 19; (with_reducible refine (HS3.out _ _ A9 k9 M9 hi9 ho9 hn9 hB9 _ (Below.refl _ _)).mono ?_); rintro e w10 ⟨rfl, hb10⟩; have hB10 := Below.step' (by with_reducible assumption : Below w7.heap.size w7 _) hb10))
        -- STOP-j
        all_goals
          go_wp2_with fail
          -- STOP-l
          go_meet
          case rel => exact ⟨rfl, hB10⟩
      case rest =>
        obtain ⟨rfl, hbc⟩ := hcut
        obtain ⟨wd, rfl⟩ : ∃ wx : World, wx = wc := ⟨_, rfl⟩
        have HBD := hid (Below.step' HB7.out hbc)
        replace HV1 := hid (HV1.out.step hbc)
        replace HPN := hid (HPN.out.step hbc)
        have hzd : wp.heap.size ≤ wd.heap.size := Nat.le_trans hz7 hbc.size
        clear hbc HSS HAV HS3 HPB
        go_wp2_with fail
        -- STOP-m
        go_roundw
        case rel => exact ⟨j + 1, v1, _, by omega, by go_num, HV1, hid (by rw [HVS1.out]; exact HOKF.out), HVO1, hid (by rw [HVS1.out]; exact HFQ.out), hid (by rw [HVS1.out]; exact HPN.out), hzd, HBD⟩
        case measure => simp [intOf]; omega
    · have t3 : ((j : Int) < (l.length : Int)) = False := eq_false (by omega)
      have HVQ := hid (vquery_any u vp wo HU.out HUOK.out)
      have HQ2 := hid HUQ.out
      clear HU HUO HP
      go_wp2_with fail
      -- STOP-n
      refine HVQ.out.mono ?_
      rintro e w4 ⟨A4, k4, M4, rfl, hi4, ho4, hn4, hb4⟩
      have HB4 := hid (Below.step' HB.out hb4)
      have hsq := sameQuery_any M4 L A4 A k4 k w4 ⟨Row.of_ownS ho4, hn4.rows⟩ (own_len1 ho4) (HR.out.step HB4.out) hl
      rw [decide_eq_true (show sts M4 = sts L by rw [hi4]; exact HQ2.out)] at hsq
      have HSQ := hid hsq
      clear hi4 ho4 hn4 hb4 hsq HVQ
      go_wp2_with fail
      -- STOP-o
      refine HSQ.out.mono ?_
      rintro e w5 ⟨rfl, hb5⟩
      have HB5 := hid (Below.step' HB4.out hb5)
      clear hb5 HSQ
      go_wp2_with fail
      go_ret
      exact ⟨rfl, HB5.out⟩
end Go.Proofs.YtldlmkfigjicgaaGreatDoor
