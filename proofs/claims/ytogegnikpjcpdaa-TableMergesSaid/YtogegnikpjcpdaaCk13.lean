/- Edited, Puts, TL, Frame -/
import Derived.Test.YtogegnikpjcpdaaCk12
import Derived.Test.YtogegnikpjcpdaaCk07
import Derived.Test.YtogegnikpjcpdaaRows
import Derived.Below
import Derived.ChangeSame
import Derived.Carry
import Derived.WalkKit
import Derived.ProofKit
import Derived.OpenShut
/- viewkeep.edited. -/
namespace Go.Proofs.Ytogegnikpjcpdaa
set_option linter.unusedVariables false
open Go.ChangeShapes Go.WideShapes Go.ChangeAt Go.RowKit

structure Ed where
  kind : Int
  tbl : Int
  key : Int
  col : Int
  val : Int
abbrev Ed.cells (x : Ed) : List Value := [.int .i64 x.kind, .int .i64 x.tbl, .int .i64 x.key, .int .i64 x.col, .int .i64 x.val]
abbrev ecells (l : List Ed) : List Value := l.flatMap Ed.cells
theorem Ed.len (x : Ed) : x.cells.length = 5 := rfl
theorem Row.ed {w : World} {B : Nat} {A : Option Addr} {l : List Ed} (h : Row w B A (ecells l)) {k : Nat} (hk : k < l.length) :
    ∃ b off, A = some ⟨b, off, none⟩ ∧ b < B ∧ w.cell? ⟨b, off + k * 5, none⟩ = some (.int .i64 l[k].kind) ∧ w.cell? ⟨b, off + k * 5 + 1, none⟩ = some (.int .i64 l[k].tbl) ∧ w.cell? ⟨b, off + k * 5 + 2, none⟩ = some (.int .i64 l[k].key) ∧
      w.cell? ⟨b, off + k * 5 + 3, none⟩ = some (.int .i64 l[k].col) ∧ w.cell? ⟨b, off + k * 5 + 4, none⟩ = some (.int .i64 l[k].val) := by
  obtain ⟨b, off, h1, h2, h3⟩ := Row.flat Ed.len h (by decide) hk
  exact ⟨b, off, h1, h2, h3 0 _ rfl, h3 1 _ rfl, h3 2 _ rfl, h3 3 _ rfl, h3 4 _ rfl⟩

def stepX (t : Tab) (i : Nat) (x : Ed) : Tab := if x.kind = 1 then putX t ((i % 2 : Nat) : Int) x.key x.col x.val else delX t x.key
def stepE (t : Tab) (i : Nat) (x : Ed) : Int := if x.kind = 1 then putE t ((i % 2 : Nat) : Int) x.key x.col x.val else delE t x.key
def editStep (t : Tab) (i : Nat) (x : Ed) : Tab := if stepE t i x ≠ 0 then t else if mergeE t (stepX t i x) = 0 then mergeX t (stepX t i x) else t
def editN (l : List Ed) : Nat → Tab
  | 0 => zT
  | n + 1 => editStep (editN l n) n (l.getD n ⟨0, 0, 0, 0, 0⟩)
def editX (l : List Ed) : Tab := editN l (min 60 l.length)
theorem tabI_zT : tabI zT = 0 := tabI_iff.2 ⟨⟨by simp [clkIn, zT], by simp [zT], by simp [zT]⟩, by simp [zT], by simp [zT], by simp [zT], by simp [zT]⟩
theorem editStep_right {t : Tab} (h : tabI t = 0) (i : Nat) (x : Ed) : tabI (editStep t i x) = 0 := by
  unfold editStep
  split
  · exact h
  · split
    · rename_i h2; exact (merge_ok h2).1
    · exact h
theorem editN_right (l : List Ed) : ∀ n, tabI (editN l n) = 0
  | 0 => tabI_zT
  | n + 1 => editStep_right (editN_right l n) n _
theorem editX_right (l : List Ed) : tabI (editX l) = 0 := editN_right l _
theorem tab_small {t : Tab} (h : tabI t = 0) : t.c.cloud.length ≤ 400 ∧ t.cells.length ≤ 400 := ⟨(tabI_iff.1 h).2.1, (tabI_iff.1 h).2.2.1⟩
theorem stepX_len (t : Tab) (i : Nat) (x : Ed) : (stepX t i x).c.cloud.length ≤ 400 ∧ (stepX t i x).cells.length ≤ 1 := by
  unfold stepX
  split
  · exact putX_len _ _ _ _ _
  · exact delX_len _ _

def TabPost (T : Tab) (w : World) (e : Ending) (w' : World) : Prop :=
  ∃ A k B m, e = .returned (tval T A k B m) ∧ Row w' w'.heap.size A (dcells T.c.cloud) ∧ Row w' w'.heap.size B (tcells T.cells) ∧ Below w.heap.size w w' ∧ NewAt w.heap.size A ∧ NewAt w.heap.size B

set_option maxHeartbeats 4000000 in
set_option maxRecDepth 100000 in
theorem edited_any (l : List Ed) (A : Option Addr) (k0 : Nat) (w : World) (hr : Row w w.heap.size A (ecells l)) (hl : l.length ≤ 9223372036854775807) (hcap : l.length ≤ k0) :
    Calls Try.prog 59 #[.slice A l.length k0] w (TabPost (editX l) w) := by
  have RE := hid (fun w1 (hb : Below w.heap.size w w1) => hr.step hb)
  obtain ⟨N, hN⟩ : ∃ N, N = min 60 l.length := ⟨_, rfl⟩
  have hmin : min (60 : Int) (l.length : Int) = (N : Int) := by omega
  have hNl : N ≤ l.length := by omega
  have HFX := hid (show editX l = editN l N by rw [hN]; rfl)
  have z0 : (0 : Int) ≤ (N : Int) := by omega
  have z1 : (N : Int) ≤ (k0 : Int) := by omega
  have z2 : (N : Int) ≤ (l.length : Int) := by omega
  obtain ⟨V, hV⟩ : ∃ V, V = editX l := ⟨_, rfl⟩
  rw [← hV] at HFX ⊢
  clear hV hN hr
  go_enter Try.func59, Try.ntmps59
  go_wp2
  have HX0 := hid ((Blk.new w #[.int .i64 0, .int .i64 0, .int .i64 0, .int .i64 0, .slice none 0 0, .slice none 0 0] 59).alloc (.cells #[.int .i64 0, .int .i64 0, .int .i64 0, .int .i64 0, .slice none 0 0, .slice none 0 0] 59))
  have HX1 := hid (Blk.new' (w.alloc (.cells #[.int .i64 0, .int .i64 0, .int .i64 0, .int .i64 0, .slice none 0 0, .slice none 0 0] 59)) (b := w.heap.size + 1) #[.int .i64 0, .int .i64 0, .int .i64 0, .int .i64 0, .slice none 0 0, .slice none 0 0] 59 (by simp))
  have HB0 := hid (((Below.refl w.heap.size w).alloc (Nat.le_refl _) (.cells #[.int .i64 0, .int .i64 0, .int .i64 0, .int .i64 0, .slice none 0 0, .slice none 0 0] 59)).alloc (by simp) (.cells #[.int .i64 0, .int .i64 0, .int .i64 0, .int .i64 0, .slice none 0 0, .slice none 0 0] 59))
  go_loopw [16] (fun s16 wr => ∃ i : Nat, i ≤ N ∧ s16 = .int .i64 i ∧ ∃ A4 k4 B4 m4, Blk wr (w.heap.size + 1) (tbox (editN l i) A4 k4 B4 m4) 59 ∧ Blk wr w.heap.size #[.int .i64 0, .int .i64 0, .int .i64 0, .int .i64 0, .slice none 0 0, .slice none 0 0] 59 ∧
    Row wr wr.heap.size A4 (dcells (editN l i).c.cloud) ∧ Row wr wr.heap.size B4 (tcells (editN l i).cells) ∧ NewAt (w.heap.size + 2) A4 ∧ NewAt (w.heap.size + 2) B4 ∧ Below w.heap.size w wr) (fun s16 _ => N - (intOf s16).toNat)
  case atStart => exact ⟨0, by omega, rfl, none, 0, none, 0, HX1.out, HX0.out, Row.nil, Row.nil, newAt_none _, newAt_none _, HB0.out⟩
  case round =>
    obtain ⟨i, hi, rfl, A4, k4, B4, m4, hx1, hx0, hra, hrb, hna, hnb, hbw⟩ := hrel
    have hTr := editN_right l i
    have hst : editN l (i + 1) = editStep (editN l i) i (l.getD i ⟨0, 0, 0, 0, 0⟩) := rfl
    have hfin : ¬ i < N → editN l i = V := fun h => by rw [HFX.out, show i = N by omega]
    obtain ⟨T, hT⟩ : ∃ T, T = editN l i := ⟨_, rfl⟩
    rw [← hT] at hx1 hra hrb hTr hst hfin
    have hTl := tab_small hTr
    clear hT HX0 HX1 HB0
    have HXT := hid hx1
    have HX0 := hid hx0
    have HRA := hid hra
    have HRB := hid hrb
    have HNA := hid hna
    have HNB := hid hnb
    have HBW := hid hbw
    have HFIN := hid hfin
    have HTR := hid hTr
    clear hx1 hx0 hra hrb hna hnb hbw hfin hTr
    have hlt1 := HXT.out.lt
    by_cases hlt : i < N
    · have hil : i < l.length := by omega
      obtain ⟨b, off, hA, hb, e0, e1, e2, e3, e4⟩ := (RE.out wr HBW.out).ed hil
      subst hA
      have hgd : l.getD i ⟨0, 0, 0, 0, 0⟩ = l[i] := by simp [List.getD, hil]
      rw [hgd] at hst
      clear hgd
      generalize l[i] = x at *
      obtain ⟨kd, tb, ky, co, vl⟩ := x
      simp only at e0 e1 e2 e3 e4
      have HSX := hid (show stepX T i ⟨kd, tb, ky, co, vl⟩ = if kd = 1 then putX T ((i % 2 : Nat) : Int) ky co vl else delX T ky from rfl)
      have HSE := hid (show stepE T i ⟨kd, tb, ky, co, vl⟩ = if kd = 1 then putE T ((i % 2 : Nat) : Int) ky co vl else delE T ky from rfl)
      have HSL := hid (stepX_len T i ⟨kd, tb, ky, co, vl⟩)
      have HST := hid (show editN l (i + 1) = if stepE T i ⟨kd, tb, ky, co, vl⟩ ≠ 0 then T else if mergeE T (stepX T i ⟨kd, tb, ky, co, vl⟩) = 0 then mergeX T (stepX T i ⟨kd, tb, ky, co, vl⟩) else T from hst)
      clear hst
      obtain ⟨Y, hY⟩ : ∃ Y, Y = stepX T i ⟨kd, tb, ky, co, vl⟩ := ⟨_, rfl⟩
      obtain ⟨YE, hYE⟩ : ∃ Y, Y = stepE T i ⟨kd, tb, ky, co, vl⟩ := ⟨_, rfl⟩
      rw [← hY] at HSX HSL HST
      rw [← hYE] at HSE HST
      clear hY hYE
      obtain ⟨S, hS⟩ : ∃ S, S = editN l (i + 1) := ⟨_, rfl⟩
      rw [← hS] at HST
      have HS := hid hS
      clear hS
      have HD := hid (fun w1 (hb : Below wr.heap.size wr w1) => del_any T ky A4 k4 B4 m4 w1 (HRA.out.step hb) (by omega) (HRB.out.step hb) (by omega))
      have HP := hid (fun w1 (hb : Below wr.heap.size wr w1) => put_any T ((i % 2 : Nat) : Int) ky co vl A4 k4 B4 m4 w1 (HRA.out.step hb) (by omega) (HRB.out.step hb) (by omega))
      have HM : Hid (∀ (Z : Tab) (A5 : Option Addr) (k5 : Nat) (B5 : Option Addr) (m5 : Nat) w1, Below wr.heap.size wr w1 → Row w1 w1.heap.size A5 (dcells Z.c.cloud) → Z.c.cloud.length ≤ 400 → Row w1 w1.heap.size B5 (tcells Z.cells) → Z.cells.length ≤ 400 →
        Calls Try.prog 54 #[tval T A4 k4 B4 m4, tval Z A5 k5 B5 m5] w1 (TabErr (mergeX T Z) (mergeE T Z) w1)) := hid (fun Z A5 k5 B5 m5 w1 hb h1 h2 h3 h4 => merge_any T Z A4 k4 B4 m4 A5 k5 B5 m5 w1 (HRA.out.step hb) (by omega) (HRB.out.step hb) (by omega) h1 (by omega) h3 (by omega))
      obtain ⟨⟨t0, t1, t2, t3, tl⟩, ts⟩ := T
      obtain ⟨⟨y0, y1, y2, y3, yl⟩, ys⟩ := Y
      simp only [tval, cval, tbox] at HD HP HM HXT
      simp only at hTl
      have hneb : (b = wr.heap.size) = False := by simp; omega
      have zi0 : (0 : Int) ≤ (i : Int) := by omega
      obtain ⟨cHXT, fHXT, sHXT, nHXT⟩ := HXT.out.all
      try simp only [cbox] at cHXT
      go_wp2_with fail
      refine (HD.out _ ((Below.refl _ _).alloc (Nat.le_refl _) _)).mono ?_
      rintro e w5 ⟨A5, k5, B5, m5, rfl, hr5, hs5, hb5, hn5, hn5'⟩
      have hB5 : Below wr.heap.size wr w5 := (by refine Below.step' ?_ hb5; (repeat' (first | (with_reducible exact Below.refl _ _) | (with_reducible assumption) | (with_reducible refine below_drewN ?_ _) | (with_reducible refine Below.drew ?_) | (with_reducible refine Below.alloc ?_ ?_ _) | (with_reducible refine Below.setCell ?_ ?_ _) | (refine Below.trans ?_ (Below.mono (by assumption) ?_)) | go_size)))
      have HX5 := hid (Blk.step (Blk.new wr #[.int .i64 kd, .int .i64 tb, .int .i64 ky, .int .i64 co, .int .i64 vl] 108) hb5)
      clear cHXT fHXT sHXT nHXT
      have HC5 := hid hB5
      have HXT5 := hid (HXT.out.step hB5)
      have hsz5 := hB5.size
      clear hb5 hB5 e0 e1 e2 e3 e4 hneb hb HD
      by_cases qk : kd = 1
      · have HY1 := hid (HSX.out.trans (if_pos qk))
        have HYE := hid (HSE.out.trans (if_pos qk))
        subst qk
        rw [← HY1.out, ← HYE.out] at HP
        clear hr5 hs5 hn5 hn5' HY1 HYE HSX HSE
        obtain ⟨⟨d0, d1, d2, d3, dl⟩, ds⟩ := delX ⟨⟨t0, t1, t2, t3, tl⟩, ts⟩ ky
        simp only [tval]
        have hBz : Below w5.heap.size w5 (w5.alloc (.cells #[.int .i64 d0, .int .i64 d1, .int .i64 d2, .int .i64 d3, .slice A5 dl.length k5, .slice B5 ds.length m5] 59)) := (Below.refl _ _).alloc (Nat.le_refl _) _
        have HX6 := hid (Blk.new w5 #[.int .i64 d0, .int .i64 d1, .int .i64 d2, .int .i64 d3, .slice A5 dl.length k5, .slice B5 ds.length m5] 59)
        have hzz := hBz.size
        have zr2 : Int.tmod (i : Int) 2 = ((i % 2 : Nat) : Int) := by rw [Int.tmod_eq_emod_of_nonneg (by omega)]; omega
        have zr : IntKind.i64.wrap ((i % 2 : Nat) : Int) = ((i % 2 : Nat) : Int) := IntWalk.i64_in _ (by omega)
        obtain ⟨cHXT5, fHXT5, sHXT5, nHXT5⟩ := HXT5.out.all
        try simp only [cbox] at cHXT5
        obtain ⟨cHX5, fHX5, sHX5, nHX5⟩ := HX5.out.all
        try simp only [cbox] at cHX5
        go_wp2_with fail
        refine (HP.out _ (Below.step' HC5.out hBz)).mono ?_
        rintro e w6 ⟨A6, k6, B6, m6, rfl, hr6, hs6, hb6, hn6, hn6'⟩
        clear cHXT5 fHXT5 sHXT5 nHXT5
        clear cHX5 fHX5 sHX5 nHX5
        have hB6 : Below w5.heap.size w5 w6 := Below.step' hBz hb6
        replace HX6 := hid (HX6.out.step hb6)
        have HCW := hid (Below.step' HC5.out hB6)
        have hn6q : NewAt (w5.heap.size + 1) A6 := by simpa using hn6
        have hn6q' : NewAt (w5.heap.size + 1) B6 := by simpa using hn6'
        have hsz6' : w5.heap.size + 1 ≤ w6.heap.size := by have := hb6.size; simpa using this
        clear hBz hb6 hB6 HX5 HXT5 HP hn6 hn6' hzz
        simp only [tval] at hr6 hs6 ⊢
        have hX := HX6.out
        obtain ⟨⟨r0, r1, r2, r3, r4, r5⟩, f0, f1, f2, f3, f4, f5⟩ := hX.six
        replace HX6 := hid (Blk.set6 hX (.int .i64 y0) (.int .i64 y1) (.int .i64 y2) (.int .i64 y3) (.slice A6 yl.length k6) (.slice B6 ys.length m6))
        have HYA := hid (Row.set6 hr6 hn6q (show w5.heap.size < w5.heap.size + 1 by omega) (.int .i64 y0) (.int .i64 y1) (.int .i64 y2) (.int .i64 y3) (.slice A6 yl.length k6) (.slice B6 ys.length m6))
        have HYB := hid (Row.set6 hs6 hn6q' (show w5.heap.size < w5.heap.size + 1 by omega) (.int .i64 y0) (.int .i64 y1) (.int .i64 y2) (.int .i64 y3) (.slice A6 yl.length k6) (.slice B6 ys.length m6))
        replace HCW := hid (Below.set6 HCW.out (show wr.heap.size ≤ w5.heap.size by omega) (.int .i64 y0) (.int .i64 y1) (.int .i64 y2) (.int .i64 y3) (.slice A6 yl.length k6) (.slice B6 ys.length m6))
        clear hX hr6 hs6 hn6q hn6q'
        obtain ⟨Wc, hWc⟩ : ∃ Wc : World, Wc = set6 w6 w5.heap.size (.int .i64 y0) (.int .i64 y1) (.int .i64 y2) (.int .i64 y3) (.slice A6 yl.length k6) (.slice B6 ys.length m6) := ⟨_, rfl⟩
        rw [← hWc] at HX6 HYA HYB HCW
        simp only [set6, set5] at hWc
        go_upto_region 8 with fail
        rw [← hWc]
        clear hWc r0 r1 r2 r3 r4 r5 f0 f1 f2 f3 f4 f5
        have HXTc := hid (HXT.out.step HCW.out)
        have HX0c := hid (HX0.out.step HCW.out)
        by_cases qe : YE = 0
        rotate_left
        · have q1 : (YE != 0) = true := by simpa using qe
          have HFS : Hid (S = ⟨⟨t0, t1, t2, t3, tl⟩, ts⟩) := hid (by rw [HST.out, if_pos qe])
          clear qe
          go_wp2
          go_roundw
          case rel => exact ⟨i + 1, by omega, by go_num, A4, k4, B4, m4, by rw [← HS.out, HFS.out]; exact HXTc.out, HX0c.out, by rw [← HS.out, HFS.out]; exact HRA.out.step HCW.out, by rw [← HS.out, HFS.out]; exact HRB.out.step HCW.out, HNA.out, HNB.out, Below.step' HBW.out HCW.out⟩
          case measure => simp [intOf]; omega
        · subst qe
          have HFS := hid (HST.out.trans (if_neg (by simp)))
          have hcall := HM.out ⟨⟨y0, y1, y2, y3, yl⟩, ys⟩ A6 k6 B6 m6 _ HCW.out HYA.out HSL.out.1 HYB.out (Nat.le_trans HSL.out.2 (by decide))
          obtain ⟨M, hM⟩ : ∃ M, M = mergeX ⟨⟨t0, t1, t2, t3, tl⟩, ts⟩ ⟨⟨y0, y1, y2, y3, yl⟩, ys⟩ := ⟨_, rfl⟩
          obtain ⟨ME, hME⟩ : ∃ M, M = mergeE ⟨⟨t0, t1, t2, t3, tl⟩, ts⟩ ⟨⟨y0, y1, y2, y3, yl⟩, ys⟩ := ⟨_, rfl⟩
          rw [← hM, ← hME] at hcall HFS
          simp only [tval] at hcall
          have HCALL := hid hcall
          have hcsz := HCW.out.size
          clear hcall hM hME HM
          obtain ⟨cHXTc, fHXTc, sHXTc, nHXTc⟩ := HXTc.out.all
          try simp only [cbox] at cHXTc
          obtain ⟨cHX6, fHX6, sHX6, nHX6⟩ := HX6.out.all
          try simp only [cbox] at cHX6
          go_wp2_with fail
          refine HCALL.out.mono ?_
          rintro e w8 ⟨A8, k8, B8, m8, rfl, hr8, hs8, hb8, hn8, hn8'⟩
          obtain ⟨⟨u0, u1, u2, u3, ul⟩, us⟩ := M
          simp only [tval] at hr8 hs8 ⊢
          clear cHXTc fHXTc sHXTc nHXTc
          clear cHX6 fHX6 sHX6 nHX6
          have HCW8 := hid (Below.step' HCW.out hb8)
          have HR8 := hid hr8
          have HS8 := hid hs8
          have HN8 := hid (show NewAt Wc.heap.size A8 from hn8)
          have HN8' := hid (show NewAt Wc.heap.size B8 from hn8')
          clear hr8 hs8 hb8 hn8 hn8' HCALL HX6 HXTc HX0c HYA HYB HCW
          have hBz : Below w8.heap.size w8 (w8.alloc (.cells #[.int .i64 u0, .int .i64 u1, .int .i64 u2, .int .i64 u3, .slice A8 ul.length k8, .slice B8 us.length m8] 59)) := (Below.refl _ _).alloc (Nat.le_refl _) _
          have HX8 := hid (Blk.new w8 #[.int .i64 u0, .int .i64 u1, .int .i64 u2, .int .i64 u3, .slice A8 ul.length k8, .slice B8 us.length m8] 59)
          replace HR8 := hid (HR8.out.step hBz)
          replace HS8 := hid (HS8.out.step hBz)
          replace HCW8 := hid (Below.step' HCW8.out hBz)
          obtain ⟨Wz, hWz⟩ : ∃ Wz : World, Wz = w8.alloc (.cells #[.int .i64 u0, .int .i64 u1, .int .i64 u2, .int .i64 u3, .slice A8 ul.length k8, .slice B8 us.length m8] 59) := ⟨_, rfl⟩
          rw [← hWz] at HR8 HS8 HCW8 HX8
          have HXTz := hid (HXT.out.step HCW8.out)
          have HX0z := hid (HX0.out.step HCW8.out)
          by_cases qm : ME = 0
          · subst qm
            have HFM := hid (HFS.out.trans (if_pos rfl))
            go_upto_region 11 with fail
            rw [← hWz]
            clear hWz hBz
            have hX := HXTz.out
            obtain ⟨⟨r0, r1, r2, r3, r4, r5⟩, f0, f1, f2, f3, f4, f5⟩ := hX.six
            obtain ⟨⟨x0, x1, x2, x3, x4, x5⟩, -⟩ := HX8.out.six
            have HX9 := hid (Blk.set6 hX (.int .i64 u0) (.int .i64 u1) (.int .i64 u2) (.int .i64 u3) (.slice A8 ul.length k8) (.slice B8 us.length m8))
            have HB9 := hid (Below.set6 (Below.step' HBW.out HCW8.out) (show w.heap.size ≤ w.heap.size + 1 by omega) (.int .i64 u0) (.int .i64 u1) (.int .i64 u2) (.int .i64 u3) (.slice A8 ul.length k8) (.slice B8 us.length m8))
            have HR9 := hid (Row.set6 HR8.out HN8.out (show w.heap.size + 1 < Wc.heap.size by omega) (.int .i64 u0) (.int .i64 u1) (.int .i64 u2) (.int .i64 u3) (.slice A8 ul.length k8) (.slice B8 us.length m8))
            have HS9 := hid (Row.set6 HS8.out HN8'.out (show w.heap.size + 1 < Wc.heap.size by omega) (.int .i64 u0) (.int .i64 u1) (.int .i64 u2) (.int .i64 u3) (.slice A8 ul.length k8) (.slice B8 us.length m8))
            have HX0' := hid ((((((HX0z.out.other (a := ⟨w.heap.size + 1, 0, none⟩) (by simp) (.int .i64 u0)).other (a := ⟨w.heap.size + 1, 1, none⟩) (by simp) (.int .i64 u1)).other (a := ⟨w.heap.size + 1, 2, none⟩) (by simp) (.int .i64 u2)).other (a := ⟨w.heap.size + 1, 3, none⟩) (by simp) (.int .i64 u3)).other (a := ⟨w.heap.size + 1, 4, none⟩) (by simp) (.slice A8 ul.length k8)).other (a := ⟨w.heap.size + 1, 5, none⟩) (by simp) (.slice B8 us.length m8))
            clear hX
            go_wp2
            go_roundw
            case rel =>
              exact ⟨i + 1, by omega, by go_num, A8, k8, B8, m8, by rw [← HS.out, HFM.out]; exact HX9.out, HX0'.out, by rw [← HS.out, HFM.out]; exact HR9.out, by rw [← HS.out, HFM.out]; exact HS9.out, fun b off q e => Nat.le_trans (by omega) (HN8.out b off q e), fun b off q e => Nat.le_trans (by omega) (HN8'.out b off q e), HB9.out⟩
            case measure => simp [intOf]; omega
          · have HFM : Hid (S = ⟨⟨t0, t1, t2, t3, tl⟩, ts⟩) := hid (HFS.out.trans (if_neg qm))
            have q2 : (ME == 0) = false := by simpa using qm
            clear qm
            go_upto_region 12 with fail
            rw [← hWz]
            clear hWz hBz
            go_wp2
            go_roundw
            case rel => exact ⟨i + 1, by omega, by go_num, A4, k4, B4, m4, by rw [← HS.out, HFM.out]; exact HXTz.out, HX0z.out, by rw [← HS.out, HFM.out]; exact HRA.out.step HCW8.out, by rw [← HS.out, HFM.out]; exact HRB.out.step HCW8.out, HNA.out, HNB.out, Below.step' HBW.out HCW8.out⟩
            case measure => simp [intOf]; omega
      · have HY1 := hid (HSX.out.trans (if_neg qk))
        have HYE := hid (HSE.out.trans (if_neg qk))
        have q0 : (kd == 1) = false := by simpa using qk
        rw [← HY1.out] at hr5 hs5 ⊢
        rw [← HYE.out]
        simp only [tval] at hr5 hs5 ⊢
        clear HY1 HYE HSX HSE HP qk
        have hBz : Below w5.heap.size w5 (w5.alloc (.cells #[.int .i64 y0, .int .i64 y1, .int .i64 y2, .int .i64 y3, .slice A5 yl.length k5, .slice B5 ys.length m5] 59)) := (Below.refl _ _).alloc (Nat.le_refl _) _
        have HX6 := hid (Blk.new w5 #[.int .i64 y0, .int .i64 y1, .int .i64 y2, .int .i64 y3, .slice A5 yl.length k5, .slice B5 ys.length m5] 59)
        have HYA := hid (hr5.step hBz)
        have HYB := hid (hs5.step hBz)
        have HCW := hid (Below.step' HC5.out hBz)
        obtain ⟨Wc, hWc⟩ : ∃ Wc : World, Wc = w5.alloc (.cells #[.int .i64 y0, .int .i64 y1, .int .i64 y2, .int .i64 y3, .slice A5 yl.length k5, .slice B5 ys.length m5] 59) := ⟨_, rfl⟩
        rw [← hWc] at HX6 HYA HYB HCW
        have hx5 := HX5.out.all
        obtain ⟨cHX5, fHX5, sHX5, nHX5⟩ := hx5
        go_upto_region 8 with fail
        rw [← hWc]
        clear hWc hBz hr5 hs5 hn5 hn5' cHX5 fHX5 sHX5 nHX5 HX5 HXT5
        have HXTc := hid (HXT.out.step HCW.out)
        have HX0c := hid (HX0.out.step HCW.out)
        by_cases qe : YE = 0
        rotate_left
        · have q1 : (YE != 0) = true := by simpa using qe
          have HFS : Hid (S = ⟨⟨t0, t1, t2, t3, tl⟩, ts⟩) := hid (by rw [HST.out, if_pos qe])
          clear qe
          go_wp2
          go_roundw
          case rel => exact ⟨i + 1, by omega, by go_num, A4, k4, B4, m4, by rw [← HS.out, HFS.out]; exact HXTc.out, HX0c.out, by rw [← HS.out, HFS.out]; exact HRA.out.step HCW.out, by rw [← HS.out, HFS.out]; exact HRB.out.step HCW.out, HNA.out, HNB.out, Below.step' HBW.out HCW.out⟩
          case measure => simp [intOf]; omega
        · subst qe
          have HFS := hid (HST.out.trans (if_neg (by simp)))
          have hcall := HM.out ⟨⟨y0, y1, y2, y3, yl⟩, ys⟩ A5 k5 B5 m5 _ HCW.out HYA.out HSL.out.1 HYB.out (Nat.le_trans HSL.out.2 (by decide))
          obtain ⟨M, hM⟩ : ∃ M, M = mergeX ⟨⟨t0, t1, t2, t3, tl⟩, ts⟩ ⟨⟨y0, y1, y2, y3, yl⟩, ys⟩ := ⟨_, rfl⟩
          obtain ⟨ME, hME⟩ : ∃ M, M = mergeE ⟨⟨t0, t1, t2, t3, tl⟩, ts⟩ ⟨⟨y0, y1, y2, y3, yl⟩, ys⟩ := ⟨_, rfl⟩
          rw [← hM, ← hME] at hcall HFS
          simp only [tval] at hcall
          have HCALL := hid hcall
          have hcsz := HCW.out.size
          clear hcall hM hME HM
          obtain ⟨cHXTc, fHXTc, sHXTc, nHXTc⟩ := HXTc.out.all
          try simp only [cbox] at cHXTc
          obtain ⟨cHX6, fHX6, sHX6, nHX6⟩ := HX6.out.all
          try simp only [cbox] at cHX6
          go_wp2_with fail
          refine HCALL.out.mono ?_
          rintro e w8 ⟨A8, k8, B8, m8, rfl, hr8, hs8, hb8, hn8, hn8'⟩
          obtain ⟨⟨u0, u1, u2, u3, ul⟩, us⟩ := M
          simp only [tval] at hr8 hs8 ⊢
          clear cHXTc fHXTc sHXTc nHXTc
          clear cHX6 fHX6 sHX6 nHX6
          have HCW8 := hid (Below.step' HCW.out hb8)
          have HR8 := hid hr8
          have HS8 := hid hs8
          have HN8 := hid (show NewAt Wc.heap.size A8 from hn8)
          have HN8' := hid (show NewAt Wc.heap.size B8 from hn8')
          clear hr8 hs8 hb8 hn8 hn8' HCALL HX6 HXTc HX0c HYA HYB HCW
          have hBz : Below w8.heap.size w8 (w8.alloc (.cells #[.int .i64 u0, .int .i64 u1, .int .i64 u2, .int .i64 u3, .slice A8 ul.length k8, .slice B8 us.length m8] 59)) := (Below.refl _ _).alloc (Nat.le_refl _) _
          have HX8 := hid (Blk.new w8 #[.int .i64 u0, .int .i64 u1, .int .i64 u2, .int .i64 u3, .slice A8 ul.length k8, .slice B8 us.length m8] 59)
          replace HR8 := hid (HR8.out.step hBz)
          replace HS8 := hid (HS8.out.step hBz)
          replace HCW8 := hid (Below.step' HCW8.out hBz)
          obtain ⟨Wz, hWz⟩ : ∃ Wz : World, Wz = w8.alloc (.cells #[.int .i64 u0, .int .i64 u1, .int .i64 u2, .int .i64 u3, .slice A8 ul.length k8, .slice B8 us.length m8] 59) := ⟨_, rfl⟩
          rw [← hWz] at HR8 HS8 HCW8 HX8
          have HXTz := hid (HXT.out.step HCW8.out)
          have HX0z := hid (HX0.out.step HCW8.out)
          by_cases qm : ME = 0
          · subst qm
            have HFM := hid (HFS.out.trans (if_pos rfl))
            go_upto_region 11 with fail
            rw [← hWz]
            clear hWz hBz
            have hX := HXTz.out
            obtain ⟨⟨r0, r1, r2, r3, r4, r5⟩, f0, f1, f2, f3, f4, f5⟩ := hX.six
            obtain ⟨⟨x0, x1, x2, x3, x4, x5⟩, -⟩ := HX8.out.six
            have HX9 := hid (Blk.set6 hX (.int .i64 u0) (.int .i64 u1) (.int .i64 u2) (.int .i64 u3) (.slice A8 ul.length k8) (.slice B8 us.length m8))
            have HB9 := hid (Below.set6 (Below.step' HBW.out HCW8.out) (show w.heap.size ≤ w.heap.size + 1 by omega) (.int .i64 u0) (.int .i64 u1) (.int .i64 u2) (.int .i64 u3) (.slice A8 ul.length k8) (.slice B8 us.length m8))
            have HR9 := hid (Row.set6 HR8.out HN8.out (show w.heap.size + 1 < Wc.heap.size by omega) (.int .i64 u0) (.int .i64 u1) (.int .i64 u2) (.int .i64 u3) (.slice A8 ul.length k8) (.slice B8 us.length m8))
            have HS9 := hid (Row.set6 HS8.out HN8'.out (show w.heap.size + 1 < Wc.heap.size by omega) (.int .i64 u0) (.int .i64 u1) (.int .i64 u2) (.int .i64 u3) (.slice A8 ul.length k8) (.slice B8 us.length m8))
            have HX0' := hid ((((((HX0z.out.other (a := ⟨w.heap.size + 1, 0, none⟩) (by simp) (.int .i64 u0)).other (a := ⟨w.heap.size + 1, 1, none⟩) (by simp) (.int .i64 u1)).other (a := ⟨w.heap.size + 1, 2, none⟩) (by simp) (.int .i64 u2)).other (a := ⟨w.heap.size + 1, 3, none⟩) (by simp) (.int .i64 u3)).other (a := ⟨w.heap.size + 1, 4, none⟩) (by simp) (.slice A8 ul.length k8)).other (a := ⟨w.heap.size + 1, 5, none⟩) (by simp) (.slice B8 us.length m8))
            clear hX
            go_wp2
            go_roundw
            case rel =>
              exact ⟨i + 1, by omega, by go_num, A8, k8, B8, m8, by rw [← HS.out, HFM.out]; exact HX9.out, HX0'.out, by rw [← HS.out, HFM.out]; exact HR9.out, by rw [← HS.out, HFM.out]; exact HS9.out, fun b off q e => Nat.le_trans (by omega) (HN8.out b off q e), fun b off q e => Nat.le_trans (by omega) (HN8'.out b off q e), HB9.out⟩
            case measure => simp [intOf]; omega
          · have HFM : Hid (S = ⟨⟨t0, t1, t2, t3, tl⟩, ts⟩) := hid (HFS.out.trans (if_neg qm))
            have q2 : (ME == 0) = false := by simpa using qm
            clear qm
            go_upto_region 12 with fail
            rw [← hWz]
            clear hWz hBz
            go_wp2
            go_roundw
            case rel => exact ⟨i + 1, by omega, by go_num, A4, k4, B4, m4, by rw [← HS.out, HFM.out]; exact HXTz.out, HX0z.out, by rw [← HS.out, HFM.out]; exact HRA.out.step HCW8.out, by rw [← HS.out, HFM.out]; exact HRB.out.step HCW8.out, HNA.out, HNB.out, Below.step' HBW.out HCW8.out⟩
            case measure => simp [intOf]; omega
    · have hfin := HFIN.out hlt
      rw [hfin] at HXT HRA HRB
      clear HFIN
      obtain ⟨⟨t0, t1, t2, t3, tl⟩, ts⟩ := V
      simp only [tbox] at HXT
      have h0 := HX0.out
      obtain ⟨⟨r0, r1, r2, r3, r4, r5⟩, f0, f1, f2, f3, f4, f5⟩ := h0.six
      obtain ⟨⟨x0, x1, x2, x3, x4, x5⟩, -⟩ := HXT.out.six
      have HX9 := hid (Blk.set6 h0 (.int .i64 t0) (.int .i64 t1) (.int .i64 t2) (.int .i64 t3) (.slice A4 tl.length k4) (.slice B4 ts.length m4))
      have HB9 := hid (Below.set6 HBW.out (Nat.le_refl _) (.int .i64 t0) (.int .i64 t1) (.int .i64 t2) (.int .i64 t3) (.slice A4 tl.length k4) (.slice B4 ts.length m4))
      have HR9 := hid (Row.set6 HRA.out HNA.out (show w.heap.size < w.heap.size + 2 by omega) (.int .i64 t0) (.int .i64 t1) (.int .i64 t2) (.int .i64 t3) (.slice A4 tl.length k4) (.slice B4 ts.length m4))
      have HS9 := hid (Row.set6 HRB.out HNB.out (show w.heap.size < w.heap.size + 2 by omega) (.int .i64 t0) (.int .i64 t1) (.int .i64 t2) (.int .i64 t3) (.slice A4 tl.length k4) (.slice B4 ts.length m4))
      have HQ := hid HX9.out.six.1
      clear h0
      go_wp2_with (refine bodyPost_ret (v := tval ⟨⟨t0, t1, t2, t3, tl⟩, ts⟩ A4 k4 B4 m4) ?h1 rfl ?h2)
      case h1 =>
        obtain ⟨q0, q1, q2, q3, q4, q5⟩ := HQ.out
        simp [results, Try.results59, go_sem, q0, q1, q2, q3, q4, q5]
      case h2 =>
        exact ⟨A4, k4, B4, m4, rfl, HR9.out, HS9.out, HB9.out, fun b off q e => Nat.le_trans (by omega) (HNA.out b off q e), fun b off q e => Nat.le_trans (by omega) (HNB.out b off q e)⟩
end Go.Proofs.Ytogegnikpjcpdaa
/- viewkeep.puts: a closed sentence. -/
namespace Go.Proofs.Ytogegnikpjcpdaa
set_option linter.unusedVariables false
open Go.ChangeShapes Go.WideShapes Go.ChangeAt Go.RowKit

def puP : Tab := ⟨⟨1, 0, 0, 0, []⟩, [⟨(0, 1), 3, 1, 7⟩]⟩
def puQ : Tab := ⟨⟨1, 1, 0, 0, []⟩, [⟨(1, 1), 3, 1, 5⟩]⟩
theorem pack_p : packL 0 0 0 0 [(0, 1)] = ⟨1, 0, 0, 0, []⟩ := by simp [packL, cpt, packStep, Ctx.at_, Ctx.inc]
theorem pack_q : packL 0 0 0 0 [(0, 1), (1, 1)] = ⟨1, 1, 0, 0, []⟩ := by
  have e : ([(0, 1), (1, 1)] : List (Int × Int)).mergeSort dotLe = [(0, 1), (1, 1)] := by simp [List.mergeSort, dotLe, before]
  unfold packL
  rw [e]
  simp [cpt, packStep, Ctx.at_, Ctx.inc]
theorem puP_right : tabI puP = 0 := by
  refine tabI_iff.2 ⟨⟨by simp [clkIn, puP], by simp [puP], by simp [puP]⟩, by simp [puP], by simp [puP], fun x hx => ?_, by simp [puP]⟩
  simp only [puP, List.mem_singleton] at hx
  subst hx
  rw [celOk_iff, hasB_iff]
  exact ⟨rfl, .inl (by simp [puP, Ctx.at_]), rfl, rfl, rfl⟩
theorem puQ_right : tabI puQ = 0 := by
  refine tabI_iff.2 ⟨⟨by simp [clkIn, puQ], by simp [puQ], by simp [puQ]⟩, by simp [puQ], by simp [puQ], fun x hx => ?_, by simp [puQ]⟩
  simp only [puQ, List.mem_singleton] at hx
  subst hx
  rw [celOk_iff, hasB_iff]
  exact ⟨rfl, .inl (by simp [puQ, Ctx.at_]), rfl, rfl, rfl⟩
theorem next_p : nextD zT.c 0 = (0, 1) ∧ nextE zT.c 0 = 0 := by
  have h1 : checkI zT.c = 0 := (tabI_zero tabI_zT).1
  obtain ⟨e1, e2⟩ := next_R h1 (i := 0) rfl
  rw [e1, e2]
  have h3 : maxS zT.c 0 = 0 := by simp [maxS, Ctx.at_, zT]
  unfold rnextD rnextE
  rw [h3]; simp
theorem next_q : nextD puP.c 1 = (1, 1) ∧ nextE puP.c 1 = 0 := by
  have h1 : checkI puP.c = 0 := (tabI_zero puP_right).1
  obtain ⟨e1, e2⟩ := next_R h1 (i := 1) rfl
  rw [e1, e2]
  have h3 : maxS puP.c 1 = 0 := by simp [maxS, Ctx.at_, puP]
  unfold rnextD rnextE
  rw [h3]; simp
theorem put_p : putX zT 0 3 1 7 = puP ∧ putE zT 0 3 1 7 = 0 := by
  have hl : putL zT 3 1 (nextD zT.c 0) = [(0, 1)] := by rw [next_p.1]; simp [putL, zT]
  obtain ⟨h1, h2⟩ := ctx_pack (l := [(0, 1)]) (by simp) (by decide)
  rw [pack_p] at h1 h2
  simp only [List.length_nil, Nat.not_lt_zero, if_false] at h1 h2
  unfold putX putE
  rw [hl, h1, h2, next_p.1, next_p.2]
  rw [if_neg (by simp [tabI_zT, argOk, inB]), if_neg (by simp [tabI_zT]), if_neg (by simp [argOk, inB]), if_neg (by simp)]
  exact ⟨rfl, rfl⟩
theorem put_q : putX puP 1 3 1 5 = puQ ∧ putE puP 1 3 1 5 = 0 := by
  have hl : putL puP 3 1 (nextD puP.c 1) = [(0, 1), (1, 1)] := by rw [next_q.1]; simp [putL, puP, atKC]
  obtain ⟨h1, h2⟩ := ctx_pack (l := [(0, 1), (1, 1)]) (by simp) (by decide)
  rw [pack_q] at h1 h2
  simp only [List.length_nil, Nat.not_lt_zero, if_false] at h1 h2
  unfold putX putE
  rw [hl, h1, h2, next_q.1, next_q.2]
  rw [if_neg (by simp [puP_right, argOk, inB]), if_neg (by simp [puP_right]), if_neg (by simp [argOk, inB]), if_neg (by simp)]
  exact ⟨rfl, rfl⟩
theorem merge_p : mergeE zT puP = 0 ∧ mergeX zT puP = puP := by
  have hz : ∀ d, hasB zT.c d = true → False := by
    intro d hd
    rw [hasB_iff] at hd
    rcases hd with ⟨h1, h2, h3, h4⟩ | h
    · simp only [zT, Ctx.at_] at h4
      split at h4 <;> (try split at h4) <;> (try split at h4) <;> omega
    · simp [zT] at h
  obtain ⟨h1, h2⟩ := merge_again (s := puP) (a := zT) puP_right tabI_zT (fun x _ y hy => by simp [zT] at hy) (fun d hd => (hz d hd).elim) (fun x _ hd => (hz _ hd).elim)
  exact ⟨mergeE_comm h1, by rw [← mergeX_comm h1, h2]⟩
theorem merge_q : mergeE puP puQ = 0 ∧ mergeX puP puQ = puQ := by
  obtain ⟨h1, h2⟩ := merge_again (s := puQ) (a := puP) puQ_right puP_right (fun x hx y hy e => by
    simp only [puQ, puP, List.mem_singleton] at hx hy
    subst hx hy
    simp at e) (fun d hd => by
    rw [hasB_iff] at hd ⊢
    rcases hd with ⟨h1, h2, h3, h4⟩ | h
    · left
      refine ⟨h1, h2, h3, ?_⟩
      simp only [puP, puQ, Ctx.at_] at h4 ⊢
      split at h4 <;> (try split at h4) <;> (try split at h4) <;> simp_all <;> omega
    · simp [puP] at h) (fun x hx hd => by
    simp only [puQ, List.mem_singleton] at hx
    subst hx
    rw [hasB_iff] at hd
    rcases hd with ⟨h1, h2, h3, h4⟩ | h
    · simp [puP, Ctx.at_] at h4
    · simp [puP] at h)
  exact ⟨mergeE_comm h1, by rw [← mergeX_comm h1, h2]⟩
theorem edit_pq : editX [⟨1, 0, 3, 1, 7⟩, ⟨1, 0, 3, 1, 5⟩] = puQ := by
  show editN [⟨1, 0, 3, 1, 7⟩, ⟨1, 0, 3, 1, 5⟩] 2 = puQ
  have e1 : editN [⟨1, 0, 3, 1, 7⟩, ⟨1, 0, 3, 1, 5⟩] 1 = puP := by
    show editStep zT 0 ⟨1, 0, 3, 1, 7⟩ = puP
    unfold editStep stepE stepX
    simp only [if_true]
    rw [show (((0 : Nat) % 2 : Nat) : Int) = 0 from rfl, put_p.1, put_p.2, if_neg (by simp), if_pos merge_p.1, merge_p.2]
  show editStep (editN [⟨1, 0, 3, 1, 7⟩, ⟨1, 0, 3, 1, 5⟩] 1) 1 ⟨1, 0, 3, 1, 5⟩ = puQ
  rw [e1]
  unfold editStep stepE stepX
  simp only [if_true]
  rw [show (((1 : Nat) % 2 : Nat) : Int) = 1 from rfl, put_q.1, put_q.2, if_neg (by simp), if_pos merge_q.1, merge_q.2]
theorem vals_pq : valsL puQ 3 1 = [5] ∧ keysL puQ = [3] := by
  have e5 : isort [5] = [5] := by simp [isort]
  have e3 : isort [3] = [3] := by simp [isort]
  constructor
  · show Lib.compact (isort [5]) = [5]
    rw [e5]; rfl
  · show Lib.compact (isort [3]) = [3]
    rw [e3]; rfl

theorem build_ed (k a c v : Int) (w : World) : (Instr.build 108 #[(0, .int .i64 k), (2, .int .i64 a), (3, .int .i64 c), (4, .int .i64 v)]).run Try.prog w = .ok (.agg #[.int .i64 k, .int .i64 0, .int .i64 a, .int .i64 c, .int .i64 v]) w :=
  run_build w _ _ _ (by kernel_rfl)

set_option maxHeartbeats 2000000 in
set_option maxRecDepth 100000 in
theorem puts_any (w : World) : Calls Try.prog 58 #[] w fun e w' => e = .returned (.bool true) ∧ Below w.heap.size w w' := by
  have HED := hid (fun w1 A k0 (hr : Row w1 w1.heap.size A (ecells [⟨1, 0, 3, 1, 7⟩, ⟨1, 0, 3, 1, 5⟩])) (hk : 2 ≤ k0) => edited_any [⟨1, 0, 3, 1, 7⟩, ⟨1, 0, 3, 1, 5⟩] A k0 w1 hr (by simp) hk)
  have HV := hid (fun A k B m w1 (rb : Row w1 w1.heap.size B (tcells puQ.cells)) => values_any puQ 3 1 A k B m w1 rb (by simp [puQ]))
  have HK := hid (fun A k B m w1 (rb : Row w1 w1.heap.size B (tcells puQ.cells)) => keys_any puQ A k B m w1 rb (by simp [puQ]))
  have HEQ := hid (fun (x : Int) (A B : Option Addr) (c e b : Nat) (w1 : World) (h : w1.ownsRow b 3 1 (.slice A 1 c) 1 (icells [x])) (h2 : Row w1 w1.heap.size B (icells [x])) => equalI_any [x] [x] A B c e w1 (Row.of_ownS h) h2 (by simp) (by simp))
  simp only [edit_pq, vals_pq.1, vals_pq.2] at HED HV HK
  simp only [decide_true, List.length_cons, List.length_nil, Nat.zero_add, Nat.reduceAdd] at HEQ HED
  have hb1 := fun w => build_ed 1 3 1 7 w
  have hb2 := fun w => build_ed 1 3 1 5 w
  go_enter Try.func58, Try.ntmps58
  go_wp2_with fail
  refine (HED.out _ _ _ (by exact Row.new' w _ _ (by simp) rfl (by simp)) (Nat.le_refl _)).mono ?_
  rintro e w1 ⟨A1, k1, B1, m1, rfl, hr1, hs1, hbq1, -, -⟩
  have HBW := hid (show Below w.heap.size w w1 from (by refine Below.step' ?_ hbq1; (repeat' (first | (with_reducible exact Below.refl _ _) | (with_reducible assumption) | (with_reducible refine below_drewN ?_ _) | (with_reducible refine Below.drew ?_) | (with_reducible refine Below.alloc ?_ ?_ _) | (with_reducible refine Below.setCell ?_ ?_ _) | (refine Below.trans ?_ (Below.mono (by assumption) ?_)) | go_size))))
  have HS1 := hid hs1
  clear hr1 hs1 hbq1
  simp only [puQ, tval] at HS1 HV HK ⊢
  have HX1 := hid (Blk.new w1 #[.int .i64 1, .int .i64 1, .int .i64 0, .int .i64 0, .slice A1 0 k1, .slice B1 1 m1] 59)
  go_wp2_with fail
  refine (HV.out _ _ _ _ _ (HS1.out.alloc _)).mono ?_
  rintro e w2 ⟨v2, rfl, hown2, hbq2⟩
  obtain ⟨A2, c2, rfl⟩ := own_formS hown2
  have hB2 : Below w1.heap.size w1 w2 := (by refine Below.step' ?_ hbq2; (repeat' (first | (with_reducible exact Below.refl _ _) | (with_reducible assumption) | (with_reducible refine below_drewN ?_ _) | (with_reducible refine Below.drew ?_) | (with_reducible refine Below.alloc ?_ ?_ _) | (with_reducible refine Below.setCell ?_ ?_ _) | (refine Below.trans ?_ (Below.mono (by assumption) ?_)) | go_size)))
  replace HX1 := hid (HX1.out.step hbq2)
  replace HBW := hid (Below.step' HBW.out hB2)
  replace HS1 := hid (HS1.out.step hB2)
  have HO2 := hid hown2
  clear hown2 hbq2 hB2
  go_wp2_with fail
  refine (HEQ.out 5 _ _ _ _ _ _ (HO2.out.alloc _) (by exact Row.new' w2 _ _ (by simp) rfl (by simp))).mono ?_
  rintro e w3 ⟨rfl, hb3⟩
  have hB3 : Below w2.heap.size w2 w3 := (by refine Below.step' ?_ hb3; (repeat' (first | (with_reducible exact Below.refl _ _) | (with_reducible assumption) | (with_reducible refine below_drewN ?_ _) | (with_reducible refine Below.drew ?_) | (with_reducible refine Below.alloc ?_ ?_ _) | (with_reducible refine Below.setCell ?_ ?_ _) | (refine Below.trans ?_ (Below.mono (by assumption) ?_)) | go_size)))
  replace HX1 := hid (HX1.out.step hB3)
  replace HBW := hid (Below.step' HBW.out hB3)
  replace HS1 := hid (HS1.out.step hB3)
  clear hb3 hB3 HO2
  obtain ⟨cHX1, fHX1, sHX1, nHX1⟩ := HX1.out.all
  try simp only [cbox] at cHX1
  go_wp2_with fail
  refine (HK.out _ _ _ _ _ HS1.out).mono ?_
  rintro e w4 ⟨v4, rfl, hown4, hb4⟩
  obtain ⟨A4, c4, rfl⟩ := own_formS hown4
  replace HBW := hid (Below.step' HBW.out hb4)
  have HO4 := hid hown4
  clear cHX1 fHX1 sHX1 nHX1
  clear hown4 hb4 HS1 HX1
  go_wp2_with fail
  refine (HEQ.out 3 _ _ _ _ _ _ (HO4.out.alloc _) (by exact Row.new' w4 _ _ (by simp) rfl (by simp))).mono ?_
  rintro e w5 ⟨rfl, hb5⟩
  have hB5 : Below w4.heap.size w4 w5 := (by refine Below.step' ?_ hb5; (repeat' (first | (with_reducible exact Below.refl _ _) | (with_reducible assumption) | (with_reducible refine below_drewN ?_ _) | (with_reducible refine Below.drew ?_) | (with_reducible refine Below.alloc ?_ ?_ _) | (with_reducible refine Below.setCell ?_ ?_ _) | (refine Below.trans ?_ (Below.mono (by assumption) ?_)) | go_size)))
  replace HBW := hid (Below.step' HBW.out hB5)
  go_wp2
  go_ret
  exact ⟨rfl, HBW.out⟩
end Go.Proofs.Ytogegnikpjcpdaa
/- viewkeep.TableLattice: the walk. -/
namespace Go.Proofs.Ytogegnikpjcpdaa
set_option linter.unusedVariables false
open Go.ChangeShapes Go.WideShapes Go.ChangeAt Go.RowKit

set_option maxHeartbeats 4000000 in
set_option maxRecDepth 100000 in
theorem tlat_any (a b c : Tab) (A : Option Addr) (k : Nat) (A' : Option Addr) (k' : Nat) (B : Option Addr) (m : Nat) (B' : Option Addr) (m' : Nat) (C : Option Addr) (n : Nat) (C' : Option Addr) (n' : Nat) (w : World)
    (ra : Row w w.heap.size A (dcells a.c.cloud)) (la : a.c.cloud.length ≤ 9223372036854775807) (ra' : Row w w.heap.size A' (tcells a.cells)) (la' : a.cells.length ≤ 9223372036854775807)
    (rb : Row w w.heap.size B (dcells b.c.cloud)) (lb : b.c.cloud.length ≤ 9223372036854775807) (rb' : Row w w.heap.size B' (tcells b.cells)) (lb' : b.cells.length ≤ 9223372036854775807)
    (rc : Row w w.heap.size C (dcells c.c.cloud)) (lc : c.c.cloud.length ≤ 9223372036854775807) (rc' : Row w w.heap.size C' (tcells c.cells)) (lc' : c.cells.length ≤ 9223372036854775807) :
    Calls Try.prog 11 #[tval a A k A' k', tval b B m B' m', tval c C n C' n'] w fun e w' => e = .returned (.bool true) ∧ Below w.heap.size w w' := by
  have HAB := hid (fun w1 (hb : Below w.heap.size w w1) => merge_any a b A k A' k' B m B' m' w1 (ra.step hb) la (ra'.step hb) la' (rb.step hb) lb (rb'.step hb) lb')
  have HBA := hid (fun w1 (hb : Below w.heap.size w w1) => merge_any b a B m B' m' A k A' k' w1 (rb.step hb) lb (rb'.step hb) lb' (ra.step hb) la (ra'.step hb) la')
  have HBC := hid (fun w1 (hb : Below w.heap.size w w1) => merge_any b c B m B' m' C n C' n' w1 (rb.step hb) lb (rb'.step hb) lb' (rc.step hb) lc (rc'.step hb) lc')
  have HMA := hid (fun (M : Tab) (A2 : Option Addr) (k2 : Nat) (B2 : Option Addr) (m2 : Nat) w1 (hb : Below w.heap.size w w1) (h1 : Row w1 w1.heap.size A2 (dcells M.c.cloud)) (l1 : M.c.cloud.length ≤ 400) (h2 : Row w1 w1.heap.size B2 (tcells M.cells)) (l2 : M.cells.length ≤ 400) =>
    merge_any M a A2 k2 B2 m2 A k A' k' w1 h1 (by omega) h2 (by omega) (ra.step hb) la (ra'.step hb) la')
  have HMC := hid (fun (M : Tab) (A2 : Option Addr) (k2 : Nat) (B2 : Option Addr) (m2 : Nat) w1 (hb : Below w.heap.size w w1) (h1 : Row w1 w1.heap.size A2 (dcells M.c.cloud)) (l1 : M.c.cloud.length ≤ 400) (h2 : Row w1 w1.heap.size B2 (tcells M.cells)) (l2 : M.cells.length ≤ 400) =>
    merge_any M c A2 k2 B2 m2 C n C' n' w1 h1 (by omega) h2 (by omega) (rc.step hb) lc (rc'.step hb) lc')
  have HAM := hid (fun (M : Tab) (A2 : Option Addr) (k2 : Nat) (B2 : Option Addr) (m2 : Nat) w1 (hb : Below w.heap.size w w1) (h1 : Row w1 w1.heap.size A2 (dcells M.c.cloud)) (l1 : M.c.cloud.length ≤ 400) (h2 : Row w1 w1.heap.size B2 (tcells M.cells)) (l2 : M.cells.length ≤ 400) =>
    merge_any a M A k A' k' A2 k2 B2 m2 w1 (ra.step hb) la (ra'.step hb) la' h1 (by omega) h2 (by omega))
  have HL1 : Hid (mergeE a b ≠ 0 → mergeE b a ≠ 0) := hid (fun h h2 => h (mergeE_comm h2))
  have HL2 : Hid (mergeE a b = 0 → mergeE b a = 0 ∧ mergeX b a = mergeX a b ∧ tabI (mergeX a b) = 0 ∧ mergeE (mergeX a b) a = 0 ∧ mergeX (mergeX a b) a = mergeX a b ∧ mergeE (mergeX a b) (mergeX a b) = 0 ∧ mergeX (mergeX a b) (mergeX a b) = mergeX a b) :=
    hid (fun h => ⟨mergeE_comm h, (mergeX_comm h).symm, (merge_ok h).1, merge_idem h⟩)
  have HL3 : Hid (mergeE a b = 0 → mergeE (mergeX a b) c = 0 → mergeE b c = 0 → tabI (mergeX b c) = 0 ∧ tabI (mergeX (mergeX a b) c) = 0 ∧ (mergeE a (mergeX b c) = 0 → mergeX (mergeX a b) c = mergeX a (mergeX b c))) :=
    hid (fun h h1 h2 => ⟨(merge_ok h2).1, (merge_ok h1).1, fun h3 => merge_assoc h h1 h2 h3⟩)
  clear ra ra' rb rb' rc rc'
  obtain ⟨⟨a0, a1, a2, a3, al⟩, acs⟩ := a
  obtain ⟨⟨b0, b1, b2, b3, bl⟩, bcs⟩ := b
  obtain ⟨⟨c0, c1, c2, c3, cl⟩, ccs⟩ := c
  obtain ⟨AB, hAB⟩ : ∃ M, M = mergeX ⟨⟨a0, a1, a2, a3, al⟩, acs⟩ ⟨⟨b0, b1, b2, b3, bl⟩, bcs⟩ := ⟨_, rfl⟩
  obtain ⟨BA, hBA⟩ : ∃ M, M = mergeX ⟨⟨b0, b1, b2, b3, bl⟩, bcs⟩ ⟨⟨a0, a1, a2, a3, al⟩, acs⟩ := ⟨_, rfl⟩
  obtain ⟨BC, hBC⟩ : ∃ M, M = mergeX ⟨⟨b0, b1, b2, b3, bl⟩, bcs⟩ ⟨⟨c0, c1, c2, c3, cl⟩, ccs⟩ := ⟨_, rfl⟩
  obtain ⟨EAB, hEAB⟩ : ∃ M, M = mergeE ⟨⟨a0, a1, a2, a3, al⟩, acs⟩ ⟨⟨b0, b1, b2, b3, bl⟩, bcs⟩ := ⟨_, rfl⟩
  obtain ⟨EBA, hEBA⟩ : ∃ M, M = mergeE ⟨⟨b0, b1, b2, b3, bl⟩, bcs⟩ ⟨⟨a0, a1, a2, a3, al⟩, acs⟩ := ⟨_, rfl⟩
  obtain ⟨EBC, hEBC⟩ : ∃ M, M = mergeE ⟨⟨b0, b1, b2, b3, bl⟩, bcs⟩ ⟨⟨c0, c1, c2, c3, cl⟩, ccs⟩ := ⟨_, rfl⟩
  simp only [← hAB, ← hBA, ← hBC, ← hEAB, ← hEBA, ← hEBC] at HAB HBA HBC HL1 HL2 HL3
  clear hAB hBA hBC hEAB hEBA hEBC
  simp only [tval] at HAB HBA HBC ⊢
  go_enter Try.func11, Try.ntmps11
  go_wp2_with fail
  refine (puts_any _).mono ?_
  rintro e w1 ⟨rfl, hb1⟩
  have HBW := hid (show Below w.heap.size w w1 from (by refine Below.step' ?_ hb1; (repeat' (first | (with_reducible exact Below.refl _ _) | (with_reducible assumption) | (with_reducible refine below_drewN ?_ _) | (with_reducible refine Below.drew ?_) | (with_reducible refine Below.alloc ?_ ?_ _) | (with_reducible refine Below.setCell ?_ ?_ _) | (refine Below.trans ?_ (Below.mono (by assumption) ?_)) | go_size))))
  have HXA := hid (Blk.step (w := _) (b := w.heap.size) (cs := #[.int .i64 a0, .int .i64 a1, .int .i64 a2, .int .i64 a3, .slice A al.length k, .slice A' acs.length k']) (T := 59) (by exact ((Blk.new w _ _).alloc _).alloc _) hb1)
  have HXB := hid (Blk.step (w := _) (b := w.heap.size + 1) (cs := #[.int .i64 b0, .int .i64 b1, .int .i64 b2, .int .i64 b3, .slice B bl.length m, .slice B' bcs.length m']) (T := 59) (by exact (Blk.new' (w.alloc _) _ _ (by simp)).alloc _) hb1)
  have HXC := hid (Blk.step (w := _) (b := w.heap.size + 1 + 1) (cs := #[.int .i64 c0, .int .i64 c1, .int .i64 c2, .int .i64 c3, .slice C cl.length n, .slice C' ccs.length n']) (T := 59) (by exact Blk.new' ((w.alloc _).alloc _) _ _ (by simp)) hb1)
  clear hb1
  obtain ⟨cHXA, fHXA, sHXA, nHXA⟩ := HXA.out.all
  try simp only [cbox] at cHXA
  obtain ⟨cHXB, fHXB, sHXB, nHXB⟩ := HXB.out.all
  try simp only [cbox] at cHXB
  go_wp2_with fail
  refine (HAB.out _ HBW.out).mono ?_
  rintro e w2 ⟨A2, k2, B2, m2, rfl, hr2, hs2, hb2, -, -⟩
  obtain ⟨⟨u0, u1, u2, u3, ul⟩, us⟩ := AB
  simp only [tval] at hr2 hs2 ⊢
  clear cHXA fHXA sHXA nHXA
  clear cHXB fHXB sHXB nHXB
  replace HXA := hid (HXA.out.step hb2)
  replace HXB := hid (HXB.out.step hb2)
  replace HXC := hid (HXC.out.step hb2)
  replace HBW := hid (Below.step' HBW.out hb2)
  have HR2 := hid hr2
  have HS2 := hid hs2
  clear hr2 hs2 hb2
  obtain ⟨cHXA, fHXA, sHXA, nHXA⟩ := HXA.out.all
  try simp only [cbox] at cHXA
  obtain ⟨cHXB, fHXB, sHXB, nHXB⟩ := HXB.out.all
  try simp only [cbox] at cHXB
  go_wp2_with fail
  refine (HBA.out _ (HBW.out.alloc HBW.out.size _)).mono ?_
  rintro e w3 ⟨A3, k3, B3, m3, rfl, hr3, hs3, hb3, -, -⟩
  clear cHXA fHXA sHXA nHXA
  clear cHXB fHXB sHXB nHXB
  have hB3 : Below w2.heap.size w2 w3 := (by refine Below.step' ?_ hb3; (repeat' (first | (with_reducible exact Below.refl _ _) | (with_reducible assumption) | (with_reducible refine below_drewN ?_ _) | (with_reducible refine Below.drew ?_) | (with_reducible refine Below.alloc ?_ ?_ _) | (with_reducible refine Below.setCell ?_ ?_ _) | (refine Below.trans ?_ (Below.mono (by assumption) ?_)) | go_size)))
  have HX7 := hid (Blk.step (Blk.new w2 #[.int .i64 u0, .int .i64 u1, .int .i64 u2, .int .i64 u3, .slice A2 ul.length k2, .slice B2 us.length m2] 59) hb3)
  replace HXA := hid (HXA.out.step hB3)
  replace HXB := hid (HXB.out.step hB3)
  replace HXC := hid (HXC.out.step hB3)
  replace HR2 := hid (HR2.out.step hB3)
  replace HS2 := hid (HS2.out.step hB3)
  replace HBW := hid (Below.step' HBW.out hB3)
  have HR3 := hid hr3
  have HS3 := hid hs3
  clear hr3 hs3 hb3 hB3
  by_cases q1 : EAB = 0
  rotate_left
  · have q2 := HL1.out q1
    have t1 : (EAB != 0) = true := by simpa using q1
    have t2 : (EAB == 0) = false := by simpa using q1
    have t3 : (EBA == 0) = false := by simpa using q2
    clear q1 q2
    obtain ⟨⟨v0, v1, v2, v3, vl⟩, vs⟩ := BA
    simp only [tval]
    go_wp2
    go_ret
    exact ⟨rfl, HBW.out.alloc HBW.out.size _⟩
  · subst q1
    obtain ⟨g1, g2, g3, g4, g5, g6, g7⟩ := HL2.out (by first | rfl | trivial)
    subst g1 g2
    obtain ⟨gl1, gl2⟩ := tab_small g3
    simp only at gl1 gl2
    have G3 := hid g3
    have hma := HMA.out ⟨⟨u0, u1, u2, u3, ul⟩, us⟩ A2 k2 B2 m2
    have hmm := fun w1 h1 h2 => merge_any ⟨⟨u0, u1, u2, u3, ul⟩, us⟩ ⟨⟨u0, u1, u2, u3, ul⟩, us⟩ A2 k2 B2 m2 A2 k2 B2 m2 w1 h1 (by simp only; omega) h2 (by simp only; omega) h1 (by simp only; omega) h2 (by simp only; omega)
    rw [g4, g5] at hma
    rw [g6, g7] at hmm
    have hmc := HMC.out ⟨⟨u0, u1, u2, u3, ul⟩, us⟩ A2 k2 B2 m2
    simp only [tval] at hma hmm hmc HR3 HS3 ⊢
    have KMA := hid hma
    have KMM := hid hmm
    have KMC := hid hmc
    clear hma hmm hmc HMA HMC HAB HBA HL1 HL2 g3 g4 g5 g6 g7
    obtain ⟨cHXA, fHXA, sHXA, nHXA⟩ := HXA.out.all
    try simp only [cbox] at cHXA
    obtain ⟨cHX7, fHX7, sHX7, nHX7⟩ := HX7.out.all
    try simp only [cbox] at cHX7
    go_wp2_with fail
    refine (KMA.out _ (HBW.out.alloc HBW.out.size _) (HR2.out.alloc _) gl1 (HS2.out.alloc _) gl2).mono ?_
    rintro e w4 ⟨A4, k4, B4, m4, rfl, hr4, hs4, hb4, -, -⟩
    simp only [tval] at hr4 hs4 ⊢
    clear cHXA fHXA sHXA nHXA
    clear cHX7 fHX7 sHX7 nHX7
    have hB4 : Below w3.heap.size w3 w4 := (by refine Below.step' ?_ hb4; (repeat' (first | (with_reducible exact Below.refl _ _) | (with_reducible assumption) | (with_reducible refine below_drewN ?_ _) | (with_reducible refine Below.drew ?_) | (with_reducible refine Below.alloc ?_ ?_ _) | (with_reducible refine Below.setCell ?_ ?_ _) | (refine Below.trans ?_ (Below.mono (by assumption) ?_)) | go_size)))
    have HX9 := hid (Blk.step (Blk.new w3 #[.int .i64 u0, .int .i64 u1, .int .i64 u2, .int .i64 u3, .slice A3 ul.length k3, .slice B3 us.length m3] 59) hb4)
    replace HXA := hid (HXA.out.step hB4)
    replace HXB := hid (HXB.out.step hB4)
    replace HXC := hid (HXC.out.step hB4)
    replace HX7 := hid (HX7.out.step hB4)
    replace HR2 := hid (HR2.out.step hB4)
    replace HS2 := hid (HS2.out.step hB4)
    replace HR3 := hid (HR3.out.step hB4)
    replace HS3 := hid (HS3.out.step hB4)
    replace HBW := hid (Below.step' HBW.out hB4)
    have HR4 := hid hr4
    have HS4 := hid hs4
    clear hr4 hs4 hb4 hB4
    obtain ⟨cHX7, fHX7, sHX7, nHX7⟩ := HX7.out.all
    try simp only [cbox] at cHX7
    go_wp2_with fail
    refine (KMM.out _ (HR2.out.alloc _) (HS2.out.alloc _)).mono ?_
    rintro e w5 ⟨A5, k5, B5, m5, rfl, hr5, hs5, hb5, -, -⟩
    simp only [tval] at hr5 hs5 ⊢
    clear cHX7 fHX7 sHX7 nHX7
    have hB5 : Below w4.heap.size w4 w5 := (by refine Below.step' ?_ hb5; (repeat' (first | (with_reducible exact Below.refl _ _) | (with_reducible assumption) | (with_reducible refine below_drewN ?_ _) | (with_reducible refine Below.drew ?_) | (with_reducible refine Below.alloc ?_ ?_ _) | (with_reducible refine Below.setCell ?_ ?_ _) | (refine Below.trans ?_ (Below.mono (by assumption) ?_)) | go_size)))
    have HX11 := hid (Blk.step (Blk.new w4 #[.int .i64 u0, .int .i64 u1, .int .i64 u2, .int .i64 u3, .slice A4 ul.length k4, .slice B4 us.length m4] 59) hb5)
    replace HXA := hid (HXA.out.step hB5)
    replace HXB := hid (HXB.out.step hB5)
    replace HXC := hid (HXC.out.step hB5)
    replace HX7 := hid (HX7.out.step hB5)
    replace HX9 := hid (HX9.out.step hB5)
    replace HR2 := hid (HR2.out.step hB5)
    replace HS2 := hid (HS2.out.step hB5)
    replace HR3 := hid (HR3.out.step hB5)
    replace HS3 := hid (HS3.out.step hB5)
    replace HR4 := hid (HR4.out.step hB5)
    replace HS4 := hid (HS4.out.step hB5)
    replace HBW := hid (Below.step' HBW.out hB5)
    have HR5 := hid hr5
    have HS5 := hid hs5
    clear hr5 hs5 hb5 hB5
    -- the comparisons
    have hBz : Below w5.heap.size w5 (w5.alloc (.cells #[.int .i64 u0, .int .i64 u1, .int .i64 u2, .int .i64 u3, .slice A5 ul.length k5, .slice B5 us.length m5] 59)) := (Below.refl _ _).alloc (Nat.le_refl _) _
    have HX12 := hid (Blk.new w5 #[.int .i64 u0, .int .i64 u1, .int .i64 u2, .int .i64 u3, .slice A5 ul.length k5, .slice B5 us.length m5] 59)
    go_upto_region 9 with fail
    replace HXA := hid (HXA.out.step hBz)
    replace HXB := hid (HXB.out.step hBz)
    replace HXC := hid (HXC.out.step hBz)
    replace HX7 := hid (HX7.out.step hBz)
    replace HX9 := hid (HX9.out.step hBz)
    replace HX11 := hid (HX11.out.step hBz)
    replace HR2 := hid (HR2.out.step hBz)
    replace HS2 := hid (HS2.out.step hBz)
    replace HR3 := hid (HR3.out.step hBz)
    replace HS3 := hid (HS3.out.step hBz)
    replace HR4 := hid (HR4.out.step hBz)
    replace HS4 := hid (HS4.out.step hBz)
    replace HR5 := hid (HR5.out.step hBz)
    replace HS5 := hid (HS5.out.step hBz)
    replace HBW := hid (Below.step' HBW.out hBz)
    obtain ⟨W, hW⟩ : ∃ W : World, W = w5.alloc (.cells #[.int .i64 u0, .int .i64 u1, .int .i64 u2, .int .i64 u3, .slice A5 ul.length k5, .slice B5 us.length m5] 59) := ⟨_, rfl⟩
    rw [← hW] at HXA HXB HXC HX7 HX9 HX11 HX12 HR2 HS2 HR3 HS3 HR4 HS4 HR5 HS5 HBW ⊢
    clear hW hBz
    have PS1 := hid (fun w1 (hb : Below W.heap.size W w1) => sameT_any ⟨⟨u0, u1, u2, u3, ul⟩, us⟩ A2 k2 B2 m2 A3 k3 B3 m3 w1 (HR2.out.step hb) (by simp only; omega) (HS2.out.step hb) (by simp only; omega) (HR3.out.step hb) (HS3.out.step hb))
    have PS2 := hid (fun w1 (hb : Below W.heap.size W w1) => sameT_any ⟨⟨u0, u1, u2, u3, ul⟩, us⟩ A4 k4 B4 m4 A2 k2 B2 m2 w1 (HR4.out.step hb) (by simp only; omega) (HS4.out.step hb) (by simp only; omega) (HR2.out.step hb) (HS2.out.step hb))
    have PS3 := hid (fun w1 (hb : Below W.heap.size W w1) => sameT_any ⟨⟨u0, u1, u2, u3, ul⟩, us⟩ A5 k5 B5 m5 A2 k2 B2 m2 w1 (HR5.out.step hb) (by simp only; omega) (HS5.out.step hb) (by simp only; omega) (HR2.out.step hb) (HS2.out.step hb))
    have PCK := hid (fun w1 (hb : Below W.heap.size W w1) => tcheck_any ⟨⟨u0, u1, u2, u3, ul⟩, us⟩ A2 k2 B2 m2 w1 (HR2.out.step hb) (by simp only; omega) (HS2.out.step hb) (by simp only; omega))
    rw [G3.out] at PCK
    simp only [tval] at PS1 PS2 PS3 PCK
    obtain ⟨cHX7, fHX7, sHX7, nHX7⟩ := HX7.out.all
    try simp only [cbox] at cHX7
    obtain ⟨cHX9, fHX9, sHX9, nHX9⟩ := HX9.out.all
    try simp only [cbox] at cHX9
    go_wp2_with fail
    refine (PS1.out _ (Below.refl _ _)).mono ?_
    rintro e w6 ⟨rfl, hb6⟩
    have HB6 := hid hb6
    clear cHX7 fHX7 sHX7 nHX7
    clear cHX9 fHX9 sHX9 nHX9
    have HX7a := hid (HX7.out.step hb6)
    have HX11a := hid (HX11.out.step hb6)
    obtain ⟨cHX7a, fHX7a, sHX7a, nHX7a⟩ := HX7a.out.all
    try simp only [cbox] at cHX7a
    obtain ⟨cHX11a, fHX11a, sHX11a, nHX11a⟩ := HX11a.out.all
    try simp only [cbox] at cHX11a
    clear hb6
    go_wp2_with fail
    refine (PS2.out _ HB6.out).mono ?_
    rintro e w7 ⟨rfl, hb7⟩
    have HB7 := hid (Below.step' HB6.out hb7)
    clear cHX7a fHX7a sHX7a nHX7a
    clear cHX11a fHX11a sHX11a nHX11a
    clear hb7 HX7a HX11a
    have HX7a := hid (HX7.out.step HB7.out)
    have HX12a := hid (HX12.out.step HB7.out)
    obtain ⟨cHX7a, fHX7a, sHX7a, nHX7a⟩ := HX7a.out.all
    try simp only [cbox] at cHX7a
    obtain ⟨cHX12a, fHX12a, sHX12a, nHX12a⟩ := HX12a.out.all
    try simp only [cbox] at cHX12a
    go_wp2_with fail
    refine (PS3.out _ HB7.out).mono ?_
    rintro e w8 ⟨rfl, hb8⟩
    have HB8 := hid (Below.step' HB7.out hb8)
    clear cHX7a fHX7a sHX7a nHX7a
    clear cHX12a fHX12a sHX12a nHX12a
    clear hb8 HX7a HX12a
    have HX7a := hid (HX7.out.step HB8.out)
    obtain ⟨cHX7a, fHX7a, sHX7a, nHX7a⟩ := HX7a.out.all
    try simp only [cbox] at cHX7a
    go_wp2_with fail
    refine (PCK.out _ HB8.out).mono ?_
    rintro e w9 ⟨rfl, hb9⟩
    have hB9 := Below.step' HB8.out hb9
    clear cHX7a fHX7a sHX7a nHX7a
    clear hb9 HX7a HX9 HX11 HX12 PS1 PS2 PS3 PCK HB6 HB7 HB8 HR3 HS3 HR4 HS4 HR5 HS5
    replace HXA := hid (HXA.out.step hB9)
    replace HXB := hid (HXB.out.step hB9)
    replace HXC := hid (HXC.out.step hB9)
    replace HX7 := hid (HX7.out.step hB9)
    replace HR2 := hid (HR2.out.step hB9)
    replace HS2 := hid (HS2.out.step hB9)
    replace HBW := hid (Below.step' HBW.out hB9)
    clear hB9
    -- the third table
    obtain ⟨L, hL⟩ : ∃ M, M = mergeX ⟨⟨u0, u1, u2, u3, ul⟩, us⟩ ⟨⟨c0, c1, c2, c3, cl⟩, ccs⟩ := ⟨_, rfl⟩
    obtain ⟨EL, hEL⟩ : ∃ M, M = mergeE ⟨⟨u0, u1, u2, u3, ul⟩, us⟩ ⟨⟨c0, c1, c2, c3, cl⟩, ccs⟩ := ⟨_, rfl⟩
    simp only [← hL, ← hEL] at KMC HL3
    clear hL hEL
    obtain ⟨⟨l0, l1, l2, l3, ll⟩, ls⟩ := L
    obtain ⟨cHX7, fHX7, sHX7, nHX7⟩ := HX7.out.all
    try simp only [cbox] at cHX7
    obtain ⟨cHXC, fHXC, sHXC, nHXC⟩ := HXC.out.all
    try simp only [cbox] at cHXC
    go_wp2_with fail
    refine (KMC.out _ HBW.out HR2.out gl1 HS2.out gl2).mono ?_
    rintro e w10 ⟨A10, k10, B10, m10, rfl, hr10, hs10, hb10, -, -⟩
    simp only [tval] at hr10 hs10 ⊢
    clear cHX7 fHX7 sHX7 nHX7
    clear cHXC fHXC sHXC nHXC
    replace HXA := hid (HXA.out.step hb10)
    replace HXB := hid (HXB.out.step hb10)
    replace HXC := hid (HXC.out.step hb10)
    replace HBW := hid (Below.step' HBW.out hb10)
    have HR10 := hid hr10
    have HS10 := hid hs10
    clear hr10 hs10 hb10 KMC KMA KMM HX7 HR2 HS2
    obtain ⟨⟨v0, v1, v2, v3, vl⟩, vs⟩ := BC
    obtain ⟨cHXB, fHXB, sHXB, nHXB⟩ := HXB.out.all
    try simp only [cbox] at cHXB
    obtain ⟨cHXC, fHXC, sHXC, nHXC⟩ := HXC.out.all
    try simp only [cbox] at cHXC
    go_wp2_with fail
    refine (HBC.out _ (HBW.out.alloc HBW.out.size _)).mono ?_
    rintro e w11 ⟨A11, k11, B11, m11, rfl, hr11, hs11, hb11, -, -⟩
    simp only [tval] at hr11 hs11 ⊢
    clear cHXB fHXB sHXB nHXB
    clear cHXC fHXC sHXC nHXC
    have hB11 : Below w10.heap.size w10 w11 := (by refine Below.step' ?_ hb11; (repeat' (first | (with_reducible exact Below.refl _ _) | (with_reducible assumption) | (with_reducible refine below_drewN ?_ _) | (with_reducible refine Below.drew ?_) | (with_reducible refine Below.alloc ?_ ?_ _) | (with_reducible refine Below.setCell ?_ ?_ _) | (refine Below.trans ?_ (Below.mono (by assumption) ?_)) | go_size)))
    have HX13 := hid (Blk.step (Blk.new w10 #[.int .i64 l0, .int .i64 l1, .int .i64 l2, .int .i64 l3, .slice A10 ll.length k10, .slice B10 ls.length m10] 59) hb11)
    replace HXA := hid (HXA.out.step hB11)
    replace HR10 := hid (HR10.out.step hB11)
    replace HS10 := hid (HS10.out.step hB11)
    replace HBW := hid (Below.step' HBW.out hB11)
    have HR11 := hid hr11
    have HS11 := hid hs11
    clear hr11 hs11 hb11 hB11 HXB HXC HBC
    have hBy : Below w11.heap.size w11 (w11.alloc (.cells #[.int .i64 v0, .int .i64 v1, .int .i64 v2, .int .i64 v3, .slice A11 vl.length k11, .slice B11 vs.length m11] 59)) := (Below.refl _ _).alloc (Nat.le_refl _) _
    have HX14 := hid (Blk.new w11 #[.int .i64 v0, .int .i64 v1, .int .i64 v2, .int .i64 v3, .slice A11 vl.length k11, .slice B11 vs.length m11] 59)
    by_cases r1 : EL = 0
    rotate_left
    · have t1 : (EL != 0) = true := by simpa using r1
      clear r1
      go_wp2
      go_ret
      exact ⟨rfl, Below.step' HBW.out hBy⟩
    · subst r1
      by_cases r2 : EBC = 0
      rotate_left
      · have t1 : (EBC != 0) = true := by simpa using r2
        clear r2
        go_wp2
        go_ret
        exact ⟨rfl, Below.step' HBW.out hBy⟩
      · subst r2
        obtain ⟨f1, f2, f3⟩ := HL3.out (by first | rfl | trivial) (by first | rfl | trivial) (by first | rfl | trivial)
        obtain ⟨fl1, fl2⟩ := tab_small f1
        obtain ⟨el1, el2⟩ := tab_small f2
        simp only at fl1 fl2 el1 el2
        have hcall := HAM.out ⟨⟨v0, v1, v2, v3, vl⟩, vs⟩ A11 k11 B11 m11
        obtain ⟨RR, hRR⟩ : ∃ M, M = mergeX ⟨⟨a0, a1, a2, a3, al⟩, acs⟩ ⟨⟨v0, v1, v2, v3, vl⟩, vs⟩ := ⟨_, rfl⟩
        obtain ⟨ER, hER⟩ : ∃ M, M = mergeE ⟨⟨a0, a1, a2, a3, al⟩, acs⟩ ⟨⟨v0, v1, v2, v3, vl⟩, vs⟩ := ⟨_, rfl⟩
        simp only [← hRR, ← hER] at hcall f3
        simp only [tval] at hcall
        have KAM := hid hcall
        have F3 := hid f3
        clear hcall hRR hER f1 f2 f3 HAM HL3
        replace HXA := hid (HXA.out.step hBy)
        replace HX13 := hid (HX13.out.step hBy)
        replace HR10 := hid (HR10.out.step hBy)
        replace HS10 := hid (HS10.out.step hBy)
        replace HR11 := hid (HR11.out.step hBy)
        replace HS11 := hid (HS11.out.step hBy)
        replace HBW := hid (Below.step' HBW.out hBy)
        obtain ⟨W2, hW2⟩ : ∃ W : World, W = w11.alloc (.cells #[.int .i64 v0, .int .i64 v1, .int .i64 v2, .int .i64 v3, .slice A11 vl.length k11, .slice B11 vs.length m11] 59) := ⟨_, rfl⟩
        rw [← hW2] at HXA HX13 HX14 HR10 HS10 HR11 HS11 HBW
        go_upto_region 15 with fail
        rw [← hW2]
        clear hW2 hBy
        obtain ⟨cHXA, fHXA, sHXA, nHXA⟩ := HXA.out.all
        try simp only [cbox] at cHXA
        obtain ⟨cHX14, fHX14, sHX14, nHX14⟩ := HX14.out.all
        try simp only [cbox] at cHX14
        go_wp2_with fail
        refine (KAM.out _ HBW.out HR11.out fl1 HS11.out fl2).mono ?_
        rintro e w12 ⟨A12, k12, B12, m12, rfl, hr12, hs12, hb12, -, -⟩
        clear cHXA fHXA sHXA nHXA
        clear cHX14 fHX14 sHX14 nHX14
        replace HX13 := hid (HX13.out.step hb12)
        replace HR10 := hid (HR10.out.step hb12)
        replace HS10 := hid (HS10.out.step hb12)
        replace HBW := hid (Below.step' HBW.out hb12)
        have HR12 := hid hr12
        have HS12 := hid hs12
        clear hr12 hs12 hb12 HXA HX14 HR11 HS11 KAM
        by_cases r3 : ER = 0
        rotate_left
        · have t1 : (ER != 0) = true := by simpa using r3
          clear r3
          obtain ⟨⟨p0, p1, p2, p3, pl⟩, ps⟩ := RR
          simp only [tval]
          go_wp2
          go_ret
          exact ⟨rfl, HBW.out.alloc HBW.out.size _⟩
        · subst r3
          have hf := F3.out (by first | rfl | trivial)
          subst hf
          simp only [tval] at HR12 HS12 ⊢
          have PSL := hid (fun w1 (hb : Below w12.heap.size w12 w1) => sameT_any ⟨⟨l0, l1, l2, l3, ll⟩, ls⟩ A10 k10 B10 m10 A12 k12 B12 m12 w1 (HR10.out.step hb) (by simp only; omega) (HS10.out.step hb) (by simp only; omega) (HR12.out.step hb) (HS12.out.step hb))
          simp only [tval] at PSL
          obtain ⟨cHX13, fHX13, sHX13, nHX13⟩ := HX13.out.all
          try simp only [cbox] at cHX13
          go_wp2_with fail
          refine (PSL.out _ ((Below.refl _ _).alloc (Nat.le_refl _) _)).mono ?_
          rintro e w13 ⟨rfl, hb13⟩
          have hB13 : Below w12.heap.size w12 w13 := (by refine Below.step' ?_ hb13; (repeat' (first | (with_reducible exact Below.refl _ _) | (with_reducible assumption) | (with_reducible refine below_drewN ?_ _) | (with_reducible refine Below.drew ?_) | (with_reducible refine Below.alloc ?_ ?_ _) | (with_reducible refine Below.setCell ?_ ?_ _) | (refine Below.trans ?_ (Below.mono (by assumption) ?_)) | go_size)))
          have HBX := hid (Below.step' HBW.out hB13)
          clear hb13 hB13
          go_wp2
          go_ret
          exact ⟨rfl, HBX.out⟩
end Go.Proofs.Ytogegnikpjcpdaa
/- The frame that the laws of this seat share: a call that answers true and turns nothing below the heap's size fits the row. No law in sight. -/
namespace Go.Proofs.Ytogegnikpjcpdaa
set_option linter.unusedVariables false
open Go.ChangeShapes Go.WideShapes Go.ChangeAt Go.RowKit

section
variable {H : Type} {enc : TypeId × Value → H} {P : Program}

theorem trodAll_stays (hl : laidOutB P = true) {W W' : World} (hb : Below W.heap.size W W') {sp : Nat → Bool} :
    ∀ {ts : List TypeId} {vs : List Value} {ds : List (DataW H)} {ps : List MemPlace}, (∀ t ∈ ts, P.readableRec t = true ∧ t < P.types.size) →
      DataW.TrodAll enc P W 0 (fun _ => true) true ts vs ds ps → (∀ x ∈ ps, x.block < W.heap.size) → (∀ x ∈ ps, sp x.block = true) → DataW.TrodAll enc P W' 0 sp true ts vs ds ps
  | [], _, _, _, _, h, _, _ => by
    obtain ⟨rfl, rfl, rfl⟩ := trodAll_nil h
    exact trodAll_mk0
  | t :: ts, _, _, _, ht, h, hlt, hs => by
    obtain ⟨v, vs, d, ds, p, q, rfl, rfl, rfl, h1, h2⟩ := trodAll_cons h
    have ht0 := ht t (by simp)
    exact ⟨p, q, WideElems.Trod_stays hl ht0.1 ht0.2 h1 (fun x hx => hb.same (hlt x (by simp [hx]))) (fun x hx => hs x (by simp [hx])),
      trodAll_stays hl hb (fun u hu => ht u (by simp [hu])) h2 (fun x hx => hlt x (by simp [hx])) (fun x hx => hs x (by simp [hx])), rfl⟩

theorem trodAll_len {W : World} {sp : Nat → Bool} {hd : Bool} {b : Nat} : ∀ {ts : List TypeId} {vs : List Value} {ds : List (DataW H)} {ps : List MemPlace}, DataW.TrodAll enc P W b sp hd ts vs ds ps → ds.length = ts.length
  | [], _, _, _, h => by
    obtain ⟨rfl, rfl, rfl⟩ := trodAll_nil h
    rfl
  | t :: ts, _, _, _, h => by
    obtain ⟨v, vs, d, ds, p, q, rfl, rfl, rfl, h1, h2⟩ := trodAll_cons h
    simp [trodAll_len h2]

theorem law_post {f : Func} {s : ChangeSpec} {W W' : World} {args : Array Value} {ds gs : List (DataW H)} {before : List MemPlace} {tb : TypeId} (hl : laidOutB P = true)
    (hts : ∀ t ∈ f.params.toList, P.readableRec t = true ∧ t < P.types.size) (hres : f.resultTypes = #[tb]) (hbool : P.underlying tb = some .bool) (hvars : s.vars = [])
    (hspec : ∀ es : List (DataW H), es.length = f.params.toList.length → s.fn H es = { results := [.lit (.bool true)], args := es })
    (hW : DataW.Whole enc P f.params.toList s.vars false W args.toList ds gs before) (hb : Below W.heap.size W W') : s.post enc P f false true false false W args (.bool true) W' := by
  have hlt := hW.lt
  have hold : ∀ x ∈ before, (fun b => decide (b < W.heap.size)) x.block = true := fun x hx => by simpa using hlt x hx
  have hW0 := hW
  obtain ⟨p, q, hA, hV, rfl, hz, hn⟩ := hW
  rw [hvars] at hV
  obtain ⟨rfl, rfl⟩ := trodVars_none hV
  have hsp := hspec ds (trodAll_len hA)
  have hargs : ∀ sp : Nat → Bool, (∀ x ∈ p, sp x.block = true) → DataW.TrodAll enc P W' 0 sp true f.params.toList args.toList ds p := fun sp h =>
    trodAll_stays hl hb hts hA (fun x hx => hlt x (by simp [hx])) h
  have hr : ∀ (b : Nat) (sp : Nat → Bool) (hd : Bool), DataW.TrodAll enc P W' b sp hd f.resultTypes.toList ((Value.bool true).resultList f.resultTypes.size) [.lit (.bool true)] [] := by
    intro b sp hd
    rw [hres]
    exact trodAll_cons_mk (shut_bool hbool _) trodAll_mk0
  refine ⟨ds, [], p ++ [], [], p, [], hW0, ?_, ?_, ?_, World.keptBut_mono (fun x hx => ⟨hx, .inr (by simpa using hx)⟩) (hb.frame (· ∈ p ++ [])), fun _ => ?_⟩
  · rw [List.append_nil, hsp]; exact hr _ _ _
  · rw [List.append_nil, hsp]; exact hargs _ (fun x hx => by simpa using hlt x (by simp [hx]))
  · rw [List.append_nil, hsp, hvars]; rfl
  · refine ⟨ok_one hres rfl (okWide_bool_mk hbool _), [.lit (.bool true)] ++ ds, [], p ++ [], ⟨p, [], ?_, by rw [hvars]; rfl, rfl, ?_, fun h => by cases h⟩, fun x hx _ => by simpa using hx⟩
    · have h := trodAll_append (hargs (fun _ => true) (fun _ _ => rfl)) (hr 0 (fun _ => true) true)
      simpa using h
    · intro b off hx
      rw [hb.frozen (hlt _ hx)]
      exact hz b off hx
end

/-- The row's step of a law: its walk, from the arguments as they are read, is all that is left. -/
theorem law_lifted {C : Checked} {os : Os} {f : FuncId} {fn : Func} {s : ChangeSpec} {conds : List PathCond} {H : Type} {enc : TypeId × Value → H} {tb : TypeId}
    (own : ownKnob C.prog.godebug = none) (started : os.Started) (noInit : C.prog.inits.idxOf? f = none) (hfn : C.prog.funcs[f]? = some fn)
    (witness : ∃ (w : World) (tape : Tape) (i : Input), w.os = os ∧ (w.forCall tape i).Shaped C.prog ∧ i.vars = [] ∧ Input.okWide C.prog (w.forCall tape i) .any w.heap.size f i ∧
      s.pre6 enc C.prog fn conds false (w.forCall tape i).memory i.args ∧ ({} : Assume).holds C.prog (lone (Frame.enter C.prog f i.args .normal) [] (w.forCall tape i)))
    (hl : laidOutB C.prog = true) (hts : ∀ t ∈ fn.params.toList, C.prog.readableRec t = true ∧ t < C.prog.types.size) (hres : fn.resultTypes = #[tb]) (hbool : C.prog.underlying tb = some .bool) (hvars : s.vars = [])
    (hspec : ∀ es : List (DataW H), es.length = fn.params.toList.length → s.fn H es = { results := [.lit (.bool true)], args := es })
    (walk : ∀ (W : World) (base : Nat) (args : Array Value) (ds : List (DataW H)) (ps : List MemPlace),
      (∀ (j : Nat) t v, fn.params[j]? = some t → args[j]? = some v → Value.okWide C.prog W .any base t v) → DataW.TrodAll enc C.prog W 0 (fun _ => true) true fn.params.toList args.toList ds ps →
      Calls C.prog f args W fun e W' => e = .returned (.bool true) ∧ Below W.heap.size W W') :
    ReturnsInHanded {} C os f .any (s.pre6 enc C.prog fn conds false) (s.post enc C.prog fn false true false false) := by
  refine returnsInHanded_of_change (C := C) own started noInit hfn witness ?_
  intro W base args ds gs before hval hW hcnd _
  have hW' := hW
  obtain ⟨p, q, hA, _⟩ := hW
  refine (walk W base args ds p hval hA).mono fun e W' ⟨he, hb⟩ => ?_
  exact ⟨_, he, law_post hl hts hres hbool hvars hspec hW' hb⟩
end Go.Proofs.Ytogegnikpjcpdaa
