/- Join, Joined, TabC, MeetP, Stab, MeetA, Own, ShelfI -/
import Derived.Test.YtmcdaibdpeeefaaGreatCk05
import Derived.Test.YtmcdaibdpeeefaaGreatCk01
import Derived.Shelf.Sort.Plain
import Derived.Shelf.Slices.CompactI
import Derived.Shelf.Slices.In.SortNone
import Derived.Test.YtmcdaibdpeeefaaGreatRows
/- dot.Join, viewref.Joined. -/
namespace Go.Proofs.YtmcdaibdpeeefaaGreat
set_option linter.unusedVariables false
open Go.ChangeShapes Go.WideShapes Go.ChangeAt Go.RowKit

def joinX (a b : Ctx) : Ctx := if twoI a b ≠ 0 then ⟨0, 0, 0, 0, []⟩ else if 400 < (joinC a b).cloud.length then ⟨0, 0, 0, 0, []⟩ else joinC a b
def joinE (a b : Ctx) : Int := if twoI a b ≠ 0 then twoI a b else if 400 < (joinC a b).cloud.length then 2 else 0

abbrev set5 (w : World) (b : Nat) (y0 y1 y2 y3 y4 : Value) : World := ((((w.setCell ⟨b, 0, none⟩ y0).setCell ⟨b, 1, none⟩ y1).setCell ⟨b, 2, none⟩ y2).setCell ⟨b, 3, none⟩ y3).setCell ⟨b, 4, none⟩ y4
theorem Blk.set5 {w : World} {b : Nat} {x0 x1 x2 x3 x4 : Value} {T : TypeId} (h : Blk w b #[x0, x1, x2, x3, x4] T) (y0 y1 y2 y3 y4 : Value) : Blk (set5 w b y0 y1 y2 y3 y4) b #[y0, y1, y2, y3, y4] T :=
  ((((h.set 0 y0).set 1 y1).set 2 y2).set 3 y3).set 4 y4
theorem Row.set5 {w : World} {b lo : Nat} {A : Option Addr} {xs : List Value} (h : Row w w.heap.size A xs) (hn : NewAt lo A) (hb : b < lo) (y0 y1 y2 y3 y4 : Value) : Row (set5 w b y0 y1 y2 y3 y4) (set5 w b y0 y1 y2 y3 y4).heap.size A xs :=
  (((((h.setCell_new hn (a := ⟨b, 0, none⟩) hb y0).setCell_new hn (a := ⟨b, 1, none⟩) hb y1).setCell_new hn (a := ⟨b, 2, none⟩) hb y2).setCell_new hn (a := ⟨b, 3, none⟩) hb y3).setCell_new hn (a := ⟨b, 4, none⟩) hb y4).more (by simp)
theorem Below.set5 {B : Nat} {a w : World} {b : Nat} (h : Below B a w) (hb : B ≤ b) (y0 y1 y2 y3 y4 : Value) : Below B a (set5 w b y0 y1 y2 y3 y4) :=
  ((((h.setCell (p := ⟨b, 0, none⟩) hb y0).setCell (p := ⟨b, 1, none⟩) hb y1).setCell (p := ⟨b, 2, none⟩) hb y2).setCell (p := ⟨b, 3, none⟩) hb y3).setCell (p := ⟨b, 4, none⟩) hb y4

theorem el_dot : Elem Tryz.prog 23 57 2 16 := by
  obtain ⟨i0, hi0, hz0, hz1, hz2⟩ := info_parts info_dot
  exact ⟨Tryz.underlying23, ⟨i0, _, hi0, hz0, hz1, hz2, rfl⟩, by decide⟩

set_option maxHeartbeats 4000000 in
set_option maxRecDepth 100000 in
theorem join_good (a b : Ctx) (A B : Option Addr) (k m : Nat) (w : World) (ra : Row w w.heap.size A (dcells a.cloud)) (la : a.cloud.length ≤ 400)
    (rb : Row w w.heap.size B (dcells b.cloud)) (lb : b.cloud.length ≤ 400) (ha : okC a) (hb : okC b) (h0 : twoI a b = 0) :
    Calls Tryz.prog 35 #[cval a A k, cval b B m] w (CtxErr (joinX a b) (joinE a b) w) := by
  have HBO := hid (fun w1 (hb : Below w.heap.size w w1) => both_any a b A B k m w1 (ra.step hb) (by omega) (rb.step hb) (by omega))
  rw [h0] at HBO
  have RA := hid ra
  have RB := hid rb
  obtain ⟨JX, hJX⟩ : ∃ JX, JX = joinX a b := ⟨_, rfl⟩
  obtain ⟨JE, hJE⟩ : ∃ JE, JE = joinE a b := ⟨_, rfl⟩
  rw [← hJX, ← hJE]
  have HJX := hid (show JX = if 400 < (joinC a b).cloud.length then ⟨0, 0, 0, 0, []⟩ else joinC a b by rw [hJX]; unfold joinX; rw [if_neg (by simp [h0])])
  have HJE := hid (show JE = if 400 < (joinC a b).cloud.length then 2 else 0 by rw [hJE]; unfold joinE; rw [if_neg (by simp [h0])])
  clear hJX hJE
  have HRT := hid (show ∀ d ∈ a.cloud ++ b.cloud, rightB d.1 d.2 = true from fun d hd => by
    rcases List.mem_append.1 hd with h | h
    · exact (ha.2.1 d h).1
    · exact (hb.2.1 d h).1)
  have HCK := hid (show clkIn ⟨max a.c0 b.c0, max a.c1 b.c1, max a.c2 b.c2, max a.c3 b.c3, []⟩ by
    have h1 := ha.1
    have h2 := hb.1
    unfold clkIn at *
    simp only
    omega)
  clear ra rb h0 ha hb
  obtain ⟨a0, a1, a2, a3, al⟩ := a
  obtain ⟨b0, b1, b2, b3, bl⟩ := b
  simp only [cval] at *
  have i0 := clk0 b0 b1 b2 b3
  have i1 := clk1 b0 b1 b2 b3
  have i2 := clk2 b0 b1 b2 b3
  have i3 := clk3 b0 b1 b2 b3
  go_enter Tryz.func35, Tryz.ntmps35
  go_wp2_with fail
  refine (HBO.out _ (by (repeat' (first | (with_reducible exact Below.refl _ _) | (with_reducible assumption) | (with_reducible refine below_drewN ?_ _) | (with_reducible refine Below.drew ?_) | (with_reducible refine Below.alloc ?_ ?_ _) | (with_reducible refine Below.setCell ?_ ?_ _) | (refine Below.trans ?_ (Below.mono (by assumption) ?_)) | go_size)))).mono ?_
  rintro e w1 ⟨rfl, hb1⟩
  have hB1 : Below w.heap.size w w1 := (by refine Below.step' ?_ hb1; (repeat' (first | (with_reducible exact Below.refl _ _) | (with_reducible assumption) | (with_reducible refine below_drewN ?_ _) | (with_reducible refine Below.drew ?_) | (with_reducible refine Below.alloc ?_ ?_ _) | (with_reducible refine Below.setCell ?_ ?_ _) | (refine Below.trans ?_ (Below.mono (by assumption) ?_)) | go_size)))
  have hXa : Blk w1 w.heap.size (cbox ⟨a0, a1, a2, a3, al⟩ A k) 25 := Blk.step (by exact ((Blk.new w _ _).alloc _).alloc _) hb1
  have hXb : Blk w1 (w.heap.size + 1) (cbox ⟨b0, b1, b2, b3, bl⟩ B m) 25 := Blk.step (by exact (Blk.new' (w.alloc _) _ _ (by simp)).alloc _) hb1
  have hXr : Blk w1 (w.heap.size + 1 + 1) #[.int .i64 0, .int .i64 0, .int .i64 0, .int .i64 0, .slice none 0 0] 25 := Blk.step (by exact Blk.new' ((w.alloc _).alloc _) _ _ (by simp)) hb1
  obtain ⟨ca, fa, sa, na⟩ := hXa.all
  obtain ⟨cb, fb, sb, nb⟩ := hXb.all
  obtain ⟨cr, fr, sr, nr⟩ := hXr.all
  simp only [cbox] at ca cb
  have HB1 := hid hB1
  have HXA := hid hXa
  have HXB := hid hXb
  have HXR := hid hXr
  clear hb1 hB1 hXa hXb hXr
  go_wp2
  go_rounds 5
  go_upto_region 10 with fail
  obtain ⟨P, hP⟩ : ∃ P, P = w1.heap.size := ⟨_, rfl⟩
  obtain ⟨W2, hW2⟩ : ∃ W2 : World, W2 = w1.alloc (.cells #[.int .i64 (max a0 b0), .int .i64 (max a1 b1), .int .i64 (max a2 b2), .int .i64 (max a3 b3)] 22) := ⟨_, rfl⟩
  rw [← hW2, ← hP]
  have hB2 : Below w1.heap.size w1 W2 := by rw [hW2]; (repeat' (first | (with_reducible exact Below.refl _ _) | (with_reducible assumption) | (with_reducible refine below_drewN ?_ _) | (with_reducible refine Below.drew ?_) | (with_reducible refine Below.alloc ?_ ?_ _) | (with_reducible refine Below.setCell ?_ ?_ _) | (refine Below.trans ?_ (Below.mono (by assumption) ?_)) | go_size))
  have hXp : Blk W2 P #[.int .i64 (max a0 b0), .int .i64 (max a1 b1), .int .i64 (max a2 b2), .int .i64 (max a3 b3)] 22 := by rw [hW2, hP]; exact Blk.new _ _ _
  have hXa := HXA.out.step hB2
  have hXb := HXB.out.step hB2
  have hXr := HXR.out.step hB2
  have hBW := Below.step' HB1.out hB2
  have ra2 := RA.out.step hBW
  have rb2 := RB.out.step hBW
  have hsz := hBW.size
  clear ca fa sa na cb fb sb nb cr fr sr nr i0 i1 i2 i3 hW2 hP hB2
  have HCL := hid (fun w1 (hb : Below W2.heap.size W2 w1) => clone_any al A k w1 (ra2.step hb) (by omega))
  have HBL := hid (fun w1 (hb : Below W2.heap.size W2 w1) => rb2.step hb)
  obtain ⟨ca, fa, sa, na⟩ := hXa.all
  obtain ⟨cb, fb, sb, nb⟩ := hXb.all
  obtain ⟨cp, fp, sp, np⟩ := hXp.all
  simp only [cbox] at ca cb
  have HXA2 := hid hXa
  have HXB2 := hid hXb
  have HXR2 := hid hXr
  have HXP2 := hid hXp
  have HBW := hid hBW
  clear hXa hXb hXr hXp hBW ra2 rb2 HXA HXB HXR HB1
  have hlr : ∀ d ∈ al ++ bl, rightB d.1 d.2 = true := HRT.out
  have hlen : al.length + bl.length = (al ++ bl).length := by simp
  have hdc : dcells al ++ dcells bl = dcells (al ++ bl) := by simp [dcells]
  have hl8 : (al ++ bl).length ≤ 800 := by omega
  obtain ⟨c, hc⟩ : ∃ c, c = packL (max a0 b0) (max a1 b1) (max a2 b2) (max a3 b3) (al ++ bl) := ⟨_, rfl⟩
  have HPK := hid (fun w1 A6 c6 (hr : Row w1 w1.heap.size A6 (dcells (al ++ bl))) => packed_any (max a0 b0) (max a1 b1) (max a2 b2) (max a3 b3) (al ++ bl) A6 c6 w1 hr (by omega) HCK.out hlr)
  rw [← hc] at HPK
  have hjc : joinC ⟨a0, a1, a2, a3, al⟩ ⟨b0, b1, b2, b3, bl⟩ = c := hc.symm
  rw [hjc] at HJX HJE
  clear hjc
  have HC := hid hc
  have HLEN := hid hlen
  have HDC := hid hdc
  generalize al ++ bl = l at *
  clear hlr hlen hdc hc
  have hszw := HBW.out.size
  go_cut [10] from 34 to 41 (fun s10 wx => ∃ X A' kk, s10 = .pointer (some ⟨X, 0, none⟩) ∧ Blk wx X (cbox c A' kk) 25 ∧ Row wx wx.heap.size A' (dcells c.cloud) ∧ NewAt W2.heap.size A' ∧ Below W2.heap.size W2 wx)
  case first =>
    have hlb : (dcells bl).length = bl.length * 2 := by rw [dcells_len]; omega
    have hmx : al.length + bl.length ≤ maxLen := by simp only [maxLen]; omega
    have hby2 : (al.length + bl.length) * 16 ≤ 140737488355328 := by omega
    go_region_held3 (fun w' => (∀ b o, b < W2.heap.size → w'.cell? ⟨b, o, none⟩ = W2.cell? ⟨b, o, none⟩) ∧ Below W2.heap.size W2 w')
      ((go_split_ands; refine keepS ?_; first | (with_reducible assumption) | (with_reducible exact (Below.refl _ _).drew) | (with_reducible exact (alloc_below (Below.refl _ _) _).drew) | (with_reducible refine alloc_below ?_ _; with_reducible assumption) | (with_reducible refine Below.drew (alloc_below ?_ _); with_reducible assumption) | (with_reducible refine Below.set5 ?_ ?_ _ _ _ _ _; with_reducible assumption; first | exact Nat.le_refl _ | (refine Below.size (B := W2.heap.size) (w := W2) ?_; with_reducible assumption))))
      (first
        | (go_split_ands; go_at_call 53; refine (HCL.out _ (by with_reducible assumption)).mono ?_; rintro e w5 ⟨v5, rfl, hown5, hb5⟩; have hB5 := Below.step' (by with_reducible assumption : Below W2.heap.size W2 _) hb5; (try have x5 := Blk.step (show Blk (World.drew (W2.alloc (.cells #[.int .i64 0, .int .i64 0, .int .i64 0, .int .i64 0, .slice none 0 0] 25))) W2.heap.size #[.int .i64 0, .int .i64 0, .int .i64 0, .int .i64 0, .slice none 0 0] 25 from Blk.new W2 #[.int .i64 0, .int .i64 0, .int .i64 0, .int .i64 0, .slice none 0 0] 25) hb5))
        | (go_split_ands; go_at_call 48; refine (HPK.out _ A6 c6 (Row.of_own hown6)).mono ?_; rintro e w9 ⟨A', kk, rfl, hrow9, hb9, hnew9⟩; have hB9 := Below.step' (by with_reducible assumption : Below W2.heap.size W2 _) hb9; (try have x9 := Blk.step x6 hb9); (try have x9 := Blk.step (Blk.new w6 #[.int .i64 0, .int .i64 0, .int .i64 0, .int .i64 0, .slice none 0 0] 25) hb9); (try obtain ⟨⟨cx0, cx1, cx2, cx3, cx4⟩, fx0, fx1, fx2, fx3, fx4⟩ := x9.five))
        | (go_split_ands; go_at_call 48; refine (HPK.out _ A6 c6 (Row.of_own (World.ownsRow.alloc hown6 _))).mono ?_; rintro e w9 ⟨A', kk, rfl, hrow9, hb9, hnew9⟩; have hB9 := Below.step' (by with_reducible assumption : Below W2.heap.size W2 _) hb9; (try have x9 := Blk.step x6 hb9); (try have x9 := Blk.step (Blk.new w6 #[.int .i64 0, .int .i64 0, .int .i64 0, .int .i64 0, .slice none 0 0] 25) hb9); (try obtain ⟨⟨cx0, cx1, cx2, cx3, cx4⟩, fx0, fx1, fx2, fx3, fx4⟩ := x9.five))
        | (go_split_ands; refine step_append_row el_dot (by rfl) _ _ (by rfl) _ v5 al.length (dcells al) (by rfl) hown5 B bl.length m _ (dcells bl) (by rfl) hlb (HBL.out _ hB5) (dcells_one _) hmx hby2 hb5.size ?_; intro v6 w6 hown6 hg6 _; rw [HLEN.out, HDC.out] at hown6; obtain ⟨A6, c6, rfl⟩ := own_form hown6; have hB6 := below_grown (by with_reducible assumption : Below W2.heap.size W2 _) hg6 hown5 (by simp); (try have x6 := Blk.grown' x5 hg6 (own_ne_lo hown5 _ (lt_alloc W2 _))); (try have x6 := Blk.grown' (Blk.new w5 #[.int .i64 0, .int .i64 0, .int .i64 0, .int .i64 0, .slice none 0 0] 25) hg6 (own_ne_hi hown5 _ (Nat.le_refl _))))
        | (go_split_ands; refine step_append_row el_dot (by rfl) _ _ (by rfl) _ v5 al.length (dcells al) (by rfl) (World.ownsRow.alloc hown5 _) B bl.length m _ (dcells bl) (by rfl) hlb (HBL.out _ (alloc_below hB5 _)) (dcells_one _) hmx hby2 (Nat.le_trans hb5.size (le_alloc _ _)) ?_; intro v6 w6 hown6 hg6 _; rw [HLEN.out, HDC.out] at hown6; obtain ⟨A6, c6, rfl⟩ := own_form hown6; have hB6 := below_grown (by with_reducible assumption : Below W2.heap.size W2 _) hg6 hown5 (by simp); (try have x6 := Blk.grown' x5 hg6 (own_ne_lo hown5 _ (lt_alloc W2 _))); (try have x6 := Blk.grown' (Blk.new w5 #[.int .i64 0, .int .i64 0, .int .i64 0, .int .i64 0, .slice none 0 0] 25) hg6 (own_ne_hi hown5 _ (Nat.le_refl _)))))
    · go_wp2
      go_meet
      case rel => exact ⟨w9.heap.size, A', kk, rfl, Blk.new w9 _ _, hrow9.alloc _, fun b off q e => Nat.le_trans hB6.size (hnew9 b off q e), alloc_below hB9 _⟩
    · go_wp2
      go_meet
      case rel => exact ⟨w6.heap.size, A', kk, rfl, Blk.set5 x9 _ _ _ _ _, Row.set5 hrow9 hnew9 (lt_alloc w6 _) _ _ _ _ _, fun b off q e => Nat.le_trans (Nat.le_trans hB6.size (le_alloc _ _)) (hnew9 b off q e), Below.set5 hB9 hB6.size _ _ _ _ _⟩
    · go_wp2
      go_meet
      case rel => exact ⟨w5.heap.size, A', kk, rfl, Blk.set5 x9 _ _ _ _ _, Row.set5 hrow9 hnew9 (Nat.lt_of_lt_of_le (lt_alloc w5 _) hg6.size) _ _ _ _ _, fun b off q e => Nat.le_trans hB6.size (hnew9 b off q e), Below.set5 hB9 hB5.size _ _ _ _ _⟩
    · go_wp2
      go_meet
      case rel => exact ⟨W2.heap.size, A', kk, rfl, Blk.set5 x9 _ _ _ _ _, Row.set5 hrow9 hnew9 (Nat.lt_of_lt_of_le (Nat.lt_of_lt_of_le (lt_alloc W2 _) hb5.size) hg6.size) _ _ _ _ _, fun b off q e => Nat.le_trans hB6.size (hnew9 b off q e), Below.set5 hB9 (Nat.le_refl _) _ _ _ _ _⟩
  case rest =>
    obtain ⟨X, A', kk, rfl, hX, hrow, hnew, hb⟩ := hcut
    obtain ⟨wx, rfl⟩ : ∃ wx : World, wx = wc := ⟨_, rfl⟩
    have hR := HXR2.out.step hb
    obtain ⟨⟨cx0, cx1, cx2, cx3, cx4⟩, -⟩ := hX.five
    obtain ⟨⟨cr0, cr1, cr2, cr3, cr4⟩, fr0, fr1, fr2, fr3, fr4⟩ := hR.five
    have hBX := Below.step' HBW.out hb
    have hsz2 := HXR2.out.lt
    have hszx := hb.size
    by_cases h4 : 400 < c.cloud.length
    · have HR5 := hid (Blk.set5 hR (.int .i64 0) (.int .i64 0) (.int .i64 0) (.int .i64 0) (.slice none 0 0))
      have HB5 := hid (Below.set5 hBX (Nat.le_of_lt (show w.heap.size < w.heap.size + 1 + 1 by omega)) (.int .i64 0) (.int .i64 0) (.int .i64 0) (.int .i64 0) (.slice none 0 0))
      have hq : decide ((400 : Int) < (c.cloud.length : Int)) = true := by simp; omega
      clear hX hrow hnew hb hBX hR
      go_wp2
      obtain ⟨⟨q0, q1, q2, q3, q4⟩, -⟩ := HR5.out.five
      exact bodyPost_ret (v := .tuple #[cval ⟨0, 0, 0, 0, []⟩ none 0, .int .i64 2]) (by simp [results, Tryz.results35, go_sem, q0, q1, q2, q3, q4]) rfl ⟨none, 0, by rw [HJX.out, HJE.out, if_pos h4, if_pos h4], by rw [HJX.out, if_pos h4]; exact Row.nil, HB5.out, fun _ _ _ h => by cases h⟩
    · have HR5 := hid (Blk.set5 hR (.int .i64 c.c0) (.int .i64 c.c1) (.int .i64 c.c2) (.int .i64 c.c3) (.slice A' c.cloud.length kk))
      have HB5 := hid (Below.set5 hBX (Nat.le_of_lt (show w.heap.size < w.heap.size + 1 + 1 by omega)) (.int .i64 c.c0) (.int .i64 c.c1) (.int .i64 c.c2) (.int .i64 c.c3) (.slice A' c.cloud.length kk))
      have HROW := hid (Row.set5 hrow hnew hsz2 (.int .i64 c.c0) (.int .i64 c.c1) (.int .i64 c.c2) (.int .i64 c.c3) (.slice A' c.cloud.length kk))
      have hq : decide ((400 : Int) < (c.cloud.length : Int)) = false := by simp; omega
      have HN := hid hnew
      clear hX hrow hnew hb hBX hR
      go_wp2
      obtain ⟨⟨q0, q1, q2, q3, q4⟩, -⟩ := HR5.out.five
      exact bodyPost_ret (v := .tuple #[cval c A' kk, .int .i64 0]) (by simp [results, Tryz.results35, go_sem, q0, q1, q2, q3, q4]) rfl ⟨A', kk, by rw [HJX.out, HJE.out, if_neg h4, if_neg h4], by rw [HJX.out, if_neg h4]; exact HROW.out, HB5.out, fun b off q e => Nat.le_trans hszw (HN.out b off q e)⟩

set_option maxHeartbeats 1000000 in
set_option maxRecDepth 100000 in
theorem join_bad (a b : Ctx) (A B : Option Addr) (k m : Nat) (w : World) (ra : Row w w.heap.size A (dcells a.cloud)) (la : a.cloud.length ≤ 9223372036854775807)
    (rb : Row w w.heap.size B (dcells b.cloud)) (lb : b.cloud.length ≤ 9223372036854775807) (h0 : twoI a b ≠ 0) :
    Calls Tryz.prog 35 #[cval a A k, cval b B m] w (CtxErr ⟨0, 0, 0, 0, []⟩ (twoI a b) w) := by
  have HBO := hid (fun w1 (hb : Below w.heap.size w w1) => both_any a b A B k m w1 (ra.step hb) la (rb.step hb) lb)
  have q2 : (twoI a b == 0) = false := by simpa using h0
  generalize twoI a b = I at *
  clear h0 ra rb
  obtain ⟨a0, a1, a2, a3, al⟩ := a
  obtain ⟨b0, b1, b2, b3, bl⟩ := b
  simp only [cval] at *
  go_enter Tryz.func35, Tryz.ntmps35
  go_wp2_with fail
  refine (HBO.out _ (by (repeat' (first | (with_reducible exact Below.refl _ _) | (with_reducible assumption) | (with_reducible refine below_drewN ?_ _) | (with_reducible refine Below.drew ?_) | (with_reducible refine Below.alloc ?_ ?_ _) | (with_reducible refine Below.setCell ?_ ?_ _) | (refine Below.trans ?_ (Below.mono (by assumption) ?_)) | go_size)))).mono ?_
  rintro e w1 ⟨rfl, hb1⟩
  have hB1 : Below w.heap.size w w1 := (by refine Below.step' ?_ hb1; (repeat' (first | (with_reducible exact Below.refl _ _) | (with_reducible assumption) | (with_reducible refine below_drewN ?_ _) | (with_reducible refine Below.drew ?_) | (with_reducible refine Below.alloc ?_ ?_ _) | (with_reducible refine Below.setCell ?_ ?_ _) | (refine Below.trans ?_ (Below.mono (by assumption) ?_)) | go_size)))
  have hR : Blk w1 (w.heap.size + 1 + 1) #[.int .i64 0, .int .i64 0, .int .i64 0, .int .i64 0, .slice none 0 0] 25 := Blk.step (by exact Blk.new' ((w.alloc _).alloc _) _ _ (by simp)) hb1
  obtain ⟨⟨cr0, cr1, cr2, cr3, cr4⟩, fr0, fr1, fr2, fr3, fr4⟩ := hR.five
  have HR5 := hid (Blk.set5 hR (.int .i64 0) (.int .i64 0) (.int .i64 0) (.int .i64 0) (.slice none 0 0))
  have HB5 := hid (Below.set5 hB1 (Nat.le_of_lt (show w.heap.size < w.heap.size + 1 + 1 by omega)) (.int .i64 0) (.int .i64 0) (.int .i64 0) (.int .i64 0) (.slice none 0 0))
  clear hb1 hB1 hR
  go_wp2
  obtain ⟨⟨q0, q1, q2, q3, q4⟩, -⟩ := HR5.out.five
  exact bodyPost_ret (v := .tuple #[cval ⟨0, 0, 0, 0, []⟩ none 0, .int .i64 I]) (by simp [results, Tryz.results35, go_sem, q0, q1, q2, q3, q4]) rfl ⟨none, 0, rfl, Row.nil, HB5.out, fun _ _ _ h => by cases h⟩

theorem twoI_zero {a b : Ctx} : twoI a b = 0 ↔ checkI a = 0 ∧ checkI b = 0 := by
  unfold twoI
  by_cases h : checkI a = 0 <;> simp [h]

theorem join_any (a b : Ctx) (A B : Option Addr) (k m : Nat) (w : World) (ra : Row w w.heap.size A (dcells a.cloud)) (la : a.cloud.length ≤ 9223372036854775807)
    (rb : Row w w.heap.size B (dcells b.cloud)) (lb : b.cloud.length ≤ 9223372036854775807) :
    Calls Tryz.prog 35 #[cval a A k, cval b B m] w (CtxErr (joinX a b) (joinE a b) w) := by
  by_cases h0 : twoI a b = 0
  · obtain ⟨h1, h2⟩ := twoI_zero.1 h0
    obtain ⟨h3, h4⟩ := (checkI_iff a).1 h1
    obtain ⟨h5, h6⟩ := (checkI_iff b).1 h2
    exact join_good a b A B k m w ra h4 rb h6 h3 h5 h0
  · have e1 : joinX a b = ⟨0, 0, 0, 0, []⟩ := by unfold joinX; rw [if_pos h0]
    have e2 : joinE a b = twoI a b := by unfold joinE; rw [if_pos h0]
    rw [e1, e2]
    exact join_bad a b A B k m w ra la rb lb h0

end Go.Proofs.YtmcdaibdpeeefaaGreat
/- viewref.Joined. -/
namespace Go.Proofs.YtmcdaibdpeeefaaGreat
set_option linter.unusedVariables false
open Go.ChangeShapes Go.WideShapes Go.ChangeAt Go.RowKit

def mxA (a b : Ctx) (i : Nat) : Array Value := #[.int .i64 (if 0 < i then max a.c0 b.c0 else a.c0), .int .i64 (if 1 < i then max a.c1 b.c1 else a.c1), .int .i64 (if 2 < i then max a.c2 b.c2 else a.c2), .int .i64 (if 3 < i then max a.c3 b.c3 else a.c3)]
theorem mx_get (a b : Ctx) (i : Nat) (h : i < 4) : (mxA a b i)[i]? = some (.int .i64 (a.at_ i)) := by
  rcases (by omega : i = 0 ∨ i = 1 ∨ i = 2 ∨ i = 3) with e | e | e | e <;> subst e <;> rfl
theorem mx_set (a b : Ctx) (i : Nat) (h : i < 4) (hc : a.at_ i < b.at_ i) : (mxA a b i).setIfInBounds i (.int .i64 (b.at_ i)) = mxA a b (i + 1) := by
  rcases (by omega : i = 0 ∨ i = 1 ∨ i = 2 ∨ i = 3) with e | e | e | e <;> subst e <;> simp [mxA, Ctx.at_] at * <;> omega
theorem mx_keep (a b : Ctx) (i : Nat) (h : i < 4) (hc : ¬ a.at_ i < b.at_ i) : mxA a b i = mxA a b (i + 1) := by
  rcases (by omega : i = 0 ∨ i = 1 ∨ i = 2 ∨ i = 3) with e | e | e | e <;> subst e <;> simp [mxA, Ctx.at_] at * <;> omega
theorem mx_zero (a b : Ctx) : mxA a b 0 = #[.int .i64 a.c0, .int .i64 a.c1, .int .i64 a.c2, .int .i64 a.c3] := rfl
theorem mx_four (a b : Ctx) : mxA a b 4 = #[.int .i64 (max a.c0 b.c0), .int .i64 (max a.c1 b.c1), .int .i64 (max a.c2 b.c2), .int .i64 (max a.c3 b.c3)] := rfl

end Go.Proofs.YtmcdaibdpeeefaaGreat
/- table.Check, viewref.Table. -/
namespace Go.Proofs.YtmcdaibdpeeefaaGreat
set_option linter.unusedVariables false
open Go.ChangeShapes Go.WideShapes Go.ChangeAt Go.RowKit

def celOk (c : Ctx) (x : Cel) : Bool := rightB x.d.1 x.d.2 && hasB c x.d && inB x.key 0 49 && (inB x.col 0 2 && inB x.val (-1000) 1000)
def badCel (t : Tab) (i : Nat) : Bool := !celOk t.c (t.cells.getD i ⟨(0, 0), 0, 0, 0⟩) || (decide (0 < i) && !before (t.cells.getD (i - 1) ⟨(0, 0), 0, 0, 0⟩).d (t.cells.getD i ⟨(0, 0), 0, 0, 0⟩).d)
def tabI (t : Tab) : Int := if checkI t.c ≠ 0 then checkI t.c else if 400 < t.cells.length then 2 else if (List.range t.cells.length).any (badCel t) then 5 else 0
theorem tabI_ctx {t : Tab} (h : checkI t.c ≠ 0) : tabI t = checkI t.c := by unfold tabI; rw [if_pos h]
theorem tabI_large {t : Tab} (h : checkI t.c = 0) (h2 : 400 < t.cells.length) : tabI t = 2 := by unfold tabI; rw [if_neg (by simp [h]), if_pos h2]
theorem tabI_form {t : Tab} (h : checkI t.c = 0) (h2 : t.cells.length ≤ 400) {i : Nat} (hi : i < t.cells.length) (hb : badCel t i = true) : tabI t = 5 := by
  unfold tabI
  rw [if_neg (by simp [h]), if_neg (by omega), if_pos (List.any_eq_true.2 ⟨i, List.mem_range.2 hi, hb⟩)]
theorem tabI_ok {t : Tab} (h : checkI t.c = 0) (h2 : t.cells.length ≤ 400) (hg : ∀ i, i < t.cells.length → badCel t i = false) : tabI t = 0 := by
  unfold tabI
  rw [if_neg (by simp [h]), if_neg (by omega), if_neg]
  intro hq
  obtain ⟨i, hi, hb⟩ := List.any_eq_true.1 hq
  rw [hg i (List.mem_range.1 hi)] at hb
  cases hb
theorem badCel_at {t : Tab} {i : Nat} (h : i < t.cells.length) : badCel t i = (!celOk t.c t.cells[i] || (decide (0 < i) && !before (t.cells.getD (i - 1) ⟨(0, 0), 0, 0, 0⟩).d t.cells[i].d)) := by
  unfold badCel
  simp [List.getD, h]

set_option maxRecDepth 100000 in
theorem within_any (n lo hi : Int) (w : World) : Calls Tryz.prog 31 #[.int .i64 n, .int .i64 lo, .int .i64 hi] w fun e w' => e = .returned (.bool (inB n lo hi)) ∧ w = w' := by
  go_enter Tryz.func31, Tryz.ntmps31
  by_cases h1 : lo ≤ n <;> by_cases h2 : n ≤ hi
  all_goals
    go_wp2
    go_ret
    exact ⟨ret_bool (by simp [inB]; omega), rfl⟩
set_option maxRecDepth 100000 in
theorem keyed_any (n : Int) (w : World) : Calls Tryz.prog 25 #[.int .i64 n] w fun e w' => e = .returned (.bool (inB n 0 49)) ∧ w = w' := by
  go_enter Tryz.func25, Tryz.ntmps25
  go_wp2_with (refine (within_any _ _ _ _).mono ?_; rintro e w' ⟨rfl, rfl⟩)
  go_ret
  exact ⟨rfl, rfl⟩
set_option maxRecDepth 100000 in
theorem valued_any (c v : Int) (w : World) : Calls Tryz.prog 26 #[.int .i64 c, .int .i64 v] w fun e w' => e = .returned (.bool (inB c 0 2 && inB v (-1000) 1000)) ∧ w = w' := by
  have H0 := fun w => within_any c 0 2 w
  cases h : inB c 0 2
  all_goals
    rw [h] at H0
    have H := hid H0
    clear H0 h
    go_enter Tryz.func26, Tryz.ntmps26
    go_wp2_with fail
    refine (H.out _).mono ?_
    rintro e w' ⟨rfl, rfl⟩
    go_wp2_with (refine (within_any _ _ _ _).mono ?_; rintro e w' ⟨rfl, rfl⟩)
    go_ret
    exact ⟨ret_bool (by simp), rfl⟩

theorem make_lit1 (d : Int × Int) (A : Option Addr) (k : Nat) (w : World) (hr : Row w w.heap.size A (dcells [d])) : Calls Tryz.prog 23 #[.slice A 1 k] w (CtxErr (makeC [d]) (if rightB d.1 d.2 = true then 0 else 5) w) := by
  have h := make_any [d] A k w hr (by simp)
  have e : makeE [d] = if rightB d.1 d.2 = true then 0 else 5 := by
    unfold makeE
    cases hq : rightB d.1 d.2 <;> simp [hq]
  rw [e] at h
  exact h

theorem celOk_parts {c : Ctx} {x : Cel} (h1 : rightB x.d.1 x.d.2 = true) (h2 : hasB c x.d = true) (h3 : inB x.key 0 49 = true) (h4 : (inB x.col 0 2 && inB x.val (-1000) 1000) = true) : celOk c x = true := by
  unfold celOk; rw [h1, h2, h3, h4]; rfl
theorem celOk_no {c : Ctx} {x : Cel} (h : rightB x.d.1 x.d.2 = false ∨ hasB c x.d = false ∨ inB x.key 0 49 = false ∨ (inB x.col 0 2 && inB x.val (-1000) 1000) = false) : celOk c x = false := by
  unfold celOk
  rcases h with h | h | h | h <;> rw [h] <;> simp

set_option maxHeartbeats 4000000 in
set_option maxRecDepth 100000 in
theorem tcheck_any (t : Tab) (A : Option Addr) (k : Nat) (B : Option Addr) (m : Nat) (w : World) (ra : Row w w.heap.size A (dcells t.c.cloud)) (la : t.c.cloud.length ≤ 9223372036854775807)
    (rb : Row w w.heap.size B (tcells t.cells)) (lb : t.cells.length ≤ 9223372036854775807) :
    Calls Tryz.prog 10 #[tval t A k B m] w fun e w' => e = .returned (.int .i64 (tabI t)) ∧ Below w.heap.size w w' := by
  have HC := hid (fun w1 (hb : Below w.heap.size w w1) => check_any t.c A k w1 (ra.step hb) la)
  have HH := hid (fun w1 (hb : Below w.heap.size w w1) d => has_any t.c d A k w1 (ra.step hb) la)
  have RB := hid (fun w1 (hb : Below w.heap.size w w1) => rb.step hb)
  have HT1 := hid (@tabI_ctx t)
  have HT2 := hid (@tabI_large t)
  have HT3 := hid (@tabI_form t)
  have HT4 := hid (@tabI_ok t)
  have HBA := hid (fun i (h : i < t.cells.length) => badCel_at (t := t) h)
  clear ra rb
  obtain ⟨⟨c0, c1, c2, c3, cl⟩, l⟩ := t
  obtain ⟨c, hc⟩ : ∃ c : Ctx, c = ⟨c0, c1, c2, c3, cl⟩ := ⟨_, rfl⟩
  simp only [tval, cval] at *
  rw [← hc] at HC HH HT1 HT2 HT3 HT4 HBA ⊢
  have HCC := hid hc
  clear hc
  obtain ⟨I, hI⟩ : ∃ I, I = checkI c := ⟨_, rfl⟩
  rw [← hI] at HC HT1 HT2 HT3 HT4
  clear hI
  obtain ⟨R, hR⟩ : ∃ R, R = tabI ⟨c, l⟩ := ⟨_, rfl⟩
  rw [← hR] at HT1 HT2 HT3 HT4 ⊢
  clear hR
  by_cases q : I = 0
  rotate_left
  · have q2 : (I != 0) = true := by simpa using q
    have HR := hid (HT1.out q)
    clear q
    go_enter Tryz.func10, Tryz.ntmps10
    go_wp2_with fail
    refine (HC.out _ (by (repeat' (first | (with_reducible exact Below.refl _ _) | (with_reducible assumption) | (with_reducible refine below_drewN ?_ _) | (with_reducible refine Below.drew ?_) | (with_reducible refine Below.alloc ?_ ?_ _) | (with_reducible refine Below.setCell ?_ ?_ _) | (refine Below.trans ?_ (Below.mono (by assumption) ?_)) | go_size)))).mono ?_
    rintro e w1 ⟨rfl, hb1⟩
    go_wp2
    go_ret
    exact ⟨ret_int HR.out.symm, (by refine Below.step' ?_ hb1; (repeat' (first | (with_reducible exact Below.refl _ _) | (with_reducible assumption) | (with_reducible refine below_drewN ?_ _) | (with_reducible refine Below.drew ?_) | (with_reducible refine Below.alloc ?_ ?_ _) | (with_reducible refine Below.setCell ?_ ?_ _) | (refine Below.trans ?_ (Below.mono (by assumption) ?_)) | go_size)))⟩
  · subst q
    go_enter Tryz.func10, Tryz.ntmps10
    go_wp2_with fail
    refine (HC.out _ (by (repeat' (first | (with_reducible exact Below.refl _ _) | (with_reducible assumption) | (with_reducible refine below_drewN ?_ _) | (with_reducible refine Below.drew ?_) | (with_reducible refine Below.alloc ?_ ?_ _) | (with_reducible refine Below.setCell ?_ ?_ _) | (refine Below.trans ?_ (Below.mono (by assumption) ?_)) | go_size)))).mono ?_
    rintro e w1 ⟨rfl, hb1⟩
    have HBW := hid (show Below w.heap.size w w1 from (by refine Below.step' ?_ hb1; (repeat' (first | (with_reducible exact Below.refl _ _) | (with_reducible assumption) | (with_reducible refine below_drewN ?_ _) | (with_reducible refine Below.drew ?_) | (with_reducible refine Below.alloc ?_ ?_ _) | (with_reducible refine Below.setCell ?_ ?_ _) | (refine Below.trans ?_ (Below.mono (by assumption) ?_)) | go_size))))
    have HXT := hid (Blk.step (Blk.new w #[.int .i64 c0, .int .i64 c1, .int .i64 c2, .int .i64 c3, .slice A cl.length k, .slice B l.length m] 28) hb1)
    clear hb1
    obtain ⟨cHXT, fHXT, sHXT, nHXT⟩ := HXT.out.all
    try simp only [cbox] at cHXT
    by_cases h4 : 400 < l.length
    · have hq : decide ((400 : Int) < (l.length : Int)) = true := by simp; omega
      have HR := hid (HT2.out trivial h4)
      go_wp2
      go_ret
      exact ⟨ret_int HR.out.symm, HBW.out⟩
    · have hq : decide ((400 : Int) < (l.length : Int)) = false := by simp; omega
      go_wp2
      clear cHXT fHXT sHXT nHXT
      go_loopw [21] (fun s21 wr => ∃ i : Nat, i ≤ l.length ∧ s21 = .int .i64 i ∧ (∀ j, j < i → badCel ⟨c, l⟩ j = false) ∧ Below w1.heap.size w1 wr) (fun s21 _ => l.length - (intOf s21).toNat)
      case atStart => exact ⟨0, by omega, rfl, fun j h => absurd h (by omega), Below.refl _ _⟩
      case round =>
        obtain ⟨i, hi, rfl, hno, hbw⟩ := hrel
        have HN := hid hno
        have HB := hid (Below.step' HBW.out hbw)
        have HB1 := hid hbw
        have HXR := hid (HXT.out.step hbw)
        clear hno hbw
        by_cases hlt : i < l.length
        · obtain ⟨b, off, hA, hb, e0, e1, e2, e3, e4⟩ := (RB.out wr HB.out).cel hlt
          subst hA
          have hp : 0 < i → ∃ p : Int × Int, (l.getD (i - 1) ⟨(0, 0), 0, 0, 0⟩).d = p ∧ ∀ w1, Below w.heap.size w w1 → w1.cell? ⟨b, off + (i - 1) * 5, none⟩ = some (.int .i64 p.1) ∧ w1.cell? ⟨b, off + (i - 1) * 5 + 1, none⟩ = some (.int .i64 p.2) := by
            intro hm
            refine ⟨l[i - 1].d, by simp [List.getD, show i - 1 < l.length by omega], fun w1 hb1 => ?_⟩
            obtain ⟨b', off', he, hb', h0', h1', -⟩ := (RB.out w1 hb1).cel (k := i - 1) (by omega)
            injection he with he
            injection he with he1 he2
            subst he1 he2
            exact ⟨h0', h1'⟩
          have HBAD := hid (HBA.out i hlt)
          have HT3i := hid (fun hb => HT3.out trivial (by simpa using h4) (i := i) hlt hb)
          try simp only at HBAD
          generalize l[i] = x at *
          obtain ⟨⟨d0, d1⟩, key, col, val⟩ := x
          simp only at e0 e1 e2 e3 e4
          obtain ⟨cHXR, fHXR, sHXR, nHXR⟩ := HXR.out.all
          try simp only [cbox] at cHXR
          have hneb : (b = wr.heap.size) = False := by simp; omega
          go_wp2_with fail
          refine (make_lit1 (d0, d1) _ _ _ (by exact Row.new' (wr.alloc _) _ _ (by simp) rfl (by simp))).mono ?_
          rintro e w2 ⟨A2, k2, rfl, hr2, hb2, hn2⟩
          have hB2 : Below wr.heap.size wr w2 := (by refine Below.step' ?_ hb2; (repeat' (first | (with_reducible exact Below.refl _ _) | (with_reducible assumption) | (with_reducible refine below_drewN ?_ _) | (with_reducible refine Below.drew ?_) | (with_reducible refine Below.alloc ?_ ?_ _) | (with_reducible refine Below.setCell ?_ ?_ _) | (refine Below.trans ?_ (Below.mono (by assumption) ?_)) | go_size)))
          have HX5 := hid (Blk.thru (B := wr.heap.size + 1 + 1) (w := (wr.alloc (.cells #[.int .i64 d0, .int .i64 d1, .int .i64 key, .int .i64 col, .int .i64 val] 59)).alloc (.cells #[.int .i64 d0, .int .i64 d1] 57)) (b := wr.heap.size) (cs := #[.int .i64 d0, .int .i64 d1, .int .i64 key, .int .i64 col, .int .i64 val]) (T := 59) (by exact (Blk.new wr _ _).alloc _) (by simpa using hb2) (by omega))
          clear cHXR fHXR sHXR nHXR
          replace HXR := hid (HXR.out.step hB2)
          have HB2 := hid (Below.step' HB.out hB2)
          have HB12 := hid (Below.step' HB1.out hB2)
          have hs2 := hB2.size
          clear hb2 hB2 hr2 hn2 e0 e1 e2 e3 e4 hneb hb
          obtain ⟨cHXR, fHXR, sHXR, nHXR⟩ := HXR.out.all
          try simp only [cbox] at cHXR
          obtain ⟨cHX5, fHX5, sHX5, nHX5⟩ := HX5.out.all
          try simp only [cbox] at cHX5
          have hbo : Below w.heap.size w (w2.alloc (.cells (cbox (makeC [(d0, d1)]) A2 k2) 25)) := HB2.out.alloc HB2.out.size _
          have hbo1 : Below w1.heap.size w1 (w2.alloc (.cells (cbox (makeC [(d0, d1)]) A2 k2) 25)) := HB12.out.alloc HB12.out.size _
          have HBO := hid hbo
          have HBO1 := hid hbo1
          clear hbo hbo1
          simp only [cbox] at HBO HBO1
          obtain ⟨K, hK⟩ : ∃ K, K = makeC [(d0, d1)] := ⟨_, rfl⟩
          rw [← hK] at HBO HBO1 ⊢
          clear hK
          simp only [cval]
          cases hright : rightB d0 d1
          · have HR := hid (HT3i.out (by rw [HBAD.out, celOk_no (.inl hright)]; rfl))
            simp only [Bool.false_eq_true, if_false]
            go_wp2
            go_ret
            exact ⟨ret_int HR.out.symm, HBO.out⟩
          · simp only [if_true]
            have hh := fun w1 (hb : Below w.heap.size w w1) => HH.out w1 hb (d0, d1)
            cases hhas : hasB c (d0, d1)
            · have HR := hid (HT3i.out (by rw [HBAD.out, celOk_no (.inr (.inl hhas))]; rfl))
              rw [hhas] at hh
              have HHQ := hid hh
              clear hh
              go_wp2_with fail
              refine (HHQ.out _ HBO.out).mono ?_
              rintro e w3 ⟨rfl, hb3⟩
              go_wp2
              go_ret
              exact ⟨ret_int HR.out.symm, Below.step' HBO.out hb3⟩
            · rw [hhas] at hh
              have HHQ := hid hh
              clear hh
              have hky := fun w => keyed_any key w
              have hva := fun w => valued_any col val w
              cases hkey : inB key 0 49
              · have HR := hid (HT3i.out (by rw [HBAD.out, celOk_no (.inr (.inr (.inl hkey)))]; rfl))
                rw [hkey] at hky
                have HKY := hid hky
                clear hky hva
                go_wp2_with fail
                refine (HHQ.out _ HBO.out).mono ?_
                rintro e w3 ⟨rfl, hb3⟩
                have hB3 : Below w2.heap.size w2 w3 := (by refine Below.step' ?_ hb3; (repeat' (first | (with_reducible exact Below.refl _ _) | (with_reducible assumption) | (with_reducible refine below_drewN ?_ _) | (with_reducible refine Below.drew ?_) | (with_reducible refine Below.alloc ?_ ?_ _) | (with_reducible refine Below.setCell ?_ ?_ _) | (refine Below.trans ?_ (Below.mono (by assumption) ?_)) | go_size)))
                clear cHX5 fHX5 sHX5 nHX5
                replace HX5 := hid (HX5.out.step hB3)
                obtain ⟨cHX5, fHX5, sHX5, nHX5⟩ := HX5.out.all
                try simp only [cbox] at cHX5
                go_wp2_with fail
                refine (HKY.out _).mono ?_
                rintro e w4 ⟨rfl, rfl⟩
                go_wp2
                go_ret
                exact ⟨ret_int HR.out.symm, Below.step' HBO.out hb3⟩
              · cases hval : (inB col 0 2 && inB val (-1000) 1000)
                · have HR := hid (HT3i.out (by rw [HBAD.out, celOk_no (.inr (.inr (.inr hval)))]; rfl))
                  rw [hkey] at hky
                  rw [hval] at hva
                  have HKY := hid hky
                  have HVA := hid hva
                  clear hky hva hkey hval
                  go_wp2_with fail
                  refine (HHQ.out _ HBO.out).mono ?_
                  rintro e w3 ⟨rfl, hb3⟩
                  have hB3 : Below w2.heap.size w2 w3 := (by refine Below.step' ?_ hb3; (repeat' (first | (with_reducible exact Below.refl _ _) | (with_reducible assumption) | (with_reducible refine below_drewN ?_ _) | (with_reducible refine Below.drew ?_) | (with_reducible refine Below.alloc ?_ ?_ _) | (with_reducible refine Below.setCell ?_ ?_ _) | (refine Below.trans ?_ (Below.mono (by assumption) ?_)) | go_size)))
                  clear cHX5 fHX5 sHX5 nHX5
                  replace HX5 := hid (HX5.out.step hB3)
                  obtain ⟨cHX5, fHX5, sHX5, nHX5⟩ := HX5.out.all
                  try simp only [cbox] at cHX5
                  go_wp2_with fail
                  refine (HKY.out _).mono ?_
                  rintro e w4 ⟨rfl, rfl⟩
                  go_wp2_with fail
                  refine (HVA.out _).mono ?_
                  rintro e w4 ⟨rfl, rfl⟩
                  go_wp2
                  go_ret
                  exact ⟨ret_int HR.out.symm, Below.step' HBO.out hb3⟩
                · have hok := celOk_parts (c := c) (x := ⟨(d0, d1), key, col, val⟩) hright hhas hkey hval
                  rw [hkey] at hky
                  rw [hval] at hva
                  have HKY := hid hky
                  have HVA := hid hva
                  have hbad := HBAD.out
                  rw [hok] at hbad
                  have HBD := hid hbad
                  clear hky hva hkey hval hok hbad hright hhas
                  go_wp2_with fail
                  refine (HHQ.out _ HBO.out).mono ?_
                  rintro e w3 ⟨rfl, hb3⟩
                  have hB3 : Below w2.heap.size w2 w3 := (by refine Below.step' ?_ hb3; (repeat' (first | (with_reducible exact Below.refl _ _) | (with_reducible assumption) | (with_reducible refine below_drewN ?_ _) | (with_reducible refine Below.drew ?_) | (with_reducible refine Below.alloc ?_ ?_ _) | (with_reducible refine Below.setCell ?_ ?_ _) | (refine Below.trans ?_ (Below.mono (by assumption) ?_)) | go_size)))
                  clear cHX5 fHX5 sHX5 nHX5
                  clear cHXR fHXR sHXR nHXR
                  replace HX5 := hid (HX5.out.step hB3)
                  replace HXR := hid (HXR.out.step hB3)
                  have HB3 := hid (Below.step' HBO.out hb3)
                  have HB13 := hid (Below.step' HBO1.out hb3)
                  have hs3 := hB3.size
                  clear hb3 hB3
                  obtain ⟨cHX5, fHX5, sHX5, nHX5⟩ := HX5.out.all
                  try simp only [cbox] at cHX5
                  obtain ⟨cHXR, fHXR, sHXR, nHXR⟩ := HXR.out.all
                  try simp only [cbox] at cHXR
                  go_wp2_with fail
                  refine (HKY.out _).mono ?_
                  rintro e w4 ⟨rfl, rfl⟩
                  go_wp2_with fail
                  refine (HVA.out _).mono ?_
                  rintro e w4 ⟨rfl, rfl⟩
                  by_cases hk0 : 0 < i
                  · obtain ⟨⟨p0, p1⟩, hpe, hpc⟩ := hp hk0
                    obtain ⟨g0, g1⟩ := hpc w3 HB3.out
                    have hd : decide ((0 : Int) < (i : Int)) = true := by simp; omega
                    have hd2 : decide (0 < i) = true := by simp; omega
                    simp only at g0 g1
                    clear hp hpc
                    have z1 : IntKind.i64.wrap ((i : Int) - 1) = (i : Int) - 1 := IntWalk.i64_in _ (by omega)
                    have z2 : (1 : Int) ≤ (i : Int) := by omega
                    have z3 : (i : Int) - 1 < (l.length : Int) := by omega
                    have z4 : ((i : Int) - 1).toNat = i - 1 := by omega
                    have hblt : b < w3.heap.size := World.block_lt_of_cell? _ _ g0
                    have hbd := HBD.out
                    rw [hpe, hd2] at hbd
                    simp only [Bool.not_true, Bool.false_or, Bool.true_and] at hbd
                    have HBD2 := hid hbd
                    clear hpe hbd HBD HBAD hd2
                    cases hbf : decide (0 ≤ or2 (cmpI p0 d0) (cmpI p1 d1))
                    · have hbe : before (p0, p1) (d0, d1) = true := by
                        have := cmp_before (p0, p1) (d0, d1)
                        cases hq : before (p0, p1) (d0, d1)
                        · rw [hq] at this; simp only [iff_true] at this; rw [decide_eq_false_iff_not] at hbf; exact absurd this hbf
                        · rfl
                      rw [hbe] at HBD2
                      clear hbe
                      go_wp2
                      refine region_ext (by kernel_rfl) (by kernel_rfl) (fun hext => ?_)
                      repeat (any_goals ((with_reducible refine wpQuiet_step (fun K hK => ?_)); go_simp; first | (with_reducible refine hK _ ?_; clear hK K) | ((with_reducible apply Exists.intro); (with_reducible refine ⟨fun _ => ?_, hK _ ?_⟩); ((go_at_call 27; exact ext_call _ (by simp) (order_ints _ _ _ _ _))); clear hK K) | ((with_reducible refine (if_neg ?_).mpr (hK _ ?_)); (decide); clear hK K) | (split <;> (with_reducible refine hK _ ?_; clear hK K))))
                      all_goals ((with_reducible refine wpQuiet_nil ?_); clear hext; intro w1 hx1; have hb1 := ext_below hx1; clear hx1)
                      go_wp2
                      go_roundw
                      case rel =>
                        refine ⟨i + 1, by omega, by go_num, fun j hj => ?_, Below.step' HB13.out hb1⟩
                        by_cases e : j = i
                        · subst e; exact HBD2.out
                        · exact HN.out j (by omega)
                      case measure => simp [intOf]; omega
                    · have hbe : before (p0, p1) (d0, d1) = false := (cmp_before (p0, p1) (d0, d1)).1 (by simpa using hbf)
                      rw [hbe] at HBD2
                      clear hbe
                      go_wp2
                      refine region_ext (by kernel_rfl) (by kernel_rfl) (fun hext => ?_)
                      repeat (any_goals ((with_reducible refine wpQuiet_step (fun K hK => ?_)); go_simp; first | (with_reducible refine hK _ ?_; clear hK K) | ((with_reducible apply Exists.intro); (with_reducible refine ⟨fun _ => ?_, hK _ ?_⟩); ((go_at_call 27; exact ext_call _ (by simp) (order_ints _ _ _ _ _))); clear hK K) | ((with_reducible refine (if_neg ?_).mpr (hK _ ?_)); (decide); clear hK K) | (split <;> (with_reducible refine hK _ ?_; clear hK K))))
                      all_goals ((with_reducible refine wpQuiet_nil ?_); clear hext; intro w1 hx1; have hb1 := ext_below hx1; clear hx1)
                      go_wp2
                      go_ret
                      exact ⟨ret_int (HT3i.out HBD2.out).symm, Below.step' HB3.out hb1⟩
                  · have hd : decide ((0 : Int) < (i : Int)) = false := by simp; omega
                    have hd2 : decide (0 < i) = false := by simp; omega
                    have hbd := HBD.out
                    rw [hd2] at hbd
                    have HBD2 := hid hbd
                    clear hbd HBD HBAD hd2 hp
                    go_wp2
                    refine region_ext (by kernel_rfl) (by kernel_rfl) (fun hext => ?_)
                    repeat (any_goals ((with_reducible refine wpQuiet_step (fun K hK => ?_)); go_simp; first | (with_reducible refine hK _ ?_; clear hK K) | ((with_reducible apply Exists.intro); (with_reducible refine ⟨fun _ => ?_, hK _ ?_⟩); ((go_at_call 27; exact ext_call _ (by simp) (order_ints _ _ _ _ _))); clear hK K) | ((with_reducible refine (if_neg ?_).mpr (hK _ ?_)); (decide); clear hK K) | (split <;> (with_reducible refine hK _ ?_; clear hK K))))
                    all_goals ((with_reducible refine wpQuiet_nil ?_); clear hext; intro w1 hx1; have hb1 := ext_below hx1; clear hx1)
                    go_wp2
                    go_roundw
                    case rel =>
                      refine ⟨i + 1, by omega, by go_num, fun j hj => ?_, Below.step' HB13.out hb1⟩
                      by_cases e : j = i
                      · subst e; exact HBD2.out
                      · exact HN.out j (by omega)
                    case measure => simp [intOf]; omega
        · have HR := hid (HT4.out trivial (by simpa using h4) (fun j hj => HN.out j (by omega)))
          go_wp2
          go_ret
          exact ⟨ret_int HR.out.symm, HB.out⟩
end Go.Proofs.YtmcdaibdpeeefaaGreat
/- Meets of contexts: what all have. No program in sight. -/
namespace Go.Proofs.YtmcdaibdpeeefaaGreat
set_option linter.unusedVariables false

/-- What is wrong with the first one that is wrong. -/
def badL : List Ctx → Int
  | [] => 0
  | c :: L => if checkI c ≠ 0 then checkI c else badL L
def minC (m x : Ctx) : Ctx := ⟨min m.c0 x.c0, min m.c1 x.c1, min m.c2 x.c2, min m.c3 x.c3, m.cloud⟩
def minL (L : List Ctx) : Ctx := L.foldl minC { L.headD ⟨0, 0, 0, 0, []⟩ with cloud := [] }
def allB (L : List Ctx) (d : Int × Int) : Bool := L.all (fun c => hasB c d)
def cloudOf (L : List Ctx) (x : Ctx) : List (Int × Int) := x.cloud.filter (allB L)
def cloudAll (L : List Ctx) : List (Int × Int) := L.flatMap (cloudOf L)
def meetC (L : List Ctx) : Ctx := packL (minL L).c0 (minL L).c1 (minL L).c2 (minL L).c3 (cloudAll L)
def meetX (L : List Ctx) : Ctx := if L = [] ∨ badL L ≠ 0 ∨ 400 < (meetC L).cloud.length then ⟨0, 0, 0, 0, []⟩ else meetC L
def meetE (L : List Ctx) : Int := if L = [] then 1 else if badL L ≠ 0 then badL L else if 400 < (meetC L).cloud.length then 2 else 0

theorem badL_zero {L : List Ctx} : badL L = 0 ↔ ∀ c ∈ L, checkI c = 0 := by
  induction L with
  | nil => simp [badL]
  | cons c L ih =>
    unfold badL
    split
    · rename_i h
      constructor
      · intro e; exact absurd e h
      · intro e; exact absurd (e c (by simp)) h
    · rename_i h
      have h : checkI c = 0 := by simpa using h
      rw [ih]
      simp [h]
theorem badL_take {L : List Ctx} {i : Nat} (h : i < L.length) (h0 : ∀ c ∈ L.take i, checkI c = 0) (h1 : checkI L[i] ≠ 0) : badL L = checkI L[i] := by
  induction L generalizing i with
  | nil => simp at h
  | cons c L ih =>
    cases i with
    | zero => unfold badL; simp at h1; simp [h1]
    | succ i =>
      have h2 : checkI c = 0 := h0 c (by simp)
      unfold badL
      rw [if_neg (by simp [h2])]
      simp only [List.getElem_cons_succ] at h1 ⊢
      exact ih (by simpa using h) (fun x hx => h0 x (by simp [hx])) h1

theorem at_minC (m x : Ctx) (n : Int) : (minC m x).at_ n = min (m.at_ n) (x.at_ n) := by
  unfold minC Ctx.at_
  simp only
  split
  · rfl
  · split
    · rfl
    · split <;> rfl
theorem minL_fold (n : Int) : ∀ (L : List Ctx) (m : Ctx), (L.foldl minC m).at_ n ≤ m.at_ n ∧ (∀ c ∈ L, (L.foldl minC m).at_ n ≤ c.at_ n) ∧ ((L.foldl minC m).at_ n = m.at_ n ∨ ∃ c ∈ L, (L.foldl minC m).at_ n = c.at_ n)
  | [], m => by simp
  | c :: L, m => by
    obtain ⟨h1, h2, h3⟩ := minL_fold n L (minC m c)
    rw [List.foldl_cons]
    rw [at_minC] at h1 h3
    refine ⟨by omega, ?_, ?_⟩
    · intro x hx
      rcases List.mem_cons.1 hx with rfl | hx
      · omega
      · exact h2 x hx
    · rcases h3 with h3 | ⟨x, hx, h3⟩
      · by_cases h4 : m.at_ n ≤ c.at_ n
        · left; omega
        · right; exact ⟨c, by simp, by omega⟩
      · right; exact ⟨x, by simp [hx], h3⟩
theorem minL_at {L : List Ctx} (hL : L ≠ []) (n : Int) : (∀ c ∈ L, (minL L).at_ n ≤ c.at_ n) ∧ ∃ c ∈ L, (minL L).at_ n = c.at_ n := by
  obtain ⟨h1, h2, h3⟩ := minL_fold n L { L.headD ⟨0, 0, 0, 0, []⟩ with cloud := [] }
  refine ⟨h2, ?_⟩
  rcases h3 with h3 | h3
  · cases L with
    | nil => exact absurd rfl hL
    | cons c L => exact ⟨c, by simp, h3⟩
  · exact h3
theorem minL_cloud (L : List Ctx) : (minL L).cloud = [] := by
  unfold minL
  have h : ∀ (L : List Ctx) (m : Ctx), (L.foldl minC m).cloud = m.cloud := by
    intro L
    induction L with
    | nil => simp
    | cons c L ih => intro m; rw [List.foldl_cons, ih]; rfl
  rw [h]
theorem minL_eta (L : List Ctx) : minL L = ⟨(minL L).c0, (minL L).c1, (minL L).c2, (minL L).c3, []⟩ := by
  have h := minL_cloud L
  generalize minL L = m at *
  obtain ⟨a, b, c, d, e⟩ := m
  simp only at h
  rw [h]
theorem minL_in {L : List Ctx} (hL : L ≠ []) (h : ∀ c ∈ L, clkIn c) : clkIn (minL L) := by
  have hb : ∀ n, 0 ≤ (minL L).at_ n ∧ (minL L).at_ n ≤ 1099511627776 := by
    intro n
    obtain ⟨-, c, hc, e⟩ := minL_at hL n
    rw [e]
    exact at_in (h c hc) n
  have h0 := hb 0
  have h1 := hb 1
  have h2 := hb 2
  have h3 := hb 3
  simp [Ctx.at_] at h0 h1 h2 h3
  exact ⟨h0, h1, h2, h3⟩
theorem allB_iff {L : List Ctx} {d : Int × Int} : allB L d = true ↔ ∀ c ∈ L, hasB c d = true := by simp [allB]
theorem cloudAll_mem {L : List Ctx} {d : Int × Int} : d ∈ cloudAll L ↔ (∃ c ∈ L, d ∈ c.cloud) ∧ allB L d = true := by
  unfold cloudAll cloudOf
  simp only [List.mem_flatMap, List.mem_filter]
  constructor
  · rintro ⟨c, h1, h2, h3⟩; exact ⟨⟨c, h1, h2⟩, h3⟩
  · rintro ⟨⟨c, h1, h2⟩, h3⟩; exact ⟨c, h1, h2, h3⟩
/-- Whatever list has the dots of the clouds that all have: packed, it is what all have. -/
theorem meet_pack {L : List Ctx} (hL : L ≠ []) (hok : ∀ c ∈ L, okC c) {D : List (Int × Int)} (hD : ∀ d, d ∈ D ↔ d ∈ cloudAll L) :
    okC (packL (minL L).c0 (minL L).c1 (minL L).c2 (minL L).c3 D) ∧ ∀ d, hasB (packL (minL L).c0 (minL L).c1 (minL L).c2 (minL L).c3 D) d = true ↔ ∀ c ∈ L, hasB c d = true := by
  have hin := minL_in hL (fun c hc => (hok c hc).1)
  rw [minL_eta] at hin
  obtain ⟨h1, h2⟩ := pack_ok (l := D) hin (fun d hd => by
    obtain ⟨⟨c, hc, h⟩, -⟩ := cloudAll_mem.1 ((hD d).1 hd)
    exact ((hok c hc).2.1 d h).1)
  refine ⟨h1, fun d => ?_⟩
  rw [h2, ← minL_eta, hD, cloudAll_mem, allB_iff]
  constructor
  · rintro (h | ⟨-, h⟩)
    · intro c hc
      rcases hasB_iff.1 h with ⟨a1, a2, a3, a4⟩ | h
      · exact hasB_iff.2 (.inl ⟨a1, a2, a3, Int.le_trans a4 ((minL_at hL d.1).1 c hc)⟩)
      · rw [minL_cloud] at h; simp at h
    · exact h
  · intro h
    obtain ⟨hle, c, hc, e⟩ := minL_at hL d.1
    rcases hasB_iff.1 (h c hc) with ⟨a1, a2, a3, a4⟩ | h'
    · exact .inl (hasB_iff.2 (.inl ⟨a1, a2, a3, by rw [e]; exact a4⟩))
    · exact .inr ⟨⟨c, hc, h'⟩, h⟩
theorem meet_ok {L : List Ctx} (hL : L ≠ []) (hok : ∀ c ∈ L, okC c) : okC (meetC L) ∧ ∀ d, hasB (meetC L) d = true ↔ ∀ c ∈ L, hasB c d = true := meet_pack hL hok (fun d => Iff.rfl)
theorem meet_same {L : List Ctx} (hL : L ≠ []) (hok : ∀ c ∈ L, okC c) {D : List (Int × Int)} (hD : ∀ d, d ∈ D ↔ d ∈ cloudAll L) :
    packL (minL L).c0 (minL L).c1 (minL L).c2 (minL L).c3 D = meetC L := by
  obtain ⟨h1, h2⟩ := meet_pack hL hok hD
  obtain ⟨h3, h4⟩ := meet_ok hL hok
  exact okC_ext h1 h3 fun d => by rw [Bool.eq_iff_iff, h2, h4]

/-- Once each. -/
def addD (D : List (Int × Int)) (d : Int × Int) : List (Int × Int) := if d ∈ D then D else D ++ [d]
def onceD (l : List (Int × Int)) : List (Int × Int) := l.foldl addD []
theorem addD_mem {D : List (Int × Int)} {d x : Int × Int} : x ∈ addD D d ↔ x ∈ D ∨ x = d := by
  unfold addD
  split
  · rename_i h
    constructor
    · exact .inl
    · rintro (h1 | rfl)
      · exact h1
      · exact h
  · simp
theorem addD_nodup {D : List (Int × Int)} {d : Int × Int} (h : D.Nodup) : (addD D d).Nodup := by
  unfold addD
  split
  · exact h
  · rename_i h1
    rw [List.nodup_append]
    refine ⟨h, by simp, ?_⟩
    intro a ha b hb
    simp only [List.mem_singleton] at hb
    subst hb
    rintro rfl
    exact h1 ha
theorem fold_addD : ∀ (l D : List (Int × Int)), D.Nodup → (l.foldl addD D).Nodup ∧ ∀ x, x ∈ l.foldl addD D ↔ x ∈ D ∨ x ∈ l
  | [], D, h => ⟨h, fun x => by simp⟩
  | d :: l, D, h => by
    obtain ⟨h1, h2⟩ := fold_addD l (addD D d) (addD_nodup h)
    refine ⟨h1, fun x => ?_⟩
    rw [List.foldl_cons, h2, addD_mem]
    simp [or_assoc]
theorem onceD_ok (l : List (Int × Int)) : (onceD l).Nodup ∧ ∀ x, x ∈ onceD l ↔ x ∈ l := by
  obtain ⟨h1, h2⟩ := fold_addD l [] (by simp)
  exact ⟨h1, fun x => by rw [onceD, h2]; simp⟩
theorem addD_len (D : List (Int × Int)) (d : Int × Int) : D.length ≤ (addD D d).length := by unfold addD; split <;> simp
/-- What all have beyond their clocks, each once, lies in the clouds of four. -/
theorem once_len {L : List Ctx} (hL : L ≠ []) (hok : ∀ c ∈ L, okC c) (h4 : ∀ c ∈ L, c.cloud.length ≤ 400) {D : List (Int × Int)} (hn : D.Nodup) (hD : ∀ d ∈ D, d ∈ cloudAll L) : D.length ≤ 1600 := by
  obtain ⟨-, x0, hx0, e0⟩ := minL_at hL 0
  obtain ⟨-, x1, hx1, e1⟩ := minL_at hL 1
  obtain ⟨-, x2, hx2, e2⟩ := minL_at hL 2
  obtain ⟨-, x3, hx3, e3⟩ := minL_at hL 3
  have hsub : D ⊆ x0.cloud ++ (x1.cloud ++ (x2.cloud ++ x3.cloud)) := by
    intro d hd
    obtain ⟨⟨c, hc, hdc⟩, ha⟩ := cloudAll_mem.1 (hD d hd)
    rw [allB_iff] at ha
    obtain ⟨hr, hs⟩ := (hok c hc).2.1 d hdc
    have hr := right_iff.1 hr
    have hm := (minL_at hL d.1).1 c hc
    have key : ∀ x ∈ L, (minL L).at_ d.1 = x.at_ d.1 → d ∈ x.cloud := by
      intro x hx e
      rcases hasB_iff.1 (ha x hx) with ⟨-, -, -, h⟩ | h
      · omega
      · exact h
    rcases (by omega : d.1 = 0 ∨ d.1 = 1 ∨ d.1 = 2 ∨ d.1 = 3) with h | h | h | h
    · have := key x0 hx0 (by rw [h]; exact e0); simp [this]
    · have := key x1 hx1 (by rw [h]; exact e1); simp [this]
    · have := key x2 hx2 (by rw [h]; exact e2); simp [this]
    · have := key x3 hx3 (by rw [h]; exact e3); simp [this]
  have h := hn.length_le_of_subset hsub
  simp only [List.length_append] at h
  have := h4 x0 hx0
  have := h4 x1 hx1
  have := h4 x2 hx2
  have := h4 x3 hx3
  omega
theorem cloudAll_len {L : List Ctx} {n : Nat} (h4 : ∀ c ∈ L, c.cloud.length ≤ 400) : (cloudAll L).length ≤ 400 * L.length := by
  have h : ∀ (M : List Ctx), (∀ c ∈ M, c.cloud.length ≤ 400) → (M.flatMap (cloudOf L)).length ≤ 400 * M.length := by
    intro M
    induction M with
    | nil => simp
    | cons c M ih =>
      intro hM
      have h1 := ih (fun x hx => hM x (by simp [hx]))
      have h2 := hM c (by simp)
      have h3 : (cloudOf L c).length ≤ c.cloud.length := List.length_filter_le _ _
      simp only [List.flatMap_cons, List.length_append, List.length_cons]
      omega
  exact h L h4
theorem meetC_len {L : List Ctx} (hL : L ≠ []) (hok : ∀ c ∈ L, okC c) (h4 : ∀ c ∈ L, c.cloud.length ≤ 400) : (meetC L).cloud.length ≤ 1600 := by
  rw [← meet_same hL hok (onceD_ok (cloudAll L)).2]
  exact Nat.le_trans pack_length (once_len hL hok h4 (onceD_ok _).1 (fun d hd => ((onceD_ok _).2 d).1 hd))
end Go.Proofs.YtmcdaibdpeeefaaGreat
/- slices.IndexFunc, ContainsFunc at Context; stable.all and its predicate. -/
namespace Go.Proofs.YtmcdaibdpeeefaaGreat
set_option linter.unusedVariables false
open Go.ChangeShapes Go.WideShapes Go.ChangeAt Go.RowKit

def PredC (g : Nat) (caps : Array Value) (p : Ctx → Bool) (L : List CR) (w : World) : Prop :=
  ∀ w', Below w.heap.size w w' → ∀ x ∈ L, Calls Tryz.prog g (#[cval x.c x.A x.k] ++ caps) w' fun e w'' => e = .returned (.bool (p x.c)) ∧ Below w'.heap.size w' w''

theorem not_anyC (L : List Ctx) (f : Ctx → Bool) : (!L.any (fun d => !f d)) = L.all f := by
  induction L with
  | nil => rfl
  | cons x l ih => simp only [List.any_cons, List.all_cons, ← ih]; cases f x <;> simp

end Go.Proofs.YtmcdaibdpeeefaaGreat
/- stable.Meet: no context, a wrong one. -/
namespace Go.Proofs.YtmcdaibdpeeefaaGreat
set_option linter.unusedVariables false
open Go.ChangeShapes Go.WideShapes Go.ChangeAt Go.RowKit

theorem gb_below {w0 w w' : World} {row : Option Nat} (h : w0.grownBy w row) (hb : Below w.heap.size w w') : w0.grownBy w' row :=
  grown_trans h ⟨hb.os, hb.tape, hb.output, hb.size, fun k hk _ => hb.block k hk⟩
theorem gb_set {w0 w : World} {P : Nat} (h : w0.grownBy w (some P)) (i : Nat) (v : Value) : w0.grownBy (w.setCell ⟨P, i, none⟩ v) (some P) :=
  grown_trans h ⟨rfl, rfl, rfl, by simp, fun k hk hne => Below.heap_setCell w ⟨P, i, none⟩ v k (by intro e; exact hne (by rw [e]))⟩
theorem gb_own {w0 w w' : World} {P : Nat} {row : Option Nat} (h : w0.grownBy w (some P)) (hg : w.grownBy w' row) (hr : ∀ g, row = some g → w0.heap.size ≤ g) : w0.grownBy w' (some P) :=
  ⟨hg.os.trans h.os, hg.tape.trans h.tape, hg.output.trans h.output, Nat.le_trans h.size hg.size, fun k hk hne => (hg.block k (Nat.lt_of_lt_of_le hk h.size) (fun e => by have := hr k e.symm; omega)).trans (h.block k hk hne)⟩
theorem gb_to {w0 w' : World} {P B : Nat} (h : w0.grownBy w' (some P)) (hB : B ≤ P) (hB2 : B ≤ w0.heap.size) : Below B w0 w' :=
  ⟨h.os, h.tape, h.output, h.size, fun k hk => h.block k (by omega) (by intro e; injection e with e; omega)⟩
theorem gb_blk {w0 w' : World} {P b : Nat} {cs : Array Value} {T : TypeId} (h : w0.grownBy w' (some P)) (hx : Blk w0 b cs T) (hne : b ≠ P) : Blk w' b cs T :=
  hx.grown h (by intro e; injection e with e; exact hne e)

theorem ctxs_get (L : List CR) (i : Nat) (h : i < L.length) : (CR.ctxs L)[i]'(by simpa using h) = L[i].c := by simp

end Go.Proofs.YtmcdaibdpeeefaaGreat
/- Owned rows of whatever size; words for a list of cells that a call makes. No program in sight. -/
namespace Go.Proofs.YtmcdaibdpeeefaaGreat
set_option linter.unusedVariables false
open Go.RowKit

/-- A list of cells, each of a row of its own make, and an error. -/
def CelsErr (l : List Cel) (x : Int) (w : World) (e : Ending) (w' : World) : Prop :=
  ∃ v, e = .returned (.tuple #[v, .int .i64 x]) ∧ w'.ownsRow w.heap.size 59 5 v l.length (tcells l) ∧ Below w.heap.size w w'
theorem info_cel : (Tryz.prog.info? 59).map (fun i => (i.zero, i.size, i.bytes)) = some (some (.agg #[.int .i64 0, .int .i64 0, .int .i64 0, .int .i64 0, .int .i64 0]), 5, 40) := by kernel_rfl
theorem newsT (w : World) (x : Cel) (T : TypeId) (H : Nat) (hH : w.heap.size = H) : ∀ j u, (tcells [x])[j]? = some u → (w.alloc (.cells #[.int .i64 x.d.1, .int .i64 x.d.2, .int .i64 x.key, .int .i64 x.col, .int .i64 x.val] T)).cell? ((⟨H, 0, none⟩ : Addr).add j) = some u := by
  intro j u hu
  subst hH
  rw [add_none, Nat.zero_add, cell_of_row _ _ j _ _ _ (heap_alloc_new w _)]
  simpa using hu
theorem tcells_snoc (l : List Cel) (x : Cel) : tcells (l ++ [x]) = tcells l ++ tcells [x] := by simp [tcells]
end Go.Proofs.YtmcdaibdpeeefaaGreat
/-
  DERIVED: THE SHELF's CONTRACTS AT THIS DUMP, IN PLAIN WORDS (tools/lay-plain.mjs out of 'YtmcdaibdpeeefaaGreatShelfI.lean', which tools/lay-shelf.mjs wrote): THE SAME DECLARATIONS UNDER THE SAME NAMES: 'import', 'namespace', 'open', 'def', 'theorem' AND NOTHING ELSE: no command of the shelf's: FOR A HAND-IN. Each laying: the table of numbers ('.._ren') and one theorem, a field a fact of the dump's own or the kernel's comparison; each contract: ONE APPLICATION.
-/
namespace Go.Proofs
open Go.Shelf
def Tryz.lays189_ren : Go.Shelf.Ren := ⟨fun | 189 => 20 | 125 => 44 | 257 => 43 | 128 => 66 | 129 => 67 | 294 => 57 | 295 => 58 | 296 => 59 | 297 => 60 | 298 => 61 | 299 => 62 | 216 => 63 | 300 => 64 | 301 => 65 | 328 => 82 | 329 => 83 | 330 => 84 | 331 => 85 | 332 => 86 | 215 => 72 | 343 => 91 | n => n, fun | 28 => 38 | 3 => 3 | 46 => 82 | 0 => 0 | 51 => 105 | 53 => 107 | 4 => 4 | 183 => 98 | 182 => 97 | 131 => 102 | 5 => 5 | 9 => 9 | 218 => 117 | 222 => 121 | 228 => 126 | 229 => 127 | n => n, fun | n => n⟩
theorem Tryz.lays189 : Go.Proofs.Lays.n189 Tryz.prog Tryz.lays189_ren := {
  mixed := by kernel_rfl
  f125 := Tryz.func44.trans (congrArg some (by kernel_rfl))
  f128 := Tryz.func66.trans (congrArg some (by kernel_rfl))
  f129 := Tryz.func67.trans (congrArg some (by kernel_rfl))
  f189 := Tryz.func20.trans (congrArg some (by kernel_rfl))
  f215 := Tryz.func72.trans (congrArg some (by kernel_rfl))
  f216 := Tryz.func63.trans (congrArg some (by kernel_rfl))
  f257 := Tryz.func43.trans (congrArg some (by kernel_rfl))
  f294 := Tryz.func57.trans (congrArg some (by kernel_rfl))
  f295 := Tryz.func58.trans (congrArg some (by kernel_rfl))
  f296 := Tryz.func59.trans (congrArg some (by kernel_rfl))
  f297 := Tryz.func60.trans (congrArg some (by kernel_rfl))
  f298 := Tryz.func61.trans (congrArg some (by kernel_rfl))
  f299 := Tryz.func62.trans (congrArg some (by kernel_rfl))
  f300 := Tryz.func64.trans (congrArg some (by kernel_rfl))
  f301 := Tryz.func65.trans (congrArg some (by kernel_rfl))
  f328 := Tryz.func82.trans (congrArg some (by kernel_rfl))
  f329 := Tryz.func83.trans (congrArg some (by kernel_rfl))
  f330 := Tryz.func84.trans (congrArg some (by kernel_rfl))
  f331 := Tryz.func85.trans (congrArg some (by kernel_rfl))
  f332 := Tryz.func86.trans (congrArg some (by kernel_rfl))
  f343 := Tryz.func91.trans (congrArg some (by kernel_rfl))
  t0 := Tryz.underlying0
  a0 := Tryz.isAgg0
  z0 := Tryz.sizeOf0
  v0 := Tryz.zeroValue0
  t3 := Tryz.underlying3
  a3 := Tryz.isAgg3
  z3 := Tryz.sizeOf3
  v3 := Tryz.zeroValue3
  t4 := Tryz.underlying4
  a4 := Tryz.isAgg4
  z4 := Tryz.sizeOf4
  v4 := Tryz.zeroValue4
  t5 := Tryz.underlying5
  a5 := Tryz.isAgg5
  z5 := Tryz.sizeOf5
  v5 := Tryz.zeroValue5
  t9 := Tryz.underlying9
  a9 := Tryz.isAgg9
  z9 := Tryz.sizeOf9
  v9 := Tryz.zeroValue9
  t28 := Tryz.underlying38
  a28 := Tryz.isAgg38
  z28 := Tryz.sizeOf38
  v28 := Tryz.zeroValue38
  t46 := Tryz.underlying82
  a46 := Tryz.isAgg82
  z46 := Tryz.sizeOf82
  v46 := Tryz.zeroValue82
  t51 := Tryz.underlying105
  a51 := Tryz.isAgg105
  z51 := Tryz.sizeOf105
  v51 := Tryz.zeroValue105
  t53 := Tryz.underlying107
  a53 := Tryz.isAgg107
  z53 := Tryz.sizeOf107
  v53 := Tryz.zeroValue107
  t131 := Tryz.underlying102
  a131 := Tryz.isAgg102
  z131 := Tryz.sizeOf102
  v131 := Tryz.zeroValue102
  t182 := Tryz.underlying97
  a182 := Tryz.isAgg97
  z182 := Tryz.sizeOf97
  v182 := Tryz.zeroValue97
  t183 := Tryz.underlying98
  a183 := Tryz.isAgg98
  z183 := Tryz.sizeOf98
  v183 := Tryz.zeroValue98
  t218 := Tryz.underlying117
  a218 := Tryz.isAgg117
  z218 := Tryz.sizeOf117
  v218 := Tryz.zeroValue117
  t222 := Tryz.underlying121
  a222 := Tryz.isAgg121
  z222 := Tryz.sizeOf121
  v222 := Tryz.zeroValue121
  t228 := Tryz.underlying126
  a228 := Tryz.isAgg126
  z228 := Tryz.sizeOf126
  v228 := Tryz.zeroValue126
  t229 := Tryz.underlying127
  a229 := Tryz.isAgg127
  z229 := Tryz.sizeOf127
  v229 := Tryz.zeroValue127 }
open Go.Sort Go.RowKit in
theorem Tryz.slices_Sort_int (blk off cap : Nat) (zs : List Int) (w : World) (hH : Holds (Value.int .i64) w blk off zs.toArray) (hblk : blk < w.heap.size) (hsz : zs.length < 4611686018427387904) :
    Calls Tryz.prog 20 #[.slice (some ⟨blk, off, none⟩) zs.length cap] w fun e w' =>
      e = .returned (.tuple #[]) ∧ ∃ n os, w' = grow (putRow (Value.int .i64) (Sort.ahead w n) blk off (zs.mergeSort fun x y => decide (x ≤ y)).toArray) os := Any.slices_Sort_int Tryz.lays189 blk off cap zs w hH hblk hsz
def Tryz.laysNm220_ren : Go.Shelf.Ren := ⟨fun | 20 => 21 | n => n, fun | 22 => 38 | 3 => 3 | 4 => 4 | 0 => 0 | n => n, fun | n => n⟩
theorem Tryz.laysNm220 : Go.Proofs.Lays2.n20 Tryz.prog Tryz.laysNm220_ren := {
  mixed := by kernel_rfl
  f20 := Tryz.func21.trans (congrArg some (by kernel_rfl))
  t0 := Tryz.underlying0
  a0 := Tryz.isAgg0
  z0 := Tryz.sizeOf0
  v0 := Tryz.zeroValue0
  t3 := Tryz.underlying3
  a3 := Tryz.isAgg3
  z3 := Tryz.sizeOf3
  v3 := Tryz.zeroValue3
  t4 := Tryz.underlying4
  a4 := Tryz.isAgg4
  z4 := Tryz.sizeOf4
  v4 := Tryz.zeroValue4
  t22 := Tryz.underlying38
  a22 := Tryz.isAgg38
  z22 := Tryz.sizeOf38
  v22 := Tryz.zeroValue38
  i3 := by kernel_rfl }
open Go.RowKit Go.Lib Go.Sort in
/-- slices.Compact at []int, over an array: the library's two loops are walked. (LAID: no walk: one application.) -/
theorem Tryz.slices_Compact_int_arr (blk off cap : Nat) (d : Array Int) (w : World) (hH : Holds encI w blk off d) (hsz : d.size ≤ 9223372036854775807) (hcap : d.size ≤ cap) :
    Calls Tryz.prog 21 #[.slice (some ⟨blk, off, none⟩) d.size cap] w fun e w' => e = .returned (.slice (some ⟨blk, off, none⟩) (compactUpTo d d.size).length cap) ∧ ∃ q, w' = putRow encI (Sort.ahead w q) blk off (compactUpTo d d.size ++ List.replicate (d.size - (compactUpTo d d.size).length) 0).toArray := Any.slices_Compact_int_arr Tryz.laysNm220 blk off cap d w hH hsz hcap
open Go.RowKit Go.Lib Go.Sort in
/-- slices.Compact at []int: "Compact replaces consecutive runs of equal elements with a single copy. This is like the uniq command found on Unix. Compact modifies the contents of the slice s and returns the modified slice, which may have a smaller length. Compact zeroes the elements between the new length and the original length. The result preserves the nilness of s.": IT RETURNS THE SLICE CUT TO 'Lib.compact zs'; ITS CELLS HOLD 'Lib.compact zs', THEN ZERO VALUES up to the old length; all else is as it was, but for the count of draws. IN THE WORDS OF slices.Sort's CONTRACT ('Holds', 'putRow'): so the everyday 'slices.Sort(xs); xs = slices.Compact(xs)' goes from the one contract to the other. It asks 'zs.length ≤ cap' (every slice's: the reslicing 's[:k]' looks at it). Length 0, nil: '.._empty'. (LAID: no walk: one application.) -/
theorem Tryz.slices_Compact_int (blk off cap : Nat) (zs : List Int) (w : World) (hH : Holds (Value.int .i64) w blk off zs.toArray) (hsz : zs.length ≤ 9223372036854775807) (hcap : zs.length ≤ cap) :
    Calls Tryz.prog 21 #[.slice (some ⟨blk, off, none⟩) zs.length cap] w fun e w' => e = .returned (.slice (some ⟨blk, off, none⟩) (Lib.compact zs).length cap) ∧ ∃ q, w' = putRow (Value.int .i64) (Sort.ahead w q) blk off (Lib.compact zs ++ List.replicate (zs.length - (Lib.compact zs).length) 0).toArray := Any.slices_Compact_int Tryz.laysNm220 blk off cap zs w hH hsz hcap
open Go.RowKit Go.Lib Go.Sort in
/-- The same at a slice of length 0, a nil one too: it comes back as it is. (LAID: no walk: one application.) -/
theorem Tryz.slices_Compact_int_empty (a : Option Addr) (cap : Nat) (w : World) :
    Calls Tryz.prog 21 #[.slice a 0 cap] w fun e w' => e = .returned (.slice a 0 cap) ∧ w' = w := Any.slices_Compact_int_empty Tryz.laysNm220 a cap w
open Go.RowKit Go.Sort in
/-- .. and plain. (LAID: no walk: one application.) -/
theorem Tryz.slices_Sort_int_none (p : Option Addr) (cap : Nat) (w : World) :
    Calls Tryz.prog 20 #[.slice p 0 cap] w fun e w' => e = .returned (.tuple #[]) ∧ w' = w := Any.slices_Sort_int_none Tryz.lays189 p cap w
end Go.Proofs
