/- Join, Joined, MeetA, Own, ShelfI -/
import Derived.Test.YtogegnikpjcpdaaTableSaysG07
import Derived.Test.YtogegnikpjcpdaaTableSaysG06
import Derived.Shelf.Sort.Plain
import Derived.Shelf.Slices.CompactI
import Derived.Shelf.Slices.In.SortNone
import Derived.Test.YtogegnikpjcpdaaRows
/- dot.Join, viewref.Joined. -/
namespace Go.Proofs.Ytogegnikpjcpdaa
set_option linter.unusedVariables false
open Go.ChangeShapes Go.WideShapes Go.ChangeAt Go.RowKit

def joinX (a b : Ctx) : Ctx := if twoI a b ≠ 0 then ⟨0, 0, 0, 0, []⟩ else if 400 < (joinC a b).cloud.length then ⟨0, 0, 0, 0, []⟩ else joinC a b
def joinE (a b : Ctx) : Int := if twoI a b ≠ 0 then twoI a b else if 400 < (joinC a b).cloud.length then 2 else 0

abbrev set5 (w : World) (b : Nat) (y0 y1 y2 y3 y4 : Value) : World := ((((w.setCell ⟨b, 0, none⟩ y0).setCell ⟨b, 1, none⟩ y1).setCell ⟨b, 2, none⟩ y2).setCell ⟨b, 3, none⟩ y3).setCell ⟨b, 4, none⟩ y4
theorem Blk.set5 {w : World} {b : Nat} {x0 x1 x2 x3 x4 : Value} {T : TypeId} (h : Blk w b #[x0, x1, x2, x3, x4] T) (y0 y1 y2 y3 y4 : Value) : Blk (set5 w b y0 y1 y2 y3 y4) b #[y0, y1, y2, y3, y4] T :=
  ((((h.set 0 y0).set 1 y1).set 2 y2).set 3 y3).set 4 y4
theorem Row.set5 {w : World} {b lo : Nat} {A : Option Addr} {xs : List Value} (h : Row w w.heap.size A xs) (hn : NewAt lo A) (hb : b < lo) (y0 y1 y2 y3 y4 : Value) : Row (set5 w b y0 y1 y2 y3 y4) (set5 w b y0 y1 y2 y3 y4).heap.size A xs :=
  (((((h.setCell_new hn (a := ⟨b, 0, none⟩) hb y0).setCell_new hn (a := ⟨b, 1, none⟩) hb y1).setCell_new hn (a := ⟨b, 2, none⟩) hb y2).setCell_new hn (a := ⟨b, 3, none⟩) hb y3).setCell_new hn (a := ⟨b, 4, none⟩) hb y4).more (by simp)
theorem Below.set5 {B : Nat} {a w : World} {b : Nat} (h : Below B a w) (hb : B ≤ b) (y0 y1 y2 y3 y4 : Value) : Below B a (set5 w b y0 y1 y2 y3 y4) :=
  ((((h.setCell (p := ⟨b, 0, none⟩) hb y0).setCell (p := ⟨b, 1, none⟩) hb y1).setCell (p := ⟨b, 2, none⟩) hb y2).setCell (p := ⟨b, 3, none⟩) hb y3).setCell (p := ⟨b, 4, none⟩) hb y4

theorem el_dot : Elem Try.prog 23 27 2 16 := by
  obtain ⟨i0, hi0, hz0, hz1, hz2⟩ := info_parts info_dot
  exact ⟨Try.underlying23, ⟨i0, _, hi0, hz0, hz1, hz2, rfl⟩, by decide⟩

set_option maxHeartbeats 4000000 in
set_option maxRecDepth 100000 in
theorem join_good (a b : Ctx) (A B : Option Addr) (k m : Nat) (w : World) (ra : Row w w.heap.size A (dcells a.cloud)) (la : a.cloud.length ≤ 400)
    (rb : Row w w.heap.size B (dcells b.cloud)) (lb : b.cloud.length ≤ 400) (ha : okC a) (hb : okC b) (h0 : twoI a b = 0) :
    Calls Try.prog 31 #[cval a A k, cval b B m] w (CtxErr (joinX a b) (joinE a b) w) := by
  have HBO := hid (fun w1 (hb : Below w.heap.size w w1) => both_any a b A B k m w1 (ra.step hb) (by omega) (rb.step hb) (by omega))
  rw [h0] at HBO
  have RA := hid ra
  have RB := hid rb
  obtain ⟨JX, hJX⟩ : ∃ JX, JX = joinX a b := ⟨_, rfl⟩
  obtain ⟨JE, hJE⟩ : ∃ JE, JE = joinE a b := ⟨_, rfl⟩
  rw [← hJX, ← hJE]
  have HJX := hid (show JX = if 400 < (joinC a b).cloud.length then ⟨0, 0, 0, 0, []⟩ else joinC a b by rw [hJX]; unfold joinX; rw [if_neg (by simp [h0])])
  have HJE := hid (show JE = if 400 < (joinC a b).cloud.length then 2 else 0 by rw [hJE]; unfold joinE; rw [if_neg (by simp [h0])])
  clear hJX hJE
  have HRT := hid (show ∀ d ∈ a.cloud ++ b.cloud, rightB d.1 d.2 = true from fun d hd => by
    rcases List.mem_append.1 hd with h | h
    · exact (ha.2.1 d h).1
    · exact (hb.2.1 d h).1)
  have HCK := hid (show clkIn ⟨max a.c0 b.c0, max a.c1 b.c1, max a.c2 b.c2, max a.c3 b.c3, []⟩ by
    have h1 := ha.1
    have h2 := hb.1
    unfold clkIn at *
    simp only
    omega)
  clear ra rb h0 ha hb
  obtain ⟨a0, a1, a2, a3, al⟩ := a
  obtain ⟨b0, b1, b2, b3, bl⟩ := b
  simp only [cval] at *
  have i0 := clk0 b0 b1 b2 b3
  have i1 := clk1 b0 b1 b2 b3
  have i2 := clk2 b0 b1 b2 b3
  have i3 := clk3 b0 b1 b2 b3
  go_enter Try.func31, Try.ntmps31
  go_wp2_with fail
  refine (HBO.out _ (by (repeat' (first | (with_reducible exact Below.refl _ _) | (with_reducible assumption) | (with_reducible refine below_drewN ?_ _) | (with_reducible refine Below.drew ?_) | (with_reducible refine Below.alloc ?_ ?_ _) | (with_reducible refine Below.setCell ?_ ?_ _) | (refine Below.trans ?_ (Below.mono (by assumption) ?_)) | go_size)))).mono ?_
  rintro e w1 ⟨rfl, hb1⟩
  have hB1 : Below w.heap.size w w1 := (by refine Below.step' ?_ hb1; (repeat' (first | (with_reducible exact Below.refl _ _) | (with_reducible assumption) | (with_reducible refine below_drewN ?_ _) | (with_reducible refine Below.drew ?_) | (with_reducible refine Below.alloc ?_ ?_ _) | (with_reducible refine Below.setCell ?_ ?_ _) | (refine Below.trans ?_ (Below.mono (by assumption) ?_)) | go_size)))
  have hXa : Blk w1 w.heap.size (cbox ⟨a0, a1, a2, a3, al⟩ A k) 25 := Blk.step (by exact ((Blk.new w _ _).alloc _).alloc _) hb1
  have hXb : Blk w1 (w.heap.size + 1) (cbox ⟨b0, b1, b2, b3, bl⟩ B m) 25 := Blk.step (by exact (Blk.new' (w.alloc _) _ _ (by simp)).alloc _) hb1
  have hXr : Blk w1 (w.heap.size + 1 + 1) #[.int .i64 0, .int .i64 0, .int .i64 0, .int .i64 0, .slice none 0 0] 25 := Blk.step (by exact Blk.new' ((w.alloc _).alloc _) _ _ (by simp)) hb1
  obtain ⟨ca, fa, sa, na⟩ := hXa.all
  obtain ⟨cb, fb, sb, nb⟩ := hXb.all
  obtain ⟨cr, fr, sr, nr⟩ := hXr.all
  simp only [cbox] at ca cb
  have HB1 := hid hB1
  have HXA := hid hXa
  have HXB := hid hXb
  have HXR := hid hXr
  clear hb1 hB1 hXa hXb hXr
  go_wp2
  go_rounds 5
  go_upto_region 10 with fail
  obtain ⟨P, hP⟩ : ∃ P, P = w1.heap.size := ⟨_, rfl⟩
  obtain ⟨W2, hW2⟩ : ∃ W2 : World, W2 = w1.alloc (.cells #[.int .i64 (max a0 b0), .int .i64 (max a1 b1), .int .i64 (max a2 b2), .int .i64 (max a3 b3)] 22) := ⟨_, rfl⟩
  rw [← hW2, ← hP]
  have hB2 : Below w1.heap.size w1 W2 := by rw [hW2]; (repeat' (first | (with_reducible exact Below.refl _ _) | (with_reducible assumption) | (with_reducible refine below_drewN ?_ _) | (with_reducible refine Below.drew ?_) | (with_reducible refine Below.alloc ?_ ?_ _) | (with_reducible refine Below.setCell ?_ ?_ _) | (refine Below.trans ?_ (Below.mono (by assumption) ?_)) | go_size))
  have hXp : Blk W2 P #[.int .i64 (max a0 b0), .int .i64 (max a1 b1), .int .i64 (max a2 b2), .int .i64 (max a3 b3)] 22 := by rw [hW2, hP]; exact Blk.new _ _ _
  have hXa := HXA.out.step hB2
  have hXb := HXB.out.step hB2
  have hXr := HXR.out.step hB2
  have hBW := Below.step' HB1.out hB2
  have ra2 := RA.out.step hBW
  have rb2 := RB.out.step hBW
  have hsz := hBW.size
  clear ca fa sa na cb fb sb nb cr fr sr nr i0 i1 i2 i3 hW2 hP hB2
  have HCL := hid (fun w1 (hb : Below W2.heap.size W2 w1) => clone_any al A k w1 (ra2.step hb) (by omega))
  have HBL := hid (fun w1 (hb : Below W2.heap.size W2 w1) => rb2.step hb)
  obtain ⟨ca, fa, sa, na⟩ := hXa.all
  obtain ⟨cb, fb, sb, nb⟩ := hXb.all
  obtain ⟨cp, fp, sp, np⟩ := hXp.all
  simp only [cbox] at ca cb
  have HXA2 := hid hXa
  have HXB2 := hid hXb
  have HXR2 := hid hXr
  have HXP2 := hid hXp
  have HBW := hid hBW
  clear hXa hXb hXr hXp hBW ra2 rb2 HXA HXB HXR HB1
  have hlr : ∀ d ∈ al ++ bl, rightB d.1 d.2 = true := HRT.out
  have hlen : al.length + bl.length = (al ++ bl).length := by simp
  have hdc : dcells al ++ dcells bl = dcells (al ++ bl) := by simp [dcells]
  have hl8 : (al ++ bl).length ≤ 800 := by omega
  obtain ⟨c, hc⟩ : ∃ c, c = packL (max a0 b0) (max a1 b1) (max a2 b2) (max a3 b3) (al ++ bl) := ⟨_, rfl⟩
  have HPK := hid (fun w1 A6 c6 (hr : Row w1 w1.heap.size A6 (dcells (al ++ bl))) => packed_any (max a0 b0) (max a1 b1) (max a2 b2) (max a3 b3) (al ++ bl) A6 c6 w1 hr (by omega) HCK.out hlr)
  rw [← hc] at HPK
  have hjc : joinC ⟨a0, a1, a2, a3, al⟩ ⟨b0, b1, b2, b3, bl⟩ = c := hc.symm
  rw [hjc] at HJX HJE
  clear hjc
  have HC := hid hc
  have HLEN := hid hlen
  have HDC := hid hdc
  generalize al ++ bl = l at *
  clear hlr hlen hdc hc
  have hszw := HBW.out.size
  go_cut [10] from 34 to 41 (fun s10 wx => ∃ X A' kk, s10 = .pointer (some ⟨X, 0, none⟩) ∧ Blk wx X (cbox c A' kk) 25 ∧ Row wx wx.heap.size A' (dcells c.cloud) ∧ NewAt W2.heap.size A' ∧ Below W2.heap.size W2 wx)
  case first =>
    have hlb : (dcells bl).length = bl.length * 2 := by rw [dcells_len]; omega
    have hmx : al.length + bl.length ≤ maxLen := by simp only [maxLen]; omega
    have hby2 : (al.length + bl.length) * 16 ≤ 140737488355328 := by omega
    go_region_held3 (fun w' => (∀ b o, b < W2.heap.size → w'.cell? ⟨b, o, none⟩ = W2.cell? ⟨b, o, none⟩) ∧ Below W2.heap.size W2 w')
      ((go_split_ands; refine keepS ?_; first | (with_reducible assumption) | (with_reducible exact (Below.refl _ _).drew) | (with_reducible exact (alloc_below (Below.refl _ _) _).drew) | (with_reducible refine alloc_below ?_ _; with_reducible assumption) | (with_reducible refine Below.drew (alloc_below ?_ _); with_reducible assumption) | (with_reducible refine Below.set5 ?_ ?_ _ _ _ _ _; with_reducible assumption; first | exact Nat.le_refl _ | (refine Below.size (B := W2.heap.size) (w := W2) ?_; with_reducible assumption))))
      (first
        | (go_split_ands; go_at_call 69; refine (HCL.out _ (by with_reducible assumption)).mono ?_; rintro e w5 ⟨v5, rfl, hown5, hb5⟩; have hB5 := Below.step' (by with_reducible assumption : Below W2.heap.size W2 _) hb5; (try have x5 := Blk.step (show Blk (World.drew (W2.alloc (.cells #[.int .i64 0, .int .i64 0, .int .i64 0, .int .i64 0, .slice none 0 0] 25))) W2.heap.size #[.int .i64 0, .int .i64 0, .int .i64 0, .int .i64 0, .slice none 0 0] 25 from Blk.new W2 #[.int .i64 0, .int .i64 0, .int .i64 0, .int .i64 0, .slice none 0 0] 25) hb5))
        | (go_split_ands; go_at_call 64; refine (HPK.out _ A6 c6 (Row.of_own hown6)).mono ?_; rintro e w9 ⟨A', kk, rfl, hrow9, hb9, hnew9⟩; have hB9 := Below.step' (by with_reducible assumption : Below W2.heap.size W2 _) hb9; (try have x9 := Blk.step x6 hb9); (try have x9 := Blk.step (Blk.new w6 #[.int .i64 0, .int .i64 0, .int .i64 0, .int .i64 0, .slice none 0 0] 25) hb9); (try obtain ⟨⟨cx0, cx1, cx2, cx3, cx4⟩, fx0, fx1, fx2, fx3, fx4⟩ := x9.five))
        | (go_split_ands; go_at_call 64; refine (HPK.out _ A6 c6 (Row.of_own (World.ownsRow.alloc hown6 _))).mono ?_; rintro e w9 ⟨A', kk, rfl, hrow9, hb9, hnew9⟩; have hB9 := Below.step' (by with_reducible assumption : Below W2.heap.size W2 _) hb9; (try have x9 := Blk.step x6 hb9); (try have x9 := Blk.step (Blk.new w6 #[.int .i64 0, .int .i64 0, .int .i64 0, .int .i64 0, .slice none 0 0] 25) hb9); (try obtain ⟨⟨cx0, cx1, cx2, cx3, cx4⟩, fx0, fx1, fx2, fx3, fx4⟩ := x9.five))
        | (go_split_ands; refine step_append_row el_dot (by rfl) _ _ (by rfl) _ v5 al.length (dcells al) (by rfl) hown5 B bl.length m _ (dcells bl) (by rfl) hlb (HBL.out _ hB5) (dcells_one _) hmx hby2 hb5.size ?_; intro v6 w6 hown6 hg6 _; rw [HLEN.out, HDC.out] at hown6; obtain ⟨A6, c6, rfl⟩ := own_form hown6; have hB6 := below_grown (by with_reducible assumption : Below W2.heap.size W2 _) hg6 hown5 (by simp); (try have x6 := Blk.grown' x5 hg6 (own_ne_lo hown5 _ (lt_alloc W2 _))); (try have x6 := Blk.grown' (Blk.new w5 #[.int .i64 0, .int .i64 0, .int .i64 0, .int .i64 0, .slice none 0 0] 25) hg6 (own_ne_hi hown5 _ (Nat.le_refl _))))
        | (go_split_ands; refine step_append_row el_dot (by rfl) _ _ (by rfl) _ v5 al.length (dcells al) (by rfl) (World.ownsRow.alloc hown5 _) B bl.length m _ (dcells bl) (by rfl) hlb (HBL.out _ (alloc_below hB5 _)) (dcells_one _) hmx hby2 (Nat.le_trans hb5.size (le_alloc _ _)) ?_; intro v6 w6 hown6 hg6 _; rw [HLEN.out, HDC.out] at hown6; obtain ⟨A6, c6, rfl⟩ := own_form hown6; have hB6 := below_grown (by with_reducible assumption : Below W2.heap.size W2 _) hg6 hown5 (by simp); (try have x6 := Blk.grown' x5 hg6 (own_ne_lo hown5 _ (lt_alloc W2 _))); (try have x6 := Blk.grown' (Blk.new w5 #[.int .i64 0, .int .i64 0, .int .i64 0, .int .i64 0, .slice none 0 0] 25) hg6 (own_ne_hi hown5 _ (Nat.le_refl _)))))
    · go_wp2
      go_meet
      case rel => exact ⟨w9.heap.size, A', kk, rfl, Blk.new w9 _ _, hrow9.alloc _, fun b off q e => Nat.le_trans hB6.size (hnew9 b off q e), alloc_below hB9 _⟩
    · go_wp2
      go_meet
      case rel => exact ⟨w6.heap.size, A', kk, rfl, Blk.set5 x9 _ _ _ _ _, Row.set5 hrow9 hnew9 (lt_alloc w6 _) _ _ _ _ _, fun b off q e => Nat.le_trans (Nat.le_trans hB6.size (le_alloc _ _)) (hnew9 b off q e), Below.set5 hB9 hB6.size _ _ _ _ _⟩
    · go_wp2
      go_meet
      case rel => exact ⟨w5.heap.size, A', kk, rfl, Blk.set5 x9 _ _ _ _ _, Row.set5 hrow9 hnew9 (Nat.lt_of_lt_of_le (lt_alloc w5 _) hg6.size) _ _ _ _ _, fun b off q e => Nat.le_trans hB6.size (hnew9 b off q e), Below.set5 hB9 hB5.size _ _ _ _ _⟩
    · go_wp2
      go_meet
      case rel => exact ⟨W2.heap.size, A', kk, rfl, Blk.set5 x9 _ _ _ _ _, Row.set5 hrow9 hnew9 (Nat.lt_of_lt_of_le (Nat.lt_of_lt_of_le (lt_alloc W2 _) hb5.size) hg6.size) _ _ _ _ _, fun b off q e => Nat.le_trans hB6.size (hnew9 b off q e), Below.set5 hB9 (Nat.le_refl _) _ _ _ _ _⟩
  case rest =>
    obtain ⟨X, A', kk, rfl, hX, hrow, hnew, hb⟩ := hcut
    obtain ⟨wx, rfl⟩ : ∃ wx : World, wx = wc := ⟨_, rfl⟩
    have hR := HXR2.out.step hb
    obtain ⟨⟨cx0, cx1, cx2, cx3, cx4⟩, -⟩ := hX.five
    obtain ⟨⟨cr0, cr1, cr2, cr3, cr4⟩, fr0, fr1, fr2, fr3, fr4⟩ := hR.five
    have hBX := Below.step' HBW.out hb
    have hsz2 := HXR2.out.lt
    have hszx := hb.size
    by_cases h4 : 400 < c.cloud.length
    · have HR5 := hid (Blk.set5 hR (.int .i64 0) (.int .i64 0) (.int .i64 0) (.int .i64 0) (.slice none 0 0))
      have HB5 := hid (Below.set5 hBX (Nat.le_of_lt (show w.heap.size < w.heap.size + 1 + 1 by omega)) (.int .i64 0) (.int .i64 0) (.int .i64 0) (.int .i64 0) (.slice none 0 0))
      have hq : decide ((400 : Int) < (c.cloud.length : Int)) = true := by simp; omega
      clear hX hrow hnew hb hBX hR
      go_wp2
      obtain ⟨⟨q0, q1, q2, q3, q4⟩, -⟩ := HR5.out.five
      exact bodyPost_ret (v := .tuple #[cval ⟨0, 0, 0, 0, []⟩ none 0, .int .i64 2]) (by simp [results, Try.results31, go_sem, q0, q1, q2, q3, q4]) rfl ⟨none, 0, by rw [HJX.out, HJE.out, if_pos h4, if_pos h4], by rw [HJX.out, if_pos h4]; exact Row.nil, HB5.out, fun _ _ _ h => by cases h⟩
    · have HR5 := hid (Blk.set5 hR (.int .i64 c.c0) (.int .i64 c.c1) (.int .i64 c.c2) (.int .i64 c.c3) (.slice A' c.cloud.length kk))
      have HB5 := hid (Below.set5 hBX (Nat.le_of_lt (show w.heap.size < w.heap.size + 1 + 1 by omega)) (.int .i64 c.c0) (.int .i64 c.c1) (.int .i64 c.c2) (.int .i64 c.c3) (.slice A' c.cloud.length kk))
      have HROW := hid (Row.set5 hrow hnew hsz2 (.int .i64 c.c0) (.int .i64 c.c1) (.int .i64 c.c2) (.int .i64 c.c3) (.slice A' c.cloud.length kk))
      have hq : decide ((400 : Int) < (c.cloud.length : Int)) = false := by simp; omega
      have HN := hid hnew
      clear hX hrow hnew hb hBX hR
      go_wp2
      obtain ⟨⟨q0, q1, q2, q3, q4⟩, -⟩ := HR5.out.five
      exact bodyPost_ret (v := .tuple #[cval c A' kk, .int .i64 0]) (by simp [results, Try.results31, go_sem, q0, q1, q2, q3, q4]) rfl ⟨A', kk, by rw [HJX.out, HJE.out, if_neg h4, if_neg h4], by rw [HJX.out, if_neg h4]; exact HROW.out, HB5.out, fun b off q e => Nat.le_trans hszw (HN.out b off q e)⟩

set_option maxHeartbeats 1000000 in
set_option maxRecDepth 100000 in
theorem join_bad (a b : Ctx) (A B : Option Addr) (k m : Nat) (w : World) (ra : Row w w.heap.size A (dcells a.cloud)) (la : a.cloud.length ≤ 9223372036854775807)
    (rb : Row w w.heap.size B (dcells b.cloud)) (lb : b.cloud.length ≤ 9223372036854775807) (h0 : twoI a b ≠ 0) :
    Calls Try.prog 31 #[cval a A k, cval b B m] w (CtxErr ⟨0, 0, 0, 0, []⟩ (twoI a b) w) := by
  have HBO := hid (fun w1 (hb : Below w.heap.size w w1) => both_any a b A B k m w1 (ra.step hb) la (rb.step hb) lb)
  have q2 : (twoI a b == 0) = false := by simpa using h0
  generalize twoI a b = I at *
  clear h0 ra rb
  obtain ⟨a0, a1, a2, a3, al⟩ := a
  obtain ⟨b0, b1, b2, b3, bl⟩ := b
  simp only [cval] at *
  go_enter Try.func31, Try.ntmps31
  go_wp2_with fail
  refine (HBO.out _ (by (repeat' (first | (with_reducible exact Below.refl _ _) | (with_reducible assumption) | (with_reducible refine below_drewN ?_ _) | (with_reducible refine Below.drew ?_) | (with_reducible refine Below.alloc ?_ ?_ _) | (with_reducible refine Below.setCell ?_ ?_ _) | (refine Below.trans ?_ (Below.mono (by assumption) ?_)) | go_size)))).mono ?_
  rintro e w1 ⟨rfl, hb1⟩
  have hB1 : Below w.heap.size w w1 := (by refine Below.step' ?_ hb1; (repeat' (first | (with_reducible exact Below.refl _ _) | (with_reducible assumption) | (with_reducible refine below_drewN ?_ _) | (with_reducible refine Below.drew ?_) | (with_reducible refine Below.alloc ?_ ?_ _) | (with_reducible refine Below.setCell ?_ ?_ _) | (refine Below.trans ?_ (Below.mono (by assumption) ?_)) | go_size)))
  have hR : Blk w1 (w.heap.size + 1 + 1) #[.int .i64 0, .int .i64 0, .int .i64 0, .int .i64 0, .slice none 0 0] 25 := Blk.step (by exact Blk.new' ((w.alloc _).alloc _) _ _ (by simp)) hb1
  obtain ⟨⟨cr0, cr1, cr2, cr3, cr4⟩, fr0, fr1, fr2, fr3, fr4⟩ := hR.five
  have HR5 := hid (Blk.set5 hR (.int .i64 0) (.int .i64 0) (.int .i64 0) (.int .i64 0) (.slice none 0 0))
  have HB5 := hid (Below.set5 hB1 (Nat.le_of_lt (show w.heap.size < w.heap.size + 1 + 1 by omega)) (.int .i64 0) (.int .i64 0) (.int .i64 0) (.int .i64 0) (.slice none 0 0))
  clear hb1 hB1 hR
  go_wp2
  obtain ⟨⟨q0, q1, q2, q3, q4⟩, -⟩ := HR5.out.five
  exact bodyPost_ret (v := .tuple #[cval ⟨0, 0, 0, 0, []⟩ none 0, .int .i64 I]) (by simp [results, Try.results31, go_sem, q0, q1, q2, q3, q4]) rfl ⟨none, 0, rfl, Row.nil, HB5.out, fun _ _ _ h => by cases h⟩

theorem twoI_zero {a b : Ctx} : twoI a b = 0 ↔ checkI a = 0 ∧ checkI b = 0 := by
  unfold twoI
  by_cases h : checkI a = 0 <;> simp [h]

theorem join_any (a b : Ctx) (A B : Option Addr) (k m : Nat) (w : World) (ra : Row w w.heap.size A (dcells a.cloud)) (la : a.cloud.length ≤ 9223372036854775807)
    (rb : Row w w.heap.size B (dcells b.cloud)) (lb : b.cloud.length ≤ 9223372036854775807) :
    Calls Try.prog 31 #[cval a A k, cval b B m] w (CtxErr (joinX a b) (joinE a b) w) := by
  by_cases h0 : twoI a b = 0
  · obtain ⟨h1, h2⟩ := twoI_zero.1 h0
    obtain ⟨h3, h4⟩ := (checkI_iff a).1 h1
    obtain ⟨h5, h6⟩ := (checkI_iff b).1 h2
    exact join_good a b A B k m w ra h4 rb h6 h3 h5 h0
  · have e1 : joinX a b = ⟨0, 0, 0, 0, []⟩ := by unfold joinX; rw [if_pos h0]
    have e2 : joinE a b = twoI a b := by unfold joinE; rw [if_pos h0]
    rw [e1, e2]
    exact join_bad a b A B k m w ra la rb lb h0

theorem minus_any (a b : Ctx) (A B : Option Addr) (k m : Nat) (w : World) (ra : Row w w.heap.size A (dcells a.cloud)) (la : a.cloud.length ≤ 9223372036854775807)
    (rb : Row w w.heap.size B (dcells b.cloud)) (lb : b.cloud.length ≤ 9223372036854775807) :
    Calls Try.prog 33 #[cval a A k, cval b B m] w (DotsErr (minusX a b) (minusE a b) w) := by
  by_cases h0 : twoI a b = 0
  · obtain ⟨h1, h2⟩ := twoI_zero.1 h0
    obtain ⟨h3, h4⟩ := (checkI_iff a).1 h1
    obtain ⟨h5, h6⟩ := (checkI_iff b).1 h2
    have e1 : minusX a b = (if 400 < (clkAll a b ++ cldAll a b).length then [] else (clkAll a b ++ cldAll a b).mergeSort dotLe) := by unfold minusX; rw [if_neg (by simp [h0])]
    have e2 : minusE a b = (if 400 < (clkAll a b ++ cldAll a b).length then 2 else 0) := by unfold minusE; rw [if_neg (by simp [h0])]
    rw [e1, e2]
    exact minus_good a b A B k m w ra h4 rb h6 h3.1 h5.1 h0
  · have e1 : minusX a b = [] := by unfold minusX; rw [if_pos h0]
    have e2 : minusE a b = twoI a b := by unfold minusE; rw [if_pos h0]
    rw [e1, e2]
    exact minus_bad a b A B k m w ra la rb lb h0
end Go.Proofs.Ytogegnikpjcpdaa
/- viewref.Joined. -/
namespace Go.Proofs.Ytogegnikpjcpdaa
set_option linter.unusedVariables false
open Go.ChangeShapes Go.WideShapes Go.ChangeAt Go.RowKit

def mxA (a b : Ctx) (i : Nat) : Array Value := #[.int .i64 (if 0 < i then max a.c0 b.c0 else a.c0), .int .i64 (if 1 < i then max a.c1 b.c1 else a.c1), .int .i64 (if 2 < i then max a.c2 b.c2 else a.c2), .int .i64 (if 3 < i then max a.c3 b.c3 else a.c3)]
theorem mx_get (a b : Ctx) (i : Nat) (h : i < 4) : (mxA a b i)[i]? = some (.int .i64 (a.at_ i)) := by
  rcases (by omega : i = 0 ∨ i = 1 ∨ i = 2 ∨ i = 3) with e | e | e | e <;> subst e <;> rfl
theorem mx_set (a b : Ctx) (i : Nat) (h : i < 4) (hc : a.at_ i < b.at_ i) : (mxA a b i).setIfInBounds i (.int .i64 (b.at_ i)) = mxA a b (i + 1) := by
  rcases (by omega : i = 0 ∨ i = 1 ∨ i = 2 ∨ i = 3) with e | e | e | e <;> subst e <;> simp [mxA, Ctx.at_] at * <;> omega
theorem mx_keep (a b : Ctx) (i : Nat) (h : i < 4) (hc : ¬ a.at_ i < b.at_ i) : mxA a b i = mxA a b (i + 1) := by
  rcases (by omega : i = 0 ∨ i = 1 ∨ i = 2 ∨ i = 3) with e | e | e | e <;> subst e <;> simp [mxA, Ctx.at_] at * <;> omega
theorem mx_zero (a b : Ctx) : mxA a b 0 = #[.int .i64 a.c0, .int .i64 a.c1, .int .i64 a.c2, .int .i64 a.c3] := rfl
theorem mx_four (a b : Ctx) : mxA a b 4 = #[.int .i64 (max a.c0 b.c0), .int .i64 (max a.c1 b.c1), .int .i64 (max a.c2 b.c2), .int .i64 (max a.c3 b.c3)] := rfl

set_option maxHeartbeats 4000000 in
set_option maxRecDepth 100000 in
theorem joined_any (a b : Ctx) (A B : Option Addr) (k m : Nat) (w : World) (ra : Row w w.heap.size A (dcells a.cloud)) (la : a.cloud.length ≤ 400)
    (rb : Row w w.heap.size B (dcells b.cloud)) (lb : b.cloud.length ≤ 400) (ha : okC a) (hb : okC b) :
    Calls Try.prog 29 #[cval a A k, cval b B m] w (CtxErr (if 400 < (joinC a b).cloud.length then ⟨0, 0, 0, 0, []⟩ else joinC a b) (if 400 < (joinC a b).cloud.length then 2 else 0) w) := by
  have RA := hid ra
  have RB := hid rb
  obtain ⟨JX, hJX⟩ : ∃ JX, JX = (if 400 < (joinC a b).cloud.length then ⟨0, 0, 0, 0, []⟩ else joinC a b) := ⟨_, rfl⟩
  obtain ⟨JE, hJE⟩ : ∃ JE : Int, JE = (if 400 < (joinC a b).cloud.length then 2 else 0) := ⟨_, rfl⟩
  rw [← hJX, ← hJE]
  have HJX := hid hJX
  have HJE := hid hJE
  clear hJX hJE
  have HRT := hid (show ∀ d ∈ a.cloud ++ b.cloud, rightB d.1 d.2 = true from fun d hd => by
    rcases List.mem_append.1 hd with h | h
    · exact (ha.2.1 d h).1
    · exact (hb.2.1 d h).1)
  have HCK := hid (show clkIn ⟨max a.c0 b.c0, max a.c1 b.c1, max a.c2 b.c2, max a.c3 b.c3, []⟩ by
    have h1 := ha.1
    have h2 := hb.1
    unfold clkIn at *
    simp only
    omega)
  have MG := hid (mx_get a b)
  have MS := hid (mx_set a b)
  have MK := hid (mx_keep a b)
  have M0 := hid (mx_zero a b)
  have M4 := hid (mx_four a b)
  have CELB := hid (fun n h0 h4 v => at_cell b n h0 h4 v)
  clear ra rb ha hb
  go_enter Try.func29, Try.ntmps29
  simp only [cval]
  go_wp2
  obtain ⟨P, hP⟩ : ∃ P, P = w.heap.size + 1 + 1 + 1 := ⟨_, rfl⟩
  rw [← hP, ← M0.out]
  obtain ⟨W0, hW0⟩ : ∃ W0 : World, W0 = (((w.alloc (.cells (cbox a A k) 25)).alloc (.cells (cbox b B m) 25)).alloc (.cells #[.int .i64 0, .int .i64 0, .int .i64 0, .int .i64 0, .slice none 0 0] 25)).alloc (.cells (mxA a b 0) 22) := ⟨_, rfl⟩
  simp only [cbox] at hW0
  rw [← hW0]
  have hB0 : Below w.heap.size w W0 := by rw [hW0]; (repeat' (first | (with_reducible exact Below.refl _ _) | (with_reducible assumption) | (with_reducible refine below_drewN ?_ _) | (with_reducible refine Below.drew ?_) | (with_reducible refine Below.alloc ?_ ?_ _) | (with_reducible refine Below.setCell ?_ ?_ _) | (refine Below.trans ?_ (Below.mono (by assumption) ?_)) | go_size))
  have hXa : Blk W0 w.heap.size (cbox a A k) 25 := by rw [hW0]; exact (((Blk.new w _ _).alloc _).alloc _).alloc _
  have hXb : Blk W0 (w.heap.size + 1) (cbox b B m) 25 := by rw [hW0]; exact ((Blk.new' (w.alloc _) _ _ (by simp)).alloc _).alloc _
  have hXr : Blk W0 (w.heap.size + 1 + 1) #[.int .i64 0, .int .i64 0, .int .i64 0, .int .i64 0, .slice none 0 0] 25 := by rw [hW0]; exact (Blk.new' ((w.alloc _).alloc _) _ _ (by simp)).alloc _
  have hXp : Blk W0 P (mxA a b 0) 22 := by rw [hW0]; exact Blk.new' (((w.alloc _).alloc _).alloc _) _ _ (by simp [hP])
  have hPl : w.heap.size + 1 + 1 < P := by omega
  have HB0 := hid hB0
  have HXA := hid hXa
  have HXB := hid hXb
  have HXR := hid hXr
  have HXP := hid hXp
  clear hW0 hB0 hXa hXb hXr hXp hP
  go_loopw [7] (fun s7 wr => ∃ i : Nat, i ≤ 4 ∧ s7 = .int .i64 i ∧ Blk wr P (mxA a b i) 22 ∧ Below P W0 wr) (fun s7 _ => 4 - (intOf s7).toNat)
  case atStart => exact ⟨0, by omega, rfl, HXP.out, Below.refl _ _⟩
  case round =>
    obtain ⟨i, hi, rfl, hp, hbw⟩ := hrel
    by_cases hlt : i < 4
    · have xb := (HXB.out.thru hbw (by omega)).cells.1
      have heb := CELB.out i (by omega) (by omega) (.slice B b.cloud.length m)
      have eb : wr.cell? ⟨w.heap.size + 1, i, none⟩ = some (.int .i64 (b.at_ i)) := by rw [xb]; exact heb
      have ep : wr.cell? ⟨P, i, none⟩ = some (.int .i64 (a.at_ i)) := by rw [hp.cells.1]; exact MG.out i hlt
      have fp := hp.cells.2 i
      have ti : decide ((i : Int) < 4) = true := by simp; omega
      have ti2 : (i : Int) < 4 := by omega
      have HP := hid hp
      have HBW := hid hbw
      have np : ¬ (w.heap.size + 1 = P) := by omega
      clear xb heb hp hbw
      by_cases hc : a.at_ i < b.at_ i
      · have tc : decide (a.at_ i < b.at_ i) = true := by simpa using hc
        have HS := hid (MS.out i hlt hc)
        go_wp2
        refine wp_region_quiet_lit (by kernel_rfl) (by kernel_rfl) ?_
        repeat (any_goals ((with_reducible refine wpQuiet_step (fun K hK => ?_)); go_simp; first | (with_reducible refine hK _ ?_; clear hK K) | ((with_reducible apply Exists.intro); (with_reducible refine ⟨fun _ => ?_, hK _ ?_⟩); (fail); clear hK K) | ((with_reducible refine (if_neg ?_).mpr (hK _ ?_)); (decide); clear hK K) | (split <;> (with_reducible refine hK _ ?_; clear hK K))))
        all_goals ((with_reducible refine wpQuiet_nil ?_); intro _ hw'; obtain ⟨nq, hw''⟩ := hw'; subst hw'')
        go_wp2
        go_roundw
        case rel =>
          refine ⟨i + 1, by omega, by go_num, ?_, ?_⟩
          · rw [← HS.out]; exact (HP.out.drewN nq).set i _
          · exact (below_drewN HBW.out nq).setCell (Nat.le_refl _) _
        case measure => simp [intOf]; omega
      · have tc : decide (a.at_ i < b.at_ i) = false := by simpa using hc
        have HS := hid (MK.out i hlt (by omega))
        go_wp2
        refine wp_region_quiet_lit (by kernel_rfl) (by kernel_rfl) ?_
        repeat (any_goals ((with_reducible refine wpQuiet_step (fun K hK => ?_)); go_simp; first | (with_reducible refine hK _ ?_; clear hK K) | ((with_reducible apply Exists.intro); (with_reducible refine ⟨fun _ => ?_, hK _ ?_⟩); (fail); clear hK K) | ((with_reducible refine (if_neg ?_).mpr (hK _ ?_)); (decide); clear hK K) | (split <;> (with_reducible refine hK _ ?_; clear hK K))))
        all_goals ((with_reducible refine wpQuiet_nil ?_); intro _ hw'; obtain ⟨nq, hw''⟩ := hw'; subst hw'')
        go_wp2
        go_roundw
        case rel =>
          refine ⟨i + 1, by omega, by go_num, ?_, ?_⟩
          · rw [← HS.out]; exact HP.out.drewN nq
          · exact below_drewN HBW.out nq
        case measure => simp [intOf]; omega
    · have e : i = 4 := by omega
      rw [e, M4.out] at hp
      obtain ⟨W2, rfl⟩ : ∃ W2 : World, W2 = wr := ⟨_, rfl⟩
      have hXa := HXA.out.thru hbw (by omega)
      have hXb := HXB.out.thru hbw (by omega)
      have HXR2 := hid (HXR.out.thru hbw (by omega))
      have hBW : Below w.heap.size w W2 := HB0.out.trans (hbw.mono (by omega))
      have ra2 := RA.out.step hBW
      have rb2 := RB.out.step hBW
      have HAL := hid (fun w1 (hb : Below W2.heap.size W2 w1) => ra2.step hb)
      have HBL := hid (fun w1 (hb : Below W2.heap.size W2 w1) => rb2.step hb)
      obtain ⟨ca, fa, sa, na⟩ := hXa.all
      obtain ⟨cb, fb, sb, nb⟩ := hXb.all
      obtain ⟨cp, fp, sp, np⟩ := hp.all
      simp only [cbox] at ca cb
      have HBW := hid hBW
      have ti : decide ((i : Int) < 4) = false := by simp; omega
      clear hXa hXb hp hBW hbw ra2 rb2 e
      go_upto_region 7 with fail
      clear ti
      have hlr : ∀ d ∈ a.cloud ++ b.cloud, rightB d.1 d.2 = true := HRT.out
      have hlen : a.cloud.length + b.cloud.length = (a.cloud ++ b.cloud).length := by simp
      have hdc : dcells a.cloud ++ dcells b.cloud = dcells (a.cloud ++ b.cloud) := by simp [dcells]
      have hl8 : (a.cloud ++ b.cloud).length ≤ 800 := by omega
      obtain ⟨c, hc⟩ : ∃ c, c = packL (max a.c0 b.c0) (max a.c1 b.c1) (max a.c2 b.c2) (max a.c3 b.c3) (a.cloud ++ b.cloud) := ⟨_, rfl⟩
      have HPK := hid (fun w1 A6 c6 (hr : Row w1 w1.heap.size A6 (dcells (a.cloud ++ b.cloud))) => Rpacked_any (max a.c0 b.c0) (max a.c1 b.c1) (max a.c2 b.c2) (max a.c3 b.c3) (a.cloud ++ b.cloud) A6 c6 w1 hr (by omega) HCK.out hlr)
      rw [← hc] at HPK
      have hjc : joinC a b = c := hc.symm
      rw [hjc] at HJX HJE
      clear hjc
      have HC := hid hc
      have HLEN := hid hlen
      have HDC := hid hdc
      generalize a.cloud ++ b.cloud = l at *
      clear hlr hlen hdc hc
      have hszw := HBW.out.size
      go_cut [8] from 29 to 36 (fun s8 wx => ∃ X A' kk, s8 = .pointer (some ⟨X, 0, none⟩) ∧ Blk wx X (cbox c A' kk) 25 ∧ Row wx wx.heap.size A' (dcells c.cloud) ∧ NewAt W2.heap.size A' ∧ Below W2.heap.size W2 wx)
      case first =>
        have hlb : (dcells b.cloud).length = b.cloud.length * 2 := by rw [dcells_len]; omega
        have hmx : a.cloud.length + b.cloud.length ≤ maxLen := by simp only [maxLen]; omega
        have hby2 : (a.cloud.length + b.cloud.length) * 16 ≤ 140737488355328 := by omega
        have hla : (dcells a.cloud).length = a.cloud.length * 2 := by rw [dcells_len]; omega
        have hmx0 : 0 + a.cloud.length ≤ maxLen := by simp only [maxLen]; omega
        have hby0 : (0 + a.cloud.length) * 16 ≤ 140737488355328 := by omega
        have tok1 : True := trivial
        go_region_held3 (fun w' => (∀ b o, b < W2.heap.size → w'.cell? ⟨b, o, none⟩ = W2.cell? ⟨b, o, none⟩) ∧ Below W2.heap.size W2 w')
          ((go_split_ands; refine keepS ?_; first | (with_reducible assumption) | (with_reducible exact (Below.refl _ _).drew) | (with_reducible exact (alloc_below (Below.refl _ _) _).drew) | (with_reducible refine alloc_below ?_ _; with_reducible assumption) | (with_reducible refine Below.drew (alloc_below ?_ _); with_reducible assumption) | (with_reducible refine Below.set5 ?_ ?_ _ _ _ _ _; with_reducible assumption; first | exact Nat.le_refl _ | (refine Below.size (B := W2.heap.size) (w := W2) ?_; with_reducible assumption))))
          (first
            | (have _t := tok1; go_split_ands; refine step_append_row el_dot (by rfl) _ _ (by rfl) _ (.slice none 0 0) 0 [] (by rfl) (World.ownsRow_nil _ _ _ _) A a.cloud.length k _ (dcells a.cloud) (by rfl) hla (HAL.out _ (by with_reducible assumption)) (dcells_one _) hmx0 hby0 (Nat.le_refl _) ?_; clear tok1; intro v5 w5 hown5 hg5 _; rw [Nat.zero_add, List.nil_append] at hown5; have hB5 := below_grown_nil (by with_reducible assumption : Below W2.heap.size W2 _) hg5; have hs5 := hg5.size; (try have x5 := Blk.grown' (show Blk (World.drew (W2.alloc (.cells #[.int .i64 0, .int .i64 0, .int .i64 0, .int .i64 0, .slice none 0 0] 25))) W2.heap.size #[.int .i64 0, .int .i64 0, .int .i64 0, .int .i64 0, .slice none 0 0] 25 from Blk.new W2 #[.int .i64 0, .int .i64 0, .int .i64 0, .int .i64 0, .slice none 0 0] 25) hg5 (by simp [Value.ownBlock])))
            | (go_split_ands; go_at_call 20; refine (HPK.out _ A6 c6 (Row.of_own hown6)).mono ?_; rintro e w9 ⟨A', kk, rfl, hrow9, hb9, hnew9⟩; have hB9 := Below.step' (by with_reducible assumption : Below W2.heap.size W2 _) hb9; (try have x9 := Blk.step x6 hb9); (try have x9 := Blk.step (Blk.new w6 #[.int .i64 0, .int .i64 0, .int .i64 0, .int .i64 0, .slice none 0 0] 25) hb9); (try obtain ⟨⟨cx0, cx1, cx2, cx3, cx4⟩, fx0, fx1, fx2, fx3, fx4⟩ := x9.five))
            | (go_split_ands; go_at_call 20; refine (HPK.out _ A6 c6 (Row.of_own (World.ownsRow.alloc hown6 _))).mono ?_; rintro e w9 ⟨A', kk, rfl, hrow9, hb9, hnew9⟩; have hB9 := Below.step' (by with_reducible assumption : Below W2.heap.size W2 _) hb9; (try have x9 := Blk.step x6 hb9); (try have x9 := Blk.step (Blk.new w6 #[.int .i64 0, .int .i64 0, .int .i64 0, .int .i64 0, .slice none 0 0] 25) hb9); (try obtain ⟨⟨cx0, cx1, cx2, cx3, cx4⟩, fx0, fx1, fx2, fx3, fx4⟩ := x9.five))
            | (go_split_ands; refine step_append_row el_dot (by rfl) _ _ (by rfl) _ v5 a.cloud.length (dcells a.cloud) (by rfl) hown5 B b.cloud.length m _ (dcells b.cloud) (by rfl) hlb (HBL.out _ hB5) (dcells_one _) hmx hby2 hs5 ?_; intro v6 w6 hown6 hg6 _; rw [HLEN.out, HDC.out] at hown6; obtain ⟨A6, c6, rfl⟩ := own_form hown6; have hB6 := below_grown (by with_reducible assumption : Below W2.heap.size W2 _) hg6 hown5 (by simp); (try have x6 := Blk.grown' x5 hg6 (own_ne_lo hown5 _ (lt_alloc W2 _))); (try have x6 := Blk.grown' (Blk.new w5 #[.int .i64 0, .int .i64 0, .int .i64 0, .int .i64 0, .slice none 0 0] 25) hg6 (own_ne_hi hown5 _ (Nat.le_refl _))))
            | (go_split_ands; refine step_append_row el_dot (by rfl) _ _ (by rfl) _ v5 a.cloud.length (dcells a.cloud) (by rfl) (World.ownsRow.alloc hown5 _) B b.cloud.length m _ (dcells b.cloud) (by rfl) hlb (HBL.out _ (alloc_below hB5 _)) (dcells_one _) hmx hby2 (Nat.le_trans hs5 (le_alloc _ _)) ?_; intro v6 w6 hown6 hg6 _; rw [HLEN.out, HDC.out] at hown6; obtain ⟨A6, c6, rfl⟩ := own_form hown6; have hB6 := below_grown (by with_reducible assumption : Below W2.heap.size W2 _) hg6 hown5 (by simp); (try have x6 := Blk.grown' x5 hg6 (own_ne_lo hown5 _ (lt_alloc W2 _))); (try have x6 := Blk.grown' (Blk.new w5 #[.int .i64 0, .int .i64 0, .int .i64 0, .int .i64 0, .slice none 0 0] 25) hg6 (own_ne_hi hown5 _ (Nat.le_refl _)))))
        · go_wp2
          go_meet
          case rel => exact ⟨w9.heap.size, A', kk, rfl, Blk.new w9 _ _, hrow9.alloc _, fun b off q e => Nat.le_trans hB6.size (hnew9 b off q e), alloc_below hB9 _⟩
        · go_wp2
          go_meet
          case rel => exact ⟨w6.heap.size, A', kk, rfl, Blk.set5 x9 _ _ _ _ _, Row.set5 hrow9 hnew9 (lt_alloc w6 _) _ _ _ _ _, fun b off q e => Nat.le_trans (Nat.le_trans hB6.size (le_alloc _ _)) (hnew9 b off q e), Below.set5 hB9 hB6.size _ _ _ _ _⟩
        · go_wp2
          go_meet
          case rel => exact ⟨w5.heap.size, A', kk, rfl, Blk.set5 x9 _ _ _ _ _, Row.set5 hrow9 hnew9 (Nat.lt_of_lt_of_le (lt_alloc w5 _) hg6.size) _ _ _ _ _, fun b off q e => Nat.le_trans hB6.size (hnew9 b off q e), Below.set5 hB9 hB5.size _ _ _ _ _⟩
        · go_wp2
          go_meet
          case rel => exact ⟨W2.heap.size, A', kk, rfl, Blk.set5 x9 _ _ _ _ _, Row.set5 hrow9 hnew9 (Nat.lt_of_lt_of_le (Nat.lt_of_lt_of_le (lt_alloc W2 _) hs5) hg6.size) _ _ _ _ _, fun b off q e => Nat.le_trans hB6.size (hnew9 b off q e), Below.set5 hB9 (Nat.le_refl _) _ _ _ _ _⟩
      case rest =>
        obtain ⟨X, A', kk, rfl, hX, hrow, hnew, hb⟩ := hcut
        obtain ⟨wx, rfl⟩ : ∃ wx : World, wx = wc := ⟨_, rfl⟩
        have hR := HXR2.out.step hb
        obtain ⟨⟨cx0, cx1, cx2, cx3, cx4⟩, -⟩ := hX.five
        obtain ⟨⟨cr0, cr1, cr2, cr3, cr4⟩, fr0, fr1, fr2, fr3, fr4⟩ := hR.five
        have hBX := Below.step' HBW.out hb
        have hsz2 := HXR2.out.lt
        have hszx := hb.size
        by_cases h4 : 400 < c.cloud.length
        · have HR5 := hid (Blk.set5 hR (.int .i64 0) (.int .i64 0) (.int .i64 0) (.int .i64 0) (.slice none 0 0))
          have HB5 := hid (Below.set5 hBX (Nat.le_of_lt (show w.heap.size < w.heap.size + 1 + 1 by omega)) (.int .i64 0) (.int .i64 0) (.int .i64 0) (.int .i64 0) (.slice none 0 0))
          have hq : decide ((400 : Int) < (c.cloud.length : Int)) = true := by simp; omega
          clear hX hrow hnew hb hBX hR
          go_wp2
          obtain ⟨⟨q0, q1, q2, q3, q4⟩, -⟩ := HR5.out.five
          exact bodyPost_ret (v := .tuple #[cval ⟨0, 0, 0, 0, []⟩ none 0, .int .i64 2]) (by simp [results, Try.results29, go_sem, q0, q1, q2, q3, q4]) rfl ⟨none, 0, by rw [HJX.out, HJE.out, if_pos h4, if_pos h4], by rw [HJX.out, if_pos h4]; exact Row.nil, HB5.out, fun _ _ _ h => by cases h⟩
        · have HR5 := hid (Blk.set5 hR (.int .i64 c.c0) (.int .i64 c.c1) (.int .i64 c.c2) (.int .i64 c.c3) (.slice A' c.cloud.length kk))
          have HB5 := hid (Below.set5 hBX (Nat.le_of_lt (show w.heap.size < w.heap.size + 1 + 1 by omega)) (.int .i64 c.c0) (.int .i64 c.c1) (.int .i64 c.c2) (.int .i64 c.c3) (.slice A' c.cloud.length kk))
          have HROW := hid (Row.set5 hrow hnew hsz2 (.int .i64 c.c0) (.int .i64 c.c1) (.int .i64 c.c2) (.int .i64 c.c3) (.slice A' c.cloud.length kk))
          have hq : decide ((400 : Int) < (c.cloud.length : Int)) = false := by simp; omega
          have HN := hid hnew
          clear hX hrow hnew hb hBX hR
          go_wp2
          obtain ⟨⟨q0, q1, q2, q3, q4⟩, -⟩ := HR5.out.five
          exact bodyPost_ret (v := .tuple #[cval c A' kk, .int .i64 0]) (by simp [results, Try.results29, go_sem, q0, q1, q2, q3, q4]) rfl ⟨A', kk, by rw [HJX.out, HJE.out, if_neg h4, if_neg h4], by rw [HJX.out, if_neg h4]; exact HROW.out, HB5.out, fun b off q e => Nat.le_trans hszw (HN.out b off q e)⟩

end Go.Proofs.Ytogegnikpjcpdaa
/- stable.Meet: no context, a wrong one. -/
namespace Go.Proofs.Ytogegnikpjcpdaa
set_option linter.unusedVariables false
open Go.ChangeShapes Go.WideShapes Go.ChangeAt Go.RowKit

theorem gb_below {w0 w w' : World} {row : Option Nat} (h : w0.grownBy w row) (hb : Below w.heap.size w w') : w0.grownBy w' row :=
  grown_trans h ⟨hb.os, hb.tape, hb.output, hb.size, fun k hk _ => hb.block k hk⟩
theorem gb_set {w0 w : World} {P : Nat} (h : w0.grownBy w (some P)) (i : Nat) (v : Value) : w0.grownBy (w.setCell ⟨P, i, none⟩ v) (some P) :=
  grown_trans h ⟨rfl, rfl, rfl, by simp, fun k hk hne => Below.heap_setCell w ⟨P, i, none⟩ v k (by intro e; exact hne (by rw [e]))⟩
theorem gb_own {w0 w w' : World} {P : Nat} {row : Option Nat} (h : w0.grownBy w (some P)) (hg : w.grownBy w' row) (hr : ∀ g, row = some g → w0.heap.size ≤ g) : w0.grownBy w' (some P) :=
  ⟨hg.os.trans h.os, hg.tape.trans h.tape, hg.output.trans h.output, Nat.le_trans h.size hg.size, fun k hk hne => (hg.block k (Nat.lt_of_lt_of_le hk h.size) (fun e => by have := hr k e.symm; omega)).trans (h.block k hk hne)⟩
theorem gb_to {w0 w' : World} {P B : Nat} (h : w0.grownBy w' (some P)) (hB : B ≤ P) (hB2 : B ≤ w0.heap.size) : Below B w0 w' :=
  ⟨h.os, h.tape, h.output, h.size, fun k hk => h.block k (by omega) (by intro e; injection e with e; omega)⟩
theorem gb_blk {w0 w' : World} {P b : Nat} {cs : Array Value} {T : TypeId} (h : w0.grownBy w' (some P)) (hx : Blk w0 b cs T) (hne : b ≠ P) : Blk w' b cs T :=
  hx.grown h (by intro e; injection e with e; exact hne e)

theorem ctxs_get (L : List CR) (i : Nat) (h : i < L.length) : (CR.ctxs L)[i]'(by simpa using h) = L[i].c := by simp

theorem meet_none (A : Option Addr) (k : Nat) (w : World) : Calls Try.prog 35 #[.slice A 0 k] w (CtxErr ⟨0, 0, 0, 0, []⟩ 1 w) := by
  go_enter Try.func35, Try.ntmps35
  go_wp2
  exact bodyPost_ret (v := .tuple #[cval ⟨0, 0, 0, 0, []⟩ none 0, .int .i64 1]) (by simp [results, Try.results35, go_sem]) rfl ⟨none, 0, rfl, Row.nil, by (repeat' (first | (with_reducible exact Below.refl _ _) | (with_reducible assumption) | (with_reducible refine below_drewN ?_ _) | (with_reducible refine Below.drew ?_) | (with_reducible refine Below.alloc ?_ ?_ _) | (with_reducible refine Below.setCell ?_ ?_ _) | (refine Below.trans ?_ (Below.mono (by assumption) ?_)) | go_size)), fun _ _ _ h => by cases h⟩

set_option maxHeartbeats 1000000 in
set_option maxRecDepth 100000 in
theorem meet_bad (L : List CR) (A : Option Addr) (k : Nat) (w : World) (hr : RowC w w.heap.size A L) (hl : L.length ≤ 9223372036854775807) (h0 : badL (CR.ctxs L) ≠ 0) :
    Calls Try.prog 35 #[.slice A L.length k] w (CtxErr ⟨0, 0, 0, 0, []⟩ (badL (CR.ctxs L)) w) := by
  have hpos : 0 < L.length := by
    rcases Nat.eq_zero_or_pos L.length with h | h
    · rw [List.eq_nil_of_length_eq_zero h] at h0; exact absurd rfl h0
    · exact h
  have hz : ((L.length : Int) == 0) = false := by simp only [beq_eq_false_iff_ne, ne_eq]; omega
  have HR := hid hr
  have HE := hid h0
  clear hr h0
  go_enter Try.func35, Try.ntmps35
  go_wp2
  obtain ⟨W0, hW0⟩ : ∃ W0 : World, W0 = w.alloc (.cells #[.int .i64 0, .int .i64 0, .int .i64 0, .int .i64 0, .slice none 0 0] 25) := ⟨_, rfl⟩
  rw [← hW0]
  have HB0 := hid (show Below w.heap.size w W0 by rw [hW0]; (repeat' (first | (with_reducible exact Below.refl _ _) | (with_reducible assumption) | (with_reducible refine below_drewN ?_ _) | (with_reducible refine Below.drew ?_) | (with_reducible refine Below.alloc ?_ ?_ _) | (with_reducible refine Below.setCell ?_ ?_ _) | (refine Below.trans ?_ (Below.mono (by assumption) ?_)) | go_size)))
  have HXR := hid (show Blk W0 w.heap.size #[.int .i64 0, .int .i64 0, .int .i64 0, .int .i64 0, .slice none 0 0] 25 by rw [hW0]; exact Blk.new _ _ _)
  clear hW0
  go_loopw [24] (fun s24 wr => ∃ i : Nat, i ≤ L.length ∧ s24 = .int .i64 i ∧ (∀ c ∈ (CR.ctxs L).take i, checkI c = 0) ∧ Below W0.heap.size W0 wr) (fun s24 _ => L.length - (intOf s24).toNat)
  case atStart => exact ⟨0, by omega, rfl, by simp, Below.refl _ _⟩
  case round =>
    obtain ⟨i, hi, rfl, hno, hbw⟩ := hrel
    by_cases hlt : i < L.length
    · obtain ⟨b, off, hA, hb, c0, c1, c2, c3, c4, rx, lx⟩ := (HR.out.step (Below.step' HB0.out hbw)).at_ hlt
      subst hA
      have HC := hid (fun w1 (hb1 : Below wr.heap.size wr w1) => check_any L[i].c L[i].A L[i].k w1 (rx.step hb1) lx)
      have htk := List.take_succ_eq_append_getElem (show i < (CR.ctxs L).length by simpa using hlt)
      rw [ctxs_get L i hlt] at htk
      have hbt := badL_take (show i < (CR.ctxs L).length by simpa using hlt) hno
      rw [ctxs_get L i hlt] at hbt
      have HXR1 := hid (HXR.out.step hbw)
      have HBW := hid hbw
      have HN := hid hno
      have HTK := hid htk
      have HBT := hid hbt
      clear hno hbw htk hbt rx
      generalize L[i] = x at *
      obtain ⟨⟨x0, x1, x2, x3, xl⟩, xA, xk⟩ := x
      simp only at c0 c1 c2 c3 c4
      simp only [cval] at HC
      obtain ⟨I, hI⟩ : ∃ I, I = checkI ⟨x0, x1, x2, x3, xl⟩ := ⟨_, rfl⟩
      rw [← hI] at HC
      have HI := hid hI
      clear hI
      by_cases q : I = 0
      · subst q
        go_wp2_with fail
        refine (HC.out _ ((Below.refl _ _).alloc (Nat.le_refl _) _)).mono ?_
        rintro e w1 ⟨rfl, hb1⟩
        have HB1 := hid (show Below wr.heap.size wr w1 from (by refine Below.step' ?_ hb1; (repeat' (first | (with_reducible exact Below.refl _ _) | (with_reducible assumption) | (with_reducible refine below_drewN ?_ _) | (with_reducible refine Below.drew ?_) | (with_reducible refine Below.alloc ?_ ?_ _) | (with_reducible refine Below.setCell ?_ ?_ _) | (refine Below.trans ?_ (Below.mono (by assumption) ?_)) | go_size))))
        clear hb1 c0 c1 c2 c3 c4
        go_wp2
        go_roundw
        case rel =>
          refine ⟨i + 1, by omega, by go_num, fun c hc => ?_, Below.step' HBW.out HB1.out⟩
          rw [HTK.out, List.mem_append, List.mem_singleton] at hc
          rcases hc with hc | rfl
          · exact HN.out c hc
          · exact HI.out.symm
        case measure => simp [intOf]; omega
      · have q2 : (I != 0) = true := by simpa using q
        have q3 : badL (CR.ctxs L) = I := (HBT.out (by rw [← HI.out]; exact q)).trans HI.out.symm
        have HQ := hid q3
        clear q q3
        go_wp2_with fail
        refine (HC.out _ ((Below.refl _ _).alloc (Nat.le_refl _) _)).mono ?_
        rintro e w1 ⟨rfl, hb1⟩
        have hB1 : Below wr.heap.size wr w1 := (by refine Below.step' ?_ hb1; (repeat' (first | (with_reducible exact Below.refl _ _) | (with_reducible assumption) | (with_reducible refine below_drewN ?_ _) | (with_reducible refine Below.drew ?_) | (with_reducible refine Below.alloc ?_ ?_ _) | (with_reducible refine Below.setCell ?_ ?_ _) | (refine Below.trans ?_ (Below.mono (by assumption) ?_)) | go_size)))
        have hR := HXR1.out.step hB1
        have hsz := HXR.out.lt
        obtain ⟨⟨cr0, cr1, cr2, cr3, cr4⟩, fr0, fr1, fr2, fr3, fr4⟩ := hR.five
        have HR5 := hid (Blk.set5 hR (.int .i64 0) (.int .i64 0) (.int .i64 0) (.int .i64 0) (.slice none 0 0))
        have HB5 := hid (Below.set5 (Below.step' (Below.step' HB0.out HBW.out) hB1) (Nat.le_refl _) (.int .i64 0) (.int .i64 0) (.int .i64 0) (.int .i64 0) (.slice none 0 0))
        clear hb1 hB1 hR c0 c1 c2 c3 c4
        go_wp2
        obtain ⟨⟨q0, q1, q2, q3, q4⟩, -⟩ := HR5.out.five
        exact bodyPost_ret (v := .tuple #[cval ⟨0, 0, 0, 0, []⟩ none 0, .int .i64 I]) (by simp [results, Try.results35, go_sem, q0, q1, q2, q3, q4]) rfl ⟨none, 0, by rw [HQ.out], Row.nil, HB5.out, fun _ _ _ h => by cases h⟩
    · exact absurd (badL_zero.2 (fun c hc => hno c (by rw [List.take_of_length_le (by simp; omega)]; exact hc))) HE.out
end Go.Proofs.Ytogegnikpjcpdaa
/- Owned rows of whatever size; words for a list of cells that a call makes. No program in sight. -/
namespace Go.Proofs.Ytogegnikpjcpdaa
set_option linter.unusedVariables false
open Go.RowKit

theorem Row.of_ownS {w : World} {B n c s : Nat} {T : TypeId} {A : Option Addr} {xs : List Value} (h : w.ownsRow B T s (.slice A n c) n xs) : Row w w.heap.size A xs := by
  rcases h.2 with ⟨h', h0⟩ | ⟨g, cap, cur, h', hb, hg, hnc, hcm, hcs, htake⟩
  · have : xs = [] := List.eq_nil_of_length_eq_zero (by rw [h.1, h0, Nat.zero_mul])
    exact .inl this
  · injection h' with h1 h2 h3
    subst h1
    have hlt : g < w.heap.size := by
      rcases Nat.lt_or_ge g w.heap.size with h | h
      · exact h
      · rw [Array.getElem?_eq_none h] at hg; cases hg
    refine .inr ⟨g, 0, rfl, hlt, fun j u hu => ?_⟩
    have := h.cells (g := g) rfl j u hu
    rwa [add_none] at this
theorem own_formS {w : World} {B n s : Nat} {T : TypeId} {v : Value} {xs : List Value} (h : w.ownsRow B T s v n xs) : ∃ A c, v = .slice A n c := by
  rcases h.2 with ⟨rfl, rfl⟩ | ⟨g, cap, cur, rfl, _⟩
  · exact ⟨none, 0, rfl⟩
  · exact ⟨_, _, rfl⟩
theorem own_laterS {w w' : World} {B n s : Nat} {T : TypeId} {v : Value} {xs : List Value} (h : w.ownsRow B T s v n xs) (hb : Below w.heap.size w w') : w'.ownsRow B T s v n xs :=
  h.kept (grown_of_below hb) (by cases hv : v.ownBlock <;> simp)
theorem own_baseS {w : World} {B B' n s : Nat} {T : TypeId} {v : Value} {xs : List Value} (h : w.ownsRow B T s v n xs) (hB : B' ≤ B) : w.ownsRow B' T s v n xs := by
  refine ⟨h.1, ?_⟩
  rcases h.2 with h2 | ⟨g, cap, cur, h1, h2, h3⟩
  · exact .inl h2
  · exact .inr ⟨g, cap, cur, h1, Nat.le_trans hB h2, h3⟩
theorem own_newS {w : World} {B B' n c s : Nat} {T : TypeId} {A : Option Addr} {xs : List Value} (h : w.ownsRow B T s (.slice A n c) n xs) (hB : B' ≤ B) : NewAt B' A := by
  intro b off q e
  subst e
  exact Nat.le_trans hB (h.lt b (by
    rcases h.2 with ⟨h', _⟩ | ⟨g, cap, cur, h', _⟩
    · cases h'
    · injection h' with h1; injection h1 with h1; injection h1 with h1 h2 h3; subst h1 h2 h3; rfl)).1
theorem own_setS {w : World} {B n s : Nat} {T : TypeId} {v : Value} {xs : List Value} (h : w.ownsRow B T s v n xs) {b : Nat} (hb : b < B) (i : Nat) (u : Value) : (w.setCell ⟨b, i, none⟩ u).ownsRow B T s v n xs :=
  ownsRow_setCell_below h (a := ⟨b, i, none⟩) hb u

/-- A list of cells, each of a row of its own make, and an error. -/
def CelsErr (l : List Cel) (x : Int) (w : World) (e : Ending) (w' : World) : Prop :=
  ∃ v, e = .returned (.tuple #[v, .int .i64 x]) ∧ w'.ownsRow w.heap.size 62 5 v l.length (tcells l) ∧ Below w.heap.size w w'
theorem info_cel : (Try.prog.info? 62).map (fun i => (i.zero, i.size, i.bytes)) = some (some (.agg #[.int .i64 0, .int .i64 0, .int .i64 0, .int .i64 0, .int .i64 0]), 5, 40) := by kernel_rfl
theorem newsT (w : World) (x : Cel) (T : TypeId) (H : Nat) (hH : w.heap.size = H) : ∀ j u, (tcells [x])[j]? = some u → (w.alloc (.cells #[.int .i64 x.d.1, .int .i64 x.d.2, .int .i64 x.key, .int .i64 x.col, .int .i64 x.val] T)).cell? ((⟨H, 0, none⟩ : Addr).add j) = some u := by
  intro j u hu
  subst hH
  rw [add_none, Nat.zero_add, cell_of_row _ _ j _ _ _ (heap_alloc_new w _)]
  simpa using hu
theorem tcells_snoc (l : List Cel) (x : Cel) : tcells (l ++ [x]) = tcells l ++ tcells [x] := by simp [tcells]
end Go.Proofs.Ytogegnikpjcpdaa
/- Contracts of slices.Sort and slices.Compact at []int, laid at this program by the shelf's own tools (lay-shelf.mjs, lay-plain.mjs). -/
namespace Go.Proofs
open Go.Shelf
def Try.lays189_ren : Go.Shelf.Ren := ⟨fun | 189 => 82 | 125 => 99 | 257 => 101 | 128 => 113 | 129 => 114 | 294 => 115 | 295 => 116 | 296 => 117 | 297 => 118 | 298 => 119 | 299 => 120 | 216 => 121 | 300 => 122 | 301 => 123 | 328 => 138 | 329 => 134 | 330 => 135 | 331 => 139 | 332 => 140 | 215 => 104 | 343 => 145 | n => n, fun | 28 => 72 | 3 => 3 | 46 => 115 | 0 => 0 | 51 => 129 | 53 => 131 | 4 => 4 | 183 => 122 | 182 => 121 | 131 => 126 | 5 => 5 | 9 => 9 | 218 => 143 | 222 => 147 | 228 => 153 | 229 => 154 | n => n, fun | n => n⟩
theorem Try.lays189 : Go.Proofs.Lays.n189 Try.prog Try.lays189_ren := {
  mixed := by kernel_rfl
  f125 := Try.func99.trans (congrArg some (by kernel_rfl))
  f128 := Try.func113.trans (congrArg some (by kernel_rfl))
  f129 := Try.func114.trans (congrArg some (by kernel_rfl))
  f189 := Try.func82.trans (congrArg some (by kernel_rfl))
  f215 := Try.func104.trans (congrArg some (by kernel_rfl))
  f216 := Try.func121.trans (congrArg some (by kernel_rfl))
  f257 := Try.func101.trans (congrArg some (by kernel_rfl))
  f294 := Try.func115.trans (congrArg some (by kernel_rfl))
  f295 := Try.func116.trans (congrArg some (by kernel_rfl))
  f296 := Try.func117.trans (congrArg some (by kernel_rfl))
  f297 := Try.func118.trans (congrArg some (by kernel_rfl))
  f298 := Try.func119.trans (congrArg some (by kernel_rfl))
  f299 := Try.func120.trans (congrArg some (by kernel_rfl))
  f300 := Try.func122.trans (congrArg some (by kernel_rfl))
  f301 := Try.func123.trans (congrArg some (by kernel_rfl))
  f328 := Try.func138.trans (congrArg some (by kernel_rfl))
  f329 := Try.func134.trans (congrArg some (by kernel_rfl))
  f330 := Try.func135.trans (congrArg some (by kernel_rfl))
  f331 := Try.func139.trans (congrArg some (by kernel_rfl))
  f332 := Try.func140.trans (congrArg some (by kernel_rfl))
  f343 := Try.func145.trans (congrArg some (by kernel_rfl))
  t0 := Try.underlying0
  a0 := Try.isAgg0
  z0 := Try.sizeOf0
  v0 := Try.zeroValue0
  t3 := Try.underlying3
  a3 := Try.isAgg3
  z3 := Try.sizeOf3
  v3 := Try.zeroValue3
  t4 := Try.underlying4
  a4 := Try.isAgg4
  z4 := Try.sizeOf4
  v4 := Try.zeroValue4
  t5 := Try.underlying5
  a5 := Try.isAgg5
  z5 := Try.sizeOf5
  v5 := Try.zeroValue5
  t9 := Try.underlying9
  a9 := Try.isAgg9
  z9 := Try.sizeOf9
  v9 := Try.zeroValue9
  t28 := Try.underlying72
  a28 := Try.isAgg72
  z28 := Try.sizeOf72
  v28 := Try.zeroValue72
  t46 := Try.underlying115
  a46 := Try.isAgg115
  z46 := Try.sizeOf115
  v46 := Try.zeroValue115
  t51 := Try.underlying129
  a51 := Try.isAgg129
  z51 := Try.sizeOf129
  v51 := Try.zeroValue129
  t53 := Try.underlying131
  a53 := Try.isAgg131
  z53 := Try.sizeOf131
  v53 := Try.zeroValue131
  t131 := Try.underlying126
  a131 := Try.isAgg126
  z131 := Try.sizeOf126
  v131 := Try.zeroValue126
  t182 := Try.underlying121
  a182 := Try.isAgg121
  z182 := Try.sizeOf121
  v182 := Try.zeroValue121
  t183 := Try.underlying122
  a183 := Try.isAgg122
  z183 := Try.sizeOf122
  v183 := Try.zeroValue122
  t218 := Try.underlying143
  a218 := Try.isAgg143
  z218 := Try.sizeOf143
  v218 := Try.zeroValue143
  t222 := Try.underlying147
  a222 := Try.isAgg147
  z222 := Try.sizeOf147
  v222 := Try.zeroValue147
  t228 := Try.underlying153
  a228 := Try.isAgg153
  z228 := Try.sizeOf153
  v228 := Try.zeroValue153
  t229 := Try.underlying154
  a229 := Try.isAgg154
  z229 := Try.sizeOf154
  v229 := Try.zeroValue154 }
open Go.Sort Go.RowKit in
theorem Try.slices_Sort_int (blk off cap : Nat) (zs : List Int) (w : World) (hH : Holds (Value.int .i64) w blk off zs.toArray) (hblk : blk < w.heap.size) (hsz : zs.length < 4611686018427387904) :
    Calls Try.prog 82 #[.slice (some ⟨blk, off, none⟩) zs.length cap] w fun e w' =>
      e = .returned (.tuple #[]) ∧ ∃ n os, w' = grow (putRow (Value.int .i64) (Sort.ahead w n) blk off (zs.mergeSort fun x y => decide (x ≤ y)).toArray) os := Any.slices_Sort_int Try.lays189 blk off cap zs w hH hblk hsz
def Try.laysNm220_ren : Go.Shelf.Ren := ⟨fun | 20 => 83 | n => n, fun | 22 => 72 | 3 => 3 | 4 => 4 | 0 => 0 | n => n, fun | n => n⟩
theorem Try.laysNm220 : Go.Proofs.Lays2.n20 Try.prog Try.laysNm220_ren := {
  mixed := by kernel_rfl
  f20 := Try.func83.trans (congrArg some (by kernel_rfl))
  t0 := Try.underlying0
  a0 := Try.isAgg0
  z0 := Try.sizeOf0
  v0 := Try.zeroValue0
  t3 := Try.underlying3
  a3 := Try.isAgg3
  z3 := Try.sizeOf3
  v3 := Try.zeroValue3
  t4 := Try.underlying4
  a4 := Try.isAgg4
  z4 := Try.sizeOf4
  v4 := Try.zeroValue4
  t22 := Try.underlying72
  a22 := Try.isAgg72
  z22 := Try.sizeOf72
  v22 := Try.zeroValue72
  i3 := by kernel_rfl }
open Go.RowKit Go.Lib Go.Sort in
theorem Try.slices_Compact_int_arr (blk off cap : Nat) (d : Array Int) (w : World) (hH : Holds encI w blk off d) (hsz : d.size ≤ 9223372036854775807) (hcap : d.size ≤ cap) :
    Calls Try.prog 83 #[.slice (some ⟨blk, off, none⟩) d.size cap] w fun e w' => e = .returned (.slice (some ⟨blk, off, none⟩) (compactUpTo d d.size).length cap) ∧ ∃ q, w' = putRow encI (Sort.ahead w q) blk off (compactUpTo d d.size ++ List.replicate (d.size - (compactUpTo d d.size).length) 0).toArray := Any.slices_Compact_int_arr Try.laysNm220 blk off cap d w hH hsz hcap
open Go.RowKit Go.Lib Go.Sort in
theorem Try.slices_Compact_int (blk off cap : Nat) (zs : List Int) (w : World) (hH : Holds (Value.int .i64) w blk off zs.toArray) (hsz : zs.length ≤ 9223372036854775807) (hcap : zs.length ≤ cap) :
    Calls Try.prog 83 #[.slice (some ⟨blk, off, none⟩) zs.length cap] w fun e w' => e = .returned (.slice (some ⟨blk, off, none⟩) (Lib.compact zs).length cap) ∧ ∃ q, w' = putRow (Value.int .i64) (Sort.ahead w q) blk off (Lib.compact zs ++ List.replicate (zs.length - (Lib.compact zs).length) 0).toArray := Any.slices_Compact_int Try.laysNm220 blk off cap zs w hH hsz hcap
open Go.RowKit Go.Lib Go.Sort in
theorem Try.slices_Compact_int_empty (a : Option Addr) (cap : Nat) (w : World) :
    Calls Try.prog 83 #[.slice a 0 cap] w fun e w' => e = .returned (.slice a 0 cap) ∧ w' = w := Any.slices_Compact_int_empty Try.laysNm220 a cap w
open Go.RowKit Go.Sort in
theorem Try.slices_Sort_int_none (p : Option Addr) (cap : Nat) (w : World) :
    Calls Try.prog 82 #[.slice p 0 cap] w fun e w' => e = .returned (.tuple #[]) ∧ w' = w := Any.slices_Sort_int_none Try.lays189 p cap w
end Go.Proofs
