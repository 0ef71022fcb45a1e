/- dot.Join, viewref.Joined. -/
import Derived.Test.YtogegnikpjcpdaaMinus
import Derived.Test.YtogegnikpjcpdaaApp
namespace Go.Proofs.Ytogegnikpjcpdaa
set_option linter.unusedVariables false
open Go.ChangeShapes Go.WideShapes Go.ChangeAt Go.RowKit

def joinX (a b : Ctx) : Ctx := if twoI a b ≠ 0 then ⟨0, 0, 0, 0, []⟩ else if 400 < (joinC a b).cloud.length then ⟨0, 0, 0, 0, []⟩ else joinC a b
def joinE (a b : Ctx) : Int := if twoI a b ≠ 0 then twoI a b else if 400 < (joinC a b).cloud.length then 2 else 0

abbrev set5 (w : World) (b : Nat) (y0 y1 y2 y3 y4 : Value) : World := ((((w.setCell ⟨b, 0, none⟩ y0).setCell ⟨b, 1, none⟩ y1).setCell ⟨b, 2, none⟩ y2).setCell ⟨b, 3, none⟩ y3).setCell ⟨b, 4, none⟩ y4
theorem Blk.set5 {w : World} {b : Nat} {x0 x1 x2 x3 x4 : Value} {T : TypeId} (h : Blk w b #[x0, x1, x2, x3, x4] T) (y0 y1 y2 y3 y4 : Value) : Blk (set5 w b y0 y1 y2 y3 y4) b #[y0, y1, y2, y3, y4] T :=
  ((((h.set 0 y0).set 1 y1).set 2 y2).set 3 y3).set 4 y4
theorem Row.set5 {w : World} {b lo : Nat} {A : Option Addr} {xs : List Value} (h : Row w w.heap.size A xs) (hn : NewAt lo A) (hb : b < lo) (y0 y1 y2 y3 y4 : Value) : Row (set5 w b y0 y1 y2 y3 y4) (set5 w b y0 y1 y2 y3 y4).heap.size A xs :=
  (((((h.setCell_new hn (a := ⟨b, 0, none⟩) hb y0).setCell_new hn (a := ⟨b, 1, none⟩) hb y1).setCell_new hn (a := ⟨b, 2, none⟩) hb y2).setCell_new hn (a := ⟨b, 3, none⟩) hb y3).setCell_new hn (a := ⟨b, 4, none⟩) hb y4).more (by simp)
theorem Below.set5 {B : Nat} {a w : World} {b : Nat} (h : Below B a w) (hb : B ≤ b) (y0 y1 y2 y3 y4 : Value) : Below B a (set5 w b y0 y1 y2 y3 y4) :=
  ((((h.setCell (p := ⟨b, 0, none⟩) hb y0).setCell (p := ⟨b, 1, none⟩) hb y1).setCell (p := ⟨b, 2, none⟩) hb y2).setCell (p := ⟨b, 3, none⟩) hb y3).setCell (p := ⟨b, 4, none⟩) hb y4

theorem el_dot : Elem Try.prog 23 27 2 16 := by
  obtain ⟨i0, hi0, hz0, hz1, hz2⟩ := info_parts info_dot
  exact ⟨Try.underlying23, ⟨i0, _, hi0, hz0, hz1, hz2, rfl⟩, by decide⟩

set_option maxHeartbeats 4000000 in
set_option maxRecDepth 100000 in
theorem join_good (a b : Ctx) (A B : Option Addr) (k m : Nat) (w : World) (ra : Row w w.heap.size A (dcells a.cloud)) (la : a.cloud.length ≤ 400)
    (rb : Row w w.heap.size B (dcells b.cloud)) (lb : b.cloud.length ≤ 400) (ha : okC a) (hb : okC b) (h0 : twoI a b = 0) :
    Calls Try.prog 31 #[cval a A k, cval b B m] w (CtxErr (joinX a b) (joinE a b) w) := by
  have HBO := hid (fun w1 (hb : Below w.heap.size w w1) => both_any a b A B k m w1 (ra.step hb) (by omega) (rb.step hb) (by omega))
  rw [h0] at HBO
  have RA := hid ra
  have RB := hid rb
  obtain ⟨JX, hJX⟩ : ∃ JX, JX = joinX a b := ⟨_, rfl⟩
  obtain ⟨JE, hJE⟩ : ∃ JE, JE = joinE a b := ⟨_, rfl⟩
  rw [← hJX, ← hJE]
  have HJX := hid (show JX = if 400 < (joinC a b).cloud.length then ⟨0, 0, 0, 0, []⟩ else joinC a b by rw [hJX]; unfold joinX; rw [if_neg (by simp [h0])])
  have HJE := hid (show JE = if 400 < (joinC a b).cloud.length then 2 else 0 by rw [hJE]; unfold joinE; rw [if_neg (by simp [h0])])
  clear hJX hJE
  have HRT := hid (show ∀ d ∈ a.cloud ++ b.cloud, rightB d.1 d.2 = true from fun d hd => by
    rcases List.mem_append.1 hd with h | h
    · exact (ha.2.1 d h).1
    · exact (hb.2.1 d h).1)
  have HCK := hid (show clkIn ⟨max a.c0 b.c0, max a.c1 b.c1, max a.c2 b.c2, max a.c3 b.c3, []⟩ by
    have h1 := ha.1
    have h2 := hb.1
    unfold clkIn at *
    simp only
    omega)
  clear ra rb h0 ha hb
  obtain ⟨a0, a1, a2, a3, al⟩ := a
  obtain ⟨b0, b1, b2, b3, bl⟩ := b
  simp only [cval] at *
  have i0 := clk0 b0 b1 b2 b3
  have i1 := clk1 b0 b1 b2 b3
  have i2 := clk2 b0 b1 b2 b3
  have i3 := clk3 b0 b1 b2 b3
  go_enter Try.func31, Try.ntmps31
  go_wp2_with fail
  refine (HBO.out _ (by (repeat' (first | (with_reducible exact Below.refl _ _) | (with_reducible assumption) | (with_reducible refine below_drewN ?_ _) | (with_reducible refine Below.drew ?_) | (with_reducible refine Below.alloc ?_ ?_ _) | (with_reducible refine Below.setCell ?_ ?_ _) | (refine Below.trans ?_ (Below.mono (by assumption) ?_)) | go_size)))).mono ?_
  rintro e w1 ⟨rfl, hb1⟩
  have hB1 : Below w.heap.size w w1 := (by refine Below.step' ?_ hb1; (repeat' (first | (with_reducible exact Below.refl _ _) | (with_reducible assumption) | (with_reducible refine below_drewN ?_ _) | (with_reducible refine Below.drew ?_) | (with_reducible refine Below.alloc ?_ ?_ _) | (with_reducible refine Below.setCell ?_ ?_ _) | (refine Below.trans ?_ (Below.mono (by assumption) ?_)) | go_size)))
  have hXa : Blk w1 w.heap.size (cbox ⟨a0, a1, a2, a3, al⟩ A k) 25 := Blk.step (by exact ((Blk.new w _ _).alloc _).alloc _) hb1
  have hXb : Blk w1 (w.heap.size + 1) (cbox ⟨b0, b1, b2, b3, bl⟩ B m) 25 := Blk.step (by exact (Blk.new' (w.alloc _) _ _ (by simp)).alloc _) hb1
  have hXr : Blk w1 (w.heap.size + 1 + 1) #[.int .i64 0, .int .i64 0, .int .i64 0, .int .i64 0, .slice none 0 0] 25 := Blk.step (by exact Blk.new' ((w.alloc _).alloc _) _ _ (by simp)) hb1
  obtain ⟨ca, fa, sa, na⟩ := hXa.all
  obtain ⟨cb, fb, sb, nb⟩ := hXb.all
  obtain ⟨cr, fr, sr, nr⟩ := hXr.all
  simp only [cbox] at ca cb
  have HB1 := hid hB1
  have HXA := hid hXa
  have HXB := hid hXb
  have HXR := hid hXr
  clear hb1 hB1 hXa hXb hXr
  go_wp2
  go_rounds 5
  go_upto_region 10 with fail
  obtain ⟨P, hP⟩ : ∃ P, P = w1.heap.size := ⟨_, rfl⟩
  obtain ⟨W2, hW2⟩ : ∃ W2 : World, W2 = w1.alloc (.cells #[.int .i64 (max a0 b0), .int .i64 (max a1 b1), .int .i64 (max a2 b2), .int .i64 (max a3 b3)] 22) := ⟨_, rfl⟩
  rw [← hW2, ← hP]
  have hB2 : Below w1.heap.size w1 W2 := by rw [hW2]; (repeat' (first | (with_reducible exact Below.refl _ _) | (with_reducible assumption) | (with_reducible refine below_drewN ?_ _) | (with_reducible refine Below.drew ?_) | (with_reducible refine Below.alloc ?_ ?_ _) | (with_reducible refine Below.setCell ?_ ?_ _) | (refine Below.trans ?_ (Below.mono (by assumption) ?_)) | go_size))
  have hXp : Blk W2 P #[.int .i64 (max a0 b0), .int .i64 (max a1 b1), .int .i64 (max a2 b2), .int .i64 (max a3 b3)] 22 := by rw [hW2, hP]; exact Blk.new _ _ _
  have hXa := HXA.out.step hB2
  have hXb := HXB.out.step hB2
  have hXr := HXR.out.step hB2
  have hBW := Below.step' HB1.out hB2
  have ra2 := RA.out.step hBW
  have rb2 := RB.out.step hBW
  have hsz := hBW.size
  clear ca fa sa na cb fb sb nb cr fr sr nr i0 i1 i2 i3 hW2 hP hB2
  have HCL := hid (fun w1 (hb : Below W2.heap.size W2 w1) => clone_any al A k w1 (ra2.step hb) (by omega))
  have HBL := hid (fun w1 (hb : Below W2.heap.size W2 w1) => rb2.step hb)
  obtain ⟨ca, fa, sa, na⟩ := hXa.all
  obtain ⟨cb, fb, sb, nb⟩ := hXb.all
  obtain ⟨cp, fp, sp, np⟩ := hXp.all
  simp only [cbox] at ca cb
  have HXA2 := hid hXa
  have HXB2 := hid hXb
  have HXR2 := hid hXr
  have HXP2 := hid hXp
  have HBW := hid hBW
  clear hXa hXb hXr hXp hBW ra2 rb2 HXA HXB HXR HB1
  have hlr : ∀ d ∈ al ++ bl, rightB d.1 d.2 = true := HRT.out
  have hlen : al.length + bl.length = (al ++ bl).length := by simp
  have hdc : dcells al ++ dcells bl = dcells (al ++ bl) := by simp [dcells]
  have hl8 : (al ++ bl).length ≤ 800 := by omega
  obtain ⟨c, hc⟩ : ∃ c, c = packL (max a0 b0) (max a1 b1) (max a2 b2) (max a3 b3) (al ++ bl) := ⟨_, rfl⟩
  have HPK := hid (fun w1 A6 c6 (hr : Row w1 w1.heap.size A6 (dcells (al ++ bl))) => packed_any (max a0 b0) (max a1 b1) (max a2 b2) (max a3 b3) (al ++ bl) A6 c6 w1 hr (by omega) HCK.out hlr)
  rw [← hc] at HPK
  have hjc : joinC ⟨a0, a1, a2, a3, al⟩ ⟨b0, b1, b2, b3, bl⟩ = c := hc.symm
  rw [hjc] at HJX HJE
  clear hjc
  have HC := hid hc
  have HLEN := hid hlen
  have HDC := hid hdc
  generalize al ++ bl = l at *
  clear hlr hlen hdc hc
  have hszw := HBW.out.size
  go_cut [10] from 34 to 41 (fun s10 wx => ∃ X A' kk, s10 = .pointer (some ⟨X, 0, none⟩) ∧ Blk wx X (cbox c A' kk) 25 ∧ Row wx wx.heap.size A' (dcells c.cloud) ∧ NewAt W2.heap.size A' ∧ Below W2.heap.size W2 wx)
  case first =>
    have hlb : (dcells bl).length = bl.length * 2 := by rw [dcells_len]; omega
    have hmx : al.length + bl.length ≤ maxLen := by simp only [maxLen]; omega
    have hby2 : (al.length + bl.length) * 16 ≤ 140737488355328 := by omega
    go_region_held3 (fun w' => (∀ b o, b < W2.heap.size → w'.cell? ⟨b, o, none⟩ = W2.cell? ⟨b, o, none⟩) ∧ Below W2.heap.size W2 w')
      ((go_split_ands; refine keepS ?_; first | (with_reducible assumption) | (with_reducible exact (Below.refl _ _).drew) | (with_reducible exact (alloc_below (Below.refl _ _) _).drew) | (with_reducible refine alloc_below ?_ _; with_reducible assumption) | (with_reducible refine Below.drew (alloc_below ?_ _); with_reducible assumption) | (with_reducible refine Below.set5 ?_ ?_ _ _ _ _ _; with_reducible assumption; first | exact Nat.le_refl _ | (refine Below.size (B := W2.heap.size) (w := W2) ?_; with_reducible assumption))))
      (first
        | (go_split_ands; go_at_call 69; refine (HCL.out _ (by with_reducible assumption)).mono ?_; rintro e w5 ⟨v5, rfl, hown5, hb5⟩; have hB5 := Below.step' (by with_reducible assumption : Below W2.heap.size W2 _) hb5; (try have x5 := Blk.step (show Blk (World.drew (W2.alloc (.cells #[.int .i64 0, .int .i64 0, .int .i64 0, .int .i64 0, .slice none 0 0] 25))) W2.heap.size #[.int .i64 0, .int .i64 0, .int .i64 0, .int .i64 0, .slice none 0 0] 25 from Blk.new W2 #[.int .i64 0, .int .i64 0, .int .i64 0, .int .i64 0, .slice none 0 0] 25) hb5))
        | (go_split_ands; go_at_call 64; refine (HPK.out _ A6 c6 (Row.of_own hown6)).mono ?_; rintro e w9 ⟨A', kk, rfl, hrow9, hb9, hnew9⟩; have hB9 := Below.step' (by with_reducible assumption : Below W2.heap.size W2 _) hb9; (try have x9 := Blk.step x6 hb9); (try have x9 := Blk.step (Blk.new w6 #[.int .i64 0, .int .i64 0, .int .i64 0, .int .i64 0, .slice none 0 0] 25) hb9); (try obtain ⟨⟨cx0, cx1, cx2, cx3, cx4⟩, fx0, fx1, fx2, fx3, fx4⟩ := x9.five))
        | (go_split_ands; go_at_call 64; refine (HPK.out _ A6 c6 (Row.of_own (World.ownsRow.alloc hown6 _))).mono ?_; rintro e w9 ⟨A', kk, rfl, hrow9, hb9, hnew9⟩; have hB9 := Below.step' (by with_reducible assumption : Below W2.heap.size W2 _) hb9; (try have x9 := Blk.step x6 hb9); (try have x9 := Blk.step (Blk.new w6 #[.int .i64 0, .int .i64 0, .int .i64 0, .int .i64 0, .slice none 0 0] 25) hb9); (try obtain ⟨⟨cx0, cx1, cx2, cx3, cx4⟩, fx0, fx1, fx2, fx3, fx4⟩ := x9.five))
        | (go_split_ands; refine step_append_row el_dot (by rfl) _ _ (by rfl) _ v5 al.length (dcells al) (by rfl) hown5 B bl.length m _ (dcells bl) (by rfl) hlb (HBL.out _ hB5) (dcells_one _) hmx hby2 hb5.size ?_; intro v6 w6 hown6 hg6 _; rw [HLEN.out, HDC.out] at hown6; obtain ⟨A6, c6, rfl⟩ := own_form hown6; have hB6 := below_grown (by with_reducible assumption : Below W2.heap.size W2 _) hg6 hown5 (by simp); (try have x6 := Blk.grown' x5 hg6 (own_ne_lo hown5 _ (lt_alloc W2 _))); (try have x6 := Blk.grown' (Blk.new w5 #[.int .i64 0, .int .i64 0, .int .i64 0, .int .i64 0, .slice none 0 0] 25) hg6 (own_ne_hi hown5 _ (Nat.le_refl _))))
        | (go_split_ands; refine step_append_row el_dot (by rfl) _ _ (by rfl) _ v5 al.length (dcells al) (by rfl) (World.ownsRow.alloc hown5 _) B bl.length m _ (dcells bl) (by rfl) hlb (HBL.out _ (alloc_below hB5 _)) (dcells_one _) hmx hby2 (Nat.le_trans hb5.size (le_alloc _ _)) ?_; intro v6 w6 hown6 hg6 _; rw [HLEN.out, HDC.out] at hown6; obtain ⟨A6, c6, rfl⟩ := own_form hown6; have hB6 := below_grown (by with_reducible assumption : Below W2.heap.size W2 _) hg6 hown5 (by simp); (try have x6 := Blk.grown' x5 hg6 (own_ne_lo hown5 _ (lt_alloc W2 _))); (try have x6 := Blk.grown' (Blk.new w5 #[.int .i64 0, .int .i64 0, .int .i64 0, .int .i64 0, .slice none 0 0] 25) hg6 (own_ne_hi hown5 _ (Nat.le_refl _)))))
    · go_wp2
      go_meet
      case rel => exact ⟨w9.heap.size, A', kk, rfl, Blk.new w9 _ _, hrow9.alloc _, fun b off q e => Nat.le_trans hB6.size (hnew9 b off q e), alloc_below hB9 _⟩
    · go_wp2
      go_meet
      case rel => exact ⟨w6.heap.size, A', kk, rfl, Blk.set5 x9 _ _ _ _ _, Row.set5 hrow9 hnew9 (lt_alloc w6 _) _ _ _ _ _, fun b off q e => Nat.le_trans (Nat.le_trans hB6.size (le_alloc _ _)) (hnew9 b off q e), Below.set5 hB9 hB6.size _ _ _ _ _⟩
    · go_wp2
      go_meet
      case rel => exact ⟨w5.heap.size, A', kk, rfl, Blk.set5 x9 _ _ _ _ _, Row.set5 hrow9 hnew9 (Nat.lt_of_lt_of_le (lt_alloc w5 _) hg6.size) _ _ _ _ _, fun b off q e => Nat.le_trans hB6.size (hnew9 b off q e), Below.set5 hB9 hB5.size _ _ _ _ _⟩
    · go_wp2
      go_meet
      case rel => exact ⟨W2.heap.size, A', kk, rfl, Blk.set5 x9 _ _ _ _ _, Row.set5 hrow9 hnew9 (Nat.lt_of_lt_of_le (Nat.lt_of_lt_of_le (lt_alloc W2 _) hb5.size) hg6.size) _ _ _ _ _, fun b off q e => Nat.le_trans hB6.size (hnew9 b off q e), Below.set5 hB9 (Nat.le_refl _) _ _ _ _ _⟩
  case rest =>
    obtain ⟨X, A', kk, rfl, hX, hrow, hnew, hb⟩ := hcut
    obtain ⟨wx, rfl⟩ : ∃ wx : World, wx = wc := ⟨_, rfl⟩
    have hR := HXR2.out.step hb
    obtain ⟨⟨cx0, cx1, cx2, cx3, cx4⟩, -⟩ := hX.five
    obtain ⟨⟨cr0, cr1, cr2, cr3, cr4⟩, fr0, fr1, fr2, fr3, fr4⟩ := hR.five
    have hBX := Below.step' HBW.out hb
    have hsz2 := HXR2.out.lt
    have hszx := hb.size
    by_cases h4 : 400 < c.cloud.length
    · have HR5 := hid (Blk.set5 hR (.int .i64 0) (.int .i64 0) (.int .i64 0) (.int .i64 0) (.slice none 0 0))
      have HB5 := hid (Below.set5 hBX (Nat.le_of_lt (show w.heap.size < w.heap.size + 1 + 1 by omega)) (.int .i64 0) (.int .i64 0) (.int .i64 0) (.int .i64 0) (.slice none 0 0))
      have hq : decide ((400 : Int) < (c.cloud.length : Int)) = true := by simp; omega
      clear hX hrow hnew hb hBX hR
      go_wp2
      obtain ⟨⟨q0, q1, q2, q3, q4⟩, -⟩ := HR5.out.five
      exact bodyPost_ret (v := .tuple #[cval ⟨0, 0, 0, 0, []⟩ none 0, .int .i64 2]) (by simp [results, Try.results31, go_sem, q0, q1, q2, q3, q4]) rfl ⟨none, 0, by rw [HJX.out, HJE.out, if_pos h4, if_pos h4], by rw [HJX.out, if_pos h4]; exact Row.nil, HB5.out, fun _ _ _ h => by cases h⟩
    · have HR5 := hid (Blk.set5 hR (.int .i64 c.c0) (.int .i64 c.c1) (.int .i64 c.c2) (.int .i64 c.c3) (.slice A' c.cloud.length kk))
      have HB5 := hid (Below.set5 hBX (Nat.le_of_lt (show w.heap.size < w.heap.size + 1 + 1 by omega)) (.int .i64 c.c0) (.int .i64 c.c1) (.int .i64 c.c2) (.int .i64 c.c3) (.slice A' c.cloud.length kk))
      have HROW := hid (Row.set5 hrow hnew hsz2 (.int .i64 c.c0) (.int .i64 c.c1) (.int .i64 c.c2) (.int .i64 c.c3) (.slice A' c.cloud.length kk))
      have hq : decide ((400 : Int) < (c.cloud.length : Int)) = false := by simp; omega
      have HN := hid hnew
      clear hX hrow hnew hb hBX hR
      go_wp2
      obtain ⟨⟨q0, q1, q2, q3, q4⟩, -⟩ := HR5.out.five
      exact bodyPost_ret (v := .tuple #[cval c A' kk, .int .i64 0]) (by simp [results, Try.results31, go_sem, q0, q1, q2, q3, q4]) rfl ⟨A', kk, by rw [HJX.out, HJE.out, if_neg h4, if_neg h4], by rw [HJX.out, if_neg h4]; exact HROW.out, HB5.out, fun b off q e => Nat.le_trans hszw (HN.out b off q e)⟩

set_option maxHeartbeats 1000000 in
set_option maxRecDepth 100000 in
theorem join_bad (a b : Ctx) (A B : Option Addr) (k m : Nat) (w : World) (ra : Row w w.heap.size A (dcells a.cloud)) (la : a.cloud.length ≤ 9223372036854775807)
    (rb : Row w w.heap.size B (dcells b.cloud)) (lb : b.cloud.length ≤ 9223372036854775807) (h0 : twoI a b ≠ 0) :
    Calls Try.prog 31 #[cval a A k, cval b B m] w (CtxErr ⟨0, 0, 0, 0, []⟩ (twoI a b) w) := by
  have HBO := hid (fun w1 (hb : Below w.heap.size w w1) => both_any a b A B k m w1 (ra.step hb) la (rb.step hb) lb)
  have q2 : (twoI a b == 0) = false := by simpa using h0
  generalize twoI a b = I at *
  clear h0 ra rb
  obtain ⟨a0, a1, a2, a3, al⟩ := a
  obtain ⟨b0, b1, b2, b3, bl⟩ := b
  simp only [cval] at *
  go_enter Try.func31, Try.ntmps31
  go_wp2_with fail
  refine (HBO.out _ (by (repeat' (first | (with_reducible exact Below.refl _ _) | (with_reducible assumption) | (with_reducible refine below_drewN ?_ _) | (with_reducible refine Below.drew ?_) | (with_reducible refine Below.alloc ?_ ?_ _) | (with_reducible refine Below.setCell ?_ ?_ _) | (refine Below.trans ?_ (Below.mono (by assumption) ?_)) | go_size)))).mono ?_
  rintro e w1 ⟨rfl, hb1⟩
  have hB1 : Below w.heap.size w w1 := (by refine Below.step' ?_ hb1; (repeat' (first | (with_reducible exact Below.refl _ _) | (with_reducible assumption) | (with_reducible refine below_drewN ?_ _) | (with_reducible refine Below.drew ?_) | (with_reducible refine Below.alloc ?_ ?_ _) | (with_reducible refine Below.setCell ?_ ?_ _) | (refine Below.trans ?_ (Below.mono (by assumption) ?_)) | go_size)))
  have hR : Blk w1 (w.heap.size + 1 + 1) #[.int .i64 0, .int .i64 0, .int .i64 0, .int .i64 0, .slice none 0 0] 25 := Blk.step (by exact Blk.new' ((w.alloc _).alloc _) _ _ (by simp)) hb1
  obtain ⟨⟨cr0, cr1, cr2, cr3, cr4⟩, fr0, fr1, fr2, fr3, fr4⟩ := hR.five
  have HR5 := hid (Blk.set5 hR (.int .i64 0) (.int .i64 0) (.int .i64 0) (.int .i64 0) (.slice none 0 0))
  have HB5 := hid (Below.set5 hB1 (Nat.le_of_lt (show w.heap.size < w.heap.size + 1 + 1 by omega)) (.int .i64 0) (.int .i64 0) (.int .i64 0) (.int .i64 0) (.slice none 0 0))
  clear hb1 hB1 hR
  go_wp2
  obtain ⟨⟨q0, q1, q2, q3, q4⟩, -⟩ := HR5.out.five
  exact bodyPost_ret (v := .tuple #[cval ⟨0, 0, 0, 0, []⟩ none 0, .int .i64 I]) (by simp [results, Try.results31, go_sem, q0, q1, q2, q3, q4]) rfl ⟨none, 0, rfl, Row.nil, HB5.out, fun _ _ _ h => by cases h⟩

theorem twoI_zero {a b : Ctx} : twoI a b = 0 ↔ checkI a = 0 ∧ checkI b = 0 := by
  unfold twoI
  by_cases h : checkI a = 0 <;> simp [h]

theorem join_any (a b : Ctx) (A B : Option Addr) (k m : Nat) (w : World) (ra : Row w w.heap.size A (dcells a.cloud)) (la : a.cloud.length ≤ 9223372036854775807)
    (rb : Row w w.heap.size B (dcells b.cloud)) (lb : b.cloud.length ≤ 9223372036854775807) :
    Calls Try.prog 31 #[cval a A k, cval b B m] w (CtxErr (joinX a b) (joinE a b) w) := by
  by_cases h0 : twoI a b = 0
  · obtain ⟨h1, h2⟩ := twoI_zero.1 h0
    obtain ⟨h3, h4⟩ := (checkI_iff a).1 h1
    obtain ⟨h5, h6⟩ := (checkI_iff b).1 h2
    exact join_good a b A B k m w ra h4 rb h6 h3 h5 h0
  · have e1 : joinX a b = ⟨0, 0, 0, 0, []⟩ := by unfold joinX; rw [if_pos h0]
    have e2 : joinE a b = twoI a b := by unfold joinE; rw [if_pos h0]
    rw [e1, e2]
    exact join_bad a b A B k m w ra la rb lb h0

theorem minus_any (a b : Ctx) (A B : Option Addr) (k m : Nat) (w : World) (ra : Row w w.heap.size A (dcells a.cloud)) (la : a.cloud.length ≤ 9223372036854775807)
    (rb : Row w w.heap.size B (dcells b.cloud)) (lb : b.cloud.length ≤ 9223372036854775807) :
    Calls Try.prog 33 #[cval a A k, cval b B m] w (DotsErr (minusX a b) (minusE a b) w) := by
  by_cases h0 : twoI a b = 0
  · obtain ⟨h1, h2⟩ := twoI_zero.1 h0
    obtain ⟨h3, h4⟩ := (checkI_iff a).1 h1
    obtain ⟨h5, h6⟩ := (checkI_iff b).1 h2
    have e1 : minusX a b = (if 400 < (clkAll a b ++ cldAll a b).length then [] else (clkAll a b ++ cldAll a b).mergeSort dotLe) := by unfold minusX; rw [if_neg (by simp [h0])]
    have e2 : minusE a b = (if 400 < (clkAll a b ++ cldAll a b).length then 2 else 0) := by unfold minusE; rw [if_neg (by simp [h0])]
    rw [e1, e2]
    exact minus_good a b A B k m w ra h4 rb h6 h3.1 h5.1 h0
  · have e1 : minusX a b = [] := by unfold minusX; rw [if_pos h0]
    have e2 : minusE a b = twoI a b := by unfold minusE; rw [if_pos h0]
    rw [e1, e2]
    exact minus_bad a b A B k m w ra la rb lb h0
end Go.Proofs.Ytogegnikpjcpdaa
