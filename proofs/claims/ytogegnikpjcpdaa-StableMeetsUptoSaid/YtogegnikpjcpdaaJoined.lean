/- viewref.Joined. -/
import Derived.Test.YtogegnikpjcpdaaJoin
namespace Go.Proofs.Ytogegnikpjcpdaa
set_option linter.unusedVariables false
open Go.ChangeShapes Go.WideShapes Go.ChangeAt Go.RowKit

def mxA (a b : Ctx) (i : Nat) : Array Value := #[.int .i64 (if 0 < i then max a.c0 b.c0 else a.c0), .int .i64 (if 1 < i then max a.c1 b.c1 else a.c1), .int .i64 (if 2 < i then max a.c2 b.c2 else a.c2), .int .i64 (if 3 < i then max a.c3 b.c3 else a.c3)]
theorem mx_get (a b : Ctx) (i : Nat) (h : i < 4) : (mxA a b i)[i]? = some (.int .i64 (a.at_ i)) := by
  rcases (by omega : i = 0 ∨ i = 1 ∨ i = 2 ∨ i = 3) with e | e | e | e <;> subst e <;> rfl
theorem mx_set (a b : Ctx) (i : Nat) (h : i < 4) (hc : a.at_ i < b.at_ i) : (mxA a b i).setIfInBounds i (.int .i64 (b.at_ i)) = mxA a b (i + 1) := by
  rcases (by omega : i = 0 ∨ i = 1 ∨ i = 2 ∨ i = 3) with e | e | e | e <;> subst e <;> simp [mxA, Ctx.at_] at * <;> omega
theorem mx_keep (a b : Ctx) (i : Nat) (h : i < 4) (hc : ¬ a.at_ i < b.at_ i) : mxA a b i = mxA a b (i + 1) := by
  rcases (by omega : i = 0 ∨ i = 1 ∨ i = 2 ∨ i = 3) with e | e | e | e <;> subst e <;> simp [mxA, Ctx.at_] at * <;> omega
theorem mx_zero (a b : Ctx) : mxA a b 0 = #[.int .i64 a.c0, .int .i64 a.c1, .int .i64 a.c2, .int .i64 a.c3] := rfl
theorem mx_four (a b : Ctx) : mxA a b 4 = #[.int .i64 (max a.c0 b.c0), .int .i64 (max a.c1 b.c1), .int .i64 (max a.c2 b.c2), .int .i64 (max a.c3 b.c3)] := rfl

set_option maxHeartbeats 4000000 in
set_option maxRecDepth 100000 in
theorem joined_any (a b : Ctx) (A B : Option Addr) (k m : Nat) (w : World) (ra : Row w w.heap.size A (dcells a.cloud)) (la : a.cloud.length ≤ 400)
    (rb : Row w w.heap.size B (dcells b.cloud)) (lb : b.cloud.length ≤ 400) (ha : okC a) (hb : okC b) :
    Calls Try.prog 29 #[cval a A k, cval b B m] w (CtxErr (if 400 < (joinC a b).cloud.length then ⟨0, 0, 0, 0, []⟩ else joinC a b) (if 400 < (joinC a b).cloud.length then 2 else 0) w) := by
  have RA := hid ra
  have RB := hid rb
  obtain ⟨JX, hJX⟩ : ∃ JX, JX = (if 400 < (joinC a b).cloud.length then ⟨0, 0, 0, 0, []⟩ else joinC a b) := ⟨_, rfl⟩
  obtain ⟨JE, hJE⟩ : ∃ JE : Int, JE = (if 400 < (joinC a b).cloud.length then 2 else 0) := ⟨_, rfl⟩
  rw [← hJX, ← hJE]
  have HJX := hid hJX
  have HJE := hid hJE
  clear hJX hJE
  have HRT := hid (show ∀ d ∈ a.cloud ++ b.cloud, rightB d.1 d.2 = true from fun d hd => by
    rcases List.mem_append.1 hd with h | h
    · exact (ha.2.1 d h).1
    · exact (hb.2.1 d h).1)
  have HCK := hid (show clkIn ⟨max a.c0 b.c0, max a.c1 b.c1, max a.c2 b.c2, max a.c3 b.c3, []⟩ by
    have h1 := ha.1
    have h2 := hb.1
    unfold clkIn at *
    simp only
    omega)
  have MG := hid (mx_get a b)
  have MS := hid (mx_set a b)
  have MK := hid (mx_keep a b)
  have M0 := hid (mx_zero a b)
  have M4 := hid (mx_four a b)
  have CELB := hid (fun n h0 h4 v => at_cell b n h0 h4 v)
  clear ra rb ha hb
  go_enter Try.func29, Try.ntmps29
  simp only [cval]
  go_wp2
  obtain ⟨P, hP⟩ : ∃ P, P = w.heap.size + 1 + 1 + 1 := ⟨_, rfl⟩
  rw [← hP, ← M0.out]
  obtain ⟨W0, hW0⟩ : ∃ W0 : World, W0 = (((w.alloc (.cells (cbox a A k) 25)).alloc (.cells (cbox b B m) 25)).alloc (.cells #[.int .i64 0, .int .i64 0, .int .i64 0, .int .i64 0, .slice none 0 0] 25)).alloc (.cells (mxA a b 0) 22) := ⟨_, rfl⟩
  simp only [cbox] at hW0
  rw [← hW0]
  have hB0 : Below w.heap.size w W0 := by rw [hW0]; (repeat' (first | (with_reducible exact Below.refl _ _) | (with_reducible assumption) | (with_reducible refine below_drewN ?_ _) | (with_reducible refine Below.drew ?_) | (with_reducible refine Below.alloc ?_ ?_ _) | (with_reducible refine Below.setCell ?_ ?_ _) | (refine Below.trans ?_ (Below.mono (by assumption) ?_)) | go_size))
  have hXa : Blk W0 w.heap.size (cbox a A k) 25 := by rw [hW0]; exact (((Blk.new w _ _).alloc _).alloc _).alloc _
  have hXb : Blk W0 (w.heap.size + 1) (cbox b B m) 25 := by rw [hW0]; exact ((Blk.new' (w.alloc _) _ _ (by simp)).alloc _).alloc _
  have hXr : Blk W0 (w.heap.size + 1 + 1) #[.int .i64 0, .int .i64 0, .int .i64 0, .int .i64 0, .slice none 0 0] 25 := by rw [hW0]; exact (Blk.new' ((w.alloc _).alloc _) _ _ (by simp)).alloc _
  have hXp : Blk W0 P (mxA a b 0) 22 := by rw [hW0]; exact Blk.new' (((w.alloc _).alloc _).alloc _) _ _ (by simp [hP])
  have hPl : w.heap.size + 1 + 1 < P := by omega
  have HB0 := hid hB0
  have HXA := hid hXa
  have HXB := hid hXb
  have HXR := hid hXr
  have HXP := hid hXp
  clear hW0 hB0 hXa hXb hXr hXp hP
  go_loopw [7] (fun s7 wr => ∃ i : Nat, i ≤ 4 ∧ s7 = .int .i64 i ∧ Blk wr P (mxA a b i) 22 ∧ Below P W0 wr) (fun s7 _ => 4 - (intOf s7).toNat)
  case atStart => exact ⟨0, by omega, rfl, HXP.out, Below.refl _ _⟩
  case round =>
    obtain ⟨i, hi, rfl, hp, hbw⟩ := hrel
    by_cases hlt : i < 4
    · have xb := (HXB.out.thru hbw (by omega)).cells.1
      have heb := CELB.out i (by omega) (by omega) (.slice B b.cloud.length m)
      have eb : wr.cell? ⟨w.heap.size + 1, i, none⟩ = some (.int .i64 (b.at_ i)) := by rw [xb]; exact heb
      have ep : wr.cell? ⟨P, i, none⟩ = some (.int .i64 (a.at_ i)) := by rw [hp.cells.1]; exact MG.out i hlt
      have fp := hp.cells.2 i
      have ti : decide ((i : Int) < 4) = true := by simp; omega
      have ti2 : (i : Int) < 4 := by omega
      have HP := hid hp
      have HBW := hid hbw
      have np : ¬ (w.heap.size + 1 = P) := by omega
      clear xb heb hp hbw
      by_cases hc : a.at_ i < b.at_ i
      · have tc : decide (a.at_ i < b.at_ i) = true := by simpa using hc
        have HS := hid (MS.out i hlt hc)
        go_wp2
        refine wp_region_quiet_lit (by kernel_rfl) (by kernel_rfl) ?_
        repeat (any_goals ((with_reducible refine wpQuiet_step (fun K hK => ?_)); go_simp; first | (with_reducible refine hK _ ?_; clear hK K) | ((with_reducible apply Exists.intro); (with_reducible refine ⟨fun _ => ?_, hK _ ?_⟩); (fail); clear hK K) | ((with_reducible refine (if_neg ?_).mpr (hK _ ?_)); (decide); clear hK K) | (split <;> (with_reducible refine hK _ ?_; clear hK K))))
        all_goals ((with_reducible refine wpQuiet_nil ?_); intro _ hw'; obtain ⟨nq, hw''⟩ := hw'; subst hw'')
        go_wp2
        go_roundw
        case rel =>
          refine ⟨i + 1, by omega, by go_num, ?_, ?_⟩
          · rw [← HS.out]; exact (HP.out.drewN nq).set i _
          · exact (below_drewN HBW.out nq).setCell (Nat.le_refl _) _
        case measure => simp [intOf]; omega
      · have tc : decide (a.at_ i < b.at_ i) = false := by simpa using hc
        have HS := hid (MK.out i hlt (by omega))
        go_wp2
        refine wp_region_quiet_lit (by kernel_rfl) (by kernel_rfl) ?_
        repeat (any_goals ((with_reducible refine wpQuiet_step (fun K hK => ?_)); go_simp; first | (with_reducible refine hK _ ?_; clear hK K) | ((with_reducible apply Exists.intro); (with_reducible refine ⟨fun _ => ?_, hK _ ?_⟩); (fail); clear hK K) | ((with_reducible refine (if_neg ?_).mpr (hK _ ?_)); (decide); clear hK K) | (split <;> (with_reducible refine hK _ ?_; clear hK K))))
        all_goals ((with_reducible refine wpQuiet_nil ?_); intro _ hw'; obtain ⟨nq, hw''⟩ := hw'; subst hw'')
        go_wp2
        go_roundw
        case rel =>
          refine ⟨i + 1, by omega, by go_num, ?_, ?_⟩
          · rw [← HS.out]; exact HP.out.drewN nq
          · exact below_drewN HBW.out nq
        case measure => simp [intOf]; omega
    · have e : i = 4 := by omega
      rw [e, M4.out] at hp
      obtain ⟨W2, rfl⟩ : ∃ W2 : World, W2 = wr := ⟨_, rfl⟩
      have hXa := HXA.out.thru hbw (by omega)
      have hXb := HXB.out.thru hbw (by omega)
      have HXR2 := hid (HXR.out.thru hbw (by omega))
      have hBW : Below w.heap.size w W2 := HB0.out.trans (hbw.mono (by omega))
      have ra2 := RA.out.step hBW
      have rb2 := RB.out.step hBW
      have HAL := hid (fun w1 (hb : Below W2.heap.size W2 w1) => ra2.step hb)
      have HBL := hid (fun w1 (hb : Below W2.heap.size W2 w1) => rb2.step hb)
      obtain ⟨ca, fa, sa, na⟩ := hXa.all
      obtain ⟨cb, fb, sb, nb⟩ := hXb.all
      obtain ⟨cp, fp, sp, np⟩ := hp.all
      simp only [cbox] at ca cb
      have HBW := hid hBW
      have ti : decide ((i : Int) < 4) = false := by simp; omega
      clear hXa hXb hp hBW hbw ra2 rb2 e
      go_upto_region 7 with fail
      clear ti
      have hlr : ∀ d ∈ a.cloud ++ b.cloud, rightB d.1 d.2 = true := HRT.out
      have hlen : a.cloud.length + b.cloud.length = (a.cloud ++ b.cloud).length := by simp
      have hdc : dcells a.cloud ++ dcells b.cloud = dcells (a.cloud ++ b.cloud) := by simp [dcells]
      have hl8 : (a.cloud ++ b.cloud).length ≤ 800 := by omega
      obtain ⟨c, hc⟩ : ∃ c, c = packL (max a.c0 b.c0) (max a.c1 b.c1) (max a.c2 b.c2) (max a.c3 b.c3) (a.cloud ++ b.cloud) := ⟨_, rfl⟩
      have HPK := hid (fun w1 A6 c6 (hr : Row w1 w1.heap.size A6 (dcells (a.cloud ++ b.cloud))) => Rpacked_any (max a.c0 b.c0) (max a.c1 b.c1) (max a.c2 b.c2) (max a.c3 b.c3) (a.cloud ++ b.cloud) A6 c6 w1 hr (by omega) HCK.out hlr)
      rw [← hc] at HPK
      have hjc : joinC a b = c := hc.symm
      rw [hjc] at HJX HJE
      clear hjc
      have HC := hid hc
      have HLEN := hid hlen
      have HDC := hid hdc
      generalize a.cloud ++ b.cloud = l at *
      clear hlr hlen hdc hc
      have hszw := HBW.out.size
      go_cut [8] from 29 to 36 (fun s8 wx => ∃ X A' kk, s8 = .pointer (some ⟨X, 0, none⟩) ∧ Blk wx X (cbox c A' kk) 25 ∧ Row wx wx.heap.size A' (dcells c.cloud) ∧ NewAt W2.heap.size A' ∧ Below W2.heap.size W2 wx)
      case first =>
        have hlb : (dcells b.cloud).length = b.cloud.length * 2 := by rw [dcells_len]; omega
        have hmx : a.cloud.length + b.cloud.length ≤ maxLen := by simp only [maxLen]; omega
        have hby2 : (a.cloud.length + b.cloud.length) * 16 ≤ 140737488355328 := by omega
        have hla : (dcells a.cloud).length = a.cloud.length * 2 := by rw [dcells_len]; omega
        have hmx0 : 0 + a.cloud.length ≤ maxLen := by simp only [maxLen]; omega
        have hby0 : (0 + a.cloud.length) * 16 ≤ 140737488355328 := by omega
        have tok1 : True := trivial
        go_region_held3 (fun w' => (∀ b o, b < W2.heap.size → w'.cell? ⟨b, o, none⟩ = W2.cell? ⟨b, o, none⟩) ∧ Below W2.heap.size W2 w')
          ((go_split_ands; refine keepS ?_; first | (with_reducible assumption) | (with_reducible exact (Below.refl _ _).drew) | (with_reducible exact (alloc_below (Below.refl _ _) _).drew) | (with_reducible refine alloc_below ?_ _; with_reducible assumption) | (with_reducible refine Below.drew (alloc_below ?_ _); with_reducible assumption) | (with_reducible refine Below.set5 ?_ ?_ _ _ _ _ _; with_reducible assumption; first | exact Nat.le_refl _ | (refine Below.size (B := W2.heap.size) (w := W2) ?_; with_reducible assumption))))
          (first
            | (have _t := tok1; go_split_ands; refine step_append_row el_dot (by rfl) _ _ (by rfl) _ (.slice none 0 0) 0 [] (by rfl) (World.ownsRow_nil _ _ _ _) A a.cloud.length k _ (dcells a.cloud) (by rfl) hla (HAL.out _ (by with_reducible assumption)) (dcells_one _) hmx0 hby0 (Nat.le_refl _) ?_; clear tok1; intro v5 w5 hown5 hg5 _; rw [Nat.zero_add, List.nil_append] at hown5; have hB5 := below_grown_nil (by with_reducible assumption : Below W2.heap.size W2 _) hg5; have hs5 := hg5.size; (try have x5 := Blk.grown' (show Blk (World.drew (W2.alloc (.cells #[.int .i64 0, .int .i64 0, .int .i64 0, .int .i64 0, .slice none 0 0] 25))) W2.heap.size #[.int .i64 0, .int .i64 0, .int .i64 0, .int .i64 0, .slice none 0 0] 25 from Blk.new W2 #[.int .i64 0, .int .i64 0, .int .i64 0, .int .i64 0, .slice none 0 0] 25) hg5 (by simp [Value.ownBlock])))
            | (go_split_ands; go_at_call 20; refine (HPK.out _ A6 c6 (Row.of_own hown6)).mono ?_; rintro e w9 ⟨A', kk, rfl, hrow9, hb9, hnew9⟩; have hB9 := Below.step' (by with_reducible assumption : Below W2.heap.size W2 _) hb9; (try have x9 := Blk.step x6 hb9); (try have x9 := Blk.step (Blk.new w6 #[.int .i64 0, .int .i64 0, .int .i64 0, .int .i64 0, .slice none 0 0] 25) hb9); (try obtain ⟨⟨cx0, cx1, cx2, cx3, cx4⟩, fx0, fx1, fx2, fx3, fx4⟩ := x9.five))
            | (go_split_ands; go_at_call 20; refine (HPK.out _ A6 c6 (Row.of_own (World.ownsRow.alloc hown6 _))).mono ?_; rintro e w9 ⟨A', kk, rfl, hrow9, hb9, hnew9⟩; have hB9 := Below.step' (by with_reducible assumption : Below W2.heap.size W2 _) hb9; (try have x9 := Blk.step x6 hb9); (try have x9 := Blk.step (Blk.new w6 #[.int .i64 0, .int .i64 0, .int .i64 0, .int .i64 0, .slice none 0 0] 25) hb9); (try obtain ⟨⟨cx0, cx1, cx2, cx3, cx4⟩, fx0, fx1, fx2, fx3, fx4⟩ := x9.five))
            | (go_split_ands; refine step_append_row el_dot (by rfl) _ _ (by rfl) _ v5 a.cloud.length (dcells a.cloud) (by rfl) hown5 B b.cloud.length m _ (dcells b.cloud) (by rfl) hlb (HBL.out _ hB5) (dcells_one _) hmx hby2 hs5 ?_; intro v6 w6 hown6 hg6 _; rw [HLEN.out, HDC.out] at hown6; obtain ⟨A6, c6, rfl⟩ := own_form hown6; have hB6 := below_grown (by with_reducible assumption : Below W2.heap.size W2 _) hg6 hown5 (by simp); (try have x6 := Blk.grown' x5 hg6 (own_ne_lo hown5 _ (lt_alloc W2 _))); (try have x6 := Blk.grown' (Blk.new w5 #[.int .i64 0, .int .i64 0, .int .i64 0, .int .i64 0, .slice none 0 0] 25) hg6 (own_ne_hi hown5 _ (Nat.le_refl _))))
            | (go_split_ands; refine step_append_row el_dot (by rfl) _ _ (by rfl) _ v5 a.cloud.length (dcells a.cloud) (by rfl) (World.ownsRow.alloc hown5 _) B b.cloud.length m _ (dcells b.cloud) (by rfl) hlb (HBL.out _ (alloc_below hB5 _)) (dcells_one _) hmx hby2 (Nat.le_trans hs5 (le_alloc _ _)) ?_; intro v6 w6 hown6 hg6 _; rw [HLEN.out, HDC.out] at hown6; obtain ⟨A6, c6, rfl⟩ := own_form hown6; have hB6 := below_grown (by with_reducible assumption : Below W2.heap.size W2 _) hg6 hown5 (by simp); (try have x6 := Blk.grown' x5 hg6 (own_ne_lo hown5 _ (lt_alloc W2 _))); (try have x6 := Blk.grown' (Blk.new w5 #[.int .i64 0, .int .i64 0, .int .i64 0, .int .i64 0, .slice none 0 0] 25) hg6 (own_ne_hi hown5 _ (Nat.le_refl _)))))
        · go_wp2
          go_meet
          case rel => exact ⟨w9.heap.size, A', kk, rfl, Blk.new w9 _ _, hrow9.alloc _, fun b off q e => Nat.le_trans hB6.size (hnew9 b off q e), alloc_below hB9 _⟩
        · go_wp2
          go_meet
          case rel => exact ⟨w6.heap.size, A', kk, rfl, Blk.set5 x9 _ _ _ _ _, Row.set5 hrow9 hnew9 (lt_alloc w6 _) _ _ _ _ _, fun b off q e => Nat.le_trans (Nat.le_trans hB6.size (le_alloc _ _)) (hnew9 b off q e), Below.set5 hB9 hB6.size _ _ _ _ _⟩
        · go_wp2
          go_meet
          case rel => exact ⟨w5.heap.size, A', kk, rfl, Blk.set5 x9 _ _ _ _ _, Row.set5 hrow9 hnew9 (Nat.lt_of_lt_of_le (lt_alloc w5 _) hg6.size) _ _ _ _ _, fun b off q e => Nat.le_trans hB6.size (hnew9 b off q e), Below.set5 hB9 hB5.size _ _ _ _ _⟩
        · go_wp2
          go_meet
          case rel => exact ⟨W2.heap.size, A', kk, rfl, Blk.set5 x9 _ _ _ _ _, Row.set5 hrow9 hnew9 (Nat.lt_of_lt_of_le (Nat.lt_of_lt_of_le (lt_alloc W2 _) hs5) hg6.size) _ _ _ _ _, fun b off q e => Nat.le_trans hB6.size (hnew9 b off q e), Below.set5 hB9 (Nat.le_refl _) _ _ _ _ _⟩
      case rest =>
        obtain ⟨X, A', kk, rfl, hX, hrow, hnew, hb⟩ := hcut
        obtain ⟨wx, rfl⟩ : ∃ wx : World, wx = wc := ⟨_, rfl⟩
        have hR := HXR2.out.step hb
        obtain ⟨⟨cx0, cx1, cx2, cx3, cx4⟩, -⟩ := hX.five
        obtain ⟨⟨cr0, cr1, cr2, cr3, cr4⟩, fr0, fr1, fr2, fr3, fr4⟩ := hR.five
        have hBX := Below.step' HBW.out hb
        have hsz2 := HXR2.out.lt
        have hszx := hb.size
        by_cases h4 : 400 < c.cloud.length
        · have HR5 := hid (Blk.set5 hR (.int .i64 0) (.int .i64 0) (.int .i64 0) (.int .i64 0) (.slice none 0 0))
          have HB5 := hid (Below.set5 hBX (Nat.le_of_lt (show w.heap.size < w.heap.size + 1 + 1 by omega)) (.int .i64 0) (.int .i64 0) (.int .i64 0) (.int .i64 0) (.slice none 0 0))
          have hq : decide ((400 : Int) < (c.cloud.length : Int)) = true := by simp; omega
          clear hX hrow hnew hb hBX hR
          go_wp2
          obtain ⟨⟨q0, q1, q2, q3, q4⟩, -⟩ := HR5.out.five
          exact bodyPost_ret (v := .tuple #[cval ⟨0, 0, 0, 0, []⟩ none 0, .int .i64 2]) (by simp [results, Try.results29, go_sem, q0, q1, q2, q3, q4]) rfl ⟨none, 0, by rw [HJX.out, HJE.out, if_pos h4, if_pos h4], by rw [HJX.out, if_pos h4]; exact Row.nil, HB5.out, fun _ _ _ h => by cases h⟩
        · have HR5 := hid (Blk.set5 hR (.int .i64 c.c0) (.int .i64 c.c1) (.int .i64 c.c2) (.int .i64 c.c3) (.slice A' c.cloud.length kk))
          have HB5 := hid (Below.set5 hBX (Nat.le_of_lt (show w.heap.size < w.heap.size + 1 + 1 by omega)) (.int .i64 c.c0) (.int .i64 c.c1) (.int .i64 c.c2) (.int .i64 c.c3) (.slice A' c.cloud.length kk))
          have HROW := hid (Row.set5 hrow hnew hsz2 (.int .i64 c.c0) (.int .i64 c.c1) (.int .i64 c.c2) (.int .i64 c.c3) (.slice A' c.cloud.length kk))
          have hq : decide ((400 : Int) < (c.cloud.length : Int)) = false := by simp; omega
          have HN := hid hnew
          clear hX hrow hnew hb hBX hR
          go_wp2
          obtain ⟨⟨q0, q1, q2, q3, q4⟩, -⟩ := HR5.out.five
          exact bodyPost_ret (v := .tuple #[cval c A' kk, .int .i64 0]) (by simp [results, Try.results29, go_sem, q0, q1, q2, q3, q4]) rfl ⟨A', kk, by rw [HJX.out, HJE.out, if_neg h4, if_neg h4], by rw [HJX.out, if_neg h4]; exact HROW.out, HB5.out, fun b off q e => Nat.le_trans hszw (HN.out b off q e)⟩

end Go.Proofs.Ytogegnikpjcpdaa
