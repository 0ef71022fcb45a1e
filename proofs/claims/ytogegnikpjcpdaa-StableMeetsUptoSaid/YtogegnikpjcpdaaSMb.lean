/- viewkeep.StableMeets: the walk. -/
import Derived.Test.YtogegnikpjcpdaaSMa
import Derived.Deep.CutBlock
import Derived.Deep.CutRange
namespace Go.Proofs.Ytogegnikpjcpdaa
set_option linter.unusedVariables false
open Go.ChangeShapes Go.WideShapes Go.ChangeAt Go.RowKit

theorem smF_any (x : CR) (X : Nat) (d : Int × Int) (w : World) (hX : Blk w X #[.int .i64 d.1, .int .i64 d.2] 27) (rb : Row w w.heap.size x.A (dcells x.c.cloud)) (lb : x.c.cloud.length ≤ 9223372036854775807) :
    Calls Try.prog 38 #[cval x.c x.A x.k, .pointer (some ⟨X, 0, none⟩)] w fun e w' => e = .returned (.bool (!hasB x.c d)) ∧ Below w.heap.size w w' := by
  have HH := hid (fun w1 (hb : Below w.heap.size w w1) => has_any x.c d x.A x.k w1 (rb.step hb) lb)
  have hlt := hX.lt
  obtain ⟨c1, f1⟩ := hX.cells
  clear hX rb f1
  obtain ⟨d0, d1⟩ := d
  obtain ⟨⟨b0, b1, b2, b3, bl⟩, B, m⟩ := x
  simp only [cval, dval] at *
  generalize hasB ⟨b0, b1, b2, b3, bl⟩ (d0, d1) = I at *
  go_enter Try.func38, Try.ntmps38
  go_wp2_with fail
  refine (HH.out _ (by (repeat' (first | (with_reducible exact Below.refl _ _) | (with_reducible assumption) | (with_reducible refine below_drewN ?_ _) | (with_reducible refine Below.drew ?_) | (with_reducible refine Below.alloc ?_ ?_ _) | (with_reducible refine Below.setCell ?_ ?_ _) | (refine Below.trans ?_ (Below.mono (by assumption) ?_)) | go_size)))).mono ?_
  rintro e w1 ⟨rfl, hb1⟩
  go_wp2
  go_ret
  exact ⟨rfl, (by refine Below.step' ?_ hb1; (repeat' (first | (with_reducible exact Below.refl _ _) | (with_reducible assumption) | (with_reducible refine below_drewN ?_ _) | (with_reducible refine Below.drew ?_) | (with_reducible refine Below.alloc ?_ ?_ _) | (with_reducible refine Below.setCell ?_ ?_ _) | (refine Below.trans ?_ (Below.mono (by assumption) ?_)) | go_size)))⟩
theorem enters_smF : ∀ args w, (callFunc 38 args).run Try.prog w = .ok (.enter 38 args) w := enters_of Try.func38 (by kernel_rfl) rfl

theorem neq_clk (a b c d a' b' c' d' : Int) (w : World) : (binOp .neq 22 (.agg #[.int .i64 a, .int .i64 b, .int .i64 c, .int .i64 d]) (.agg #[.int .i64 a', .int .i64 b', .int .i64 c', .int .i64 d'])).run Try.prog w = .ok (.bool (!(a == a' && b == b' && c == c' && d == d'))) w := by
  simp only [run_neq_struct, equalIn_clk, Result.andThen_ok]
theorem Blk.row {w : World} {b : Nat} {cs : Array Value} {T : TypeId} (h : Blk w b cs T) : Row w w.heap.size (some ⟨b, 0, none⟩) cs.toList :=
  .inr ⟨b, 0, rfl, h.lt, fun j u hu => by rw [Nat.zero_add, h.cells.1]; simpa using hu⟩
theorem atw {P : Program} {o : Oper} {a : Act} {K : Act → World → Prop} {Q : Exit → Act → World → Prop} {E p : Prop} [Decidable p] (w : World) (h : if p then Oper.wp P o a w K Q else E) : if p then Oper.wp P o a w K Q else E := h
theorem sz_alloc (w : World) (o : Obj) : w.heap.size + 1 = (w.alloc o).heap.size := by simp
theorem lt_alloc2 (w : World) (o o' : Obj) : w.heap.size < ((w.alloc o).alloc o').heap.size := by simp; omega
theorem lt_alloc2' (w : World) (o o' : Obj) : w.heap.size + 1 < ((w.alloc o).alloc o').heap.size := by simp
theorem below_grownS {W w w' : World} {B n size : Nat} {T : TypeId} {v : Value} {xs : List Value} (h : Below W.heap.size W w) (hg : w.grownBy w' v.ownBlock) {w0 : World} (ho : w0.ownsRow B T size v n xs) (hB : W.heap.size ≤ B) : Below W.heap.size W w' := below_grown h hg ho hB

theorem meet_lit (L : List CR) (n k : Nat) (c : Ctx) (x : Int) (hn : n = L.length) (hc : meetX (CR.ctxs L) = c) (hx : meetE (CR.ctxs L) = x) (A : Option Addr) (w : World) (hr : RowC w w.heap.size A L) (hl : L.length ≤ 2097152) :
    Calls Try.prog 35 #[.slice A n k] w (CtxErr c x w) := by
  subst hn hc hx
  exact meet_any L A k w hr hl

set_option maxHeartbeats 8000000 in
set_option maxRecDepth 100000 in
theorem sm_any (L : List CR) (c : Ctx) (d : Int × Int) (A C : Option Addr) (n k : Nat) (w : World) (rl : RowC w w.heap.size A L) (ll : L.length ≤ 1048576) (rc : Row w w.heap.size C (dcells c.cloud)) (lc : c.cloud.length ≤ 9223372036854775807) :
    Calls Try.prog 7 #[.slice A L.length n, cval c C k, dval d] w fun e w' => e = .returned (.bool true) ∧ Below w.heap.size w w' := by
  have HML := hid (fun w1 (hb : Below w.heap.size w w1) => meet_any L A n w1 (rl.step hb) (by omega))
  have HCN := hid (fun w1 (hb : Below w.heap.size w w1) => cloneC_any L A n w1 (rl.step hb).1 ll)
  have HMM := hid (fun w1 A6 c6 (hb : Below w.heap.size w w1) (hr : Row w1 w1.heap.size A6 (ccells L ++ CR.cells ⟨c, C, k⟩)) => meet_lit (L ++ [⟨c, C, k⟩]) (L.length + 1) c6 (meetX (CR.ctxs L ++ [c])) (meetE (CR.ctxs L ++ [c])) (by simp) (by simp) (by simp) A6 w1
    ⟨by simpa [ccells] using hr, fun x hx => by
      rcases List.mem_append.1 hx with h | h
      · exact (rl.step hb).2 x h
      · simp only [List.mem_singleton] at h; subst h; exact ⟨rc.step hb, lc⟩⟩ (by simp; omega))
  have HM1 := hid (fun w1 A6 c6 (hb : Below w.heap.size w w1) (hr : Row w1 w1.heap.size A6 (CR.cells ⟨c, C, k⟩)) => meet_lit [⟨c, C, k⟩] 1 c6 (meetX [c]) (meetE [c]) rfl rfl rfl A6 w1
    ⟨by simpa [ccells] using hr, fun x hx => by simp only [List.mem_singleton] at hx; subst hx; exact ⟨rc.step hb, lc⟩⟩ (by simp))
  have HCK := hid (fun w1 (hb : Below w.heap.size w w1) => check_any c C k w1 (rc.step hb) lc)
  have RC := hid (fun w1 (hb : Below w.heap.size w w1) => rc.step hb)
  have HCF := hid (fun w1 X (hb : Below w.heap.size w w1) (hX : Blk w1 X #[.int .i64 d.1, .int .i64 d.2] 27) => containsFuncC_any 38 #[.pointer (some ⟨X, 0, none⟩)] (fun c => !hasB c d) L A n w1 (rl.step hb) (by omega) enters_smF
    (fun w2 hb2 x hx => smF_any x X d w2 (hX.step hb2) (((rl.step hb).step hb2).2 x hx).1 (rl.2 x hx).2))
  have HAL := hid (not_anyC (CR.ctxs L) (fun c => hasB c d))
  obtain ⟨M, hM⟩ : ∃ M, M = CR.ctxs L := ⟨_, rfl⟩
  rw [← hM] at HML HMM HCF HAL
  clear hM rl
  have LC := hid lc
  have HXL := meetX_len M
  have HXL2 := meetX_len (M ++ [c])
  have HXL1 := meetX_len [c]
  have HF := hid (@meet_facts M)
  have HLS := hid (@meet_less M c)
  have HA1 := hid (meet_alone c)
  have NQ := neq_clk
  have NG := guard_clk
  have H2 := hid (fun w1 A6 A7 k7 (hr : Row w1 w1.heap.size A6 (CR.cells ⟨⟨3, 1, 0, 0, []⟩, none, 0⟩ ++ CR.cells ⟨⟨2, 0, 0, 0, [(1, 2)]⟩, A7, k7⟩)) (hr2 : Row w1 w1.heap.size A7 (dcells [(1, 2)])) =>
    meet_lit [⟨⟨3, 1, 0, 0, []⟩, none, 0⟩, ⟨⟨2, 0, 0, 0, [(1, 2)]⟩, A7, k7⟩] 2 2 ⟨2, 0, 0, 0, []⟩ 0 rfl meet_two.2 meet_two.1 A6 w1
      ⟨by simpa [ccells] using hr, fun x hx => by
        simp only [List.mem_cons, List.not_mem_nil, or_false] at hx
        rcases hx with rfl | rfl
        · exact ⟨Row.nil, by simp⟩
        · exact ⟨hr2, by simp⟩⟩ (by simp))
  clear rc lc
  obtain ⟨X, hX⟩ : ∃ X, X = meetX M := ⟨_, rfl⟩
  obtain ⟨E, hE⟩ : ∃ E, E = meetE M := ⟨_, rfl⟩
  obtain ⟨Y, hY⟩ : ∃ Y, Y = meetX (M ++ [c]) := ⟨_, rfl⟩
  obtain ⟨G, hG⟩ : ∃ G, G = meetE (M ++ [c]) := ⟨_, rfl⟩
  obtain ⟨Z, hZ⟩ : ∃ Z, Z = meetX [c] := ⟨_, rfl⟩
  obtain ⟨K, hK⟩ : ∃ K, K = meetE [c] := ⟨_, rfl⟩
  rw [← hX, ← hE] at HML HF HLS
  rw [← hX] at HXL
  rw [← hY, ← hG] at HMM HLS
  rw [← hY] at HXL2
  rw [← hZ, ← hK] at HM1 HA1
  rw [← hZ] at HXL1
  clear hX hE hY hG hZ hK
  obtain ⟨d0, d1⟩ := d
  obtain ⟨c0, c1, c2, c3, cl⟩ := c
  simp only [cval, dval, CR.cells] at *
  go_enter Try.func7, Try.ntmps7
  go_wp2_with fail
  refine (H2.out _ _ _ _ (by exact Row.new' (((w.alloc _).alloc _).alloc _) _ _ (by simp) rfl (by simp)) (by exact (Row.new' ((w.alloc _).alloc _) _ _ (by simp) rfl (by simp)).alloc _)).mono ?_
  rintro e w1 ⟨A1, k1, rfl, hr1, hb1, hn1⟩
  have HBW := hid (show Below w.heap.size w w1 from (by refine Below.step' ?_ hb1; (repeat' (first | (with_reducible exact Below.refl _ _) | (with_reducible assumption) | (with_reducible refine below_drewN ?_ _) | (with_reducible refine Below.drew ?_) | (with_reducible refine Below.alloc ?_ ?_ _) | (with_reducible refine Below.setCell ?_ ?_ _) | (refine Below.trans ?_ (Below.mono (by assumption) ?_)) | go_size))))
  have HX4 := hid (Blk.step (w := _) (b := w.heap.size) (cs := cbox ⟨c0, c1, c2, c3, cl⟩ C k) (T := 25) (by exact (((Blk.new w _ _).alloc _).alloc _).alloc _) hb1)
  have HX5 := hid (Blk.step (w := _) (b := w.heap.size + 1) (cs := #[.int .i64 d0, .int .i64 d1]) (T := 27) (by exact ((Blk.new' (w.alloc _) _ _ (by simp)).alloc _).alloc _) hb1)
  clear hb1 hr1 hn1 H2
  simp only [cval]
  go_wp2_with fail
  refine (HML.out _ (HBW.out.alloc HBW.out.size _)).mono ?_
  rintro e w2 ⟨A2, k2, rfl, hr2, hb2, hn2⟩
  have hB2 : Below w1.heap.size w1 w2 := (by refine Below.step' ?_ hb2; (repeat' (first | (with_reducible exact Below.refl _ _) | (with_reducible assumption) | (with_reducible refine below_drewN ?_ _) | (with_reducible refine Below.drew ?_) | (with_reducible refine Below.alloc ?_ ?_ _) | (with_reducible refine Below.setCell ?_ ?_ _) | (refine Below.trans ?_ (Below.mono (by assumption) ?_)) | go_size)))
  replace HX4 := hid (HX4.out.step hB2)
  replace HX5 := hid (HX5.out.step hB2)
  replace HBW := hid (Below.step' HBW.out hB2)
  have HR2 := hid hr2
  clear hb2 hB2 hr2 hn2 NQ NG
  simp only [cval]
  go_upto_region 5 with fail
  obtain ⟨P, hP⟩ : ∃ P, P = w2.heap.size := ⟨_, rfl⟩
  obtain ⟨W2, hW2⟩ : ∃ W2 : World, W2 = w2.alloc (.cells #[.int .i64 X.c0, .int .i64 X.c1, .int .i64 X.c2, .int .i64 X.c3, .slice A2 X.cloud.length k2] 25) := ⟨_, rfl⟩
  rw [← hW2, ← hP]
  have hB : Below w2.heap.size w2 W2 := by rw [hW2]; (repeat' (first | (with_reducible exact Below.refl _ _) | (with_reducible assumption) | (with_reducible refine below_drewN ?_ _) | (with_reducible refine Below.drew ?_) | (with_reducible refine Below.alloc ?_ ?_ _) | (with_reducible refine Below.setCell ?_ ?_ _) | (refine Below.trans ?_ (Below.mono (by assumption) ?_)) | go_size))
  have HX9 := hid (show Blk W2 P (cbox X A2 k2) 25 by rw [hW2, hP]; exact Blk.new _ _ _)
  replace HX4 := hid (HX4.out.step hB)
  replace HX5 := hid (HX5.out.step hB)
  replace HR2 := hid (HR2.out.step hB)
  replace HBW := hid (Below.step' HBW.out hB)
  clear hB hW2 hP
  have hbw2 := HBW.out
  have HCL := hid (fun w1 (hb : Below W2.heap.size W2 w1) => HCN.out w1 (Below.step' hbw2 hb))
  have HMC := hid (fun w1 A6 c6 (hb : Below W2.heap.size W2 w1) hr => HMM.out w1 A6 c6 (Below.step' hbw2 hb) hr)
  clear hbw2
  go_cut [11, 12] from 42 to 50 (fun s11 s12 wx => ∃ Xa A' kk, s11 = .pointer (some ⟨Xa, 0, none⟩) ∧ s12 = .int .i64 G ∧ Blk wx Xa (cbox Y A' kk) 25 ∧ Row wx wx.heap.size A' (dcells Y.cloud) ∧ W2.heap.size ≤ Xa ∧ Below W2.heap.size W2 wx)
  case first =>
    have hl1 : [Value.int .i64 c0, .int .i64 c1, .int .i64 c2, .int .i64 c3, .slice C cl.length k].length = 1 * 5 := rfl
    have ho1 : ∀ u ∈ [Value.int .i64 c0, .int .i64 c1, .int .i64 c2, .int .i64 c3, .slice C cl.length k], u.oneCell' = true := cr_one ⟨⟨c0, c1, c2, c3, cl⟩, C, k⟩
    have hmx : L.length + 1 ≤ maxLen := by simp only [maxLen]; omega
    have hby2 : (L.length + 1) * 56 ≤ 140737488355328 := by omega
    obtain ⟨cHX4, fHX4, sHX4, nHX4⟩ := HX4.out.all
    try simp only [cbox] at cHX4
    go_region_held3 (fun w' => (∀ b o, b < W2.heap.size → w'.cell? ⟨b, o, none⟩ = W2.cell? ⟨b, o, none⟩) ∧ Below W2.heap.size W2 w')
      ((go_split_ands; refine keepS ?_; first | (with_reducible assumption) | (with_reducible exact (Below.refl _ _).drew) | (with_reducible exact (alloc_below (Below.refl _ _) _).drew) | (with_reducible exact (alloc_below (alloc_below (Below.refl _ _) _) _).drew) | (with_reducible refine alloc_below ?_ _; with_reducible assumption) | (with_reducible refine alloc_below (alloc_below ?_ _) _; with_reducible assumption) | (with_reducible refine Below.drew (alloc_below ?_ _); with_reducible assumption) | (with_reducible refine Below.set5 ?_ ?_ _ _ _ _ _; with_reducible assumption; first | exact Nat.le_refl _ | exact Nat.le_succ _ | (refine Below.size (B := W2.heap.size) (w := W2) ?_; with_reducible assumption) | (refine Nat.le_succ_of_le (Below.size (B := W2.heap.size) (w := W2) ?_); with_reducible assumption))))
      (first
        | (go_split_ands; go_at_call 36; refine (HCL.out _ (by with_reducible assumption)).mono ?_; rintro e w5 ⟨v5, rfl, hown5, hb5⟩; have hB5 := Below.step' (by with_reducible assumption : Below W2.heap.size W2 _) hb5; (try (with_reducible have x11 := Blk.step (Blk.new W2 #[.int .i64 0, .int .i64 0, .int .i64 0, .int .i64 0, .slice none 0 0] 25).drew hb5)); (try (with_reducible have x46 := Blk.step (Blk.new W2 #[.int .i64 c0, .int .i64 c1, .int .i64 c2, .int .i64 c3, .slice C cl.length k] 25).drew hb5)); (try (with_reducible have x11 := Blk.step ((Blk.new W2 #[.int .i64 0, .int .i64 0, .int .i64 0, .int .i64 0, .slice none 0 0] 25).alloc (.cells #[.int .i64 c0, .int .i64 c1, .int .i64 c2, .int .i64 c3, .slice C cl.length k] 25)).drew hb5)); (try (with_reducible have x46 := Blk.step (Blk.new' (W2.alloc (.cells #[.int .i64 0, .int .i64 0, .int .i64 0, .int .i64 0, .slice none 0 0] 25)) #[.int .i64 c0, .int .i64 c1, .int .i64 c2, .int .i64 c3, .slice C cl.length k] 25 (sz_alloc W2 (.cells #[.int .i64 0, .int .i64 0, .int .i64 0, .int .i64 0, .slice none 0 0] 25))).drew hb5)); (try (with_reducible have x46 := Blk.step ((Blk.new W2 #[.int .i64 c0, .int .i64 c1, .int .i64 c2, .int .i64 c3, .slice C cl.length k] 25).alloc (.cells #[.int .i64 0, .int .i64 0, .int .i64 0, .int .i64 0, .slice none 0 0] 25)).drew hb5)); (try (with_reducible have x11 := Blk.step (Blk.new' (W2.alloc (.cells #[.int .i64 c0, .int .i64 c1, .int .i64 c2, .int .i64 c3, .slice C cl.length k] 25)) #[.int .i64 0, .int .i64 0, .int .i64 0, .int .i64 0, .slice none 0 0] 25 (sz_alloc W2 (.cells #[.int .i64 c0, .int .i64 c1, .int .i64 c2, .int .i64 c3, .slice C cl.length k] 25))).drew hb5)))
        | (go_split_ands; go_at_call 35; (with_reducible refine (HMC.out w6 A6 c6 (by with_reducible assumption) (Row.of_ownS hown6)).mono ?_); rintro e w9 ⟨A', kk, rfl, hrow9, hb9, hnew9⟩; have hB9 := Below.step' (by with_reducible assumption : Below W2.heap.size W2 w6) hb9; (try have z11 := Blk.step y11 hb9); (try obtain ⟨⟨cx0, cx1, cx2, cx3, cx4⟩, fx0, fx1, fx2, fx3, fx4⟩ := z11.five))
        | (go_split_ands; go_at_call 35; (with_reducible refine (HMC.out (w6.alloc (.cells #[.int .i64 0, .int .i64 0, .int .i64 0, .int .i64 0, .slice none 0 0] 25)) A6 c6 (by with_reducible assumption) (Row.of_ownS (World.ownsRow.alloc hown6 (.cells #[.int .i64 0, .int .i64 0, .int .i64 0, .int .i64 0, .slice none 0 0] 25)))).mono ?_); rintro e w9 ⟨A', kk, rfl, hrow9, hb9, hnew9⟩; have hB9 := Below.step' (by with_reducible assumption : Below W2.heap.size W2 (w6.alloc (.cells #[.int .i64 0, .int .i64 0, .int .i64 0, .int .i64 0, .slice none 0 0] 25))) hb9; (have z11 := Blk.step (Blk.new w6 #[.int .i64 0, .int .i64 0, .int .i64 0, .int .i64 0, .slice none 0 0] 25) hb9); (try obtain ⟨⟨cx0, cx1, cx2, cx3, cx4⟩, fx0, fx1, fx2, fx3, fx4⟩ := z11.five))
        | (go_split_ands; (with_reducible refine atw w5 ?_); refine step_append_row el_ctx (by rfl) _ _ (by rfl) _ v5 L.length (ccells L) (by rfl) hown5 _ 1 1 _ [.int .i64 c0, .int .i64 c1, .int .i64 c2, .int .i64 c3, .slice C cl.length k] (by rfl) hl1 (Blk.row x46) ho1 hmx hby2 hb5.size ?_; intro v6 w6 hown6 hg6 _; obtain ⟨A6, c6, rfl⟩ := own_formS hown6; have hB6 := below_grown (by with_reducible assumption : Below W2.heap.size W2 w5) hg6 hown5 (by first | (simp; done) | (simp; omega)); have hs6 := hg6.size; (try have y11 := Blk.grown' x11 hg6 (own_ne_lo hown5 _ (lt_alloc W2 _))); (try have y11 := Blk.grown' x11 hg6 (own_ne_lo hown5 _ (lt_alloc2 W2 _ _))); (try have y11 := Blk.grown' x11 hg6 (own_ne_lo hown5 _ (lt_alloc2' W2 _ _))))
        | (go_split_ands; (with_reducible refine atw (w5.alloc (.cells #[.int .i64 0, .int .i64 0, .int .i64 0, .int .i64 0, .slice none 0 0] 25)) ?_); refine step_append_row el_ctx (by rfl) _ _ (by rfl) _ v5 L.length (ccells L) (by rfl) (World.ownsRow.alloc hown5 _) _ 1 1 _ [.int .i64 c0, .int .i64 c1, .int .i64 c2, .int .i64 c3, .slice C cl.length k] (by rfl) hl1 (Blk.row (x46.alloc _)) ho1 hmx hby2 (Nat.le_trans hb5.size (le_alloc _ _)) ?_; intro v6 w6 hown6 hg6 _; obtain ⟨A6, c6, rfl⟩ := own_formS hown6; have hB6 := below_grown (by with_reducible assumption : Below W2.heap.size W2 (w5.alloc (.cells #[.int .i64 0, .int .i64 0, .int .i64 0, .int .i64 0, .slice none 0 0] 25))) hg6 hown5 (by first | (simp; done) | (simp; omega)); have hs6 := hg6.size; (have y11 := Blk.grown' (Blk.new w5 #[.int .i64 0, .int .i64 0, .int .i64 0, .int .i64 0, .slice none 0 0] 25) hg6 (own_ne_hi hown5 _ (Nat.le_refl _))))
        | (go_split_ands; (with_reducible refine atw (w5.alloc (.cells #[.int .i64 c0, .int .i64 c1, .int .i64 c2, .int .i64 c3, .slice C cl.length k] 25)) ?_); refine step_append_row el_ctx (by rfl) _ _ (by rfl) _ v5 L.length (ccells L) (by rfl) (World.ownsRow.alloc hown5 _) _ 1 1 _ [.int .i64 c0, .int .i64 c1, .int .i64 c2, .int .i64 c3, .slice C cl.length k] (by rfl) hl1 (Blk.row (Blk.new w5 #[.int .i64 c0, .int .i64 c1, .int .i64 c2, .int .i64 c3, .slice C cl.length k] 25)) ho1 hmx hby2 (Nat.le_trans hb5.size (le_alloc _ _)) ?_; intro v6 w6 hown6 hg6 _; obtain ⟨A6, c6, rfl⟩ := own_formS hown6; have hB6 := below_grown (by with_reducible assumption : Below W2.heap.size W2 (w5.alloc (.cells #[.int .i64 c0, .int .i64 c1, .int .i64 c2, .int .i64 c3, .slice C cl.length k] 25))) hg6 hown5 (by first | (simp; done) | (simp; omega)); have hs6 := hg6.size; (try have y11 := Blk.grown' (x11.alloc _) hg6 (own_ne_lo hown5 _ (lt_alloc W2 _))); (try have y11 := Blk.grown' (x11.alloc _) hg6 (own_ne_lo hown5 _ (lt_alloc2 W2 _ _))); (try have y11 := Blk.grown' (x11.alloc _) hg6 (own_ne_lo hown5 _ (lt_alloc2' W2 _ _))))
        | (go_split_ands; (with_reducible refine atw ((w5.alloc (.cells #[.int .i64 c0, .int .i64 c1, .int .i64 c2, .int .i64 c3, .slice C cl.length k] 25)).alloc (.cells #[.int .i64 0, .int .i64 0, .int .i64 0, .int .i64 0, .slice none 0 0] 25)) ?_); refine step_append_row el_ctx (by rfl) _ _ (by rfl) _ v5 L.length (ccells L) (by rfl) (World.ownsRow.alloc (World.ownsRow.alloc hown5 _) _) _ 1 1 _ [.int .i64 c0, .int .i64 c1, .int .i64 c2, .int .i64 c3, .slice C cl.length k] (by rfl) hl1 (Blk.row ((Blk.new w5 #[.int .i64 c0, .int .i64 c1, .int .i64 c2, .int .i64 c3, .slice C cl.length k] 25).alloc _)) ho1 hmx hby2 (Nat.le_trans hb5.size (Nat.le_trans (le_alloc _ _) (le_alloc _ _))) ?_; intro v6 w6 hown6 hg6 _; obtain ⟨A6, c6, rfl⟩ := own_formS hown6; have hB6 := below_grown (by with_reducible assumption : Below W2.heap.size W2 ((w5.alloc (.cells #[.int .i64 c0, .int .i64 c1, .int .i64 c2, .int .i64 c3, .slice C cl.length k] 25)).alloc (.cells #[.int .i64 0, .int .i64 0, .int .i64 0, .int .i64 0, .slice none 0 0] 25))) hg6 hown5 (by first | (simp; done) | (simp; omega)); have hs6 := hg6.size; (have y11 := Blk.grown' (Blk.new' (w5.alloc (.cells #[.int .i64 c0, .int .i64 c1, .int .i64 c2, .int .i64 c3, .slice C cl.length k] 25)) #[.int .i64 0, .int .i64 0, .int .i64 0, .int .i64 0, .slice none 0 0] 25 (sz_alloc w5 _)) hg6 (own_ne_hi hown5 _ (Nat.le_succ _))))
        | (go_split_ands; (with_reducible refine atw ((w5.alloc (.cells #[.int .i64 0, .int .i64 0, .int .i64 0, .int .i64 0, .slice none 0 0] 25)).alloc (.cells #[.int .i64 c0, .int .i64 c1, .int .i64 c2, .int .i64 c3, .slice C cl.length k] 25)) ?_); refine step_append_row el_ctx (by rfl) _ _ (by rfl) _ v5 L.length (ccells L) (by rfl) (World.ownsRow.alloc (World.ownsRow.alloc hown5 _) _) _ 1 1 _ [.int .i64 c0, .int .i64 c1, .int .i64 c2, .int .i64 c3, .slice C cl.length k] (by rfl) hl1 (Blk.row (Blk.new' (w5.alloc (.cells #[.int .i64 0, .int .i64 0, .int .i64 0, .int .i64 0, .slice none 0 0] 25)) #[.int .i64 c0, .int .i64 c1, .int .i64 c2, .int .i64 c3, .slice C cl.length k] 25 (sz_alloc w5 _))) ho1 hmx hby2 (Nat.le_trans hb5.size (Nat.le_trans (le_alloc _ _) (le_alloc _ _))) ?_; intro v6 w6 hown6 hg6 _; obtain ⟨A6, c6, rfl⟩ := own_formS hown6; have hB6 := below_grown (by with_reducible assumption : Below W2.heap.size W2 ((w5.alloc (.cells #[.int .i64 0, .int .i64 0, .int .i64 0, .int .i64 0, .slice none 0 0] 25)).alloc (.cells #[.int .i64 c0, .int .i64 c1, .int .i64 c2, .int .i64 c3, .slice C cl.length k] 25))) hg6 hown5 (by first | (simp; done) | (simp; omega)); have hs6 := hg6.size; (have y11 := Blk.grown' ((Blk.new w5 #[.int .i64 0, .int .i64 0, .int .i64 0, .int .i64 0, .slice none 0 0] 25).alloc _) hg6 (own_ne_hi hown5 _ (Nat.le_refl _)))))
    all_goals
      go_wp2
      go_meet
      case rel =>
        have hs5 := hB5.size
        have hs6' := hB6.size
        first
          | ((with_reducible refine ⟨w9.heap.size, A', kk, rfl, rfl, ?_, ?_, ?_, ?_⟩); exact Blk.new w9 _ _; exact hrow9.alloc _; exact hB9.size; exact alloc_below hB9 _)
          | ((with_reducible refine ⟨w6.heap.size, A', kk, rfl, rfl, ?_, ?_, ?_, ?_⟩); exact Blk.set5 z11 _ _ _ _ _; exact Row.set5 hrow9 hnew9 (lt_alloc w6 _) _ _ _ _ _; exact hB6.size; exact Below.set5 hB9 hB6.size _ _ _ _ _)
          | ((with_reducible refine ⟨W2.heap.size, A', kk, rfl, rfl, ?_, ?_, ?_, ?_⟩); exact Blk.set5 z11 _ _ _ _ _; exact Row.set5 hrow9 hnew9 y11.lt _ _ _ _ _; exact Nat.le_refl _; exact Below.set5 hB9 (Nat.le_refl _) _ _ _ _ _)
          | ((with_reducible refine ⟨(W2.heap.size + 1), A', kk, rfl, rfl, ?_, ?_, ?_, ?_⟩); exact Blk.set5 z11 _ _ _ _ _; exact Row.set5 hrow9 hnew9 y11.lt _ _ _ _ _; exact Nat.le_succ _; exact Below.set5 hB9 (Nat.le_succ _) _ _ _ _ _)
          | ((with_reducible refine ⟨w5.heap.size, A', kk, rfl, rfl, ?_, ?_, ?_, ?_⟩); exact Blk.set5 z11 _ _ _ _ _; exact Row.set5 hrow9 hnew9 y11.lt _ _ _ _ _; exact hs5; exact Below.set5 hB9 hs5 _ _ _ _ _)
          | ((with_reducible refine ⟨(w5.heap.size + 1), A', kk, rfl, rfl, ?_, ?_, ?_, ?_⟩); exact Blk.set5 z11 _ _ _ _ _; exact Row.set5 hrow9 hnew9 y11.lt _ _ _ _ _; exact Nat.le_succ_of_le hs5; exact Below.set5 hB9 (Nat.le_succ_of_le hs5) _ _ _ _ _)
  case rest =>
    obtain ⟨Xa, A', kk, rfl, rfl, hxa, hra, hle, hbx⟩ := hcut
    obtain ⟨wx, rfl⟩ : ∃ wx : World, wx = wc := ⟨_, rfl⟩
    replace HX4 := hid (HX4.out.step hbx)
    replace HX5 := hid (HX5.out.step hbx)
    replace HX9 := hid (HX9.out.step hbx)
    replace HR2 := hid (HR2.out.step hbx)
    replace HBW := hid (Below.step' HBW.out hbx)
    have HXA := hid hxa
    have HRA := hid hra
    clear hxa hra hbx HCL HMC HCN HMM hle
    obtain ⟨hk, hz⟩ := HA1.out
    rw [← hk] at HCK hz
    have HZ0 := hid hz
    clear hk hz HA1
    by_cases q : E = 0
    · subst q
      obtain ⟨f1, f2, f3⟩ := HF.out (by first | rfl | trivial)
      have hal := HAL.out
      have hv := f3 (d0, d1)
      unfold allB at hv
      rw [← hal] at hv
      obtain ⟨V, hV⟩ : ∃ V, V = M.any (fun c => !hasB c (d0, d1)) := ⟨_, rfl⟩
      rw [← hV] at hv HCF
      have HHX := fun w1 (hb : Below wx.heap.size wx w1) => has_any X (d0, d1) A2 k2 w1 (HR2.out.step hb) (by omega)
      rw [hv] at HHX
      have HCX := fun w1 (hb : Below wx.heap.size wx w1) => check_any X A2 k2 w1 (HR2.out.step hb) (by omega)
      rw [f2] at HCX
      have HHX := hid HHX
      have HCX := hid HCX
      simp only [cval, dval] at HHX HCX
      have HLX := hid (fun w1 (hb : Below wx.heap.size wx w1) => less_any Y X A' A2 kk k2 w1 (HRA.out.step hb) (by omega) (HR2.out.step hb) (by omega))
      simp only [cval] at HLX
      clear hv hal hV f1 f2 f3
      go_wp2_with fail
      refine (HCF.out _ (w.heap.size + 1) HBW.out HX5.out).mono ?_
      rintro e w5 ⟨rfl, hb5⟩
      have HBX := hid hb5
      replace HX4 := hid (HX4.out.step hb5)
      replace HX5 := hid (HX5.out.step hb5)
      replace HX9 := hid (HX9.out.step hb5)
      replace HXA := hid (HXA.out.step hb5)
      replace HBW := hid (Below.step' HBW.out hb5)
      clear hb5
      obtain ⟨cHX9, fHX9, sHX9, nHX9⟩ := HX9.out.all
      try simp only [cbox] at cHX9
      obtain ⟨cHX5, fHX5, sHX5, nHX5⟩ := HX5.out.all
      try simp only [cbox] at cHX5
      cases V
      all_goals
        go_wp2_with fail
        refine (HHX.out _ HBX.out).mono ?_
        rintro e w6 ⟨rfl, hb6⟩
        clear cHX9 fHX9 sHX9 nHX9
        clear cHX5 fHX5 sHX5 nHX5
        replace HX4 := hid (HX4.out.step hb6)
        replace HX5 := hid (HX5.out.step hb6)
        replace HX9 := hid (HX9.out.step hb6)
        replace HXA := hid (HXA.out.step hb6)
        replace HBX := hid (Below.step' HBX.out hb6)
        replace HBW := hid (Below.step' HBW.out hb6)
        clear hb6
        obtain ⟨cHX9, fHX9, sHX9, nHX9⟩ := HX9.out.all
        try simp only [cbox] at cHX9
        go_wp2_with fail
        refine (HCX.out _ HBX.out).mono ?_
        rintro e w7 ⟨rfl, hb7⟩
        clear cHX9 fHX9 sHX9 nHX9
        replace HX4 := hid (HX4.out.step hb7)
        replace HX5 := hid (HX5.out.step hb7)
        replace HX9 := hid (HX9.out.step hb7)
        replace HXA := hid (HXA.out.step hb7)
        replace HBX := hid (Below.step' HBX.out hb7)
        replace HBW := hid (Below.step' HBW.out hb7)
        clear hb7
        obtain ⟨cHX9, fHX9, sHX9, nHX9⟩ := HX9.out.all
        try simp only [cbox] at cHX9
        obtain ⟨cHXA, fHXA, sHXA, nHXA⟩ := HXA.out.all
        try simp only [cbox] at cHXA
        go_wp2_with fail
        refine (HLX.out _ HBX.out).mono ?_
        rintro e w8 ⟨rfl, hb8⟩
        clear cHX9 fHX9 sHX9 nHX9
        clear cHXA fHXA sHXA nHXA
        replace HX4 := hid (HX4.out.step hb8)
        replace HBW := hid (Below.step' HBW.out hb8)
        clear hb8
        by_cases qg : G = 0
        · obtain ⟨l1, l2⟩ := HLS.out (by first | rfl | trivial) qg
          rw [l1, l2]
          subst qg
          clear l1 l2
          go_upto_region 13 with fail
          obtain ⟨wq, rfl⟩ : ∃ wq : World, wq = w8 := ⟨_, rfl⟩
          obtain ⟨cHX4, fHX4, sHX4, nHX4⟩ := HX4.out.all
          try simp only [cbox] at cHX4
          go_wp2_with fail
          refine (HM1.out _ _ _ (HBW.out.alloc HBW.out.size _) (by exact Row.new' wq _ _ rfl rfl (by simp))).mono ?_
          rintro e wA ⟨A5, k5, rfl, hr5, hb5, hn5⟩
          have hB5 : Below wq.heap.size wq wA := (by refine Below.step' ?_ hb5; (repeat' (first | (with_reducible exact Below.refl _ _) | (with_reducible assumption) | (with_reducible refine below_drewN ?_ _) | (with_reducible refine Below.drew ?_) | (with_reducible refine Below.alloc ?_ ?_ _) | (with_reducible refine Below.setCell ?_ ?_ _) | (refine Below.trans ?_ (Below.mono (by assumption) ?_)) | go_size)))
          clear cHX4 fHX4 sHX4 nHX4
          replace HX4 := hid (HX4.out.step hB5)
          replace HBW := hid (Below.step' HBW.out hB5)
          have HR5 := hid hr5
          clear hb5 hB5 hr5 hn5
          simp only [cval]
          obtain ⟨cHX4, fHX4, sHX4, nHX4⟩ := HX4.out.all
          try simp only [cbox] at cHX4
          go_wp2_with fail
          refine (HCK.out _ (HBW.out.alloc HBW.out.size _)).mono ?_
          rintro e wB ⟨rfl, hb6⟩
          have hB6 : Below wA.heap.size wA wB := (by refine Below.step' ?_ hb6; (repeat' (first | (with_reducible exact Below.refl _ _) | (with_reducible assumption) | (with_reducible refine below_drewN ?_ _) | (with_reducible refine Below.drew ?_) | (with_reducible refine Below.alloc ?_ ?_ _) | (with_reducible refine Below.setCell ?_ ?_ _) | (refine Below.trans ?_ (Below.mono (by assumption) ?_)) | go_size)))
          have HXZ := hid (Blk.step (Blk.new wA (cbox Z A5 k5) 25) hb6)
          clear cHX4 fHX4 sHX4 nHX4
          replace HX4 := hid (HX4.out.step hB6)
          replace HR5 := hid (HR5.out.step hB6)
          replace HBW := hid (Below.step' HBW.out hB6)
          clear hb6 hB6
          by_cases qk : K = 0
          · subst qk
            have hz := HZ0.out (by first | rfl | trivial)
            subst hz
            have HSM := hid (fun w9 (hb : Below wB.heap.size wB w9) => same_ints c0 c1 c2 c3 c0 c1 c2 c3 cl cl A5 C k5 k w9 (HR5.out.step hb) (RC.out w9 (Below.step' HBW.out hb)) (by simpa using LC.out) (by simpa using LC.out))
            rw [show sameB ⟨c0, c1, c2, c3, cl⟩ ⟨c0, c1, c2, c3, cl⟩ = true from (sameB_iff _ _).2 rfl] at HSM
            obtain ⟨cHX4, fHX4, sHX4, nHX4⟩ := HX4.out.all
            try simp only [cbox] at cHX4
            obtain ⟨cHXZ, fHXZ, sHXZ, nHXZ⟩ := HXZ.out.all
            try simp only [cbox] at cHXZ
            go_wp2_with fail
            refine (HSM.out _ (Below.refl _ _)).mono ?_
            rintro e w9 ⟨rfl, hb9⟩
            go_wp2
            go_ret
            exact ⟨rfl, Below.step' HBW.out hb9⟩
          · have t1 : (K != 0) = true := by simpa using qk
            clear qk
            go_wp2
            go_ret
            exact ⟨rfl, HBW.out⟩
        · have t1 : (G == 0) = false := by simpa using qg
          obtain ⟨b1, hb1⟩ : ∃ b1, b1 = lessX Y X := ⟨_, rfl⟩
          obtain ⟨i1, hi1⟩ : ∃ i1, i1 = twoI Y X := ⟨_, rfl⟩
          rw [← hb1, ← hi1]
          clear qg hb1 hi1
          go_upto_region 13 with fail
          obtain ⟨wq, rfl⟩ : ∃ wq : World, wq = w8 := ⟨_, rfl⟩
          obtain ⟨cHX4, fHX4, sHX4, nHX4⟩ := HX4.out.all
          try simp only [cbox] at cHX4
          go_wp2_with fail
          refine (HM1.out _ _ _ (HBW.out.alloc HBW.out.size _) (by exact Row.new' wq _ _ rfl rfl (by simp))).mono ?_
          rintro e wA ⟨A5, k5, rfl, hr5, hb5, hn5⟩
          have hB5 : Below wq.heap.size wq wA := (by refine Below.step' ?_ hb5; (repeat' (first | (with_reducible exact Below.refl _ _) | (with_reducible assumption) | (with_reducible refine below_drewN ?_ _) | (with_reducible refine Below.drew ?_) | (with_reducible refine Below.alloc ?_ ?_ _) | (with_reducible refine Below.setCell ?_ ?_ _) | (refine Below.trans ?_ (Below.mono (by assumption) ?_)) | go_size)))
          clear cHX4 fHX4 sHX4 nHX4
          replace HX4 := hid (HX4.out.step hB5)
          replace HBW := hid (Below.step' HBW.out hB5)
          have HR5 := hid hr5
          clear hb5 hB5 hr5 hn5
          simp only [cval]
          obtain ⟨cHX4, fHX4, sHX4, nHX4⟩ := HX4.out.all
          try simp only [cbox] at cHX4
          go_wp2_with fail
          refine (HCK.out _ (HBW.out.alloc HBW.out.size _)).mono ?_
          rintro e wB ⟨rfl, hb6⟩
          have hB6 : Below wA.heap.size wA wB := (by refine Below.step' ?_ hb6; (repeat' (first | (with_reducible exact Below.refl _ _) | (with_reducible assumption) | (with_reducible refine below_drewN ?_ _) | (with_reducible refine Below.drew ?_) | (with_reducible refine Below.alloc ?_ ?_ _) | (with_reducible refine Below.setCell ?_ ?_ _) | (refine Below.trans ?_ (Below.mono (by assumption) ?_)) | go_size)))
          have HXZ := hid (Blk.step (Blk.new wA (cbox Z A5 k5) 25) hb6)
          clear cHX4 fHX4 sHX4 nHX4
          replace HX4 := hid (HX4.out.step hB6)
          replace HR5 := hid (HR5.out.step hB6)
          replace HBW := hid (Below.step' HBW.out hB6)
          clear hb6 hB6
          by_cases qk : K = 0
          · subst qk
            have hz := HZ0.out (by first | rfl | trivial)
            subst hz
            have HSM := hid (fun w9 (hb : Below wB.heap.size wB w9) => same_ints c0 c1 c2 c3 c0 c1 c2 c3 cl cl A5 C k5 k w9 (HR5.out.step hb) (RC.out w9 (Below.step' HBW.out hb)) (by simpa using LC.out) (by simpa using LC.out))
            rw [show sameB ⟨c0, c1, c2, c3, cl⟩ ⟨c0, c1, c2, c3, cl⟩ = true from (sameB_iff _ _).2 rfl] at HSM
            obtain ⟨cHX4, fHX4, sHX4, nHX4⟩ := HX4.out.all
            try simp only [cbox] at cHX4
            obtain ⟨cHXZ, fHXZ, sHXZ, nHXZ⟩ := HXZ.out.all
            try simp only [cbox] at cHXZ
            go_wp2_with fail
            refine (HSM.out _ (Below.refl _ _)).mono ?_
            rintro e w9 ⟨rfl, hb9⟩
            go_wp2
            go_ret
            exact ⟨rfl, Below.step' HBW.out hb9⟩
          · have t1 : (K != 0) = true := by simpa using qk
            clear qk
            go_wp2
            go_ret
            exact ⟨rfl, HBW.out⟩
    · have q2 : (E == 0) = false := by simpa using q
      clear q
      go_upto_region 13 with fail
      obtain ⟨wq, rfl⟩ : ∃ wq : World, wq = wx := ⟨_, rfl⟩
      obtain ⟨cHX4, fHX4, sHX4, nHX4⟩ := HX4.out.all
      try simp only [cbox] at cHX4
      go_wp2_with fail
      refine (HM1.out _ _ _ (HBW.out.alloc HBW.out.size _) (by exact Row.new' wq _ _ rfl rfl (by simp))).mono ?_
      rintro e wA ⟨A5, k5, rfl, hr5, hb5, hn5⟩
      have hB5 : Below wq.heap.size wq wA := (by refine Below.step' ?_ hb5; (repeat' (first | (with_reducible exact Below.refl _ _) | (with_reducible assumption) | (with_reducible refine below_drewN ?_ _) | (with_reducible refine Below.drew ?_) | (with_reducible refine Below.alloc ?_ ?_ _) | (with_reducible refine Below.setCell ?_ ?_ _) | (refine Below.trans ?_ (Below.mono (by assumption) ?_)) | go_size)))
      clear cHX4 fHX4 sHX4 nHX4
      replace HX4 := hid (HX4.out.step hB5)
      replace HBW := hid (Below.step' HBW.out hB5)
      have HR5 := hid hr5
      clear hb5 hB5 hr5 hn5
      simp only [cval]
      obtain ⟨cHX4, fHX4, sHX4, nHX4⟩ := HX4.out.all
      try simp only [cbox] at cHX4
      go_wp2_with fail
      refine (HCK.out _ (HBW.out.alloc HBW.out.size _)).mono ?_
      rintro e wB ⟨rfl, hb6⟩
      have hB6 : Below wA.heap.size wA wB := (by refine Below.step' ?_ hb6; (repeat' (first | (with_reducible exact Below.refl _ _) | (with_reducible assumption) | (with_reducible refine below_drewN ?_ _) | (with_reducible refine Below.drew ?_) | (with_reducible refine Below.alloc ?_ ?_ _) | (with_reducible refine Below.setCell ?_ ?_ _) | (refine Below.trans ?_ (Below.mono (by assumption) ?_)) | go_size)))
      have HXZ := hid (Blk.step (Blk.new wA (cbox Z A5 k5) 25) hb6)
      clear cHX4 fHX4 sHX4 nHX4
      replace HX4 := hid (HX4.out.step hB6)
      replace HR5 := hid (HR5.out.step hB6)
      replace HBW := hid (Below.step' HBW.out hB6)
      clear hb6 hB6
      by_cases qk : K = 0
      · subst qk
        have hz := HZ0.out (by first | rfl | trivial)
        subst hz
        have HSM := hid (fun w9 (hb : Below wB.heap.size wB w9) => same_ints c0 c1 c2 c3 c0 c1 c2 c3 cl cl A5 C k5 k w9 (HR5.out.step hb) (RC.out w9 (Below.step' HBW.out hb)) (by simpa using LC.out) (by simpa using LC.out))
        rw [show sameB ⟨c0, c1, c2, c3, cl⟩ ⟨c0, c1, c2, c3, cl⟩ = true from (sameB_iff _ _).2 rfl] at HSM
        obtain ⟨cHX4, fHX4, sHX4, nHX4⟩ := HX4.out.all
        try simp only [cbox] at cHX4
        obtain ⟨cHXZ, fHXZ, sHXZ, nHXZ⟩ := HXZ.out.all
        try simp only [cbox] at cHXZ
        go_wp2_with fail
        refine (HSM.out _ (Below.refl _ _)).mono ?_
        rintro e w9 ⟨rfl, hb9⟩
        go_wp2
        go_ret
        exact ⟨rfl, Below.step' HBW.out hb9⟩
      · have t1 : (K != 0) = true := by simpa using qk
        clear qk
        go_wp2
        go_ret
        exact ⟨rfl, HBW.out⟩
end Go.Proofs.Ytogegnikpjcpdaa
