/- RSin, TMs -/
import Derived.Test.YtogegnikpjcpdaaCk21
import Derived.Test.YtogegnikpjcpdaaCk10
import Derived.Test.YtogegnikpjcpdaaCk11
import Derived.Deep.CutBlock
import Derived.Deep.CutRange
import Derived.Deep.AppendLies
import Derived.Test.YtogegnikpjcpdaaCk16
import Derived.Test.YtogegnikpjcpdaaCk13
/- viewref.Since. -/
namespace Go.Proofs.Ytogegnikpjcpdaa
set_option linter.unusedVariables false
open Go.ChangeShapes Go.WideShapes Go.ChangeAt Go.RowKit

def Dis (v u : Value) : Prop := ∀ g, v.ownBlock = some g → u.ownBlock ≠ some g
theorem Dis.symm {v u : Value} (h : Dis v u) : Dis u v := fun g h1 h2 => h g h2 h1
theorem own_two {w w' : World} {B n s : Nat} {T : TypeId} {v u : Value} {xs : List Value} (ho : w.ownsRow B T s u n xs) (hg : w.grownBy w' v.ownBlock) (hd : Dis v u) : w'.ownsRow B T s u n xs :=
  ho.kept hg (by
    by_cases e : u.ownBlock = none
    · exact .inl e
    · refine .inr fun e2 => ?_
      obtain ⟨g, hg⟩ := Option.ne_none_iff_exists'.1 e
      exact hd g (by rw [← e2]; exact hg) hg)
theorem dis_lies {w : World} {B n s H g a c : Nat} {T : TypeId} {v u : Value} {xs : List Value} (hd : Dis v u) (ho : w.ownsRow B T s u n xs) (h : v.ownBlock = some g ∨ g = H) (hH : w.heap.size ≤ H) : Dis (.slice (some ⟨g, 0, none⟩) a c) u := by
  intro g' h1 h2
  have e : g = g' := by simpa [Value.ownBlock] using h1
  subst e
  rcases h with h | h
  · exact hd _ h h2
  · have := (ho.lt _ h2).2; omega
theorem set5_6 {w : World} {b : Nat} {x0 x1 x2 x3 x4 x5 : Value} {T : TypeId} (h : Blk w b #[x0, x1, x2, x3, x4, x5] T) (y0 y1 y2 y3 y4 : Value) : Blk (set5 w b y0 y1 y2 y3 y4) b #[y0, y1, y2, y3, y4, x5] T :=
  ((((h.set 0 y0).set 1 y1).set 2 y2).set 3 y3).set 4 y4
theorem build_ctx4 (a b c d : Int) (A : Option Addr) (n k : Nat) (w : World) : (Instr.build 25 #[(0, .agg #[.int .i64 a, .int .i64 b, .int .i64 c, .int .i64 d]), (1, .slice A n k)]).run Try.prog w = .ok (.agg #[.int .i64 a, .int .i64 b, .int .i64 c, .int .i64 d, .slice A n k]) w :=
  run_build w _ _ _ (by kernel_rfl)

set_option maxHeartbeats 4000000 in
set_option maxRecDepth 100000 in
theorem Rsince_any (t : Tab) (c : Ctx) (A : Option Addr) (k : Nat) (B : Option Addr) (m : Nat) (A' : Option Addr) (k' : Nat) (w : World)
    (ra : Row w w.heap.size A (dcells t.c.cloud)) (la : t.c.cloud.length ≤ 9223372036854775807) (rb : Row w w.heap.size B (tcells t.cells)) (lb : t.cells.length ≤ 9223372036854775807)
    (ra' : Row w w.heap.size A' (dcells c.cloud)) (la' : c.cloud.length ≤ 9223372036854775807) :
    Calls Try.prog 57 #[tval t A k B m, cval c A' k'] w (TabErr (sinceX t c) (sinceE t c) w) := by
  have HTC := hid (fun w1 (hb : Below w.heap.size w w1) => rtable_any t A k B m w1 (ra.step hb) la (rb.step hb) lb)
  have HCC := hid (fun w1 (hb : Below w.heap.size w w1) => context_any c A' k' w1 (ra'.step hb) la')
  have HHC := hid (fun d w1 (hb : Below w.heap.size w w1) => Rhas_any c d A' k' w1 (ra'.step hb) la')
  have HRA := hid (fun w1 (hb : Below w.heap.size w w1) => ra.step hb)
  have HRB := hid (fun w1 (hb : Below w.heap.size w w1) => rb.step hb)
  have HLN : Hid (tabI t = 0 → t.cells.length ≤ 400 ∧ t.c.cloud.length ≤ 400 ∧ clkIn t.c ∧ okC t.c ∧ ∀ d ∈ goneL t c, rightB d.1 d.2 = true) := hid (fun h => by
    obtain ⟨t1, t2, t3, -, -⟩ := tabI_iff.1 h
    exact ⟨t3, t2, t1.1, t1, gone_right h⟩)
  have hgl := gone_len t c
  have hKP : t.cells.filter (fun x => !hasB c x.d) = keepL t c := rfl
  have hGL : (t.cells.filter (fun x => hasB c x.d)).map Cel.d = goneL t c := rfl
  have hX1 : (tabI t ≠ 0 ∨ checkI c ≠ 0 ∨ woE t.c (goneL t c) ≠ 0) → sinceX t c = zT := fun h => by unfold sinceX; rw [if_pos h]
  have hX2 : tabI t = 0 → checkI c = 0 → woE t.c (goneL t c) = 0 → sinceX t c = ⟨woC t.c (goneL t c), keepL t c⟩ := fun h1 h2 h3 => by
    unfold sinceX; rw [if_neg (by simp [h1, h2, h3])]
  have hE : sinceE t c = if tabI t ≠ 0 then tabI t else if checkI c ≠ 0 then checkI c else woE t.c (goneL t c) := rfl
  obtain ⟨R, hR⟩ : ∃ R, R = sinceX t c := ⟨_, rfl⟩
  obtain ⟨RE, hRE⟩ : ∃ RE, RE = sinceE t c := ⟨_, rfl⟩
  rw [← hR, ← hRE]
  rw [← hR] at hX1 hX2
  rw [← hRE] at hE
  clear hR hRE
  obtain ⟨KL, hKL⟩ : ∃ KL, KL = keepL t c := ⟨_, rfl⟩
  rw [← hKL] at hKP hX2
  clear hKL
  obtain ⟨G, hG⟩ : ∃ G, G = goneL t c := ⟨_, rfl⟩
  rw [← hG] at HLN hGL hgl hX1 hX2 hE
  clear hG
  obtain ⟨TE, hTE⟩ : ∃ J, J = tabI t := ⟨_, rfl⟩
  obtain ⟨CE, hCE⟩ : ∃ J, J = checkI c := ⟨_, rfl⟩
  rw [← hTE] at HTC HLN hX1 hX2 hE
  rw [← hCE] at HCC hX1 hX2 hE
  clear hTE hCE
  have HX1 := hid hX1
  have HX2 := hid hX2
  have HE := hid hE
  have HKP := hid hKP
  have HGL := hid hGL
  have HGN := hid hgl
  have HHG := hid (fun (hl : G.length ≤ 400) d B2 n2 (w1 : World) (h : Row w1 w1.heap.size B2 (dcells G)) => Rhas_any ⟨0, 0, 0, 0, G⟩ d B2 n2 w1 h (by simp only; omega))
  obtain ⟨tc, htc⟩ : ∃ c : Ctx, c = t.c := ⟨_, rfl⟩
  rw [← htc] at HLN HX1 HX2 HE
  have CELA := hid (fun n h0 h4 u v => at_cell6 tc n h0 h4 u v)
  have HMU := hid (missUp_step tc (holeC tc G))
  have HUL := hid (fun h => missUp_le tc (holeC tc G) h)
  have HUE : Hid (missUp tc (holeC tc G) 4 = missR tc (holeC tc G)) := hid rfl
  have HEN := hid (since_end tc G)
  have HLK := hid (fun (n x : Int) (q : x = tc.at_ n ∨ x = holeN tc G n) => hole_look tc G n q)
  have HHL := hid (hole_le tc G)
  have HHP := hid (fun (n : Int) hc hg => hole_pos (c := tc) (g := G) (n := n) hc hg)
  have HCK := hid (fun (i : Int) h0 h4 hc hg => since_clk tc (g := G) (i := i) h0 h4 hc hg)
  have HCD := hid (fun hc n => since_cld (c := tc) G hc n)
  have HAT := hid (fun n h0 h4 => hole_at tc G (n := n) h0 h4)
  have HPX := hid (fun n j K h => clkDots_prefix tc (holeC tc G) n j K h)
  clear hX1 hX2 hE hKP hGL hgl ra rb ra'
  obtain ⟨⟨c0, c1, c2, c3, cl⟩, l⟩ := t
  obtain ⟨f0, f1, f2, f3, fl⟩ := c
  simp only at htc
  have HTCE := hid htc
  have hcl : tc.cloud = cl := by rw [htc]
  have hc0 : tc.c0 = c0 := by rw [htc]
  have hc1 : tc.c1 = c1 := by rw [htc]
  have hc2 : tc.c2 = c2 := by rw [htc]
  have hc3 : tc.c3 = c3 := by rw [htc]
  rw [hcl] at HLN HCD HUL
  rw [hc0, hc1, hc2, hc3] at CELA
  clear hcl hc0 hc1 hc2 hc3 htc
  simp only [tval, cval, dval, cbox] at HTC HCC HHC HHG ⊢
  simp only at HRA HRB HLN HKP HGL HGN
  obtain ⟨i0, hi0, hz0, hz1, hz2⟩ := info_parts info_cel
  obtain ⟨i1, hi1, hy0, hy1, hy2⟩ := info_parts info_dot
  go_enter Try.func57, Try.ntmps57
  go_wp2_with fail
  refine (HTC.out _ (by (repeat' (first | (with_reducible exact Below.refl _ _) | (with_reducible assumption) | (with_reducible refine below_drewN ?_ _) | (with_reducible refine Below.drew ?_) | (with_reducible refine Below.alloc ?_ ?_ _) | (with_reducible refine Below.setCell ?_ ?_ _) | (refine Below.trans ?_ (Below.mono (by assumption) ?_)) | go_size)))).mono ?_
  rintro e w1 ⟨rfl, hb1⟩
  have HBW := hid (show Below w.heap.size w w1 from (by refine Below.step' ?_ hb1; (repeat' (first | (with_reducible exact Below.refl _ _) | (with_reducible assumption) | (with_reducible refine below_drewN ?_ _) | (with_reducible refine Below.drew ?_) | (with_reducible refine Below.alloc ?_ ?_ _) | (with_reducible refine Below.setCell ?_ ?_ _) | (refine Below.trans ?_ (Below.mono (by assumption) ?_)) | go_size))))
  have HXA := hid (Blk.step (w := _) (b := w.heap.size) (cs := #[.int .i64 c0, .int .i64 c1, .int .i64 c2, .int .i64 c3, .slice A cl.length k, .slice B l.length m]) (T := 59) (by exact ((Blk.new w _ _).alloc _).alloc _) hb1)
  have HXB := hid (Blk.step (w := _) (b := w.heap.size + 1) (cs := #[.int .i64 f0, .int .i64 f1, .int .i64 f2, .int .i64 f3, .slice A' fl.length k']) (T := 25) (by exact (Blk.new' (w.alloc _) _ _ (by simp)).alloc _) hb1)
  have HXR := hid (Blk.step (w := _) (b := w.heap.size + 1 + 1) (cs := #[.int .i64 0, .int .i64 0, .int .i64 0, .int .i64 0, .slice none 0 0, .slice none 0 0]) (T := 59) (by exact Blk.new' ((w.alloc _).alloc _) _ _ (by simp)) hb1)
  clear hb1
  have hs := HBW.out.size
  have hxr := HXR.out.lt
  by_cases qA : TE = 0
  rotate_left
  · have t1 : (TE != 0) = true := by simpa using qA
    have EZ := hid qA
    clear qA
    have E1 : Hid (R = zT) := hid (HX1.out (.inl EZ.out))
    have E2 : Hid (RE = TE) := hid (by have e := HE.out; rw [if_pos EZ.out] at e; exact e)
    have hR := HXR.out
    obtain ⟨⟨r0, r1, r2, r3, r4, r5⟩, g0, g1, g2, g3, g4, g5⟩ := hR.six
    have HR6 := hid (Blk.set6 hR (.int .i64 0) (.int .i64 0) (.int .i64 0) (.int .i64 0) (.slice none 0 0) (.slice none 0 0))
    have HB6 := hid (Below.set6 HBW.out (show w.heap.size ≤ w.heap.size + 1 + 1 by omega) (.int .i64 0) (.int .i64 0) (.int .i64 0) (.int .i64 0) (.slice none 0 0) (.slice none 0 0))
    clear hR
    go_wp2
    obtain ⟨⟨q0, q1, q2, q3, q4, q5⟩, -⟩ := HR6.out.six
    exact bodyPost_ret (v := .tuple #[tval zT none 0 none 0, .int .i64 TE]) (by simp [results, Try.results57, go_sem, q0, q1, q2, q3, q4, q5, zT]) rfl ⟨none, 0, none, 0, by rw [E1.out, E2.out], by rw [E1.out]; exact Row.nil, by rw [E1.out]; exact Row.nil, HB6.out, newAt_none _, newAt_none _⟩
  · subst qA
    obtain ⟨cHXB, fHXB, sHXB, nHXB⟩ := HXB.out.all
    try simp only [cbox] at cHXB
    go_wp2_with fail
    refine (HCC.out _ HBW.out).mono ?_
    rintro e w2 ⟨rfl, hb2⟩
    clear cHXB fHXB sHXB nHXB
    replace HXA := hid (HXA.out.step hb2)
    replace HXB := hid (HXB.out.step hb2)
    replace HXR := hid (HXR.out.step hb2)
    replace HBW := hid (Below.step' HBW.out hb2)
    clear hb2
    by_cases qB : CE = 0
    rotate_left
    · have t1 : (CE != 0) = true := by simpa using qB
      have EZ := hid qB
      clear qB
      have E1 : Hid (R = zT) := hid (HX1.out (.inr (.inl EZ.out)))
      have E2 : Hid (RE = CE) := hid (by have e := HE.out; rw [if_neg (by simp), if_pos EZ.out] at e; exact e)
      have hR := HXR.out
      obtain ⟨⟨r0, r1, r2, r3, r4, r5⟩, g0, g1, g2, g3, g4, g5⟩ := hR.six
      have HR6 := hid (Blk.set6 hR (.int .i64 0) (.int .i64 0) (.int .i64 0) (.int .i64 0) (.slice none 0 0) (.slice none 0 0))
      have HB6 := hid (Below.set6 HBW.out (show w.heap.size ≤ w.heap.size + 1 + 1 by omega) (.int .i64 0) (.int .i64 0) (.int .i64 0) (.int .i64 0) (.slice none 0 0) (.slice none 0 0))
      clear hR
      go_wp2
      obtain ⟨⟨q0, q1, q2, q3, q4, q5⟩, -⟩ := HR6.out.six
      exact bodyPost_ret (v := .tuple #[tval zT none 0 none 0, .int .i64 CE]) (by simp [results, Try.results57, go_sem, q0, q1, q2, q3, q4, q5, zT]) rfl ⟨none, 0, none, 0, by rw [E1.out, E2.out], by rw [E1.out]; exact Row.nil, by rw [E1.out]; exact Row.nil, HB6.out, newAt_none _, newAt_none _⟩
    · subst qB
      obtain ⟨hl1, hl2, hclk, hok, hgr⟩ := HLN.out (by first | rfl | trivial)
      have hgl : G.length ≤ 400 := Nat.le_trans HGN.out hl1
      have HCLK := hid hclk
      have HOK := hid hok
      have HGR := hid hgr
      have KHG := hid (HHG.out hgl)
      clear hclk hok hgr HTC HCC HHG HLN
      obtain ⟨W, hW⟩ : ∃ W : World, W = w2 := ⟨_, rfl⟩
      subst hW
      have hsW := HBW.out.size
      have hxrW := HXR.out.lt
      -- STOP-a
      go_wp2_with fail
      -- STOP-b
      obtain ⟨W1, hW1⟩ : ∃ wx : World, wx = (W.alloc (.cells #[.int .i64 0, .int .i64 0, .int .i64 0, .int .i64 0, .slice none 0 0, .slice none 0 0] 59)).alloc (.cells #[.int .i64 0, .int .i64 0, .int .i64 0, .int .i64 0, .slice none 0 0] 25) := ⟨_, rfl⟩
      have HX8 := hid (show Blk W1 W.heap.size #[.int .i64 0, .int .i64 0, .int .i64 0, .int .i64 0, .slice none 0 0, .slice none 0 0] 59 by rw [hW1]; exact (Blk.new W _ _).alloc _)
      have HX9 := hid (show Blk W1 (W.heap.size + 1) #[.int .i64 0, .int .i64 0, .int .i64 0, .int .i64 0, .slice none 0 0] 25 by rw [hW1]; exact Blk.new' _ _ _ (by simp))
      have HB1 := hid (show Below W.heap.size W W1 by rw [hW1]; exact alloc_below (alloc_below (Below.refl _ _) _) _)
      rw [← hW1]
      clear hW1
      -- STOP-c
      go_loopw [10] (fun s10 wr => ∃ (i : Nat) (A8 A9 : Option Addr) (c8 c9 : Nat) (O : List Cel) (Q : List (Int × Int)), i ≤ l.length ∧ s10 = .int .i64 i ∧ O = (l.take i).filter (fun x => !hasB ⟨f0, f1, f2, f3, fl⟩ x.d) ∧ Q = ((l.take i).filter (fun x => hasB ⟨f0, f1, f2, f3, fl⟩ x.d)).map Cel.d ∧
        Blk wr W.heap.size #[.int .i64 0, .int .i64 0, .int .i64 0, .int .i64 0, .slice none 0 0, .slice A8 O.length c8] 59 ∧ Blk wr (W.heap.size + 1) #[.int .i64 0, .int .i64 0, .int .i64 0, .int .i64 0, .slice A9 Q.length c9] 25 ∧
        wr.ownsRow (W.heap.size + 2) 62 5 (.slice A8 O.length c8) O.length (tcells O) ∧ wr.ownsRow (W.heap.size + 2) 27 2 (.slice A9 Q.length c9) Q.length (dcells Q) ∧
        Dis (.slice A8 O.length c8) (.slice A9 Q.length c9) ∧ Below W.heap.size W wr) (fun s10 _ => l.length - (intOf s10).toNat)
      case atStart => exact ⟨0, none, none, 0, 0, [], [], by omega, rfl, by simp, by simp, HX8.out, HX9.out, World.ownsRow_nil _ _ _ _, World.ownsRow_nil _ _ _ _, (fun g h => by simp [Value.ownBlock] at h), HB1.out⟩
      case round =>
        obtain ⟨i, A8, A9, c8, c9, O, Q, hi, rfl, hO, hQ, hx8, hx9, hown8, hown9, hdis, hbw⟩ := hrel
        clear HX8 HX9 HB1
        have hst : ∀ hj : i < l.length, (l.take (i + 1)).filter (fun x => !hasB ⟨f0, f1, f2, f3, fl⟩ x.d) = O ++ (if hasB ⟨f0, f1, f2, f3, fl⟩ l[i].d = true then [] else [l[i]]) := by
          intro hj
          rw [List.take_succ_eq_append_getElem hj, List.filter_append, List.filter_cons, List.filter_nil, hO]
          cases hasB ⟨f0, f1, f2, f3, fl⟩ l[i].d <;> rfl
        have hsq : ∀ hj : i < l.length, ((l.take (i + 1)).filter (fun x => hasB ⟨f0, f1, f2, f3, fl⟩ x.d)).map Cel.d = Q ++ (if hasB ⟨f0, f1, f2, f3, fl⟩ l[i].d = true then [l[i].d] else []) := by
          intro hj
          rw [List.take_succ_eq_append_getElem hj, List.filter_append, List.filter_cons, List.filter_nil, List.map_append, hQ]
          cases hasB ⟨f0, f1, f2, f3, fl⟩ l[i].d <;> rfl
        have hol : O.length ≤ 400 := by
          have := List.length_filter_le (fun x : Cel => !hasB ⟨f0, f1, f2, f3, fl⟩ x.d) (l.take i)
          rw [List.length_take] at this
          rw [hO]; omega
        have hql : Q.length ≤ 400 := by
          have := List.length_filter_le (fun x : Cel => hasB ⟨f0, f1, f2, f3, fl⟩ x.d) (l.take i)
          rw [List.length_take] at this
          rw [hQ, List.length_map]; omega
        have hfin : ¬ i < l.length → O = KL ∧ Q = G := fun h => by
          rw [List.take_of_length_le (by omega)] at hO hQ
          exact ⟨hO.trans HKP.out, hQ.trans HGL.out⟩
        clear hO hQ
        have HO8 := hid hown8
        have HO9 := hid hown9
        have HX8 := hid hx8
        have HX9 := hid hx9
        have HDIS := hid hdis
        have HB1 := hid hbw
        have HBX := hid (Below.step' HBW.out hbw)
        have HFIN := hid hfin
        have hs4 := hx9.lt
        have HXB1 := hid (HXB.out.step hbw)
        clear hown8 hown9 hx8 hx9 hdis hbw hfin
        by_cases hlt : i < l.length
        · obtain ⟨b, off, hA, hb, e0, e1, e2, e3, e4⟩ := (HRB.out wr HBX.out).cel hlt
          subst hA
          have HST := hid (hst hlt)
          have HSQ := hid (hsq hlt)
          have HXA1 := hid (HXA.out.step HB1.out)
          clear hst hsq
          generalize l[i] = x at *
          obtain ⟨⟨d0, d1⟩, ky, co, vl⟩ := x
          simp only at e0 e1 e2 e3 e4
          have hh := fun w1 hb => HHC.out (d0, d1) w1 hb
          simp only [dval] at hh
          have hneb : (b = wr.heap.size) = False := by simp; omega
          obtain ⟨cHXA1, fHXA1, sHXA1, nHXA1⟩ := HXA1.out.all
          try simp only [cbox] at cHXA1
          obtain ⟨cHXB1, fHXB1, sHXB1, nHXB1⟩ := HXB1.out.all
          try simp only [cbox] at cHXB1
          cases hhas : hasB ⟨f0, f1, f2, f3, fl⟩ (d0, d1)
          all_goals
            rw [hhas] at hh
            have HHH := hid hh
            have HQ := hid hhas
            clear hh hhas
            go_wp2_with fail
            refine (HHH.out _ (HBX.out.alloc HBX.out.size _)).mono ?_
            rintro e w5 ⟨rfl, hb5⟩
            have hB5 : Below wr.heap.size wr w5 := (by refine Below.step' ?_ hb5; (repeat' (first | (with_reducible exact Below.refl _ _) | (with_reducible assumption) | (with_reducible refine below_drewN ?_ _) | (with_reducible refine Below.drew ?_) | (with_reducible refine Below.alloc ?_ ?_ _) | (with_reducible refine Below.setCell ?_ ?_ _) | (refine Below.trans ?_ (Below.mono (by assumption) ?_)) | go_size)))
            clear cHXA1 fHXA1 sHXA1 nHXA1
            clear cHXB1 fHXB1 sHXB1 nHXB1
            have HO8a := hid (own_laterS HO8.out hB5)
            have HO9a := hid (own_laterS HO9.out hB5)
            replace HX8 := hid (HX8.out.step hB5)
            replace HX9 := hid (HX9.out.step hB5)
            have HB5 := hid (Below.step' HB1.out hB5)
            have HX5 := hid (Blk.step (Blk.new wr #[.int .i64 d0, .int .i64 d1, .int .i64 ky, .int .i64 co, .int .i64 vl] 62) hb5)
            have hs5 := hB5.size
            have hne8 : (W.heap.size = w5.heap.size) = False := by simp; omega
            have hne9 : (W.heap.size + 1 = w5.heap.size) = False := by simp; omega
            clear hb5 hB5 e0 e1 e2 e3 e4 hneb hb HO8 HO9
          · -- STOP-d
            obtain ⟨⟨o0, o1, o2, o3, o4, o5⟩, p0, p1, p2, p3, p4, p5⟩ := HX8.out.six
            obtain ⟨cHX5, fHX5, sHX5, nHX5⟩ := HX5.out.all
            try simp only [cbox] at cHX5
            go_wp2_with (at_builtin; refine wpList_append_lies _ rfl _ _ 57 rfl (W.heap.size + 2) 62 i0 _ 5 40 Try.underlying57 hi0 hz0 hz1 hz2 rfl (by decide) (.slice A8 O.length c8) O.length (tcells O) rfl (HO8a.out.alloc _) ⟨w5.heap.size, 0, none⟩ 1 1 (tcells [⟨(d0, d1), ky, co, vl⟩]) rfl rfl (newsT w5 ⟨(d0, d1), ky, co, vl⟩ _ _ rfl) (tcells_one _) (by decide) ?_ ?_ ?_ (w5.heap.size + 1) (by simp) ?_; rotate_right; intro g9 cap9 w6 hown6 hg6 hat6 hlt6; have hx6 := (HX8.out.alloc _).grown' hg6 (own_ne_lo HO8a.out _ (by omega)); have hy6 := (HX9.out.alloc _).grown' hg6 (own_ne_lo HO8a.out _ (by omega)); have ho9 := own_two (HO9a.out.alloc _) hg6 HDIS.out; have hd6 := dis_lies (a := O.length + 1) (c := cap9) HDIS.out HO9a.out hat6 (Nat.le_succ _); obtain ⟨⟨y0, y1, y2, y3, y4, y5⟩, z0, z1, z2, z3, z4, z5⟩ := hx6.six; have HX6 := hid hx6; have HY6 := hid hy6; have HO96 := hid ho9; have HD6 := hid hd6; have HB6 := hid ((HB5.out.alloc (by omega) _).grown hg6 (by simp; omega) (fun g e => by have := (HO8a.out.lt g e).1; omega)); have HO86 := hid hown6; clear hx6 hy6 ho9 hd6 hown6 hg6 hat6 hlt6; rotate_left; (simp only [maxLen]; omega); (omega); (simp; omega))
            -- STOP-e
            go_roundw
            case rel =>
              have h7 := HX6.out.set 5 (.slice (some ⟨g9, 0, none⟩) (O.length + 1) cap9)
              have h8 := own_setS HO86.out (show W.heap.size < W.heap.size + 2 by omega) 5 (.slice (some ⟨g9, 0, none⟩) (O.length + 1) cap9)
              have h9 := own_setS HO96.out (show W.heap.size < W.heap.size + 2 by omega) 5 (.slice (some ⟨g9, 0, none⟩) (O.length + 1) cap9)
              refine ⟨i + 1, some ⟨g9, 0, none⟩, A9, cap9, c9, O ++ [⟨(d0, d1), ky, co, vl⟩], Q, by omega, by go_num, ?_, ?_, ?_, ?_, ?_, ?_, ?_, HB6.out.setCell (p := ⟨W.heap.size, 5, none⟩) (Nat.le_refl _) _⟩
              · rw [HST.out, HQ.out, if_neg (by simp)]
              · rw [HSQ.out, HQ.out, if_neg (by simp), List.append_nil]
              · simpa using h7
              · exact HY6.out.other (by simp) _
              · rw [tcells_snoc]; simpa using h8
              · exact h9
              · simpa using HD6.out
            case measure => simp [intOf]; omega
          · -- STOP-f
            obtain ⟨⟨o0, o1, o2, o3, o4⟩, p0, p1, p2, p3, p4⟩ := HX9.out.five
            obtain ⟨cHX5, fHX5, sHX5, nHX5⟩ := HX5.out.all
            try simp only [cbox] at cHX5
            go_wp2_with (at_builtin; refine wpList_append_lies _ rfl _ _ 23 rfl (W.heap.size + 2) 27 i1 _ 2 16 Try.underlying23 hi1 hy0 hy1 hy2 rfl (by decide) (.slice A9 Q.length c9) Q.length (dcells Q) rfl (HO9a.out.alloc _) ⟨w5.heap.size, 0, none⟩ 1 1 (dcells [(d0, d1)]) rfl rfl (news_new w5 d0 d1 _ _ rfl) (dcells_one _) (by decide) ?_ ?_ ?_ (w5.heap.size + 1) (by simp) ?_; rotate_right; intro g9 cap9 w6 hown6 hg6 hat6 hlt6; have hx6 := (HX8.out.alloc _).grown' hg6 (own_ne_lo HO9a.out _ (by omega)); have hy6 := (HX9.out.alloc _).grown' hg6 (own_ne_lo HO9a.out _ (by omega)); have ho9 := own_two (HO8a.out.alloc _) hg6 HDIS.out.symm; have hd6 := dis_lies (a := Q.length + 1) (c := cap9) HDIS.out.symm HO8a.out hat6 (Nat.le_succ _); obtain ⟨⟨y0, y1, y2, y3, y4⟩, z0, z1, z2, z3, z4⟩ := hy6.five; have HX6 := hid hx6; have HY6 := hid hy6; have HO86 := hid ho9; have HD6 := hid hd6; have HB6 := hid ((HB5.out.alloc (by omega) _).grown hg6 (by simp; omega) (fun g e => by have := (HO9a.out.lt g e).1; omega)); have HO96 := hid hown6; clear hx6 hy6 ho9 hd6 hown6 hg6 hat6 hlt6; rotate_left; (simp only [maxLen]; omega); (omega); (simp; omega))
            go_roundw
            case rel =>
              have h7 := HY6.out.set 4 (.slice (some ⟨g9, 0, none⟩) (Q.length + 1) cap9)
              have h8 := own_setS HO96.out (show W.heap.size + 1 < W.heap.size + 2 by omega) 4 (.slice (some ⟨g9, 0, none⟩) (Q.length + 1) cap9)
              have h9 := own_setS HO86.out (show W.heap.size + 1 < W.heap.size + 2 by omega) 4 (.slice (some ⟨g9, 0, none⟩) (Q.length + 1) cap9)
              refine ⟨i + 1, A8, some ⟨g9, 0, none⟩, c8, cap9, O, Q ++ [(d0, d1)], by omega, by go_num, ?_, ?_, ?_, ?_, ?_, ?_, ?_, HB6.out.setCell (p := ⟨W.heap.size + 1, 4, none⟩) (Nat.le_succ _) _⟩
              · rw [HST.out, HQ.out, if_pos rfl, List.append_nil]
              · rw [HSQ.out, HQ.out, if_pos rfl]
              · exact HX6.out.other (by simp) _
              · simpa using h7
              · exact h9
              · simpa [dcells] using h8
              · have := HD6.out.symm
                simpa using this
            case measure => simp [intOf]; omega
        · obtain ⟨rfl, rfl⟩ := HFIN.out hlt
          clear HFIN hst hsq HKP HGL
          obtain ⟨Y, hY⟩ : ∃ Y : World, Y = wr := ⟨_, rfl⟩
          subst hY
          have HXA1 := hid (HXA.out.step HB1.out)
          obtain ⟨cHXA1, fHXA1, sHXA1, nHXA1⟩ := HXA1.out.all
          try simp only [cbox] at cHXA1
          -- STOP-g
          go_upto_region 16 with fail
          clear hlt
          clear cHXA1 fHXA1 sHXA1 nHXA1
          obtain ⟨W0, hW0⟩ : ∃ W0 : World, W0 = Y.alloc (.cells #[.int .i64 0, .int .i64 0, .int .i64 0, .int .i64 0] 22) := ⟨_, rfl⟩
          have HXK := hid (show Blk W0 Y.heap.size (kbx (holeN tc Q) 0) 22 by rw [hW0, kbx_zero]; exact Blk.new _ _ _)
          have HB0 := hid (show Below Y.heap.size Y W0 by rw [hW0]; exact alloc_below (Below.refl _ _) _)
          have HR9 := hid (show Row Y Y.heap.size A9 (dcells Q) from Row.of_ownS HO9.out)
          have KHQ := hid (fun w1 (hb : Below Y.heap.size Y w1) d => KHG.out d A9 c9 w1 (HR9.out.step hb))
          have KRA := hid (fun w1 (hb : Below Y.heap.size Y w1) => HRA.out w1 (Below.step' HBX.out hb))
          have hsy := HX9.out.lt
          go_wp2_with fail
          -- STOP-h
          rw [← hW0]
          clear hW0
          go_loopw [13, 14] (fun s13 s14 wr => ∃ i : Nat, i ≤ 4 ∧ s14 = .int .i64 i ∧ wr.ownsRow (Y.heap.size + 1) 27 2 s13 (missUp tc (holeC tc Q) i).length (dcells (missUp tc (holeC tc Q) i)) ∧ Blk wr Y.heap.size (kbx (holeN tc Q) i) 22 ∧ Below Y.heap.size Y wr) (fun _ s14 _ => 4 - (intOf s14).toNat)
          case atStart => exact ⟨0, by omega, rfl, World.ownsRow_nil _ _ _ _, HXK.out, HB0.out⟩
          case round =>
            obtain ⟨i, hi, rfl, hown, hxk, hbw⟩ := hrel
            clear HXK HB0
            obtain ⟨wo, rfl⟩ : ∃ wo : World, wo = wr := ⟨_, rfl⟩
            have HOWN := hid hown
            have HXK := hid hxk
            have HB2 := hid hbw
            have hs6 := hxk.lt
            clear hown hxk hbw
            by_cases hlt : i < 4
            · have hxa2 := HXA1.out.step HB2.out
              have hx92 := HX9.out.step HB2.out
              have hea : wo.cell? ⟨w.heap.size, i, none⟩ = some (.int .i64 (tc.at_ i)) := by rw [hxa2.cells.1]; exact CELA.out i (by omega) (by omega) _ _
              obtain ⟨ia0, ia1⟩ := at_in HCLK.out (i : Int)
              have hp0 := HHP.out i ia0 (fun d hd => (right_iff.1 (HGR.out d hd)).2.2.1)
              have hp1 := HHL.out i
              have hmu := HMU.out i
              have hul := HUL.out hl2 i
              rw [HAT.out i (by omega) (by omega)] at hmu
              have hck := HCK.out i (by omega) (by omega) ia0 (fun d hd => (right_iff.1 (HGR.out d hd)).2.2.1)
              have hlk := HLK.out i
              have hst3 := kbx_set (holeN tc Q) hlt
              obtain ⟨ox, hox⟩ := kbx_at (holeN tc Q) hlt
              have hgr := HGR.out
              obtain ⟨O2, hO2⟩ : ∃ O, O = missUp tc (holeC tc Q) i := ⟨_, rfl⟩
              rw [← hO2] at HOWN hmu hul
              obtain ⟨N2, hN2⟩ : ∃ O, O = missUp tc (holeC tc Q) (i + 1) := ⟨_, rfl⟩
              rw [← hN2] at hmu
              obtain ⟨h, hh⟩ : ∃ h, h = holeN tc Q i := ⟨_, rfl⟩
              rw [← hh] at hp0 hp1 hmu hck hlk hst3
              obtain ⟨a, ha⟩ : ∃ a, a = tc.at_ i := ⟨_, rfl⟩
              rw [← ha] at hea ia0 ia1 hp1 hmu hlk
              have HMU2 := hid hmu
              have HCK2 := hid hck
              have HLK2 := hid hlk
              have HST3 := hid hst3
              have HAC : Hid ((#[.int .i64 c0, .int .i64 c1, .int .i64 c2, .int .i64 c3, .slice A cl.length k, .slice B l.length m] : Array Value)[i]? = some (.int .i64 a)) := hid (by rw [ha]; exact CELA.out i (by omega) (by omega) _ _)
              have HEA := hid hea
              have HOX := hid hox
              have HXA2 := hid hxa2
              have HX92 := hid hx92
              have HN2 := hid hN2
              have HGR2 := hid hgr
              have HUL2 : Hid (O2.length ≤ 2001) := hid (by omega)
              clear hxa2 hx92 hmu hck hlk hst3 hh ha hox hN2 hO2 hgr hul
              have hsA := HXA2.out.lt
              have t4 : (i : Int) < 4 := by omega
              -- STOP-i
              go_upto_block 4 with fail
              clear hea
              -- STOP-j
              go_cut [15] from 75 to 104 (fun s15 wx => s15 = .int .i64 h ∧ Below wo.heap.size wo wx)
              case first =>
                go_wp2_with fail
                go_loopw [15] (fun s15 w3 => ∃ x : Int, s15 = .int .i64 x ∧ (x = a ∨ x = h) ∧ Below wo.heap.size wo w3) (fun s15 _ => (intOf s15 - h).toNat)
                case atStart => exact ⟨a, rfl, .inl rfl, Below.refl _ _⟩
                case round =>
                  obtain ⟨x, rfl, hx, hb3⟩ := hrel
                  obtain ⟨w3, rfl⟩ : ∃ wo : World, wo = wr := ⟨_, rfl⟩
                  have hx0 : 0 ≤ x ∧ x ≤ 1099511627776 ∧ h ≤ x := by omega
                  obtain ⟨hx1, hx2, hx3⟩ := hx0
                  have HFX := hid (HLK2.out x hx)
                  have HX := hid hx
                  have HB3 := hid hb3
                  clear hx hb3
                  go_wp2_with fail
                  -- STOP-k
                  go_loopw [16, 17] (fun s16 s17 w4 => ∃ j : Nat, j ≤ Q.length ∧ s17 = .int .i64 j ∧ s16 = .int .i64 ((Q.take j).foldl (holeStep i) x) ∧ Below wo.heap.size wo w4) (fun _ s17 _ => Q.length - (intOf s17).toNat)
                  case atStart => exact ⟨0, by omega, rfl, by simp, HB3.out⟩
                  case round =>
                    obtain ⟨j, hj, rfl, rfl, hb4⟩ := hrel
                    have hB4 : Below Y.heap.size Y wr := Below.step' HB2.out hb4
                    have e4 : wr.cell? ⟨W.heap.size + 1, 4, none⟩ = some (.slice A9 Q.length c9) := by rw [(HX9.out.step hB4).cells.1]; rfl
                    have hsz := hb4.size
                    have HB4 := hid hb4
                    clear hb4
                    by_cases hjl : j < Q.length
                    · obtain ⟨b', off, hA, hb', h0, h1⟩ := (HR9.out.step hB4).dot hjl
                      rw [hA] at e4
                      clear hA hB4
                      have hstp := hole_take (g := Q) i x hjl
                      have hrt := right_iff.1 (HGR2.out _ (List.getElem_mem hjl))
                      obtain ⟨kk, hkk⟩ : ∃ kk, kk = (Q.take j).foldl (holeStep i) x := ⟨_, rfl⟩
                      rw [← hkk] at hstp ⊢
                      have HSTP := hid hstp
                      clear hstp hkk
                      generalize Q[j] = d at *
                      obtain ⟨d0, d1⟩ := d
                      simp only at h0 h1 hrt
                      obtain ⟨-, -, hr1, hr2⟩ := hrt
                      have hwr : IntKind.i64.wrap (d1 - 1) = d1 - 1 := IntWalk.i64_in _ (by omega)
                      have hneb : (b' = wr.heap.size) = False := by simp; omega
                      have hB5 : Below wo.heap.size wo (wr.alloc (.cells #[.int .i64 d0, .int .i64 d1] 27)) := HB4.out.alloc (by omega) _
                      have HB5 := hid hB5
                      clear hB5
                      by_cases hn : d0 = (i : Int)
                      · have tq : ((d0 : Int) == (i : Int)) = true := by simp [hn]
                        by_cases hk : d1 ≤ kk
                        · have HS2 : Hid ((Q.take (j + 1)).foldl (holeStep i) x = d1 - 1) := hid (by rw [HSTP.out]; unfold holeStep; rw [if_pos ⟨hn, hk⟩])
                          clear hn
                          go_wp2_with fail
                          -- STOP-l
                          go_roundw
                          case rel => exact ⟨j + 1, by omega, by go_num, by rw [HS2.out], HB5.out⟩
                          case measure => simp [intOf]; omega
                        · have HS2 : Hid ((Q.take (j + 1)).foldl (holeStep i) x = kk) := hid (by rw [HSTP.out]; unfold holeStep; rw [if_neg (fun q => hk q.2)])
                          have hk' : kk < d1 := by omega
                          clear hn
                          go_wp2_with fail
                          go_roundw
                          case rel => exact ⟨j + 1, by omega, by go_num, by rw [HS2.out], HB5.out⟩
                          case measure => simp [intOf]; omega
                      · have tq : ((d0 : Int) == (i : Int)) = false := by simp [hn]
                        have HS2 : Hid ((Q.take (j + 1)).foldl (holeStep i) x = kk) := hid (by rw [HSTP.out]; unfold holeStep; rw [if_neg (fun q => hn q.1)])
                        clear hn
                        go_wp2_with fail
                        go_roundw
                        case rel => exact ⟨j + 1, by omega, by go_num, by rw [HS2.out], HB5.out⟩
                        case measure => simp [intOf]; omega
                    · have hkk : (Q.take j).foldl (holeStep i) x = h := by rw [List.take_of_length_le (by omega)]; exact HFX.out
                      rw [hkk]
                      clear hkk hB4
                      by_cases hxe : h = x
                      · have t1 : (h == x) = true := by simp [hxe]
                        have HXE := hid hxe
                        clear hxe
                        go_wp2_with fail
                        -- STOP-m
                        go_meet
                        case rel => exact ⟨by rw [HXE.out], HB4.out⟩
                      · have t1 : (h == x) = false := by simp [hxe]
                        have hlt3 : h < x := by omega
                        clear hxe
                        go_wp2_with fail
                        go_roundw
                        case rel => exact ⟨h, rfl, .inr rfl, HB4.out⟩
                        case measure => simp [intOf]; omega
              case rest =>
                obtain ⟨rfl, hbx⟩ := hcut
                obtain ⟨wx, rfl⟩ : ∃ wx : World, wx = wc := ⟨_, rfl⟩
                clear HLK2 HEA
                have hxk := HXK.out.step hbx
                have hk1 : wx.cell? ⟨Y.heap.size, i, none⟩ = some (.int .i64 ox) := by rw [hxk.cells.1]; exact HOX.out
                have hk2 : wx.frozen? ⟨Y.heap.size, i, none⟩ = false := hxk.cells.2 i
                have hk3 := hxk.lt
                have hownx := own_laterS HOWN.out hbx
                have hbY := Below.step' HB2.out hbx
                obtain ⟨V, hV⟩ : ∃ V : World, V = wx.setCell ⟨Y.heap.size, i, none⟩ (.int .i64 h) := ⟨_, rfl⟩
                have HXV := hid (show Blk V Y.heap.size (kbx (holeN tc Q) (i + 1)) 22 by rw [hV, ← HST3.out]; exact hxk.set i _)
                have HOV := hid (show V.ownsRow (Y.heap.size + 1) 27 2 _ O2.length (dcells O2) by rw [hV]; exact own_setS hownx (Nat.lt_succ_self _) i _)
                have HBV := hid (show Below Y.heap.size Y V by rw [hV]; exact hbY.setCell (p := ⟨Y.heap.size, i, none⟩) (Nat.le_refl _) _)
                clear hxk hownx hbY hbx HXK HOWN HB2 HXA2 HX92
                have hw1 : IntKind.i64.wrap (h + 1) = h + 1 := IntWalk.i64_in _ (by omega)
                -- STOP-n
                go_upto_block 8 with fail
                -- STOP-o
                rw [← hV]
                clear hk1 hk2 hk3 hV hw1
                obtain ⟨K, hK⟩ : ∃ K, K = (a - h).toNat := ⟨_, rfl⟩
                have HMU3 : Hid (N2 = O2 ++ (clkDots tc (holeC tc Q) i K).take (401 - O2.length) ++ cldMiss tc (holeC tc Q) i) := hid (by rw [HMU2.out, hK])
                obtain ⟨lo, hlo⟩ : ∃ lo, lo = h + 1 := ⟨_, rfl⟩
                have HSUC : Hid (∀ j : Nat, clkDots tc (holeC tc Q) i (j + 1) = clkDots tc (holeC tc Q) i j ++ (if hasB ⟨0, 0, 0, 0, Q⟩ ((i : Int), lo + (j : Int)) = true then [] else [((i : Int), lo + (j : Int))])) := hid (fun j => by rw [hlo]; exact HCK2.out j)
                rw [← hlo]
                have hk : lo + (K : Int) = a + 1 := by omega
                have hl0 : 1 ≤ lo := by omega
                have hk1 : lo + (K : Int) ≤ 1099511627777 := by omega
                have HK := hid hk
                have hul := HUL2.out
                clear hK hlo hk HMU2 HCK2
                go_cut [13] from 110 to 134 (fun s13 wx => wx.ownsRow (Y.heap.size + 1) 27 2 s13 (O2 ++ (clkDots tc (holeC tc Q) i K).take (401 - O2.length)).length (dcells (O2 ++ (clkDots tc (holeC tc Q) i K).take (401 - O2.length))) ∧ Blk wx Y.heap.size (kbx (holeN tc Q) (i + 1)) 22 ∧ Below Y.heap.size Y wx)
                case first =>
                  go_wp2_with fail
                  -- STOP-p
                  go_loopw [13, 19] (fun s13 s19 wr => ∃ j : Nat, j ≤ K ∧ s19 = .int .i64 (lo + j) ∧ wr.ownsRow (Y.heap.size + 1) 27 2 s13 (O2 ++ (clkDots tc (holeC tc Q) i j).take (401 - O2.length)).length (dcells (O2 ++ (clkDots tc (holeC tc Q) i j).take (401 - O2.length))) ∧ Blk wr Y.heap.size (kbx (holeN tc Q) (i + 1)) 22 ∧ Below Y.heap.size Y wr) (fun _ s19 _ => (lo + K - intOf s19).toNat)
                  case atStart => exact ⟨0, by omega, by simp, by simpa [clkDots] using HOV.out, HXV.out, HBV.out⟩
                  case round =>
                    obtain ⟨j, hj, rfl, hown2, hxk2, hb2⟩ := hrel
                    have hea : wr.cell? ⟨w.heap.size, i, none⟩ = some (.int .i64 a) := by rw [(HXA1.out.step hb2).cells.1]; exact HAC.out
                    have hl2 : (O2 ++ (clkDots tc (holeC tc Q) i j).take (401 - O2.length)).length ≤ 401 ∨ (O2 ++ (clkDots tc (holeC tc Q) i j).take (401 - O2.length)).length ≤ O2.length := by simp only [List.length_append, List.length_take]; omega
                    obtain ⟨AA, qa, rfl⟩ := own_form hown2
                    obtain ⟨o2, ho2⟩ : ∃ o2, o2 = O2 ++ (clkDots tc (holeC tc Q) i j).take (401 - O2.length) := ⟨_, rfl⟩
                    rw [← ho2] at hown2 hl2 ⊢
                    have HO2 := hid ho2
                    have HOWN2 := hid hown2
                    have HXK2 := hid hxk2
                    have HB2 := hid hb2
                    have hs7 := hb2.size
                    have hs8 := hxk2.lt
                    clear ho2 hown2 hxk2
                    by_cases hjK : j < K
                    · by_cases h4 : o2.length ≤ 400
                      · have t1 : lo + (j : Int) ≤ a := by have := HK.out; omega
                        have t2 : (o2.length : Int) ≤ 400 := by omega
                        have HX93 := hid (HX9.out.step hb2)
                        clear hb2 hul hl2
                        cases hq : hasB ⟨0, 0, 0, 0, Q⟩ ((i : Int), lo + (j : Int))
                        all_goals
                          have HQ := hid hq
                          have hh := KHQ.out _ (HB2.out.alloc (by omega) (.cells #[.int .i64 i, .int .i64 (lo + j)] 27)) ((i : Int), lo + (j : Int))
                          rw [hq] at hh
                          simp only [dval] at hh
                          obtain ⟨cHX93, fHX93, sHX93, nHX93⟩ := HX93.out.all
                          try simp only [cbox] at cHX93
                          go_wp2_with fail
                          -- STOP-q
                          refine hh.mono ?_
                          rintro e w5 ⟨rfl, hb5⟩
                          clear cHX93 fHX93 sHX93 nHX93
                          have hB5 : Below wr.heap.size wr w5 := (by refine Below.step' ?_ hb5; (repeat' (first | (with_reducible exact Below.refl _ _) | (with_reducible assumption) | (with_reducible refine below_drewN ?_ _) | (with_reducible refine Below.drew ?_) | (with_reducible refine Below.alloc ?_ ?_ _) | (with_reducible refine Below.setCell ?_ ?_ _) | (refine Below.trans ?_ (Below.mono (by assumption) ?_)) | go_size)))
                          have HOWN5 := hid (own_later HOWN2.out hB5)
                          have HXK5 := hid (HXK2.out.step hB5)
                          have HB5 := hid (Below.step' HB2.out hB5)
                          have hs5 := hB5.size
                          have hs9 := HXK5.out.lt
                        · have HX5 := hid ((Blk.new wr #[.int .i64 i, .int .i64 (lo + j)] 27).step hb5)
                          clear hb5 hB5 hq hh hea
                          obtain ⟨cHX5, fHX5, sHX5, nHX5⟩ := HX5.out.all
                          try simp only [cbox] at cHX5
                          go_wp2_with (at_builtin; refine wpList_append_own _ rfl _ _ 23 rfl (Y.heap.size + 1) 27 i1 _ 2 16 Try.underlying23 hi1 hy0 hy1 hy2 rfl (by decide) _ _ _ rfl (HOWN5.out.alloc _) ⟨w5.heap.size, 0, none⟩ 1 1 (dcells [((i : Int), lo + (j : Int))]) rfl rfl (news_new w5 _ _ _ _ rfl) (dcells_one _) ?_ ?_ ?_ ?_; rotate_right; intro v6 w6 hown6 hg6 hif6; clear hif6; rotate_left; (simp only [maxLen]; omega); (omega); (simp; omega))
                          -- STOP-r
                          go_roundw
                          case rel =>
                            refine ⟨j + 1, by omega, by go_num, ?_, (HXK5.out.alloc _).grown' hg6 (own_ne_lo HOWN5.out _ (Nat.lt_succ_self _)), (HB5.out.alloc (by omega) _).grown hg6 (by simp; omega) (fun g e => by have := (HOWN5.out.lt g e).1; omega)⟩
                            rw [HSUC.out j, HQ.out, if_neg (by simp), cap_snoc _ _ _ (by rw [← HO2.out]; exact h4), ← HO2.out]
                            simpa [dcells] using hown6
                          case measure => simp [intOf]; omega
                        · clear hb5 hB5 hq hh hea
                          go_wp2_with fail
                          go_roundw
                          case rel =>
                            refine ⟨j + 1, by omega, by go_num, ?_, HXK5.out, HB5.out⟩
                            rw [HSUC.out j, HQ.out, if_pos rfl, List.append_nil, ← HO2.out]
                            exact HOWN5.out
                          case measure => simp [intOf]; omega
                      · have t1 : lo + (j : Int) ≤ a := by have := HK.out; omega
                        have t2 : (400 : Int) < (o2.length : Int) := by omega
                        clear hb2 hul hl2
                        go_wp2_with fail
                        go_meet
                        case rel =>
                          obtain ⟨D, hD⟩ := HPX.out i j K hj
                          rw [hD, cap_full _ _ _ (by rw [← HO2.out]; omega), ← HO2.out]
                          exact ⟨HOWN2.out, HXK2.out, HB2.out⟩
                    · have e : j = K := by omega
                      have t1 : a < lo + (j : Int) := by have := HK.out; omega
                      have HE := hid e
                      clear hb2 hul hl2 e
                      go_wp2_with fail
                      go_meet
                      case rel =>
                        rw [← HE.out, ← HO2.out]
                        exact ⟨HOWN2.out, HXK2.out, HB2.out⟩
                case rest =>
                  obtain ⟨hown3, hxk3, hb3⟩ := hcut
                  obtain ⟨wy, rfl⟩ : ∃ wx : World, wx = wc := ⟨_, rfl⟩
                  obtain ⟨AB, qb, rfl⟩ := own_form hown3
                  have hl3 : (O2 ++ (clkDots tc (holeC tc Q) i K).take (401 - O2.length)).length ≤ 2001 := by simp only [List.length_append, List.length_take]; omega
                  obtain ⟨O3, hO3⟩ : ∃ O3, O3 = O2 ++ (clkDots tc (holeC tc Q) i K).take (401 - O2.length) := ⟨_, rfl⟩
                  have HMU4 : Hid (N2 = O3 ++ cldMiss tc (holeC tc Q) i) := hid (by rw [HMU3.out, hO3])
                  rw [← hO3] at hown3 hl3 ⊢
                  have HOWN3 := hid hown3
                  have HXK3 := hid hxk3
                  have HB3 := hid hb3
                  clear hown3 hxk3 hb3 hul HOV HXV HBV HK HSUC HMU3 hO3
                  have HCD2 := hid (HCD.out HOK.out i)
                  go_wp2_with fail
                  -- STOP-s
                  go_loopw [13, 21] (fun s13 s21 wr => ∃ j : Nat, j ≤ cl.length ∧ s21 = .int .i64 j ∧ wr.ownsRow (Y.heap.size + 1) 27 2 s13 (O3 ++ (cl.take j).filter (fun d => decide (d.1 = (i : Int)) && !hasB ⟨0, 0, 0, 0, Q⟩ d)).length (dcells (O3 ++ (cl.take j).filter (fun d => decide (d.1 = (i : Int)) && !hasB ⟨0, 0, 0, 0, Q⟩ d))) ∧ Blk wr Y.heap.size (kbx (holeN tc Q) (i + 1)) 22 ∧ Below Y.heap.size Y wr) (fun _ s21 _ => cl.length - (intOf s21).toNat)
                  case atStart => exact ⟨0, by omega, rfl, by simpa using HOWN3.out, HXK3.out, HB3.out⟩
                  case round =>
                    obtain ⟨j, hj, rfl, hown4, hxk4, hb4⟩ := hrel
                    have e4 : wr.cell? ⟨w.heap.size, 4, none⟩ = some (.slice A cl.length k) := by rw [(HXA1.out.step hb4).cells.1]; rfl
                    have hl4 : (O3 ++ (cl.take j).filter (fun d => decide (d.1 = (i : Int)) && !hasB ⟨0, 0, 0, 0, Q⟩ d)).length ≤ 2401 := by
                      have := List.length_filter_le (fun d : Int × Int => decide (d.1 = (i : Int)) && !hasB ⟨0, 0, 0, 0, Q⟩ d) (cl.take j)
                      simp only [List.length_append, List.length_take] at *
                      omega
                    have hst : ∀ hj : j < cl.length, O3 ++ (cl.take (j + 1)).filter (fun d => decide (d.1 = (i : Int)) && !hasB ⟨0, 0, 0, 0, Q⟩ d) = (O3 ++ (cl.take j).filter (fun d => decide (d.1 = (i : Int)) && !hasB ⟨0, 0, 0, 0, Q⟩ d)) ++ (if (decide ((cl[j]).1 = (i : Int)) && !hasB ⟨0, 0, 0, 0, Q⟩ cl[j]) = true then [cl[j]] else []) := by
                      intro hj
                      rw [List.take_succ_eq_append_getElem hj, List.filter_append, List.append_assoc]
                      congr 2
                      rw [List.filter_cons, List.filter_nil]
                    obtain ⟨o4, ho4⟩ : ∃ o4, o4 = O3 ++ (cl.take j).filter (fun d => decide (d.1 = (i : Int)) && !hasB ⟨0, 0, 0, 0, Q⟩ d) := ⟨_, rfl⟩
                    rw [← ho4] at hown4 hl4 hst
                    obtain ⟨AC, qc, rfl⟩ := own_form hown4
                    have HO4 := hid ho4
                    have HOWN4 := hid hown4
                    have HXK4 := hid hxk4
                    have HB4 := hid hb4
                    have hs7 := hb4.size
                    have hs8 := hxk4.lt
                    have hsA := (HXA1.out.step hb4).lt
                    clear ho4 hown4 hxk4
                    by_cases hjl : j < cl.length
                    · have HST := hid (hst hjl)
                      clear hst
                      obtain ⟨b', off, hA, hb', h0, h1⟩ := (KRA.out wr hb4).dot hjl
                      rw [hA] at e4
                      clear hA
                      have HX93 := hid (HX9.out.step hb4)
                      have hneb : (b' = wr.heap.size) = False := by simp; omega
                      clear hb4
                      generalize cl[j] = d at *
                      obtain ⟨d0, d1⟩ := d
                      simp only at h0 h1
                      by_cases hn : d0 = (i : Int)
                      · have tq : ((d0 : Int) == (i : Int)) = true := by simp [hn]
                        have HN := hid hn
                        clear hn
                        cases hq : hasB ⟨0, 0, 0, 0, Q⟩ (d0, d1)
                        all_goals
                          have HQ := hid hq
                          have hh := KHQ.out _ (HB4.out.alloc (by omega) (.cells #[.int .i64 d0, .int .i64 d1] 27)) (d0, d1)
                          rw [hq] at hh
                          simp only [dval] at hh
                          obtain ⟨cHX93, fHX93, sHX93, nHX93⟩ := HX93.out.all
                          try simp only [cbox] at cHX93
                          go_wp2_with fail
                          -- STOP-t
                          refine hh.mono ?_
                          rintro e w5 ⟨rfl, hb5⟩
                          clear cHX93 fHX93 sHX93 nHX93
                          have hB5 : Below wr.heap.size wr w5 := (by refine Below.step' ?_ hb5; (repeat' (first | (with_reducible exact Below.refl _ _) | (with_reducible assumption) | (with_reducible refine below_drewN ?_ _) | (with_reducible refine Below.drew ?_) | (with_reducible refine Below.alloc ?_ ?_ _) | (with_reducible refine Below.setCell ?_ ?_ _) | (refine Below.trans ?_ (Below.mono (by assumption) ?_)) | go_size)))
                          have HOWN5 := hid (own_later HOWN4.out hB5)
                          have HXK5 := hid (HXK4.out.step hB5)
                          have HB5 := hid (Below.step' HB4.out hB5)
                          have hs5 := hB5.size
                          have hs9 := HXK5.out.lt
                        · have HX5 := hid ((Blk.new wr #[.int .i64 d0, .int .i64 d1] 27).step hb5)
                          clear hb5 hB5 hq hh h0 h1 e4 tq hneb hb'
                          obtain ⟨cHX5, fHX5, sHX5, nHX5⟩ := HX5.out.all
                          try simp only [cbox] at cHX5
                          go_wp2_with (at_builtin; refine wpList_append_own _ rfl _ _ 23 rfl (Y.heap.size + 1) 27 i1 _ 2 16 Try.underlying23 hi1 hy0 hy1 hy2 rfl (by decide) _ _ _ rfl (HOWN5.out.alloc _) ⟨w5.heap.size, 0, none⟩ 1 1 (dcells [(d0, d1)]) rfl rfl (news_new w5 _ _ _ _ rfl) (dcells_one _) ?_ ?_ ?_ ?_; rotate_right; intro v6 w6 hown6 hg6 hif6; clear hif6; rotate_left; (simp only [maxLen]; omega); (omega); (simp; omega))
                          go_roundw
                          case rel =>
                            refine ⟨j + 1, by omega, by go_num, ?_, (HXK5.out.alloc _).grown' hg6 (own_ne_lo HOWN5.out _ (Nat.lt_succ_self _)), (HB5.out.alloc (by omega) _).grown hg6 (by simp; omega) (fun g e => by have := (HOWN5.out.lt g e).1; omega)⟩
                            rw [HST.out, HQ.out, if_pos (by simp [HN.out])]
                            simpa [dcells] using hown6
                          case measure => simp [intOf]; omega
                        · clear hb5 hB5 hq hh h0 h1 e4 tq hneb hb'
                          go_wp2_with fail
                          go_roundw
                          case rel =>
                            refine ⟨j + 1, by omega, by go_num, ?_, HXK5.out, HB5.out⟩
                            rw [HST.out, HQ.out, if_neg (by simp), List.append_nil]
                            exact HOWN5.out
                          case measure => simp [intOf]; omega
                      · have tq : ((d0 : Int) == (i : Int)) = false := by simp [hn]
                        have HN := hid hn
                        clear hn
                        go_wp2_with fail
                        go_roundw
                        case rel =>
                          have hB5 : Below wr.heap.size wr _ := (Below.refl wr.heap.size wr).alloc (Nat.le_refl _) (.cells #[.int .i64 d0, .int .i64 d1] 27)
                          refine ⟨j + 1, by omega, by go_num, ?_, HXK4.out.step hB5, Below.step' HB4.out hB5⟩
                          rw [HST.out, if_neg (by simp [HN.out]), List.append_nil]
                          exact own_later HOWN4.out hB5
                        case measure => simp [intOf]; omega
                    · have hJ : (cl.take j) = cl := List.take_of_length_le (by omega)
                      have hfin : o4 = missUp tc (holeC tc Q) (i + 1) := by rw [← HN2.out, HMU4.out, HCD2.out, HO4.out, hJ]
                      have HF := hid hfin
                      clear hJ hfin hb4 hst
                      go_wp2_with fail
                      -- STOP-u
                      go_roundw
                      case rel => exact ⟨i + 1, by omega, by go_num, by rw [← HF.out]; exact HOWN4.out, HXK4.out, HB4.out⟩
                      case measure => simp [intOf]; omega
            · have e : i = 4 := by omega
              subst e
              have hue := HUE.out
              have hmu := HUL.out hl2 4
              rw [hue] at hmu
              rw [hue] at HOWN
              obtain ⟨hen1, hen2⟩ := HEN.out
              obtain ⟨M, hM⟩ : ∃ M, M = missR tc (holeC tc Q) := ⟨_, rfl⟩
              rw [← hM] at hmu HOWN hen1 hen2
              obtain ⟨JE, hJE⟩ : ∃ J, J = woE tc Q := ⟨_, rfl⟩
              rw [← hJE] at hen1 hen2 HX1 HX2 HE
              have hown := HOWN.out
              obtain ⟨A3, c3, rfl⟩ := own_form hown
              have HBZ := hid (Below.step' HBX.out HB2.out)
              have HXRZ := hid (HXR.out.step (Below.step' HB1.out HB2.out))
              have HEN1 := hid hen1
              have HEN2 := hid hen2
              clear hue hM hJE hen1 hen2 hown
              by_cases hbig : 400 < M.length
              · have t1 : (400 : Int) < (M.length : Int) := by omega
                have EZ := hid (HEN1.out hbig)
                clear hbig
                -- STOP-v
                have E1 : Hid (R = zT) := hid (HX1.out (.inr (.inr (by rw [EZ.out]; decide))))
                have E2 : Hid (RE = 2) := hid (by have e := HE.out; rw [if_neg (by simp), if_neg (by simp), EZ.out] at e; exact e)
                have hR := HXRZ.out
                obtain ⟨⟨r0, r1, r2, r3, r4, r5⟩, g0, g1, g2, g3, g4, g5⟩ := hR.six
                have HR6 := hid (Blk.set6 hR (.int .i64 0) (.int .i64 0) (.int .i64 0) (.int .i64 0) (.slice none 0 0) (.slice none 0 0))
                have HB6 := hid (Below.set6 HBZ.out (show w.heap.size ≤ w.heap.size + 1 + 1 by omega) (.int .i64 0) (.int .i64 0) (.int .i64 0) (.int .i64 0) (.slice none 0 0) (.slice none 0 0))
                clear hR
                go_wp2
                obtain ⟨⟨q0, q1, q2, q3, q4, q5⟩, -⟩ := HR6.out.six
                exact bodyPost_ret (v := .tuple #[tval zT none 0 none 0, .int .i64 2]) (by simp [results, Try.results57, go_sem, q0, q1, q2, q3, q4, q5, zT]) rfl ⟨none, 0, none, 0, by rw [E1.out, E2.out], by rw [E1.out]; exact Row.nil, by rw [E1.out]; exact Row.nil, HB6.out, newAt_none _, newAt_none _⟩
              · have t1 : (M.length : Int) ≤ 400 := by omega
                obtain ⟨hz, hm⟩ := HEN2.out hbig
                subst hz
                have E1 := hid (HX2.out (by first | rfl | trivial) (by first | rfl | trivial) (by first | rfl | trivial))
                have E2 : Hid (RE = 0) := hid (by have e := HE.out; rw [if_neg (by simp), if_neg (by simp)] at e; exact e)
                have hwo : woC tc Q = ⟨holeN tc Q 0, holeN tc Q 1, holeN tc Q 2, holeN tc Q 3, M⟩ := by rw [hm]; rfl
                rw [hwo] at E1
                have hk4 := HXK.out
                rw [kbx_four] at hk4
                clear hm hwo hbig
                generalize holeN tc Q 0 = z0 at *
                generalize holeN tc Q 1 = z1 at *
                generalize holeN tc Q 2 = z2 at *
                generalize holeN tc Q 3 = z3 at *
                have HK4 := hid hk4
                have HX8Z := hid (HX8.out.step HB2.out)
                have HO8Z := hid (own_laterS HO8.out HB2.out)
                have bt := build_ctx4 z0 z1 z2 z3 A3 M.length c3
                obtain ⟨⟨x0, x1, x2, x3, x4, x5⟩, v0, v1, v2, v3, v4, v5⟩ := HX8Z.out.six
                have k0 : wo.cell? ⟨Y.heap.size, 0, none⟩ = some (.int .i64 z0) := by rw [hk4.cells.1]; rfl
                have k1 : wo.cell? ⟨Y.heap.size, 1, none⟩ = some (.int .i64 z1) := by rw [hk4.cells.1]; rfl
                have k2 : wo.cell? ⟨Y.heap.size, 2, none⟩ = some (.int .i64 z2) := by rw [hk4.cells.1]; rfl
                have k3 : wo.cell? ⟨Y.heap.size, 3, none⟩ = some (.int .i64 z3) := by rw [hk4.cells.1]; rfl
                clear hk4
                -- STOP-w
                go_upto_region 48 with fail
                -- STOP-x
                obtain ⟨V, hV⟩ : ∃ V : World, V = set5 wo W.heap.size (.int .i64 z0) (.int .i64 z1) (.int .i64 z2) (.int .i64 z3) (.slice A3 M.length c3) := ⟨_, rfl⟩
                have HXV := hid (show Blk V W.heap.size #[.int .i64 z0, .int .i64 z1, .int .i64 z2, .int .i64 z3, .slice A3 M.length c3, .slice A8 O.length c8] 59 by rw [hV]; exact set5_6 HX8Z.out _ _ _ _ _)
                have HBV := hid (show Below w.heap.size w V by rw [hV]; exact Below.set5 HBZ.out (by omega) _ _ _ _ _)
                have HXRV := hid (show Blk V (w.heap.size + 1 + 1) #[.int .i64 0, .int .i64 0, .int .i64 0, .int .i64 0, .slice none 0 0, .slice none 0 0] 59 by rw [hV]; exact (((((HXRZ.out.other (a := ⟨W.heap.size, 0, none⟩) (by simp; omega) _).other (a := ⟨W.heap.size, 1, none⟩) (by simp; omega) _).other (a := ⟨W.heap.size, 2, none⟩) (by simp; omega) _).other (a := ⟨W.heap.size, 3, none⟩) (by simp; omega) _).other (a := ⟨W.heap.size, 4, none⟩) (by simp; omega) _))
                have HNA : Hid (NewAt (Y.heap.size + 1) A3) := hid (own_newS HOWN.out (Nat.le_refl _))
                have HNB : Hid (NewAt (W.heap.size + 2) A8) := hid (own_newS HO8Z.out (Nat.le_refl _))
                have HRA3 := hid (show Row V V.heap.size A3 (dcells M) by rw [hV]; exact Row.set5 (Row.of_ownS HOWN.out) HNA.out (by omega) _ _ _ _ _)
                have HRB8 := hid (show Row V V.heap.size A8 (tcells O) by rw [hV]; exact Row.set5 (Row.of_ownS HO8Z.out) HNB.out (by omega) _ _ _ _ _)
                simp only [set5] at hV
                rw [← hV]
                have hR := HXRV.out
                obtain ⟨⟨r0, r1, r2, r3, r4, r5⟩, g0, g1, g2, g3, g4, g5⟩ := hR.six
                clear x0 x1 x2 x3 x4 x5 v0 v1 v2 v3 v4 v5 k0 k1 k2 k3
                obtain ⟨⟨x0, x1, x2, x3, x4, x5⟩, -⟩ := HXV.out.six
                have HR6 := hid (Blk.set6 hR (.int .i64 z0) (.int .i64 z1) (.int .i64 z2) (.int .i64 z3) (.slice A3 M.length c3) (.slice A8 O.length c8))
                have HB6 := hid (Below.set6 HBV.out (show w.heap.size ≤ w.heap.size + 1 + 1 by omega) (.int .i64 z0) (.int .i64 z1) (.int .i64 z2) (.int .i64 z3) (.slice A3 M.length c3) (.slice A8 O.length c8))
                have HROW1 := hid (Row.set6 HRA3.out HNA.out (show w.heap.size + 1 + 1 < Y.heap.size + 1 by omega) (.int .i64 z0) (.int .i64 z1) (.int .i64 z2) (.int .i64 z3) (.slice A3 M.length c3) (.slice A8 O.length c8))
                have HROW2 := hid (Row.set6 HRB8.out HNB.out (show w.heap.size + 1 + 1 < W.heap.size + 2 by omega) (.int .i64 z0) (.int .i64 z1) (.int .i64 z2) (.int .i64 z3) (.slice A3 M.length c3) (.slice A8 O.length c8))
                clear hR hV
                -- STOP-y
                go_wp2
                obtain ⟨⟨q0, q1, q2, q3, q4, q5⟩, -⟩ := HR6.out.six
                exact bodyPost_ret (v := .tuple #[tval ⟨⟨z0, z1, z2, z3, M⟩, O⟩ A3 c3 A8 c8, .int .i64 0]) (by simp [results, Try.results57, go_sem, q0, q1, q2, q3, q4, q5]) rfl
                  ⟨A3, c3, A8, c8, by rw [E1.out, E2.out], by rw [E1.out]; exact HROW1.out, by rw [E1.out]; exact HROW2.out, HB6.out, fun b off q e => Nat.le_trans (by omega) (HNA.out b off q e), fun b off q e => Nat.le_trans (by omega) (HNB.out b off q e)⟩
end Go.Proofs.Ytogegnikpjcpdaa
/- viewlaw.TableMerges: the walk. -/
namespace Go.Proofs.Ytogegnikpjcpdaa
set_option linter.unusedVariables false
open Go.ChangeShapes Go.WideShapes Go.ChangeAt Go.RowKit

theorem mergeX_len (a b : Tab) : (mergeX a b).c.cloud.length ≤ 400 ∧ (mergeX a b).cells.length ≤ 400 := by
  by_cases h : mergeE a b = 0
  · exact tab_small (merge_ok h).1
  · have : mergeX a b = zT := by
      unfold mergeX
      unfold mergeE at h
      rw [if_pos]
      by_cases h1 : bothE a b = 0
      · by_cases h2 : joinE a.c b.c = 0
        · rw [if_neg (by simp [h1]), if_neg (by simp [h2])] at h
          by_cases h3 : 400 < (mergeL a b).length
          · exact .inr (.inr h3)
          · rw [if_neg h3] at h; exact absurd rfl h
        · exact .inr (.inl h2)
      · exact .inl h1
    rw [this]; exact ⟨by decide, by decide⟩
theorem sinceX_len (t : Tab) (c : Ctx) : (sinceX t c).c.cloud.length ≤ 400 ∧ (sinceX t c).cells.length ≤ 400 := by
  by_cases h : sinceE t c = 0
  · exact tab_small (since_ok h).1
  · have : sinceX t c = zT := by
      unfold sinceX
      unfold sinceE at h
      rw [if_pos]
      by_cases h1 : tabI t = 0
      · by_cases h2 : checkI c = 0
        · rw [if_neg (by simp [h1]), if_neg (by simp [h2])] at h
          exact .inr (.inr h)
        · exact .inr (.inl h2)
      · exact .inl h1
    rw [this]; exact ⟨by decide, by decide⟩

set_option maxHeartbeats 4000000 in
set_option maxRecDepth 100000 in
theorem tms_any (a b : Tab) (A : Option Addr) (k : Nat) (A' : Option Addr) (k' : Nat) (B : Option Addr) (m : Nat) (B' : Option Addr) (m' : Nat) (w : World)
    (ra : Row w w.heap.size A (dcells a.c.cloud)) (la : a.c.cloud.length ≤ 9223372036854775807) (ra' : Row w w.heap.size A' (tcells a.cells)) (la' : a.cells.length ≤ 9223372036854775807)
    (rb : Row w w.heap.size B (dcells b.c.cloud)) (lb : b.c.cloud.length ≤ 9223372036854775807) (rb' : Row w w.heap.size B' (tcells b.cells)) (lb' : b.cells.length ≤ 9223372036854775807) :
    Calls Try.prog 10 #[tval a A k A' k', tval b B m B' m'] w fun e w' => e = .returned (.bool true) ∧ Below w.heap.size w w' := by
  have HP := hid (fun w1 (hb : Below w.heap.size w w1) => merge_any a b A k A' k' B m B' m' w1 (ra.step hb) la (ra'.step hb) la' (rb.step hb) lb (rb'.step hb) lb')
  have HRP := hid (fun w1 (hb : Below w.heap.size w w1) => Rmerge_any a b A k A' k' B m B' m' w1 (ra.step hb) la (ra'.step hb) la' (rb.step hb) lb (rb'.step hb) lb')
  have HD := hid (fun w1 (hb : Below w.heap.size w w1) => since_any a b.c A k A' k' B m w1 (ra.step hb) la (ra'.step hb) la' (rb.step hb) lb)
  have HRD := hid (fun w1 (hb : Below w.heap.size w w1) => Rsince_any a b.c A k A' k' B m w1 (ra.step hb) la (ra'.step hb) la' (rb.step hb) lb)
  obtain ⟨P, hP⟩ : ∃ P, P = mergeX a b := ⟨_, rfl⟩
  obtain ⟨PE, hPE⟩ : ∃ PE, PE = mergeE a b := ⟨_, rfl⟩
  obtain ⟨D, hD⟩ : ∃ D, D = sinceX a b.c := ⟨_, rfl⟩
  obtain ⟨DE, hDE⟩ : ∃ DE, DE = sinceE a b.c := ⟨_, rfl⟩
  have hpl := mergeX_len a b
  have hdl := sinceX_len a b.c
  rw [← hP] at hpl HP HRP
  rw [← hPE] at HP HRP
  rw [← hD] at hdl HD HRD
  rw [← hDE] at HD HRD
  clear hP hPE hD hDE ra rb ra' rb'
  have HPL := hid hpl
  have HDL := hid hdl
  clear hpl hdl
  obtain ⟨⟨a0, a1, a2, a3, al⟩, acs⟩ := a
  obtain ⟨⟨b0, b1, b2, b3, bl⟩, bcs⟩ := b
  simp only [tval, cval] at HP HRP HD HRD ⊢
  go_enter Try.func10, Try.ntmps10
  go_wp2_with fail
  refine (HP.out _ (by (repeat' (first | (with_reducible exact Below.refl _ _) | (with_reducible assumption) | (with_reducible refine below_drewN ?_ _) | (with_reducible refine Below.drew ?_) | (with_reducible refine Below.alloc ?_ ?_ _) | (with_reducible refine Below.setCell ?_ ?_ _) | (refine Below.trans ?_ (Below.mono (by assumption) ?_)) | go_size)))).mono ?_
  rintro e w1 ⟨A1, k1, B1, m1, rfl, hr1, hs1, hb1, -, -⟩
  obtain ⟨⟨p0, p1, p2, p3, pl⟩, pcs⟩ := P
  simp only [tval] at hr1 hs1 ⊢
  have HBW := hid (show Below w.heap.size w w1 from (by refine Below.step' ?_ hb1; (repeat' (first | (with_reducible exact Below.refl _ _) | (with_reducible assumption) | (with_reducible refine below_drewN ?_ _) | (with_reducible refine Below.drew ?_) | (with_reducible refine Below.alloc ?_ ?_ _) | (with_reducible refine Below.setCell ?_ ?_ _) | (refine Below.trans ?_ (Below.mono (by assumption) ?_)) | go_size))))
  have HXA := hid (Blk.step (w := _) (b := w.heap.size) (cs := #[.int .i64 a0, .int .i64 a1, .int .i64 a2, .int .i64 a3, .slice A al.length k, .slice A' acs.length k']) (T := 59) (by exact (Blk.new w _ _).alloc _) hb1)
  have HXB := hid (Blk.step (w := _) (b := w.heap.size + 1) (cs := #[.int .i64 b0, .int .i64 b1, .int .i64 b2, .int .i64 b3, .slice B bl.length m, .slice B' bcs.length m']) (T := 59) (by exact Blk.new' (w.alloc _) _ _ (by simp)) hb1)
  have HA1 := hid hr1
  have HB1 := hid hs1
  clear hb1 hr1 hs1
  obtain ⟨cHXA, fHXA, sHXA, nHXA⟩ := HXA.out.all
  try simp only [cbox] at cHXA
  obtain ⟨cHXB, fHXB, sHXB, nHXB⟩ := HXB.out.all
  try simp only [cbox] at cHXB
  go_wp2_with fail
  refine (HRP.out _ (HBW.out.alloc HBW.out.size _)).mono ?_
  rintro e w2 ⟨A2, k2, B2, m2, rfl, hr2, hs2, hb2, -, -⟩
  simp only [tval] at hr2 hs2 ⊢
  clear cHXA fHXA sHXA nHXA
  clear cHXB fHXB sHXB nHXB
  have hB2 : Below w1.heap.size w1 w2 := (by refine Below.step' ?_ hb2; (repeat' (first | (with_reducible exact Below.refl _ _) | (with_reducible assumption) | (with_reducible refine below_drewN ?_ _) | (with_reducible refine Below.drew ?_) | (with_reducible refine Below.alloc ?_ ?_ _) | (with_reducible refine Below.setCell ?_ ?_ _) | (refine Below.trans ?_ (Below.mono (by assumption) ?_)) | go_size)))
  have HX11 := hid (Blk.step (Blk.new w1 #[.int .i64 p0, .int .i64 p1, .int .i64 p2, .int .i64 p3, .slice A1 pl.length k1, .slice B1 pcs.length m1] 59) hb2)
  replace HXA := hid (HXA.out.step hB2)
  replace HXB := hid (HXB.out.step hB2)
  replace HA1 := hid (HA1.out.step hB2)
  replace HB1 := hid (HB1.out.step hB2)
  replace HBW := hid (Below.step' HBW.out hB2)
  have HA2 := hid hr2
  have HB2 := hid hs2
  clear hb2 hr2 hs2 hB2
  obtain ⟨cHXA, fHXA, sHXA, nHXA⟩ := HXA.out.all
  try simp only [cbox] at cHXA
  obtain ⟨cHXB, fHXB, sHXB, nHXB⟩ := HXB.out.all
  try simp only [cbox] at cHXB
  go_wp2_with fail
  refine (HD.out _ (HBW.out.alloc HBW.out.size _)).mono ?_
  rintro e w3 ⟨A3, k3, B3, m3, rfl, hr3, hs3, hb3, -, -⟩
  obtain ⟨⟨q0, q1, q2, q3, ql⟩, qcs⟩ := D
  simp only [tval] at hr3 hs3 ⊢
  clear cHXA fHXA sHXA nHXA
  clear cHXB fHXB sHXB nHXB
  have hB3 : Below w2.heap.size w2 w3 := (by refine Below.step' ?_ hb3; (repeat' (first | (with_reducible exact Below.refl _ _) | (with_reducible assumption) | (with_reducible refine below_drewN ?_ _) | (with_reducible refine Below.drew ?_) | (with_reducible refine Below.alloc ?_ ?_ _) | (with_reducible refine Below.setCell ?_ ?_ _) | (refine Below.trans ?_ (Below.mono (by assumption) ?_)) | go_size)))
  have HX13 := hid (Blk.step (Blk.new w2 #[.int .i64 p0, .int .i64 p1, .int .i64 p2, .int .i64 p3, .slice A2 pl.length k2, .slice B2 pcs.length m2] 59) hb3)
  replace HXA := hid (HXA.out.step hB3)
  replace HXB := hid (HXB.out.step hB3)
  replace HX11 := hid (HX11.out.step hB3)
  replace HA1 := hid (HA1.out.step hB3)
  replace HB1 := hid (HB1.out.step hB3)
  replace HA2 := hid (HA2.out.step hB3)
  replace HB2 := hid (HB2.out.step hB3)
  replace HBW := hid (Below.step' HBW.out hB3)
  have HA3 := hid hr3
  have HB3 := hid hs3
  clear hb3 hr3 hs3 hB3
  obtain ⟨cHXA, fHXA, sHXA, nHXA⟩ := HXA.out.all
  try simp only [cbox] at cHXA
  obtain ⟨cHXB, fHXB, sHXB, nHXB⟩ := HXB.out.all
  try simp only [cbox] at cHXB
  go_wp2_with fail
  refine (HRD.out _ (HBW.out.alloc HBW.out.size _)).mono ?_
  rintro e w4 ⟨A4, k4, B4, m4, rfl, hr4, hs4, hb4, -, -⟩
  simp only [tval] at hr4 hs4 ⊢
  clear cHXA fHXA sHXA nHXA
  clear cHXB fHXB sHXB nHXB
  have hB4 : Below w3.heap.size w3 w4 := (by refine Below.step' ?_ hb4; (repeat' (first | (with_reducible exact Below.refl _ _) | (with_reducible assumption) | (with_reducible refine below_drewN ?_ _) | (with_reducible refine Below.drew ?_) | (with_reducible refine Below.alloc ?_ ?_ _) | (with_reducible refine Below.setCell ?_ ?_ _) | (refine Below.trans ?_ (Below.mono (by assumption) ?_)) | go_size)))
  have HX15 := hid (Blk.step (Blk.new w3 #[.int .i64 q0, .int .i64 q1, .int .i64 q2, .int .i64 q3, .slice A3 ql.length k3, .slice B3 qcs.length m3] 59) hb4)
  replace HXA := hid (HXA.out.step hB4)
  replace HXB := hid (HXB.out.step hB4)
  replace HX11 := hid (HX11.out.step hB4)
  replace HX13 := hid (HX13.out.step hB4)
  replace HA1 := hid (HA1.out.step hB4)
  replace HB1 := hid (HB1.out.step hB4)
  replace HA2 := hid (HA2.out.step hB4)
  replace HB2 := hid (HB2.out.step hB4)
  replace HA3 := hid (HA3.out.step hB4)
  replace HB3 := hid (HB3.out.step hB4)
  replace HBW := hid (Below.step' HBW.out hB4)
  have HA4 := hid hr4
  have HB4 := hid hs4
  clear hb4 hr4 hs4 hB4
  -- STOP-a
  have hBz : Below w4.heap.size w4 (w4.alloc (.cells #[.int .i64 q0, .int .i64 q1, .int .i64 q2, .int .i64 q3, .slice A4 ql.length k4, .slice B4 qcs.length m4] 59)) := (Below.refl _ _).alloc (Nat.le_refl _) _
  have HX17 := hid (Blk.new w4 #[.int .i64 q0, .int .i64 q1, .int .i64 q2, .int .i64 q3, .slice A4 ql.length k4, .slice B4 qcs.length m4] 59)
  replace HX11 := hid (HX11.out.step hBz)
  replace HX13 := hid (HX13.out.step hBz)
  replace HX15 := hid (HX15.out.step hBz)
  replace HA1 := hid (HA1.out.step hBz)
  replace HB1 := hid (HB1.out.step hBz)
  replace HA2 := hid (HA2.out.step hBz)
  replace HB2 := hid (HB2.out.step hBz)
  replace HA3 := hid (HA3.out.step hBz)
  replace HB3 := hid (HB3.out.step hBz)
  replace HA4 := hid (HA4.out.step hBz)
  replace HB4 := hid (HB4.out.step hBz)
  replace HBW := hid (Below.step' HBW.out hBz)
  obtain ⟨W, hW⟩ : ∃ W : World, W = w4.alloc (.cells #[.int .i64 q0, .int .i64 q1, .int .i64 q2, .int .i64 q3, .slice A4 ql.length k4, .slice B4 qcs.length m4] 59) := ⟨_, rfl⟩
  rw [← hW] at HX11 HX13 HX15 HX17 HA1 HB1 HA2 HB2 HA3 HB3 HA4 HB4 HBW
  have KS1 := hid (fun w1 (hb : Below W.heap.size W w1) => sameT_any ⟨⟨p0, p1, p2, p3, pl⟩, pcs⟩ A1 k1 B1 m1 A2 k2 B2 m2 w1 (HA1.out.step hb) (Nat.le_trans HPL.out.1 (by decide)) (HB1.out.step hb) (Nat.le_trans HPL.out.2 (by decide)) (HA2.out.step hb) (HB2.out.step hb))
  have KS2 := hid (fun w1 (hb : Below W.heap.size W w1) => sameT_any ⟨⟨q0, q1, q2, q3, ql⟩, qcs⟩ A3 k3 B3 m3 A4 k4 B4 m4 w1 (HA3.out.step hb) (Nat.le_trans HDL.out.1 (by decide)) (HB3.out.step hb) (Nat.le_trans HDL.out.2 (by decide)) (HA4.out.step hb) (HB4.out.step hb))
  simp only [tval] at KS1 KS2
  clear HP HRP HD HRD HA1 HB1 HA2 HB2 HA3 HB3 HA4 HB4 HXA HXB hBz
  have HW := hid hW
  clear hW
  obtain ⟨cHX11, fHX11, sHX11, nHX11⟩ := HX11.out.all
  try simp only [cbox] at cHX11
  obtain ⟨cHX13, fHX13, sHX13, nHX13⟩ := HX13.out.all
  try simp only [cbox] at cHX13
  obtain ⟨cHX15, fHX15, sHX15, nHX15⟩ := HX15.out.all
  try simp only [cbox] at cHX15
  obtain ⟨cHX17, fHX17, sHX17, nHX17⟩ := HX17.out.all
  try simp only [cbox] at cHX17
  rw [HW.out] at cHX11 fHX11 sHX11 cHX13 fHX13 sHX13 cHX15 fHX15 sHX15 cHX17 fHX17 sHX17
  go_wp2_with fail
  -- STOP-b
  rw [← HW.out]
  refine (KS1.out _ (Below.refl _ _)).mono ?_
  rintro e w5 ⟨rfl, hb5⟩
  clear cHX11 fHX11 sHX11 nHX11
  clear cHX13 fHX13 sHX13 nHX13
  clear cHX15 fHX15 sHX15 nHX15
  clear cHX17 fHX17 sHX17 nHX17
  have HB5 := hid hb5
  replace HX15 := hid (HX15.out.step hb5)
  replace HX17 := hid (HX17.out.step hb5)
  clear hb5
  obtain ⟨cHX15, fHX15, sHX15, nHX15⟩ := HX15.out.all
  try simp only [cbox] at cHX15
  obtain ⟨cHX17, fHX17, sHX17, nHX17⟩ := HX17.out.all
  try simp only [cbox] at cHX17
  go_wp2_with fail
  -- STOP-c
  refine (KS2.out _ HB5.out).mono ?_
  rintro e w6 ⟨rfl, hb6⟩
  have HB6 := hid (Below.step' HB5.out hb6)
  clear hb6
  clear cHX15 fHX15 sHX15 nHX15
  clear cHX17 fHX17 sHX17 nHX17
  go_wp2
  go_ret
  exact ⟨rfl, Below.step' HBW.out HB6.out⟩
end Go.Proofs.Ytogegnikpjcpdaa
