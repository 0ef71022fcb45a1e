/- RDel, Both, Stays, SortC -/
import Derived.Test.YtogegnikpjcpdaaCk10
import Derived.Test.YtogegnikpjcpdaaCk09
import Derived.Test.YtogegnikpjcpdaaCk02
/- viewref.SameTable, viewref.Del. -/
namespace Go.Proofs.Ytogegnikpjcpdaa
set_option linter.unusedVariables false
open Go.ChangeShapes Go.WideShapes Go.ChangeAt Go.RowKit

set_option maxHeartbeats 1600000 in
set_option maxRecDepth 100000 in
theorem sameT_any (t : Tab) (A : Option Addr) (k : Nat) (B : Option Addr) (m : Nat) (A' : Option Addr) (k' : Nat) (B' : Option Addr) (m' : Nat) (w : World) (ra : Row w w.heap.size A (dcells t.c.cloud)) (la : t.c.cloud.length ≤ 9223372036854775807)
    (rb : Row w w.heap.size B (tcells t.cells)) (lb : t.cells.length ≤ 9223372036854775807) (ra' : Row w w.heap.size A' (dcells t.c.cloud)) (rb' : Row w w.heap.size B' (tcells t.cells)) :
    Calls Try.prog 48 #[tval t A k B m, tval t A' k' B' m'] w fun e w' => e = .returned (.bool true) ∧ Below w.heap.size w w' := by
  obtain ⟨⟨c0, c1, c2, c3, cl⟩, l⟩ := t
  have HSM := hid (fun w1 (hb : Below w.heap.size w w1) => same_ints c0 c1 c2 c3 c0 c1 c2 c3 cl cl A A' k k' w1 (ra.step hb) (ra'.step hb) la la)
  rw [show sameB ⟨c0, c1, c2, c3, cl⟩ ⟨c0, c1, c2, c3, cl⟩ = true from (sameB_iff _ _).2 rfl] at HSM
  have HEQ := hid (fun w1 (hb : Below w.heap.size w w1) => equalT_any l l B B' m m' w1 (rb.step hb) (rb'.step hb) lb lb)
  rw [show decide (l = l) = true from by simp] at HEQ
  clear ra rb ra' rb'
  simp only [tval] at *
  go_enter Try.func48, Try.ntmps48
  go_wp2_with fail
  refine (HSM.out _ (by (repeat' (first | (with_reducible exact Below.refl _ _) | (with_reducible assumption) | (with_reducible refine below_drewN ?_ _) | (with_reducible refine Below.drew ?_) | (with_reducible refine Below.alloc ?_ ?_ _) | (with_reducible refine Below.setCell ?_ ?_ _) | (refine Below.trans ?_ (Below.mono (by assumption) ?_)) | go_size)))).mono ?_
  rintro e w1 ⟨rfl, hb1⟩
  have HBW := hid (show Below w.heap.size w w1 from (by refine Below.step' ?_ hb1; (repeat' (first | (with_reducible exact Below.refl _ _) | (with_reducible assumption) | (with_reducible refine below_drewN ?_ _) | (with_reducible refine Below.drew ?_) | (with_reducible refine Below.alloc ?_ ?_ _) | (with_reducible refine Below.setCell ?_ ?_ _) | (refine Below.trans ?_ (Below.mono (by assumption) ?_)) | go_size))))
  have HXA := hid (Blk.step (w := _) (b := w.heap.size) (cs := #[.int .i64 c0, .int .i64 c1, .int .i64 c2, .int .i64 c3, .slice A cl.length k, .slice B l.length m]) (T := 59) (by exact (Blk.new w _ _).alloc _) hb1)
  have HXB := hid (Blk.step (w := _) (b := w.heap.size + 1) (cs := #[.int .i64 c0, .int .i64 c1, .int .i64 c2, .int .i64 c3, .slice A' cl.length k', .slice B' l.length m']) (T := 59) (by exact Blk.new' (w.alloc _) _ _ (by simp)) hb1)
  clear hb1
  obtain ⟨cHXA, fHXA, sHXA, nHXA⟩ := HXA.out.all
  try simp only [cbox] at cHXA
  obtain ⟨cHXB, fHXB, sHXB, nHXB⟩ := HXB.out.all
  try simp only [cbox] at cHXB
  go_wp2_with fail
  refine (HEQ.out _ HBW.out).mono ?_
  rintro e w2 ⟨rfl, hb2⟩
  go_wp2
  go_ret
  exact ⟨rfl, Below.step' HBW.out hb2⟩

theorem cel_right {t : Tab} (h : tabI t = 0) : ∀ x ∈ t.cells, rightB x.d.1 x.d.2 = true := by
  obtain ⟨-, -, h3⟩ := tabI_zero h
  intro x hx
  obtain ⟨i, hi, rfl⟩ := List.getElem_of_mem hx
  have hb := h3 i hi
  rw [badCel_at hi] at hb
  simp only [Bool.or_eq_false_iff, Bool.not_eq_false'] at hb
  have hc := hb.1
  unfold celOk at hc
  simp only [Bool.and_eq_true] at hc
  exact hc.1.1.1
theorem delL_right {t : Tab} (key : Int) (h : tabI t = 0) : ∀ d ∈ delL t key, rightB d.1 d.2 = true := by
  intro d hd
  unfold delL at hd
  obtain ⟨x, hx, rfl⟩ := List.mem_map.1 hd
  exact cel_right h x (List.mem_filter.1 hx).1
theorem delL_len {t : Tab} (key : Int) (h : tabI t = 0) : (delL t key).length ≤ 400 := by
  unfold delL
  rw [List.length_map]
  exact Nat.le_trans (List.length_filter_le _ _) (tabI_zero h).2.1
theorem del_pack {t : Tab} (key : Int) (h : tabI t = 0) : ctxX (delL t key) = packL 0 0 0 0 (delL t key) ∧ ctxE (delL t key) = 0 := by
  have h4 := delL_len key h
  obtain ⟨h1, h2⟩ := ctx_pack (l := delL t key) (by omega) (delL_right key h)
  have h5 : (packL 0 0 0 0 (delL t key)).cloud.length ≤ 400 := Nat.le_trans pack_length h4
  rw [h1, h2, if_neg (by omega), if_neg (by omega)]
  exact ⟨rfl, rfl⟩

set_option maxHeartbeats 1600000 in
set_option maxRecDepth 100000 in
theorem Rdel_any (t : Tab) (key : Int) (A : Option Addr) (k : Nat) (B : Option Addr) (m : Nat) (w : World) (ra : Row w w.heap.size A (dcells t.c.cloud)) (la : t.c.cloud.length ≤ 9223372036854775807)
    (rb : Row w w.heap.size B (tcells t.cells)) (lb : t.cells.length ≤ 4398046511104) :
    Calls Try.prog 46 #[tval t A k B m, .int .i64 key] w (TabErr (delX t key) (delE t key) w) := by
  have HTC := hid (fun w1 (hb : Below w.heap.size w w1) => rtable_any t A k B m w1 (ra.step hb) la (rb.step hb) (by omega))
  have RB := hid (fun w1 (hb : Below w.heap.size w w1) => rb.step hb)
  have hX1 : (tabI t ≠ 0 ∨ inB key 0 49 = false ∨ delL t key = []) → delX t key = zT := fun h => by unfold delX; rw [if_pos h]
  have hX2 : tabI t = 0 → inB key 0 49 = true → delL t key ≠ [] → delX t key = ⟨packL 0 0 0 0 (delL t key), []⟩ := fun h1 h2 h3 => by unfold delX; rw [if_neg (by simp [h1, h2, h3]), (del_pack key h1).1]
  have hE : delE t key = if tabI t ≠ 0 then tabI t else if inB key 0 49 = false then 1 else if delL t key = [] then 4 else 0 := by
    unfold delE
    split
    · rfl
    · rename_i h; rw [(del_pack key (by simpa using h)).2]
  have hP : tabI t = 0 → (delL t key).length ≤ 400 ∧ (∀ d ∈ delL t key, rightB d.1 d.2 = true) ∧ t.cells.length ≤ 400 := fun h => ⟨delL_len key h, delL_right key h, (tabI_zero h).2.1⟩
  have hGd : delL t key = (t.cells.filter (atK key)).map Cel.d := rfl
  obtain ⟨R, hR⟩ : ∃ R, R = delX t key := ⟨_, rfl⟩
  obtain ⟨RE, hRE⟩ : ∃ RE, RE = delE t key := ⟨_, rfl⟩
  rw [← hR, ← hRE]
  rw [← hR] at hX1 hX2
  rw [← hRE] at hE
  clear hR hRE
  obtain ⟨G, hG⟩ : ∃ G, G = delL t key := ⟨_, rfl⟩
  rw [← hG] at hX1 hX2 hE hP hGd
  clear hG
  obtain ⟨T, hT⟩ : ∃ T, T = tabI t := ⟨_, rfl⟩
  rw [← hT] at HTC hX1 hX2 hE hP
  clear hT
  have HX1 := hid hX1
  have HX2 := hid hX2
  have HE := hid hE
  have HP := hid hP
  have HGD := hid hGd
  clear hX1 hX2 hE hP hGd ra rb
  obtain ⟨⟨c0, c1, c2, c3, cl⟩, l⟩ := t
  obtain ⟨i0, hi0, hz0, hz1, hz2⟩ := info_parts info_dot
  simp only [tval, cval] at *
  have hky := fun w => in_any key 0 49 w
  go_enter Try.func46, Try.ntmps46
  go_wp2_with fail
  refine (HTC.out _ (by (repeat' (first | (with_reducible exact Below.refl _ _) | (with_reducible assumption) | (with_reducible refine below_drewN ?_ _) | (with_reducible refine Below.drew ?_) | (with_reducible refine Below.alloc ?_ ?_ _) | (with_reducible refine Below.setCell ?_ ?_ _) | (refine Below.trans ?_ (Below.mono (by assumption) ?_)) | go_size)))).mono ?_
  rintro e w1 ⟨rfl, hb1⟩
  have HBW := hid (show Below w.heap.size w w1 from (by refine Below.step' ?_ hb1; (repeat' (first | (with_reducible exact Below.refl _ _) | (with_reducible assumption) | (with_reducible refine below_drewN ?_ _) | (with_reducible refine Below.drew ?_) | (with_reducible refine Below.alloc ?_ ?_ _) | (with_reducible refine Below.setCell ?_ ?_ _) | (refine Below.trans ?_ (Below.mono (by assumption) ?_)) | go_size))))
  have HXT := hid (Blk.step (w := _) (b := w.heap.size) (cs := #[.int .i64 c0, .int .i64 c1, .int .i64 c2, .int .i64 c3, .slice A cl.length k, .slice B l.length m]) (T := 59) (by exact (Blk.new w _ _).alloc _) hb1)
  have HXR := hid (Blk.step (w := _) (b := w.heap.size + 1) (cs := #[.int .i64 0, .int .i64 0, .int .i64 0, .int .i64 0, .slice none 0 0, .slice none 0 0]) (T := 59) (by exact Blk.new' (w.alloc _) _ _ (by simp)) hb1)
  clear hb1
  by_cases qT : T = 0
  rotate_left
  · have t1 : (T != 0) = true := by simpa using qT
    have E1 : Hid (R = zT) := hid (HX1.out (.inl qT))
    have E2 : Hid (RE = T) := hid (by have e := HE.out; rw [if_pos qT] at e; exact e)
    clear qT
    have hR := HXR.out
    obtain ⟨⟨r0, r1, r2, r3, r4, r5⟩, f0, f1, f2, f3, f4, f5⟩ := hR.six
    have HR6 := hid (Blk.set6 hR (.int .i64 0) (.int .i64 0) (.int .i64 0) (.int .i64 0) (.slice none 0 0) (.slice none 0 0))
    have HB6 := hid (Below.set6 HBW.out (show w.heap.size ≤ w.heap.size + 1 by omega) (.int .i64 0) (.int .i64 0) (.int .i64 0) (.int .i64 0) (.slice none 0 0) (.slice none 0 0))
    clear hR
    go_wp2
    obtain ⟨⟨q0, q1, q2, q3, q4, q5⟩, -⟩ := HR6.out.six
    exact bodyPost_ret (v := .tuple #[tval zT none 0 none 0, .int .i64 T]) (by simp [results, Try.results46, go_sem, q0, q1, q2, q3, q4, q5, zT]) rfl ⟨none, 0, none, 0, by rw [E1.out, E2.out], by rw [E1.out]; exact Row.nil, by rw [E1.out]; exact Row.nil, HB6.out, newAt_none _, newAt_none _⟩
  · subst qT
    obtain ⟨hp1, hp2, hp3⟩ := HP.out (by first | rfl | trivial)
    have HP2 := hid hp2
    try simp only at hp3
    clear hp2 HP
    cases qa : inB key 0 49
    · have E1 : Hid (R = zT) := hid (HX1.out (.inr (.inl qa)))
      have E2 : Hid (RE = 1) := hid (by have e := HE.out; rw [if_neg (by simp), if_pos qa] at e; exact e)
      rw [qa] at hky
      have HKY := hid hky
      clear hky
      go_wp2_with fail
      refine (HKY.out _).mono ?_
      rintro e w2 ⟨rfl, rfl⟩
      have hR := HXR.out
      obtain ⟨⟨r0, r1, r2, r3, r4, r5⟩, f0, f1, f2, f3, f4, f5⟩ := hR.six
      have HR6 := hid (Blk.set6 hR (.int .i64 0) (.int .i64 0) (.int .i64 0) (.int .i64 0) (.slice none 0 0) (.slice none 0 0))
      have HB6 := hid (Below.set6 HBW.out (show w.heap.size ≤ w.heap.size + 1 by omega) (.int .i64 0) (.int .i64 0) (.int .i64 0) (.int .i64 0) (.slice none 0 0) (.slice none 0 0))
      clear hR
      go_wp2
      obtain ⟨⟨q0, q1, q2, q3, q4, q5⟩, -⟩ := HR6.out.six
      exact bodyPost_ret (v := .tuple #[tval zT none 0 none 0, .int .i64 1]) (by simp [results, Try.results46, go_sem, q0, q1, q2, q3, q4, q5, zT]) rfl ⟨none, 0, none, 0, by rw [E1.out, E2.out], by rw [E1.out]; exact Row.nil, by rw [E1.out]; exact Row.nil, HB6.out, newAt_none _, newAt_none _⟩
    · rw [qa] at hky
      have HKY := hid hky
      have HQA := hid qa
      clear hky qa
      go_wp2_with fail
      refine (HKY.out _).mono ?_
      rintro e w2 ⟨rfl, rfl⟩
      go_wp2
      have hlx := HXR.out.lt
      have hs1 := HBW.out.size
      go_loopw [7, 8] (fun s7 s8 wr => ∃ i : Nat, i ≤ l.length ∧ s8 = .int .i64 i ∧ wr.ownsRow w1.heap.size 27 2 s7 (((l.take i).filter (atK key)).map Cel.d).length (dcells (((l.take i).filter (atK key)).map Cel.d)) ∧ Below w1.heap.size w1 wr) (fun _ s8 _ => l.length - (intOf s8).toNat)
      case atStart => exact ⟨0, by omega, rfl, by simpa using World.ownsRow_nil _ _ _ _, Below.refl _ _⟩
      case round =>
        obtain ⟨i, hi, rfl, hown, hbw⟩ := hrel
        have hst : ∀ hj : i < l.length, ((l.take (i + 1)).filter (atK key)).map Cel.d = ((l.take i).filter (atK key)).map Cel.d ++ (if atK key l[i] = true then [l[i].d] else []) := by
          intro hj
          rw [List.take_succ_eq_append_getElem hj, List.filter_append, List.map_append, List.filter_cons, List.filter_nil]
          split <;> simp
        have hol : (((l.take i).filter (atK key)).map Cel.d).length ≤ 400 := by
          have := List.length_filter_le (atK key) (l.take i)
          rw [List.length_take] at this
          rw [List.length_map]
          omega
        have hfin : ¬ i < l.length → ((l.take i).filter (atK key)).map Cel.d = G := fun h => by rw [HGD.out, List.take_of_length_le (by omega)]
        obtain ⟨O, hO⟩ : ∃ O, O = ((l.take i).filter (atK key)).map Cel.d := ⟨_, rfl⟩
        rw [← hO] at hown hst hol hfin
        clear hO
        obtain ⟨A8, c8, rfl⟩ := own_formS hown
        have hB := Below.step' HBW.out hbw
        have HOWN := hid hown
        have HB1 := hid hbw
        have HBB := hid hB
        have HFIN := hid hfin
        have HXT2 := hid (HXT.out.step hbw)
        have HXR2 := hid (HXR.out.step hbw)
        clear hown hbw hB hfin
        obtain ⟨cHXT2, fHXT2, sHXT2, nHXT2⟩ := HXT2.out.all
        try simp only [cbox] at cHXT2
        by_cases hlt : i < l.length
        · obtain ⟨b, off, hA, hb, e0, e1, e2, e3, e4⟩ := (RB.out wr HBB.out).cel hlt
          subst hA
          have HST := hid (hst hlt)
          clear hst
          generalize l[i] = x at *
          obtain ⟨⟨d0, d1⟩, ky, co, vl⟩ := x
          simp only at e0 e1 e2 e3 e4
          have hneb : (b = wr.heap.size) = False := by simp; omega
          have hsw := HB1.out.size
          cases q1 : (ky == key)
          · have HQ := hid (show atK key ⟨(d0, d1), ky, co, vl⟩ = false from q1)
            go_wp2
            go_roundw
            case rel => exact ⟨i + 1, by omega, by go_num, by rw [HST.out, HQ.out, if_neg (by simp), List.append_nil]; exact HOWN.out, HB1.out⟩
            case measure => simp [intOf]; omega
          · have HQ := hid (show atK key ⟨(d0, d1), ky, co, vl⟩ = true from q1)
            go_wp2_with (at_builtin; refine wpList_append_own _ rfl _ _ 23 rfl w1.heap.size 27 i0 _ 2 16 Try.underlying23 hi0 hz0 hz1 hz2 rfl (by decide) _ _ _ rfl (HOWN.out.alloc _) ⟨wr.heap.size, 0, none⟩ 1 1 (dcells [(d0, d1)]) rfl rfl (news_new wr _ _ _ _ rfl) (dcells_one _) ?_ ?_ ?_ ?_; rotate_right; intro v6 w6 hown6 hg6 hif6; clear hif6; rotate_left; (simp only [maxLen]; omega); (omega); (simp; omega))
            go_roundw
            case rel =>
              refine ⟨i + 1, by omega, by go_num, ?_, (HB1.out.alloc HB1.out.size _).grown hg6 (by simp; omega) (fun g e => (HOWN.out.lt g e).1)⟩
              rw [HST.out, HQ.out, if_pos rfl]
              simpa [dcells] using hown6
            case measure => simp [intOf]; omega
        · have hfin := HFIN.out hlt
          rw [hfin] at HOWN hol ⊢
          have hsw := HB1.out.size
          have hrow := Row.of_own HOWN.out
          replace HBW := hid (Below.step' HBW.out HB1.out)
          clear hst HFIN hfin
          by_cases qg : G = []
          · have E1 : Hid (R = zT) := hid (HX1.out (.inr (.inr qg)))
            have E2 : Hid (RE = 4) := hid (by have e := HE.out; rw [if_neg (by simp), if_neg (by simp [HQA.out]), if_pos qg] at e; exact e)
            have t1 : ((G.length : Int) == 0) = true := by simp [qg]
            clear qg hrow
            have hR := HXR2.out
            obtain ⟨⟨r0, r1, r2, r3, r4, r5⟩, f0, f1, f2, f3, f4, f5⟩ := hR.six
            have HR6 := hid (Blk.set6 hR (.int .i64 0) (.int .i64 0) (.int .i64 0) (.int .i64 0) (.slice none 0 0) (.slice none 0 0))
            have HB6 := hid (Below.set6 HBW.out (show w.heap.size ≤ w.heap.size + 1 by omega) (.int .i64 0) (.int .i64 0) (.int .i64 0) (.int .i64 0) (.slice none 0 0) (.slice none 0 0))
            clear hR
            go_wp2
            obtain ⟨⟨q0, q1, q2, q3, q4, q5⟩, -⟩ := HR6.out.six
            exact bodyPost_ret (v := .tuple #[tval zT none 0 none 0, .int .i64 4]) (by simp [results, Try.results46, go_sem, q0, q1, q2, q3, q4, q5, zT]) rfl ⟨none, 0, none, 0, by rw [E1.out, E2.out], by rw [E1.out]; exact Row.nil, by rw [E1.out]; exact Row.nil, HB6.out, newAt_none _, newAt_none _⟩
          · have hpos : 0 < G.length := List.length_pos_iff.2 qg
            have t1 : ((G.length : Int) == 0) = false := by simp only [beq_eq_false_iff_ne, ne_eq]; omega
            have E1 := hid (HX2.out (by first | rfl | trivial) HQA.out qg)
            have E2 : Hid (RE = 0) := hid (by have e := HE.out; rw [if_neg (by simp), if_neg (by simp [HQA.out]), if_neg qg] at e; exact e)
            have HPK := hid (Rpacked_any 0 0 0 0 G A8 c8 wr hrow (by omega) (by simp [clkIn]) HP2.out)
            clear qg hrow
            have hlx2 := HXR2.out.lt
            have hs3 := HBW.out.size
            go_wp2_with fail
            refine HPK.out.mono ?_
            rintro e w7 ⟨A7, k7, rfl, hr7, hb7, hn7⟩
            replace HXR2 := hid (HXR2.out.step hb7)
            replace HBW := hid (Below.step' HBW.out hb7)
            have HR7 := hid hr7
            have HN7 := hid hn7
            clear hr7 hb7 hn7 HPK
            obtain ⟨X7, hX7⟩ : ∃ X7, X7 = packL 0 0 0 0 G := ⟨_, rfl⟩
            rw [← hX7] at E1 HR7 ⊢
            clear hX7
            simp only [cval]
            have hR := HXR2.out
            obtain ⟨⟨r0, r1, r2, r3, r4, r5⟩, f0, f1, f2, f3, f4, f5⟩ := hR.six
            have HR6 := hid (Blk.set6 hR (.int .i64 X7.c0) (.int .i64 X7.c1) (.int .i64 X7.c2) (.int .i64 X7.c3) (.slice A7 X7.cloud.length k7) (.slice none 0 0))
            have HB6 := hid (Below.set6 HBW.out (show w.heap.size ≤ w.heap.size + 1 by omega) (.int .i64 X7.c0) (.int .i64 X7.c1) (.int .i64 X7.c2) (.int .i64 X7.c3) (.slice A7 X7.cloud.length k7) (.slice none 0 0))
            have HROW := hid (Row.set6 HR7.out HN7.out (show w.heap.size + 1 < wr.heap.size by omega) (.int .i64 X7.c0) (.int .i64 X7.c1) (.int .i64 X7.c2) (.int .i64 X7.c3) (.slice A7 X7.cloud.length k7) (.slice none 0 0))
            clear hR
            have bt := fun w => build_tab0 X7.c0 X7.c1 X7.c2 X7.c3 A7 X7.cloud.length k7 w
            have HQ := hid HR6.out.six.1
            go_wp2_with (refine bodyPost_ret (v := .tuple #[tval ⟨X7, []⟩ A7 k7 none 0, .int .i64 0]) ?h1 rfl ?h2)
            case h1 =>
              obtain ⟨q0, q1, q2, q3, q4, q5⟩ := HQ.out
              simp [results, Try.results46, go_sem, q0, q1, q2, q3, q4, q5]
            case h2 =>
              exact ⟨A7, k7, none, 0, by rw [E1.out, E2.out], by rw [E1.out]; exact HROW.out, by rw [E1.out]; exact Row.nil,
                HB6.out, fun b off q e => Nat.le_trans hs3 (HN7.out b off q e), newAt_none _⟩
end Go.Proofs.Ytogegnikpjcpdaa
/- table.both. -/
namespace Go.Proofs.Ytogegnikpjcpdaa
set_option linter.unusedVariables false
open Go.ChangeShapes Go.WideShapes Go.ChangeAt Go.RowKit

theorem pair_of_step {l : List Cel} (h : ∀ i (hi : i + 1 < l.length), before l[i].d l[i + 1].d = true) : l.Pairwise (fun x y => before x.d y.d = true) := by
  induction l with
  | nil => exact List.Pairwise.nil
  | cons x l ih =>
    have ih' := ih fun i hi => h (i + 1) (by simp; omega)
    refine List.Pairwise.cons (fun y hy => ?_) ih'
    cases l with
    | nil => cases hy
    | cons z l =>
      have h0 : before x.d z.d = true := by simpa using h 0 (by simp)
      rcases List.mem_cons.1 hy with rfl | hy
      · exact h0
      · have h1 := (List.pairwise_cons.1 ih').1 y hy
        simp only [before_iff] at h0 h1 ⊢; omega
theorem cells_sorted {t : Tab} (h : tabI t = 0) : t.cells.Pairwise (fun x y => before x.d y.d = true) := by
  obtain ⟨-, -, h3⟩ := tabI_zero h
  refine pair_of_step fun i hi => ?_
  have hb := h3 (i + 1) hi
  rw [badCel_at hi] at hb
  simp only [Bool.or_eq_false_iff, Bool.and_eq_false_iff, decide_eq_false_iff_not, Bool.not_eq_false', Nat.add_sub_cancel] at hb
  rcases hb.2 with h | h
  · omega
  · have e : t.cells.getD i ⟨(0, 0), 0, 0, 0⟩ = t.cells[i] := by simp [List.getD, show i < t.cells.length by omega]
    rw [e] at h
    simpa using h
theorem cells_unique {t : Tab} (h : tabI t = 0) : ∀ x ∈ t.cells, ∀ y ∈ t.cells, x.d = y.d → x = y := by
  have hs := cells_sorted h
  generalize t.cells = l at *
  induction l with
  | nil => intro x hx; cases hx
  | cons z l ih =>
    obtain ⟨h1, h2⟩ := List.pairwise_cons.1 hs
    have irr : ∀ d : Int × Int, before d d = true → False := fun d hd => by simp only [before_iff] at hd; omega
    intro x hx y hy e
    rcases List.mem_cons.1 hx with rfl | hx' <;> rcases List.mem_cons.1 hy with rfl | hy'
    · rfl
    · have := h1 y hy'; rw [e] at this; exact (irr _ this).elim
    · have := h1 x hx'; rw [← e] at this; exact (irr _ this).elim
    · exact ih h2 x hx' y hy' e

theorem zero_cel (w : World) : (zeroValue 62).run Try.prog w = .ok (celv ⟨(0, 0), 0, 0, 0⟩) w := by kernel_rfl

theorem wpList_look_cel {ops : Array Oper} {rest : List Oper} {o : Oper} {a : Act} {Q : Exit → Act → World → Prop} (w : World) (hg : o.guard = none) (m y : Operand) (hop : o.op = Op.lookup 117 m y true) (b n : Nat) (D : DataW Unit)
    (hm : a.eval m = .map (some b)) (hown : w.ownsMap Try.prog 27 celElem b n D) (key : Value) (kl : Lit) (hx : a.eval y = key) (hkey : keyOf Try.prog 27 key = some kl) (x : Cel) (hh : Maps.has D kl = true) (hat : ∀ z, D.atKey kl z = celD x)
    (hK : wpList Try.prog ops Q rest (a.put o.dst (.tuple #[celv x, .bool true])) w) : wpList Try.prog ops Q (o :: rest) a w :=
  wpList_lookup_own_ok w hg m y _ hop 27 62 dot_keyed Try.underlying117 celElem (zero_cel w) (celD ⟨(0, 0), 0, 0, 0⟩) [] (celElem_mk _) b n D hm hown key kl hx hkey fun v ps hv => by
    rw [hat] at hv
    rw [celElem_inv hv, hh]
    exact hK
theorem wpList_look_none {ops : Array Oper} {rest : List Oper} {o : Oper} {a : Act} {Q : Exit → Act → World → Prop} (w : World) (hg : o.guard = none) (m y : Operand) (hop : o.op = Op.lookup 117 m y true) (b n : Nat) (D : DataW Unit)
    (hm : a.eval m = .map (some b)) (hown : w.ownsMap Try.prog 27 celElem b n D) (key : Value) (kl : Lit) (hx : a.eval y = key) (hkey : keyOf Try.prog 27 key = some kl) (hh : Maps.has D kl = false)
    (hK : wpList Try.prog ops Q rest (a.put o.dst (.tuple #[celv ⟨(0, 0), 0, 0, 0⟩, .bool false])) w) : wpList Try.prog ops Q (o :: rest) a w :=
  wpList_lookup_own_ok w hg m y _ hop 27 62 dot_keyed Try.underlying117 celElem (zero_cel w) (celD ⟨(0, 0), 0, 0, 0⟩) [] (celElem_mk _) b n D hm hown key kl hx hkey fun v ps hv => by
    rw [Maps.atKey_of_not_has hh] at hv
    rw [celElem_inv hv, hh]
    exact hK

set_option maxHeartbeats 2000000 in
set_option maxRecDepth 100000 in
theorem both_tab (a b : Tab) (A : Option Addr) (k : Nat) (B : Option Addr) (m : Nat) (A' : Option Addr) (k' : Nat) (B' : Option Addr) (m' : Nat) (w : World) (ra : Row w w.heap.size A (dcells a.c.cloud)) (la : a.c.cloud.length ≤ 9223372036854775807)
    (rb : Row w w.heap.size B (tcells a.cells)) (lb : a.cells.length ≤ 9223372036854775807) (ra' : Row w w.heap.size A' (dcells b.c.cloud)) (la' : b.c.cloud.length ≤ 9223372036854775807)
    (rb' : Row w w.heap.size B' (tcells b.cells)) (lb' : b.cells.length ≤ 9223372036854775807) :
    Calls Try.prog 85 #[tval a A k B m, tval b A' k' B' m'] w fun e w' => e = .returned (.int .i64 (bothE a b)) ∧ Below w.heap.size w w' := by
  have HTA := hid (fun w1 (hb : Below w.heap.size w w1) => tcheck_any a A k B m w1 (ra.step hb) la (rb.step hb) lb)
  have HTB := hid (fun w1 (hb : Below w.heap.size w w1) => tcheck_any b A' k' B' m' w1 (ra'.step hb) la' (rb'.step hb) lb')
  have RB := hid (fun w1 (hb : Below w.heap.size w w1) => rb.step hb)
  have RB' := hid (fun w1 (hb : Below w.heap.size w w1) => rb'.step hb)
  have HRT := hid (fun (h : tabI a = 0) => cel_right h)
  have HRT' := hid (fun (h : tabI b = 0) => cel_right h)
  have HUN := hid (fun (h : tabI a = 0) => cells_unique h)
  have HLN := hid (fun (h : tabI a = 0) => (tabI_zero h).2.1)
  have HLN' := hid (fun (h : tabI b = 0) => (tabI_zero h).2.1)
  have HE := hid (show bothE a b = if tabI a ≠ 0 then tabI a else if tabI b ≠ 0 then tabI b else if b.cells.any (clashB a b) then 5 else 0 from rfl)
  have HCL := hid (fun y => show clashB a b y = a.cells.any (fun x => decide (x.d = y.d) && !decide (x = y)) from rfl)
  generalize clashB a b = cl at *
  obtain ⟨RE, hRE⟩ : ∃ RE, RE = bothE a b := ⟨_, rfl⟩
  rw [← hRE] at HE ⊢
  clear hRE
  obtain ⟨TA, hTA⟩ : ∃ T, T = tabI a := ⟨_, rfl⟩
  obtain ⟨TB, hTB⟩ : ∃ T, T = tabI b := ⟨_, rfl⟩
  rw [← hTA] at HTA HE HRT HUN HLN
  rw [← hTB] at HTB HE HRT' HLN'
  clear hTA hTB ra rb ra' rb'
  obtain ⟨⟨c0, c1, c2, c3, al⟩, l⟩ := a
  obtain ⟨⟨f0, f1, f2, f3, bl⟩, l'⟩ := b
  simp only [tval] at *
  go_enter Try.func85, Try.ntmps85
  go_wp2_with fail
  refine (HTA.out _ (by (repeat' (first | (with_reducible exact Below.refl _ _) | (with_reducible assumption) | (with_reducible refine below_drewN ?_ _) | (with_reducible refine Below.drew ?_) | (with_reducible refine Below.alloc ?_ ?_ _) | (with_reducible refine Below.setCell ?_ ?_ _) | (refine Below.trans ?_ (Below.mono (by assumption) ?_)) | go_size)))).mono ?_
  rintro e w1 ⟨rfl, hb1⟩
  have HBW := hid (show Below w.heap.size w w1 from (by refine Below.step' ?_ hb1; (repeat' (first | (with_reducible exact Below.refl _ _) | (with_reducible assumption) | (with_reducible refine below_drewN ?_ _) | (with_reducible refine Below.drew ?_) | (with_reducible refine Below.alloc ?_ ?_ _) | (with_reducible refine Below.setCell ?_ ?_ _) | (refine Below.trans ?_ (Below.mono (by assumption) ?_)) | go_size))))
  have HXA := hid (Blk.step (w := _) (b := w.heap.size) (cs := #[.int .i64 c0, .int .i64 c1, .int .i64 c2, .int .i64 c3, .slice A al.length k, .slice B l.length m]) (T := 59) (by exact (Blk.new w _ _).alloc _) hb1)
  have HXB := hid (Blk.step (w := _) (b := w.heap.size + 1) (cs := #[.int .i64 f0, .int .i64 f1, .int .i64 f2, .int .i64 f3, .slice A' bl.length k', .slice B' l'.length m']) (T := 59) (by exact Blk.new' (w.alloc _) _ _ (by simp)) hb1)
  clear hb1
  by_cases qA : TA = 0
  rotate_left
  · have t1 : (TA != 0) = true := by simpa using qA
    have E2 : Hid (RE = TA) := hid (by have e := HE.out; rw [if_pos qA] at e; exact e)
    clear qA
    go_wp2
    go_ret
    exact ⟨ret_int E2.out.symm, HBW.out⟩
  · subst qA
    obtain ⟨cHXB, fHXB, sHXB, nHXB⟩ := HXB.out.all
    try simp only [cbox] at cHXB
    go_wp2_with fail
    refine (HTB.out _ HBW.out).mono ?_
    rintro e w2 ⟨rfl, hb2⟩
    clear cHXB fHXB sHXB nHXB
    replace HXA := hid (HXA.out.step hb2)
    replace HXB := hid (HXB.out.step hb2)
    replace HBW := hid (Below.step' HBW.out hb2)
    clear hb2
    by_cases qB : TB = 0
    rotate_left
    · have t1 : (TB != 0) = true := by simpa using qB
      have E2 : Hid (RE = TB) := hid (by have e := HE.out; rw [if_neg (by simp), if_pos qB] at e; exact e)
      clear qB
      go_wp2
      go_ret
      exact ⟨ret_int E2.out.symm, HBW.out⟩
    · subst qB
      have E3 : Hid (RE = if l'.any cl then 5 else 0) := hid (by have e := HE.out; rw [if_neg (by simp), if_neg (by simp)] at e; exact e)
      have hla := HLN.out (by first | rfl | trivial)
      have hlb := HLN'.out (by first | rfl | trivial)
      have HR := hid (HRT.out (by first | rfl | trivial))
      have HR' := hid (HRT'.out (by first | rfl | trivial))
      have HU := hid (HUN.out (by first | rfl | trivial))
      try simp only at hla hlb
      clear HE HRT HRT' HUN HLN HLN' HTA HTB
      have hmm := @run_makeMap Try.prog
      have hsz2 := HBW.out.size
      have hxl := HXB.out.lt
      have HOM := hid (World.ownsMap_made w2 Try.prog 27 celElem)
      have HBM := hid ((Below.refl w2.heap.size w2).alloc (Nat.le_refl _) (.map #[] 0))
      obtain ⟨cHXA, fHXA, sHXA, nHXA⟩ := HXA.out.all
      try simp only [cbox] at cHXA
      go_wp2
      clear cHXA fHXA sHXA nHXA
      go_loopw [28] (fun s28 wr => ∃ i : Nat, i ≤ l.length ∧ s28 = .int .i64 i ∧ wr.ownsMap Try.prog 27 celElem w2.heap.size i (mapL (l.take i)) ∧ Below w2.heap.size w2 wr) (fun s28 _ => l.length - (intOf s28).toNat)
      case atStart => exact ⟨0, by omega, rfl, HOM.out, HBM.out⟩
      case round =>
        obtain ⟨i, hi, rfl, hown, hbw⟩ := hrel
        have hst : ∀ hj : i < l.length, mapL (l.take (i + 1)) = (mapL (l.take i)).put (keyL l[i].d) (celD l[i]) := by
          intro hj
          rw [List.take_succ_eq_append_getElem hj, mapL_snoc]
        have hfin : ¬ i < l.length → mapL (l.take i) = mapL l := fun h => by rw [List.take_of_length_le (by omega)]
        obtain ⟨O, hO⟩ : ∃ O, O = mapL (l.take i) := ⟨_, rfl⟩
        rw [← hO] at hown hst hfin
        clear hO
        have hB := Below.step' HBW.out hbw
        have HOWN := hid hown
        have HB1 := hid hbw
        have HBB := hid hB
        have HFIN := hid hfin
        clear hown hbw hB hfin
        by_cases hlt : i < l.length
        · obtain ⟨b, off, hA, hb, e0, e1, e2, e3, e4⟩ := (RB.out wr HBB.out).cel hlt
          subst hA
          have HST := hid (hst hlt)
          have hrt := HR.out l[i] (List.getElem_mem _)
          have hmk := HOWN.out.lt
          clear hst
          generalize l[i] = x at *
          obtain ⟨⟨d0, d1⟩, ky, co, vl⟩ := x
          simp only at e0 e1 e2 e3 e4 hrt
          have HKY := hid (keyOf_right (d := (d0, d1)) hrt)
          clear hrt
          have hneb : (b = wr.heap.size) = False := by simp; omega
          have hsw := HB1.out.size
          go_wp2_with (at_mapUpdate; refine wpList_mapUpdate_own _ rfl _ _ _ 117 rfl 27 62 dot_keyed Try.underlying117 celElem w2.heap.size i O rfl (HOWN.out.alloc _) (by simp only [maxLen]; omega) _ _ (keyL (d0, d1)) rfl rfl HKY.out (celD ⟨(d0, d1), ky, co, vl⟩) [] (celElem_mk ⟨(d0, d1), ky, co, vl⟩) ?_; intro w6 hown6 hg6)
          go_roundw
          case rel =>
            refine ⟨i + 1, by omega, by go_num, by rw [HST.out]; exact hown6, (HB1.out.alloc HB1.out.size _).grown hg6 (by simp; omega) (fun g e => by injection e with e; omega)⟩
          case measure => simp [intOf]; omega
        · have hfin := HFIN.out hlt
          rw [hfin] at HOWN
          have hsw := HB1.out.size
          have hmk := HOWN.out.lt
          replace HXB := hid (HXB.out.step HB1.out)
          replace HBW := hid (Below.step' HBW.out HB1.out)
          obtain ⟨wo, hwo⟩ : ∃ wo : World, wo = wr := ⟨_, rfl⟩
          rw [← hwo] at HOWN HXB HBW hsw hmk ⊢
          clear hwo hst HFIN hfin HB1 HBB HOM HBM HXA
          obtain ⟨cHXB, fHXB, sHXB, nHXB⟩ := HXB.out.all
          try simp only [cbox] at cHXB
          go_wp2
          clear cHXB fHXB sHXB nHXB
          go_loopw [40] (fun s40 wr => ∃ j : Nat, j ≤ l'.length ∧ s40 = .int .i64 j ∧ (∀ y ∈ l'.take j, cl y = false) ∧ wr.ownsMap Try.prog 27 celElem w2.heap.size i (mapL l) ∧ Below wo.heap.size wo wr) (fun s40 _ => l'.length - (intOf s40).toNat)
          case atStart => exact ⟨0, by omega, rfl, by simp, HOWN.out, Below.refl _ _⟩
          case round =>
            obtain ⟨j, hj, rfl, hno, hown, hbw⟩ := hrel
            obtain ⟨wx, rfl⟩ : ∃ wx : World, wx = wr := ⟨_, rfl⟩
            have HNO := hid hno
            have HOW := hid hown
            have HB1 := hid hbw
            have HBB := hid (Below.step' HBW.out hbw)
            clear hno hown hbw
            by_cases hlt' : j < l'.length
            · obtain ⟨b, off, hA, hb, e0, e1, e2, e3, e4⟩ := (RB'.out _ HBB.out).cel hlt'
              subst hA
              have hmem : l'[j] ∈ l' := List.getElem_mem _
              have hrt := HR'.out l'[j] hmem
              have hcl := HCL.out l'[j]
              have hst : ∀ y ∈ l'.take (j + 1), cl y = false ∨ y = l'[j] := by
                intro y hy
                rw [List.take_succ_eq_append_getElem hlt'] at hy
                rcases List.mem_append.1 hy with hy | hy
                · exact .inl (HNO.out y hy)
                · exact .inr (List.mem_singleton.1 hy)
              have HST := hid hst
              have HMEM := hid hmem
              clear hst hmem
              generalize l'[j] = y at *
              obtain ⟨⟨d0, d1⟩, ky, co, vl⟩ := y
              simp only at e0 e1 e2 e3 e4 hrt
              have HKY := hid (keyOf_right (d := (d0, d1)) hrt)
              have hneb : (b = wx.heap.size) = False := by simp; omega
              have hneb2 : (b = wx.heap.size + 1) = False := by simp; omega
              have hsw := HB1.out.size
              rcases mapL_at (d := (d0, d1)) hrt l HR.out with ⟨h1, h2⟩ | ⟨x, hxm, hxd, h1, h2⟩
              · have HF := hid (show cl ⟨(d0, d1), ky, co, vl⟩ = false by
                  rw [hcl, List.any_eq_false]
                  intro x hx
                  simp [h2 x hx])
                have HH := hid h1
                clear h1 h2 hrt hcl
                go_wp2_with (at_lookup; refine wpList_look_none _ rfl _ _ rfl w2.heap.size i (mapL l) rfl (HOW.out.alloc _) _ (keyL (d0, d1)) rfl HKY.out HH.out ?_)
                go_roundw
                case rel =>
                  refine ⟨j + 1, by omega, by go_num, fun y hy => ?_, (HOW.out.alloc _).alloc _, (HB1.out.alloc HB1.out.size _).alloc (by simp; omega) _⟩
                  rcases HST.out y hy with h | h
                  · exact h
                  · rw [h]; exact HF.out
                case measure => simp [intOf]; omega
              · have hun := HU.out x hxm
                obtain ⟨⟨x0, x1⟩, xk, xc, xv⟩ := x
                simp only at hxd
                injection hxd with hx0 hx1
                subst hx0 hx1
                have HH := hid h1
                have HA := hid h2
                have HN := hid (neq_cel x0 x1 xk xc xv x0 x1 ky co vl)
                clear h1 h2 hrt
                by_cases qe : (⟨(x0, x1), xk, xc, xv⟩ : Cel) = ⟨(x0, x1), ky, co, vl⟩
                · have HF := hid (show cl ⟨(x0, x1), ky, co, vl⟩ = false by
                    rw [hcl, List.any_eq_false]
                    intro x hx
                    by_cases e : x.d = (x0, x1)
                    · have := hun x hx e.symm
                      rw [← qe]
                      simp [this]
                    · simp [e])
                  have hn := fun w => HN.out w
                  rw [cel_eq, decide_eq_true qe] at hn
                  clear hcl hun qe
                  go_wp2_with (at_lookup; refine wpList_look_cel _ rfl _ _ rfl w2.heap.size i (mapL l) rfl (HOW.out.alloc _) _ (keyL (x0, x1)) rfl HKY.out ⟨(x0, x1), xk, xc, xv⟩ HH.out HA.out ?_)
                  go_roundw
                  case rel =>
                    refine ⟨j + 1, by omega, by go_num, fun y hy => ?_, (HOW.out.alloc _).alloc _, (HB1.out.alloc HB1.out.size _).alloc (by simp; omega) _⟩
                    rcases HST.out y hy with h | h
                    · exact h
                    · rw [h]; exact HF.out
                  case measure => simp [intOf]; omega
                · have HF := hid (show cl ⟨(x0, x1), ky, co, vl⟩ = true by
                    rw [hcl, List.any_eq_true]
                    exact ⟨_, hxm, by simp only [decide_true, Bool.true_and, Bool.not_eq_true', decide_eq_false_iff_not]; exact qe⟩)
                  have hn := fun w => HN.out w
                  rw [cel_eq, decide_eq_false qe] at hn
                  have HR5 := hid (show RE = 5 by rw [E3.out, if_pos (List.any_eq_true.2 ⟨_, HMEM.out, HF.out⟩)])
                  clear hcl hun qe
                  go_wp2_with (at_lookup; refine wpList_look_cel _ rfl _ _ rfl w2.heap.size i (mapL l) rfl (HOW.out.alloc _) _ (keyL (x0, x1)) rfl HKY.out ⟨(x0, x1), xk, xc, xv⟩ HH.out HA.out ?_)
                  go_ret
                  exact ⟨ret_int HR5.out.symm, (HBB.out.alloc HBB.out.size _).alloc (by have := HBB.out.size; simp; omega) _⟩
            · have HR0 := hid (show RE = 0 by
                have hno := HNO.out
                rw [List.take_of_length_le (by omega)] at hno
                rw [E3.out, if_neg]
                rw [Bool.not_eq_true, List.any_eq_false]
                exact fun y hy => by simp [hno y hy])
              go_wp2
              go_ret
              exact ⟨ret_int HR0.out.symm, HBB.out⟩
end Go.Proofs.Ytogegnikpjcpdaa
/- slices.Index, slices.Contains at Cell; table.stays. -/
namespace Go.Proofs.Ytogegnikpjcpdaa
set_option linter.unusedVariables false
open Go.ChangeShapes Go.WideShapes Go.ChangeAt Go.RowKit

set_option maxHeartbeats 1000000 in
set_option maxRecDepth 100000 in
theorem indexC_any (l : List Cel) (v : Cel) (A : Option Addr) (c : Nat) (w : World) (hr : Row w w.heap.size A (tcells l)) (hl : l.length ≤ 9223372036854775807) :
    Calls Try.prog 124 #[.slice A l.length c, celv v] w (IdxPost (v ∈ l) w) := by
  have HR := hid (fun w1 (hb : Below w.heap.size w w1) => hr.step hb)
  clear hr
  obtain ⟨⟨v0, v1⟩, v2, v3, v4⟩ := v
  simp only [celv]
  go_enter Try.func124, Try.ntmps124
  have HX0 := hid (Blk.new w #[.int .i64 v0, .int .i64 v1, .int .i64 v2, .int .i64 v3, .int .i64 v4] 62)
  go_wp2
  go_loopw [8] (fun i wr => (∃ k : Nat, k ≤ l.length ∧ i = .int .i64 k ∧ ∀ j (h : j < l.length), j < k → l[j] ≠ ⟨(v0, v1), v2, v3, v4⟩) ∧ Below (w.heap.size + 1) (w.alloc (.cells #[.int .i64 v0, .int .i64 v1, .int .i64 v2, .int .i64 v3, .int .i64 v4] 62)) wr) (fun i _ => l.length - (intOf i).toNat)
  case atStart => exact ⟨⟨0, by omega, rfl, fun j _ h => absurd h (by omega)⟩, Below.refl _ _⟩
  case round =>
    obtain ⟨⟨k, hk, rfl, hno⟩, hbw⟩ := hrel
    have hBB : Below w.heap.size w wr := ((Below.refl _ _).alloc (Nat.le_refl _) _).trans (hbw.mono (Nat.le_succ _))
    have HX := hid (HX0.out.thru hbw (by omega))
    have HN := hid hno
    have HB := hid hbw
    have HBB := hid hBB
    clear hno hbw hBB
    by_cases hlt : k < l.length
    · obtain ⟨b, off, rfl, hb, e0, e1, e2, e3, e4⟩ := (HR.out wr HBB.out).cel hlt
      have HG := hid (fun (j : Nat) (hj : j = k) (h : j < l.length) => show l[j] = l[k] by subst hj; rfl)
      have HM := hid (List.getElem_mem hlt)
      generalize l[k] = x at *
      obtain ⟨⟨d0, d1⟩, ky, co, vl⟩ := x
      simp only at e0 e1 e2 e3 e4
      have hq := fun w => eql_cel v0 v1 v2 v3 v4 d0 d1 ky co vl w
      rw [cel_eq] at hq
      obtain ⟨cHX, fHX, sHX, nHX⟩ := HX.out.all
      try simp only [cbox] at cHX
      by_cases qe : (⟨(v0, v1), v2, v3, v4⟩ : Cel) = ⟨(d0, d1), ky, co, vl⟩
      · rw [decide_eq_true qe] at hq
        have QE := hid qe
        clear qe
        go_wp2
        refine wp_region_quiet_lit (by kernel_rfl) (by kernel_rfl) ?_
        repeat (any_goals ((with_reducible refine wpQuiet_step (fun K hK => ?_)); go_simp; first | (with_reducible refine hK _ ?_; clear hK K) | ((with_reducible apply Exists.intro); (with_reducible refine ⟨fun _ => ?_, hK _ ?_⟩); (fail); clear hK K) | ((with_reducible refine (if_neg ?_).mpr (hK _ ?_)); (decide); clear hK K) | (split <;> (with_reducible refine hK _ ?_; clear hK K))))
        all_goals ((with_reducible refine wpQuiet_nil ?_); intro _ hw'; obtain ⟨nq, hw''⟩ := hw'; subst hw'')
        go_wp2
        go_ret
        refine ⟨k, rfl, iff_of_true (by omega) ?_, below_drewN HBB.out _⟩
        rw [QE.out]; exact HM.out
      · rw [decide_eq_false qe] at hq
        have QE := hid qe
        clear qe
        go_wp2
        refine wp_region_quiet_lit (by kernel_rfl) (by kernel_rfl) ?_
        repeat (any_goals ((with_reducible refine wpQuiet_step (fun K hK => ?_)); go_simp; first | (with_reducible refine hK _ ?_; clear hK K) | ((with_reducible apply Exists.intro); (with_reducible refine ⟨fun _ => ?_, hK _ ?_⟩); (fail); clear hK K) | ((with_reducible refine (if_neg ?_).mpr (hK _ ?_)); (decide); clear hK K) | (split <;> (with_reducible refine hK _ ?_; clear hK K))))
        all_goals ((with_reducible refine wpQuiet_nil ?_); intro _ hw'; obtain ⟨nq, hw''⟩ := hw'; subst hw'')
        go_wp2
        go_roundw
        case rel =>
          refine ⟨⟨k + 1, by omega, by go_num, fun j h hj => ?_⟩, below_drewN HB.out _⟩
          by_cases e : j = k
          · rw [HG.out j e h]; exact fun h => QE.out h.symm
          · exact HN.out j h (by omega)
        case measure => simp [intOf]; omega
    · go_wp2
      go_ret
      refine ⟨-1, rfl, iff_of_false (by omega) ?_, HBB.out⟩
      intro hm
      obtain ⟨j, hj, e⟩ := List.getElem_of_mem hm
      exact HN.out j hj (by omega) e

set_option maxRecDepth 100000 in
theorem containsC_any (l : List Cel) (v : Cel) (A : Option Addr) (c : Nat) (w : World) (hr : Row w w.heap.size A (tcells l)) (hl : l.length ≤ 9223372036854775807) :
    Calls Try.prog 102 #[.slice A l.length c, celv v] w fun e w' => e = .returned (.bool (decide (v ∈ l))) ∧ Below w.heap.size w w' := by
  have HI := hid (fun w1 (hb : Below w.heap.size w w1) => indexC_any l v A c w1 (hr.step hb) hl)
  clear hr
  obtain ⟨⟨v0, v1⟩, v2, v3, v4⟩ := v
  simp only [celv] at *
  go_enter Try.func102, Try.ntmps102
  go_wp2_with fail
  refine (HI.out _ (by (repeat' (first | (with_reducible exact Below.refl _ _) | (with_reducible assumption) | (with_reducible refine below_drewN ?_ _) | (with_reducible refine Below.drew ?_) | (with_reducible refine Below.alloc ?_ ?_ _) | (with_reducible refine Below.setCell ?_ ?_ _) | (refine Below.trans ?_ (Below.mono (by assumption) ?_)) | go_size)))).mono ?_
  rintro e w1 ⟨i, rfl, hi, hb1⟩
  have HBW := hid (show Below w.heap.size w w1 from (by refine Below.step' ?_ hb1; (repeat' (first | (with_reducible exact Below.refl _ _) | (with_reducible assumption) | (with_reducible refine below_drewN ?_ _) | (with_reducible refine Below.drew ?_) | (with_reducible refine Below.alloc ?_ ?_ _) | (with_reducible refine Below.setCell ?_ ?_ _) | (refine Below.trans ?_ (Below.mono (by assumption) ?_)) | go_size))))
  go_wp2
  go_ret
  refine ⟨?_, HBW.out⟩
  by_cases h : (⟨(v0, v1), v2, v3, v4⟩ : Cel) ∈ l <;> simp_all

def staysB (c : Ctx) (m : List Cel) (x : Cel) : Bool := !hasB c x.d || decide (x ∈ m)
def staysL (t u : Tab) : List Cel := t.cells.filter (staysB u.c u.cells)
def CelsPost (l : List Cel) (w : World) (e : Ending) (w' : World) : Prop :=
  ∃ v, e = .returned v ∧ w'.ownsRow w.heap.size 62 5 v l.length (tcells l) ∧ Below w.heap.size w w'
set_option maxHeartbeats 2000000 in
set_option maxRecDepth 100000 in
theorem stays_any (t u : Tab) (A : Option Addr) (k : Nat) (B : Option Addr) (m : Nat) (A' : Option Addr) (k' : Nat) (B' : Option Addr) (m' : Nat) (w : World)
    (rb : Row w w.heap.size B (tcells t.cells)) (lb : t.cells.length ≤ 400) (ra' : Row w w.heap.size A' (dcells u.c.cloud)) (la' : u.c.cloud.length ≤ 9223372036854775807)
    (rb' : Row w w.heap.size B' (tcells u.cells)) (lb' : u.cells.length ≤ 9223372036854775807) :
    Calls Try.prog 86 #[tval t A k B m, tval u A' k' B' m'] w (CelsPost (staysL t u) w) := by
  have HH := hid (fun w1 (hb : Below w.heap.size w w1) d => has_any u.c d A' k' w1 (ra'.step hb) la')
  have HC := hid (fun w1 (hb : Below w.heap.size w w1) v => containsC_any u.cells v B' m' w1 (rb'.step hb) lb')
  have RB := hid (fun w1 (hb : Below w.heap.size w w1) => rb.step hb)
  have HV : staysL t u = t.cells.filter (staysB u.c u.cells) := rfl
  have HS := hid (fun x => show staysB u.c u.cells x = (!hasB u.c x.d || decide (x ∈ u.cells)) from rfl)
  generalize staysB u.c u.cells = p at *
  obtain ⟨V, hV⟩ : ∃ V, V = staysL t u := ⟨_, rfl⟩
  rw [← hV] at HV ⊢
  have HV := hid HV
  clear hV rb ra' rb'
  obtain ⟨⟨c0, c1, c2, c3, cl⟩, l⟩ := t
  obtain ⟨⟨f0, f1, f2, f3, fl⟩, l'⟩ := u
  obtain ⟨i0, hi0, hz0, hz1, hz2⟩ := info_parts info_cel
  simp only [tval, cval] at *
  go_enter Try.func86, Try.ntmps86
  go_wp2
  obtain ⟨W2, hW2⟩ : ∃ W2 : World, W2 = (w.alloc (.cells #[.int .i64 c0, .int .i64 c1, .int .i64 c2, .int .i64 c3, .slice A cl.length k, .slice B l.length m] 59)).alloc (.cells #[.int .i64 f0, .int .i64 f1, .int .i64 f2, .int .i64 f3, .slice A' fl.length k', .slice B' l'.length m'] 59) := ⟨_, rfl⟩
  rw [← hW2]
  have HB2 := hid (show Below w.heap.size w W2 by rw [hW2]; (repeat' (first | (with_reducible exact Below.refl _ _) | (with_reducible assumption) | (with_reducible refine below_drewN ?_ _) | (with_reducible refine Below.drew ?_) | (with_reducible refine Below.alloc ?_ ?_ _) | (with_reducible refine Below.setCell ?_ ?_ _) | (refine Below.trans ?_ (Below.mono (by assumption) ?_)) | go_size)))
  have hs2 : w.heap.size ≤ W2.heap.size := HB2.out.size
  have HXU := hid (show Blk W2 (w.heap.size + 1) #[.int .i64 f0, .int .i64 f1, .int .i64 f2, .int .i64 f3, .slice A' fl.length k', .slice B' l'.length m'] 59 by rw [hW2]; exact Blk.new' (w.alloc _) _ _ (by simp))
  clear hW2
  go_loopw [5, 11] (fun s5 s11 wr => ∃ i : Nat, i ≤ l.length ∧ s11 = .int .i64 i ∧ wr.ownsRow W2.heap.size 62 5 s5 ((l.take i).filter p).length (tcells ((l.take i).filter p)) ∧ Below W2.heap.size W2 wr) (fun _ s11 _ => l.length - (intOf s11).toNat)
  case atStart => exact ⟨0, by omega, rfl, by simpa using World.ownsRow_nil _ _ _ _, Below.refl _ _⟩
  case round =>
    obtain ⟨i, hi, rfl, hown, hbw⟩ := hrel
    have hst : ∀ hj : i < l.length, (l.take (i + 1)).filter p = (l.take i).filter p ++ (if p l[i] = true then [l[i]] else []) := by
      intro hj
      rw [List.take_succ_eq_append_getElem hj, List.filter_append, List.filter_cons, List.filter_nil]
    have hol : ((l.take i).filter p).length ≤ 400 := by
      have := List.length_filter_le p (l.take i)
      rw [List.length_take] at this
      omega
    have hfin : ¬ i < l.length → (l.take i).filter p = V := fun h => by rw [HV.out, List.take_of_length_le (by omega)]
    obtain ⟨O, hO⟩ : ∃ O, O = (l.take i).filter p := ⟨_, rfl⟩
    rw [← hO] at hown hst hol hfin
    clear hO
    obtain ⟨A8, c8, rfl⟩ := own_formS hown
    have hB := Below.step' HB2.out hbw
    have HOWN := hid hown
    have HBW := hid hbw
    have HBB := hid hB
    have HFIN := hid hfin
    have HXU2 := hid (HXU.out.step hbw)
    clear hown hbw hB hfin
    by_cases hlt : i < l.length
    · obtain ⟨b, off, hA, hb, e0, e1, e2, e3, e4⟩ := (RB.out wr HBB.out).cel hlt
      subst hA
      have HST := hid (hst hlt)
      have hp := HS.out l[i]
      clear hst
      generalize l[i] = x at *
      obtain ⟨⟨d0, d1⟩, ky, co, vl⟩ := x
      simp only at e0 e1 e2 e3 e4
      have hneb : (b = wr.heap.size) = False := by simp; omega
      have hsw := HBW.out.size
      have hh := fun w1 hb => HH.out w1 hb (d0, d1)
      have hcc := fun w1 hb => HC.out w1 hb ⟨(d0, d1), ky, co, vl⟩
      simp only [celv, dval] at hcc hh
      obtain ⟨cHXU2, fHXU2, sHXU2, nHXU2⟩ := HXU2.out.all
      try simp only [cbox] at cHXU2
      cases hhas : hasB ⟨f0, f1, f2, f3, fl⟩ (d0, d1)
      · have HQ := hid (show p ⟨(d0, d1), ky, co, vl⟩ = true by rw [hp]; simp [hhas])
        rw [hhas] at hh
        have HHH := hid hh
        clear hh hcc hp hhas
        go_wp2_with fail
        refine (HHH.out _ (HBB.out.alloc HBB.out.size _)).mono ?_
        rintro e w5 ⟨rfl, hb5⟩
        have hB5 : Below wr.heap.size wr w5 := (by refine Below.step' ?_ hb5; (repeat' (first | (with_reducible exact Below.refl _ _) | (with_reducible assumption) | (with_reducible refine below_drewN ?_ _) | (with_reducible refine Below.drew ?_) | (with_reducible refine Below.alloc ?_ ?_ _) | (with_reducible refine Below.setCell ?_ ?_ _) | (refine Below.trans ?_ (Below.mono (by assumption) ?_)) | go_size)))
        have HOWN5 := hid (own_laterS HOWN.out hB5)
        have HB5 := hid (Below.step' HBW.out hB5)
        have hs5 := (Below.step' HBW.out hB5).size
        have HX5 := hid (Blk.step (Blk.new wr #[.int .i64 d0, .int .i64 d1, .int .i64 ky, .int .i64 co, .int .i64 vl] 62) hb5)
        clear cHXU2 fHXU2 sHXU2 nHXU2
        clear hb5 hB5 e0 e1 e2 e3 e4 hneb hb
        obtain ⟨cHX5, fHX5, sHX5, nHX5⟩ := HX5.out.all
        try simp only [cbox] at cHX5
        go_wp2_with (at_builtin; refine wpList_append_own _ rfl _ _ 57 rfl W2.heap.size 62 i0 _ 5 40 Try.underlying57 hi0 hz0 hz1 hz2 rfl (by decide) _ _ _ rfl (HOWN5.out.alloc _) ⟨w5.heap.size, 0, none⟩ 1 1 (tcells [⟨(d0, d1), ky, co, vl⟩]) rfl rfl (newsT w5 ⟨(d0, d1), ky, co, vl⟩ _ _ rfl) (tcells_one _) ?_ ?_ ?_ ?_; rotate_right; intro v6 w6 hown6 hg6 hif6; clear hif6; rotate_left; (simp only [maxLen]; omega); (omega); (simp; omega))
        go_roundw
        case rel =>
          refine ⟨i + 1, by omega, by go_num, ?_, (HB5.out.alloc (by omega) _).grown hg6 (by simp; omega) (fun g e => (HOWN5.out.lt g e).1)⟩
          rw [HST.out, HQ.out, if_pos rfl, tcells_snoc]
          simpa using hown6
        case measure => simp [intOf]; omega
      · rw [hhas] at hh
        have HHH := hid hh
        have HP : Hid (p ⟨(d0, d1), ky, co, vl⟩ = decide ((⟨(d0, d1), ky, co, vl⟩ : Cel) ∈ l')) := hid (by rw [hp]; simp [hhas])
        clear hh hp hhas
        by_cases hq : (⟨(d0, d1), ky, co, vl⟩ : Cel) ∈ l'
        · have HQ := hid (show p ⟨(d0, d1), ky, co, vl⟩ = true by rw [HP.out, decide_eq_true hq])
          rw [decide_eq_true hq] at hcc
          have HCC := hid hcc
          clear hcc hq HP
          go_wp2_with fail
          refine (HHH.out _ (HBB.out.alloc HBB.out.size _)).mono ?_
          rintro e w5 ⟨rfl, hb5⟩
          have hB5 : Below wr.heap.size wr w5 := (by refine Below.step' ?_ hb5; (repeat' (first | (with_reducible exact Below.refl _ _) | (with_reducible assumption) | (with_reducible refine below_drewN ?_ _) | (with_reducible refine Below.drew ?_) | (with_reducible refine Below.alloc ?_ ?_ _) | (with_reducible refine Below.setCell ?_ ?_ _) | (refine Below.trans ?_ (Below.mono (by assumption) ?_)) | go_size)))
          have HOWN5 := hid (own_laterS HOWN.out hB5)
          have HB5 := hid (Below.step' HBW.out hB5)
          have hs5 := (Below.step' HBW.out hB5).size
          have HX5 := hid (Blk.step (Blk.new wr #[.int .i64 d0, .int .i64 d1, .int .i64 ky, .int .i64 co, .int .i64 vl] 62) hb5)
          clear cHXU2 fHXU2 sHXU2 nHXU2
          replace HXU2 := hid (HXU2.out.step hB5)
          have HBB5 := hid (Below.step' HBB.out hB5)
          clear hb5 hB5 e0 e1 e2 e3 e4 hneb hb
          obtain ⟨cHX5, fHX5, sHX5, nHX5⟩ := HX5.out.all
          try simp only [cbox] at cHX5
          obtain ⟨cHXU2, fHXU2, sHXU2, nHXU2⟩ := HXU2.out.all
          try simp only [cbox] at cHXU2
          go_wp2_with fail
          refine (HCC.out _ HBB5.out).mono ?_
          rintro e w7 ⟨rfl, hb7⟩
          have HOWN7 := hid (own_laterS HOWN5.out hb7)
          have HB7 := hid (Below.step' HB5.out hb7)
          have hs7 := (Below.step' HB5.out hb7).size
          clear cHX5 fHX5 sHX5 nHX5
          clear cHXU2 fHXU2 sHXU2 nHXU2
          replace HX5 := hid (HX5.out.step hb7)
          clear hb7
          obtain ⟨cHX5, fHX5, sHX5, nHX5⟩ := HX5.out.all
          try simp only [cbox] at cHX5
          go_wp2_with (at_builtin; refine wpList_append_own _ rfl _ _ 57 rfl W2.heap.size 62 i0 _ 5 40 Try.underlying57 hi0 hz0 hz1 hz2 rfl (by decide) _ _ _ rfl (HOWN7.out.alloc _) ⟨w7.heap.size, 0, none⟩ 1 1 (tcells [⟨(d0, d1), ky, co, vl⟩]) rfl rfl (newsT w7 ⟨(d0, d1), ky, co, vl⟩ _ _ rfl) (tcells_one _) ?_ ?_ ?_ ?_; rotate_right; intro v6 w6 hown6 hg6 hif6; clear hif6; rotate_left; (simp only [maxLen]; omega); (omega); (simp; omega))
          go_roundw
          case rel =>
            refine ⟨i + 1, by omega, by go_num, ?_, (HB7.out.alloc (by omega) _).grown hg6 (by simp; omega) (fun g e => (HOWN7.out.lt g e).1)⟩
            rw [HST.out, HQ.out, if_pos rfl, tcells_snoc]
            simpa using hown6
          case measure => simp [intOf]; omega
        · have HQ := hid (show p ⟨(d0, d1), ky, co, vl⟩ = false by rw [HP.out, decide_eq_false hq])
          rw [decide_eq_false hq] at hcc
          have HCC := hid hcc
          clear hcc hq HP
          go_wp2_with fail
          refine (HHH.out _ (HBB.out.alloc HBB.out.size _)).mono ?_
          rintro e w5 ⟨rfl, hb5⟩
          have hB5 : Below wr.heap.size wr w5 := (by refine Below.step' ?_ hb5; (repeat' (first | (with_reducible exact Below.refl _ _) | (with_reducible assumption) | (with_reducible refine below_drewN ?_ _) | (with_reducible refine Below.drew ?_) | (with_reducible refine Below.alloc ?_ ?_ _) | (with_reducible refine Below.setCell ?_ ?_ _) | (refine Below.trans ?_ (Below.mono (by assumption) ?_)) | go_size)))
          have HOWN5 := hid (own_laterS HOWN.out hB5)
          have HB5 := hid (Below.step' HBW.out hB5)
          have hs5 := (Below.step' HBW.out hB5).size
          have HX5 := hid (Blk.step (Blk.new wr #[.int .i64 d0, .int .i64 d1, .int .i64 ky, .int .i64 co, .int .i64 vl] 62) hb5)
          clear cHXU2 fHXU2 sHXU2 nHXU2
          replace HXU2 := hid (HXU2.out.step hB5)
          have HBB5 := hid (Below.step' HBB.out hB5)
          clear hb5 hB5 e0 e1 e2 e3 e4 hneb hb
          obtain ⟨cHX5, fHX5, sHX5, nHX5⟩ := HX5.out.all
          try simp only [cbox] at cHX5
          obtain ⟨cHXU2, fHXU2, sHXU2, nHXU2⟩ := HXU2.out.all
          try simp only [cbox] at cHXU2
          go_wp2_with fail
          refine (HCC.out _ HBB5.out).mono ?_
          rintro e w7 ⟨rfl, hb7⟩
          have HOWN7 := hid (own_laterS HOWN5.out hb7)
          have HB7 := hid (Below.step' HB5.out hb7)
          clear cHX5 fHX5 sHX5 nHX5
          clear cHXU2 fHXU2 sHXU2 nHXU2
          clear hb7
          go_wp2
          go_roundw
          case rel => exact ⟨i + 1, by omega, by go_num, by rw [HST.out, HQ.out, if_neg (by simp), List.append_nil]; exact HOWN7.out, HB7.out⟩
          case measure => simp [intOf]; omega
    · have hfin := HFIN.out hlt
      rw [hfin] at HOWN ⊢
      clear hst
      go_wp2
      go_ret
      exact ⟨_, rfl, own_baseS HOWN.out hs2, HBB.out⟩
end Go.Proofs.Ytogegnikpjcpdaa
/- slices.SortFunc at Cell, over a row that the call owns. The words are general: rows of whatever things. -/
namespace Go.Proofs.Ytogegnikpjcpdaa
set_option linter.unusedVariables false
open Go.ChangeShapes Go.WideShapes Go.ChangeAt Go.RowKit
open Go.Shelf Go.Lib
open Go.Sort (grow SWO PermIn SortedIn alloc_eq_grow grow_grow drew_grow HoldsK flatK putRow putCells mapBlock Holds)

section
variable {α : Type} [Inhabited α] {f : α → List Value} {s : Nat}

theorem flat_flatK (hf : ∀ x, (f x).length = s) (hs : 0 < s) (l : List α) : (l.flatMap f).toArray = flatK f s l.toArray := by
  have hlen := flat_len hf l
  apply Array.ext
  · rw [List.size_toArray, hlen, Sort.size_flatK]; simp
  · intro i h1 h2
    have hi' : i < (l.flatMap f).length := by rw [List.size_toArray] at h1; exact h1
    have hi : i < l.length * s := by rw [hlen] at hi'; exact hi'
    have hk : i / s < l.length := Nat.div_lt_of_lt_mul (by rw [Nat.mul_comm]; exact hi)
    have hm : i % s < s := Nat.mod_lt _ hs
    have g := flat_get hf l (i / s) hk (i % s) hm
    rw [Nat.div_add_mod' i s] at g
    have e := Sort.get_flatK f s l.toArray i (by simpa using hi)
    rw [getElem!_pos _ i h2] at e
    rw [e]
    have hl : l.toArray[i / s]! = l[i / s] := by simp [hk]
    rw [hl, List.getElem_toArray]
    have hm' : i % s < (f l[i / s]).length := by rw [hf]; exact hm
    rw [getElem!_pos (f l[i / s]) (i % s) hm']
    rw [List.getElem?_eq_getElem hi', List.getElem?_eq_getElem hm'] at g
    injection g

theorem holdsK_ownS (hf : ∀ x, (f x).length = s) (hs : 0 < s) {w : World} {g : Nat} {l : List α} {cur : Array Value} {T : TypeId} (hg : w.heap[g]? = some (.cells cur T (0, 0))) (hc : cur.toList.take (l.length * s) = l.flatMap f) : HoldsK f s w g 0 l.toArray := by
  intro j hj
  rw [← flat_flatK hf hs] at hj ⊢
  have hj' : j < (l.flatMap f).length := by simpa using hj
  have e := take_eq_get hc hj'
  have e2 : (l.flatMap f).toArray[j]! = (l.flatMap f)[j] := by
    rw [getElem!_pos _ j hj]; simp
  rw [e2]
  constructor
  · rw [Nat.zero_add, cell_of_row w g j cur T (0, 0) hg, e, List.getElem?_eq_getElem hj']; rfl
  · simp [World.frozen?, hg]

theorem sorted_worldS (hf : ∀ x, (f x).length = s) (hs0 : 0 < s) {w : World} {B cap g n : Nat} {l l' : List α} {cur : Array Value} {T : TypeId} {os : Array Obj} (hb : B ≤ g) (hg : w.heap[g]? = some (.cells cur T (0, 0))) (hcap : l.length ≤ cap) (hm : cap ≤ maxLen) (hs : cur.size = cap * s)
    (hlen : l'.length = l.length) :
    (sortWorldK f s w g 0 n l'.toArray os).ownsRow B T s (.slice (some ⟨g, 0, none⟩) l.length cap) l.length (l'.flatMap f) ∧ w.grownBy (sortWorldK f s w g 0 n l'.toArray os) (some g) := by
  have hlt : g < w.heap.size := by
    rcases Nat.lt_or_ge g w.heap.size with h | h
    · exact h
    · rw [Array.getElem?_eq_none h] at hg; cases hg
  have hfl := flat_len hf l'
  have hnew : (sortWorldK f s w g 0 n l'.toArray os).heap[g]? = some (.cells (putCells id 0 (flatK f s l'.toArray) cur) T (0, 0)) := by
    unfold sortWorldK grow Sort.putRowK putRow mapBlock Sort.ahead
    simp only [Array.getElem?_append, Array.size_modify, hlt, if_true, Array.getElem?_modify, hg, Option.map_some]
    rfl
  have hcs : l.length * s ≤ cap * s := Nat.mul_le_mul_right s hcap
  refine ⟨⟨by rw [hfl, hlen], .inr ⟨g, cap, _, rfl, hb, hnew, hcap, hm, by simp [putCells, hs], ?_⟩⟩, ?_⟩
  · rw [← flat_flatK hf hs0]
    apply List.ext_getElem?
    intro j
    by_cases hj : j < (l'.flatMap f).length
    · have hj2 : j < l.length * s := by rw [hfl, hlen] at hj; exact hj
      have hjc : j < cur.size := by rw [hs]; omega
      rw [List.getElem?_take_of_lt hj2]
      simp only [putCells, Array.toList_mapIdx, List.getElem?_mapIdx]
      have : cur.toList[j]? = some cur.toList[j] := List.getElem?_eq_getElem (by simpa using hjc)
      rw [this]
      simp only [Option.map_some, Nat.zero_le, Nat.zero_add, List.size_toArray, hj, and_self, if_true, Nat.sub_zero, id]
      rw [getElem!_pos _ j (by simpa using hj), List.getElem?_eq_getElem hj]
      simp
    · rw [List.getElem?_eq_none (Nat.le_of_not_lt hj), List.getElem?_eq_none]
      rw [List.length_take]
      rw [hfl, hlen] at hj
      omega
  · refine ⟨rfl, rfl, rfl, ?_, ?_⟩
    · unfold sortWorldK grow Sort.putRowK putRow mapBlock Sort.ahead
      simp
    · intro k hk hne
      have hne' : g ≠ k := fun e => hne (by rw [e])
      unfold sortWorldK grow Sort.putRowK putRow mapBlock Sort.ahead
      simp [Array.getElem?_append, hk, Array.getElem_modify, hne']

theorem perm_of_permIn {d d' : Array α} (h : PermIn 0 d.size d d') : d'.toList.Perm d.toList := by
  obtain ⟨h1, -, h3⟩ := h
  have e1 : d'.extract 0 d.size = d' := by rw [← h1]; simp
  have e2 : d.extract 0 d.size = d := by simp
  rwa [e1, e2] at h3
theorem pair_of_sortedIn {lt : α → α → Bool} {d : Array α} (h : SortedIn lt 0 d.size d) : d.toList.Pairwise (fun x y => lt y x = false) := by
  rw [List.pairwise_iff_getElem]
  intro i j hi hj hij
  have := h i j (Nat.zero_le _) hij (by simpa using hj)
  simp only [Array.length_toList] at hi hj
  rw [getElem!_pos _ i hi, getElem!_pos _ j hj] at this
  simpa using this
end

instance : Inhabited Cel := ⟨⟨(0, 0), 0, 0, 0⟩⟩
def celLt (x y : Cel) : Bool := before x.d y.d
/-- What a function that compares cells must do: less than nothing where the first comes before. -/
structure CmpCel (g : Nat) where
  cf : Cel → Cel → Int
  lt : ∀ x y, ltOf cf x y = celLt x y
  run : ∀ x y w, Calls Try.prog g #[celv x, celv y] w fun e w' => e = .returned (.int .i64 (cf x y)) ∧ ∃ q os', w' = grow (w.drewN q) os'
  enters : ∀ args w, (callFunc g args).run Try.prog w = .ok (.enter g args) w
theorem CmpCel.swo {g : Nat} (C : CmpCel g) : SWO (ltOf C.cf) where
  irrefl x := by rw [C.lt]; simp [celLt, before]
  trans x y z h1 h2 := by rw [C.lt] at *; simp [celLt, before] at *; omega
  ntrans x y z h1 h2 := by rw [C.lt] at *; simp [celLt, before] at *; omega

theorem sortC_own {g : Nat} (C : CmpCel g) {B : Nat} {v : Value} (l : List Cel) (w : World) (hown : w.ownsRow B 62 5 v l.length (tcells l)) (hl : l.length ≤ 140737488355328) :
    Calls Try.prog 87 #[v, .func (.func g) #[] #[]] w fun e w' => e = .returned (.tuple #[]) ∧ ∃ l', l'.Perm l ∧ l'.Pairwise (fun x y => celLt y x = false) ∧ w'.ownsRow B 62 5 v l'.length (tcells l') ∧ w.grownBy w' v.ownBlock := by
  rcases hown.2 with ⟨rfl, h0⟩ | ⟨b, cap, cur, rfl, hb, hg, hcap, hm, hs, ht⟩
  · have hl0 : l = [] := List.eq_nil_of_length_eq_zero h0
    subst hl0
    refine (AnyF.slices_SortFunc_none Try.sortCell none 0 _ w).mono fun e w' ⟨he, hw⟩ => ?_
    subst hw
    exact ⟨he, [], List.Perm.refl _, List.Pairwise.nil, hown, ⟨rfl, rfl, rfl, Nat.le_refl _, fun _ _ _ => rfl⟩⟩
  · have hlt : b < w.heap.size := by
      rcases Nat.lt_or_ge b w.heap.size with h | h
      · exact h
      · rw [Array.getElem?_eq_none h] at hg; cases hg
    have H := AnyQ.slices_SortFunc Try.sortCell 5 Try.isAgg62 Try.sizeOf62 Cel.cells Cel.len (fun x v hv => tcells_one [x] v (by simpa using hv)) C.cf C.swo g #[] b 0 cap l.toArray w C.enters
      (fun m os dk _ x y => C.run x y _) (holdsK_ownS Cel.len (by decide) hg ht) hlt (by simp; omega)
    have e0 : l.toArray.size = l.length := by simp
    rw [e0] at H
    refine H.mono fun e w' ⟨he, d', n, os, hp, hso, hw⟩ => ?_
    subst hw
    rw [← e0] at hp hso
    have hsz : d'.size = l.length := by rw [hp.1, e0]
    have hp' := perm_of_permIn hp
    rw [show l.toArray.size = d'.size by rw [hsz, e0]] at hso
    have hso' := pair_of_sortedIn hso
    have hll : d'.toList.length = l.length := by simpa using hsz
    have := sorted_worldS (f := Cel.cells) Cel.len (by decide) (l' := d'.toList) (os := os) (n := n) hb hg hcap hm hs hll
    rw [Array.toArray_toList] at this
    refine ⟨he, d'.toList, by simpa using hp', hso'.imp fun h => by rw [C.lt] at h; exact h, by rw [hll]; exact this.1, this.2⟩
end Go.Proofs.Ytogegnikpjcpdaa
