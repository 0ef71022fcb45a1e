/- EqCel, RDel, RPut -/
import Derived.Test.YtogegnikpjcpdaaTableSaysG06
import Derived.Test.YtogegnikpjcpdaaTableSaysG13
/- slices.Equal at Cell. -/
namespace Go.Proofs.Ytogegnikpjcpdaa
set_option linter.unusedVariables false
open Go.ChangeShapes Go.WideShapes Go.ChangeAt Go.RowKit

theorem under_cel : Try.prog.underlying 62 = some (.struct (Try.prog.fieldsOf 62)) := by kernel_rfl
theorem stood_cel : Try.prog.stoodInHeld 62 = false := by kernel_rfl
theorem guard_cel : Try.prog.eqGuardType Try.prog.depth 62 = false := by kernel_rfl
theorem neq_cel (a b c d e a' b' c' d' e' : Int) (w : World) : (binOp .neq 62 (.agg #[.int .i64 a, .int .i64 b, .int .i64 c, .int .i64 d, .int .i64 e]) (.agg #[.int .i64 a', .int .i64 b', .int .i64 c', .int .i64 d', .int .i64 e'])).run Try.prog w = .ok (.bool (!(a == a' && b == b' && c == c' && d == d' && e == e'))) w := by
  have h1 := under_cel
  have h2 := stood_cel
  have h3 := under_dot
  have h4 := stood_dot
  simp only [run_neq_struct, run_equalIn_agg _ _ _ _ _ h1 h2]
  simp [go_sem]
  by_cases ha : a = a' <;> by_cases hb : b = b' <;> by_cases hc : c = c' <;> by_cases hd : d = d' <;> by_cases he : e = e' <;> simp [ha, hb, hc, hd, he]
theorem eql_cel (a b c d e a' b' c' d' e' : Int) (w : World) : (binOp .eql 62 (.agg #[.int .i64 a, .int .i64 b, .int .i64 c, .int .i64 d, .int .i64 e]) (.agg #[.int .i64 a', .int .i64 b', .int .i64 c', .int .i64 d', .int .i64 e'])).run Try.prog w = .ok (.bool (a == a' && b == b' && c == c' && d == d' && e == e')) w := by
  have h1 := under_cel
  have h2 := stood_cel
  have h3 := under_dot
  have h4 := stood_dot
  simp only [run_eql_struct, run_equalIn_agg _ _ _ _ _ h1 h2]
  simp [go_sem]
  by_cases ha : a = a' <;> by_cases hb : b = b' <;> by_cases hc : c = c' <;> by_cases hd : d = d' <;> by_cases he : e = e' <;> simp [ha, hb, hc, hd, he]
theorem cel_eq (a b c d e a' b' c' d' e' : Int) : (a == a' && b == b' && c == c' && d == d' && e == e') = decide ((⟨(a, b), c, d, e⟩ : Cel) = ⟨(a', b'), c', d', e'⟩) := by
  rw [Bool.eq_iff_iff]
  simp [and_assoc]

set_option maxHeartbeats 400000 in
set_option maxRecDepth 100000 in
theorem equalT_any (l m : List Cel) (A B : Option Addr) (c e : Nat) (w : World) (hr : Row w w.heap.size A (tcells l)) (hs : Row w w.heap.size B (tcells m)) (hl : l.length ≤ 9223372036854775807) (hm : m.length ≤ 9223372036854775807) :
    Calls Try.prog 42 #[.slice A l.length c, .slice B m.length e] w fun e w' => e = .returned (.bool (decide (l = m))) ∧ Below w.heap.size w w' := by
  have HR := hid hr
  have HS := hid hs
  clear hr hs
  by_cases hlen : l.length = m.length
  · have hne : ((l.length : Int) != (m.length : Int)) = false := by simp [hlen]
    have HL := hid hlen
    clear hlen
    go_enter Try.func42, Try.ntmps42
    go_wp2
    go_loopw [13] (fun i wr => (∃ k : Nat, k ≤ l.length ∧ i = .int .i64 k ∧ ∀ j (h : j < l.length) (h' : j < m.length), j < k → l[j] = m[j]) ∧ Below w.heap.size w wr) (fun i _ => l.length - (intOf i).toNat)
    case atStart => exact ⟨⟨0, by omega, rfl, fun j _ _ h => absurd h (by omega)⟩, Below.refl _ _⟩
    case round =>
      obtain ⟨⟨k, hk, rfl, hno⟩, hbw⟩ := hrel
      by_cases hlt : k < l.length
      · have hlt' : k < m.length := by have := HL.out; omega
        obtain ⟨b, off, rfl, hb, h0, h1, h2, h3, h4⟩ := (HR.out.below hbw (Nat.le_refl _)).cel hlt
        obtain ⟨b', off', rfl, hb', h0', h1', h2', h3', h4'⟩ := (HS.out.below hbw (Nat.le_refl _)).cel hlt'
        have HN := hid hno
        have HB := hid hbw
        clear hno hbw
        generalize hd : l[k] = d at *
        generalize hd' : m[k] = d' at *
        obtain ⟨⟨d0, d1⟩, d2, d3, d4⟩ := d
        obtain ⟨⟨f0, f1⟩, f2, f3, f4⟩ := d'
        have HD := hid hd
        have HD' := hid hd'
        clear hd hd'
        simp only at h0 h1 h2 h3 h4 h0' h1' h2' h3' h4'
        have g1 := guard_cel
        have g2 := fun w => neq_cel d0 d1 d2 d3 d4 f0 f1 f2 f3 f4 w
        have ce := cel_eq d0 d1 d2 d3 d4 f0 f1 f2 f3 f4
        rw [ce] at g2
        clear ce
        cases hq : decide ((⟨(d0, d1), d2, d3, d4⟩ : Cel) = ⟨(f0, f1), f2, f3, f4⟩)
        all_goals
          rw [hq] at g2
          have HQ := hid hq
          clear hq
          go_wp2
          refine wp_region_quiet_lit (by kernel_rfl) (by kernel_rfl) ?_
          repeat (any_goals ((with_reducible refine wpQuiet_step (fun K hK => ?_)); go_simp; first | (with_reducible refine hK _ ?_; clear hK K) | ((with_reducible apply Exists.intro); (with_reducible refine ⟨fun _ => ?_, hK _ ?_⟩); (fail); clear hK K) | ((with_reducible refine (if_neg ?_).mpr (hK _ ?_)); (decide); clear hK K) | (split <;> (with_reducible refine hK _ ?_; clear hK K))))
          all_goals ((with_reducible refine wpQuiet_nil ?_); intro _ hw'; obtain ⟨nq, hw''⟩ := hw'; subst hw'')
          go_wp2
        · go_ret
          refine ⟨ret_bool ?_, below_drewN HB.out _⟩
          symm
          rw [decide_eq_false_iff_not]
          rintro rfl
          exact (of_decide_eq_false HQ.out) (HD.out.symm.trans HD'.out)
        · go_roundw
          case rel =>
            refine ⟨⟨k + 1, by omega, by go_num, fun j h h' hj => ?_⟩, below_drewN HB.out _⟩
            by_cases e : j = k
            · subst e; rw [HD.out, HD'.out]; exact of_decide_eq_true HQ.out
            · exact HN.out j h h' (by omega)
          case measure => simp [intOf]; omega
      · go_wp2
        go_ret
        refine ⟨ret_bool ?_, hbw⟩
        have : l = m := List.ext_getElem HL.out fun j h h' => hno j h h' (by omega)
        simp [this]
  · have hne : ((l.length : Int) != (m.length : Int)) = true := by simp; omega
    go_enter Try.func42, Try.ntmps42
    go_wp2
    go_ret
    exact ⟨ret_bool (by symm; simp; rintro rfl; exact hlen rfl), Below.refl _ _⟩
end Go.Proofs.Ytogegnikpjcpdaa
/- viewref.SameTable, viewref.Del. -/
namespace Go.Proofs.Ytogegnikpjcpdaa
set_option linter.unusedVariables false
open Go.ChangeShapes Go.WideShapes Go.ChangeAt Go.RowKit

set_option maxHeartbeats 1600000 in
set_option maxRecDepth 100000 in
theorem sameT_any (t : Tab) (A : Option Addr) (k : Nat) (B : Option Addr) (m : Nat) (A' : Option Addr) (k' : Nat) (B' : Option Addr) (m' : Nat) (w : World) (ra : Row w w.heap.size A (dcells t.c.cloud)) (la : t.c.cloud.length ≤ 9223372036854775807)
    (rb : Row w w.heap.size B (tcells t.cells)) (lb : t.cells.length ≤ 9223372036854775807) (ra' : Row w w.heap.size A' (dcells t.c.cloud)) (rb' : Row w w.heap.size B' (tcells t.cells)) :
    Calls Try.prog 48 #[tval t A k B m, tval t A' k' B' m'] w fun e w' => e = .returned (.bool true) ∧ Below w.heap.size w w' := by
  obtain ⟨⟨c0, c1, c2, c3, cl⟩, l⟩ := t
  have HSM := hid (fun w1 (hb : Below w.heap.size w w1) => same_ints c0 c1 c2 c3 c0 c1 c2 c3 cl cl A A' k k' w1 (ra.step hb) (ra'.step hb) la la)
  rw [show sameB ⟨c0, c1, c2, c3, cl⟩ ⟨c0, c1, c2, c3, cl⟩ = true from (sameB_iff _ _).2 rfl] at HSM
  have HEQ := hid (fun w1 (hb : Below w.heap.size w w1) => equalT_any l l B B' m m' w1 (rb.step hb) (rb'.step hb) lb lb)
  rw [show decide (l = l) = true from by simp] at HEQ
  clear ra rb ra' rb'
  simp only [tval] at *
  go_enter Try.func48, Try.ntmps48
  go_wp2_with fail
  refine (HSM.out _ (by (repeat' (first | (with_reducible exact Below.refl _ _) | (with_reducible assumption) | (with_reducible refine below_drewN ?_ _) | (with_reducible refine Below.drew ?_) | (with_reducible refine Below.alloc ?_ ?_ _) | (with_reducible refine Below.setCell ?_ ?_ _) | (refine Below.trans ?_ (Below.mono (by assumption) ?_)) | go_size)))).mono ?_
  rintro e w1 ⟨rfl, hb1⟩
  have HBW := hid (show Below w.heap.size w w1 from (by refine Below.step' ?_ hb1; (repeat' (first | (with_reducible exact Below.refl _ _) | (with_reducible assumption) | (with_reducible refine below_drewN ?_ _) | (with_reducible refine Below.drew ?_) | (with_reducible refine Below.alloc ?_ ?_ _) | (with_reducible refine Below.setCell ?_ ?_ _) | (refine Below.trans ?_ (Below.mono (by assumption) ?_)) | go_size))))
  have HXA := hid (Blk.step (w := _) (b := w.heap.size) (cs := #[.int .i64 c0, .int .i64 c1, .int .i64 c2, .int .i64 c3, .slice A cl.length k, .slice B l.length m]) (T := 59) (by exact (Blk.new w _ _).alloc _) hb1)
  have HXB := hid (Blk.step (w := _) (b := w.heap.size + 1) (cs := #[.int .i64 c0, .int .i64 c1, .int .i64 c2, .int .i64 c3, .slice A' cl.length k', .slice B' l.length m']) (T := 59) (by exact Blk.new' (w.alloc _) _ _ (by simp)) hb1)
  clear hb1
  obtain ⟨cHXA, fHXA, sHXA, nHXA⟩ := HXA.out.all
  try simp only [cbox] at cHXA
  obtain ⟨cHXB, fHXB, sHXB, nHXB⟩ := HXB.out.all
  try simp only [cbox] at cHXB
  go_wp2_with fail
  refine (HEQ.out _ HBW.out).mono ?_
  rintro e w2 ⟨rfl, hb2⟩
  go_wp2
  go_ret
  exact ⟨rfl, Below.step' HBW.out hb2⟩

theorem cel_right {t : Tab} (h : tabI t = 0) : ∀ x ∈ t.cells, rightB x.d.1 x.d.2 = true := by
  obtain ⟨-, -, h3⟩ := tabI_zero h
  intro x hx
  obtain ⟨i, hi, rfl⟩ := List.getElem_of_mem hx
  have hb := h3 i hi
  rw [badCel_at hi] at hb
  simp only [Bool.or_eq_false_iff, Bool.not_eq_false'] at hb
  have hc := hb.1
  unfold celOk at hc
  simp only [Bool.and_eq_true] at hc
  exact hc.1.1.1
theorem delL_right {t : Tab} (key : Int) (h : tabI t = 0) : ∀ d ∈ delL t key, rightB d.1 d.2 = true := by
  intro d hd
  unfold delL at hd
  obtain ⟨x, hx, rfl⟩ := List.mem_map.1 hd
  exact cel_right h x (List.mem_filter.1 hx).1
theorem delL_len {t : Tab} (key : Int) (h : tabI t = 0) : (delL t key).length ≤ 400 := by
  unfold delL
  rw [List.length_map]
  exact Nat.le_trans (List.length_filter_le _ _) (tabI_zero h).2.1
theorem del_pack {t : Tab} (key : Int) (h : tabI t = 0) : ctxX (delL t key) = packL 0 0 0 0 (delL t key) ∧ ctxE (delL t key) = 0 := by
  have h4 := delL_len key h
  obtain ⟨h1, h2⟩ := ctx_pack (l := delL t key) (by omega) (delL_right key h)
  have h5 : (packL 0 0 0 0 (delL t key)).cloud.length ≤ 400 := Nat.le_trans pack_length h4
  rw [h1, h2, if_neg (by omega), if_neg (by omega)]
  exact ⟨rfl, rfl⟩

set_option maxHeartbeats 1600000 in
set_option maxRecDepth 100000 in
theorem Rdel_any (t : Tab) (key : Int) (A : Option Addr) (k : Nat) (B : Option Addr) (m : Nat) (w : World) (ra : Row w w.heap.size A (dcells t.c.cloud)) (la : t.c.cloud.length ≤ 9223372036854775807)
    (rb : Row w w.heap.size B (tcells t.cells)) (lb : t.cells.length ≤ 4398046511104) :
    Calls Try.prog 46 #[tval t A k B m, .int .i64 key] w (TabErr (delX t key) (delE t key) w) := by
  have HTC := hid (fun w1 (hb : Below w.heap.size w w1) => rtable_any t A k B m w1 (ra.step hb) la (rb.step hb) (by omega))
  have RB := hid (fun w1 (hb : Below w.heap.size w w1) => rb.step hb)
  have hX1 : (tabI t ≠ 0 ∨ inB key 0 49 = false ∨ delL t key = []) → delX t key = zT := fun h => by unfold delX; rw [if_pos h]
  have hX2 : tabI t = 0 → inB key 0 49 = true → delL t key ≠ [] → delX t key = ⟨packL 0 0 0 0 (delL t key), []⟩ := fun h1 h2 h3 => by unfold delX; rw [if_neg (by simp [h1, h2, h3]), (del_pack key h1).1]
  have hE : delE t key = if tabI t ≠ 0 then tabI t else if inB key 0 49 = false then 1 else if delL t key = [] then 4 else 0 := by
    unfold delE
    split
    · rfl
    · rename_i h; rw [(del_pack key (by simpa using h)).2]
  have hP : tabI t = 0 → (delL t key).length ≤ 400 ∧ (∀ d ∈ delL t key, rightB d.1 d.2 = true) ∧ t.cells.length ≤ 400 := fun h => ⟨delL_len key h, delL_right key h, (tabI_zero h).2.1⟩
  have hGd : delL t key = (t.cells.filter (atK key)).map Cel.d := rfl
  obtain ⟨R, hR⟩ : ∃ R, R = delX t key := ⟨_, rfl⟩
  obtain ⟨RE, hRE⟩ : ∃ RE, RE = delE t key := ⟨_, rfl⟩
  rw [← hR, ← hRE]
  rw [← hR] at hX1 hX2
  rw [← hRE] at hE
  clear hR hRE
  obtain ⟨G, hG⟩ : ∃ G, G = delL t key := ⟨_, rfl⟩
  rw [← hG] at hX1 hX2 hE hP hGd
  clear hG
  obtain ⟨T, hT⟩ : ∃ T, T = tabI t := ⟨_, rfl⟩
  rw [← hT] at HTC hX1 hX2 hE hP
  clear hT
  have HX1 := hid hX1
  have HX2 := hid hX2
  have HE := hid hE
  have HP := hid hP
  have HGD := hid hGd
  clear hX1 hX2 hE hP hGd ra rb
  obtain ⟨⟨c0, c1, c2, c3, cl⟩, l⟩ := t
  obtain ⟨i0, hi0, hz0, hz1, hz2⟩ := info_parts info_dot
  simp only [tval, cval] at *
  have hky := fun w => in_any key 0 49 w
  go_enter Try.func46, Try.ntmps46
  go_wp2_with fail
  refine (HTC.out _ (by (repeat' (first | (with_reducible exact Below.refl _ _) | (with_reducible assumption) | (with_reducible refine below_drewN ?_ _) | (with_reducible refine Below.drew ?_) | (with_reducible refine Below.alloc ?_ ?_ _) | (with_reducible refine Below.setCell ?_ ?_ _) | (refine Below.trans ?_ (Below.mono (by assumption) ?_)) | go_size)))).mono ?_
  rintro e w1 ⟨rfl, hb1⟩
  have HBW := hid (show Below w.heap.size w w1 from (by refine Below.step' ?_ hb1; (repeat' (first | (with_reducible exact Below.refl _ _) | (with_reducible assumption) | (with_reducible refine below_drewN ?_ _) | (with_reducible refine Below.drew ?_) | (with_reducible refine Below.alloc ?_ ?_ _) | (with_reducible refine Below.setCell ?_ ?_ _) | (refine Below.trans ?_ (Below.mono (by assumption) ?_)) | go_size))))
  have HXT := hid (Blk.step (w := _) (b := w.heap.size) (cs := #[.int .i64 c0, .int .i64 c1, .int .i64 c2, .int .i64 c3, .slice A cl.length k, .slice B l.length m]) (T := 59) (by exact (Blk.new w _ _).alloc _) hb1)
  have HXR := hid (Blk.step (w := _) (b := w.heap.size + 1) (cs := #[.int .i64 0, .int .i64 0, .int .i64 0, .int .i64 0, .slice none 0 0, .slice none 0 0]) (T := 59) (by exact Blk.new' (w.alloc _) _ _ (by simp)) hb1)
  clear hb1
  by_cases qT : T = 0
  rotate_left
  · have t1 : (T != 0) = true := by simpa using qT
    have E1 : Hid (R = zT) := hid (HX1.out (.inl qT))
    have E2 : Hid (RE = T) := hid (by have e := HE.out; rw [if_pos qT] at e; exact e)
    clear qT
    have hR := HXR.out
    obtain ⟨⟨r0, r1, r2, r3, r4, r5⟩, f0, f1, f2, f3, f4, f5⟩ := hR.six
    have HR6 := hid (Blk.set6 hR (.int .i64 0) (.int .i64 0) (.int .i64 0) (.int .i64 0) (.slice none 0 0) (.slice none 0 0))
    have HB6 := hid (Below.set6 HBW.out (show w.heap.size ≤ w.heap.size + 1 by omega) (.int .i64 0) (.int .i64 0) (.int .i64 0) (.int .i64 0) (.slice none 0 0) (.slice none 0 0))
    clear hR
    go_wp2
    obtain ⟨⟨q0, q1, q2, q3, q4, q5⟩, -⟩ := HR6.out.six
    exact bodyPost_ret (v := .tuple #[tval zT none 0 none 0, .int .i64 T]) (by simp [results, Try.results46, go_sem, q0, q1, q2, q3, q4, q5, zT]) rfl ⟨none, 0, none, 0, by rw [E1.out, E2.out], by rw [E1.out]; exact Row.nil, by rw [E1.out]; exact Row.nil, HB6.out, newAt_none _, newAt_none _⟩
  · subst qT
    obtain ⟨hp1, hp2, hp3⟩ := HP.out (by first | rfl | trivial)
    have HP2 := hid hp2
    try simp only at hp3
    clear hp2 HP
    cases qa : inB key 0 49
    · have E1 : Hid (R = zT) := hid (HX1.out (.inr (.inl qa)))
      have E2 : Hid (RE = 1) := hid (by have e := HE.out; rw [if_neg (by simp), if_pos qa] at e; exact e)
      rw [qa] at hky
      have HKY := hid hky
      clear hky
      go_wp2_with fail
      refine (HKY.out _).mono ?_
      rintro e w2 ⟨rfl, rfl⟩
      have hR := HXR.out
      obtain ⟨⟨r0, r1, r2, r3, r4, r5⟩, f0, f1, f2, f3, f4, f5⟩ := hR.six
      have HR6 := hid (Blk.set6 hR (.int .i64 0) (.int .i64 0) (.int .i64 0) (.int .i64 0) (.slice none 0 0) (.slice none 0 0))
      have HB6 := hid (Below.set6 HBW.out (show w.heap.size ≤ w.heap.size + 1 by omega) (.int .i64 0) (.int .i64 0) (.int .i64 0) (.int .i64 0) (.slice none 0 0) (.slice none 0 0))
      clear hR
      go_wp2
      obtain ⟨⟨q0, q1, q2, q3, q4, q5⟩, -⟩ := HR6.out.six
      exact bodyPost_ret (v := .tuple #[tval zT none 0 none 0, .int .i64 1]) (by simp [results, Try.results46, go_sem, q0, q1, q2, q3, q4, q5, zT]) rfl ⟨none, 0, none, 0, by rw [E1.out, E2.out], by rw [E1.out]; exact Row.nil, by rw [E1.out]; exact Row.nil, HB6.out, newAt_none _, newAt_none _⟩
    · rw [qa] at hky
      have HKY := hid hky
      have HQA := hid qa
      clear hky qa
      go_wp2_with fail
      refine (HKY.out _).mono ?_
      rintro e w2 ⟨rfl, rfl⟩
      go_wp2
      have hlx := HXR.out.lt
      have hs1 := HBW.out.size
      go_loopw [7, 8] (fun s7 s8 wr => ∃ i : Nat, i ≤ l.length ∧ s8 = .int .i64 i ∧ wr.ownsRow w1.heap.size 27 2 s7 (((l.take i).filter (atK key)).map Cel.d).length (dcells (((l.take i).filter (atK key)).map Cel.d)) ∧ Below w1.heap.size w1 wr) (fun _ s8 _ => l.length - (intOf s8).toNat)
      case atStart => exact ⟨0, by omega, rfl, by simpa using World.ownsRow_nil _ _ _ _, Below.refl _ _⟩
      case round =>
        obtain ⟨i, hi, rfl, hown, hbw⟩ := hrel
        have hst : ∀ hj : i < l.length, ((l.take (i + 1)).filter (atK key)).map Cel.d = ((l.take i).filter (atK key)).map Cel.d ++ (if atK key l[i] = true then [l[i].d] else []) := by
          intro hj
          rw [List.take_succ_eq_append_getElem hj, List.filter_append, List.map_append, List.filter_cons, List.filter_nil]
          split <;> simp
        have hol : (((l.take i).filter (atK key)).map Cel.d).length ≤ 400 := by
          have := List.length_filter_le (atK key) (l.take i)
          rw [List.length_take] at this
          rw [List.length_map]
          omega
        have hfin : ¬ i < l.length → ((l.take i).filter (atK key)).map Cel.d = G := fun h => by rw [HGD.out, List.take_of_length_le (by omega)]
        obtain ⟨O, hO⟩ : ∃ O, O = ((l.take i).filter (atK key)).map Cel.d := ⟨_, rfl⟩
        rw [← hO] at hown hst hol hfin
        clear hO
        obtain ⟨A8, c8, rfl⟩ := own_formS hown
        have hB := Below.step' HBW.out hbw
        have HOWN := hid hown
        have HB1 := hid hbw
        have HBB := hid hB
        have HFIN := hid hfin
        have HXT2 := hid (HXT.out.step hbw)
        have HXR2 := hid (HXR.out.step hbw)
        clear hown hbw hB hfin
        obtain ⟨cHXT2, fHXT2, sHXT2, nHXT2⟩ := HXT2.out.all
        try simp only [cbox] at cHXT2
        by_cases hlt : i < l.length
        · obtain ⟨b, off, hA, hb, e0, e1, e2, e3, e4⟩ := (RB.out wr HBB.out).cel hlt
          subst hA
          have HST := hid (hst hlt)
          clear hst
          generalize l[i] = x at *
          obtain ⟨⟨d0, d1⟩, ky, co, vl⟩ := x
          simp only at e0 e1 e2 e3 e4
          have hneb : (b = wr.heap.size) = False := by simp; omega
          have hsw := HB1.out.size
          cases q1 : (ky == key)
          · have HQ := hid (show atK key ⟨(d0, d1), ky, co, vl⟩ = false from q1)
            go_wp2
            go_roundw
            case rel => exact ⟨i + 1, by omega, by go_num, by rw [HST.out, HQ.out, if_neg (by simp), List.append_nil]; exact HOWN.out, HB1.out⟩
            case measure => simp [intOf]; omega
          · have HQ := hid (show atK key ⟨(d0, d1), ky, co, vl⟩ = true from q1)
            go_wp2_with (at_builtin; refine wpList_append_own _ rfl _ _ 23 rfl w1.heap.size 27 i0 _ 2 16 Try.underlying23 hi0 hz0 hz1 hz2 rfl (by decide) _ _ _ rfl (HOWN.out.alloc _) ⟨wr.heap.size, 0, none⟩ 1 1 (dcells [(d0, d1)]) rfl rfl (news_new wr _ _ _ _ rfl) (dcells_one _) ?_ ?_ ?_ ?_; rotate_right; intro v6 w6 hown6 hg6 hif6; clear hif6; rotate_left; (simp only [maxLen]; omega); (omega); (simp; omega))
            go_roundw
            case rel =>
              refine ⟨i + 1, by omega, by go_num, ?_, (HB1.out.alloc HB1.out.size _).grown hg6 (by simp; omega) (fun g e => (HOWN.out.lt g e).1)⟩
              rw [HST.out, HQ.out, if_pos rfl]
              simpa [dcells] using hown6
            case measure => simp [intOf]; omega
        · have hfin := HFIN.out hlt
          rw [hfin] at HOWN hol ⊢
          have hsw := HB1.out.size
          have hrow := Row.of_own HOWN.out
          replace HBW := hid (Below.step' HBW.out HB1.out)
          clear hst HFIN hfin
          by_cases qg : G = []
          · have E1 : Hid (R = zT) := hid (HX1.out (.inr (.inr qg)))
            have E2 : Hid (RE = 4) := hid (by have e := HE.out; rw [if_neg (by simp), if_neg (by simp [HQA.out]), if_pos qg] at e; exact e)
            have t1 : ((G.length : Int) == 0) = true := by simp [qg]
            clear qg hrow
            have hR := HXR2.out
            obtain ⟨⟨r0, r1, r2, r3, r4, r5⟩, f0, f1, f2, f3, f4, f5⟩ := hR.six
            have HR6 := hid (Blk.set6 hR (.int .i64 0) (.int .i64 0) (.int .i64 0) (.int .i64 0) (.slice none 0 0) (.slice none 0 0))
            have HB6 := hid (Below.set6 HBW.out (show w.heap.size ≤ w.heap.size + 1 by omega) (.int .i64 0) (.int .i64 0) (.int .i64 0) (.int .i64 0) (.slice none 0 0) (.slice none 0 0))
            clear hR
            go_wp2
            obtain ⟨⟨q0, q1, q2, q3, q4, q5⟩, -⟩ := HR6.out.six
            exact bodyPost_ret (v := .tuple #[tval zT none 0 none 0, .int .i64 4]) (by simp [results, Try.results46, go_sem, q0, q1, q2, q3, q4, q5, zT]) rfl ⟨none, 0, none, 0, by rw [E1.out, E2.out], by rw [E1.out]; exact Row.nil, by rw [E1.out]; exact Row.nil, HB6.out, newAt_none _, newAt_none _⟩
          · have hpos : 0 < G.length := List.length_pos_iff.2 qg
            have t1 : ((G.length : Int) == 0) = false := by simp only [beq_eq_false_iff_ne, ne_eq]; omega
            have E1 := hid (HX2.out (by first | rfl | trivial) HQA.out qg)
            have E2 : Hid (RE = 0) := hid (by have e := HE.out; rw [if_neg (by simp), if_neg (by simp [HQA.out]), if_neg qg] at e; exact e)
            have HPK := hid (Rpacked_any 0 0 0 0 G A8 c8 wr hrow (by omega) (by simp [clkIn]) HP2.out)
            clear qg hrow
            have hlx2 := HXR2.out.lt
            have hs3 := HBW.out.size
            go_wp2_with fail
            refine HPK.out.mono ?_
            rintro e w7 ⟨A7, k7, rfl, hr7, hb7, hn7⟩
            replace HXR2 := hid (HXR2.out.step hb7)
            replace HBW := hid (Below.step' HBW.out hb7)
            have HR7 := hid hr7
            have HN7 := hid hn7
            clear hr7 hb7 hn7 HPK
            obtain ⟨X7, hX7⟩ : ∃ X7, X7 = packL 0 0 0 0 G := ⟨_, rfl⟩
            rw [← hX7] at E1 HR7 ⊢
            clear hX7
            simp only [cval]
            have hR := HXR2.out
            obtain ⟨⟨r0, r1, r2, r3, r4, r5⟩, f0, f1, f2, f3, f4, f5⟩ := hR.six
            have HR6 := hid (Blk.set6 hR (.int .i64 X7.c0) (.int .i64 X7.c1) (.int .i64 X7.c2) (.int .i64 X7.c3) (.slice A7 X7.cloud.length k7) (.slice none 0 0))
            have HB6 := hid (Below.set6 HBW.out (show w.heap.size ≤ w.heap.size + 1 by omega) (.int .i64 X7.c0) (.int .i64 X7.c1) (.int .i64 X7.c2) (.int .i64 X7.c3) (.slice A7 X7.cloud.length k7) (.slice none 0 0))
            have HROW := hid (Row.set6 HR7.out HN7.out (show w.heap.size + 1 < wr.heap.size by omega) (.int .i64 X7.c0) (.int .i64 X7.c1) (.int .i64 X7.c2) (.int .i64 X7.c3) (.slice A7 X7.cloud.length k7) (.slice none 0 0))
            clear hR
            have bt := fun w => build_tab0 X7.c0 X7.c1 X7.c2 X7.c3 A7 X7.cloud.length k7 w
            have HQ := hid HR6.out.six.1
            go_wp2_with (refine bodyPost_ret (v := .tuple #[tval ⟨X7, []⟩ A7 k7 none 0, .int .i64 0]) ?h1 rfl ?h2)
            case h1 =>
              obtain ⟨q0, q1, q2, q3, q4, q5⟩ := HQ.out
              simp [results, Try.results46, go_sem, q0, q1, q2, q3, q4, q5]
            case h2 =>
              exact ⟨A7, k7, none, 0, by rw [E1.out, E2.out], by rw [E1.out]; exact HROW.out, by rw [E1.out]; exact Row.nil,
                HB6.out, fun b off q e => Nat.le_trans hs3 (HN7.out b off q e), newAt_none _⟩
end Go.Proofs.Ytogegnikpjcpdaa
/- viewref.Put. -/
namespace Go.Proofs.Ytogegnikpjcpdaa
set_option linter.unusedVariables false
open Go.ChangeShapes Go.WideShapes Go.ChangeAt Go.RowKit

theorem maxS_at (i : Int) : ∀ (l : List (Int × Int)) (m : Int), m ≤ l.foldl (stepS i) m := by
  intro l
  induction l with
  | nil => intro m; exact Int.le_refl _
  | cons x l ih =>
    intro m
    exact Int.le_trans (stepS_le i m x) (ih _)
theorem next_right {c : Ctx} {i : Int} (h : nextE c i = 0) : rightB (nextD c i).1 (nextD c i).2 = true := by
  unfold nextE at h
  by_cases h1 : checkI c ≠ 0
  · rw [if_pos h1] at h; exact absurd h h1
  · rw [if_neg h1] at h
    by_cases h2 : inB i 0 3 = false
    · rw [if_pos h2] at h; cases h
    · rw [if_neg h2] at h
      unfold rnextE at h
      have e : nextD c i = rnextD c i := by unfold nextD; rw [if_neg h1, if_neg h2]
      by_cases h3 : 1099511627776 ≤ maxS c i
      · rw [if_pos h3] at h; cases h
      · rw [e, rnextD, if_neg h3]
        have hin : 0 ≤ i ∧ i ≤ 3 := by simpa [inB] using h2
        have h0 := (at_in (checkI_zero (by simpa using h1)).1 i).1
        have g2 : c.at_ i ≤ maxS c i := maxS_at i c.cloud (c.at_ i)
        simp only [rightB, Bool.and_eq_true, decide_eq_true_eq]
        omega
theorem next_R {c : Ctx} {i : Int} (h : checkI c = 0) (hi : inB i 0 3 = true) : nextD c i = rnextD c i ∧ nextE c i = rnextE c i := by
  unfold nextD nextE
  rw [if_neg (by simp [h]), if_neg (by simp [hi]), if_neg (by simp [h]), if_neg (by simp [hi])]
  exact ⟨rfl, rfl⟩
theorem put_pack {t : Tab} {n key col val : Int} (h : tabI t = 0) (hn : nextE t.c n = 0) {L : List (Int × Int)} (hL : L = nextD t.c n :: (t.cells.filter (atKC key col)).map Cel.d) :
    (∀ d ∈ L, rightB d.1 d.2 = true) ∧ L.length ≤ 401 ∧ ctxX (putL t key col (nextD t.c n)) = (if 400 < (packL 0 0 0 0 L).cloud.length then ⟨0, 0, 0, 0, []⟩ else packL 0 0 0 0 L) ∧
    ctxE (putL t key col (nextD t.c n)) = (if 400 < (packL 0 0 0 0 L).cloud.length then 2 else 0) := by
  subst hL
  have hr : ∀ d ∈ nextD t.c n :: (t.cells.filter (atKC key col)).map Cel.d, rightB d.1 d.2 = true := by
    intro d hd
    rcases List.mem_cons.1 hd with rfl | hd
    · exact next_right hn
    · obtain ⟨x, hx, rfl⟩ := List.mem_map.1 hd
      exact cel_right h x (List.mem_filter.1 hx).1
  have hm : ∀ d, d ∈ putL t key col (nextD t.c n) ↔ d ∈ nextD t.c n :: (t.cells.filter (atKC key col)).map Cel.d := by
    intro d
    unfold putL
    rw [List.mem_append, List.mem_singleton, List.mem_cons, or_comm]
  have hlen : ((t.cells.filter (atKC key col)).map Cel.d).length ≤ 400 := by
    rw [List.length_map]
    exact Nat.le_trans (List.length_filter_le _ _) (tabI_zero h).2.1
  have hp := pack_same hr fun d => (hm d).symm
  obtain ⟨h1, h2⟩ := ctx_pack (l := putL t key col (nextD t.c n)) (by unfold putL; simp only [List.length_append, List.length_singleton]; omega) (fun d hd => hr d ((hm d).1 hd))
  refine ⟨hr, by simp only [List.length_cons]; omega, ?_, ?_⟩
  · rw [h1, hp]
  · rw [h2, hp]

set_option maxHeartbeats 1600000 in
set_option maxRecDepth 100000 in
theorem Rput_any (t : Tab) (n key col val : Int) (A : Option Addr) (k : Nat) (B : Option Addr) (m : Nat) (w : World) (ra : Row w w.heap.size A (dcells t.c.cloud)) (la : t.c.cloud.length ≤ 9223372036854775807)
    (rb : Row w w.heap.size B (tcells t.cells)) (lb : t.cells.length ≤ 4398046511104) :
    Calls Try.prog 44 #[tval t A k B m, .int .i64 n, .int .i64 key, .int .i64 col, .int .i64 val] w (TabErr (putX t n key col val) (putE t n key col val) w) := by
  have HTC := hid (fun w1 (hb : Below w.heap.size w w1) => rtable_any t A k B m w1 (ra.step hb) la (rb.step hb) (by omega))
  have HNX : Hid (tabI t = 0 → inB n 0 3 = true → ∀ w1, Below w.heap.size w w1 → Calls Try.prog 22 #[cval t.c A k, .int .i64 n] w1 (DotErr (nextD t.c n) (nextE t.c n) w1)) := hid (fun h h2 w1 hb => by
    have hc := (tabI_zero h).1
    have h4 : 0 ≤ n ∧ n ≤ 3 := by simpa [inB] using h2
    rw [(next_R hc h2).1, (next_R hc h2).2]
    exact Rnext_any t.c n A k w1 (ra.step hb) la (checkI_zero hc).1 (by omega) (by omega))
  have RB := hid (fun w1 (hb : Below w.heap.size w w1) => rb.step hb)
  obtain ⟨L, hL⟩ : ∃ L, L = nextD t.c n :: (t.cells.filter (atKC key col)).map Cel.d := ⟨_, rfl⟩
  have hX1 : (tabI t ≠ 0 ∨ argOk n key col val = false ∨ nextE t.c n ≠ 0) → putX t n key col val = zT := fun h => by unfold putX; rw [if_pos (h.imp_right fun h => h.imp_right .inl)]
  have hX2 : tabI t = 0 → argOk n key col val = true → nextE t.c n = 0 → ¬ 400 < (packL 0 0 0 0 L).cloud.length → putX t n key col val = ⟨packL 0 0 0 0 L, [⟨nextD t.c n, key, col, val⟩]⟩ := fun h1 h2 h3 h4 => by
    obtain ⟨-, -, p1, p2⟩ := put_pack (val := val) h1 h3 hL
    rw [if_neg h4] at p1 p2
    unfold putX; rw [if_neg (by simp [h1, h2, h3, p2]), p1]
  have hX3 : tabI t = 0 → argOk n key col val = true → nextE t.c n = 0 → 400 < (packL 0 0 0 0 L).cloud.length → putX t n key col val = zT ∧ putE t n key col val = 2 := fun h1 h2 h3 h4 => by
    obtain ⟨-, -, p1, p2⟩ := put_pack (val := val) h1 h3 hL
    rw [if_pos h4] at p1 p2
    unfold putX putE; rw [if_pos (by simp [p2]), if_neg (by simp [h1]), if_neg (by simp [h2]), if_neg (by simp [h3]), p2]; exact ⟨rfl, rfl⟩
  have hE : putE t n key col val = if tabI t ≠ 0 then tabI t else if argOk n key col val = false then 1 else if nextE t.c n ≠ 0 then nextE t.c n else if 400 < (packL 0 0 0 0 L).cloud.length then 2 else 0 := by
    unfold putE
    by_cases h1 : tabI t ≠ 0
    · rw [if_pos h1, if_pos h1]
    · rw [if_neg h1, if_neg h1]
      by_cases h2 : argOk n key col val = false
      · rw [if_pos h2, if_pos h2]
      · rw [if_neg h2, if_neg h2]
        by_cases h3 : nextE t.c n ≠ 0
        · rw [if_pos h3, if_pos h3]
        · rw [if_neg h3, if_neg h3]
          exact (put_pack (val := val) (by simpa using h1) (by simpa using h3) hL).2.2.2
  have hP : tabI t = 0 → nextE t.c n = 0 → L.length ≤ 401 ∧ (∀ d ∈ L, rightB d.1 d.2 = true) := fun h h3 => by
    obtain ⟨p1, p2, -⟩ := put_pack (val := val) h h3 hL
    exact ⟨p2, p1⟩
  have hP2 : tabI t = 0 → t.cells.length ≤ 400 := fun h => (tabI_zero h).2.1
  obtain ⟨R, hR⟩ : ∃ R, R = putX t n key col val := ⟨_, rfl⟩
  obtain ⟨RE, hRE⟩ : ∃ RE, RE = putE t n key col val := ⟨_, rfl⟩
  rw [← hR, ← hRE]
  rw [← hR] at hX1 hX2 hX3
  rw [← hRE] at hE hX3
  clear hR hRE
  obtain ⟨D, hD⟩ : ∃ D, D = nextD t.c n := ⟨_, rfl⟩
  obtain ⟨NE, hNE⟩ : ∃ NE, NE = nextE t.c n := ⟨_, rfl⟩
  rw [← hD, ← hNE] at HNX
  rw [← hD] at hX2 hL
  rw [← hNE] at hX1 hX2 hX3 hE hP
  clear hD hNE
  obtain ⟨T, hT⟩ : ∃ T, T = tabI t := ⟨_, rfl⟩
  rw [← hT] at HTC hX1 hX2 hX3 hE hP hP2 HNX
  clear hT
  have HX1 := hid hX1
  have HX2 := hid hX2
  have HX3 := hid hX3
  have HE := hid hE
  have HP := hid hP
  have HP2 := hid hP2
  have HGD := hid hL
  clear hX1 hX2 hX3 hE hP hP2 hL ra rb
  obtain ⟨⟨c0, c1, c2, c3, cl⟩, l⟩ := t
  obtain ⟨i0, hi0, hz0, hz1, hz2⟩ := info_parts info_dot
  simp only [tval, cval] at *
  have hwn := fun w => in_any n 0 3 w
  have hky := fun w => in_any key 0 49 w
  have hco := fun w => in_any col 0 2 w
  have hva := fun w => in_any val (-1000) 1000 w
  go_enter Try.func44, Try.ntmps44
  go_wp2_with fail
  refine (HTC.out _ (by (repeat' (first | (with_reducible exact Below.refl _ _) | (with_reducible assumption) | (with_reducible refine below_drewN ?_ _) | (with_reducible refine Below.drew ?_) | (with_reducible refine Below.alloc ?_ ?_ _) | (with_reducible refine Below.setCell ?_ ?_ _) | (refine Below.trans ?_ (Below.mono (by assumption) ?_)) | go_size)))).mono ?_
  rintro e w1 ⟨rfl, hb1⟩
  have HBW := hid (show Below w.heap.size w w1 from (by refine Below.step' ?_ hb1; (repeat' (first | (with_reducible exact Below.refl _ _) | (with_reducible assumption) | (with_reducible refine below_drewN ?_ _) | (with_reducible refine Below.drew ?_) | (with_reducible refine Below.alloc ?_ ?_ _) | (with_reducible refine Below.setCell ?_ ?_ _) | (refine Below.trans ?_ (Below.mono (by assumption) ?_)) | go_size))))
  have HXT := hid (Blk.step (w := _) (b := w.heap.size) (cs := #[.int .i64 c0, .int .i64 c1, .int .i64 c2, .int .i64 c3, .slice A cl.length k, .slice B l.length m]) (T := 59) (by exact (Blk.new w _ _).alloc _) hb1)
  have HXR := hid (Blk.step (w := _) (b := w.heap.size + 1) (cs := #[.int .i64 0, .int .i64 0, .int .i64 0, .int .i64 0, .slice none 0 0, .slice none 0 0]) (T := 59) (by exact Blk.new' (w.alloc _) _ _ (by simp)) hb1)
  clear hb1
  have hs := HBW.out.size
  by_cases qT : T = 0
  rotate_left
  · have t1 : (T != 0) = true := by simpa using qT
    have E1 : Hid (R = zT) := hid (HX1.out (.inl qT))
    have E2 : Hid (RE = T) := hid (by have e := HE.out; rw [if_pos qT] at e; exact e)
    clear qT
    have hR := HXR.out
    obtain ⟨⟨r0, r1, r2, r3, r4, r5⟩, f0, f1, f2, f3, f4, f5⟩ := hR.six
    have HR6 := hid (Blk.set6 hR (.int .i64 0) (.int .i64 0) (.int .i64 0) (.int .i64 0) (.slice none 0 0) (.slice none 0 0))
    have HB6 := hid (Below.set6 HBW.out (show w.heap.size ≤ w.heap.size + 1 by omega) (.int .i64 0) (.int .i64 0) (.int .i64 0) (.int .i64 0) (.slice none 0 0) (.slice none 0 0))
    clear hR
    go_wp2
    obtain ⟨⟨q0, q1, q2, q3, q4, q5⟩, -⟩ := HR6.out.six
    exact bodyPost_ret (v := .tuple #[tval zT none 0 none 0, .int .i64 T]) (by simp [results, Try.results44, go_sem, q0, q1, q2, q3, q4, q5, zT]) rfl ⟨none, 0, none, 0, by rw [E1.out, E2.out], by rw [E1.out]; exact Row.nil, by rw [E1.out]; exact Row.nil, HB6.out, newAt_none _, newAt_none _⟩
  · subst qT
    have hp2 := HP2.out (by first | rfl | trivial)
    try simp only at hp2
    clear HP2
    cases q0 : inB n 0 3
    · have qa : argOk n key col val = false := by unfold argOk; rw [q0]; simp
      have E1 : Hid (R = zT) := hid (HX1.out (.inr (.inl qa)))
      have E2 : Hid (RE = 1) := hid (by have e := HE.out; rw [if_neg (by simp), if_pos qa] at e; exact e)
      rw [q0] at hwn
      have HWN := hid hwn
      clear qa hwn hky hco hva q0
      go_wp2_with fail
      refine (HWN.out _).mono ?_
      rintro e w2 ⟨rfl, rfl⟩
      have hR := HXR.out
      obtain ⟨⟨r0, r1, r2, r3, r4, r5⟩, f0, f1, f2, f3, f4, f5⟩ := hR.six
      have HR6 := hid (Blk.set6 hR (.int .i64 0) (.int .i64 0) (.int .i64 0) (.int .i64 0) (.slice none 0 0) (.slice none 0 0))
      have HB6 := hid (Below.set6 HBW.out (show w.heap.size ≤ w.heap.size + 1 by omega) (.int .i64 0) (.int .i64 0) (.int .i64 0) (.int .i64 0) (.slice none 0 0) (.slice none 0 0))
      clear hR
      go_wp2
      obtain ⟨⟨q0, q1, q2, q3, q4, q5⟩, -⟩ := HR6.out.six
      exact bodyPost_ret (v := .tuple #[tval zT none 0 none 0, .int .i64 1]) (by simp [results, Try.results44, go_sem, q0, q1, q2, q3, q4, q5, zT]) rfl ⟨none, 0, none, 0, by rw [E1.out, E2.out], by rw [E1.out]; exact Row.nil, by rw [E1.out]; exact Row.nil, HB6.out, newAt_none _, newAt_none _⟩
    · skip
      cases q1 : inB key 0 49
      · have qa : argOk n key col val = false := by unfold argOk; rw [q1]; simp
        have E1 : Hid (R = zT) := hid (HX1.out (.inr (.inl qa)))
        have E2 : Hid (RE = 1) := hid (by have e := HE.out; rw [if_neg (by simp), if_pos qa] at e; exact e)
        rw [q0] at hwn
        have HWN := hid hwn
        rw [q1] at hky
        have HKY := hid hky
        clear qa hwn hky hco hva q0 q1
        go_wp2_with fail
        refine (HWN.out _).mono ?_
        rintro e w2 ⟨rfl, rfl⟩
        go_wp2_with fail
        refine (HKY.out _).mono ?_
        rintro e w2 ⟨rfl, rfl⟩
        have hR := HXR.out
        obtain ⟨⟨r0, r1, r2, r3, r4, r5⟩, f0, f1, f2, f3, f4, f5⟩ := hR.six
        have HR6 := hid (Blk.set6 hR (.int .i64 0) (.int .i64 0) (.int .i64 0) (.int .i64 0) (.slice none 0 0) (.slice none 0 0))
        have HB6 := hid (Below.set6 HBW.out (show w.heap.size ≤ w.heap.size + 1 by omega) (.int .i64 0) (.int .i64 0) (.int .i64 0) (.int .i64 0) (.slice none 0 0) (.slice none 0 0))
        clear hR
        go_wp2
        obtain ⟨⟨q0, q1, q2, q3, q4, q5⟩, -⟩ := HR6.out.six
        exact bodyPost_ret (v := .tuple #[tval zT none 0 none 0, .int .i64 1]) (by simp [results, Try.results44, go_sem, q0, q1, q2, q3, q4, q5, zT]) rfl ⟨none, 0, none, 0, by rw [E1.out, E2.out], by rw [E1.out]; exact Row.nil, by rw [E1.out]; exact Row.nil, HB6.out, newAt_none _, newAt_none _⟩
      · skip
        cases q2 : inB col 0 2
        · have qa : argOk n key col val = false := by unfold argOk; rw [q2]; simp
          have E1 : Hid (R = zT) := hid (HX1.out (.inr (.inl qa)))
          have E2 : Hid (RE = 1) := hid (by have e := HE.out; rw [if_neg (by simp), if_pos qa] at e; exact e)
          rw [q0] at hwn
          have HWN := hid hwn
          rw [q1] at hky
          have HKY := hid hky
          rw [q2] at hco
          have HCO := hid hco
          clear qa hwn hky hco hva q0 q1 q2
          go_wp2_with fail
          refine (HWN.out _).mono ?_
          rintro e w2 ⟨rfl, rfl⟩
          go_wp2_with fail
          refine (HKY.out _).mono ?_
          rintro e w2 ⟨rfl, rfl⟩
          go_wp2_with fail
          refine (HCO.out _).mono ?_
          rintro e w2 ⟨rfl, rfl⟩
          have hR := HXR.out
          obtain ⟨⟨r0, r1, r2, r3, r4, r5⟩, f0, f1, f2, f3, f4, f5⟩ := hR.six
          have HR6 := hid (Blk.set6 hR (.int .i64 0) (.int .i64 0) (.int .i64 0) (.int .i64 0) (.slice none 0 0) (.slice none 0 0))
          have HB6 := hid (Below.set6 HBW.out (show w.heap.size ≤ w.heap.size + 1 by omega) (.int .i64 0) (.int .i64 0) (.int .i64 0) (.int .i64 0) (.slice none 0 0) (.slice none 0 0))
          clear hR
          go_wp2
          obtain ⟨⟨q0, q1, q2, q3, q4, q5⟩, -⟩ := HR6.out.six
          exact bodyPost_ret (v := .tuple #[tval zT none 0 none 0, .int .i64 1]) (by simp [results, Try.results44, go_sem, q0, q1, q2, q3, q4, q5, zT]) rfl ⟨none, 0, none, 0, by rw [E1.out, E2.out], by rw [E1.out]; exact Row.nil, by rw [E1.out]; exact Row.nil, HB6.out, newAt_none _, newAt_none _⟩
        · skip
          cases q3 : inB val (-1000) 1000
          · have qa : argOk n key col val = false := by unfold argOk; rw [q3]; simp
            have E1 : Hid (R = zT) := hid (HX1.out (.inr (.inl qa)))
            have E2 : Hid (RE = 1) := hid (by have e := HE.out; rw [if_neg (by simp), if_pos qa] at e; exact e)
            rw [q0] at hwn
            have HWN := hid hwn
            rw [q1] at hky
            have HKY := hid hky
            rw [q2] at hco
            have HCO := hid hco
            rw [q3] at hva
            have HVA := hid hva
            clear qa hwn hky hco hva q0 q1 q2 q3
            go_wp2_with fail
            refine (HWN.out _).mono ?_
            rintro e w2 ⟨rfl, rfl⟩
            go_wp2_with fail
            refine (HKY.out _).mono ?_
            rintro e w2 ⟨rfl, rfl⟩
            go_wp2_with fail
            refine (HCO.out _).mono ?_
            rintro e w2 ⟨rfl, rfl⟩
            go_wp2_with fail
            refine (HVA.out _).mono ?_
            rintro e w2 ⟨rfl, rfl⟩
            have hR := HXR.out
            obtain ⟨⟨r0, r1, r2, r3, r4, r5⟩, f0, f1, f2, f3, f4, f5⟩ := hR.six
            have HR6 := hid (Blk.set6 hR (.int .i64 0) (.int .i64 0) (.int .i64 0) (.int .i64 0) (.slice none 0 0) (.slice none 0 0))
            have HB6 := hid (Below.set6 HBW.out (show w.heap.size ≤ w.heap.size + 1 by omega) (.int .i64 0) (.int .i64 0) (.int .i64 0) (.int .i64 0) (.slice none 0 0) (.slice none 0 0))
            clear hR
            go_wp2
            obtain ⟨⟨q0, q1, q2, q3, q4, q5⟩, -⟩ := HR6.out.six
            exact bodyPost_ret (v := .tuple #[tval zT none 0 none 0, .int .i64 1]) (by simp [results, Try.results44, go_sem, q0, q1, q2, q3, q4, q5, zT]) rfl ⟨none, 0, none, 0, by rw [E1.out, E2.out], by rw [E1.out]; exact Row.nil, by rw [E1.out]; exact Row.nil, HB6.out, newAt_none _, newAt_none _⟩
          · skip
            have qa : argOk n key col val = true := by unfold argOk; rw [q0, q1, q2, q3]; rfl
            have HNX2 := hid (HNX.out (by first | rfl | trivial) q0)
            rw [q0] at hwn
            have HWN := hid hwn
            rw [q1] at hky
            have HKY := hid hky
            rw [q2] at hco
            have HCO := hid hco
            rw [q3] at hva
            have HVA := hid hva
            have HQA := hid qa
            clear qa hwn hky hco hva q0 q1 q2 q3 HNX
            go_wp2_with fail
            refine (HWN.out _).mono ?_
            rintro e w2 ⟨rfl, rfl⟩
            go_wp2_with fail
            refine (HKY.out _).mono ?_
            rintro e w2 ⟨rfl, rfl⟩
            go_wp2_with fail
            refine (HCO.out _).mono ?_
            rintro e w2 ⟨rfl, rfl⟩
            go_wp2_with fail
            refine (HVA.out _).mono ?_
            rintro e w2 ⟨rfl, rfl⟩

            obtain ⟨cHXT, fHXT, sHXT, nHXT⟩ := HXT.out.all
            try simp only [cbox] at cHXT
            go_wp2_with fail
            refine (HNX2.out _ HBW.out).mono ?_
            rintro e w2 ⟨rfl, hb2⟩
            clear cHXT fHXT sHXT nHXT
            replace HXT := hid (HXT.out.step hb2)
            replace HXR := hid (HXR.out.step hb2)
            replace HBW := hid (Below.step' HBW.out hb2)
            clear hb2
            obtain ⟨D0, D1⟩ := D
            simp only [dval]
            by_cases qn : NE = 0
            rotate_left
            · have t1 : (NE != 0) = true := by simpa using qn
              have E1 : Hid (R = zT) := hid (HX1.out (.inr (.inr qn)))
              have E2 : Hid (RE = NE) := hid (by have e := HE.out; rw [if_neg (by simp), if_neg (by simp [HQA.out]), if_pos qn] at e; exact e)
              clear qn
              replace HXR := hid (HXR.out.alloc (.cells #[.int .i64 D0, .int .i64 D1] 27))
              replace HBW := hid (HBW.out.alloc HBW.out.size (.cells #[.int .i64 D0, .int .i64 D1] 27))
              have hlr := HXR.out.lt
              simp only [World.size_alloc] at hlr
              obtain ⟨Wz, hWz⟩ : ∃ Wz : World, Wz = w2.alloc (.cells #[.int .i64 D0, .int .i64 D1] 27) := ⟨_, rfl⟩
              rw [← hWz] at HXR HBW
              go_upto_region 8 with fail
              rw [← hWz]
              clear hWz
              have hR := HXR.out
              obtain ⟨⟨r0, r1, r2, r3, r4, r5⟩, f0, f1, f2, f3, f4, f5⟩ := hR.six
              have HR6 := hid (Blk.set6 hR (.int .i64 0) (.int .i64 0) (.int .i64 0) (.int .i64 0) (.slice none 0 0) (.slice none 0 0))
              have HB6 := hid (Below.set6 HBW.out (show w.heap.size ≤ w.heap.size + 1 by omega) (.int .i64 0) (.int .i64 0) (.int .i64 0) (.int .i64 0) (.slice none 0 0) (.slice none 0 0))
              clear hR
              go_wp2
              obtain ⟨⟨q0, q1, q2, q3, q4, q5⟩, -⟩ := HR6.out.six
              exact bodyPost_ret (v := .tuple #[tval zT none 0 none 0, .int .i64 NE]) (by simp [results, Try.results44, go_sem, q0, q1, q2, q3, q4, q5, zT]) rfl ⟨none, 0, none, 0, by rw [E1.out, E2.out], by rw [E1.out]; exact Row.nil, by rw [E1.out]; exact Row.nil, HB6.out, newAt_none _, newAt_none _⟩
            · subst qn
              have hs2 := HBW.out.size
              have hlx := HXR.out.lt
              obtain ⟨hp, hp3⟩ := HP.out (by first | rfl | trivial) (by first | rfl | trivial)
              have HP3 := hid hp3
              clear hp3 HP
              have HXD := hid ((Blk.new w2 #[.int .i64 D0, .int .i64 D1] 27).alloc (.cells #[.int .i64 D0, .int .i64 D1] 27))
              have HOW := hid (show ((w2.alloc (.cells #[.int .i64 D0, .int .i64 D1] 27)).alloc (.cells #[.int .i64 D0, .int .i64 D1] 27)).ownsRow (w2.heap.size + 1) 27 2 (.slice (some ⟨w2.heap.size + 1, 0, none⟩) 1 1) 1 (dcells [(D0, D1)]) from
                ⟨by simp [dcells], .inr ⟨w2.heap.size + 1, 1, _, rfl, by simp, (by have h := heap_alloc_new (w2.alloc (.cells #[.int .i64 D0, .int .i64 D1] 27)) (.cells #[.int .i64 D0, .int .i64 D1] 27); rw [World.size_alloc] at h; exact h), by decide, by decide, rfl, rfl⟩⟩)
              have HBD := hid (((Below.refl w2.heap.size w2).alloc (Nat.le_refl _) (.cells #[.int .i64 D0, .int .i64 D1] 27)).alloc (by simp) (.cells #[.int .i64 D0, .int .i64 D1] 27))
              go_wp2
              go_loopw [15, 16] (fun s15 s16 wr => ∃ i : Nat, i ≤ l.length ∧ s16 = .int .i64 i ∧ wr.ownsRow (w2.heap.size + 1) 27 2 s15 ((D0, D1) :: ((l.take i).filter (atKC key col)).map Cel.d).length (dcells ((D0, D1) :: ((l.take i).filter (atKC key col)).map Cel.d)) ∧ Below w2.heap.size w2 wr ∧ Blk wr w2.heap.size #[.int .i64 D0, .int .i64 D1] 27) (fun _ s16 _ => l.length - (intOf s16).toNat)
              case atStart => exact ⟨0, by omega, rfl, HOW.out, HBD.out, HXD.out⟩
              case round =>
                obtain ⟨i, hi, rfl, hown, hbw, hxd⟩ := hrel
                clear HXD HOW HBD
                have hst : ∀ hj : i < l.length, (D0, D1) :: ((l.take (i + 1)).filter (atKC key col)).map Cel.d = ((D0, D1) :: ((l.take i).filter (atKC key col)).map Cel.d) ++ (if atKC key col l[i] = true then [l[i].d] else []) := by
                  intro hj
                  rw [List.take_succ_eq_append_getElem hj, List.filter_append, List.map_append, List.filter_cons, List.filter_nil]
                  split <;> simp
                have hol : ((D0, D1) :: ((l.take i).filter (atKC key col)).map Cel.d).length ≤ 401 := by
                  have := List.length_filter_le (atKC key col) (l.take i)
                  rw [List.length_take] at this
                  rw [List.length_cons, List.length_map]
                  omega
                have hfin : ¬ i < l.length → (D0, D1) :: ((l.take i).filter (atKC key col)).map Cel.d = L := fun h => by rw [HGD.out, List.take_of_length_le (by omega)]
                obtain ⟨O, hO⟩ : ∃ O, O = (D0, D1) :: ((l.take i).filter (atKC key col)).map Cel.d := ⟨_, rfl⟩
                rw [← hO] at hown hst hol hfin
                clear hO
                obtain ⟨A8, c8, rfl⟩ := own_form hown
                have hB := Below.step' HBW.out hbw
                have HOWN := hid hown
                have HB1 := hid hbw
                have HBB := hid hB
                have HFIN := hid hfin
                have HXD := hid hxd
                have HXT2 := hid (HXT.out.step hbw)
                have HXR2 := hid (HXR.out.step hbw)
                clear hown hbw hB hfin hxd
                obtain ⟨cHXT2, fHXT2, sHXT2, nHXT2⟩ := HXT2.out.all
                try simp only [cbox] at cHXT2
                by_cases hlt : i < l.length
                · obtain ⟨b, off, hA, hb, e0, e1, e2, e3, e4⟩ := (RB.out wr HBB.out).cel hlt
                  subst hA
                  have HST := hid (hst hlt)
                  clear hst
                  generalize l[i] = x at *
                  obtain ⟨⟨d0, d1⟩, ky, co, vl⟩ := x
                  simp only at e0 e1 e2 e3 e4
                  have hneb : (b = wr.heap.size) = False := by simp; omega
                  have hsw := HB1.out.size
                  have hlt2 := HXD.out.lt
                  cases q1 : (ky == key)
                  · have HQ := hid (show atKC key col ⟨(d0, d1), ky, co, vl⟩ = false from (show (ky == key && co == col) = false by rw [q1]; rfl))
                    go_wp2
                    go_roundw
                    case rel => exact ⟨i + 1, by omega, by go_num, by rw [HST.out, HQ.out, if_neg (by simp), List.append_nil]; exact HOWN.out, HB1.out, HXD.out⟩
                    case measure => simp [intOf]; omega
                  · cases q2 : (co == col)
                    · have HQ := hid (show atKC key col ⟨(d0, d1), ky, co, vl⟩ = false from (show (ky == key && co == col) = false by rw [q1, q2]; rfl))
                      go_wp2
                      go_roundw
                      case rel => exact ⟨i + 1, by omega, by go_num, by rw [HST.out, HQ.out, if_neg (by simp), List.append_nil]; exact HOWN.out, HB1.out, HXD.out⟩
                      case measure => simp [intOf]; omega
                    · have HQ := hid (show atKC key col ⟨(d0, d1), ky, co, vl⟩ = true from (show (ky == key && co == col) = true by rw [q1, q2]; rfl))
                      go_wp2_with (at_builtin; refine wpList_append_own _ rfl _ _ 23 rfl (w2.heap.size + 1) 27 i0 _ 2 16 Try.underlying23 hi0 hz0 hz1 hz2 rfl (by decide) _ _ _ rfl (HOWN.out.alloc _) ⟨wr.heap.size, 0, none⟩ 1 1 (dcells [(d0, d1)]) rfl rfl (news_new wr _ _ _ _ rfl) (dcells_one _) ?_ ?_ ?_ ?_; rotate_right; intro v6 w6 hown6 hg6 hif6; clear hif6; rotate_left; (simp only [maxLen]; omega); (omega); (simp; omega))
                      go_roundw
                      case rel =>
                        refine ⟨i + 1, by omega, by go_num, ?_, (HB1.out.alloc HB1.out.size _).grown hg6 (by simp; omega) (fun g e => by have := (HOWN.out.lt g e).1; omega), ?_⟩
                        · rw [HST.out, HQ.out, if_pos rfl]
                          simpa [dcells] using hown6
                        · refine (HXD.out.alloc _).thru (B := w2.heap.size + 1) ((Below.refl _ _).grown hg6 (by simp; omega) (fun g e => (HOWN.out.lt g e).1)) (by omega)
                      case measure => simp [intOf]; omega
                · have hfin := HFIN.out hlt
                  rw [hfin] at HOWN hol ⊢
                  have hsw := HB1.out.size
                  have hrow := Row.of_own HOWN.out
                  replace HBW := hid (Below.step' HBW.out HB1.out)
                  clear hst HFIN hfin
                  have HPK := hid (Rpacked_any 0 0 0 0 L A8 c8 wr hrow (by omega) (by simp [clkIn]) HP3.out)
                  clear hrow
                  have hlx2 := HXR2.out.lt
                  have hlt2 := HXD.out.lt
                  have hs3 := HBW.out.size
                  go_wp2_with fail
                  refine HPK.out.mono ?_
                  rintro e w7 ⟨A7, k7, rfl, hr7, hb7, hn7⟩
                  clear cHXT2 fHXT2 sHXT2 nHXT2
                  replace HXR2 := hid (HXR2.out.step hb7)
                  replace HXD := hid (HXD.out.step hb7)
                  have hs7 := hb7.size
                  replace HBW := hid (Below.step' HBW.out hb7)
                  have HR7 := hid hr7
                  have HN7 := hid hn7
                  clear hr7 hb7 hn7 HPK
                  obtain ⟨X7, hX7⟩ : ∃ X7, X7 = packL 0 0 0 0 L := ⟨_, rfl⟩
                  rw [← hX7] at HX2 HX3 HE HR7 ⊢
                  clear hX7
                  simp only [cval]
                  have hBz : Below w7.heap.size w7 (w7.alloc (.cells (cbox X7 A7 k7) 25)) := (Below.refl _ _).alloc (Nat.le_refl _) _
                  have HX16 := hid (Blk.new w7 (cbox X7 A7 k7) 25)
                  replace HXR2 := hid (HXR2.out.step hBz)
                  replace HXD := hid (HXD.out.step hBz)
                  replace HR7 := hid (HR7.out.step hBz)
                  replace HBW := hid (Below.step' HBW.out hBz)
                  have hsz := hBz.size
                  obtain ⟨Wz, hWz⟩ : ∃ Wz : World, Wz = w7.alloc (.cells (cbox X7 A7 k7) 25) := ⟨_, rfl⟩
                  rw [← hWz] at HXR2 HXD HR7 HBW HX16 hsz
                  simp only [cbox] at hWz
                  by_cases q7 : 400 < X7.cloud.length
                  · have t7 : decide ((400 : Int) < (X7.cloud.length : Int)) = true := by simp; omega
                    obtain ⟨E1, E2⟩ := HX3.out (by first | rfl | trivial) HQA.out (by first | rfl | trivial) q7
                    replace E1 := hid E1
                    replace E2 := hid E2
                    clear q7
                    go_upto_region 17 with fail
                    rw [← hWz]
                    clear hWz hBz
                    have hR := HXR2.out
                    obtain ⟨⟨r0, r1, r2, r3, r4, r5⟩, f0, f1, f2, f3, f4, f5⟩ := hR.six
                    have HR6 := hid (Blk.set6 hR (.int .i64 0) (.int .i64 0) (.int .i64 0) (.int .i64 0) (.slice none 0 0) (.slice none 0 0))
                    have HB6 := hid (Below.set6 HBW.out (show w.heap.size ≤ w.heap.size + 1 by omega) (.int .i64 0) (.int .i64 0) (.int .i64 0) (.int .i64 0) (.slice none 0 0) (.slice none 0 0))
                    clear hR
                    go_wp2
                    obtain ⟨⟨q0, q1, q2, q3, q4, q5⟩, -⟩ := HR6.out.six
                    exact bodyPost_ret (v := .tuple #[tval zT none 0 none 0, .int .i64 2]) (by simp [results, Try.results44, go_sem, q0, q1, q2, q3, q4, q5, zT]) rfl ⟨none, 0, none, 0, by rw [E1.out, E2.out], by rw [E1.out]; exact Row.nil, by rw [E1.out]; exact Row.nil, HB6.out, newAt_none _, newAt_none _⟩
                  · have t7 : decide ((400 : Int) < (X7.cloud.length : Int)) = false := by simp; omega
                    have E1 := hid (HX2.out (by first | rfl | trivial) HQA.out (by first | rfl | trivial) q7)
                    have E2 : Hid (RE = 0) := hid (by have e := HE.out; rw [if_neg (by simp), if_neg (by simp [HQA.out]), if_neg (by simp), if_neg q7] at e; exact e)
                    clear q7
                    go_upto_region 18 with fail
                    rw [← hWz]
                    clear hWz hBz
                    have hR := HXR2.out
                    obtain ⟨⟨r0, r1, r2, r3, r4, r5⟩, f0, f1, f2, f3, f4, f5⟩ := hR.six
                    have hrl := hR.lt
                    have nlx : (w.heap.size + 1 = Wz.heap.size) = False := by simp; omega
                    have HR6 := hid (Blk.set6 hR (.int .i64 X7.c0) (.int .i64 X7.c1) (.int .i64 X7.c2) (.int .i64 X7.c3) (.slice A7 X7.cloud.length k7) (.slice (some ⟨Wz.heap.size, 0, none⟩) 1 1))
                    have HB6 := hid (Below.set6 HBW.out (show w.heap.size ≤ w.heap.size + 1 by omega) (.int .i64 X7.c0) (.int .i64 X7.c1) (.int .i64 X7.c2) (.int .i64 X7.c3) (.slice A7 X7.cloud.length k7) (.slice (some ⟨Wz.heap.size, 0, none⟩) 1 1))
                    have HROW := hid (Row.set6 HR7.out HN7.out (show w.heap.size + 1 < wr.heap.size by omega) (.int .i64 X7.c0) (.int .i64 X7.c1) (.int .i64 X7.c2) (.int .i64 X7.c3) (.slice A7 X7.cloud.length k7) (.slice (some ⟨Wz.heap.size, 0, none⟩) 1 1))
                    clear hR
                    obtain ⟨⟨x0, x1, x2, x3, x4⟩, -⟩ := HX16.out.five
                    have y0 : Wz.cell? ⟨w2.heap.size, 0, none⟩ = some (.int .i64 D0) := (HXD.out.cells.1 0).trans rfl
                    have y1 : Wz.cell? ⟨w2.heap.size, 1, none⟩ = some (.int .i64 D1) := (HXD.out.cells.1 1).trans rfl
                    have bc := fun w => build_cel D0 D1 key col val w
                    have bt := fun B m w => build_tab X7.c0 X7.c1 X7.c2 X7.c3 A7 B X7.cloud.length k7 1 m w
                    have HQ := hid ((HR6.out.alloc (.cells #[.int .i64 D0, .int .i64 D1, .int .i64 key, .int .i64 col, .int .i64 val] 62)).six.1)
                    go_wp2_with (refine bodyPost_ret (v := .tuple #[tval ⟨X7, [⟨(D0, D1), key, col, val⟩]⟩ A7 k7 (some ⟨Wz.heap.size, 0, none⟩) 1, .int .i64 0]) ?h1 rfl ?h2)
                    case h1 =>
                      obtain ⟨q0, q1, q2, q3, q4, q5⟩ := HQ.out
                      simp [results, Try.results44, go_sem, q0, q1, q2, q3, q4, q5]
                    case h2 =>
                      exact ⟨A7, k7, some ⟨Wz.heap.size, 0, none⟩, 1, by rw [E1.out, E2.out], by rw [E1.out]; exact HROW.out.alloc _, by rw [E1.out]; exact Row.new' _ _ _ (by simp) rfl (by simp),
                        alloc_below HB6.out _, fun b off q e => Nat.le_trans hs3 (HN7.out b off q e), fun b off q e => by injection e with e; injection e with e; omega⟩
end Go.Proofs.Ytogegnikpjcpdaa
