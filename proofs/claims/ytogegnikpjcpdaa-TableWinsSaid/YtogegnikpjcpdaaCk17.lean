/- RPut, EdL, IdxI -/
import Derived.Test.YtogegnikpjcpdaaCk12
import Derived.Test.YtogegnikpjcpdaaCk09
import Derived.Test.YtogegnikpjcpdaaCk07
import Derived.Test.YtogegnikpjcpdaaCk11
/- viewref.Put. -/
namespace Go.Proofs.Ytogegnikpjcpdaa
set_option linter.unusedVariables false
open Go.ChangeShapes Go.WideShapes Go.ChangeAt Go.RowKit

theorem put_pack {t : Tab} {n key col val : Int} (h : tabI t = 0) (hn : nextE t.c n = 0) {L : List (Int × Int)} (hL : L = nextD t.c n :: (t.cells.filter (atKC key col)).map Cel.d) :
    (∀ d ∈ L, rightB d.1 d.2 = true) ∧ L.length ≤ 401 ∧ ctxX (putL t key col (nextD t.c n)) = (if 400 < (packL 0 0 0 0 L).cloud.length then ⟨0, 0, 0, 0, []⟩ else packL 0 0 0 0 L) ∧
    ctxE (putL t key col (nextD t.c n)) = (if 400 < (packL 0 0 0 0 L).cloud.length then 2 else 0) := by
  subst hL
  have hr : ∀ d ∈ nextD t.c n :: (t.cells.filter (atKC key col)).map Cel.d, rightB d.1 d.2 = true := by
    intro d hd
    rcases List.mem_cons.1 hd with rfl | hd
    · exact next_right hn
    · obtain ⟨x, hx, rfl⟩ := List.mem_map.1 hd
      exact cel_right h x (List.mem_filter.1 hx).1
  have hm : ∀ d, d ∈ putL t key col (nextD t.c n) ↔ d ∈ nextD t.c n :: (t.cells.filter (atKC key col)).map Cel.d := by
    intro d
    unfold putL
    rw [List.mem_append, List.mem_singleton, List.mem_cons, or_comm]
  have hlen : ((t.cells.filter (atKC key col)).map Cel.d).length ≤ 400 := by
    rw [List.length_map]
    exact Nat.le_trans (List.length_filter_le _ _) (tabI_zero h).2.1
  have hp := pack_same hr fun d => (hm d).symm
  obtain ⟨h1, h2⟩ := ctx_pack (l := putL t key col (nextD t.c n)) (by unfold putL; simp only [List.length_append, List.length_singleton]; omega) (fun d hd => hr d ((hm d).1 hd))
  refine ⟨hr, by simp only [List.length_cons]; omega, ?_, ?_⟩
  · rw [h1, hp]
  · rw [h2, hp]

set_option maxHeartbeats 1600000 in
set_option maxRecDepth 100000 in
theorem Rput_any (t : Tab) (n key col val : Int) (A : Option Addr) (k : Nat) (B : Option Addr) (m : Nat) (w : World) (ra : Row w w.heap.size A (dcells t.c.cloud)) (la : t.c.cloud.length ≤ 9223372036854775807)
    (rb : Row w w.heap.size B (tcells t.cells)) (lb : t.cells.length ≤ 4398046511104) :
    Calls Try.prog 44 #[tval t A k B m, .int .i64 n, .int .i64 key, .int .i64 col, .int .i64 val] w (TabErr (putX t n key col val) (putE t n key col val) w) := by
  have HTC := hid (fun w1 (hb : Below w.heap.size w w1) => rtable_any t A k B m w1 (ra.step hb) la (rb.step hb) (by omega))
  have HNX : Hid (tabI t = 0 → inB n 0 3 = true → ∀ w1, Below w.heap.size w w1 → Calls Try.prog 22 #[cval t.c A k, .int .i64 n] w1 (DotErr (nextD t.c n) (nextE t.c n) w1)) := hid (fun h h2 w1 hb => by
    have hc := (tabI_zero h).1
    have h4 : 0 ≤ n ∧ n ≤ 3 := by simpa [inB] using h2
    rw [(next_R hc h2).1, (next_R hc h2).2]
    exact Rnext_any t.c n A k w1 (ra.step hb) la (checkI_zero hc).1 (by omega) (by omega))
  have RB := hid (fun w1 (hb : Below w.heap.size w w1) => rb.step hb)
  obtain ⟨L, hL⟩ : ∃ L, L = nextD t.c n :: (t.cells.filter (atKC key col)).map Cel.d := ⟨_, rfl⟩
  have hX1 : (tabI t ≠ 0 ∨ argOk n key col val = false ∨ nextE t.c n ≠ 0) → putX t n key col val = zT := fun h => by unfold putX; rw [if_pos (h.imp_right fun h => h.imp_right .inl)]
  have hX2 : tabI t = 0 → argOk n key col val = true → nextE t.c n = 0 → ¬ 400 < (packL 0 0 0 0 L).cloud.length → putX t n key col val = ⟨packL 0 0 0 0 L, [⟨nextD t.c n, key, col, val⟩]⟩ := fun h1 h2 h3 h4 => by
    obtain ⟨-, -, p1, p2⟩ := put_pack (val := val) h1 h3 hL
    rw [if_neg h4] at p1 p2
    unfold putX; rw [if_neg (by simp [h1, h2, h3, p2]), p1]
  have hX3 : tabI t = 0 → argOk n key col val = true → nextE t.c n = 0 → 400 < (packL 0 0 0 0 L).cloud.length → putX t n key col val = zT ∧ putE t n key col val = 2 := fun h1 h2 h3 h4 => by
    obtain ⟨-, -, p1, p2⟩ := put_pack (val := val) h1 h3 hL
    rw [if_pos h4] at p1 p2
    unfold putX putE; rw [if_pos (by simp [p2]), if_neg (by simp [h1]), if_neg (by simp [h2]), if_neg (by simp [h3]), p2]; exact ⟨rfl, rfl⟩
  have hE : putE t n key col val = if tabI t ≠ 0 then tabI t else if argOk n key col val = false then 1 else if nextE t.c n ≠ 0 then nextE t.c n else if 400 < (packL 0 0 0 0 L).cloud.length then 2 else 0 := by
    unfold putE
    by_cases h1 : tabI t ≠ 0
    · rw [if_pos h1, if_pos h1]
    · rw [if_neg h1, if_neg h1]
      by_cases h2 : argOk n key col val = false
      · rw [if_pos h2, if_pos h2]
      · rw [if_neg h2, if_neg h2]
        by_cases h3 : nextE t.c n ≠ 0
        · rw [if_pos h3, if_pos h3]
        · rw [if_neg h3, if_neg h3]
          exact (put_pack (val := val) (by simpa using h1) (by simpa using h3) hL).2.2.2
  have hP : tabI t = 0 → nextE t.c n = 0 → L.length ≤ 401 ∧ (∀ d ∈ L, rightB d.1 d.2 = true) := fun h h3 => by
    obtain ⟨p1, p2, -⟩ := put_pack (val := val) h h3 hL
    exact ⟨p2, p1⟩
  have hP2 : tabI t = 0 → t.cells.length ≤ 400 := fun h => (tabI_zero h).2.1
  obtain ⟨R, hR⟩ : ∃ R, R = putX t n key col val := ⟨_, rfl⟩
  obtain ⟨RE, hRE⟩ : ∃ RE, RE = putE t n key col val := ⟨_, rfl⟩
  rw [← hR, ← hRE]
  rw [← hR] at hX1 hX2 hX3
  rw [← hRE] at hE hX3
  clear hR hRE
  obtain ⟨D, hD⟩ : ∃ D, D = nextD t.c n := ⟨_, rfl⟩
  obtain ⟨NE, hNE⟩ : ∃ NE, NE = nextE t.c n := ⟨_, rfl⟩
  rw [← hD, ← hNE] at HNX
  rw [← hD] at hX2 hL
  rw [← hNE] at hX1 hX2 hX3 hE hP
  clear hD hNE
  obtain ⟨T, hT⟩ : ∃ T, T = tabI t := ⟨_, rfl⟩
  rw [← hT] at HTC hX1 hX2 hX3 hE hP hP2 HNX
  clear hT
  have HX1 := hid hX1
  have HX2 := hid hX2
  have HX3 := hid hX3
  have HE := hid hE
  have HP := hid hP
  have HP2 := hid hP2
  have HGD := hid hL
  clear hX1 hX2 hX3 hE hP hP2 hL ra rb
  obtain ⟨⟨c0, c1, c2, c3, cl⟩, l⟩ := t
  obtain ⟨i0, hi0, hz0, hz1, hz2⟩ := info_parts info_dot
  simp only [tval, cval] at *
  have hwn := fun w => in_any n 0 3 w
  have hky := fun w => in_any key 0 49 w
  have hco := fun w => in_any col 0 2 w
  have hva := fun w => in_any val (-1000) 1000 w
  go_enter Try.func44, Try.ntmps44
  go_wp2_with fail
  refine (HTC.out _ (by (repeat' (first | (with_reducible exact Below.refl _ _) | (with_reducible assumption) | (with_reducible refine below_drewN ?_ _) | (with_reducible refine Below.drew ?_) | (with_reducible refine Below.alloc ?_ ?_ _) | (with_reducible refine Below.setCell ?_ ?_ _) | (refine Below.trans ?_ (Below.mono (by assumption) ?_)) | go_size)))).mono ?_
  rintro e w1 ⟨rfl, hb1⟩
  have HBW := hid (show Below w.heap.size w w1 from (by refine Below.step' ?_ hb1; (repeat' (first | (with_reducible exact Below.refl _ _) | (with_reducible assumption) | (with_reducible refine below_drewN ?_ _) | (with_reducible refine Below.drew ?_) | (with_reducible refine Below.alloc ?_ ?_ _) | (with_reducible refine Below.setCell ?_ ?_ _) | (refine Below.trans ?_ (Below.mono (by assumption) ?_)) | go_size))))
  have HXT := hid (Blk.step (w := _) (b := w.heap.size) (cs := #[.int .i64 c0, .int .i64 c1, .int .i64 c2, .int .i64 c3, .slice A cl.length k, .slice B l.length m]) (T := 59) (by exact (Blk.new w _ _).alloc _) hb1)
  have HXR := hid (Blk.step (w := _) (b := w.heap.size + 1) (cs := #[.int .i64 0, .int .i64 0, .int .i64 0, .int .i64 0, .slice none 0 0, .slice none 0 0]) (T := 59) (by exact Blk.new' (w.alloc _) _ _ (by simp)) hb1)
  clear hb1
  have hs := HBW.out.size
  by_cases qT : T = 0
  rotate_left
  · have t1 : (T != 0) = true := by simpa using qT
    have E1 : Hid (R = zT) := hid (HX1.out (.inl qT))
    have E2 : Hid (RE = T) := hid (by have e := HE.out; rw [if_pos qT] at e; exact e)
    clear qT
    have hR := HXR.out
    obtain ⟨⟨r0, r1, r2, r3, r4, r5⟩, f0, f1, f2, f3, f4, f5⟩ := hR.six
    have HR6 := hid (Blk.set6 hR (.int .i64 0) (.int .i64 0) (.int .i64 0) (.int .i64 0) (.slice none 0 0) (.slice none 0 0))
    have HB6 := hid (Below.set6 HBW.out (show w.heap.size ≤ w.heap.size + 1 by omega) (.int .i64 0) (.int .i64 0) (.int .i64 0) (.int .i64 0) (.slice none 0 0) (.slice none 0 0))
    clear hR
    go_wp2
    obtain ⟨⟨q0, q1, q2, q3, q4, q5⟩, -⟩ := HR6.out.six
    exact bodyPost_ret (v := .tuple #[tval zT none 0 none 0, .int .i64 T]) (by simp [results, Try.results44, go_sem, q0, q1, q2, q3, q4, q5, zT]) rfl ⟨none, 0, none, 0, by rw [E1.out, E2.out], by rw [E1.out]; exact Row.nil, by rw [E1.out]; exact Row.nil, HB6.out, newAt_none _, newAt_none _⟩
  · subst qT
    have hp2 := HP2.out (by first | rfl | trivial)
    try simp only at hp2
    clear HP2
    cases q0 : inB n 0 3
    · have qa : argOk n key col val = false := by unfold argOk; rw [q0]; simp
      have E1 : Hid (R = zT) := hid (HX1.out (.inr (.inl qa)))
      have E2 : Hid (RE = 1) := hid (by have e := HE.out; rw [if_neg (by simp), if_pos qa] at e; exact e)
      rw [q0] at hwn
      have HWN := hid hwn
      clear qa hwn hky hco hva q0
      go_wp2_with fail
      refine (HWN.out _).mono ?_
      rintro e w2 ⟨rfl, rfl⟩
      have hR := HXR.out
      obtain ⟨⟨r0, r1, r2, r3, r4, r5⟩, f0, f1, f2, f3, f4, f5⟩ := hR.six
      have HR6 := hid (Blk.set6 hR (.int .i64 0) (.int .i64 0) (.int .i64 0) (.int .i64 0) (.slice none 0 0) (.slice none 0 0))
      have HB6 := hid (Below.set6 HBW.out (show w.heap.size ≤ w.heap.size + 1 by omega) (.int .i64 0) (.int .i64 0) (.int .i64 0) (.int .i64 0) (.slice none 0 0) (.slice none 0 0))
      clear hR
      go_wp2
      obtain ⟨⟨q0, q1, q2, q3, q4, q5⟩, -⟩ := HR6.out.six
      exact bodyPost_ret (v := .tuple #[tval zT none 0 none 0, .int .i64 1]) (by simp [results, Try.results44, go_sem, q0, q1, q2, q3, q4, q5, zT]) rfl ⟨none, 0, none, 0, by rw [E1.out, E2.out], by rw [E1.out]; exact Row.nil, by rw [E1.out]; exact Row.nil, HB6.out, newAt_none _, newAt_none _⟩
    · skip
      cases q1 : inB key 0 49
      · have qa : argOk n key col val = false := by unfold argOk; rw [q1]; simp
        have E1 : Hid (R = zT) := hid (HX1.out (.inr (.inl qa)))
        have E2 : Hid (RE = 1) := hid (by have e := HE.out; rw [if_neg (by simp), if_pos qa] at e; exact e)
        rw [q0] at hwn
        have HWN := hid hwn
        rw [q1] at hky
        have HKY := hid hky
        clear qa hwn hky hco hva q0 q1
        go_wp2_with fail
        refine (HWN.out _).mono ?_
        rintro e w2 ⟨rfl, rfl⟩
        go_wp2_with fail
        refine (HKY.out _).mono ?_
        rintro e w2 ⟨rfl, rfl⟩
        have hR := HXR.out
        obtain ⟨⟨r0, r1, r2, r3, r4, r5⟩, f0, f1, f2, f3, f4, f5⟩ := hR.six
        have HR6 := hid (Blk.set6 hR (.int .i64 0) (.int .i64 0) (.int .i64 0) (.int .i64 0) (.slice none 0 0) (.slice none 0 0))
        have HB6 := hid (Below.set6 HBW.out (show w.heap.size ≤ w.heap.size + 1 by omega) (.int .i64 0) (.int .i64 0) (.int .i64 0) (.int .i64 0) (.slice none 0 0) (.slice none 0 0))
        clear hR
        go_wp2
        obtain ⟨⟨q0, q1, q2, q3, q4, q5⟩, -⟩ := HR6.out.six
        exact bodyPost_ret (v := .tuple #[tval zT none 0 none 0, .int .i64 1]) (by simp [results, Try.results44, go_sem, q0, q1, q2, q3, q4, q5, zT]) rfl ⟨none, 0, none, 0, by rw [E1.out, E2.out], by rw [E1.out]; exact Row.nil, by rw [E1.out]; exact Row.nil, HB6.out, newAt_none _, newAt_none _⟩
      · skip
        cases q2 : inB col 0 2
        · have qa : argOk n key col val = false := by unfold argOk; rw [q2]; simp
          have E1 : Hid (R = zT) := hid (HX1.out (.inr (.inl qa)))
          have E2 : Hid (RE = 1) := hid (by have e := HE.out; rw [if_neg (by simp), if_pos qa] at e; exact e)
          rw [q0] at hwn
          have HWN := hid hwn
          rw [q1] at hky
          have HKY := hid hky
          rw [q2] at hco
          have HCO := hid hco
          clear qa hwn hky hco hva q0 q1 q2
          go_wp2_with fail
          refine (HWN.out _).mono ?_
          rintro e w2 ⟨rfl, rfl⟩
          go_wp2_with fail
          refine (HKY.out _).mono ?_
          rintro e w2 ⟨rfl, rfl⟩
          go_wp2_with fail
          refine (HCO.out _).mono ?_
          rintro e w2 ⟨rfl, rfl⟩
          have hR := HXR.out
          obtain ⟨⟨r0, r1, r2, r3, r4, r5⟩, f0, f1, f2, f3, f4, f5⟩ := hR.six
          have HR6 := hid (Blk.set6 hR (.int .i64 0) (.int .i64 0) (.int .i64 0) (.int .i64 0) (.slice none 0 0) (.slice none 0 0))
          have HB6 := hid (Below.set6 HBW.out (show w.heap.size ≤ w.heap.size + 1 by omega) (.int .i64 0) (.int .i64 0) (.int .i64 0) (.int .i64 0) (.slice none 0 0) (.slice none 0 0))
          clear hR
          go_wp2
          obtain ⟨⟨q0, q1, q2, q3, q4, q5⟩, -⟩ := HR6.out.six
          exact bodyPost_ret (v := .tuple #[tval zT none 0 none 0, .int .i64 1]) (by simp [results, Try.results44, go_sem, q0, q1, q2, q3, q4, q5, zT]) rfl ⟨none, 0, none, 0, by rw [E1.out, E2.out], by rw [E1.out]; exact Row.nil, by rw [E1.out]; exact Row.nil, HB6.out, newAt_none _, newAt_none _⟩
        · skip
          cases q3 : inB val (-1000) 1000
          · have qa : argOk n key col val = false := by unfold argOk; rw [q3]; simp
            have E1 : Hid (R = zT) := hid (HX1.out (.inr (.inl qa)))
            have E2 : Hid (RE = 1) := hid (by have e := HE.out; rw [if_neg (by simp), if_pos qa] at e; exact e)
            rw [q0] at hwn
            have HWN := hid hwn
            rw [q1] at hky
            have HKY := hid hky
            rw [q2] at hco
            have HCO := hid hco
            rw [q3] at hva
            have HVA := hid hva
            clear qa hwn hky hco hva q0 q1 q2 q3
            go_wp2_with fail
            refine (HWN.out _).mono ?_
            rintro e w2 ⟨rfl, rfl⟩
            go_wp2_with fail
            refine (HKY.out _).mono ?_
            rintro e w2 ⟨rfl, rfl⟩
            go_wp2_with fail
            refine (HCO.out _).mono ?_
            rintro e w2 ⟨rfl, rfl⟩
            go_wp2_with fail
            refine (HVA.out _).mono ?_
            rintro e w2 ⟨rfl, rfl⟩
            have hR := HXR.out
            obtain ⟨⟨r0, r1, r2, r3, r4, r5⟩, f0, f1, f2, f3, f4, f5⟩ := hR.six
            have HR6 := hid (Blk.set6 hR (.int .i64 0) (.int .i64 0) (.int .i64 0) (.int .i64 0) (.slice none 0 0) (.slice none 0 0))
            have HB6 := hid (Below.set6 HBW.out (show w.heap.size ≤ w.heap.size + 1 by omega) (.int .i64 0) (.int .i64 0) (.int .i64 0) (.int .i64 0) (.slice none 0 0) (.slice none 0 0))
            clear hR
            go_wp2
            obtain ⟨⟨q0, q1, q2, q3, q4, q5⟩, -⟩ := HR6.out.six
            exact bodyPost_ret (v := .tuple #[tval zT none 0 none 0, .int .i64 1]) (by simp [results, Try.results44, go_sem, q0, q1, q2, q3, q4, q5, zT]) rfl ⟨none, 0, none, 0, by rw [E1.out, E2.out], by rw [E1.out]; exact Row.nil, by rw [E1.out]; exact Row.nil, HB6.out, newAt_none _, newAt_none _⟩
          · skip
            have qa : argOk n key col val = true := by unfold argOk; rw [q0, q1, q2, q3]; rfl
            have HNX2 := hid (HNX.out (by first | rfl | trivial) q0)
            rw [q0] at hwn
            have HWN := hid hwn
            rw [q1] at hky
            have HKY := hid hky
            rw [q2] at hco
            have HCO := hid hco
            rw [q3] at hva
            have HVA := hid hva
            have HQA := hid qa
            clear qa hwn hky hco hva q0 q1 q2 q3 HNX
            go_wp2_with fail
            refine (HWN.out _).mono ?_
            rintro e w2 ⟨rfl, rfl⟩
            go_wp2_with fail
            refine (HKY.out _).mono ?_
            rintro e w2 ⟨rfl, rfl⟩
            go_wp2_with fail
            refine (HCO.out _).mono ?_
            rintro e w2 ⟨rfl, rfl⟩
            go_wp2_with fail
            refine (HVA.out _).mono ?_
            rintro e w2 ⟨rfl, rfl⟩

            obtain ⟨cHXT, fHXT, sHXT, nHXT⟩ := HXT.out.all
            try simp only [cbox] at cHXT
            go_wp2_with fail
            refine (HNX2.out _ HBW.out).mono ?_
            rintro e w2 ⟨rfl, hb2⟩
            clear cHXT fHXT sHXT nHXT
            replace HXT := hid (HXT.out.step hb2)
            replace HXR := hid (HXR.out.step hb2)
            replace HBW := hid (Below.step' HBW.out hb2)
            clear hb2
            obtain ⟨D0, D1⟩ := D
            simp only [dval]
            by_cases qn : NE = 0
            rotate_left
            · have t1 : (NE != 0) = true := by simpa using qn
              have E1 : Hid (R = zT) := hid (HX1.out (.inr (.inr qn)))
              have E2 : Hid (RE = NE) := hid (by have e := HE.out; rw [if_neg (by simp), if_neg (by simp [HQA.out]), if_pos qn] at e; exact e)
              clear qn
              replace HXR := hid (HXR.out.alloc (.cells #[.int .i64 D0, .int .i64 D1] 27))
              replace HBW := hid (HBW.out.alloc HBW.out.size (.cells #[.int .i64 D0, .int .i64 D1] 27))
              have hlr := HXR.out.lt
              simp only [World.size_alloc] at hlr
              obtain ⟨Wz, hWz⟩ : ∃ Wz : World, Wz = w2.alloc (.cells #[.int .i64 D0, .int .i64 D1] 27) := ⟨_, rfl⟩
              rw [← hWz] at HXR HBW
              go_upto_region 8 with fail
              rw [← hWz]
              clear hWz
              have hR := HXR.out
              obtain ⟨⟨r0, r1, r2, r3, r4, r5⟩, f0, f1, f2, f3, f4, f5⟩ := hR.six
              have HR6 := hid (Blk.set6 hR (.int .i64 0) (.int .i64 0) (.int .i64 0) (.int .i64 0) (.slice none 0 0) (.slice none 0 0))
              have HB6 := hid (Below.set6 HBW.out (show w.heap.size ≤ w.heap.size + 1 by omega) (.int .i64 0) (.int .i64 0) (.int .i64 0) (.int .i64 0) (.slice none 0 0) (.slice none 0 0))
              clear hR
              go_wp2
              obtain ⟨⟨q0, q1, q2, q3, q4, q5⟩, -⟩ := HR6.out.six
              exact bodyPost_ret (v := .tuple #[tval zT none 0 none 0, .int .i64 NE]) (by simp [results, Try.results44, go_sem, q0, q1, q2, q3, q4, q5, zT]) rfl ⟨none, 0, none, 0, by rw [E1.out, E2.out], by rw [E1.out]; exact Row.nil, by rw [E1.out]; exact Row.nil, HB6.out, newAt_none _, newAt_none _⟩
            · subst qn
              have hs2 := HBW.out.size
              have hlx := HXR.out.lt
              obtain ⟨hp, hp3⟩ := HP.out (by first | rfl | trivial) (by first | rfl | trivial)
              have HP3 := hid hp3
              clear hp3 HP
              have HXD := hid ((Blk.new w2 #[.int .i64 D0, .int .i64 D1] 27).alloc (.cells #[.int .i64 D0, .int .i64 D1] 27))
              have HOW := hid (show ((w2.alloc (.cells #[.int .i64 D0, .int .i64 D1] 27)).alloc (.cells #[.int .i64 D0, .int .i64 D1] 27)).ownsRow (w2.heap.size + 1) 27 2 (.slice (some ⟨w2.heap.size + 1, 0, none⟩) 1 1) 1 (dcells [(D0, D1)]) from
                ⟨by simp [dcells], .inr ⟨w2.heap.size + 1, 1, _, rfl, by simp, (by have h := heap_alloc_new (w2.alloc (.cells #[.int .i64 D0, .int .i64 D1] 27)) (.cells #[.int .i64 D0, .int .i64 D1] 27); rw [World.size_alloc] at h; exact h), by decide, by decide, rfl, rfl⟩⟩)
              have HBD := hid (((Below.refl w2.heap.size w2).alloc (Nat.le_refl _) (.cells #[.int .i64 D0, .int .i64 D1] 27)).alloc (by simp) (.cells #[.int .i64 D0, .int .i64 D1] 27))
              go_wp2
              go_loopw [15, 16] (fun s15 s16 wr => ∃ i : Nat, i ≤ l.length ∧ s16 = .int .i64 i ∧ wr.ownsRow (w2.heap.size + 1) 27 2 s15 ((D0, D1) :: ((l.take i).filter (atKC key col)).map Cel.d).length (dcells ((D0, D1) :: ((l.take i).filter (atKC key col)).map Cel.d)) ∧ Below w2.heap.size w2 wr ∧ Blk wr w2.heap.size #[.int .i64 D0, .int .i64 D1] 27) (fun _ s16 _ => l.length - (intOf s16).toNat)
              case atStart => exact ⟨0, by omega, rfl, HOW.out, HBD.out, HXD.out⟩
              case round =>
                obtain ⟨i, hi, rfl, hown, hbw, hxd⟩ := hrel
                clear HXD HOW HBD
                have hst : ∀ hj : i < l.length, (D0, D1) :: ((l.take (i + 1)).filter (atKC key col)).map Cel.d = ((D0, D1) :: ((l.take i).filter (atKC key col)).map Cel.d) ++ (if atKC key col l[i] = true then [l[i].d] else []) := by
                  intro hj
                  rw [List.take_succ_eq_append_getElem hj, List.filter_append, List.map_append, List.filter_cons, List.filter_nil]
                  split <;> simp
                have hol : ((D0, D1) :: ((l.take i).filter (atKC key col)).map Cel.d).length ≤ 401 := by
                  have := List.length_filter_le (atKC key col) (l.take i)
                  rw [List.length_take] at this
                  rw [List.length_cons, List.length_map]
                  omega
                have hfin : ¬ i < l.length → (D0, D1) :: ((l.take i).filter (atKC key col)).map Cel.d = L := fun h => by rw [HGD.out, List.take_of_length_le (by omega)]
                obtain ⟨O, hO⟩ : ∃ O, O = (D0, D1) :: ((l.take i).filter (atKC key col)).map Cel.d := ⟨_, rfl⟩
                rw [← hO] at hown hst hol hfin
                clear hO
                obtain ⟨A8, c8, rfl⟩ := own_form hown
                have hB := Below.step' HBW.out hbw
                have HOWN := hid hown
                have HB1 := hid hbw
                have HBB := hid hB
                have HFIN := hid hfin
                have HXD := hid hxd
                have HXT2 := hid (HXT.out.step hbw)
                have HXR2 := hid (HXR.out.step hbw)
                clear hown hbw hB hfin hxd
                obtain ⟨cHXT2, fHXT2, sHXT2, nHXT2⟩ := HXT2.out.all
                try simp only [cbox] at cHXT2
                by_cases hlt : i < l.length
                · obtain ⟨b, off, hA, hb, e0, e1, e2, e3, e4⟩ := (RB.out wr HBB.out).cel hlt
                  subst hA
                  have HST := hid (hst hlt)
                  clear hst
                  generalize l[i] = x at *
                  obtain ⟨⟨d0, d1⟩, ky, co, vl⟩ := x
                  simp only at e0 e1 e2 e3 e4
                  have hneb : (b = wr.heap.size) = False := by simp; omega
                  have hsw := HB1.out.size
                  have hlt2 := HXD.out.lt
                  cases q1 : (ky == key)
                  · have HQ := hid (show atKC key col ⟨(d0, d1), ky, co, vl⟩ = false from (show (ky == key && co == col) = false by rw [q1]; rfl))
                    go_wp2
                    go_roundw
                    case rel => exact ⟨i + 1, by omega, by go_num, by rw [HST.out, HQ.out, if_neg (by simp), List.append_nil]; exact HOWN.out, HB1.out, HXD.out⟩
                    case measure => simp [intOf]; omega
                  · cases q2 : (co == col)
                    · have HQ := hid (show atKC key col ⟨(d0, d1), ky, co, vl⟩ = false from (show (ky == key && co == col) = false by rw [q1, q2]; rfl))
                      go_wp2
                      go_roundw
                      case rel => exact ⟨i + 1, by omega, by go_num, by rw [HST.out, HQ.out, if_neg (by simp), List.append_nil]; exact HOWN.out, HB1.out, HXD.out⟩
                      case measure => simp [intOf]; omega
                    · have HQ := hid (show atKC key col ⟨(d0, d1), ky, co, vl⟩ = true from (show (ky == key && co == col) = true by rw [q1, q2]; rfl))
                      go_wp2_with (at_builtin; refine wpList_append_own _ rfl _ _ 23 rfl (w2.heap.size + 1) 27 i0 _ 2 16 Try.underlying23 hi0 hz0 hz1 hz2 rfl (by decide) _ _ _ rfl (HOWN.out.alloc _) ⟨wr.heap.size, 0, none⟩ 1 1 (dcells [(d0, d1)]) rfl rfl (news_new wr _ _ _ _ rfl) (dcells_one _) ?_ ?_ ?_ ?_; rotate_right; intro v6 w6 hown6 hg6 hif6; clear hif6; rotate_left; (simp only [maxLen]; omega); (omega); (simp; omega))
                      go_roundw
                      case rel =>
                        refine ⟨i + 1, by omega, by go_num, ?_, (HB1.out.alloc HB1.out.size _).grown hg6 (by simp; omega) (fun g e => by have := (HOWN.out.lt g e).1; omega), ?_⟩
                        · rw [HST.out, HQ.out, if_pos rfl]
                          simpa [dcells] using hown6
                        · refine (HXD.out.alloc _).thru (B := w2.heap.size + 1) ((Below.refl _ _).grown hg6 (by simp; omega) (fun g e => (HOWN.out.lt g e).1)) (by omega)
                      case measure => simp [intOf]; omega
                · have hfin := HFIN.out hlt
                  rw [hfin] at HOWN hol ⊢
                  have hsw := HB1.out.size
                  have hrow := Row.of_own HOWN.out
                  replace HBW := hid (Below.step' HBW.out HB1.out)
                  clear hst HFIN hfin
                  have HPK := hid (Rpacked_any 0 0 0 0 L A8 c8 wr hrow (by omega) (by simp [clkIn]) HP3.out)
                  clear hrow
                  have hlx2 := HXR2.out.lt
                  have hlt2 := HXD.out.lt
                  have hs3 := HBW.out.size
                  go_wp2_with fail
                  refine HPK.out.mono ?_
                  rintro e w7 ⟨A7, k7, rfl, hr7, hb7, hn7⟩
                  clear cHXT2 fHXT2 sHXT2 nHXT2
                  replace HXR2 := hid (HXR2.out.step hb7)
                  replace HXD := hid (HXD.out.step hb7)
                  have hs7 := hb7.size
                  replace HBW := hid (Below.step' HBW.out hb7)
                  have HR7 := hid hr7
                  have HN7 := hid hn7
                  clear hr7 hb7 hn7 HPK
                  obtain ⟨X7, hX7⟩ : ∃ X7, X7 = packL 0 0 0 0 L := ⟨_, rfl⟩
                  rw [← hX7] at HX2 HX3 HE HR7 ⊢
                  clear hX7
                  simp only [cval]
                  have hBz : Below w7.heap.size w7 (w7.alloc (.cells (cbox X7 A7 k7) 25)) := (Below.refl _ _).alloc (Nat.le_refl _) _
                  have HX16 := hid (Blk.new w7 (cbox X7 A7 k7) 25)
                  replace HXR2 := hid (HXR2.out.step hBz)
                  replace HXD := hid (HXD.out.step hBz)
                  replace HR7 := hid (HR7.out.step hBz)
                  replace HBW := hid (Below.step' HBW.out hBz)
                  have hsz := hBz.size
                  obtain ⟨Wz, hWz⟩ : ∃ Wz : World, Wz = w7.alloc (.cells (cbox X7 A7 k7) 25) := ⟨_, rfl⟩
                  rw [← hWz] at HXR2 HXD HR7 HBW HX16 hsz
                  simp only [cbox] at hWz
                  by_cases q7 : 400 < X7.cloud.length
                  · have t7 : decide ((400 : Int) < (X7.cloud.length : Int)) = true := by simp; omega
                    obtain ⟨E1, E2⟩ := HX3.out (by first | rfl | trivial) HQA.out (by first | rfl | trivial) q7
                    replace E1 := hid E1
                    replace E2 := hid E2
                    clear q7
                    go_upto_region 17 with fail
                    rw [← hWz]
                    clear hWz hBz
                    have hR := HXR2.out
                    obtain ⟨⟨r0, r1, r2, r3, r4, r5⟩, f0, f1, f2, f3, f4, f5⟩ := hR.six
                    have HR6 := hid (Blk.set6 hR (.int .i64 0) (.int .i64 0) (.int .i64 0) (.int .i64 0) (.slice none 0 0) (.slice none 0 0))
                    have HB6 := hid (Below.set6 HBW.out (show w.heap.size ≤ w.heap.size + 1 by omega) (.int .i64 0) (.int .i64 0) (.int .i64 0) (.int .i64 0) (.slice none 0 0) (.slice none 0 0))
                    clear hR
                    go_wp2
                    obtain ⟨⟨q0, q1, q2, q3, q4, q5⟩, -⟩ := HR6.out.six
                    exact bodyPost_ret (v := .tuple #[tval zT none 0 none 0, .int .i64 2]) (by simp [results, Try.results44, go_sem, q0, q1, q2, q3, q4, q5, zT]) rfl ⟨none, 0, none, 0, by rw [E1.out, E2.out], by rw [E1.out]; exact Row.nil, by rw [E1.out]; exact Row.nil, HB6.out, newAt_none _, newAt_none _⟩
                  · have t7 : decide ((400 : Int) < (X7.cloud.length : Int)) = false := by simp; omega
                    have E1 := hid (HX2.out (by first | rfl | trivial) HQA.out (by first | rfl | trivial) q7)
                    have E2 : Hid (RE = 0) := hid (by have e := HE.out; rw [if_neg (by simp), if_neg (by simp [HQA.out]), if_neg (by simp), if_neg q7] at e; exact e)
                    clear q7
                    go_upto_region 18 with fail
                    rw [← hWz]
                    clear hWz hBz
                    have hR := HXR2.out
                    obtain ⟨⟨r0, r1, r2, r3, r4, r5⟩, f0, f1, f2, f3, f4, f5⟩ := hR.six
                    have hrl := hR.lt
                    have nlx : (w.heap.size + 1 = Wz.heap.size) = False := by simp; omega
                    have HR6 := hid (Blk.set6 hR (.int .i64 X7.c0) (.int .i64 X7.c1) (.int .i64 X7.c2) (.int .i64 X7.c3) (.slice A7 X7.cloud.length k7) (.slice (some ⟨Wz.heap.size, 0, none⟩) 1 1))
                    have HB6 := hid (Below.set6 HBW.out (show w.heap.size ≤ w.heap.size + 1 by omega) (.int .i64 X7.c0) (.int .i64 X7.c1) (.int .i64 X7.c2) (.int .i64 X7.c3) (.slice A7 X7.cloud.length k7) (.slice (some ⟨Wz.heap.size, 0, none⟩) 1 1))
                    have HROW := hid (Row.set6 HR7.out HN7.out (show w.heap.size + 1 < wr.heap.size by omega) (.int .i64 X7.c0) (.int .i64 X7.c1) (.int .i64 X7.c2) (.int .i64 X7.c3) (.slice A7 X7.cloud.length k7) (.slice (some ⟨Wz.heap.size, 0, none⟩) 1 1))
                    clear hR
                    obtain ⟨⟨x0, x1, x2, x3, x4⟩, -⟩ := HX16.out.five
                    have y0 : Wz.cell? ⟨w2.heap.size, 0, none⟩ = some (.int .i64 D0) := (HXD.out.cells.1 0).trans rfl
                    have y1 : Wz.cell? ⟨w2.heap.size, 1, none⟩ = some (.int .i64 D1) := (HXD.out.cells.1 1).trans rfl
                    have bc := fun w => build_cel D0 D1 key col val w
                    have bt := fun B m w => build_tab X7.c0 X7.c1 X7.c2 X7.c3 A7 B X7.cloud.length k7 1 m w
                    have HQ := hid ((HR6.out.alloc (.cells #[.int .i64 D0, .int .i64 D1, .int .i64 key, .int .i64 col, .int .i64 val] 62)).six.1)
                    go_wp2_with (refine bodyPost_ret (v := .tuple #[tval ⟨X7, [⟨(D0, D1), key, col, val⟩]⟩ A7 k7 (some ⟨Wz.heap.size, 0, none⟩) 1, .int .i64 0]) ?h1 rfl ?h2)
                    case h1 =>
                      obtain ⟨q0, q1, q2, q3, q4, q5⟩ := HQ.out
                      simp [results, Try.results44, go_sem, q0, q1, q2, q3, q4, q5]
                    case h2 =>
                      exact ⟨A7, k7, some ⟨Wz.heap.size, 0, none⟩, 1, by rw [E1.out, E2.out], by rw [E1.out]; exact HROW.out.alloc _, by rw [E1.out]; exact Row.new' _ _ _ (by simp) rfl (by simp),
                        alloc_below HB6.out _, fun b off q e => Nat.le_trans hs3 (HN7.out b off q e), fun b off q e => by injection e with e; injection e with e; omega⟩
end Go.Proofs.Ytogegnikpjcpdaa
/- Plain laws of what Put and Del tell, merged (TableEdits, TableWins). -/
namespace Go.Proofs.Ytogegnikpjcpdaa
set_option linter.unusedVariables false

/-! Numbers rising, each once. -/
theorem cu_rise (s : List Int) (hs : s.Pairwise (fun x y => x ≤ y)) : ∀ i, i ≤ s.length → (cu s i).Pairwise (fun x y => x < y) ∧ ∀ x, x ∈ cu s i ↔ x ∈ s.take i
  | 0, _ => by simp [cu_zero]
  | i + 1, h => by
    obtain ⟨h1, h2⟩ := cu_rise s hs i (by omega)
    have hi : i < s.length := by omega
    rw [cu_succ s i hi, List.take_succ_eq_append_getElem hi]
    by_cases q : i = 0 ∨ s[i] ≠ s[i - 1]'(by omega)
    · rw [if_pos q]
      refine ⟨List.pairwise_append.2 ⟨h1, by simp, ?_⟩, fun x => by rw [List.mem_append, List.mem_append, h2]⟩
      intro x hx y hy
      rw [List.mem_singleton.1 hy]
      obtain ⟨j, hj, rfl⟩ := List.getElem_of_mem ((h2 x).1 hx)
      rw [List.length_take] at hj
      rw [List.getElem_take]
      have hji : j < i := by omega
      rcases q with q | q
      · omega
      · have a1 : s[j] ≤ s[i - 1]'(by omega) := by
          by_cases e : j = i - 1
          · subst e; exact Int.le_refl _
          · exact List.pairwise_iff_getElem.1 hs j (i - 1) (by omega) (by omega) (by omega)
        have a2 : s[i - 1]'(by omega) ≤ s[i] := List.pairwise_iff_getElem.1 hs (i - 1) i (by omega) hi (by omega)
        omega
    · rw [if_neg q, List.append_nil]
      refine ⟨h1, fun x => ?_⟩
      rw [h2, List.mem_append, List.mem_singleton]
      simp only [not_or, ne_eq, Decidable.not_not] at q
      constructor
      · exact .inl
      · rintro (hx | rfl)
        · exact hx
        · rw [q.2, List.mem_iff_getElem]
          exact ⟨i - 1, by rw [List.length_take]; omega, by rw [List.getElem_take]⟩
theorem isort_sorted (l : List Int) : (isort l).Pairwise (fun x y => x ≤ y) := by
  have h := List.pairwise_mergeSort (le := fun x y : Int => decide (x ≤ y)) (fun a b c h1 h2 => by simp only [decide_eq_true_eq] at *; omega) (fun a b => by simp only [Bool.or_eq_true, decide_eq_true_eq]; omega) l
  exact h.imp fun h => by simpa using h
theorem once_rise (l : List Int) : (onceI l).Pairwise (fun x y => x < y) := by
  unfold onceI
  rw [← cu_all]
  exact (cu_rise _ (isort_sorted l) _ (Nat.le_refl _)).1
theorem once_mem (l : List Int) (x : Int) : x ∈ onceI l ↔ x ∈ l := by
  unfold onceI
  rw [← cu_all, (cu_rise _ (isort_sorted l) _ (Nat.le_refl _)).2, List.take_length]
  unfold isort
  exact List.mem_mergeSort
theorem rise_nodup {l : List Int} (h : l.Pairwise (fun x y => x < y)) : l.Nodup := h.imp fun {x y} hxy e => by omega
theorem rise_ext {l m : List Int} (hl : l.Pairwise (fun x y => x < y)) (hm : m.Pairwise (fun x y => x < y)) (h : ∀ x, x ∈ l ↔ x ∈ m) : l = m := by
  have hp : l.Perm m := (List.perm_ext_iff_of_nodup (rise_nodup hl) (rise_nodup hm)).2 h
  refine List.Perm.eq_of_pairwise (le := fun x y => x < y) ?_ hl hm hp
  intro x y _ _ h1 h2
  omega
theorem vals_mem {t : Tab} {key col v : Int} : v ∈ valsL t key col ↔ ∃ x ∈ t.cells, x.key = key ∧ x.col = col ∧ x.val = v := by
  unfold valsL
  rw [once_mem, List.mem_map]
  simp only [List.mem_filter, atKC, Bool.and_eq_true, beq_iff_eq]
  constructor
  · rintro ⟨x, ⟨h1, h2, h3⟩, h4⟩; exact ⟨x, h1, h2, h3, h4⟩
  · rintro ⟨x, h1, h2, h3, h4⟩; exact ⟨x, ⟨h1, h2, h3⟩, h4⟩
theorem keys_mem {t : Tab} {key : Int} : key ∈ keysL t ↔ ∃ x ∈ t.cells, x.key = key := by
  unfold keysL
  rw [once_mem, List.mem_map]
theorem vals_one {t : Tab} {key col v : Int} (h : ∀ u, (∃ x ∈ t.cells, x.key = key ∧ x.col = col ∧ x.val = u) ↔ u = v) : valsL t key col = [v] :=
  rise_ext (once_rise _) (by simp) fun u => by rw [vals_mem, h, List.mem_singleton]

/-! Put: what it tells. -/
theorem next_fresh_fold (i : Int) : ∀ (l : List (Int × Int)) (m : Int), ∀ d ∈ l, d.1 = i → d.2 ≤ l.foldl (stepS i) m
  | [], m => by simp
  | x :: l, m => fun d hd e => by
    rcases List.mem_cons.1 hd with rfl | hd
    · refine Int.le_trans ?_ (maxS_at i l (stepS i m d))
      unfold stepS
      split <;> omega
    · exact next_fresh_fold i l _ d hd e
theorem next_fresh {c : Ctx} {i : Int} (h : nextE c i = 0) : (nextD c i).1 = i ∧ hasB c (nextD c i) = false := by
  unfold nextE at h
  by_cases h1 : checkI c ≠ 0
  · rw [if_pos h1] at h; exact absurd h h1
  · rw [if_neg h1] at h
    by_cases h2 : inB i 0 3 = false
    · rw [if_pos h2] at h; cases h
    · rw [if_neg h2] at h
      unfold rnextE at h
      have e : nextD c i = rnextD c i := by unfold nextD; rw [if_neg h1, if_neg h2]
      by_cases h3 : 1099511627776 ≤ maxS c i
      · rw [if_pos h3] at h; cases h
      · rw [e, rnextD, if_neg h3]
        refine ⟨rfl, ?_⟩
        have g1 := maxS_at i c.cloud (c.at_ i)
        have g2 := next_fresh_fold i c.cloud (c.at_ i)
        cases hq : hasB c (i, maxS c i + 1) with
        | false => rfl
        | true =>
          rcases hasB_iff.1 hq with ⟨_, _, _, g3⟩ | g3
          · simp only at g3
            unfold maxS at g3; omega
          · have := g2 _ g3 rfl
            simp only at this
            unfold maxS at this; omega
theorem put_zero {t : Tab} {n key col val : Int} (h : putE t n key col val = 0) : tabI t = 0 ∧ argOk n key col val = true ∧ nextE t.c n = 0 ∧ ctxE (putL t key col (nextD t.c n)) = 0 := by
  unfold putE at h
  by_cases h1 : tabI t = 0
  · rw [if_neg (by simp [h1])] at h
    by_cases h2 : argOk n key col val = true
    · rw [if_neg (by simp [h2])] at h
      by_cases h3 : nextE t.c n = 0
      · rw [if_neg (by simp [h3])] at h; exact ⟨h1, h2, h3, h⟩
      · rw [if_pos h3] at h; exact absurd h h3
    · rw [if_pos (by simpa using h2)] at h; cases h
  · rw [if_pos h1] at h; exact absurd h h1
theorem put_ok {t : Tab} {n key col val : Int} (h : putE t n key col val = 0) :
    tabI (putX t n key col val) = 0 ∧ (putX t n key col val).cells = [⟨nextD t.c n, key, col, val⟩] ∧ (nextD t.c n).1 = n ∧ hasB t.c (nextD t.c n) = false ∧
    ∀ e, hasB (putX t n key col val).c e = true ↔ e = nextD t.c n ∨ ∃ z ∈ t.cells, (z.key = key ∧ z.col = col) ∧ z.d = e := by
  obtain ⟨h1, h2, h3, h4⟩ := put_zero h
  obtain ⟨p1, p2, p3, p4⟩ := put_pack (key := key) (col := col) (val := val) h1 h3 rfl
  obtain ⟨q1, q2⟩ := pack_zero p1
  obtain ⟨f1, f2⟩ := next_fresh h3
  have hsm : ¬ 400 < (packL 0 0 0 0 (nextD t.c n :: (t.cells.filter (atKC key col)).map Cel.d)).cloud.length := fun hh => by
    rw [p4, if_pos hh] at h4; cases h4
  have e0 : putX t n key col val = ⟨packL 0 0 0 0 (nextD t.c n :: (t.cells.filter (atKC key col)).map Cel.d), [⟨nextD t.c n, key, col, val⟩]⟩ := by
    unfold putX
    rw [if_neg (by simp [h1, h2, h3, h4]), p3, if_neg hsm]
  rw [e0]
  have hmem : ∀ e, hasB (packL 0 0 0 0 (nextD t.c n :: (t.cells.filter (atKC key col)).map Cel.d)) e = true ↔ e = nextD t.c n ∨ ∃ z ∈ t.cells, (z.key = key ∧ z.col = col) ∧ z.d = e := fun e => by
    rw [q2, List.mem_cons, List.mem_map]
    simp only [List.mem_filter, atKC, Bool.and_eq_true, beq_iff_eq, and_assoc]
  refine ⟨tabI_iff.2 ⟨q1, by simp only; omega, by simp, fun x hx => ?_, by simp⟩, rfl, f1, f2, hmem⟩
  rw [List.mem_singleton.1 hx]
  simp only [argOk, Bool.and_eq_true] at h2
  exact celOk_iff.2 ⟨next_right h3, (hmem _).2 (.inl rfl), h2.1.2, h2.2.1, h2.2.2⟩

/-- A merge of right tables of which dots that are the same have the same cells: only its size may be too much. -/
theorem merge_large {a b : Tab} (ha : tabI a = 0) (hb : tabI b = 0) (hu : ∀ x ∈ a.cells, ∀ y ∈ b.cells, x.d = y.d → x = y) (h : mergeE a b ≠ 0) : mergeE a b = 2 := by
  have hz : bothE a b = 0 := bothE_iff.2 ⟨ha, hb, hu⟩
  have ct := checkI_two ((checkI_iff a.c).2 ⟨(tabI_iff.1 ha).1, (tabI_iff.1 ha).2.1⟩) ((checkI_iff b.c).2 ⟨(tabI_iff.1 hb).1, (tabI_iff.1 hb).2.1⟩)
  have ej : joinE a.c b.c = if 400 < (joinC a.c b.c).cloud.length then 2 else 0 := by unfold joinE; rw [if_neg (by simp [ct])]
  have em : mergeE a b = if joinE a.c b.c ≠ 0 then joinE a.c b.c else if 400 < (mergeL a b).length then 2 else 0 := by unfold mergeE; rw [if_neg (by simp [hz])]
  rw [em, ej] at h ⊢
  by_cases q : 400 < (joinC a.c b.c).cloud.length
  · simp only [if_pos q]; simp
  · simp only [if_neg q, ne_eq, not_true_eq_false, if_false] at h ⊢
    by_cases q2 : 400 < (mergeL a b).length
    · rw [if_pos q2]
    · rw [if_neg q2] at h; exact absurd rfl h

theorem put_apart {t : Tab} {n key col val : Int} (h : putE t n key col val = 0) : ∀ x ∈ t.cells, ∀ y ∈ (putX t n key col val).cells, x.d = y.d → x = y := by
  obtain ⟨-, h2, -, h4, -⟩ := put_ok h
  intro x hx y hy e
  rw [h2, List.mem_singleton] at hy
  subst hy
  have := tab_has (put_zero h).1 hx
  rw [e] at this
  simp only at this
  rw [h4] at this; cases this
/-- A put, merged. -/
theorem put_merge {t : Tab} {n key col val : Int} (h : putE t n key col val = 0) (hm : mergeE t (putX t n key col val) = 0) :
    (∀ x, x ∈ (mergeX t (putX t n key col val)).cells ↔ (x ∈ t.cells ∧ ¬ (x.key = key ∧ x.col = col)) ∨ x = ⟨nextD t.c n, key, col, val⟩) ∧
    ∀ e, hasB (mergeX t (putX t n key col val)).c e = true ↔ hasB t.c e = true ∨ e = nextD t.c n := by
  obtain ⟨h1, h2, h3, h4, h5⟩ := put_ok h
  obtain ⟨t0, -, -, -⟩ := put_zero h
  obtain ⟨m1, m2, m3⟩ := merge_ok hm
  refine ⟨fun x => ?_, fun e => ?_⟩
  · rw [m3, h2]
    simp only [List.mem_singleton]
    constructor
    · rintro (⟨hx, hq⟩ | ⟨hx, -⟩)
      · rcases hq with hq | hq
        · refine .inl ⟨hx, fun hk => ?_⟩
          have := (h5 x.d).2 (.inr ⟨x, hx, hk, rfl⟩)
          rw [hq] at this; cases this
        · exact .inr hq
      · exact .inr hx
    · rintro (⟨hx, hk⟩ | rfl)
      · refine .inl ⟨hx, .inl ?_⟩
        rw [Bool.eq_false_iff]
        intro hq
        rcases (h5 x.d).1 hq with e | ⟨z, hz, hk', e⟩
        · have := tab_has t0 hx
          rw [e, h4] at this; cases this
        · exact hk (cells_unique t0 z hz x hx e ▸ hk')
      · exact .inr ⟨rfl, .inl h4⟩
  · rw [m2, Bool.or_eq_true, h5]
    constructor
    · rintro (h | h | ⟨z, hz, -, rfl⟩)
      · exact .inl h
      · exact .inr h
      · exact .inl (tab_has t0 hz)
    · rintro (h | h)
      · exact .inl h
      · exact .inr (.inl h)
theorem put_values {t : Tab} {n key col val other : Int} (h : putE t n key col val = 0) (hm : mergeE t (putX t n key col val) = 0) :
    valsL (mergeX t (putX t n key col val)) key col = [val] ∧ (other ≠ col → valsL (mergeX t (putX t n key col val)) key other = valsL t key other) := by
  obtain ⟨h1, -⟩ := put_merge h hm
  refine ⟨vals_one fun u => ?_, fun ho => rise_ext (once_rise _) (once_rise _) fun u => ?_⟩
  · constructor
    · rintro ⟨x, hx, k1, k2, rfl⟩
      rcases (h1 x).1 hx with ⟨_, hq⟩ | rfl
      · exact absurd ⟨k1, k2⟩ hq
      · rfl
    · rintro rfl
      exact ⟨_, (h1 _).2 (.inr rfl), rfl, rfl, rfl⟩
  · rw [vals_mem, vals_mem]
    constructor
    · rintro ⟨x, hx, k1, k2, rfl⟩
      rcases (h1 x).1 hx with ⟨hx', _⟩ | rfl
      · exact ⟨x, hx', k1, k2, rfl⟩
      · exact absurd k2.symm ho
    · rintro ⟨x, hx, k1, k2, rfl⟩
      exact ⟨x, (h1 x).2 (.inl ⟨hx, fun hq => ho (k2.symm.trans hq.2)⟩), k1, k2, rfl⟩

/-! Del: what it tells. -/
theorem del_mem {t : Tab} {key : Int} {e : Int × Int} : e ∈ delL t key ↔ ∃ z ∈ t.cells, z.key = key ∧ z.d = e := by
  unfold delL
  rw [List.mem_map]
  simp only [List.mem_filter, atK, beq_iff_eq, and_assoc]
theorem del_none {t : Tab} {key : Int} (ht : tabI t = 0) (h : delE t key ≠ 0) : key ∉ keysL t := by
  intro hk
  obtain ⟨x, hx, e⟩ := keys_mem.1 hk
  apply h
  unfold delE
  have h1 := (celOk_iff.1 ((tabI_iff.1 ht).2.2.2.1 x hx)).2.2.1
  rw [e] at h1
  have h2 : delL t key ≠ [] := List.ne_nil_of_mem (del_mem.2 ⟨x, hx, e, rfl⟩)
  rw [if_neg (by simp [ht]), if_neg (by simp [h1]), if_neg h2]
  exact (del_pack key ht).2
theorem del_zero {t : Tab} {key : Int} : delE t key = 0 ↔ tabI t = 0 ∧ key ∈ keysL t := by
  constructor
  · intro h
    unfold delE at h
    by_cases h1 : tabI t = 0
    · refine ⟨h1, ?_⟩
      rw [if_neg (by simp [h1])] at h
      by_cases h2 : inB key 0 49 = true
      · rw [if_neg (by simp [h2])] at h
        by_cases h3 : delL t key = []
        · rw [if_pos h3] at h; cases h
        · obtain ⟨e, he⟩ := List.exists_mem_of_ne_nil _ h3
          obtain ⟨z, hz, hk, -⟩ := del_mem.1 he
          exact keys_mem.2 ⟨z, hz, hk⟩
      · rw [if_pos (by simpa using h2)] at h; cases h
    · rw [if_pos h1] at h; exact absurd h h1
  · rintro ⟨h1, h2⟩
    exact Decidable.byContradiction fun h => del_none h1 h h2
theorem del_ok {t : Tab} {key : Int} (h : delE t key = 0) : tabI (delX t key) = 0 ∧ (delX t key).cells = [] ∧ ∀ e, hasB (delX t key).c e = true ↔ ∃ z ∈ t.cells, z.key = key ∧ z.d = e := by
  obtain ⟨h1, h2⟩ := del_zero.1 h
  obtain ⟨x, hx, hk⟩ := keys_mem.1 h2
  have h3 := (celOk_iff.1 ((tabI_iff.1 h1).2.2.2.1 x hx)).2.2.1
  rw [hk] at h3
  have h4 : delL t key ≠ [] := List.ne_nil_of_mem (del_mem.2 ⟨x, hx, hk, rfl⟩)
  have e0 : delX t key = ⟨packL 0 0 0 0 (delL t key), []⟩ := by
    unfold delX
    rw [if_neg (by simp [h1, h3, h4]), (del_pack key h1).1]
  obtain ⟨q1, q2⟩ := pack_zero (delL_right key h1)
  rw [e0]
  exact ⟨tabI_iff.2 ⟨q1, Nat.le_trans pack_length (delL_len key h1), by simp, by simp, by simp⟩, rfl, fun e => by simp only; rw [q2, del_mem]⟩
theorem del_merge {t : Tab} {key : Int} (h : delE t key = 0) : mergeE t (delX t key) = 0 ∧ tabI (mergeX t (delX t key)) = 0 ∧
    (∀ x, x ∈ (mergeX t (delX t key)).cells ↔ x ∈ t.cells ∧ x.key ≠ key) ∧ (∀ e, hasB (mergeX t (delX t key)).c e = hasB t.c e) := by
  obtain ⟨d1, d2, d3⟩ := del_ok h
  obtain ⟨t0, -⟩ := del_zero.1 h
  have hb : bothE t (delX t key) = 0 := bothE_iff.2 ⟨t0, d1, by rw [d2]; simp⟩
  have hsub : ∀ e, hasB (delX t key).c e = true → hasB t.c e = true := fun e he => by
    obtain ⟨z, hz, -, rfl⟩ := (d3 e).1 he
    exact tab_has t0 hz
  obtain ⟨s1, s2, s3, s4, s5⟩ := tabI_iff.1 t0
  obtain ⟨a1, a2, -⟩ := tabI_iff.1 d1
  have ct := checkI_two ((checkI_iff t.c).2 ⟨s1, s2⟩) ((checkI_iff (delX t key).c).2 ⟨a1, a2⟩)
  obtain ⟨j1, j2⟩ := join_ok s1 a1
  have ej : joinC t.c (delX t key).c = t.c := okC_ext j1 s1 fun d => by
    rw [Bool.eq_iff_iff, j2]
    exact ⟨fun h => h.elim id (hsub d), .inl⟩
  have hj : joinE t.c (delX t key).c = 0 := joinE_zero.2 ⟨ct, by rw [ej]; exact s2⟩
  have hml : mergeL t (delX t key) = t.cells.filter (fun x => !hasB (delX t key).c x.d) := cells_ext (mergeL_sorted hb) (s5.filter _) fun x => by
    rw [mergeL_mem, d2, List.mem_filter, Bool.not_eq_true']
    simp only [List.not_mem_nil, or_false, false_and]
  have hlen : (mergeL t (delX t key)).length ≤ 400 := by rw [hml]; exact Nat.le_trans (List.length_filter_le _ _) s3
  have hz : mergeE t (delX t key) = 0 := mergeE_zero.2 ⟨hb, hj, hlen⟩
  obtain ⟨m1, m2, m3⟩ := merge_ok hz
  refine ⟨hz, m1, fun x => ?_, fun e => ?_⟩
  · rw [m3, d2]
    simp only [List.not_mem_nil, or_false, false_and]
    constructor
    · rintro ⟨hx, hq⟩
      refine ⟨hx, fun hk => ?_⟩
      rw [(d3 x.d).2 ⟨x, hx, hk, rfl⟩] at hq; cases hq
    · rintro ⟨hx, hk⟩
      refine ⟨hx, ?_⟩
      rw [Bool.eq_false_iff]
      intro hq
      obtain ⟨z, hz, hk', e⟩ := (d3 x.d).1 hq
      exact hk (cells_unique t0 z hz x hx e ▸ hk')
  · rw [m2]
    cases q : hasB (delX t key).c e
    · simp
    · rw [hsub e q]; rfl
theorem del_keys {t : Tab} {key : Int} (h : delE t key = 0) : mergeE t (delX t key) = 0 ∧ key ∉ keysL (mergeX t (delX t key)) ∧ (keysL (mergeX t (delX t key))).length + 1 = (keysL t).length := by
  obtain ⟨h1, -, h3, -⟩ := del_merge h
  obtain ⟨t0, hk⟩ := del_zero.1 h
  have hn := rise_nodup (once_rise (t.cells.map Cel.key))
  refine ⟨h1, fun hq => ?_, ?_⟩
  · obtain ⟨x, hx, e⟩ := keys_mem.1 hq
    exact ((h3 x).1 hx).2 e
  · have e : keysL (mergeX t (delX t key)) = (keysL t).erase key := by
      refine rise_ext (once_rise _) ((once_rise _).sublist (List.erase_sublist)) fun u => ?_
      rw [keys_mem]
      have := List.Nodup.mem_erase_iff (a := u) (b := key) hn
      rw [show (keysL t) = onceI (t.cells.map Cel.key) from rfl, this, ← show (keysL t) = onceI (t.cells.map Cel.key) from rfl, keys_mem]
      constructor
      · rintro ⟨x, hx, rfl⟩
        exact ⟨((h3 x).1 hx).2, x, ((h3 x).1 hx).1, rfl⟩
      · rintro ⟨hne, x, hx, rfl⟩
        exact ⟨x, (h3 x).2 ⟨hx, hne⟩, rfl⟩
    rw [e, List.length_erase_of_mem hk]
    have := List.length_pos_of_mem hk
    omega

/-! Two who put, one who deletes. -/
theorem wins_law {t : Tab} {key col v w : Int} (h1 : putE t 2 key col v = 0) (h2 : putE t 3 key col w = 0)
    (g1 : mergeE t (putX t 2 key col v) = 0) (g2 : mergeE t (putX t 3 key col w) = 0) (A B : Tab) (hA : A = mergeX t (putX t 2 key col v)) (hB : B = mergeX t (putX t 3 key col w)) :
    tabI A = 0 ∧ tabI B = 0 ∧ (mergeE A B ≠ 0 → mergeE A B = 2) ∧
    (mergeE A B = 0 → (v = w → valsL (mergeX A B) key col = [v]) ∧ (v ≠ w → valsL (mergeX A B) key col = [min v w, max v w])) ∧
    delE B key = 0 ∧ mergeE B (delX B key) = 0 ∧ tabI (mergeX B (delX B key)) = 0 ∧
    (mergeE (mergeX B (delX B key)) A ≠ 0 → mergeE (mergeX B (delX B key)) A = 2) ∧
    (mergeE (mergeX B (delX B key)) A = 0 → valsL (mergeX (mergeX B (delX B key)) A) key col = [v]) := by
  obtain ⟨t0, -, -, -⟩ := put_zero h1
  obtain ⟨p1, p2⟩ := put_merge h1 g1
  obtain ⟨q1, q2⟩ := put_merge h2 g2
  obtain ⟨-, -, n2, f2, -⟩ := put_ok h1
  obtain ⟨-, -, n3, f3, -⟩ := put_ok h2
  have tA := (merge_ok g1).1
  have tB := (merge_ok g2).1
  rw [← hA] at p1 p2 tA
  rw [← hB] at q1 q2 tB
  clear hA hB
  have ne : nextD t.c 2 ≠ nextD t.c 3 := fun e => by rw [e, n3] at n2; cases n2
  have hAd : ∀ x ∈ t.cells, x.d ≠ nextD t.c 2 ∧ x.d ≠ nextD t.c 3 := fun x hx => by
    have := tab_has t0 hx
    exact ⟨fun e => by (rw [e, f2] at this; cases this), fun e => by (rw [e, f3] at this; cases this)⟩
  have hu : ∀ x ∈ A.cells, ∀ y ∈ B.cells, x.d = y.d → x = y := fun x hx y hy e => by
    rcases (p1 x).1 hx with ⟨hx, -⟩ | rfl
    · rcases (q1 y).1 hy with ⟨hy, -⟩ | rfl
      · exact cells_unique t0 x hx y hy e
      · exact absurd e (hAd x hx).2
    · rcases (q1 y).1 hy with ⟨hy, -⟩ | rfl
      · exact absurd e.symm (hAd y hy).1
      · exact absurd e ne
  have hasA3 : hasB A.c (nextD t.c 3) = false := by
    rw [Bool.eq_false_iff]; intro h
    rcases (p2 _).1 h with h | h
    · rw [f3] at h; cases h
    · exact ne h.symm
  have hasB2 : hasB B.c (nextD t.c 2) = false := by
    rw [Bool.eq_false_iff]; intro h
    rcases (q2 _).1 h with h | h
    · rw [f2] at h; cases h
    · exact ne h
  have kB : key ∈ keysL B := keys_mem.2 ⟨_, (q1 _).2 (.inr rfl), rfl⟩
  have dB : delE B key = 0 := del_zero.2 ⟨tB, kB⟩
  obtain ⟨e1, e2, e3, e4⟩ := del_merge dB
  have hu2 : ∀ x ∈ (mergeX B (delX B key)).cells, ∀ y ∈ A.cells, x.d = y.d → x = y := fun x hx y hy e => (hu y hy x ((e3 x).1 hx).1 e.symm).symm
  refine ⟨tA, tB, merge_large tA tB hu, fun hz => ?_, dB, e1, e2, merge_large e2 tA hu2, fun hz => vals_one fun u => ?_⟩
  · obtain ⟨m1, m2, m3⟩ := merge_ok hz
    have hv : ∀ u, (∃ x ∈ (mergeX A B).cells, x.key = key ∧ x.col = col ∧ x.val = u) ↔ u = v ∨ u = w := fun u => by
      constructor
      · rintro ⟨x, hx, k1, k2, rfl⟩
        rcases (m3 x).1 hx with ⟨hx, -⟩ | ⟨hx, -⟩
        · rcases (p1 x).1 hx with ⟨-, hq⟩ | rfl
          · exact absurd ⟨k1, k2⟩ hq
          · exact .inl rfl
        · rcases (q1 x).1 hx with ⟨-, hq⟩ | rfl
          · exact absurd ⟨k1, k2⟩ hq
          · exact .inr rfl
      · rintro (rfl | rfl)
        · exact ⟨_, (m3 _).2 (.inl ⟨(p1 _).2 (.inr rfl), .inl hasB2⟩), rfl, rfl, rfl⟩
        · exact ⟨_, (m3 _).2 (.inr ⟨(q1 _).2 (.inr rfl), .inl hasA3⟩), rfl, rfl, rfl⟩
    refine ⟨fun e => vals_one fun u => by rw [hv, e]; simp, fun e => rise_ext (once_rise _) ?_ fun u => ?_⟩
    · simp only [List.pairwise_cons, List.mem_singleton, forall_eq, List.not_mem_nil, false_implies, implies_true, List.Pairwise.nil, and_true]
      omega
    · rw [vals_mem, hv]
      simp only [List.mem_cons, List.not_mem_nil, or_false]
      omega
  · obtain ⟨m1, m2, m3⟩ := merge_ok hz
    constructor
    · rintro ⟨x, hx, k1, k2, rfl⟩
      rcases (m3 x).1 hx with ⟨hx, -⟩ | ⟨hx, -⟩
      · exact absurd k1 ((e3 x).1 hx).2
      · rcases (p1 x).1 hx with ⟨-, hq⟩ | rfl
        · exact absurd ⟨k1, k2⟩ hq
        · rfl
    · rintro rfl
      exact ⟨_, (m3 _).2 (.inr ⟨(p1 _).2 (.inr rfl), .inl (by rw [e4]; exact hasB2)⟩), rfl, rfl, rfl⟩
end Go.Proofs.Ytogegnikpjcpdaa
/- slices.Index, slices.Contains at int. -/
namespace Go.Proofs.Ytogegnikpjcpdaa
set_option linter.unusedVariables false
open Go.ChangeShapes Go.WideShapes Go.ChangeAt Go.RowKit

set_option maxHeartbeats 1000000 in
set_option maxRecDepth 100000 in
theorem indexI_any (l : List Int) (v : Int) (A : Option Addr) (c : Nat) (w : World) (hr : Row w w.heap.size A (icells l)) (hl : l.length ≤ 9223372036854775807) :
    Calls Try.prog 94 #[.slice A l.length c, .int .i64 v] w (IdxPost (v ∈ l) w) := by
  have HR := hid (fun w1 (hb : Below w.heap.size w w1) => hr.step hb)
  clear hr
  go_enter Try.func94, Try.ntmps94
  go_wp2
  go_loopw [8] (fun i wr => (∃ k : Nat, k ≤ l.length ∧ i = .int .i64 k ∧ ∀ j (h : j < l.length), j < k → l[j] ≠ v) ∧ Below w.heap.size w wr) (fun i _ => l.length - (intOf i).toNat)
  case atStart => exact ⟨⟨0, by omega, rfl, fun j _ h => absurd h (by omega)⟩, Below.refl _ _⟩
  case round =>
    obtain ⟨⟨k, hk, rfl, hno⟩, hbw⟩ := hrel
    have HN := hid hno
    have HBB := hid hbw
    clear hno hbw
    by_cases hlt : k < l.length
    · obtain ⟨b, off, rfl, hb, e0⟩ := (HR.out wr HBB.out).int hlt
      have HG := hid (fun (j : Nat) (hj : j = k) (h : j < l.length) => show l[j] = l[k] by subst hj; rfl)
      have HM := hid (List.getElem_mem hlt)
      generalize l[k] = x at *
      by_cases qe : v = x
      · subst qe
        go_wp2
        go_ret
        exact ⟨k, rfl, iff_of_true (by omega) HM.out, by with_reducible first | exact HBB.out | exact below_drewN HBB.out _⟩
      · have QE := hid qe
        go_wp2
        go_roundw
        case rel =>
          refine ⟨⟨k + 1, by omega, by go_num, fun j h hj => ?_⟩, by with_reducible first | exact HBB.out | exact below_drewN HBB.out _⟩
          by_cases q : j = k
          · rw [HG.out j q h]; exact fun e => QE.out e.symm
          · exact HN.out j h (by omega)
        case measure => simp [intOf]; omega
    · go_wp2
      go_ret
      refine ⟨-1, rfl, iff_of_false (by omega) fun hm => ?_, by with_reducible first | exact HBB.out | exact below_drewN HBB.out _⟩
      obtain ⟨j, hj, e⟩ := List.getElem_of_mem hm
      exact HN.out j hj (by omega) e

set_option maxRecDepth 100000 in
theorem containsI_any (l : List Int) (v : Int) (A : Option Addr) (c : Nat) (w : World) (hr : Row w w.heap.size A (icells l)) (hl : l.length ≤ 9223372036854775807) :
    Calls Try.prog 60 #[.slice A l.length c, .int .i64 v] w fun e w' => e = .returned (.bool (decide (v ∈ l))) ∧ Below w.heap.size w w' := by
  have HI := hid (fun w1 (hb : Below w.heap.size w w1) => indexI_any l v A c w1 (hr.step hb) hl)
  clear hr
  go_enter Try.func60, Try.ntmps60
  go_wp2_with fail
  refine (HI.out _ (by (repeat' (first | (with_reducible exact Below.refl _ _) | (with_reducible assumption) | (with_reducible refine below_drewN ?_ _) | (with_reducible refine Below.drew ?_) | (with_reducible refine Below.alloc ?_ ?_ _) | (with_reducible refine Below.setCell ?_ ?_ _) | (refine Below.trans ?_ (Below.mono (by assumption) ?_)) | go_size)))).mono ?_
  rintro e w1 ⟨i, rfl, hi, hb1⟩
  have HBW := hid (show Below w.heap.size w w1 from (by refine Below.step' ?_ hb1; (repeat' (first | (with_reducible exact Below.refl _ _) | (with_reducible assumption) | (with_reducible refine below_drewN ?_ _) | (with_reducible refine Below.drew ?_) | (with_reducible refine Below.alloc ?_ ?_ _) | (with_reducible refine Below.setCell ?_ ?_ _) | (refine Below.trans ?_ (Below.mono (by assumption) ?_)) | go_size))))
  go_wp2
  go_ret
  refine ⟨?_, HBW.out⟩
  by_cases h : v ∈ l <;> simp_all
end Go.Proofs.Ytogegnikpjcpdaa
