/- RwA -/
import Derived.Test.YtamlaeocojcgdaaDoorQueryReadsCardS11
import Derived.Deep.CutBlock
import Derived.Deep.CutRange
/- viewref.Widths, viewref.Query. -/
namespace Go.Proofs.YtamlaeocojcgdaaDoor
set_option linter.unusedVariables false
set_option linter.unusedSimpArgs false
open Go.ChangeShapes Go.WideShapes Go.ChangeAt Go.RowKit

theorem inB_wi (n lo hi : Int) : inB n lo hi = wiB n lo hi := rfl
/-- What Widths tells. -/
def WidPost (q : List St) (w : World) (e : Ending) (w' : World) : Prop :=
  Below w.heap.size w w' ∧ ((widsL q [] = none ∧ e = .returned (.tuple #[.slice none 0 0, .bool false])) ∨
    ∃ (V : List Int) (v : Value), widsL q [] = some V ∧ e = .returned (.tuple #[v, .bool true]) ∧ w'.ownsRow w.heap.size 3 1 v V.length (icells' V))
theorem wids_stop {s : St} {q : List St} {V : List Int} (h : stW s V = 0) : widsL (s :: q) V = none := by rw [widsL, if_pos h]
theorem wids_go {s : St} {q : List St} {V : List Int} (h : stW s V ≠ 0) : widsL (s :: q) V = widsL q (V ++ [stW s V]) := by rw [widsL, if_neg h]
theorem sts_drop {L : List SR} {i : Nat} (h : i < L.length) : sts (L.drop i) = L[i].st :: sts (L.drop (i + 1)) := by rw [List.drop_eq_getElem_cons h]; rfl
theorem icells_snoc1 (V : List Int) (n : Int) : icells' (V ++ [n]) = icells' V ++ [.int .i64 n] := by simp
theorem int_one (n : Int) : ∀ u ∈ ([.int .i64 n] : List Value), u.oneCell' = true := fun u hu => by rw [List.mem_singleton.1 hu]; rfl
theorem ne_b {n : Int} {c : Int} (h : n ≠ c) : (n != c) = true := by simpa using h
theorem eq_b {n : Int} {c : Int} (h : n = c) : (n != c) = false := by simpa using h
theorem ne_e {n : Int} {c : Int} (h : n ≠ c) : (n == c) = false := by simpa using h
theorem eq_e {n : Int} {c : Int} (h : n = c) : (n == c) = true := by simpa using h
def okP (sl : List Int) (a : Int) (j : Nat) : Bool := inB (sl.length : Int) 1 8 && (sl.take j).all (fun n => wiB n 0 (a - 1))
theorem okP_zero (sl : List Int) (a : Int) : okP sl a 0 = inB (sl.length : Int) 1 8 := by simp [okP]
theorem okP_succ (sl : List Int) (a : Int) {j : Nat} (h : j < sl.length) : okP sl a (j + 1) = (okP sl a j && inB sl[j] 0 (a - 1)) := by
  unfold okP
  rw [List.take_succ_eq_append_getElem h, List.all_append, Bool.and_assoc]
  simp [inB_wi]
theorem okP_all (sl : List Int) (a : Int) : okP sl a sl.length = (inB (sl.length : Int) 1 8 && sl.all (fun n => wiB n 0 (a - 1))) := by unfold okP; rw [List.take_length]
/-- Widths are small. -/
theorem refN_pos {s : St} {a b : Int} (ha : 1 ≤ a ∧ a ≤ 8) (hb : 1 ≤ b ∧ b ≤ 8) (h : refBad2 s a b = false) : 1 ≤ refN s a b ∧ refN s a b ≤ 8 := by
  unfold refBad2 at h
  rw [Bool.or_eq_false_iff, Bool.not_eq_false'] at h
  have h1 := h.1
  unfold refOk at h1
  unfold refN
  by_cases k3 : s.kind = 3
  · rw [if_neg (by omega), if_pos k3, Bool.and_eq_true, wiB_iff] at h1
    rw [if_pos k3]; exact h1.1
  · rw [if_neg k3]
    by_cases k4 : s.kind = 4
    · rw [if_neg (by omega), if_neg k3, if_pos k4, Bool.and_eq_true] at h1
      have := of_decide_eq_true h1.1
      rw [if_pos k4]; omega
    · rw [if_neg k4]
      split <;> omega

set_option maxHeartbeats 16000000 in
set_option maxRecDepth 100000 in
theorem Rwidths_any (L : List SR) (A : Option Addr) (c : Nat) (w : World) (hr : RowS w w.heap.size A L) (hl : L.length ≤ 8) :
    Calls Tryd.prog 8 #[.slice A L.length c] w (WidPost (sts L) w) := by
  have HR := hid hr
  clear hr
  obtain ⟨Wf, hWf⟩ : ∃ q, q = widsL (sts L) [] := ⟨_, rfl⟩
  have HWF := hid hWf
  clear hWf
  go_enter Tryd.func8, Tryd.ntmps8
  go_wp2_with fail
  -- STOP-a
  go_loopw [4, 5] (fun s4 s5 wr => ∃ (i : Nat) (V : List Int), i ≤ L.length ∧ s5 = .int .i64 i ∧ V.length = i ∧ Hid (widsL (sts (L.drop i)) V = Wf) ∧ Hid (∀ v ∈ V, 1 ≤ v ∧ v ≤ 8) ∧ Hid (wr.ownsRow w.heap.size 3 1 s4 V.length (icells' V)) ∧ Hid (Below w.heap.size w wr)) (fun _ s5 _ => L.length - (intOf s5).toNat)
  case atStart => exact ⟨0, [], by omega, rfl, rfl, hid HWF.out.symm, hid (fun v hv => by simp at hv), hid (World.ownsRow_nil _ _ _ _), hid (Below.refl _ _)⟩
  case round =>
    obtain ⟨i, V, hi, rfl, hVi, HWD, HVP, HOW, HB⟩ := hrel
    obtain ⟨wo, rfl⟩ : ∃ wx : World, wx = wr := ⟨_, rfl⟩
    obtain ⟨A4, c4, rfl⟩ := own_formS HOW.out
    have hsz := HB.out.size
    have hV8 : V.length ≤ 8 := by omega
    have HVI := hid hVi
    clear hVi
    by_cases hlt : i < L.length
    · have t1 : ((i : Int) < (L.length : Int)) = True := eq_true (by omega)
      obtain ⟨b, off, rfl, hb, h0, h1, h2, h3, h4, h5, h6⟩ := (HR.out.step HB.out).1.sr hlt
      have hst := (HR.out.step HB.out).2 _ (List.getElem_mem hlt)
      have HSD := hid (sts_drop hlt)
      generalize L[i] = x at *
      obtain ⟨⟨k, sa, sb, sc, so, sv, sl⟩, xA, xk⟩ := x
      simp only at h0 h1 h2 h3 h4 h5 h6 hst
      obtain ⟨s, hs⟩ : ∃ s : St, s = ⟨k, sa, sb, sc, so, sv, sl⟩ := ⟨_, rfl⟩
      rw [← hs] at HSD
      have HSS := hid hs
      clear hs
      obtain ⟨W, hW⟩ : ∃ W : World, W = wo.alloc (.cells #[.int .i64 k, .int .i64 sa, .int .i64 sb, .int .i64 sc, .int .i64 so, .int .i64 sv, .slice xA sl.length xk] 40) := ⟨_, rfl⟩
      have HBW := hid (show Below wo.heap.size wo W by rw [hW]; exact alloc_below (Below.refl _ _) _)
      have HXB := hid (show Blk W wo.heap.size #[.int .i64 k, .int .i64 sa, .int .i64 sb, .int .i64 sc, .int .i64 so, .int .i64 sv, .slice xA sl.length xk] 40 by rw [hW]; exact Blk.new _ _ _)
      have HLS := hid (hst.1.step HBW.out)
      have hsl := hst.2
      have HOWW := hid (own_laterS HOW.out HBW.out)
      have HBB := hid (Below.step' HB.out HBW.out)
      clear hst
      go_upto_region 6 with fail
      -- STOP-b
      rw [← hW]
      clear hW h0 h1 h2 h3 h4 h5 h6 hb
      obtain ⟨cHXB, fHXB, sHXB, nHXB⟩ := HXB.out.all
      try simp only [cbox] at cHXB
      go_upto_region 7 with fail
      -- STOP-c
      go_cut [8] from 29 to 38 (fun s8 wx => s8 = .bool (twoB s) ∧ wx = W)
      case first => as_aux_lemma =>
        have HV := hid (show twoB s = (k == 4 || (k == 5 || k == 6)) by rw [HSS.out]; rfl)
        have HWC : W = W := rfl
        by_cases k4 : k = 4
        · have t4 := eq_e k4
          replace HV : Hid (twoB s = true) := hid (by rw [HV.out, t4]; rfl)
          clear k4
          go_wp2_with (go_at_call 9; refine (in_any _ _ _ _).mono ?_; rintro e w' ⟨rfl, rfl⟩)
          -- STOP-q
          go_meet
          case rel => exact ⟨by rw [HV.out], by first | rfl | trivial⟩
        · have t4 := ne_e k4
          by_cases k5 : k = 5
          · have t5 := eq_e k5
            replace HV : Hid (twoB s = true) := hid (by rw [HV.out, t4, t5]; rfl)
            clear k4 k5
            go_wp2_with (go_at_call 9; refine (in_any _ _ _ _).mono ?_; rintro e w' ⟨rfl, rfl⟩)
            -- STOP-q
            go_meet
            case rel => exact ⟨by rw [HV.out], by first | rfl | trivial⟩
          · have t5 := ne_e k5
            by_cases k6 : k = 6
            · have t6 := eq_e k6
              replace HV : Hid (twoB s = true) := hid (by rw [HV.out, t4, t5, t6]; rfl)
              clear k4 k5 k6
              go_wp2_with (go_at_call 9; refine (in_any _ _ _ _).mono ?_; rintro e w' ⟨rfl, rfl⟩)
              -- STOP-q
              go_meet
              case rel => exact ⟨by rw [HV.out], by first | rfl | trivial⟩
            · have t6 := ne_e k6
              replace HV : Hid (twoB s = false) := hid (by rw [HV.out, t4, t5, t6]; rfl)
              clear k4 k5 k6
              go_wp2_with (go_at_call 9; refine (in_any _ _ _ _).mono ?_; rintro e w' ⟨rfl, rfl⟩)
              -- STOP-q
              go_meet
              case rel => exact ⟨by rw [HV.out], by first | rfl | trivial⟩
      case rest =>
        obtain ⟨rfl, rfl⟩ := hcut
        obtain ⟨tw, htw⟩ : ∃ q, q = twoB s := ⟨_, rfl⟩
        rw [← htw]
        have HTW := hid htw
        clear htw
        by_cases hk1 : k = 1
        · have t2 := eq_e hk1
          have HKS := hid (show s.kind = 1 by rw [HSS.out]; exact hk1)
          clear hk1
          go_upto_region 9 with fail
          -- STOP-d
          go_cut [70] from 41 to 70 (fun s70 wx => s70 = .bool (!tblB s) ∧ wx = wc)
          case first => as_aux_lemma =>
            have HV := hid (show (!tblB s) = !(wiB sa 0 1 && (sb == 0 && (sc == 0 && (so == 0 && (sv == 0 && sl.length == 0))))) by rw [HSS.out]; rfl)
            have HWC : wc = wc := rfl
            have HI := hid (fun w1 => in_any sa 0 1 w1)
            rw [inB_wi] at HI
            obtain ⟨ia, hia⟩ : ∃ q, q = wiB sa 0 1 := ⟨_, rfl⟩
            rw [← hia] at HI HV
            clear hia
            cases ia
            · skip
              replace HV : Hid ((!tblB s) = true) := hid (by rw [HV.out]; rfl)
              go_wp2_with (go_at_call 9; refine (HI.out _).mono ?_; rintro e w' ⟨rfl, rfl⟩)
              go_meet
              case rel => exact ⟨by rw [HV.out], by first | rfl | trivial⟩
            · skip
              by_cases q0 : sb = 0
              rotate_left
              · have e0 := ne_b q0
                have f0 := ne_e q0
                clear q0
                replace HV : Hid ((!tblB s) = true) := hid (by rw [HV.out, f0]; rfl)
                go_wp2_with (go_at_call 9; refine (HI.out _).mono ?_; rintro e w' ⟨rfl, rfl⟩)
                go_meet
                case rel => exact ⟨by rw [HV.out], by first | rfl | trivial⟩
              have e0 := eq_b q0
              have f0 := eq_e q0
              clear q0
              by_cases q1 : sc = 0
              rotate_left
              · have e1 := ne_b q1
                have f1 := ne_e q1
                clear q1
                replace HV : Hid ((!tblB s) = true) := hid (by rw [HV.out, f0, f1]; rfl)
                go_wp2_with (go_at_call 9; refine (HI.out _).mono ?_; rintro e w' ⟨rfl, rfl⟩)
                go_meet
                case rel => exact ⟨by rw [HV.out], by first | rfl | trivial⟩
              have e1 := eq_b q1
              have f1 := eq_e q1
              clear q1
              by_cases q2 : so = 0
              rotate_left
              · have e2 := ne_b q2
                have f2 := ne_e q2
                clear q2
                replace HV : Hid ((!tblB s) = true) := hid (by rw [HV.out, f0, f1, f2]; rfl)
                go_wp2_with (go_at_call 9; refine (HI.out _).mono ?_; rintro e w' ⟨rfl, rfl⟩)
                go_meet
                case rel => exact ⟨by rw [HV.out], by first | rfl | trivial⟩
              have e2 := eq_b q2
              have f2 := eq_e q2
              clear q2
              by_cases q3 : sv = 0
              rotate_left
              · have e3 := ne_b q3
                have f3 := ne_e q3
                clear q3
                replace HV : Hid ((!tblB s) = true) := hid (by rw [HV.out, f0, f1, f2, f3]; rfl)
                go_wp2_with (go_at_call 9; refine (HI.out _).mono ?_; rintro e w' ⟨rfl, rfl⟩)
                go_meet
                case rel => exact ⟨by rw [HV.out], by first | rfl | trivial⟩
              have e3 := eq_b q3
              have f3 := eq_e q3
              clear q3
              by_cases q9 : sl.length = 0
              · have e9 : ((sl.length : Int) != 0) = false := eq_b (by omega)
                have f9 : (sl.length == 0) = true := by simpa using q9
                clear q9
                replace HV : Hid ((!tblB s) = false) := hid (by rw [HV.out, f0, f1, f2, f3, f9]; rfl)
                go_wp2_with (go_at_call 9; refine (HI.out _).mono ?_; rintro e w' ⟨rfl, rfl⟩)
                go_meet
                case rel => exact ⟨by rw [HV.out], by first | rfl | trivial⟩
              · have e9 : ((sl.length : Int) != 0) = true := ne_b (by omega)
                have f9 : (sl.length == 0) = false := by simpa using q9
                clear q9
                replace HV : Hid ((!tblB s) = true) := hid (by rw [HV.out, f0, f1, f2, f3, f9]; rfl)
                go_wp2_with (go_at_call 9; refine (HI.out _).mono ?_; rintro e w' ⟨rfl, rfl⟩)
                go_meet
                case rel => exact ⟨by rw [HV.out], by first | rfl | trivial⟩
          case rest =>
            obtain ⟨rfl, rfl⟩ := hcut
            have HSW := hid (show stW s V = if tblB s = true then 4 else 0 by unfold stW; rw [if_pos HKS.out])
            obtain ⟨tb, htb⟩ : ∃ q, q = tblB s := ⟨_, rfl⟩
            rw [← htb] at HSW ⊢
            clear htb
            cases tb
            · have HNO := hid (show Wf = none by rw [← HWD.out, HSD.out]; exact wids_stop (by rw [HSW.out]; rfl))
              go_wp2_with fail
              -- STOP-e
              go_ret2
              exact ⟨HBB.out, .inl ⟨by rw [← HWF.out]; exact HNO.out, rfl⟩⟩
            · have h4 : stW s V = 4 := HSW.out
              have HGO := hid (show widsL (sts (L.drop (i + 1))) (V ++ [4]) = Wf by rw [← HWD.out, HSD.out, wids_go (by rw [h4]; decide), h4])
              clear h4
              go_wp2_with (at_builtin; refine wpList_append_row elem_int rfl _ _ rfl w.heap.size _ _ _ rfl (HOWW.out.alloc _) (some ⟨wc.heap.size, 0, none⟩) 1 1 (wc.heap.size + 1) [.int .i64 4] rfl rfl (Row.new' _ _ _ rfl rfl (Nat.lt_succ_self _)) (int_one 4) ?_ ?_ ?_ ?_; rotate_right; intro v7 w7 hown7 hg7 hif7; rotate_left; (simp only [maxLen]; omega); (omega); (have := HBB.out.size; simp; omega))
              -- STOP-f
              go_roundw
              case rel =>
                refine ⟨i + 1, V ++ [4], by omega, by go_num, by rw [List.length_append, HVI.out]; rfl, HGO, hid (fun v hv => ?_), hid ?_, hid (((HBB.out.alloc HBB.out.size _)).grown hg7 (by have := HBB.out.size; simp; omega) (fun g e => (HOWW.out.lt g e).1))⟩
                · rcases List.mem_append.1 hv with q | q
                  · exact HVP.out v q
                  · rw [List.mem_singleton.1 q]; decide
                · rw [List.length_append, icells_snoc1]; exact hown7
              case measure => simp [intOf]; omega
        · have t2 := ne_e hk1
          have HKS := hid (show s.kind ≠ 1 by rw [HSS.out]; exact hk1)
          clear hk1
          go_upto_region 12 with fail
          -- STOP-g
          have hii : IntKind.i64.wrap ((i : Int) - 1) = (i : Int) - 1 := IntWalk.i64_in _ (by omega)
          go_cut [8, 114] from 74 to 114 (fun _ s114 wx => s114 = .bool (refBad1 s ((i : Int) - 1)) ∧ wx = wc)
          case first => as_aux_lemma =>
            have HV := hid (show refBad1 s ((i : Int) - 1) = (!wiB k 1 9 || (!wiB sa 0 ((i : Int) - 1) || ((!tw && sb != 0) || ((tw && !wiB sb 0 ((i : Int) - 1)) || (sl.length != 0 && k != 3))))) by rw [HTW.out, HSS.out]; rfl)
            have HIK := hid (fun w1 => in_any k 1 9 w1)
            have HIA := hid (fun w1 => in_any sa 0 ((i : Int) - 1) w1)
            have HIB := hid (fun w1 => in_any sb 0 ((i : Int) - 1) w1)
            rw [inB_wi] at HIK HIA HIB
            obtain ⟨ik, hik⟩ : ∃ q, q = wiB k 1 9 := ⟨_, rfl⟩
            obtain ⟨ia, hia⟩ : ∃ q, q = wiB sa 0 ((i : Int) - 1) := ⟨_, rfl⟩
            obtain ⟨ib, hib⟩ : ∃ q, q = wiB sb 0 ((i : Int) - 1) := ⟨_, rfl⟩
            rw [← hik] at HIK HV
            rw [← hia] at HIA HV
            rw [← hib] at HIB HV
            clear hik hia hib
            cases ik
            · skip
              replace HV : Hid (refBad1 s ((i : Int) - 1) = true) := hid (by rw [HV.out]; rfl)
              go_wp2_with (first | (go_at_call 9; (with_reducible refine (HIK.out _).mono ?_); rintro e w' ⟨rfl, rfl⟩) | (go_at_call 9; (with_reducible refine (HIA.out _).mono ?_); rintro e w' ⟨rfl, rfl⟩) | (go_at_call 9; (with_reducible refine (HIB.out _).mono ?_); rintro e w' ⟨rfl, rfl⟩))
              go_meet
              case rel => exact ⟨by rw [HV.out], by first | rfl | trivial⟩
            · cases ia
              · skip
                replace HV : Hid (refBad1 s ((i : Int) - 1) = true) := hid (by rw [HV.out]; rfl)
                go_wp2_with (first | (go_at_call 9; (with_reducible refine (HIK.out _).mono ?_); rintro e w' ⟨rfl, rfl⟩) | (go_at_call 9; (with_reducible refine (HIA.out _).mono ?_); rintro e w' ⟨rfl, rfl⟩) | (go_at_call 9; (with_reducible refine (HIB.out _).mono ?_); rintro e w' ⟨rfl, rfl⟩))
                go_meet
                case rel => exact ⟨by rw [HV.out], by first | rfl | trivial⟩
              · skip
                cases tw
                · by_cases q0 : sb = 0
                  rotate_left
                  · have e0 := ne_b q0
                    clear q0
                    replace HV : Hid (refBad1 s ((i : Int) - 1) = true) := hid (by rw [HV.out, e0]; rfl)
                    go_wp2_with (first | (go_at_call 9; (with_reducible refine (HIK.out _).mono ?_); rintro e w' ⟨rfl, rfl⟩) | (go_at_call 9; (with_reducible refine (HIA.out _).mono ?_); rintro e w' ⟨rfl, rfl⟩) | (go_at_call 9; (with_reducible refine (HIB.out _).mono ?_); rintro e w' ⟨rfl, rfl⟩))
                    go_meet
                    case rel => exact ⟨by rw [HV.out], by first | rfl | trivial⟩
                  have e0 := eq_b q0
                  clear q0
                  by_cases ql : sl.length = 0
                  · have e9 : ((sl.length : Int) != 0) = false := eq_b (by omega)
                    have f9 : (sl.length != 0) = false := by simpa using ql
                    clear ql
                    replace HV : Hid (refBad1 s ((i : Int) - 1) = false) := hid (by rw [HV.out, e0, f9]; rfl)
                    go_wp2_with (first | (go_at_call 9; (with_reducible refine (HIK.out _).mono ?_); rintro e w' ⟨rfl, rfl⟩) | (go_at_call 9; (with_reducible refine (HIA.out _).mono ?_); rintro e w' ⟨rfl, rfl⟩) | (go_at_call 9; (with_reducible refine (HIB.out _).mono ?_); rintro e w' ⟨rfl, rfl⟩))
                    go_meet
                    case rel => exact ⟨by rw [HV.out], by first | rfl | trivial⟩
                  · have e9 : ((sl.length : Int) != 0) = true := ne_b (by omega)
                    have f9 : (sl.length != 0) = true := by simpa using ql
                    clear ql
                    by_cases q3 : k = 3
                    · have e3 := eq_b q3
                      clear q3
                      replace HV : Hid (refBad1 s ((i : Int) - 1) = false) := hid (by rw [HV.out, e0, f9, e3]; rfl)
                      go_wp2_with (first | (go_at_call 9; (with_reducible refine (HIK.out _).mono ?_); rintro e w' ⟨rfl, rfl⟩) | (go_at_call 9; (with_reducible refine (HIA.out _).mono ?_); rintro e w' ⟨rfl, rfl⟩) | (go_at_call 9; (with_reducible refine (HIB.out _).mono ?_); rintro e w' ⟨rfl, rfl⟩))
                      go_meet
                      case rel => exact ⟨by rw [HV.out], by first | rfl | trivial⟩
                    · have e3 := ne_b q3
                      clear q3
                      replace HV : Hid (refBad1 s ((i : Int) - 1) = true) := hid (by rw [HV.out, e0, f9, e3]; rfl)
                      go_wp2_with (first | (go_at_call 9; (with_reducible refine (HIK.out _).mono ?_); rintro e w' ⟨rfl, rfl⟩) | (go_at_call 9; (with_reducible refine (HIA.out _).mono ?_); rintro e w' ⟨rfl, rfl⟩) | (go_at_call 9; (with_reducible refine (HIB.out _).mono ?_); rintro e w' ⟨rfl, rfl⟩))
                      go_meet
                      case rel => exact ⟨by rw [HV.out], by first | rfl | trivial⟩
                · cases ib
                  · skip
                    replace HV : Hid (refBad1 s ((i : Int) - 1) = true) := hid (by rw [HV.out]; rfl)
                    go_wp2_with (first | (go_at_call 9; (with_reducible refine (HIK.out _).mono ?_); rintro e w' ⟨rfl, rfl⟩) | (go_at_call 9; (with_reducible refine (HIA.out _).mono ?_); rintro e w' ⟨rfl, rfl⟩) | (go_at_call 9; (with_reducible refine (HIB.out _).mono ?_); rintro e w' ⟨rfl, rfl⟩))
                    go_meet
                    case rel => exact ⟨by rw [HV.out], by first | rfl | trivial⟩
                  · skip
                    by_cases ql : sl.length = 0
                    · have e9 : ((sl.length : Int) != 0) = false := eq_b (by omega)
                      have f9 : (sl.length != 0) = false := by simpa using ql
                      clear ql
                      replace HV : Hid (refBad1 s ((i : Int) - 1) = false) := hid (by rw [HV.out, f9]; rfl)
                      go_wp2_with (first | (go_at_call 9; (with_reducible refine (HIK.out _).mono ?_); rintro e w' ⟨rfl, rfl⟩) | (go_at_call 9; (with_reducible refine (HIA.out _).mono ?_); rintro e w' ⟨rfl, rfl⟩) | (go_at_call 9; (with_reducible refine (HIB.out _).mono ?_); rintro e w' ⟨rfl, rfl⟩))
                      go_meet
                      case rel => exact ⟨by rw [HV.out], by first | rfl | trivial⟩
                    · have e9 : ((sl.length : Int) != 0) = true := ne_b (by omega)
                      have f9 : (sl.length != 0) = true := by simpa using ql
                      clear ql
                      by_cases q3 : k = 3
                      · have e3 := eq_b q3
                        clear q3
                        replace HV : Hid (refBad1 s ((i : Int) - 1) = false) := hid (by rw [HV.out, f9, e3]; rfl)
                        go_wp2_with (first | (go_at_call 9; (with_reducible refine (HIK.out _).mono ?_); rintro e w' ⟨rfl, rfl⟩) | (go_at_call 9; (with_reducible refine (HIA.out _).mono ?_); rintro e w' ⟨rfl, rfl⟩) | (go_at_call 9; (with_reducible refine (HIB.out _).mono ?_); rintro e w' ⟨rfl, rfl⟩))
                        go_meet
                        case rel => exact ⟨by rw [HV.out], by first | rfl | trivial⟩
                      · have e3 := ne_b q3
                        clear q3
                        replace HV : Hid (refBad1 s ((i : Int) - 1) = true) := hid (by rw [HV.out, f9, e3]; rfl)
                        go_wp2_with (first | (go_at_call 9; (with_reducible refine (HIK.out _).mono ?_); rintro e w' ⟨rfl, rfl⟩) | (go_at_call 9; (with_reducible refine (HIA.out _).mono ?_); rintro e w' ⟨rfl, rfl⟩) | (go_at_call 9; (with_reducible refine (HIB.out _).mono ?_); rintro e w' ⟨rfl, rfl⟩))
                        go_meet
                        case rel => exact ⟨by rw [HV.out], by first | rfl | trivial⟩
          case rest =>
            obtain ⟨rfl, rfl⟩ := hcut
            have HRS := hid (ref_step s V HKS.out)
            rw [HVI.out] at HRS
            have HB1 := hid (show refBad1 s ((i : Int) - 1) = false → (0 ≤ sa ∧ sa < i) ∧ (0 ≤ sb ∧ sb < i) from fun h => by
              have h' := h
              rw [HSS.out] at h'
              simp [refBad1, wiB, twoB] at h'
              omega)
            obtain ⟨b1, hb1⟩ : ∃ q, q = refBad1 s ((i : Int) - 1) := ⟨_, rfl⟩
            have HB1F := hid hb1
            rw [← hb1] at HRS HB1 ⊢
            clear hb1
            cases b1
            rotate_left
            · have HNO := hid (show Wf = none by rw [← HWD.out, HSD.out]; exact wids_stop (by rw [HRS.out]; rfl))
              go_wp2_with fail
              -- STOP-h
              go_ret2
              exact ⟨HBB.out, .inl ⟨by rw [← HWF.out]; exact HNO.out, rfl⟩⟩
            · obtain ⟨⟨ga0, ga1⟩, gb0, gb1⟩ := HB1.out rfl
              obtain ⟨na, rfl⟩ : ∃ n : Nat, sa = (n : Int) := ⟨sa.toNat, by omega⟩
              obtain ⟨nb, rfl⟩ : ∃ n : Nat, sb = (n : Int) := ⟨sb.toNat, by omega⟩
              have ga : na < V.length := by have := HVI.out; omega
              have gb : nb < V.length := by have := HVI.out; omega
              obtain ⟨b4, o4, rfl, hb4, ha4⟩ := (Row.of_ownS HOWW.out).int' ga
              obtain ⟨b4', o4', hA4, hb4', hb5⟩ := (Row.of_ownS HOWW.out).int' gb
              injection hA4 with hA4
              injection hA4 with q1 q2
              subst q1 q2
              have HPA := hid (HVP.out _ (List.getElem_mem ga))
              have HPB := hid (HVP.out _ (List.getElem_mem gb))
              have hga := show V.getD (na : Int).toNat 0 = V[na] by simp [List.getD, ga]
              have hgb := show V.getD (nb : Int).toNat 0 = V[nb] by simp [List.getD, gb]
              have hsa : s.a = (na : Int) := by rw [HSS.out]
              have hsb : s.b = (nb : Int) := by rw [HSS.out]
              rw [hsa, hsb, hga, hgb] at HRS
              clear hga hgb hsa hsb
              generalize V[na] = a at *
              generalize V[nb] = bb at *
              have ga2 : ((na : Int) < (V.length : Int)) = True := eq_true (by omega)
              have gb2 : ((nb : Int) < (V.length : Int)) = True := eq_true (by omega)
              go_upto_region 14 with fail
              -- STOP-i
              go_region
              all_goals
                go_upto_block 2 with fail
                -- STOP-j
                obtain ⟨W2, hW2⟩ : ∃ q : World, q = wc.drew := ⟨_, rfl⟩
                rw [← hW2]
                have hb2 : Below wc.heap.size wc W2 := by rw [hW2]; exact (Below.refl _ _).drew
                clear hW2
                have HXB2 := hid (HXB.out.step hb2)
                have HLS2 := hid (HLS.out.step hb2)
                have HOW2 := hid (own_laterS HOWW.out hb2)
                have HBB2 := hid (Below.step' HBB.out hb2)
                clear hb2
                clear cHXB fHXB sHXB nHXB
                have HKW := hid (show 2 ≤ k ∧ k ≤ 9 from by
                  have h' : refBad1 s ((i : Int) - 1) = false := HB1F.out.symm
                  have h2 : k ≠ 1 := fun e => HKS.out (by rw [HSS.out]; exact e)
                  rw [HSS.out] at h'
                  simp [refBad1, wiB, twoB] at h'
                  omega)
                have HNV := hid (show refN s a bb = if k = 3 then (sl.length : Int) else if k = 4 then a + bb else if k = 8 ∨ k = 9 then 2 else a by rw [HSS.out]; rfl)
                have HOV := hid (show refOk s a bb = if k = 2 then inB so 1 3 && inB sv (-1073741824) 1073741824 else if k = 3 then inB (sl.length : Int) 1 8 && sl.all (fun n => wiB n 0 (a - 1)) else if k = 4 then decide (a + bb ≤ 8) && inB sv 0 (bb - 1) else if k = 5 ∨ k = 6 then a == bb else if k = 9 then inB sv 0 (a - 1) else true by rw [HSS.out]; rfl)
                have HCV := hid (show refCol s = (k == 2 || (k == 4 || (k == 8 || k == 9))) by rw [HSS.out]; rfl)
                have HPV := hid (show refOp s = (k == 2) by rw [HSS.out]; rfl)
                have HLV := hid (show refVal s = (k == 2 || (k == 4 || k == 9)) by rw [HSS.out]; rfl)
                have hpa := HPA.out
                have hpb := HPB.out
                have hwa : IntKind.i64.wrap (a - 1) = a - 1 := IntWalk.i64_in _ (by omega)
                have hwb : IntKind.i64.wrap (bb - 1) = bb - 1 := IntWalk.i64_in _ (by omega)
                have hwab : IntKind.i64.wrap (a + bb) = a + bb := IntWalk.i64_in _ (by omega)
                go_cut [11, 12, 13, 14, 15, 16] from 127 to 188 (fun s11 s12 s13 s14 s15 _ wx => s11 = .int .i64 (refN s a bb) ∧ s12 = .bool (refOk s a bb) ∧ s13 = .bool (refCol s) ∧ s14 = .bool (refOp s) ∧ s15 = .bool (refVal s) ∧ wx = W2)
                case first => as_aux_lemma =>
                  have hkw := HKW.out
                  have hcase : k = 2 ∨ k = 3 ∨ k = 4 ∨ k = 5 ∨ k = 6 ∨ k = 7 ∨ k = 8 ∨ k = 9 := by omega
                  obtain ⟨cHXB2, fHXB2, sHXB2, nHXB2⟩ := HXB2.out.all
                  try simp only [cbox] at cHXB2
                  rcases hcase with hk | hk | hk | hk | hk | hk | hk | hk
                  · have HN := hid (show refN s a bb = a by rw [HNV.out, hk]; rfl)
                    have HO := hid (show refOk s a bb = (inB so 1 3 && inB sv (-1073741824) 1073741824) by rw [HOV.out, hk]; rfl)
                    have HC := hid (show refCol s = true by rw [HCV.out, hk]; rfl)
                    have HP := hid (show refOp s = true by rw [HPV.out, hk]; rfl)
                    have HL := hid (show refVal s = true by rw [HLV.out, hk]; rfl)
                    have z2 : (k == 2) = true := eq_e hk
                    have z3 : (k == 3) = false := ne_e (by omega)
                    have z4 : (k == 4) = false := ne_e (by omega)
                    have z5 : (k == 5) = false := ne_e (by omega)
                    have z6 : (k == 6) = false := ne_e (by omega)
                    have z8 : (k == 8) = false := ne_e (by omega)
                    have z9 : (k == 9) = false := ne_e (by omega)
                    clear hk hkw
                    cases qo : inB so 1 3
                    · skip
                      go_wp2_with (go_at_call 9; refine (in_any _ _ _ _).mono ?_; rintro e w' ⟨rfl, rfl⟩)
                      go_meet
                      case rel => exact ⟨by rw [HN.out], by rw [HO.out, qo]; rfl, by rw [HC.out], by rw [HP.out], by rw [HL.out], by first | rfl | trivial⟩
                    · skip
                      go_wp2_with (go_at_call 9; refine (in_any _ _ _ _).mono ?_; rintro e w' ⟨rfl, rfl⟩)
                      go_meet
                      case rel => exact ⟨by rw [HN.out], by rw [HO.out, qo]; rfl, by rw [HC.out], by rw [HP.out], by rw [HL.out], by first | rfl | trivial⟩
                  · have HN := hid (show refN s a bb = (sl.length : Int) by rw [HNV.out, hk]; rfl)
                    have HO := hid (show refOk s a bb = (inB (sl.length : Int) 1 8 && sl.all (fun n => wiB n 0 (a - 1))) by rw [HOV.out, hk]; rfl)
                    have HC := hid (show refCol s = false by rw [HCV.out, hk]; rfl)
                    have HP := hid (show refOp s = false by rw [HPV.out, hk]; rfl)
                    have HL := hid (show refVal s = false by rw [HLV.out, hk]; rfl)
                    have z2 : (k == 2) = false := ne_e (by omega)
                    have z3 : (k == 3) = true := eq_e hk
                    have z4 : (k == 4) = false := ne_e (by omega)
                    have z5 : (k == 5) = false := ne_e (by omega)
                    have z6 : (k == 6) = false := ne_e (by omega)
                    have z8 : (k == 8) = false := ne_e (by omega)
                    have z9 : (k == 9) = false := ne_e (by omega)
                    clear hk hkw
                    have hsll : sl.length ≤ 9223372036854775807 := hsl
                    go_wp2_with (go_at_call 9; refine (in_any _ _ _ _).mono ?_; rintro e w' ⟨rfl, rfl⟩)
                    -- STOP-l
                    go_loopw [12, 16] (fun s12 s16 wr => ∃ j : Nat, j ≤ sl.length ∧ s16 = .int .i64 j ∧ s12 = .bool (okP sl a j) ∧ wr = W2) (fun _ s16 _ => sl.length - (intOf s16).toNat)
                    case atStart => exact ⟨0, by omega, rfl, by rw [okP_zero], rfl⟩
                    case round =>
                      obtain ⟨j, hj, rfl, rfl, rfl⟩ := hrel
                      by_cases hjl : j < sl.length
                      · have y1 : ((j : Int) < (sl.length : Int)) = True := eq_true (by omega)
                        obtain ⟨bl, ol, rfl, hbl, hcl⟩ := HLS2.out.int' hjl
                        have HS := hid (okP_succ sl a hjl)
                        generalize sl[j] = xv at *
                        obtain ⟨okp, hokp⟩ : ∃ q, q = okP sl a j := ⟨_, rfl⟩
                        rw [← hokp] at HS ⊢
                        clear hokp
                        cases okp
                        · go_wp2_with fail
                          go_roundw
                          case rel => exact ⟨j + 1, by omega, by go_num, by rw [HS.out]; rfl, by first | rfl | trivial⟩
                          case measure => simp [intOf]; omega
                        · go_wp2_with (go_at_call 9; refine (in_any _ _ _ _).mono ?_; rintro e w' ⟨rfl, rfl⟩)
                          go_roundw
                          case rel => exact ⟨j + 1, by omega, by go_num, by rw [HS.out]; rfl, by first | rfl | trivial⟩
                          case measure => simp [intOf]; omega
                      · have y1 : ((j : Int) < (sl.length : Int)) = False := eq_false (by omega)
                        have hjm : j = sl.length := by omega
                        subst hjm
                        rw [okP_all]
                        go_wp2_with fail
                        -- STOP-m
                        go_meet
                        case rel => exact ⟨by rw [HN.out], by rw [HO.out], by rw [HC.out], by rw [HP.out], by rw [HL.out], by first | rfl | trivial⟩
                  · have HN := hid (show refN s a bb = a + bb by rw [HNV.out, hk]; rfl)
                    have HO := hid (show refOk s a bb = (decide (a + bb ≤ 8) && inB sv 0 (bb - 1)) by rw [HOV.out, hk]; rfl)
                    have HC := hid (show refCol s = true by rw [HCV.out, hk]; rfl)
                    have HP := hid (show refOp s = false by rw [HPV.out, hk]; rfl)
                    have HL := hid (show refVal s = true by rw [HLV.out, hk]; rfl)
                    have z2 : (k == 2) = false := ne_e (by omega)
                    have z3 : (k == 3) = false := ne_e (by omega)
                    have z4 : (k == 4) = true := eq_e hk
                    have z5 : (k == 5) = false := ne_e (by omega)
                    have z6 : (k == 6) = false := ne_e (by omega)
                    have z8 : (k == 8) = false := ne_e (by omega)
                    have z9 : (k == 9) = false := ne_e (by omega)
                    clear hk hkw
                    by_cases h8 : a + bb ≤ 8
                    · have t8 : (a + bb ≤ 8) = True := eq_true h8
                      have t9 : decide (a + bb ≤ 8) = true := decide_eq_true h8
                      clear h8
                      go_wp2_with (go_at_call 9; refine (in_any _ _ _ _).mono ?_; rintro e w' ⟨rfl, rfl⟩)
                      go_meet
                      case rel => exact ⟨by rw [HN.out], by rw [HO.out, t9]; rfl, by rw [HC.out], by rw [HP.out], by rw [HL.out], by first | rfl | trivial⟩
                    · have t8 : (a + bb ≤ 8) = False := eq_false h8
                      have t9 : decide (a + bb ≤ 8) = false := decide_eq_false h8
                      clear h8
                      go_wp2_with (go_at_call 9; refine (in_any _ _ _ _).mono ?_; rintro e w' ⟨rfl, rfl⟩)
                      go_meet
                      case rel => exact ⟨by rw [HN.out], by rw [HO.out, t9]; rfl, by rw [HC.out], by rw [HP.out], by rw [HL.out], by first | rfl | trivial⟩
                  · have HN := hid (show refN s a bb = a by rw [HNV.out, hk]; rfl)
                    have HO := hid (show refOk s a bb = (a == bb) by rw [HOV.out, hk]; rfl)
                    have HC := hid (show refCol s = false by rw [HCV.out, hk]; rfl)
                    have HP := hid (show refOp s = false by rw [HPV.out, hk]; rfl)
                    have HL := hid (show refVal s = false by rw [HLV.out, hk]; rfl)
                    have z2 : (k == 2) = false := ne_e (by omega)
                    have z3 : (k == 3) = false := ne_e (by omega)
                    have z4 : (k == 4) = false := ne_e (by omega)
                    have z5 : (k == 5) = true := eq_e hk
                    have z6 : (k == 6) = false := ne_e (by omega)
                    have z8 : (k == 8) = false := ne_e (by omega)
                    have z9 : (k == 9) = false := ne_e (by omega)
                    clear hk hkw
                    go_wp2_with (go_at_call 9; refine (in_any _ _ _ _).mono ?_; rintro e w' ⟨rfl, rfl⟩)
                    go_meet
                    case rel => exact ⟨by rw [HN.out], by rw [HO.out], by rw [HC.out], by rw [HP.out], by rw [HL.out], by first | rfl | trivial⟩
                  · have HN := hid (show refN s a bb = a by rw [HNV.out, hk]; rfl)
                    have HO := hid (show refOk s a bb = (a == bb) by rw [HOV.out, hk]; rfl)
                    have HC := hid (show refCol s = false by rw [HCV.out, hk]; rfl)
                    have HP := hid (show refOp s = false by rw [HPV.out, hk]; rfl)
                    have HL := hid (show refVal s = false by rw [HLV.out, hk]; rfl)
                    have z2 : (k == 2) = false := ne_e (by omega)
                    have z3 : (k == 3) = false := ne_e (by omega)
                    have z4 : (k == 4) = false := ne_e (by omega)
                    have z5 : (k == 5) = false := ne_e (by omega)
                    have z6 : (k == 6) = true := eq_e hk
                    have z8 : (k == 8) = false := ne_e (by omega)
                    have z9 : (k == 9) = false := ne_e (by omega)
                    clear hk hkw
                    go_wp2_with (go_at_call 9; refine (in_any _ _ _ _).mono ?_; rintro e w' ⟨rfl, rfl⟩)
                    go_meet
                    case rel => exact ⟨by rw [HN.out], by rw [HO.out], by rw [HC.out], by rw [HP.out], by rw [HL.out], by first | rfl | trivial⟩
                  · have HN := hid (show refN s a bb = a by rw [HNV.out, hk]; rfl)
                    have HO := hid (show refOk s a bb = true by rw [HOV.out, hk]; rfl)
                    have HC := hid (show refCol s = false by rw [HCV.out, hk]; rfl)
                    have HP := hid (show refOp s = false by rw [HPV.out, hk]; rfl)
                    have HL := hid (show refVal s = false by rw [HLV.out, hk]; rfl)
                    have z2 : (k == 2) = false := ne_e (by omega)
                    have z3 : (k == 3) = false := ne_e (by omega)
                    have z4 : (k == 4) = false := ne_e (by omega)
                    have z5 : (k == 5) = false := ne_e (by omega)
                    have z6 : (k == 6) = false := ne_e (by omega)
                    have z8 : (k == 8) = false := ne_e (by omega)
                    have z9 : (k == 9) = false := ne_e (by omega)
                    clear hk hkw
                    go_wp2_with (go_at_call 9; refine (in_any _ _ _ _).mono ?_; rintro e w' ⟨rfl, rfl⟩)
                    go_meet
                    case rel => exact ⟨by rw [HN.out], by rw [HO.out], by rw [HC.out], by rw [HP.out], by rw [HL.out], by first | rfl | trivial⟩
                  · have HN := hid (show refN s a bb = 2 by rw [HNV.out, hk]; rfl)
                    have HO := hid (show refOk s a bb = true by rw [HOV.out, hk]; rfl)
                    have HC := hid (show refCol s = true by rw [HCV.out, hk]; rfl)
                    have HP := hid (show refOp s = false by rw [HPV.out, hk]; rfl)
                    have HL := hid (show refVal s = false by rw [HLV.out, hk]; rfl)
                    have z2 : (k == 2) = false := ne_e (by omega)
                    have z3 : (k == 3) = false := ne_e (by omega)
                    have z4 : (k == 4) = false := ne_e (by omega)
                    have z5 : (k == 5) = false := ne_e (by omega)
                    have z6 : (k == 6) = false := ne_e (by omega)
                    have z8 : (k == 8) = true := eq_e hk
                    have z9 : (k == 9) = false := ne_e (by omega)
                    clear hk hkw
                    go_wp2_with (go_at_call 9; refine (in_any _ _ _ _).mono ?_; rintro e w' ⟨rfl, rfl⟩)
                    go_meet
                    case rel => exact ⟨by rw [HN.out], by rw [HO.out], by rw [HC.out], by rw [HP.out], by rw [HL.out], by first | rfl | trivial⟩
                  · have HN := hid (show refN s a bb = 2 by rw [HNV.out, hk]; rfl)
                    have HO := hid (show refOk s a bb = inB sv 0 (a - 1) by rw [HOV.out, hk]; rfl)
                    have HC := hid (show refCol s = true by rw [HCV.out, hk]; rfl)
                    have HP := hid (show refOp s = false by rw [HPV.out, hk]; rfl)
                    have HL := hid (show refVal s = true by rw [HLV.out, hk]; rfl)
                    have z2 : (k == 2) = false := ne_e (by omega)
                    have z3 : (k == 3) = false := ne_e (by omega)
                    have z4 : (k == 4) = false := ne_e (by omega)
                    have z5 : (k == 5) = false := ne_e (by omega)
                    have z6 : (k == 6) = false := ne_e (by omega)
                    have z8 : (k == 8) = false := ne_e (by omega)
                    have z9 : (k == 9) = true := eq_e hk
                    clear hk hkw
                    go_wp2_with (go_at_call 9; refine (in_any _ _ _ _).mono ?_; rintro e w' ⟨rfl, rfl⟩)
                    go_meet
                    case rel => exact ⟨by rw [HN.out], by rw [HO.out], by rw [HC.out], by rw [HP.out], by rw [HL.out], by first | rfl | trivial⟩
                case rest =>
                  obtain ⟨rfl, rfl, rfl, rfl, rfl, rfl⟩ := hcut
                  have HPN := hid (fun h => refN_pos (s := s) HPA.out HPB.out h)
                  have HV := hid (show refBad2 s a bb = (!refOk s a bb || ((refCol s && !inB sc 0 (a - 1)) || ((!refCol s && sc != 0) || ((!refOp s && so != 0) || (!refVal s && sv != 0))))) by rw [HSS.out]; rfl)
                  obtain ⟨nn, hnn⟩ : ∃ q, q = refN s a bb := ⟨_, rfl⟩
                  obtain ⟨okv, h1⟩ : ∃ q, q = refOk s a bb := ⟨_, rfl⟩
                  obtain ⟨cl, h2⟩ : ∃ q, q = refCol s := ⟨_, rfl⟩
                  obtain ⟨op, h3⟩ : ∃ q, q = refOp s := ⟨_, rfl⟩
                  obtain ⟨vl, h4⟩ : ∃ q, q = refVal s := ⟨_, rfl⟩
                  rw [← h1, ← h2, ← h3, ← h4] at HV
                  rw [← hnn] at HRS HPN
                  rw [← hnn, ← h1, ← h2, ← h3, ← h4]
                  clear hnn h1 h2 h3 h4 HNV HOV HCV HPV HLV
                  go_upto_region 41 with fail
                  -- STOP-k
                  go_cut [12, 13, 14, 15, 228] from 189 to 228 (fun _ _ _ _ s228 wx => s228 = .bool (refBad2 s a bb) ∧ wx = wc)
                  case first => as_aux_lemma =>
                    have HXB3 := hid HXB2.out
                    obtain ⟨cHXB3, fHXB3, sHXB3, nHXB3⟩ := HXB3.out.all
                    try simp only [cbox] at cHXB3
                    cases okv
                    · skip
                      replace HV : Hid (refBad2 s a bb = true) := hid (by rw [HV.out]; rfl)
                      go_wp2_with (go_at_call 9; refine (in_any _ _ _ _).mono ?_; rintro e w' ⟨rfl, rfl⟩)
                      go_meet
                      case rel => exact ⟨by rw [HV.out], by first | rfl | trivial⟩
                    · cases cl
                      · by_cases qc : sc = 0
                        · have ec := eq_b qc
                          clear qc
                          cases op
                          · by_cases qp : so = 0
                            · have ep := eq_b qp
                              clear qp
                              cases vl
                              · by_cases qv : sv = 0
                                · have ev := eq_b qv
                                  clear qv
                                  replace HV : Hid (refBad2 s a bb = false) := hid (by rw [HV.out, ec, ep, ev]; rfl)
                                  go_wp2_with (go_at_call 9; refine (in_any _ _ _ _).mono ?_; rintro e w' ⟨rfl, rfl⟩)
                                  go_meet
                                  case rel => exact ⟨by rw [HV.out], by first | rfl | trivial⟩
                                · have ev := ne_b qv
                                  clear qv
                                  replace HV : Hid (refBad2 s a bb = true) := hid (by rw [HV.out, ec, ep, ev]; rfl)
                                  go_wp2_with (go_at_call 9; refine (in_any _ _ _ _).mono ?_; rintro e w' ⟨rfl, rfl⟩)
                                  go_meet
                                  case rel => exact ⟨by rw [HV.out], by first | rfl | trivial⟩
                              · skip
                                replace HV : Hid (refBad2 s a bb = false) := hid (by rw [HV.out, ec, ep]; rfl)
                                go_wp2_with (go_at_call 9; refine (in_any _ _ _ _).mono ?_; rintro e w' ⟨rfl, rfl⟩)
                                go_meet
                                case rel => exact ⟨by rw [HV.out], by first | rfl | trivial⟩
                            · have ep := ne_b qp
                              clear qp
                              replace HV : Hid (refBad2 s a bb = true) := hid (by rw [HV.out, ec, ep]; rfl)
                              go_wp2_with (go_at_call 9; refine (in_any _ _ _ _).mono ?_; rintro e w' ⟨rfl, rfl⟩)
                              go_meet
                              case rel => exact ⟨by rw [HV.out], by first | rfl | trivial⟩
                          · skip
                            cases vl
                            · by_cases qv : sv = 0
                              · have ev := eq_b qv
                                clear qv
                                replace HV : Hid (refBad2 s a bb = false) := hid (by rw [HV.out, ec, ev]; rfl)
                                go_wp2_with (go_at_call 9; refine (in_any _ _ _ _).mono ?_; rintro e w' ⟨rfl, rfl⟩)
                                go_meet
                                case rel => exact ⟨by rw [HV.out], by first | rfl | trivial⟩
                              · have ev := ne_b qv
                                clear qv
                                replace HV : Hid (refBad2 s a bb = true) := hid (by rw [HV.out, ec, ev]; rfl)
                                go_wp2_with (go_at_call 9; refine (in_any _ _ _ _).mono ?_; rintro e w' ⟨rfl, rfl⟩)
                                go_meet
                                case rel => exact ⟨by rw [HV.out], by first | rfl | trivial⟩
                            · skip
                              replace HV : Hid (refBad2 s a bb = false) := hid (by rw [HV.out, ec]; rfl)
                              go_wp2_with (go_at_call 9; refine (in_any _ _ _ _).mono ?_; rintro e w' ⟨rfl, rfl⟩)
                              go_meet
                              case rel => exact ⟨by rw [HV.out], by first | rfl | trivial⟩
                        · have ec := ne_b qc
                          clear qc
                          replace HV : Hid (refBad2 s a bb = true) := hid (by rw [HV.out, ec]; rfl)
                          go_wp2_with (go_at_call 9; refine (in_any _ _ _ _).mono ?_; rintro e w' ⟨rfl, rfl⟩)
                          go_meet
                          case rel => exact ⟨by rw [HV.out], by first | rfl | trivial⟩
                      · cases qw : inB sc 0 (a - 1)
                        · skip
                          replace HV : Hid (refBad2 s a bb = true) := hid (by rw [HV.out, qw]; rfl)
                          go_wp2_with (go_at_call 9; refine (in_any _ _ _ _).mono ?_; rintro e w' ⟨rfl, rfl⟩)
                          go_meet
                          case rel => exact ⟨by rw [HV.out], by first | rfl | trivial⟩
                        · skip
                          cases op
                          · by_cases qp : so = 0
                            · have ep := eq_b qp
                              clear qp
                              cases vl
                              · by_cases qv : sv = 0
                                · have ev := eq_b qv
                                  clear qv
                                  replace HV : Hid (refBad2 s a bb = false) := hid (by rw [HV.out, qw, ep, ev]; rfl)
                                  go_wp2_with (go_at_call 9; refine (in_any _ _ _ _).mono ?_; rintro e w' ⟨rfl, rfl⟩)
                                  go_meet
                                  case rel => exact ⟨by rw [HV.out], by first | rfl | trivial⟩
                                · have ev := ne_b qv
                                  clear qv
                                  replace HV : Hid (refBad2 s a bb = true) := hid (by rw [HV.out, qw, ep, ev]; rfl)
                                  go_wp2_with (go_at_call 9; refine (in_any _ _ _ _).mono ?_; rintro e w' ⟨rfl, rfl⟩)
                                  go_meet
                                  case rel => exact ⟨by rw [HV.out], by first | rfl | trivial⟩
                              · skip
                                replace HV : Hid (refBad2 s a bb = false) := hid (by rw [HV.out, qw, ep]; rfl)
                                go_wp2_with (go_at_call 9; refine (in_any _ _ _ _).mono ?_; rintro e w' ⟨rfl, rfl⟩)
                                go_meet
                                case rel => exact ⟨by rw [HV.out], by first | rfl | trivial⟩
                            · have ep := ne_b qp
                              clear qp
                              replace HV : Hid (refBad2 s a bb = true) := hid (by rw [HV.out, qw, ep]; rfl)
                              go_wp2_with (go_at_call 9; refine (in_any _ _ _ _).mono ?_; rintro e w' ⟨rfl, rfl⟩)
                              go_meet
                              case rel => exact ⟨by rw [HV.out], by first | rfl | trivial⟩
                          · skip
                            cases vl
                            · by_cases qv : sv = 0
                              · have ev := eq_b qv
                                clear qv
                                replace HV : Hid (refBad2 s a bb = false) := hid (by rw [HV.out, qw, ev]; rfl)
                                go_wp2_with (go_at_call 9; refine (in_any _ _ _ _).mono ?_; rintro e w' ⟨rfl, rfl⟩)
                                go_meet
                                case rel => exact ⟨by rw [HV.out], by first | rfl | trivial⟩
                              · have ev := ne_b qv
                                clear qv
                                replace HV : Hid (refBad2 s a bb = true) := hid (by rw [HV.out, qw, ev]; rfl)
                                go_wp2_with (go_at_call 9; refine (in_any _ _ _ _).mono ?_; rintro e w' ⟨rfl, rfl⟩)
                                go_meet
                                case rel => exact ⟨by rw [HV.out], by first | rfl | trivial⟩
                            · skip
                              replace HV : Hid (refBad2 s a bb = false) := hid (by rw [HV.out, qw]; rfl)
                              go_wp2_with (go_at_call 9; refine (in_any _ _ _ _).mono ?_; rintro e w' ⟨rfl, rfl⟩)
                              go_meet
                              case rel => exact ⟨by rw [HV.out], by first | rfl | trivial⟩
                  case rest =>
                    obtain ⟨rfl, rfl⟩ := hcut
                    obtain ⟨b2, hb2⟩ : ∃ q, q = refBad2 s a bb := ⟨_, rfl⟩
                    rw [← hb2] at HRS HPN ⊢
                    clear hb2 HV
                    cases b2
                    rotate_left
                    · have HNO := hid (show Wf = none by rw [← HWD.out, HSD.out]; exact wids_stop (by rw [HRS.out]; rfl))
                      go_wp2_with fail
                      -- STOP-n
                      go_ret2
                      exact ⟨HBB2.out, .inl ⟨by rw [← HWF.out]; exact HNO.out, rfl⟩⟩
                    · have h4 : stW s V = nn := HRS.out
                      have hpn := HPN.out rfl
                      have HPNN := hid hpn
                      have HGO := hid (show widsL (sts (L.drop (i + 1))) (V ++ [nn]) = Wf by rw [← HWD.out, HSD.out, wids_go (by rw [h4]; omega), h4])
                      clear h4 hpn
                      go_wp2_with (at_builtin; refine wpList_append_row elem_int rfl _ _ rfl w.heap.size _ _ _ rfl (HOW2.out.alloc _) (some ⟨wc.heap.size, 0, none⟩) 1 1 (wc.heap.size + 1) [.int .i64 nn] rfl rfl (Row.new' _ _ _ rfl rfl (Nat.lt_succ_self _)) (int_one nn) ?_ ?_ ?_ ?_; rotate_right; intro v7 w7 hown7 hg7 hif7; rotate_left; (simp only [maxLen]; omega); (omega); (have := HBB2.out.size; simp; omega))
                      -- STOP-o
                      go_roundw
                      case rel =>
                        refine ⟨i + 1, V ++ [nn], by omega, by go_num, by rw [List.length_append, HVI.out]; rfl, HGO, hid (fun v hv => ?_), hid ?_, hid (((HBB2.out.alloc HBB2.out.size _)).grown hg7 (by have := HBB2.out.size; simp; omega) (fun g e => (HOW2.out.lt g e).1))⟩
                        · rcases List.mem_append.1 hv with q | q
                          · exact HVP.out v q
                          · rw [List.mem_singleton.1 q]; exact HPNN.out
                        · rw [List.length_append, icells_snoc1]; exact hown7
                      case measure => simp [intOf]; omega
    · have t1 : ((i : Int) < (L.length : Int)) = False := eq_false (by omega)
      have hiL : i = L.length := by omega
      have hwd := HWD.out
      rw [hiL, List.drop_length] at hwd
      have HDN := hid (show Wf = some V from hwd.symm)
      clear hwd
      go_wp2_with fail
      -- STOP-z
      go_ret2
      exact ⟨HB.out, .inr ⟨V, _, by rw [← HWF.out]; exact HDN.out, rfl, HOW.out⟩⟩
end Go.Proofs.YtamlaeocojcgdaaDoor
