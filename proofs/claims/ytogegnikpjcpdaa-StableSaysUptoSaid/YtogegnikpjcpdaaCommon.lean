/- viewref.Common. -/
import Derived.Test.YtogegnikpjcpdaaMeetA
namespace Go.Proofs.Ytogegnikpjcpdaa
set_option linter.unusedVariables false
open Go.ChangeShapes Go.WideShapes Go.ChangeAt Go.RowKit

def mnA (m x : Ctx) (k : Nat) : Array Value := #[.int .i64 (if 0 < k then x.c0 else m.c0), .int .i64 (if 1 < k then x.c1 else m.c1), .int .i64 (if 2 < k then x.c2 else m.c2), .int .i64 (if 3 < k then x.c3 else m.c3)]
theorem mn_get (m x : Ctx) (i : Nat) (h : i < 4) : (mnA m x i)[i]? = some (.int .i64 (m.at_ i)) := by
  rcases (by omega : i = 0 ∨ i = 1 ∨ i = 2 ∨ i = 3) with e | e | e | e <;> subst e <;> rfl
theorem mn_set (m x : Ctx) (i : Nat) (h : i < 4) : (mnA m x i).setIfInBounds i (.int .i64 (x.at_ i)) = mnA m x (i + 1) := by
  rcases (by omega : i = 0 ∨ i = 1 ∨ i = 2 ∨ i = 3) with e | e | e | e <;> subst e <;> simp [mnA, Ctx.at_]
theorem mn_keep (m x : Ctx) (i : Nat) (h : i < 4) (hc : x.at_ i = m.at_ i) : mnA m x i = mnA m x (i + 1) := by
  rcases (by omega : i = 0 ∨ i = 1 ∨ i = 2 ∨ i = 3) with e | e | e | e <;> subst e <;> simp [mnA, Ctx.at_] at * <;> omega
theorem mn_four (m x : Ctx) : mnA m x 4 = #[.int .i64 x.c0, .int .i64 x.c1, .int .i64 x.c2, .int .i64 x.c3] := rfl

def clkS (M : List Ctx) (i : Nat) : Ctx := if i = 0 then ⟨0, 0, 0, 0, []⟩ else (M.take i).foldl minC { M.headD ⟨0, 0, 0, 0, []⟩ with cloud := [] }
theorem clkS_all (M : List Ctx) (h : M ≠ []) : clkS M M.length = minL M := by
  unfold clkS minL
  rw [if_neg (by intro e; exact h (List.eq_nil_of_length_eq_zero e)), List.take_length]
theorem clkS_zero (M : List Ctx) (h : 0 < M.length) (n : Int) : (clkS M 1).at_ n = (M[0]).at_ n := by
  cases M with
  | nil => simp at h
  | cons a N =>
    unfold clkS
    rw [if_neg (by decide)]
    simp only [List.take_succ_cons, List.take_zero, List.foldl_cons, List.foldl_nil, List.headD_cons, at_minC, List.getElem_cons_zero]
    have : Ctx.at_ { a with cloud := [] } n = a.at_ n := rfl
    omega
theorem clkS_succ (M : List Ctx) (i : Nat) (h : i < M.length) (hi : i ≠ 0) (n : Int) : (clkS M (i + 1)).at_ n = min ((clkS M i).at_ n) ((M[i]).at_ n) := by
  unfold clkS
  rw [if_neg (by omega), if_neg hi, take_step minC _ M i h, at_minC]

set_option maxHeartbeats 4000000 in
set_option maxRecDepth 100000 in
theorem common_any (L : List CR) (A : Option Addr) (k : Nat) (w : World) (hr : RowC w w.heap.size A L) (hl : L.length ≤ 2097152) (hL : L ≠ []) :
    Calls Try.prog 39 #[.slice A L.length k] w (CtxErr (meetX (CR.ctxs L)) (meetE (CR.ctxs L)) w) := by
  have hpos : 0 < L.length := List.length_pos_iff.2 hL
  have hz : ((L.length : Int) == 0) = false := by simp only [beq_eq_false_iff_ne, ne_eq]; omega
  have HR := hid hr
  obtain ⟨M, hM⟩ : ∃ M, M = CR.ctxs L := ⟨_, rfl⟩
  have hML : M.length = L.length := by rw [hM]; simp
  have hMg : ∀ i (h : i < L.length), M[i]'(by rw [hML]; exact h) = L[i].c := fun i h => by subst hM; exact ctxs_get L i h
  rw [← hM]
  have hne : M ≠ [] := by intro e; rw [e] at hML; simp at hML; omega
  have HBAD := hid (fun i (h : i < L.length) (h0 : ∀ c ∈ M.take i, checkI c = 0) (h1 : checkI L[i].c ≠ 0) => by
    have e := badL_take (show i < M.length by rw [hML]; exact h) h0 (by rw [hMg i h]; exact h1)
    rw [hMg i h] at e
    have h2 : badL M ≠ 0 := by rw [e]; exact h1
    exact (show meetX M = ⟨0, 0, 0, 0, []⟩ ∧ meetE M = checkI L[i].c from ⟨by unfold meetX; rw [if_pos (.inr (.inl h2))], by unfold meetE; rw [if_neg hne, if_pos h2, e]⟩))
  have HTK := hid (fun i (h : i < L.length) => by
    have e := List.take_succ_eq_append_getElem (show i < M.length by rw [hML]; exact h)
    rw [hMg i h] at e
    exact e)
  have HS0 := hid (fun n => by
    have e := clkS_zero M (by rw [hML]; exact hpos) n
    rw [hMg 0 hpos] at e
    exact e)
  have HS1 := hid (fun i (h : i < L.length) hi n => by
    have e := clkS_succ M i (by rw [hML]; exact h) hi n
    rw [hMg i h] at e
    exact e)
  have HNE := hid hne
  have HML := hid hML
  have CELS := hid (fun (x : Ctx) n h0 h4 v => at_cell x n h0 h4 v)
  clear hr hM hMg hML hne hL
  have MG := hid mn_get
  have MS := hid mn_set
  have MK := hid mn_keep
  obtain ⟨i0, hi0, hz0, hz1, hz2⟩ := info_parts info_dot
  go_enter Try.func39, Try.ntmps39
  go_wp2
  obtain ⟨Q, hQ⟩ : ∃ Q, Q = w.heap.size + 1 := ⟨_, rfl⟩
  obtain ⟨W0, hW0⟩ : ∃ W0 : World, W0 = (w.alloc (.cells #[.int .i64 0, .int .i64 0, .int .i64 0, .int .i64 0, .slice none 0 0] 25)).alloc (.cells #[.int .i64 0, .int .i64 0, .int .i64 0, .int .i64 0] 22) := ⟨_, rfl⟩
  rw [← hW0, ← hQ]
  have HB0 := hid (show Below w.heap.size w W0 by rw [hW0]; (repeat' (first | (with_reducible exact Below.refl _ _) | (with_reducible assumption) | (with_reducible refine below_drewN ?_ _) | (with_reducible refine Below.drew ?_) | (with_reducible refine Below.alloc ?_ ?_ _) | (with_reducible refine Below.setCell ?_ ?_ _) | (refine Below.trans ?_ (Below.mono (by assumption) ?_)) | go_size)))
  have HXR := hid (show Blk W0 w.heap.size #[.int .i64 0, .int .i64 0, .int .i64 0, .int .i64 0, .slice none 0 0] 25 by rw [hW0]; exact (Blk.new _ _ _).alloc _)
  have HXQ := hid (show Blk W0 Q #[.int .i64 0, .int .i64 0, .int .i64 0, .int .i64 0] 22 by rw [hW0]; exact Blk.new' (w.alloc _) _ _ (by simp [hQ]))
  have hQl : w.heap.size < Q := by omega
  clear hW0 hQ
  go_loopw [6] (fun s6 wr => ∃ (i : Nat) (m : Ctx), i ≤ L.length ∧ s6 = .int .i64 i ∧ m = clkS M i ∧ (∀ c ∈ M.take i, checkI c = 0) ∧ Blk wr Q #[.int .i64 m.c0, .int .i64 m.c1, .int .i64 m.c2, .int .i64 m.c3] 22 ∧ Below Q W0 wr) (fun s6 _ => L.length - (intOf s6).toNat)
  case atStart => exact ⟨0, ⟨0, 0, 0, 0, []⟩, by omega, rfl, rfl, by simp, HXQ.out, Below.refl _ _⟩
  case round =>
    obtain ⟨i, m, hi, rfl, hm, hno, hq, hbw⟩ := hrel
    have HBW := hid hbw
    have HXQ1 := hid hq
    have HN := hid hno
    have HM := hid hm
    have HB := hid (HB0.out.trans (hbw.mono (Nat.le_of_lt hQl)))
    clear hbw hq hno hm
    by_cases hlt : i < L.length
    · obtain ⟨b, off, hA, hb, c0, c1, c2, c3, c4, rx, lx⟩ := (HR.out.step HB.out).at_ hlt
      subst hA
      have HC := hid (fun w1 (hb1 : Below wr.heap.size wr w1) => context_any L[i].c L[i].A L[i].k w1 (rx.step hb1) lx)
      have HS1i := hid (HS1.out i hlt)
      have HBi := hid (HBAD.out i hlt HN.out)
      have HTKi := hid (HTK.out i hlt)
      have HS0i := hid (fun (e : i = 0) n => (HS0.out n).trans (by subst e; rfl : L[0].c.at_ n = L[i].c.at_ n))
      have HCK := hid (fun w1 (hb1 : Below w.heap.size w w1) (n : Nat) (hn : n < 4) => RowC.clk (HR.out.step hb1) hlt hn)
      clear rx
      generalize L[i] = x at *
      obtain ⟨⟨x0, x1, x2, x3, xl⟩, xA, xk⟩ := x
      simp only at c0 c1 c2 c3 c4
      simp only [cval] at HC
      obtain ⟨I, hI⟩ : ∃ I, I = checkI ⟨x0, x1, x2, x3, xl⟩ := ⟨_, rfl⟩
      rw [← hI] at HC HBi
      have HI := hid hI
      clear hI
      by_cases q : I = 0
      · subst q
        go_wp2_with fail
        refine (HC.out _ (Below.refl _ _)).mono ?_
        rintro e w1 ⟨rfl, hb1⟩
        obtain ⟨m', hm'⟩ : ∃ m', m' = clkS M (i + 1) := ⟨_, rfl⟩
        rw [← hm'] at HS1i
        have HS0j := hid (fun (e : i = 0) n => by have h := HS0i.out e n; rw [show (1 : Nat) = i + 1 by omega, ← hm'] at h; exact h)
        have HM' := hid hm'
        have HXQ2 := hid (HXQ1.out.step hb1)
        have HBW2 := hid (HBW.out.trans (hb1.mono (Nat.le_of_lt HXQ1.out.lt)))
        rw [← HM.out] at HS1i
        have hbs := hb1.size
        clear hm' hb1 c0 c1 c2 c3 c4 HS0i
        go_wp2
        obtain ⟨wo, rfl⟩ : ∃ wo : World, wo = wr := ⟨_, rfl⟩
        go_loopw [8] (fun s8 wr => ∃ n : Nat, n ≤ 4 ∧ s8 = .int .i64 n ∧ Blk wr Q (mnA m m' n) 22 ∧ Below Q W0 wr) (fun s8 _ => 4 - (intOf s8).toNat)
        case atStart => exact ⟨0, by omega, rfl, HXQ2.out, HBW2.out⟩
        case round =>
          obtain ⟨n, hn, rfl, hq, hbw⟩ := hrel
          by_cases hn4 : n < 4
          · have hbb : Below w.heap.size w wr := HB0.out.trans (hbw.mono (Nat.le_of_lt hQl))
            obtain ⟨ex, hbx⟩ := HCK.out wr hbb n hn4
            have eq : wr.cell? ⟨Q, n, none⟩ = some (.int .i64 (m.at_ n)) := by rw [hq.cells.1]; exact MG.out m m' n hn4
            have fq := hq.cells.2 n
            have ti : decide ((n : Int) < 4) = true := by simp; omega
            have ti2 : (n : Int) < 4 := by omega
            have HQ := hid hq
            have HBQ := hid hbw
            clear hq hbw hbb
            by_cases hi0 : i = 0
            · have t0 : ((i : Int) == 0) = true := by simp [hi0]
              have HSET := hid (MS.out m m' n hn4)
              have hv := HS0j.out hi0 n
              have HV := hid hv
              clear hv hi0
              go_wp2
              refine wp_region_quiet_lit (by kernel_rfl) (by kernel_rfl) ?_
              repeat (any_goals ((with_reducible refine wpQuiet_step (fun K hK => ?_)); go_simp; first | (with_reducible refine hK _ ?_; clear hK K) | ((with_reducible apply Exists.intro); (with_reducible refine ⟨fun _ => ?_, hK _ ?_⟩); (fail); clear hK K) | ((with_reducible refine (if_neg ?_).mpr (hK _ ?_)); (decide); clear hK K) | (split <;> (with_reducible refine hK _ ?_; clear hK K))))
              all_goals ((with_reducible refine wpQuiet_nil ?_); intro _ hw'; obtain ⟨nq, hw''⟩ := hw'; subst hw'')
              go_wp2
              go_roundw
              case rel =>
                refine ⟨n + 1, by omega, by go_num, ?_, ?_⟩
                · have h := HSET.out
                  rw [HV.out] at h
                  rw [← h]; exact (HQ.out.drewN nq).set n _
                · exact (below_drewN HBQ.out nq).setCell (Nat.le_refl _) _
              case measure => simp [intOf]; omega
            · have t0 : ((i : Int) == 0) = false := by simp only [beq_eq_false_iff_ne, ne_eq]; omega
              have hv := HS1i.out hi0 n
              by_cases hc : Ctx.at_ ⟨x0, x1, x2, x3, xl⟩ n < m.at_ n
              · have tc : decide (Ctx.at_ ⟨x0, x1, x2, x3, xl⟩ n < m.at_ n) = true := by simpa using hc
                have HSET := hid (MS.out m m' n hn4)
                have HV := hid (hv.trans (by omega : min (m.at_ n) (Ctx.at_ ⟨x0, x1, x2, x3, xl⟩ n) = Ctx.at_ ⟨x0, x1, x2, x3, xl⟩ n))
                clear hv
                go_wp2
                refine wp_region_quiet_lit (by kernel_rfl) (by kernel_rfl) ?_
                repeat (any_goals ((with_reducible refine wpQuiet_step (fun K hK => ?_)); go_simp; first | (with_reducible refine hK _ ?_; clear hK K) | ((with_reducible apply Exists.intro); (with_reducible refine ⟨fun _ => ?_, hK _ ?_⟩); (fail); clear hK K) | ((with_reducible refine (if_neg ?_).mpr (hK _ ?_)); (decide); clear hK K) | (split <;> (with_reducible refine hK _ ?_; clear hK K))))
                all_goals ((with_reducible refine wpQuiet_nil ?_); intro _ hw'; obtain ⟨nq, hw''⟩ := hw'; subst hw'')
                go_wp2
                go_roundw
                case rel =>
                  refine ⟨n + 1, by omega, by go_num, ?_, ?_⟩
                  · have h := HSET.out
                    rw [HV.out] at h
                    rw [← h]; exact (HQ.out.drewN nq).set n _
                  · exact (below_drewN HBQ.out nq).setCell (Nat.le_refl _) _
                case measure => simp [intOf]; omega
              · have tc : decide (Ctx.at_ ⟨x0, x1, x2, x3, xl⟩ n < m.at_ n) = false := by simpa using hc
                have HSET := hid (MK.out m m' n hn4 (hv.trans (by omega)))
                clear hv
                go_wp2
                refine wp_region_quiet_lit (by kernel_rfl) (by kernel_rfl) ?_
                repeat (any_goals ((with_reducible refine wpQuiet_step (fun K hK => ?_)); go_simp; first | (with_reducible refine hK _ ?_; clear hK K) | ((with_reducible apply Exists.intro); (with_reducible refine ⟨fun _ => ?_, hK _ ?_⟩); (fail); clear hK K) | ((with_reducible refine (if_neg ?_).mpr (hK _ ?_)); (decide); clear hK K) | (split <;> (with_reducible refine hK _ ?_; clear hK K))))
                all_goals ((with_reducible refine wpQuiet_nil ?_); intro _ hw'; obtain ⟨nq, hw''⟩ := hw'; subst hw'')
                go_wp2
                go_roundw
                case rel =>
                  refine ⟨n + 1, by omega, by go_num, ?_, ?_⟩
                  · rw [← HSET.out]; exact HQ.out.drewN nq
                  · exact below_drewN HBQ.out nq
                case measure => simp [intOf]; omega
          · have e : n = 4 := by omega
            subst e
            have HQ := hid hq
            have HBQ := hid hbw
            clear hq hbw hn4
            go_wp2
            go_roundw
            case rel =>
              refine ⟨i + 1, m', by omega, by go_num, HM'.out, fun c hc => ?_, HQ.out, HBQ.out⟩
              rw [HTKi.out, List.mem_append, List.mem_singleton] at hc
              rcases hc with hc | rfl
              · exact HN.out c hc
              · exact HI.out.symm
            case measure => simp [intOf]; omega
      · have q2 : (I != 0) = true := by simpa using q
        have HQ := hid (HBi.out q)
        clear q
        go_wp2_with fail
        refine (HC.out _ (Below.refl _ _)).mono ?_
        rintro e w1 ⟨rfl, hb1⟩
        have hR := (HXR.out.thru HBW.out hQl).step hb1
        have hsz := hQl
        obtain ⟨⟨cr0, cr1, cr2, cr3, cr4⟩, fr0, fr1, fr2, fr3, fr4⟩ := hR.five
        have HR5 := hid (Blk.set5 hR (.int .i64 0) (.int .i64 0) (.int .i64 0) (.int .i64 0) (.slice none 0 0))
        have HB5 := hid (Below.set5 (Below.step' HB.out hb1) (Nat.le_refl _) (.int .i64 0) (.int .i64 0) (.int .i64 0) (.int .i64 0) (.slice none 0 0))
        clear hb1 hR c0 c1 c2 c3 c4
        go_wp2
        obtain ⟨⟨q0, q1, q2, q3, q4⟩, -⟩ := HR5.out.five
        exact bodyPost_ret (v := .tuple #[cval ⟨0, 0, 0, 0, []⟩ none 0, .int .i64 I]) (by simp [results, Try.results39, go_sem, q0, q1, q2, q3, q4]) rfl ⟨none, 0, by rw [HQ.out.1, HQ.out.2], by rw [HQ.out.1]; exact Row.nil, HB5.out, fun _ _ _ h => by cases h⟩
    · have e1 : i = L.length := by omega
      have hck : ∀ c ∈ M, checkI c = 0 := fun c hc => HN.out c (by rw [List.take_of_length_le (by rw [HML.out]; omega)]; exact hc)
      have hok : ∀ c ∈ M, okC c := fun c hc => ((checkI_iff c).1 (hck c hc)).1
      have h4 : ∀ c ∈ M, c.cloud.length ≤ 400 := fun c hc => ((checkI_iff c).1 (hck c hc)).2
      have hb0 : badL M = 0 := badL_zero.2 hck
      have hX : meetX M = if 400 < (meetC M).cloud.length then ⟨0, 0, 0, 0, []⟩ else meetC M := by unfold meetX; simp [HNE.out, hb0]
      have hE : meetE M = if 400 < (meetC M).cloud.length then 2 else 0 := by unfold meetE; simp [HNE.out, hb0]
      have hmm : m = minL M := by rw [HM.out, e1, ← HML.out, clkS_all M HNE.out]
      have hD : ∀ D : List (Int × Int), D.Nodup → (∀ d, d ∈ D ↔ d ∈ cloudAll M) → packL m.c0 m.c1 m.c2 m.c3 D = meetC M ∧ D.length ≤ 1600 ∧ ∀ d ∈ D, rightB d.1 d.2 = true := fun D hn hd => by
        rw [hmm]
        refine ⟨meet_same HNE.out hok hd, once_len HNE.out hok h4 hn (fun d h => (hd d).1 h), fun d h => ?_⟩
        obtain ⟨⟨c, hc, h'⟩, -⟩ := cloudAll_mem.1 ((hd d).1 h)
        exact ((hok c hc).2.1 d h').1
      have hci : clkIn ⟨m.c0, m.c1, m.c2, m.c3, []⟩ := by rw [hmm, ← minL_eta]; exact minL_in HNE.out (fun c hc => (hok c hc).1)
      have hst2 : ∀ i (h : i < L.length), (M.take (i + 1)).flatMap (cloudOf M) = (M.take i).flatMap (cloudOf M) ++ cloudOf M L[i].c := fun i h => by
        rw [HTK.out i h, List.flatMap_append]; simp
      have hal : ∀ i (h : i < L.length) d, (M.take (i + 1)).all (fun c => hasB c d) = ((M.take i).all (fun c => hasB c d) && hasB L[i].c d) := fun i h d => by
        rw [HTK.out i h, List.all_append]; simp
      have hlen : ∀ N : List (Int × Int), (∀ d ∈ N, d ∈ cloudAll M) → (onceD N).length ≤ 1600 := fun N hN => once_len HNE.out hok h4 (onceD_ok N).1 (fun d hd => hN d (((onceD_ok N).2 d).1 hd))
      have hsub : ∀ i d, d ∈ (M.take i).flatMap (cloudOf M) → d ∈ cloudAll M := fun i d hd => by
        obtain ⟨c, hc, h⟩ := List.mem_flatMap.1 hd
        exact List.mem_flatMap.2 ⟨c, List.mem_of_mem_take hc, h⟩
      have hsub2 : ∀ i (h : i < L.length) d, d ∈ cloudOf M L[i].c → d ∈ cloudAll M := fun i h d hd => hsub (i + 1) d (by rw [hst2 i h]; exact List.mem_append_right _ hd)
      have HX := hid hX
      have HE := hid hE
      have HD := hid hD
      have HCI := hid hci
      have HST2 := hid hst2
      have HAL := hid hal
      have HLEN := hid hlen
      have HSUB := hid hsub
      have HSUB2 := hid hsub2
      have HL4 := hid (fun i (h : i < L.length) => h4 _ (by have e := HTK.out i h; exact List.mem_of_mem_take (i := i + 1) (by rw [e]; simp) : L[i].c ∈ M))
      have HRH := hid (fun i (h : i < L.length) w1 (hb1 : Below w.heap.size w w1) d => Rhas_any L[i].c d L[i].A L[i].k w1 (((HR.out.step hb1).2 _ (List.getElem_mem _)).1) ((HR.out.2 _ (List.getElem_mem _)).2))
      obtain ⟨b, off, hA, -⟩ := HR.out.at_ hpos
      subst hA
      have HF5 := hid (fun i (h : i < L.length) w1 (hb1 : Below w.heap.size w w1) => RowC.five (HR.out.step hb1) h)
      have HRX := hid (fun i (h : i < L.length) w1 (hb1 : Below w.heap.size w w1) => ((HR.out.step hb1).2 _ (List.getElem_mem h)).1)
      clear hck hok h4 hb0 hX hE hmm hD hci hst2 hal hlen hsub hsub2 HBAD HTK HS0 HS1 HN HM MG MS MK CELS
      obtain ⟨W1, rfl⟩ : ∃ W1 : World, W1 = wr := ⟨_, rfl⟩
      have HXR1 := hid (HXR.out.thru HBW.out hQl)
      have hqs := HXQ1.out.lt
      clear HXR HXQ HBW HB0 e1
      go_wp2
      clear hlt hi
      go_loopw [5, 9] (fun s5 s9 wr => ∃ i : Nat, i ≤ L.length ∧ s9 = .int .i64 i ∧ wr.ownsRow W1.heap.size 27 2 s5 (onceD ((M.take i).flatMap (cloudOf M))).length (dcells (onceD ((M.take i).flatMap (cloudOf M)))) ∧ Below W1.heap.size W1 wr) (fun _ s9 _ => L.length - (intOf s9).toNat)
      case atStart => exact ⟨0, by omega, rfl, by simpa [onceD] using World.ownsRow_nil _ _ _ _, Below.refl _ _⟩
      case round =>
        obtain ⟨i, hi, rfl, hown, hbw⟩ := hrel
        obtain ⟨O, hO⟩ : ∃ O, O = (M.take i).flatMap (cloudOf M) := ⟨_, rfl⟩
        rw [← hO] at hown
        have HO := hid hO
        clear hO
        have hB : Below w.heap.size w wr := Below.step' HB.out hbw
        by_cases hlt : i < L.length
        · have HF := hid (fun w1 (hb1 : Below w.heap.size w w1) => HF5.out i hlt w1 hb1)
          have S2 := hid ((HST2.out i hlt).trans (by rw [← HO.out]))
          have SB := hid (HSUB2.out i hlt)
          have L4 := HL4.out i hlt
          have RX := hid (fun w1 (hb1 : Below w.heap.size w w1) => HRX.out i hlt w1 hb1)
          generalize L[i] = x at *
          obtain ⟨⟨y0, y1, y2, y3, yl⟩, yA, yk⟩ := x
          simp only at HF L4 S2 SB RX
          have HOWN := hid hown
          have HBW := hid hbw
          clear hown hbw hB
          obtain ⟨A8, c8, rfl⟩ := own_form HOWN.out
          go_wp2
          obtain ⟨wo, rfl⟩ : ∃ wo : World, wo = wr := ⟨_, rfl⟩
          go_loopw [5, 10] (fun s5 s10 wr => ∃ j : Nat, j ≤ yl.length ∧ s10 = .int .i64 j ∧ wr.ownsRow W1.heap.size 27 2 s5 (onceD (O ++ (yl.take j).filter (allB M))).length (dcells (onceD (O ++ (yl.take j).filter (allB M)))) ∧ Below W1.heap.size W1 wr) (fun _ s10 _ => yl.length - (intOf s10).toNat)
          case atStart => exact ⟨0, by omega, rfl, by simpa using HOWN.out, HBW.out⟩
          case round =>
            obtain ⟨j, hj, rfl, hown4, hb4⟩ := hrel
            have hst : ∀ hj : j < yl.length, onceD (O ++ (yl.take (j + 1)).filter (allB M)) = if allB M yl[j] = true then addD (onceD (O ++ (yl.take j).filter (allB M))) yl[j] else onceD (O ++ (yl.take j).filter (allB M)) := by
              intro hj
              rw [List.take_succ_eq_append_getElem hj, List.filter_append, ← List.append_assoc, List.filter_cons, List.filter_nil]
              split
              · unfold onceD; rw [List.foldl_append]; rfl
              · rw [List.append_nil]
            have hl4 : (onceD (O ++ (yl.take j).filter (allB M))).length ≤ 1600 := HLEN.out _ (fun d hd => by
              rcases List.mem_append.1 hd with h | h
              · rw [HO.out] at h; exact HSUB.out i d h
              · exact SB.out d (List.mem_filter.2 ⟨List.mem_of_mem_take (List.mem_filter.1 h).1, (List.mem_filter.1 h).2⟩))
            have hfin : ¬ j < yl.length → onceD ((M.take (i + 1)).flatMap (cloudOf M)) = onceD (O ++ (yl.take j).filter (allB M)) := fun h => by rw [S2.out, List.take_of_length_le (by omega)]; rfl
            obtain ⟨o4, ho4⟩ : ∃ o4, o4 = onceD (O ++ (yl.take j).filter (allB M)) := ⟨_, rfl⟩
            rw [← ho4] at hown4 hl4 hst hfin
            obtain ⟨A4, c4, rfl⟩ := own_form hown4
            clear ho4
            have hB : Below w.heap.size w wr := Below.step' HB.out hb4
            obtain ⟨hbx, f0, f1, f2, f3, f4⟩ := HF.out wr hB
            try simp only at f0 f1 f2 f3 f4
            have HOWN4 := hid hown4
            have HB4 := hid hb4
            have HBB := hid hB
            have HFIN := hid hfin
            clear hown4 hb4 hB hfin
            by_cases hjl : j < yl.length
            · have HST := hid (hst hjl)
              clear hst HFIN f0 f1 f2 f3
              have RX4 := hid (fun w1 (hb1 : Below w.heap.size w w1) => (RX.out w1 hb1).dot hjl)
              generalize yl[j] = d at *
              obtain ⟨d0, d1⟩ := d
              obtain ⟨b2, off2, hA2, -⟩ := RX4.out wr HBB.out
              subst hA2
              have RX5 := hid (fun w1 (hb1 : Below w.heap.size w w1) => show b2 < w1.heap.size ∧ w1.cell? ⟨b2, off2 + j * 2, none⟩ = some (.int .i64 d0) ∧ w1.cell? ⟨b2, off2 + j * 2 + 1, none⟩ = some (.int .i64 d1) by
                obtain ⟨b', off', hA, h1, h2, h3⟩ := RX4.out w1 hb1
                injection hA with hA
                injection hA with e1 e2
                subst e1 e2
                exact ⟨h1, h2, h3⟩)
              clear RX4
              go_wp2
              obtain ⟨w8, rfl⟩ : ∃ w8 : World, w8 = wr := ⟨_, rfl⟩
              clear f4
              go_loopw [11, 12] (fun s11 s12 wr => ∃ q : Nat, q ≤ L.length ∧ s12 = .int .i64 q ∧ s11 = .bool ((M.take q).all (fun c => hasB c (d0, d1))) ∧ Below w8.heap.size w8 wr) (fun _ s12 _ => L.length - (intOf s12).toNat)
              case atStart => exact ⟨0, by omega, rfl, by simp, Below.refl _ _⟩
              case round =>
                obtain ⟨q, hq, rfl, rfl, hb8⟩ := hrel
                obtain ⟨fl, hfl⟩ : ∃ fl, fl = (M.take q).all (fun c => hasB c (d0, d1)) := ⟨_, rfl⟩
                rw [← hfl]
                have hB8 : Below w.heap.size w wr := Below.step' HBB.out hb8
                obtain ⟨hbx, -, -, -, -, f4⟩ := HF.out wr hB8
                obtain ⟨hb2, g0, g1⟩ := RX5.out wr hB8
                have HB8 := hid hb8
                have HBB8 := hid hB8
                clear hb8 hB8
                by_cases hql : q < L.length
                · have hal := HAL.out q hql (d0, d1)
                  rw [← hfl] at hal
                  obtain ⟨-, c0, c1, c2, c3, c4'⟩ := HF5.out q hql wr HBB8.out
                  have hc := fun w1 (hb1 : Below w.heap.size w w1) => HRH.out q hql w1 hb1 (d0, d1)
                  clear hfl
                  generalize L[q] = z at *
                  obtain ⟨⟨z0, z1, z2, z3, zl⟩, zA, zk⟩ := z
                  simp only [cval, dval] at hc hal c0 c1 c2 c3 c4'
                  obtain ⟨r, hr⟩ : ∃ r, r = hasB ⟨z0, z1, z2, z3, zl⟩ (d0, d1) := ⟨_, rfl⟩
                  rw [← hr] at hc hal
                  have HC := hid hc
                  have HA := hid hal
                  clear hc hal hr
                  cases fl
                  all_goals
                    go_wp2
                    refine region_ext (by kernel_rfl) (by kernel_rfl) (fun hext => ?_)
                    repeat (any_goals ((with_reducible refine wpQuiet_step (fun K hK => ?_)); go_simp; first | (with_reducible refine hK _ ?_; clear hK K) | ((with_reducible apply Exists.intro); (with_reducible refine ⟨fun _ => ?_, hK _ ?_⟩); ((go_at_call 26; (with_reducible refine ext_call _ ?_ (HC.out _ (Below.step' HBB8.out (Ext.below _)))); simp)); clear hK K) | ((with_reducible refine (if_neg ?_).mpr (hK _ ?_)); (decide); clear hK K) | (split <;> (with_reducible refine hK _ ?_; clear hK K))))
                    all_goals ((with_reducible refine wpQuiet_nil ?_); clear hext; intro w1 hx1; have hb1 := ext_below hx1; clear hx1)
                    have HB9 := hid (Below.step' HB8.out hb1)
                    clear hb1
                    go_wp2
                    go_roundw
                    case rel => exact ⟨q + 1, by omega, by go_num, by rw [HA.out]; rfl, HB9.out⟩
                    case measure => simp [intOf]; omega
                · rw [List.take_of_length_le (by rw [HML.out]; omega)] at hfl
                  have hq1 : allB M (d0, d1) = fl := by rw [hfl]; rfl
                  clear hfl
                  have hst4 := HST.out
                  rw [hq1] at hst4
                  have hown8 := own_later HOWN4.out HB8.out
                  have hct := fun w1 (hb1 : Below wr.heap.size wr w1) => contains_any o4 d0 d1 A4 c4 w1 ((Row.of_own hown8).step hb1) (by omega)
                  obtain ⟨me, hme⟩ : ∃ me, me = decide ((d0, d1) ∈ o4) := ⟨_, rfl⟩
                  rw [← hme] at hct
                  have HCT := hid hct
                  have HME := hid hme
                  have HOWN8 := hid hown8
                  have HST4 := hid hst4
                  have HB48 := hid (Below.step' HB4.out HB8.out)
                  have hs8 := HB48.out.size
                  clear hct hme hown8 hst4 hq1
                  cases fl
                  · go_wp2
                    go_roundw
                    case rel => exact ⟨j + 1, by omega, by go_num, by rw [HST4.out, if_neg (by simp)]; exact HOWN8.out, HB48.out⟩
                    case measure => simp [intOf]; omega
                  · cases me
                    all_goals
                      go_wp2_with fail
                      refine (HCT.out _ (Below.refl _ _)).mono ?_
                      rintro e w1 ⟨rfl, hb1⟩
                      have HB9 := hid (Below.step' HB48.out hb1)
                      have HOWN9 := hid (own_later HOWN8.out hb1)
                      have hs9 := hb1.size
                      obtain ⟨hbx9, -, -, -, -, f49⟩ := HF.out w1 (Below.step' HBB8.out hb1)
                      obtain ⟨hb29, g09, g19⟩ := RX5.out w1 (Below.step' HBB8.out hb1)
                      clear hb1 f4 g0 g1 hbx hb2
                    · have hla : addD o4 (d0, d1) = o4 ++ [(d0, d1)] := by unfold addD; rw [if_neg (of_decide_eq_false HME.out.symm)]
                      have HLA := hid hla
                      clear hla
                      go_wp2_with (at_builtin; refine wpList_append_own _ rfl _ _ 23 rfl W1.heap.size 27 i0 _ 2 16 Try.underlying23 hi0 hz0 hz1 hz2 rfl (by decide) _ _ _ rfl (HOWN9.out.alloc _) ⟨w1.heap.size, 0, none⟩ 1 1 (dcells [(d0, d1)]) rfl rfl (news_new w1 _ _ _ _ rfl) (dcells_one _) ?_ ?_ ?_ ?_; rotate_right; intro v6 w6 hown6 hg6 _; rotate_left; (simp only [maxLen]; omega); (omega); (simp; omega))
                      go_roundw
                      case rel =>
                        refine ⟨j + 1, by omega, by go_num, ?_, (HB9.out.alloc (by omega) _).grown hg6 (by simp; omega) (fun g e => (HOWN9.out.lt g e).1)⟩
                        rw [HST4.out, if_pos trivial, HLA.out]
                        simpa [dcells] using hown6
                      case measure => simp [intOf]; omega
                    · go_wp2
                      go_roundw
                      case rel => exact ⟨j + 1, by omega, by go_num, by rw [HST4.out, if_pos trivial]; unfold addD; rw [if_pos (of_decide_eq_true HME.out.symm)]; exact HOWN9.out, HB9.out⟩
                      case measure => simp [intOf]; omega
            · clear hst f0 f1 f2 f3
              go_wp2
              go_roundw
              case rel => exact ⟨i + 1, by omega, by go_num, by rw [HFIN.out hjl]; exact HOWN4.out, HB4.out⟩
              case measure => simp [intOf]; omega
        · have hO : O = cloudAll M := by rw [HO.out, List.take_of_length_le (by rw [HML.out]; omega)]; rfl
          obtain ⟨hpk, hl6, hrt⟩ := HD.out (onceD O) (onceD_ok O).1 (fun d => by rw [(onceD_ok O).2, hO])
          clear hO
          obtain ⟨A8, c8, rfl⟩ := own_form hown
          have hpkc := Rpacked_any m.c0 m.c1 m.c2 m.c3 (onceD O) A8 c8 wr (Row.of_own hown) (by omega) HCI.out hrt
          rw [hpk] at hpkc
          have HPK := hid hpkc
          have HB9 := hid hB
          have hsq := hbw.size
          obtain ⟨⟨cq0, cq1⟩, cq2⟩ : (wr.cell? ⟨Q, 0, none⟩ = some (.int .i64 m.c0) ∧ wr.cell? ⟨Q, 1, none⟩ = some (.int .i64 m.c1)) ∧ (wr.cell? ⟨Q, 2, none⟩ = some (.int .i64 m.c2) ∧ wr.cell? ⟨Q, 3, none⟩ = some (.int .i64 m.c3)) := by
            have h := (HXQ1.out.step hbw).cells.1
            exact ⟨⟨h 0, h 1⟩, h 2, h 3⟩
          obtain ⟨cq2, cq3⟩ := cq2
          have HXR9 := hid (HXR1.out.step hbw)
          clear hpk hrt hpkc hown hbw hB hl6
          go_wp2_with fail
          refine HPK.out.mono ?_
          rintro e w9 ⟨A9, k9, rfl, hrow9, hb9, hnew9⟩
          obtain ⟨J, hJ⟩ : ∃ J, J = meetC M := ⟨_, rfl⟩
          rw [← hJ] at HX HE hrow9 ⊢
          clear hJ
          have hR := (HXR9.out.step hb9).alloc (.cells (cbox J A9 k9) 25)
          have hBX := alloc_below (Below.step' HB9.out hb9) (.cells (cbox J A9 k9) 25)
          have hrow := hrow9.alloc (.cells (cbox J A9 k9) 25)
          have hJX := Blk.new w9 (cbox J A9 k9) 25
          have hx1 := HXR1.out.lt
          have hs9 := hb9.size
          have HW : Hid (w.heap.size < wr.heap.size) := hid (by omega)
          have hsw := HB9.out.size
          obtain ⟨W6, hW6⟩ : ∃ W6 : World, W6 = w9.alloc (.cells (cbox J A9 k9) 25) := ⟨_, rfl⟩
          rw [← hW6] at hR hBX hrow hJX
          obtain ⟨⟨r0, r1, r2, r3, r4⟩, f0, f1, f2, f3, f4⟩ := hR.five
          obtain ⟨⟨j0, j1, j2, j3, j4⟩, -⟩ := hJX.five
          have HW6 := hid hW6
          have HN := hid hnew9
          clear hb9 hrow9 hnew9 cq0 cq1 cq2 cq3
          by_cases hq4 : 400 < J.cloud.length
          · have HR5 := hid (Blk.set5 hR (.int .i64 0) (.int .i64 0) (.int .i64 0) (.int .i64 0) (.slice none 0 0))
            have HB5 := hid (Below.set5 hBX (Nat.le_refl _) (.int .i64 0) (.int .i64 0) (.int .i64 0) (.int .i64 0) (.slice none 0 0))
            have hq : decide ((400 : Int) < (J.cloud.length : Int)) = true := by simp; omega
            clear hR hBX hrow hJX hW6
            simp only [cval]
            go_upto_region 30 with fail
            have hW6 := HW6.out
            simp only [cbox] at hW6
            rw [← hW6]
            clear hW6 HW6
            go_wp2
            obtain ⟨⟨q0, q1, q2, q3, q4⟩, -⟩ := HR5.out.five
            exact bodyPost_ret (v := .tuple #[cval ⟨0, 0, 0, 0, []⟩ none 0, .int .i64 2]) (by simp [results, Try.results39, go_sem, q0, q1, q2, q3, q4]) rfl ⟨none, 0, by rw [HX.out, HE.out, if_pos hq4, if_pos hq4], by rw [HX.out, if_pos hq4]; exact Row.nil, HB5.out, fun _ _ _ h => by cases h⟩
          · have HR5 := hid (Blk.set5 hR (.int .i64 J.c0) (.int .i64 J.c1) (.int .i64 J.c2) (.int .i64 J.c3) (.slice A9 J.cloud.length k9))
            have HB5 := hid (Below.set5 hBX (Nat.le_refl _) (.int .i64 J.c0) (.int .i64 J.c1) (.int .i64 J.c2) (.int .i64 J.c3) (.slice A9 J.cloud.length k9))
            have HROW := hid (Row.set5 hrow HN.out HW.out (.int .i64 J.c0) (.int .i64 J.c1) (.int .i64 J.c2) (.int .i64 J.c3) (.slice A9 J.cloud.length k9))
            have hq : decide ((400 : Int) < (J.cloud.length : Int)) = false := by simp; omega
            clear hR hBX hrow hJX hW6
            simp only [cval]
            go_upto_region 30 with fail
            have hW6 := HW6.out
            simp only [cbox] at hW6
            rw [← hW6]
            clear hW6 HW6
            go_wp2
            obtain ⟨⟨q0, q1, q2, q3, q4⟩, -⟩ := HR5.out.five
            exact bodyPost_ret (v := .tuple #[cval J A9 k9, .int .i64 0]) (by simp [results, Try.results39, go_sem, q0, q1, q2, q3, q4]) rfl ⟨A9, k9, by rw [HX.out, HE.out, if_neg hq4, if_neg hq4], by rw [HX.out, if_neg hq4]; exact HROW.out, HB5.out, fun b off q e => Nat.le_trans hsw (HN.out b off q e)⟩

theorem common_none (A : Option Addr) (k : Nat) (w : World) : Calls Try.prog 39 #[.slice A 0 k] w (CtxErr ⟨0, 0, 0, 0, []⟩ 1 w) := by
  go_enter Try.func39, Try.ntmps39
  go_wp2
  exact bodyPost_ret (v := .tuple #[cval ⟨0, 0, 0, 0, []⟩ none 0, .int .i64 1]) (by simp [results, Try.results39, go_sem]) rfl ⟨none, 0, rfl, Row.nil, by (repeat' (first | (with_reducible exact Below.refl _ _) | (with_reducible assumption) | (with_reducible refine below_drewN ?_ _) | (with_reducible refine Below.drew ?_) | (with_reducible refine Below.alloc ?_ ?_ _) | (with_reducible refine Below.setCell ?_ ?_ _) | (refine Below.trans ?_ (Below.mono (by assumption) ?_)) | go_size)), fun _ _ _ h => by cases h⟩

theorem common_all (L : List CR) (A : Option Addr) (k : Nat) (w : World) (hr : RowC w w.heap.size A L) (hl : L.length ≤ 2097152) :
    Calls Try.prog 39 #[.slice A L.length k] w (CtxErr (meetX (CR.ctxs L)) (meetE (CR.ctxs L)) w) := by
  by_cases hL : L = []
  · subst hL
    exact common_none A k w
  · exact common_any L A k w hr hl hL
end Go.Proofs.Ytogegnikpjcpdaa
