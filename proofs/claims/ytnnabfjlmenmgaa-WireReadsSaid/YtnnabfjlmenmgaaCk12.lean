/- EqCel, Wg, Wx, MeetP, Stab, MeetA, MeetB, Own, Settled, Wh -/
import Derived.Test.YtnnabfjlmenmgaaCk05
import Derived.Test.YtnnabfjlmenmgaaCk08
import Derived.Test.YtnnabfjlmenmgaaCk01
/- slices.Equal at Cell. -/
namespace Go.Proofs.Ytnnabfjlmenmgaa
set_option linter.unusedVariables false
open Go.ChangeShapes Go.WideShapes Go.ChangeAt Go.RowKit

theorem under_cel : Try.prog.underlying 53 = some (.struct (Try.prog.fieldsOf 53)) := by kernel_rfl
theorem stood_cel : Try.prog.stoodInHeld 53 = false := by kernel_rfl
theorem guard_cel : Try.prog.eqGuardType Try.prog.depth 53 = false := by kernel_rfl
theorem neq_cel (a b c d e a' b' c' d' e' : Int) (w : World) : (binOp .neq 53 (.agg #[.int .i64 a, .int .i64 b, .int .i64 c, .int .i64 d, .int .i64 e]) (.agg #[.int .i64 a', .int .i64 b', .int .i64 c', .int .i64 d', .int .i64 e'])).run Try.prog w = .ok (.bool (!(a == a' && b == b' && c == c' && d == d' && e == e'))) w := by
  have h1 := under_cel
  have h2 := stood_cel
  have h3 := under_dot
  have h4 := stood_dot
  simp only [run_neq_struct, run_equalIn_agg _ _ _ _ _ h1 h2]
  simp [go_sem]
  by_cases ha : a = a' <;> by_cases hb : b = b' <;> by_cases hc : c = c' <;> by_cases hd : d = d' <;> by_cases he : e = e' <;> simp [ha, hb, hc, hd, he]
theorem eql_cel (a b c d e a' b' c' d' e' : Int) (w : World) : (binOp .eql 53 (.agg #[.int .i64 a, .int .i64 b, .int .i64 c, .int .i64 d, .int .i64 e]) (.agg #[.int .i64 a', .int .i64 b', .int .i64 c', .int .i64 d', .int .i64 e'])).run Try.prog w = .ok (.bool (a == a' && b == b' && c == c' && d == d' && e == e')) w := by
  have h1 := under_cel
  have h2 := stood_cel
  have h3 := under_dot
  have h4 := stood_dot
  simp only [run_eql_struct, run_equalIn_agg _ _ _ _ _ h1 h2]
  simp [go_sem]
  by_cases ha : a = a' <;> by_cases hb : b = b' <;> by_cases hc : c = c' <;> by_cases hd : d = d' <;> by_cases he : e = e' <;> simp [ha, hb, hc, hd, he]
theorem cel_eq (a b c d e a' b' c' d' e' : Int) : (a == a' && b == b' && c == c' && d == d' && e == e') = decide ((⟨(a, b), c, d, e⟩ : Cel) = ⟨(a', b'), c', d', e'⟩) := by
  rw [Bool.eq_iff_iff]
  simp [and_assoc]

set_option maxHeartbeats 400000 in
set_option maxRecDepth 100000 in
theorem equalT_any (l m : List Cel) (A B : Option Addr) (c e : Nat) (w : World) (hr : Row w w.heap.size A (tcells l)) (hs : Row w w.heap.size B (tcells m)) (hl : l.length ≤ 9223372036854775807) (hm : m.length ≤ 9223372036854775807) :
    Calls Try.prog 30 #[.slice A l.length c, .slice B m.length e] w fun e w' => e = .returned (.bool (decide (l = m))) ∧ Below w.heap.size w w' := by
  have HR := hid hr
  have HS := hid hs
  clear hr hs
  by_cases hlen : l.length = m.length
  · have hne : ((l.length : Int) != (m.length : Int)) = false := by simp [hlen]
    have HL := hid hlen
    clear hlen
    go_enter Try.func30, Try.ntmps30
    go_wp2
    go_loopw [13] (fun i wr => (∃ k : Nat, k ≤ l.length ∧ i = .int .i64 k ∧ ∀ j (h : j < l.length) (h' : j < m.length), j < k → l[j] = m[j]) ∧ Below w.heap.size w wr) (fun i _ => l.length - (intOf i).toNat)
    case atStart => exact ⟨⟨0, by omega, rfl, fun j _ _ h => absurd h (by omega)⟩, Below.refl _ _⟩
    case round =>
      obtain ⟨⟨k, hk, rfl, hno⟩, hbw⟩ := hrel
      by_cases hlt : k < l.length
      · have hlt' : k < m.length := by have := HL.out; omega
        obtain ⟨b, off, rfl, hb, h0, h1, h2, h3, h4⟩ := (HR.out.below hbw (Nat.le_refl _)).cel hlt
        obtain ⟨b', off', rfl, hb', h0', h1', h2', h3', h4'⟩ := (HS.out.below hbw (Nat.le_refl _)).cel hlt'
        have HN := hid hno
        have HB := hid hbw
        clear hno hbw
        generalize hd : l[k] = d at *
        generalize hd' : m[k] = d' at *
        obtain ⟨⟨d0, d1⟩, d2, d3, d4⟩ := d
        obtain ⟨⟨f0, f1⟩, f2, f3, f4⟩ := d'
        have HD := hid hd
        have HD' := hid hd'
        clear hd hd'
        simp only at h0 h1 h2 h3 h4 h0' h1' h2' h3' h4'
        have g1 := guard_cel
        have g2 := fun w => neq_cel d0 d1 d2 d3 d4 f0 f1 f2 f3 f4 w
        have ce := cel_eq d0 d1 d2 d3 d4 f0 f1 f2 f3 f4
        rw [ce] at g2
        clear ce
        cases hq : decide ((⟨(d0, d1), d2, d3, d4⟩ : Cel) = ⟨(f0, f1), f2, f3, f4⟩)
        all_goals
          rw [hq] at g2
          have HQ := hid hq
          clear hq
          go_wp2
          refine wp_region_quiet_lit (by kernel_rfl) (by kernel_rfl) ?_
          repeat (any_goals ((with_reducible refine wpQuiet_step (fun K hK => ?_)); go_simp; first | (with_reducible refine hK _ ?_; clear hK K) | ((with_reducible apply Exists.intro); (with_reducible refine ⟨fun _ => ?_, hK _ ?_⟩); (fail); clear hK K) | ((with_reducible refine (if_neg ?_).mpr (hK _ ?_)); (decide); clear hK K) | (split <;> (with_reducible refine hK _ ?_; clear hK K))))
          all_goals ((with_reducible refine wpQuiet_nil ?_); intro _ hw'; obtain ⟨nq, hw''⟩ := hw'; subst hw'')
          go_wp2
        · go_ret
          refine ⟨ret_bool ?_, below_drewN HB.out _⟩
          symm
          rw [decide_eq_false_iff_not]
          rintro rfl
          exact (of_decide_eq_false HQ.out) (HD.out.symm.trans HD'.out)
        · go_roundw
          case rel =>
            refine ⟨⟨k + 1, by omega, by go_num, fun j h h' hj => ?_⟩, below_drewN HB.out _⟩
            by_cases e : j = k
            · subst e; rw [HD.out, HD'.out]; exact of_decide_eq_true HQ.out
            · exact HN.out j h h' (by omega)
          case measure => simp [intOf]; omega
      · go_wp2
        go_ret
        refine ⟨ret_bool ?_, hbw⟩
        have : l = m := List.ext_getElem HL.out fun j h h' => hno j h h' (by omega)
        simp [this]
  · have hne : ((l.length : Int) != (m.length : Int)) = true := by simp; omega
    go_enter Try.func30, Try.ntmps30
    go_wp2
    go_ret
    exact ⟨ret_bool (by symm; simp; rintro rfl; exact hlen rfl), Below.refl _ _⟩
end Go.Proofs.Ytnnabfjlmenmgaa
/- viewref.SameTable. -/
namespace Go.Proofs.Ytnnabfjlmenmgaa
set_option linter.unusedVariables false
set_option linter.unusedSimpArgs false
open Go.ChangeShapes Go.WideShapes Go.ChangeAt Go.RowKit

def sameTB (t u : Tab) : Bool := sameB t.c u.c && decide (t.cells = u.cells)
theorem sameTB_iff (t u : Tab) : sameTB t u = true ↔ t = u := by
  unfold sameTB
  rw [Bool.and_eq_true, sameB_iff, decide_eq_true_eq]
  constructor
  · rintro ⟨h1, h2⟩
    cases t; cases u
    simp only at h1 h2
    rw [h1, h2]
  · rintro rfl
    exact ⟨rfl, rfl⟩
set_option maxHeartbeats 1600000 in
set_option maxRecDepth 100000 in
theorem sameTab_any (x y : TR) (w : World) (hx : x.ok w) (hy : y.ok w) :
    Calls Try.prog 17 #[x.val, y.val] w fun e w' => e = .returned (.bool (sameTB x.t y.t)) ∧ Below w.heap.size w w' := by
  obtain ⟨⟨⟨c0, c1, c2, c3, cl⟩, l⟩, A, k, B, m⟩ := x
  obtain ⟨⟨⟨d0, d1, d2, d3, dl⟩, l'⟩, A', k', B', m'⟩ := y
  obtain ⟨ra, la, rb, lb⟩ := hx
  obtain ⟨ra', la', rb', lb'⟩ := hy
  simp only at ra la rb lb ra' la' rb' lb'
  have HSM := hid (fun w1 (hb : Below w.heap.size w w1) => same_ints c0 c1 c2 c3 d0 d1 d2 d3 cl dl A A' k k' w1 (ra.step hb) (ra'.step hb) la la')
  have HEQ := hid (fun w1 (hb : Below w.heap.size w w1) => equalT_any l l' B B' m m' w1 (rb.step hb) (rb'.step hb) lb lb')
  have HSB := hid (show sameTB ⟨⟨c0, c1, c2, c3, cl⟩, l⟩ ⟨⟨d0, d1, d2, d3, dl⟩, l'⟩ = (sameB ⟨c0, c1, c2, c3, cl⟩ ⟨d0, d1, d2, d3, dl⟩ && decide (l = l')) from rfl)
  obtain ⟨R, hR⟩ : ∃ q, q = sameTB ⟨⟨c0, c1, c2, c3, cl⟩, l⟩ ⟨⟨d0, d1, d2, d3, dl⟩, l'⟩ := ⟨_, rfl⟩
  obtain ⟨R1, hR1⟩ : ∃ q, q = sameB ⟨c0, c1, c2, c3, cl⟩ ⟨d0, d1, d2, d3, dl⟩ := ⟨_, rfl⟩
  obtain ⟨R2, hR2⟩ : ∃ q, q = decide (l = l') := ⟨_, rfl⟩
  rw [← hR, ← hR1, ← hR2] at HSB
  rw [← hR1] at HSM
  rw [← hR2] at HEQ
  simp only
  rw [← hR]
  clear ra rb ra' rb' hR hR1 hR2
  simp only [TR.val, tval] at *
  go_enter Try.func17, Try.ntmps17
  go_wp2_with fail
  refine (HSM.out _ (by (repeat' (first | (with_reducible exact Below.refl _ _) | (with_reducible assumption) | (with_reducible refine below_drewN ?_ _) | (with_reducible refine Below.drew ?_) | (with_reducible refine Below.alloc ?_ ?_ _) | (with_reducible refine Below.setCell ?_ ?_ _) | (refine Below.trans ?_ (Below.mono (by assumption) ?_)) | go_size)))).mono ?_
  rintro e w1 ⟨rfl, hb1⟩
  have HBW := hid (show Below w.heap.size w w1 from (by refine Below.step' ?_ hb1; (repeat' (first | (with_reducible exact Below.refl _ _) | (with_reducible assumption) | (with_reducible refine below_drewN ?_ _) | (with_reducible refine Below.drew ?_) | (with_reducible refine Below.alloc ?_ ?_ _) | (with_reducible refine Below.setCell ?_ ?_ _) | (refine Below.trans ?_ (Below.mono (by assumption) ?_)) | go_size))))
  have HXA := hid (Blk.step (w := _) (b := w.heap.size) (cs := #[.int .i64 c0, .int .i64 c1, .int .i64 c2, .int .i64 c3, .slice A cl.length k, .slice B l.length m]) (T := 28) (by exact (Blk.new w _ _).alloc _) hb1)
  have HXB := hid (Blk.step (w := _) (b := w.heap.size + 1) (cs := #[.int .i64 d0, .int .i64 d1, .int .i64 d2, .int .i64 d3, .slice A' dl.length k', .slice B' l'.length m']) (T := 28) (by exact Blk.new' (w.alloc _) _ _ (by simp)) hb1)
  clear hb1
  cases R1
  · have HR := hid (show R = false by rw [HSB.out]; rfl)
    go_wp2_with fail
    -- STOP-a
    go_ret
    exact ⟨by rw [HR.out]; rfl, HBW.out⟩
  · have HR := hid (show R = R2 by rw [HSB.out]; rfl)
    obtain ⟨cHXA, fHXA, sHXA, nHXA⟩ := HXA.out.all
    try simp only [cbox] at cHXA
    obtain ⟨cHXB, fHXB, sHXB, nHXB⟩ := HXB.out.all
    try simp only [cbox] at cHXB
    go_wp2_with fail
    refine (HEQ.out _ HBW.out).mono ?_
    rintro e w2 ⟨rfl, hb2⟩
    go_wp2_with fail
    go_ret
    exact ⟨by rw [HR.out]; rfl, Below.step' HBW.out hb2⟩
end Go.Proofs.Ytnnabfjlmenmgaa
/- viewref.Rest; small facts for WireBack. -/
namespace Go.Proofs.Ytnnabfjlmenmgaa
set_option linter.unusedVariables false
set_option linter.unusedSimpArgs false
open Go.ChangeShapes Go.WideShapes Go.ChangeAt Go.RowKit

set_option maxRecDepth 100000 in
theorem rest_any (n m : Int) (w : World) (hm : 0 < m) (hm2 : m ≤ 4611686018427387904) :
    Calls Try.prog 16 #[.int .i64 n, .int .i64 m] w fun e w' => e = .returned (.int .i64 (n % m)) ∧ w' = w := by
  have h1 := Int.tmod_lt_of_pos n hm
  have h2 : -m < n.tmod m := by
    have := Int.lt_tmod_of_pos n hm
    omega
  have h3 : n % m = if n.tmod m < 0 then n.tmod m + m else n.tmod m := by
    rw [Int.emod_eq_tmod]
    by_cases hn : 0 ≤ n
    · have := Int.tmod_nonneg m hn
      rw [if_pos (.inl hn), if_neg (by omega)]
      omega
    · by_cases hd : m ∣ n
      · have : n.tmod m = 0 := Int.tmod_eq_zero_of_dvd hd
        rw [if_pos (.inr hd), if_neg (by omega)]
        omega
      · have h0 : n.tmod m ≠ 0 := fun e => hd (Int.dvd_of_tmod_eq_zero e)
        have h4 : n.tmod m ≤ 0 := by
          have h5 := Int.tmod_nonneg (a := -n) m (by omega)
          rw [Int.neg_tmod] at h5
          omega
        rw [if_neg (by rintro (h | h); omega; exact hd h), if_pos (by omega)]
        omega
  obtain ⟨R, hR⟩ : ∃ q, q = n % m := ⟨_, rfl⟩
  rw [← hR] at h3 ⊢
  clear hR
  have hz : (m == 0) = false := beq_eq_false_iff_ne.2 (by omega)
  generalize hT : n.tmod m = T at *
  by_cases q : T < 0
  · have t1 : (T < 0) = True := eq_true q
    have w1 : IntKind.i64.wrap (T + m) = T + m := IntWalk.i64_in _ (by omega)
    rw [if_pos q] at h3
    have HR := hid h3
    clear q h3
    go_enter Try.func16, Try.ntmps16
    go_wp2_with fail
    -- STOP-a
    go_ret
    exact ⟨by rw [HR.out]; rfl, rfl⟩
  · have t1 : (T < 0) = False := eq_false q
    rw [if_neg q] at h3
    have HR := hid h3
    clear q h3
    go_enter Try.func16, Try.ntmps16
    go_wp2_with fail
    go_ret
    exact ⟨by rw [HR.out]; rfl, rfl⟩
end Go.Proofs.Ytnnabfjlmenmgaa
/- Meets of contexts: what all have. No program in sight. -/
namespace Go.Proofs.Ytnnabfjlmenmgaa
set_option linter.unusedVariables false

/-- What is wrong with the first one that is wrong. -/
def badL : List Ctx → Int
  | [] => 0
  | c :: L => if checkI c ≠ 0 then checkI c else badL L
def minC (m x : Ctx) : Ctx := ⟨min m.c0 x.c0, min m.c1 x.c1, min m.c2 x.c2, min m.c3 x.c3, m.cloud⟩
def minL (L : List Ctx) : Ctx := L.foldl minC { L.headD ⟨0, 0, 0, 0, []⟩ with cloud := [] }
def allB (L : List Ctx) (d : Int × Int) : Bool := L.all (fun c => hasB c d)
def cloudOf (L : List Ctx) (x : Ctx) : List (Int × Int) := x.cloud.filter (allB L)
def cloudAll (L : List Ctx) : List (Int × Int) := L.flatMap (cloudOf L)
def meetC (L : List Ctx) : Ctx := packL (minL L).c0 (minL L).c1 (minL L).c2 (minL L).c3 (cloudAll L)
def meetX (L : List Ctx) : Ctx := if L = [] ∨ badL L ≠ 0 ∨ 400 < (meetC L).cloud.length then ⟨0, 0, 0, 0, []⟩ else meetC L
def meetE (L : List Ctx) : Int := if L = [] then 1 else if badL L ≠ 0 then badL L else if 400 < (meetC L).cloud.length then 2 else 0

theorem badL_zero {L : List Ctx} : badL L = 0 ↔ ∀ c ∈ L, checkI c = 0 := by
  induction L with
  | nil => simp [badL]
  | cons c L ih =>
    unfold badL
    split
    · rename_i h
      constructor
      · intro e; exact absurd e h
      · intro e; exact absurd (e c (by simp)) h
    · rename_i h
      have h : checkI c = 0 := by simpa using h
      rw [ih]
      simp [h]
theorem badL_take {L : List Ctx} {i : Nat} (h : i < L.length) (h0 : ∀ c ∈ L.take i, checkI c = 0) (h1 : checkI L[i] ≠ 0) : badL L = checkI L[i] := by
  induction L generalizing i with
  | nil => simp at h
  | cons c L ih =>
    cases i with
    | zero => unfold badL; simp at h1; simp [h1]
    | succ i =>
      have h2 : checkI c = 0 := h0 c (by simp)
      unfold badL
      rw [if_neg (by simp [h2])]
      simp only [List.getElem_cons_succ] at h1 ⊢
      exact ih (by simpa using h) (fun x hx => h0 x (by simp [hx])) h1

theorem at_minC (m x : Ctx) (n : Int) : (minC m x).at_ n = min (m.at_ n) (x.at_ n) := by
  unfold minC Ctx.at_
  simp only
  split
  · rfl
  · split
    · rfl
    · split <;> rfl
theorem minL_fold (n : Int) : ∀ (L : List Ctx) (m : Ctx), (L.foldl minC m).at_ n ≤ m.at_ n ∧ (∀ c ∈ L, (L.foldl minC m).at_ n ≤ c.at_ n) ∧ ((L.foldl minC m).at_ n = m.at_ n ∨ ∃ c ∈ L, (L.foldl minC m).at_ n = c.at_ n)
  | [], m => by simp
  | c :: L, m => by
    obtain ⟨h1, h2, h3⟩ := minL_fold n L (minC m c)
    rw [List.foldl_cons]
    rw [at_minC] at h1 h3
    refine ⟨by omega, ?_, ?_⟩
    · intro x hx
      rcases List.mem_cons.1 hx with rfl | hx
      · omega
      · exact h2 x hx
    · rcases h3 with h3 | ⟨x, hx, h3⟩
      · by_cases h4 : m.at_ n ≤ c.at_ n
        · left; omega
        · right; exact ⟨c, by simp, by omega⟩
      · right; exact ⟨x, by simp [hx], h3⟩
theorem minL_at {L : List Ctx} (hL : L ≠ []) (n : Int) : (∀ c ∈ L, (minL L).at_ n ≤ c.at_ n) ∧ ∃ c ∈ L, (minL L).at_ n = c.at_ n := by
  obtain ⟨h1, h2, h3⟩ := minL_fold n L { L.headD ⟨0, 0, 0, 0, []⟩ with cloud := [] }
  refine ⟨h2, ?_⟩
  rcases h3 with h3 | h3
  · cases L with
    | nil => exact absurd rfl hL
    | cons c L => exact ⟨c, by simp, h3⟩
  · exact h3
theorem minL_cloud (L : List Ctx) : (minL L).cloud = [] := by
  unfold minL
  have h : ∀ (L : List Ctx) (m : Ctx), (L.foldl minC m).cloud = m.cloud := by
    intro L
    induction L with
    | nil => simp
    | cons c L ih => intro m; rw [List.foldl_cons, ih]; rfl
  rw [h]
theorem minL_eta (L : List Ctx) : minL L = ⟨(minL L).c0, (minL L).c1, (minL L).c2, (minL L).c3, []⟩ := by
  have h := minL_cloud L
  generalize minL L = m at *
  obtain ⟨a, b, c, d, e⟩ := m
  simp only at h
  rw [h]
theorem minL_in {L : List Ctx} (hL : L ≠ []) (h : ∀ c ∈ L, clkIn c) : clkIn (minL L) := by
  have hb : ∀ n, 0 ≤ (minL L).at_ n ∧ (minL L).at_ n ≤ 1099511627776 := by
    intro n
    obtain ⟨-, c, hc, e⟩ := minL_at hL n
    rw [e]
    exact at_in (h c hc) n
  have h0 := hb 0
  have h1 := hb 1
  have h2 := hb 2
  have h3 := hb 3
  simp [Ctx.at_] at h0 h1 h2 h3
  exact ⟨h0, h1, h2, h3⟩
theorem allB_iff {L : List Ctx} {d : Int × Int} : allB L d = true ↔ ∀ c ∈ L, hasB c d = true := by simp [allB]
theorem cloudAll_mem {L : List Ctx} {d : Int × Int} : d ∈ cloudAll L ↔ (∃ c ∈ L, d ∈ c.cloud) ∧ allB L d = true := by
  unfold cloudAll cloudOf
  simp only [List.mem_flatMap, List.mem_filter]
  constructor
  · rintro ⟨c, h1, h2, h3⟩; exact ⟨⟨c, h1, h2⟩, h3⟩
  · rintro ⟨⟨c, h1, h2⟩, h3⟩; exact ⟨c, h1, h2, h3⟩
/-- Whatever list has the dots of the clouds that all have: packed, it is what all have. -/
theorem meet_pack {L : List Ctx} (hL : L ≠ []) (hok : ∀ c ∈ L, okC c) {D : List (Int × Int)} (hD : ∀ d, d ∈ D ↔ d ∈ cloudAll L) :
    okC (packL (minL L).c0 (minL L).c1 (minL L).c2 (minL L).c3 D) ∧ ∀ d, hasB (packL (minL L).c0 (minL L).c1 (minL L).c2 (minL L).c3 D) d = true ↔ ∀ c ∈ L, hasB c d = true := by
  have hin := minL_in hL (fun c hc => (hok c hc).1)
  rw [minL_eta] at hin
  obtain ⟨h1, h2⟩ := pack_ok (l := D) hin (fun d hd => by
    obtain ⟨⟨c, hc, h⟩, -⟩ := cloudAll_mem.1 ((hD d).1 hd)
    exact ((hok c hc).2.1 d h).1)
  refine ⟨h1, fun d => ?_⟩
  rw [h2, ← minL_eta, hD, cloudAll_mem, allB_iff]
  constructor
  · rintro (h | ⟨-, h⟩)
    · intro c hc
      rcases hasB_iff.1 h with ⟨a1, a2, a3, a4⟩ | h
      · exact hasB_iff.2 (.inl ⟨a1, a2, a3, Int.le_trans a4 ((minL_at hL d.1).1 c hc)⟩)
      · rw [minL_cloud] at h; simp at h
    · exact h
  · intro h
    obtain ⟨hle, c, hc, e⟩ := minL_at hL d.1
    rcases hasB_iff.1 (h c hc) with ⟨a1, a2, a3, a4⟩ | h'
    · exact .inl (hasB_iff.2 (.inl ⟨a1, a2, a3, by rw [e]; exact a4⟩))
    · exact .inr ⟨⟨c, hc, h'⟩, h⟩
theorem meet_ok {L : List Ctx} (hL : L ≠ []) (hok : ∀ c ∈ L, okC c) : okC (meetC L) ∧ ∀ d, hasB (meetC L) d = true ↔ ∀ c ∈ L, hasB c d = true := meet_pack hL hok (fun d => Iff.rfl)
theorem meet_same {L : List Ctx} (hL : L ≠ []) (hok : ∀ c ∈ L, okC c) {D : List (Int × Int)} (hD : ∀ d, d ∈ D ↔ d ∈ cloudAll L) :
    packL (minL L).c0 (minL L).c1 (minL L).c2 (minL L).c3 D = meetC L := by
  obtain ⟨h1, h2⟩ := meet_pack hL hok hD
  obtain ⟨h3, h4⟩ := meet_ok hL hok
  exact okC_ext h1 h3 fun d => by rw [Bool.eq_iff_iff, h2, h4]

/-- Once each. -/
def addD (D : List (Int × Int)) (d : Int × Int) : List (Int × Int) := if d ∈ D then D else D ++ [d]
def onceD (l : List (Int × Int)) : List (Int × Int) := l.foldl addD []
theorem addD_mem {D : List (Int × Int)} {d x : Int × Int} : x ∈ addD D d ↔ x ∈ D ∨ x = d := by
  unfold addD
  split
  · rename_i h
    constructor
    · exact .inl
    · rintro (h1 | rfl)
      · exact h1
      · exact h
  · simp
theorem addD_nodup {D : List (Int × Int)} {d : Int × Int} (h : D.Nodup) : (addD D d).Nodup := by
  unfold addD
  split
  · exact h
  · rename_i h1
    rw [List.nodup_append]
    refine ⟨h, by simp, ?_⟩
    intro a ha b hb
    simp only [List.mem_singleton] at hb
    subst hb
    rintro rfl
    exact h1 ha
theorem fold_addD : ∀ (l D : List (Int × Int)), D.Nodup → (l.foldl addD D).Nodup ∧ ∀ x, x ∈ l.foldl addD D ↔ x ∈ D ∨ x ∈ l
  | [], D, h => ⟨h, fun x => by simp⟩
  | d :: l, D, h => by
    obtain ⟨h1, h2⟩ := fold_addD l (addD D d) (addD_nodup h)
    refine ⟨h1, fun x => ?_⟩
    rw [List.foldl_cons, h2, addD_mem]
    simp [or_assoc]
theorem onceD_ok (l : List (Int × Int)) : (onceD l).Nodup ∧ ∀ x, x ∈ onceD l ↔ x ∈ l := by
  obtain ⟨h1, h2⟩ := fold_addD l [] (by simp)
  exact ⟨h1, fun x => by rw [onceD, h2]; simp⟩
theorem addD_len (D : List (Int × Int)) (d : Int × Int) : D.length ≤ (addD D d).length := by unfold addD; split <;> simp
/-- What all have beyond their clocks, each once, lies in the clouds of four. -/
theorem once_len {L : List Ctx} (hL : L ≠ []) (hok : ∀ c ∈ L, okC c) (h4 : ∀ c ∈ L, c.cloud.length ≤ 400) {D : List (Int × Int)} (hn : D.Nodup) (hD : ∀ d ∈ D, d ∈ cloudAll L) : D.length ≤ 1600 := by
  obtain ⟨-, x0, hx0, e0⟩ := minL_at hL 0
  obtain ⟨-, x1, hx1, e1⟩ := minL_at hL 1
  obtain ⟨-, x2, hx2, e2⟩ := minL_at hL 2
  obtain ⟨-, x3, hx3, e3⟩ := minL_at hL 3
  have hsub : D ⊆ x0.cloud ++ (x1.cloud ++ (x2.cloud ++ x3.cloud)) := by
    intro d hd
    obtain ⟨⟨c, hc, hdc⟩, ha⟩ := cloudAll_mem.1 (hD d hd)
    rw [allB_iff] at ha
    obtain ⟨hr, hs⟩ := (hok c hc).2.1 d hdc
    have hr := right_iff.1 hr
    have hm := (minL_at hL d.1).1 c hc
    have key : ∀ x ∈ L, (minL L).at_ d.1 = x.at_ d.1 → d ∈ x.cloud := by
      intro x hx e
      rcases hasB_iff.1 (ha x hx) with ⟨-, -, -, h⟩ | h
      · omega
      · exact h
    rcases (by omega : d.1 = 0 ∨ d.1 = 1 ∨ d.1 = 2 ∨ d.1 = 3) with h | h | h | h
    · have := key x0 hx0 (by rw [h]; exact e0); simp [this]
    · have := key x1 hx1 (by rw [h]; exact e1); simp [this]
    · have := key x2 hx2 (by rw [h]; exact e2); simp [this]
    · have := key x3 hx3 (by rw [h]; exact e3); simp [this]
  have h := hn.length_le_of_subset hsub
  simp only [List.length_append] at h
  have := h4 x0 hx0
  have := h4 x1 hx1
  have := h4 x2 hx2
  have := h4 x3 hx3
  omega
theorem cloudAll_len {L : List Ctx} {n : Nat} (h4 : ∀ c ∈ L, c.cloud.length ≤ 400) : (cloudAll L).length ≤ 400 * L.length := by
  have h : ∀ (M : List Ctx), (∀ c ∈ M, c.cloud.length ≤ 400) → (M.flatMap (cloudOf L)).length ≤ 400 * M.length := by
    intro M
    induction M with
    | nil => simp
    | cons c M ih =>
      intro hM
      have h1 := ih (fun x hx => hM x (by simp [hx]))
      have h2 := hM c (by simp)
      have h3 : (cloudOf L c).length ≤ c.cloud.length := List.length_filter_le _ _
      simp only [List.flatMap_cons, List.length_append, List.length_cons]
      omega
  exact h L h4
theorem meetC_len {L : List Ctx} (hL : L ≠ []) (hok : ∀ c ∈ L, okC c) (h4 : ∀ c ∈ L, c.cloud.length ≤ 400) : (meetC L).cloud.length ≤ 1600 := by
  rw [← meet_same hL hok (onceD_ok (cloudAll L)).2]
  exact Nat.le_trans pack_length (once_len hL hok h4 (onceD_ok _).1 (fun d hd => ((onceD_ok _).2 d).1 hd))
end Go.Proofs.Ytnnabfjlmenmgaa
/- slices.IndexFunc, ContainsFunc at Context; stable.all and its predicate. -/
namespace Go.Proofs.Ytnnabfjlmenmgaa
set_option linter.unusedVariables false
open Go.ChangeShapes Go.WideShapes Go.ChangeAt Go.RowKit

def PredC (g : Nat) (caps : Array Value) (p : Ctx → Bool) (L : List CR) (w : World) : Prop :=
  ∀ w', Below w.heap.size w w' → ∀ x ∈ L, Calls Try.prog g (#[cval x.c x.A x.k] ++ caps) w' fun e w'' => e = .returned (.bool (p x.c)) ∧ Below w'.heap.size w' w''

theorem not_anyC (L : List Ctx) (f : Ctx → Bool) : (!L.any (fun d => !f d)) = L.all f := by
  induction L with
  | nil => rfl
  | cons x l ih => simp only [List.any_cons, List.all_cons, ← ih]; cases f x <;> simp

end Go.Proofs.Ytnnabfjlmenmgaa
/- stable.Meet: no context, a wrong one. -/
namespace Go.Proofs.Ytnnabfjlmenmgaa
set_option linter.unusedVariables false
open Go.ChangeShapes Go.WideShapes Go.ChangeAt Go.RowKit

theorem gb_below {w0 w w' : World} {row : Option Nat} (h : w0.grownBy w row) (hb : Below w.heap.size w w') : w0.grownBy w' row :=
  grown_trans h ⟨hb.os, hb.tape, hb.output, hb.size, fun k hk _ => hb.block k hk⟩
theorem gb_set {w0 w : World} {P : Nat} (h : w0.grownBy w (some P)) (i : Nat) (v : Value) : w0.grownBy (w.setCell ⟨P, i, none⟩ v) (some P) :=
  grown_trans h ⟨rfl, rfl, rfl, by simp, fun k hk hne => Below.heap_setCell w ⟨P, i, none⟩ v k (by intro e; exact hne (by rw [e]))⟩
theorem gb_own {w0 w w' : World} {P : Nat} {row : Option Nat} (h : w0.grownBy w (some P)) (hg : w.grownBy w' row) (hr : ∀ g, row = some g → w0.heap.size ≤ g) : w0.grownBy w' (some P) :=
  ⟨hg.os.trans h.os, hg.tape.trans h.tape, hg.output.trans h.output, Nat.le_trans h.size hg.size, fun k hk hne => (hg.block k (Nat.lt_of_lt_of_le hk h.size) (fun e => by have := hr k e.symm; omega)).trans (h.block k hk hne)⟩
theorem gb_to {w0 w' : World} {P B : Nat} (h : w0.grownBy w' (some P)) (hB : B ≤ P) (hB2 : B ≤ w0.heap.size) : Below B w0 w' :=
  ⟨h.os, h.tape, h.output, h.size, fun k hk => h.block k (by omega) (by intro e; injection e with e; omega)⟩
theorem gb_blk {w0 w' : World} {P b : Nat} {cs : Array Value} {T : TypeId} (h : w0.grownBy w' (some P)) (hx : Blk w0 b cs T) (hne : b ≠ P) : Blk w' b cs T :=
  hx.grown h (by intro e; injection e with e; exact hne e)

theorem ctxs_get (L : List CR) (i : Nat) (h : i < L.length) : (CR.ctxs L)[i]'(by simpa using h) = L[i].c := by simp

end Go.Proofs.Ytnnabfjlmenmgaa
/- stable.Meet: right contexts. -/
namespace Go.Proofs.Ytnnabfjlmenmgaa
set_option linter.unusedVariables false
open Go.ChangeShapes Go.WideShapes Go.ChangeAt Go.RowKit

theorem flat_cloud_len (L : List Ctx) : ∀ (N : List Ctx), (∀ c ∈ N, c.cloud.length ≤ 400) → (N.flatMap (cloudOf L)).length ≤ 400 * N.length
  | [], _ => by simp
  | c :: N, h => by
    have h1 := flat_cloud_len L N (fun x hx => h x (by simp [hx]))
    have h2 := h c (by simp)
    have h3 : (cloudOf L c).length ≤ c.cloud.length := List.length_filter_le _ _
    simp only [List.flatMap_cons, List.length_append, List.length_cons]
    omega

end Go.Proofs.Ytnnabfjlmenmgaa
/- Owned rows of whatever size; words for a list of cells that a call makes. No program in sight. -/
namespace Go.Proofs.Ytnnabfjlmenmgaa
set_option linter.unusedVariables false
open Go.RowKit

/-- A list of cells, each of a row of its own make, and an error. -/
def CelsErr (l : List Cel) (x : Int) (w : World) (e : Ending) (w' : World) : Prop :=
  ∃ v, e = .returned (.tuple #[v, .int .i64 x]) ∧ w'.ownsRow w.heap.size 53 5 v l.length (tcells l) ∧ Below w.heap.size w w'
theorem info_cel : (Try.prog.info? 53).map (fun i => (i.zero, i.size, i.bytes)) = some (some (.agg #[.int .i64 0, .int .i64 0, .int .i64 0, .int .i64 0, .int .i64 0]), 5, 40) := by kernel_rfl
theorem newsT (w : World) (x : Cel) (T : TypeId) (H : Nat) (hH : w.heap.size = H) : ∀ j u, (tcells [x])[j]? = some u → (w.alloc (.cells #[.int .i64 x.d.1, .int .i64 x.d.2, .int .i64 x.key, .int .i64 x.col, .int .i64 x.val] T)).cell? ((⟨H, 0, none⟩ : Addr).add j) = some u := by
  intro j u hu
  subst hH
  rw [add_none, Nat.zero_add, cell_of_row _ _ j _ _ _ (heap_alloc_new w _)]
  simpa using hu
theorem tcells_snoc (l : List Cel) (x : Cel) : tcells (l ++ [x]) = tcells l ++ tcells [x] := by simp [tcells]
end Go.Proofs.Ytnnabfjlmenmgaa
/- stable.Settled. -/
namespace Go.Proofs.Ytnnabfjlmenmgaa
set_option linter.unusedVariables false
open Go.ChangeShapes Go.WideShapes Go.ChangeAt Go.RowKit

theorem tabI_zero {t : Tab} (h : tabI t = 0) : checkI t.c = 0 ∧ t.cells.length ≤ 400 ∧ ∀ i, i < t.cells.length → badCel t i = false := by
  have h1 : checkI t.c = 0 := by
    rcases Classical.em (checkI t.c = 0) with q | q
    · exact q
    · rw [tabI_ctx q] at h; exact absurd h q
  have h2 : t.cells.length ≤ 400 := by
    rcases Nat.lt_or_ge 400 t.cells.length with q | q
    · rw [tabI_large h1 q] at h; cases h
    · exact q
  refine ⟨h1, h2, fun i hi => ?_⟩
  cases q : badCel t i
  · rfl
  · rw [tabI_form h1 h2 hi q] at h; cases h
theorem meetX_len (M : List Ctx) : (meetX M).cloud.length ≤ 400 := by
  unfold meetX
  split
  · simp
  · rename_i h; simp only [not_or] at h; omega

def settledX (t : Tab) (M : List Ctx) : List Cel := if tabI t ≠ 0 ∨ meetE M ≠ 0 then [] else t.cells.filter (fun x => hasB (meetX M) x.d)
def settledE (t : Tab) (M : List Ctx) : Int := if tabI t ≠ 0 then tabI t else meetE M

end Go.Proofs.Ytnnabfjlmenmgaa
/- Packets that are right: their numbers have room; a bit turned. -/
namespace Go.Proofs.Ytnnabfjlmenmgaa
set_option linter.unusedVariables false
set_option linter.unusedSimpArgs false

theorem small_of {t : Tab} (h : tabI t = 0) : SmallT t := by
  obtain ⟨h1, h2, h3⟩ := tabI_zero h
  obtain ⟨⟨hk, hd, -⟩, h4⟩ := (checkI_iff _).1 h1
  refine ⟨fun n hn => ?_, h4, h2⟩
  have hc : ∀ x ∈ t.cells, celOk t.c x = true := fun x hx => by
    obtain ⟨i, hi, rfl⟩ := List.getElem_of_mem hx
    have hb := h3 i hi
    rw [badCel_at hi] at hb
    simp only [Bool.or_eq_false_iff, Bool.not_eq_false'] at hb
    exact hb.1
  simp only [numsT, List.mem_append, List.mem_cons, List.not_mem_nil, or_false] at hn
  unfold clkIn at hk
  rcases hn with ((hn | hn | hn | hn) | hn | hn) | hn | hn
  all_goals try (subst hn; refine ⟨?_, ?_⟩ <;> omega)
  · obtain ⟨d, hd1, hd2⟩ := List.mem_flatMap.1 hn
    have := right_iff.1 (hd d hd1).1
    simp only [dotNs, List.mem_cons, List.not_mem_nil, or_false] at hd2
    rcases hd2 with rfl | rfl <;> (refine ⟨?_, ?_⟩ <;> omega)
  · obtain ⟨x, hx1, hx2⟩ := List.mem_flatMap.1 hn
    have hq := hc x hx1
    simp only [celOk, Bool.and_eq_true, inB, decide_eq_true_eq] at hq
    obtain ⟨⟨⟨hr, -⟩, hk1⟩, hk2, hk3⟩ := hq
    have := right_iff.1 hr
    simp only [celNs, List.mem_cons, List.not_mem_nil, or_false] at hx2
    rcases hx2 with rfl | rfl | rfl | rfl | rfl <;> (refine ⟨?_, ?_⟩ <;> omega)
theorem numB_neg1 : numB (-1) = [1] := by
  rw [numB, show unz (clampN (-1)) = 1 by decide, numU_small (by decide)]; rfl
theorem numB_64 : numB 64 = [128, 1] := by
  rw [numB, show unz (clampN 64) = 128 by decide, numU_big (by decide), numU_small (by decide)]; rfl
theorem numB_0 : numB 0 = [0] := by
  rw [numB, show unz (clampN 0) = 0 by decide, numU_small (by decide)]; rfl
theorem noTab_ok : tabI noTab = 0 := by decide
theorem noTab_len : (codeP noTab noTab).length = 16 := by
  rw [codeP_len]
  have e : encT noTab = [0, 0, 0, 0, 0, 0] := by
    simp [encT, numsT, noTab, encL, numB_0]
  rw [e]; rfl
/-- A packet whose bytes were turned is no more the same. -/
theorem turned {x y : Tab} (hx : tabI x = 0) (hy : tabI y = 0) {B : List UInt8} {n : Nat} (hl : B.length = (codeP x y).length) (hne : B ≠ codeP x y) (h : decOk B = some n) : (rdPac B).1 ≠ (x, y) := fun e => by
  obtain ⟨q1, q2⟩ := dec_only (small_of hx) (small_of hy) h e
  rw [List.take_of_length_le (by omega)] at q1
  exact hne q1
end Go.Proofs.Ytnnabfjlmenmgaa
