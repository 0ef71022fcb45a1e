/- RnP, DotA, RsA -/
import Derived.Test.YtldlmkfigjicgaaDoorRankSaysCardS04
import Derived.Test.YtldlmkfigjicgaaDoorRows
import Derived.Outline
import Derived.StillTail
import Derived.StillTactics
import Derived.Deep.CutBlock
import Derived.Deep.CutRange
/- viewref.Ranked: rows that are put into their places one by one are the rows in their order. No program in sight. -/
namespace Go.Proofs.YtldlmkfigjicgaaDoor
set_option linter.unusedVariables false
set_option linter.unusedSimpArgs false

/-- A row doesn't stand ahead of another one. -/
def nahB (bs : List Int) (r y : List Int) : Bool := decide (0 ≤ cmpBy bs r y)
def atR (bs : List Int) (r : List Int) (out : List (List Int)) : Nat := (out.takeWhile (nahB bs r)).length
def insK (bs : List Int) (out : List (List Int)) (r : List Int) (k : Nat) : List (List Int) := out.take (atR bs r out) ++ (List.replicate k r ++ out.drop (atR bs r out))
def insR (bs : List Int) (out : List (List Int)) (x : It) : List (List Int) := insK bs out x.1 x.2.toNat
def insA (bs : List Int) (l : List It) : List (List Int) := l.foldl (insR bs) []
theorem insA_snoc (bs : List Int) (l : List It) (i : Nat) (h : i < l.length) : insA bs (l.take (i + 1)) = insR bs (insA bs (l.take i)) l[i] := by
  unfold insA
  rw [List.take_succ_eq_append_getElem h, List.foldl_append]
  rfl
theorem take_while (p : List Int → Bool) : ∀ l : List (List Int), l.take (l.takeWhile p).length = l.takeWhile p ∧ l.drop (l.takeWhile p).length = l.dropWhile p
  | [] => ⟨rfl, rfl⟩
  | x :: l => by
    obtain ⟨h1, h2⟩ := take_while p l
    by_cases h : p x = true
    · rw [List.takeWhile_cons_of_pos h, List.dropWhile_cons_of_pos h]
      exact ⟨by rw [List.length_cons, List.take_succ_cons, h1], by rw [List.length_cons, List.drop_succ_cons, h2]⟩
    · rw [List.takeWhile_cons_of_neg h, List.dropWhile_cons_of_neg h]
      exact ⟨rfl, rfl⟩
theorem atR_le (bs r : List Int) (out : List (List Int)) : atR bs r out ≤ out.length := by
  unfold atR
  exact (List.takeWhile_prefix _).length_le
theorem insK_zero (bs r : List Int) (out : List (List Int)) : insK bs out r 0 = out := by
  unfold insK
  rw [List.replicate_zero, List.nil_append, List.take_append_drop]
/-- One more of the same row, at its place. -/
theorem insK_succ (bs r : List Int) (out : List (List Int)) (k : Nat) : (insK bs out r k).take (atR bs r out) ++ ([r] ++ (insK bs out r k).drop (atR bs r out)) = insK bs out r (k + 1) := by
  have h := atR_le bs r out
  unfold insK
  have e : (out.take (atR bs r out)).length = atR bs r out := by rw [List.length_take]; omega
  rw [List.take_append_of_le_length (by omega), List.take_of_length_le (by omega), List.drop_append_of_le_length (by omega), List.drop_of_length_le (by omega), List.nil_append, List.replicate_succ]
  rfl
theorem insK_perm (bs r : List Int) (out : List (List Int)) (k : Nat) : (insK bs out r k).Perm (out ++ List.replicate k r) := by
  unfold insK
  have h1 : (out.take (atR bs r out) ++ (List.replicate k r ++ out.drop (atR bs r out))).Perm (out.take (atR bs r out) ++ (out.drop (atR bs r out) ++ List.replicate k r)) := List.Perm.append_left _ List.perm_append_comm
  rw [← List.append_assoc (out.take _) (out.drop _), List.take_append_drop] at h1
  exact h1
theorem insA_perm (bs : List Int) (l : List It) : ∀ i, i ≤ l.length → (insA bs (l.take i)).Perm (expd (l.take i)) := by
  intro i
  induction i with
  | zero => intro _; exact List.Perm.refl _
  | succ i ih =>
    intro h
    rw [insA_snoc bs l i (by omega), List.take_succ_eq_append_getElem (by omega : i < l.length)]
    have e : expd (l.take i ++ [l[i]]) = expd (l.take i) ++ List.replicate l[i].2.toNat l[i].1 := by unfold expd; rw [List.flatMap_append]; simp
    rw [e]
    exact (insK_perm bs l[i].1 _ _).trans (List.Perm.append_right _ (ih (by omega)))
theorem cmpBy_trans {bs a b c : List Int} (h1 : cmpBy bs a b ≤ 0) (h2 : cmpBy bs b c ≤ 0) : cmpBy bs a c ≤ 0 := (cmpL_trans _ _ _ h1 h2).1
theorem takeWhile_all (p : List Int → Bool) (l : List (List Int)) : ∀ x ∈ l.takeWhile p, p x = true := by
  induction l with
  | nil => intro x hx; simp at hx
  | cons y l ih =>
    intro x hx
    by_cases h : p y = true
    · rw [List.takeWhile_cons_of_pos h] at hx
      rcases List.mem_cons.1 hx with e | e
      · rw [e]; exact h
      · exact ih x e
    · rw [List.takeWhile_cons_of_neg h] at hx; simp at hx
theorem dropWhile_all {bs r : List Int} : ∀ {l : List (List Int)}, l.Pairwise (fun a b => cmpBy bs a b ≤ 0) → ∀ x ∈ l.dropWhile (nahB bs r), cmpBy bs r x ≤ 0
  | [], _, x, hx => by simp at hx
  | y :: l, h, x, hx => by
    obtain ⟨h1, h2⟩ := List.pairwise_cons.1 h
    by_cases q : nahB bs r y = true
    · rw [List.dropWhile_cons_of_pos q] at hx
      exact dropWhile_all h2 x hx
    · rw [List.dropWhile_cons_of_neg q] at hx
      unfold nahB at q
      rw [decide_eq_true_eq] at q
      rcases List.mem_cons.1 hx with e | e
      · rw [e]; omega
      · exact cmpBy_trans (by omega) (h1 x e)
theorem insK_sorted {bs r : List Int} {out : List (List Int)} (h : out.Pairwise (fun a b => cmpBy bs a b ≤ 0)) (k : Nat) : (insK bs out r k).Pairwise (fun a b => cmpBy bs a b ≤ 0) := by
  obtain ⟨e1, e2⟩ := take_while (nahB bs r) out
  have e := List.take_append_drop (atR bs r out) out
  rw [← e] at h
  obtain ⟨p1, p2, p3⟩ := List.pairwise_append.1 h
  rw [e] at h
  have ha : ∀ x ∈ out.take (atR bs r out), cmpBy bs x r ≤ 0 := fun x hx => by
    unfold atR at hx
    rw [e1] at hx
    have := takeWhile_all _ _ x hx
    unfold nahB at this
    rw [decide_eq_true_eq] at this
    have := cmpBy_neg bs x r
    omega
  have hb : ∀ x ∈ out.drop (atR bs r out), cmpBy bs r x ≤ 0 := fun x hx => by
    unfold atR at hx
    rw [e2] at hx
    exact dropWhile_all h x hx
  unfold insK
  refine List.pairwise_append.2 ⟨p1, List.pairwise_append.2 ⟨List.pairwise_replicate.2 (.inr (by rw [cmpBy_self]; omega)), p2, fun a ha' b hb' => ?_⟩, fun a ha' b hb' => ?_⟩
  · rw [(List.mem_replicate.1 ha').2]; exact hb b hb'
  · rcases List.mem_append.1 hb' with q | q
    · rw [(List.mem_replicate.1 q).2]; exact ha a ha'
    · exact p3 a ha' b q
theorem insA_sorted (bs : List Int) (l : List It) : ∀ i, i ≤ l.length → (insA bs (l.take i)).Pairwise (fun a b => cmpBy bs a b ≤ 0) := by
  intro i
  induction i with
  | zero => intro _; exact List.Pairwise.nil
  | succ i ih =>
    intro h
    rw [insA_snoc bs l i (by omega)]
    exact insK_sorted (ih (by omega)) _
theorem expd_perm {l m : List It} (h : l.Perm m) : (expd l).Perm (expd m) := h.flatMap_right _
/-- All in order, one by one or at once. -/
theorem insA_eq (bs : List Int) (l : List It) : insA bs l = expd (l.mergeSort (byLe bs)) := by
  have hm : (l.mergeSort (byLe bs)).Pairwise (fun x y => byLe bs x y = true) := List.pairwise_mergeSort (fun a b c h1 h2 => by
    unfold byLe at *
    simp only [decide_eq_true_eq] at *
    exact cmpBy_trans h1 h2) (fun a b => by
    unfold byLe
    have := cmpBy_neg bs a.1 b.1
    simp only [Bool.or_eq_true, decide_eq_true_eq]
    omega) l
  have h1 := insA_sorted bs l l.length (Nat.le_refl _)
  have h2 := insA_perm bs l l.length (Nat.le_refl _)
  rw [List.take_length] at h1 h2
  refine List.Perm.eq_of_pairwise (le := fun a b => cmpBy bs a b ≤ 0) (fun a b ha hb q1 q2 => ?_) h1 (expd_pair hm) (h2.trans (expd_perm (List.mergeSort_perm _ _).symm))
  have := cmpBy_neg bs a b
  exact cmpBy_eq bs a b (by omega)
/-! what is wrong -/
def wR (l : List It) : Int := match l with
  | [] => 8
  | x :: _ => (x.1.length : Int)
theorem rankE_set {l : List It} {bs : List Int} {most : Int} (h : setI l ≠ 0) : rankE l bs most = setI l := by unfold rankE; rw [if_pos h]
theorem widI_wR {l : List It} (h : 0 ≤ widI l) : widI l = wR l := by
  cases l with
  | nil => rfl
  | cons x l =>
    unfold widI wR at *
    simp only at h ⊢
    split
    · next q => rw [if_pos q] at h; omega
    · rfl
theorem rankE_form {l : List It} {bs : List Int} {most : Int} (hs : setI l = 0) {x : It} (hx : x ∈ l) (h : (x.1.length : Int) ≠ wR l ∨ ¬ (0 ≤ x.2 ∧ x.2 ≤ 400)) : rankE l bs most = 5 := by
  unfold rankE
  rw [if_neg (by simp [hs]), if_pos]
  rw [Bool.or_eq_true]
  by_cases q : 0 ≤ widI l
  · refine .inr (List.any_eq_true.2 ⟨x, hx, ?_⟩)
    have h1 := wid_rows q x hx
    rw [widI_wR q] at h1
    have h2 := h.resolve_left (fun e => e h1)
    unfold manyB
    simp only [Bool.or_eq_true, decide_eq_true_eq]
    omega
  · exact .inl (decide_eq_true (by omega))
theorem rankE_args {l : List It} {bs : List Int} {most : Int} (hs : setI l = 0) (h : ∀ x ∈ l, (x.1.length : Int) = wR l ∧ 0 ≤ x.2 ∧ x.2 ≤ 400) :
    rankE l bs most = if (decide (8 < bs.length) || bs.any (wrongB (wR l)) || decide (most < 0) || decide (400 < most)) = true then 1 else 0 := by
  have hw : 0 ≤ widI l := by
    cases l with
    | nil => decide
    | cons y l =>
      unfold widI
      simp only
      rw [if_neg]
      · omega
      · rw [List.any_eq_true]
        rintro ⟨x, hx, q⟩
        rw [decide_eq_true_eq] at q
        have := (h x hx).1
        unfold wR at this
        simp only at this
        omega
  unfold rankE
  rw [if_neg (by simp [hs]), if_neg, widI_wR hw]
  rw [Bool.or_eq_true, not_or]
  refine ⟨by simp; omega, fun q => ?_⟩
  obtain ⟨x, hx, q⟩ := List.any_eq_true.1 q
  have := h x hx
  unfold manyB at q
  simp only [Bool.or_eq_true, decide_eq_true_eq] at q
  omega
theorem rankE_one {l : List It} {bs : List Int} {most : Int} (hs : setI l = 0) (h : ∀ x ∈ l, (x.1.length : Int) = wR l ∧ 0 ≤ x.2 ∧ x.2 ≤ 400) (hb : 8 < bs.length ∨ most < 0 ∨ 400 < most ∨ ∃ k ∈ bs, k = 0 ∨ k < -wR l ∨ wR l < k) : rankE l bs most = 1 := by
  rw [rankE_args hs h, if_pos]
  simp only [Bool.or_eq_true, decide_eq_true_eq, List.any_eq_true]
  rcases hb with q | q | q | ⟨k, hk, q⟩
  · exact .inl (.inl (.inl q))
  · exact .inl (.inr q)
  · exact .inr q
  · refine .inl (.inl (.inr ⟨k, hk, ?_⟩))
    unfold wrongB
    simp only [Bool.or_eq_true, decide_eq_true_eq]
    omega
theorem rankE_good {l : List It} {bs : List Int} {most : Int} (hs : setI l = 0) (h : ∀ x ∈ l, (x.1.length : Int) = wR l ∧ 0 ≤ x.2 ∧ x.2 ≤ 400) (h1 : bs.length ≤ 8) (h2 : 0 ≤ most ∧ most ≤ 400) (h3 : ∀ k ∈ bs, k ≠ 0 ∧ -wR l ≤ k ∧ k ≤ wR l) : rankE l bs most = 0 := by
  rw [rankE_args hs h, if_neg]
  simp only [Bool.or_eq_true, decide_eq_true_eq, List.any_eq_true, not_or, not_exists, not_and]
  refine ⟨⟨⟨by omega, fun k hk => ?_⟩, by omega⟩, by omega⟩
  have := h3 k hk
  unfold wrongB
  simp only [Bool.or_eq_true, decide_eq_true_eq]
  omega
theorem rankX_ins {l : List It} {bs : List Int} {most : Int} (h : rankE l bs most = 0) : rankX l bs most = (insA bs l).take most.toNat := by
  unfold rankX
  rw [if_pos h, insA_eq]
end Go.Proofs.YtldlmkfigjicgaaDoor
/- Contracts of the small functions of the packages cmp and dot. -/
namespace Go.Proofs.YtldlmkfigjicgaaDoor
set_option linter.unusedVariables false
open Go.ChangeShapes Go.WideShapes Go.ChangeAt Go.RowKit

def inB (n lo hi : Int) : Bool := decide (lo ≤ n) && decide (n ≤ hi)

theorem in_any (n lo hi : Int) (w : World) :
    Calls Tryd.prog 31 #[.int .i64 n, .int .i64 lo, .int .i64 hi] w fun e w' => e = .returned (.bool (inB n lo hi)) ∧ w = w' := by
  go_enter Tryd.func31, Tryd.ntmps31
  go_wp2
  all_goals go_ret
  all_goals (refine ⟨?_, rfl⟩; first | (simp [inB, *]; done) | (simp [inB, *]; omega) | (simp [inB]; omega))

end Go.Proofs.YtldlmkfigjicgaaDoor
/- viewref.row, viewref.Set. -/
namespace Go.Proofs.YtldlmkfigjicgaaDoor
set_option linter.unusedVariables false
set_option linter.unusedSimpArgs false
open Go.ChangeShapes Go.WideShapes Go.ChangeAt Go.RowKit

theorem inB_out (n : Int) : inB n (-1073741824) 1073741824 = !outB n := by
  unfold inB outB
  rw [Bool.eq_iff_iff]
  simp
theorem inB_far (n : Int) : inB n (-1048576) 1048576 = !farB n := by
  unfold inB farB
  rw [Bool.eq_iff_iff]
  simp
def okR (l : List Int) (i : Nat) : Bool := decide (l.length ≤ 8) && !(l.take i).any outB
theorem okR_zero (l : List Int) : okR l 0 = decide (l.length ≤ 8) := by simp [okR]
theorem okR_succ (l : List Int) {i : Nat} (h : i < l.length) : okR l (i + 1) = (okR l i && !outB l[i]) := by
  unfold okR
  rw [List.take_succ_eq_append_getElem h, List.any_append]
  simp [Bool.and_assoc]
theorem okR_all (l : List Int) : okR l l.length = rowB l := by unfold okR rowB; rw [List.take_length]
set_option maxHeartbeats 1000000 in
set_option maxRecDepth 100000 in
theorem Rrow_any (l : List Int) (A : Option Addr) (c : Nat) (w : World) (hr : Row w w.heap.size A (icells' l)) (hl : l.length ≤ 9223372036854775807) :
    Calls Tryd.prog 58 #[.slice A l.length c] w fun e w' => e = .returned (.bool (rowB l)) ∧ w = w' := by
  have HR := hid hr
  clear hr
  go_enter Tryd.func58, Tryd.ntmps58
  go_wp2_with fail
  -- STOP-a
  go_loopw [3, 4] (fun s3 s4 wr => ∃ i : Nat, i ≤ l.length ∧ s4 = .int .i64 i ∧ s3 = .bool (okR l i) ∧ wr = w) (fun _ s4 _ => l.length - (intOf s4).toNat)
  case atStart => exact ⟨0, by omega, rfl, by rw [okR_zero]; first | rfl | (congr 1; apply decide_eq_decide.2; omega), rfl⟩
  case round =>
    obtain ⟨i, hi, rfl, rfl, rfl⟩ := hrel
    by_cases hlt : i < l.length
    · have t1 : ((i : Int) < (l.length : Int)) = True := eq_true (by omega)
      obtain ⟨b, off, rfl, hb, h0⟩ := HR.out.int' hlt
      have HS := hid (okR_succ l hlt)
      have HI := hid (inB_out l[i])
      generalize l[i] = x at *
      obtain ⟨ok, hok⟩ : ∃ q, q = okR l i := ⟨_, rfl⟩
      rw [← hok] at HS ⊢
      clear hok
      cases ok
      · go_wp2_with fail
        -- STOP-b
        go_roundw
        case rel => exact ⟨i + 1, by omega, by go_num, by rw [HS.out]; rfl, by first | rfl | trivial⟩
        case measure => simp [intOf]; omega
      · go_wp2_with (go_at_call 31; refine (in_any _ _ _ _).mono ?_; rintro e w' ⟨rfl, rfl⟩)
        -- STOP-c
        go_roundw
        case rel => exact ⟨i + 1, by omega, by go_num, by rw [HS.out, ← HI.out]; rfl, by first | rfl | trivial⟩
        case measure => simp [intOf]; omega
    · have t1 : ((i : Int) < (l.length : Int)) = False := eq_false (by omega)
      have hil : i = l.length := by omega
      subst hil
      rw [okR_all]
      go_wp2_with fail
      -- STOP-d
      go_ret
      exact ⟨rfl, rfl⟩
set_option maxHeartbeats 4000000 in
set_option maxRecDepth 100000 in
theorem Rset_any (M : List IR) (A : Option Addr) (c : Nat) (w : World) (hr : RowI w w.heap.size A M) (hl : M.length ≤ 9223372036854775807) :
    Calls Tryd.prog 30 #[.slice A M.length c] w fun e w' => e = .returned (.int .i64 (setI (its M))) ∧ Below w.heap.size w w' := by
  have HR := hid hr
  clear hr
  have HE := hid (show setI (its M) = if 400 < (its M).length then 2 else if (List.range (its M).length).any (zbadAt (its M)) = true then 5 else 0 from rfl)
  obtain ⟨E, hE⟩ : ∃ E, E = setI (its M) := ⟨_, rfl⟩
  rw [← hE] at HE ⊢
  rw [its_len] at HE
  clear hE
  by_cases h4 : 400 < M.length
  · have h4' : (400 : Int) < (M.length : Int) := by omega
    have HD : Hid (E = 2) := hid (by rw [HE.out, if_pos h4])
    go_enter Tryd.func30, Tryd.ntmps30
    go_wp2
    go_ret
    exact ⟨ret_int (by rw [HD.out]), Below.refl _ _⟩
  · have h4' : (M.length : Int) ≤ 400 := by omega
    have h4n : M.length ≤ 400 := by omega
    replace HE : Hid (E = if (List.range M.length).any (zbadAt (its M)) = true then 5 else 0) := hid (by rw [HE.out, if_neg h4])
    clear h4
    go_enter Tryd.func30, Tryd.ntmps30
    go_wp2_with fail
    go_loopw [3] (fun s3 wr => ∃ i : Nat, i ≤ M.length ∧ s3 = .int .i64 i ∧ Hid (∀ j, j < i → zbadAt (its M) j = false) ∧ Hid (Below w.heap.size w wr)) (fun s3 _ => M.length - (intOf s3).toNat)
    case atStart => exact ⟨0, by omega, rfl, hid (fun j h => by omega), hid (Below.refl _ _)⟩
    case round =>
      obtain ⟨i, hi, rfl, HNO, HB⟩ := hrel
      obtain ⟨W, rfl⟩ : ∃ wx : World, wx = wr := ⟨_, rfl⟩
      by_cases hlt : i < M.length
      · have t1 : ((i : Int) < (M.length : Int)) = True := eq_true (by omega)
        have HRR := hid (HR.out.step HB.out)
        obtain ⟨b, off, rfl, hb, h0, h1⟩ := HRR.out.1.it hlt
        have hmem := List.getElem_mem hlt
        have hrw := HRR.out.2 _ hmem
        have HBA : Hid (zbadAt (its M) i = ((badB M[i].it || decide (M[i].n = 0)) || (if h : 0 < i then decide (0 ≤ cmpL M[i - 1].row M[i].row) else false))) := hid (by
          cases i with
          | zero => rw [badAt_zero (by rw [its_len]; exact hlt)]; simp [its]
          | succ k => rw [badAt_succ (by rw [its_len]; exact hlt)]; simp [its])
        have hprev : ∀ h : 0 < i, ∃ (y : List Int) (yA : Option Addr) (yk : Nat), W.cell? ⟨b, off + (i - 1) * 2, none⟩ = some (.slice yA y.length yk) ∧ Row W W.heap.size yA (icells' y) ∧ y.length ≤ 9223372036854775807 ∧ y = M[i - 1].row := fun h => by
          obtain ⟨b2, off2, hA2, hb2, g0, g1⟩ := HRR.out.1.it (show i - 1 < M.length by omega)
          injection hA2 with hA2
          injection hA2 with q1 q2
          subst q1 q2
          exact ⟨_, _, _, g0, (HRR.out.2 _ (List.getElem_mem _)).1, (HRR.out.2 _ (List.getElem_mem _)).2, rfl⟩
        obtain ⟨bad, hbad⟩ : ∃ bad, bad = zbadAt (its M) i := ⟨_, rfl⟩
        have HBD := hid hbad
        rw [← hbad] at HBA
        clear hbad hmem
        generalize M[i] = x at *
        obtain ⟨xr, xA, xk, xn⟩ := x
        simp only at h0 h1 hrw
        simp only [IR.it] at HBA
        obtain ⟨hrw1, hrw2⟩ := hrw
        have HROW := hid (fun w1 (hb : Below W.heap.size W w1) => Rrow_any xr xA xk w1 (hrw1.step hb) hrw2)
        have HFAR := hid (fun w1 => show Calls Tryd.prog 31 #[.int .i64 xn, .int .i64 (-1048576), .int .i64 1048576] w1 fun e w' => e = .returned (.bool (!farB xn)) ∧ w1 = w' from by rw [← inB_far]; exact in_any xn _ _ w1)
        have HXR := hid hrw1
        obtain ⟨rb, hrb⟩ : ∃ q, q = rowB xr := ⟨_, rfl⟩
        obtain ⟨fb, hfb⟩ : ∃ q, q = farB xn := ⟨_, rfl⟩
        rw [← hrb] at HROW
        rw [← hfb] at HFAR
        replace HBA : Hid (bad = (((!rb || fb) || decide (xn = 0)) || (if h : 0 < i then decide (0 ≤ cmpL M[i - 1].row xr) else false))) := hid (by rw [HBA.out, badB, ← hrb, ← hfb])
        clear hrb hfb
        have HPRE := hid hprev
        clear hprev hrw1
        go_upto_region 6 with fail
        -- STOP-e
        go_cut [55] from 13 to 55 (fun s wx => s = .bool bad ∧ Hid (Below W.heap.size W wx))
        case first =>
          cases rb
          · go_wp2
            refine region_ext (by kernel_rfl) (by kernel_rfl) (fun hext => ?_)
            repeat (any_goals ((with_reducible refine wpQuiet_step (fun K hK => ?_)); go_simp; first | (with_reducible refine hK _ ?_; clear hK K) | ((with_reducible apply Exists.intro); (with_reducible refine ⟨fun _ => ?_, hK _ ?_⟩); ((first | (go_at_call 58; exact ext_call_same _ (HROW.out _ (Ext.below _))) | (go_at_call 31; exact ext_call_same _ (HFAR.out _)) | (go_at_call 44; exact ext_call _ (Nat.le_refl _) (HORD.out _ (Ext.below _))))); clear hK K) | ((with_reducible refine (if_neg ?_).mpr (hK _ ?_)); (decide); clear hK K) | (split <;> (with_reducible refine hK _ ?_; clear hK K))))
            all_goals ((with_reducible refine wpQuiet_nil ?_); clear hext; intro w1 hx1; have hb1 := ext_below hx1; clear hx1)
            go_wp2
            all_goals
              go_meet
              case rel => exact ⟨by rw [HBA.out]; rfl, hid hb1⟩
          · by_cases hn : xn = 0
            · have t2 : (xn == 0) = true := by simp [hn]
              have HN := hid hn
              clear hn
              go_wp2
              refine region_ext (by kernel_rfl) (by kernel_rfl) (fun hext => ?_)
              repeat (any_goals ((with_reducible refine wpQuiet_step (fun K hK => ?_)); go_simp; first | (with_reducible refine hK _ ?_; clear hK K) | ((with_reducible apply Exists.intro); (with_reducible refine ⟨fun _ => ?_, hK _ ?_⟩); ((first | (go_at_call 58; exact ext_call_same _ (HROW.out _ (Ext.below _))) | (go_at_call 31; exact ext_call_same _ (HFAR.out _)) | (go_at_call 44; exact ext_call _ (Nat.le_refl _) (HORD.out _ (Ext.below _))))); clear hK K) | ((with_reducible refine (if_neg ?_).mpr (hK _ ?_)); (decide); clear hK K) | (split <;> (with_reducible refine hK _ ?_; clear hK K))))
              all_goals ((with_reducible refine wpQuiet_nil ?_); clear hext; intro w1 hx1; have hb1 := ext_below hx1; clear hx1)
              go_wp2
              all_goals
                go_meet
                case rel => exact ⟨by rw [HBA.out, decide_eq_true HN.out]; simp, hid hb1⟩
            · have t2 : (xn == 0) = false := by simp [hn]
              have HN := hid hn
              clear hn
              cases fb
              · by_cases hi0 : 0 < i
                · obtain ⟨y, yA, yk, g0, g1, g2, g3⟩ := HPRE.out hi0
                  have HORD := hid (fun w1 (hb1 : Below W.heap.size W w1) => (Rorder_any y xr yA xA yk xk w1 (g1.step hb1) (HXR.out.step hb1) g2 hrw2).mono fun e w' ⟨he, hq⟩ => (⟨he, by obtain ⟨q, hq⟩ := hq; rw [hq]; exact below_drewN (Below.refl _ _) q⟩ : e = Ending.returned (.int .i64 (cmpL y xr)) ∧ Below w1.heap.size w1 w'))
                  have hrng := cmpL_range y xr
                  obtain ⟨cv, hcv⟩ : ∃ q, q = cmpL y xr := ⟨_, rfl⟩
                  rw [← hcv] at HORD hrng
                  have HBB : Hid (bad = decide (0 ≤ cv)) := hid (by rw [HBA.out, dif_pos hi0, ← g3, ← hcv, decide_eq_false HN.out]; simp)
                  have hi1 : (0 : Int) < (i : Int) := by omega
                  have hw1 : IntKind.i64.wrap ((i : Int) - 1) = (i : Int) - 1 := IntWalk.i64_in _ (by omega)
                  have hi2 : ((i : Int) - 1).toNat = i - 1 := by omega
                  have hi3 : (0 : Int) ≤ (i : Int) - 1 := by omega
                  have hi4 : (1 : Int) ≤ (i : Int) := by omega
                  have hi5 : (i : Int) - 1 < (M.length : Int) := by omega
                  clear hcv g1 g3
                  by_cases hc : 0 ≤ cv
                  · have HC := hid hc
                    have hcd : (cv != -1) = true := by simp only [bne_iff_ne, ne_eq]; omega
                    clear hc hrng
                    go_wp2
                    refine region_ext (by kernel_rfl) (by kernel_rfl) (fun hext => ?_)
                    repeat (any_goals ((with_reducible refine wpQuiet_step (fun K hK => ?_)); go_simp; first | (with_reducible refine hK _ ?_; clear hK K) | ((with_reducible apply Exists.intro); (with_reducible refine ⟨fun _ => ?_, hK _ ?_⟩); ((first | (go_at_call 58; exact ext_call_same _ (HROW.out _ (Ext.below _))) | (go_at_call 31; exact ext_call_same _ (HFAR.out _)) | (go_at_call 44; exact ext_call _ (Nat.le_refl _) (HORD.out _ (Ext.below _))))); clear hK K) | ((with_reducible refine (if_neg ?_).mpr (hK _ ?_)); (decide); clear hK K) | (split <;> (with_reducible refine hK _ ?_; clear hK K))))
                    all_goals ((with_reducible refine wpQuiet_nil ?_); clear hext; intro w1 hx1; have hb1 := ext_below hx1; clear hx1)
                    go_wp2
                    all_goals
                      go_meet
                      case rel => exact ⟨by rw [HBB.out, decide_eq_true HC.out], hid hb1⟩
                  · have HC := hid hc
                    have hcd : (cv != -1) = false := by
                      have : cv = -1 := by omega
                      simp [this]
                    clear hc hrng
                    go_wp2
                    refine region_ext (by kernel_rfl) (by kernel_rfl) (fun hext => ?_)
                    repeat (any_goals ((with_reducible refine wpQuiet_step (fun K hK => ?_)); go_simp; first | (with_reducible refine hK _ ?_; clear hK K) | ((with_reducible apply Exists.intro); (with_reducible refine ⟨fun _ => ?_, hK _ ?_⟩); ((first | (go_at_call 58; exact ext_call_same _ (HROW.out _ (Ext.below _))) | (go_at_call 31; exact ext_call_same _ (HFAR.out _)) | (go_at_call 44; exact ext_call _ (Nat.le_refl _) (HORD.out _ (Ext.below _))))); clear hK K) | ((with_reducible refine (if_neg ?_).mpr (hK _ ?_)); (decide); clear hK K) | (split <;> (with_reducible refine hK _ ?_; clear hK K))))
                    all_goals ((with_reducible refine wpQuiet_nil ?_); clear hext; intro w1 hx1; have hb1 := ext_below hx1; clear hx1)
                    go_wp2
                    all_goals
                      go_meet
                      case rel => exact ⟨by rw [HBB.out, decide_eq_false (by have := HC.out; omega)], hid hb1⟩
                · have HBB : Hid (bad = false) := hid (by rw [HBA.out, dif_neg hi0, decide_eq_false HN.out]; simp)
                  have hi1 : decide ((0 : Int) < (i : Int)) = false := decide_eq_false (by omega)
                  have hi2 : ¬ (0 : Int) < (i : Int) := by omega
                  go_wp2
                  refine region_ext (by kernel_rfl) (by kernel_rfl) (fun hext => ?_)
                  repeat (any_goals ((with_reducible refine wpQuiet_step (fun K hK => ?_)); go_simp; first | (with_reducible refine hK _ ?_; clear hK K) | ((with_reducible apply Exists.intro); (with_reducible refine ⟨fun _ => ?_, hK _ ?_⟩); ((first | (go_at_call 58; exact ext_call_same _ (HROW.out _ (Ext.below _))) | (go_at_call 31; exact ext_call_same _ (HFAR.out _)) | (go_at_call 44; exact ext_call _ (Nat.le_refl _) (HORD.out _ (Ext.below _))))); clear hK K) | ((with_reducible refine (if_neg ?_).mpr (hK _ ?_)); (decide); clear hK K) | (split <;> (with_reducible refine hK _ ?_; clear hK K))))
                  all_goals ((with_reducible refine wpQuiet_nil ?_); clear hext; intro w1 hx1; have hb1 := ext_below hx1; clear hx1)
                  go_wp2
                  all_goals
                    go_meet
                    case rel => exact ⟨by rw [HBB.out], hid hb1⟩
              · go_wp2
                refine region_ext (by kernel_rfl) (by kernel_rfl) (fun hext => ?_)
                repeat (any_goals ((with_reducible refine wpQuiet_step (fun K hK => ?_)); go_simp; first | (with_reducible refine hK _ ?_; clear hK K) | ((with_reducible apply Exists.intro); (with_reducible refine ⟨fun _ => ?_, hK _ ?_⟩); ((first | (go_at_call 58; exact ext_call_same _ (HROW.out _ (Ext.below _))) | (go_at_call 31; exact ext_call_same _ (HFAR.out _)) | (go_at_call 44; exact ext_call _ (Nat.le_refl _) (HORD.out _ (Ext.below _))))); clear hK K) | ((with_reducible refine (if_neg ?_).mpr (hK _ ?_)); (decide); clear hK K) | (split <;> (with_reducible refine hK _ ?_; clear hK K))))
                all_goals ((with_reducible refine wpQuiet_nil ?_); clear hext; intro w1 hx1; have hb1 := ext_below hx1; clear hx1)
                go_wp2
                all_goals
                  go_meet
                  case rel => exact ⟨by rw [HBA.out]; simp, hid hb1⟩
        case rest =>
          obtain ⟨rfl, HB4⟩ := hcut
          have HB5 := hid (Below.step' HB.out HB4.out)
          cases bad
          · go_wp2_with fail
            go_roundw
            case rel =>
              refine ⟨i + 1, by omega, by go_num, hid (fun j hj => ?_), HB5⟩
              by_cases e : j = i
              · rw [e]; exact HBD.out.symm
              · exact HNO.out j (by omega)
            case measure => simp [intOf]; omega
          · have HD : Hid (E = 5) := hid (by rw [HE.out, if_pos (List.any_eq_true.2 ⟨i, List.mem_range.2 hlt, HBD.out.symm⟩)])
            go_wp2
            go_ret
            exact ⟨ret_int (by rw [HD.out]), HB5.out⟩
      · have HD : Hid (E = 0) := hid (by
          rw [HE.out, if_neg]
          intro h
          obtain ⟨j, hj, e⟩ := List.any_eq_true.1 h
          rw [HNO.out j (by have := List.mem_range.1 hj; omega)] at e
          cases e)
        have t1 : ((i : Int) < (M.length : Int)) = False := eq_false (by omega)
        go_wp2
        go_ret
        exact ⟨ret_int (by rw [HD.out]), HB.out⟩
end Go.Proofs.YtldlmkfigjicgaaDoor
