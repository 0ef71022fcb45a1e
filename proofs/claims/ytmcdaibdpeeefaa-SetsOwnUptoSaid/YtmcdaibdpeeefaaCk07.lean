/- RkE, Rk, OpenJ -/
import Derived.Test.YtmcdaibdpeeefaaCk06
import Derived.Test.YtmcdaibdpeeefaaCk04
import Derived.Test.YtmcdaibdpeeefaaCk05
/- viewkeep.RankSorts: what it calls besides. -/
namespace Go.Proofs.Ytmcdaibdpeeefaa
set_option linter.unusedVariables false
open Go.ChangeShapes Go.WideShapes Go.ChangeAt Go.RowKit

/-- Rows in memory. -/
def RowR (w : World) (B : Nat) (A : Option Addr) (M : List IR) : Prop := Row w B A (ncells M) ∧ RowsAt w B M
theorem RowR.step {w w' : World} {A : Option Addr} {M : List IR} (h : RowR w w.heap.size A M) (hb : Below w.heap.size w w') : RowR w' w'.heap.size A M := ⟨h.1.step hb, h.2.step hb⟩
theorem ncells_len (M : List IR) : (ncells M).length = M.length := by rw [ncells, flat_len (n := 1) (fun x => rfl), Nat.mul_one]
theorem Row.nr {w : World} {B : Nat} {A : Option Addr} {M : List IR} (h : Row w B A (ncells M)) {k : Nat} (hk : k < M.length) :
    ∃ b off, A = some ⟨b, off, none⟩ ∧ b < B ∧ w.cell? ⟨b, off + k, none⟩ = some (.slice M[k].A M[k].row.length M[k].k) := by
  obtain ⟨b, off, h1, h2, h3⟩ := Row.flat (f := fun x : IR => [Value.slice x.A x.row.length x.k]) (n := 1) (fun x => rfl) h (by omega) hk
  have := h3 0 _ rfl
  rw [Nat.mul_one, Nat.add_zero] at this
  exact ⟨b, off, h1, h2, this⟩
theorem Row.take {w : World} {B : Nat} {A : Option Addr} {xs : List Value} (h : Row w B A xs) (n : Nat) : Row w B A (xs.take n) := by
  rcases h with h | ⟨b, off, h1, h2, h3⟩
  · subst h; exact .inl (by simp)
  · refine .inr ⟨b, off, h1, h2, fun j u hu => h3 j u ?_⟩
    rw [List.getElem?_take] at hu
    split at hu
    · exact hu
    · cases hu
theorem ncells_take (M : List IR) (n : Nat) : (ncells M).take n = ncells (M.take n) := by
  have := flat_take (f := fun x : IR => [Value.slice x.A x.row.length x.k]) (n := 1) (fun x => rfl) M n
  rwa [Nat.mul_one] at this
theorem RowR.take {w : World} {B : Nat} {A : Option Addr} {M : List IR} (h : RowR w B A M) (n : Nat) : RowR w B A (M.take n) := ⟨by rw [← ncells_take]; exact h.1.take n, h.2.sub fun x hx => List.mem_of_mem_take hx⟩
theorem own_capS {w : World} {B n c s : Nat} {T : TypeId} {A : Option Addr} {xs : List Value} (h : w.ownsRow B T s (.slice A n c) n xs) : n ≤ c ∧ c ≤ maxLen := by
  rcases h.2 with ⟨e, h0⟩ | ⟨b, cap, cur, e, hb, hg, hcap, hm, -, -⟩
  · injection e with e1 e2 e3
    subst e3; subst h0; exact ⟨Nat.le_refl _, by decide⟩
  · injection e with e1 e2 e3
    subst e3; exact ⟨hcap, hm⟩
theorem nrows_len (M : List IR) : (nrows M).length = M.length := List.length_map ..

theorem ranks1_any (x y : IR) (w : World) (hx : Row w w.heap.size x.A (icells' x.row)) (hxl : x.row.length ≤ 9223372036854775807) (hy : Row w w.heap.size y.A (icells' y.row)) (hyl : y.row.length ≤ 9223372036854775807) :
    Calls Try.prog 17 #[.slice x.A x.row.length x.k, .slice y.A y.row.length y.k] w fun e w' => e = .returned (.bool (decide (x.row = y.row))) ∧ Below w.heap.size w w' := by
  obtain ⟨xr, xA, xk, xn⟩ := x
  obtain ⟨yr, yA, yk, yn⟩ := y
  simp only at hx hxl hy hyl ⊢
  have HC := hid (equalN_any xr yr xA yA xk yk w hx hy hxl hyl)
  clear hx hy
  obtain ⟨R, hR⟩ : ∃ R, R = decide (xr = yr) := ⟨_, rfl⟩
  rw [← hR] at HC ⊢
  clear hR
  go_enter Try.func17, Try.ntmps17
  go_wp2_with fail
  refine HC.out.mono ?_
  rintro e w1 ⟨rfl, hb1⟩
  go_wp2
  go_ret
  exact ⟨rfl, hb1⟩
theorem enters_ranks1 : ∀ args w, (callFunc 17 args).run Try.prog w = .ok (.enter 17 args) w := enters_of Try.func17 (by kernel_rfl) rfl

set_option maxHeartbeats 1000000 in
set_option maxRecDepth 100000 in
theorem equalFuncR_any (M1 M2 : List IR) (A1 A2 : Option Addr) (c1 c2 : Nat) (w : World) (hr1 : RowR w w.heap.size A1 M1) (hl1 : M1.length ≤ 9223372036854775807) (hr2 : RowR w w.heap.size A2 M2) (hl2 : M2.length ≤ 9223372036854775807) :
    Calls Try.prog 16 #[.slice A1 M1.length c1, .slice A2 M2.length c2, .func (.func 17) #[] #[]] w fun e w' => e = .returned (.bool (decide (nrows M1 = nrows M2))) ∧ Below w.heap.size w w' := by
  have HR1 := hid hr1
  have HR2 := hid hr2
  have eg := enters_ranks1
  clear hr1 hr2
  obtain ⟨R, hR⟩ : ∃ R, R = decide (nrows M1 = nrows M2) := ⟨_, rfl⟩
  rw [← hR]
  have HRR := hid hR
  clear hR
  by_cases hlen : M1.length = M2.length
  · have hne : ((M1.length : Int) != (M2.length : Int)) = false := by simp [hlen]
    have HL := hid hlen
    clear hlen
    go_enter Try.func16, Try.ntmps16
    go_wp2_with fail
    go_loopw [17] (fun s17 wr => ∃ k : Nat, k ≤ M1.length ∧ s17 = .int .i64 k ∧ Hid (∀ j (h : j < M1.length) (h' : j < M2.length), j < k → M1[j].row = M2[j].row) ∧ Hid (Below w.heap.size w wr)) (fun s17 _ => M1.length - (intOf s17).toNat)
    case atStart => exact ⟨0, by omega, rfl, hid (fun j _ _ h => by omega), hid (Below.refl _ _)⟩
    case round =>
      obtain ⟨k, hk, rfl, HNO, HB⟩ := hrel
      by_cases hlt : k < M1.length
      · have hlt' : k < M2.length := by have := HL.out; omega
        have HS1 := hid (HR1.out.step HB.out)
        have HS2 := hid (HR2.out.step HB.out)
        obtain ⟨b, off, rfl, hb, h0⟩ := HS1.out.1.nr hlt
        obtain ⟨b', off', rfl, hb', h0'⟩ := HS2.out.1.nr hlt'
        have q1 := HS1.out.2 _ (List.getElem_mem hlt)
        have q2 := HS2.out.2 _ (List.getElem_mem hlt')
        have HXY : Hid (∀ j (h : j < M1.length) (h' : j < M2.length), j = k → (M1[j].row = M2[j].row) = (M1[k].row = M2[k].row)) := hid (fun j h h' e => by subst e; rfl)
        generalize M1[k] = x at *
        generalize M2[k] = y at *
        have HCL := hid (fun w1 (hb : Below wr.heap.size wr w1) => ranks1_any x y w1 (q1.1.step hb) q1.2 (q2.1.step hb) q2.2)
        clear q1 q2
        obtain ⟨bq, hbq⟩ : ∃ q, q = decide (x.row = y.row) := ⟨_, rfl⟩
        rw [← hbq] at HCL
        have HBQ := hid hbq
        clear hbq
        obtain ⟨xr, xA, xk, xn⟩ := x
        obtain ⟨yr, yA, yk, yn⟩ := y
        simp only at h0 h0' HCL
        have hnb : (b' = wr.heap.size) = False := by simp; omega
        cases bq
        · have HD : Hid (R = false) := hid (by
            rw [HRR.out, decide_eq_false_iff_not]
            intro e
            have h3 : (nrows M1)[k]? = (nrows M2)[k]? := by rw [e]
            rw [List.getElem?_eq_getElem (by rw [nrows_len]; exact hlt), List.getElem?_eq_getElem (by rw [nrows_len]; exact hlt')] at h3
            simp only [nrows, List.getElem_map, Option.some.injEq] at h3
            rw [HXY.out k hlt hlt' rfl] at h3
            have := HBQ.out
            rw [decide_eq_true h3] at this
            cases this)
          go_wp2_with fail
          refine (HCL.out _ (by (repeat' (first | (with_reducible exact Below.refl _ _) | (with_reducible assumption) | (with_reducible refine below_drewN ?_ _) | (with_reducible refine Below.drew ?_) | (with_reducible refine Below.alloc ?_ ?_ _) | (with_reducible refine Below.setCell ?_ ?_ _) | (refine Below.trans ?_ (Below.mono (by assumption) ?_)) | go_size)))).mono ?_
          rintro e w1 ⟨rfl, hb1⟩
          have hB1 : Below wr.heap.size wr w1 := (by refine Below.step' ?_ hb1; (repeat' (first | (with_reducible exact Below.refl _ _) | (with_reducible assumption) | (with_reducible refine below_drewN ?_ _) | (with_reducible refine Below.drew ?_) | (with_reducible refine Below.alloc ?_ ?_ _) | (with_reducible refine Below.setCell ?_ ?_ _) | (refine Below.trans ?_ (Below.mono (by assumption) ?_)) | go_size)))
          clear hb1
          go_wp2
          go_ret
          exact ⟨ret_bool HD.out.symm, Below.step' HB.out hB1⟩
        · go_wp2_with fail
          refine (HCL.out _ (by (repeat' (first | (with_reducible exact Below.refl _ _) | (with_reducible assumption) | (with_reducible refine below_drewN ?_ _) | (with_reducible refine Below.drew ?_) | (with_reducible refine Below.alloc ?_ ?_ _) | (with_reducible refine Below.setCell ?_ ?_ _) | (refine Below.trans ?_ (Below.mono (by assumption) ?_)) | go_size)))).mono ?_
          rintro e w1 ⟨rfl, hb1⟩
          have hB1 : Below wr.heap.size wr w1 := (by refine Below.step' ?_ hb1; (repeat' (first | (with_reducible exact Below.refl _ _) | (with_reducible assumption) | (with_reducible refine below_drewN ?_ _) | (with_reducible refine Below.drew ?_) | (with_reducible refine Below.alloc ?_ ?_ _) | (with_reducible refine Below.setCell ?_ ?_ _) | (refine Below.trans ?_ (Below.mono (by assumption) ?_)) | go_size)))
          have HB1 := hid hB1
          clear hb1 hB1
          go_wp2
          go_roundw
          case rel =>
            refine ⟨k + 1, by omega, by go_num, hid (fun j h h' hj => ?_), hid (Below.step' HB.out HB1.out)⟩
            by_cases e : j = k
            · rw [HXY.out j h h' e]; exact of_decide_eq_true HBQ.out.symm
            · exact HNO.out j h h' (by omega)
          case measure => simp [intOf]; omega
      · have HD : Hid (R = true) := hid (by
          rw [HRR.out, decide_eq_true_eq]
          refine List.ext_getElem (by rw [nrows_len, nrows_len]; exact HL.out) fun j h h' => ?_
          simp only [nrows, List.getElem_map]
          rw [nrows_len] at h h'
          exact HNO.out j h h' (by omega))
        go_wp2
        go_ret
        exact ⟨ret_bool HD.out.symm, HB.out⟩
  · have hne : ((M1.length : Int) != (M2.length : Int)) = true := by simp; omega
    have HD : Hid (R = false) := hid (by
      rw [HRR.out, decide_eq_false_iff_not]
      intro e
      exact hlen (by rw [← nrows_len M1, ← nrows_len M2, e]))
    go_enter Try.func16, Try.ntmps16
    go_wp2
    go_ret
    exact ⟨ret_bool HD.out.symm, Below.refl _ _⟩
end Go.Proofs.Ytmcdaibdpeeefaa
/- viewkeep.RankSorts: the walk. -/
namespace Go.Proofs.Ytmcdaibdpeeefaa
set_option linter.unusedVariables false
open Go.ChangeShapes Go.WideShapes Go.ChangeAt Go.RowKit

theorem RowsPost.rowR {S : List (List Int)} {x : Int} {w : World} {e : Ending} {w' : World} (h : RowsPost S x w e w') : ∃ (A : Option Addr) (k : Nat) (M : List IR), e = .returned (.tuple #[.slice A M.length k, .int .i64 x]) ∧ nrows M = S ∧ RowR w' w'.heap.size A M ∧ M.length ≤ k ∧ k ≤ 9223372036854775807 ∧ Below w.heap.size w w' := by
  obtain ⟨A, k, M, he, hs, ho, hn, hb⟩ := h
  obtain ⟨h1, h2⟩ := own_capS ho
  exact ⟨A, k, M, he, hs, ⟨Row.of_ownS ho, hn.rows⟩, h1, by simpa only [maxLen] using h2, hb⟩

set_option maxRecDepth 100000 in
theorem rconst_any (w : World) : Calls Try.prog 15 #[.slice (some ⟨w.heap.size + 1 + 1, 0, none⟩) 2 2, .slice (some ⟨w.heap.size + 1 + 1 + 1, 0, none⟩) 1 1, .int .i64 2]
    ((((w.alloc (.cells #[.int .i64 1, .int .i64 5] 3)).alloc (.cells #[.int .i64 2, .int .i64 3] 3)).alloc (.cells #[.slice (some ⟨w.heap.size, 0, none⟩) 2 2, .int .i64 2, .slice (some ⟨w.heap.size + 1, 0, none⟩) 2 2, .int .i64 1] 28)).alloc (.cells #[.int .i64 2] 3))
    fun e w' => ∃ (b off b0 o0 b1 o1 c0 c1 k : Nat), e = .returned (.tuple #[.slice (some ⟨b, off, none⟩) 2 k, .int .i64 0]) ∧ w'.cell? ⟨b, off, none⟩ = some (.slice (some ⟨b0, o0, none⟩) 2 c0) ∧ w'.cell? ⟨b, off + 1, none⟩ = some (.slice (some ⟨b1, o1, none⟩) 2 c1) ∧ w'.cell? ⟨b0, o0, none⟩ = some (.int .i64 2) ∧ w'.cell? ⟨b1, o1, none⟩ = some (.int .i64 1) ∧ Below w.heap.size w w' := by
  have r0 : Row (w.alloc (.cells #[.int .i64 1, .int .i64 5] 3)) (w.alloc (.cells #[.int .i64 1, .int .i64 5] 3)).heap.size (some ⟨w.heap.size, 0, none⟩) (icells' [1, 5]) := Row.new' _ _ _ rfl rfl (by simp)
  have r1 : Row ((w.alloc (.cells #[.int .i64 1, .int .i64 5] 3)).alloc (.cells #[.int .i64 2, .int .i64 3] 3)) ((w.alloc (.cells #[.int .i64 1, .int .i64 5] 3)).alloc (.cells #[.int .i64 2, .int .i64 3] 3)).heap.size (some ⟨w.heap.size + 1, 0, none⟩) (icells' [2, 3]) := Row.new' _ _ _ (by simp) rfl (by simp)
  have r2 : Row (((w.alloc (.cells #[.int .i64 1, .int .i64 5] 3)).alloc (.cells #[.int .i64 2, .int .i64 3] 3)).alloc (.cells #[.slice (some ⟨w.heap.size, 0, none⟩) 2 2, .int .i64 2, .slice (some ⟨w.heap.size + 1, 0, none⟩) 2 2, .int .i64 1] 28)) (((w.alloc (.cells #[.int .i64 1, .int .i64 5] 3)).alloc (.cells #[.int .i64 2, .int .i64 3] 3)).alloc (.cells #[.slice (some ⟨w.heap.size, 0, none⟩) 2 2, .int .i64 2, .slice (some ⟨w.heap.size + 1, 0, none⟩) 2 2, .int .i64 1] 28)).heap.size (some ⟨w.heap.size + 1 + 1, 0, none⟩) (rcells [⟨[1, 5], some ⟨w.heap.size, 0, none⟩, 2, 2⟩, ⟨[2, 3], some ⟨w.heap.size + 1, 0, none⟩, 2, 1⟩]) := Row.new' _ _ _ (by simp) rfl (by simp)
  have h := rows_any [⟨[1, 5], some ⟨w.heap.size, 0, none⟩, 2, 2⟩, ⟨[2, 3], some ⟨w.heap.size + 1, 0, none⟩, 2, 1⟩] (some ⟨w.heap.size + 1 + 1, 0, none⟩) 2 [2] (some ⟨w.heap.size + 1 + 1 + 1, 0, none⟩) 1 2
    ((((w.alloc (.cells #[.int .i64 1, .int .i64 5] 3)).alloc (.cells #[.int .i64 2, .int .i64 3] 3)).alloc (.cells #[.slice (some ⟨w.heap.size, 0, none⟩) 2 2, .int .i64 2, .slice (some ⟨w.heap.size + 1, 0, none⟩) 2 2, .int .i64 1] 28)).alloc (.cells #[.int .i64 2] 3))
    ⟨r2.alloc _, fun x hx => by
      simp only [List.mem_cons, List.not_mem_nil, or_false] at hx
      rcases hx with rfl | rfl
      · exact ⟨((r0.alloc _).alloc _).alloc _, by simp⟩
      · exact ⟨(r1.alloc _).alloc _, by simp⟩⟩ (by simp) (Row.new' _ _ _ (by simp) rfl (by simp)) (by simp)
  have e : its [⟨[1, 5], some ⟨w.heap.size, 0, none⟩, 2, 2⟩, ⟨[2, 3], some ⟨w.heap.size + 1, 0, none⟩, 2, 1⟩] = [([1, 5], 2), ([2, 3], 1)] := rfl
  rw [e, rank_const.1, rank_const.2] at h
  refine h.mono ?_
  rintro e w' hp
  obtain ⟨A, k, M, rfl, hs, hr, -, -, hb⟩ := hp.rowR
  have hl : M.length = 2 := by rw [← nrows_len, hs]; rfl
  match M, hl with
  | [m0, m1], _ =>
    obtain ⟨b, off, rfl, hlt, h0⟩ := hr.1.nr (k := 0) (by simp)
    obtain ⟨b', off', e', hlt', h1⟩ := hr.1.nr (k := 1) (by simp)
    injection e' with e'
    injection e' with e1 e2
    subst e1 e2
    simp only [nrows, List.map_cons, List.map_nil, List.cons.injEq, and_true] at hs
    obtain ⟨h2, h3⟩ := hs
    obtain ⟨m0r, m0A, m0k, m0n⟩ := m0
    obtain ⟨m1r, m1A, m1k, m1n⟩ := m1
    simp only at h2 h3
    subst h2 h3
    obtain ⟨b0, o0, e0, -, v0⟩ := (hr.2 ⟨[2, 3], m0A, m0k, m0n⟩ (by simp)).1.int' (k := 0) (by simp)
    obtain ⟨b1, o1, e1, -, v1⟩ := (hr.2 ⟨[1, 5], m1A, m1k, m1n⟩ (by simp)).1.int' (k := 0) (by simp)
    simp only at e0 e1
    subst e0 e1
    refine ⟨b, off, b0, o0, b1, o1, m0k, m1k, k, rfl, by simpa using h0, by simpa using h1, by simpa using v0, by simpa using v1, by refine Below.step' ?_ hb; (repeat' (first | (with_reducible exact Below.refl _ _) | (with_reducible assumption) | (with_reducible refine below_drewN ?_ _) | (with_reducible refine Below.drew ?_) | (with_reducible refine Below.alloc ?_ ?_ _) | (with_reducible refine Below.setCell ?_ ?_ _) | (refine Below.trans ?_ (Below.mono (by assumption) ?_)) | go_size))⟩

theorem rank_zero {l : List It} {bs : List Int} {most : Int} (h : rankE l bs most ≠ 0) : rankX l bs most = [] := by unfold rankX; rw [if_neg h]

set_option maxHeartbeats 1000000 in
set_option maxRecDepth 100000 in
theorem ranks_any (M : List IR) (A : Option Addr) (c : Nat) (bs : List Int) (bA : Option Addr) (bc : Nat) (most : Int) (w : World) (hr : RowI w w.heap.size A M) (hl : M.length ≤ 9223372036854775807) (hb : Row w w.heap.size bA (icells' bs)) (hbl : bs.length ≤ 9223372036854775807) :
    Calls Try.prog 4 #[.slice A M.length c, .slice bA bs.length bc, .int .i64 most] w fun e w' => e = .returned (.bool true) ∧ Below w.heap.size w w' := by
  have HR4 := hid (fun w1 (hw : Below w.heap.size w w1) => rows_any M A c bs bA bc 400 w1 (hr.step hw) hl (hb.step hw) hbl)
  have HRM := hid (fun w1 (hw : Below w.heap.size w w1) => rows_any M A c bs bA bc most w1 (hr.step hw) hl (hb.step hw) hbl)
  have HLAW := hid (@rank_law (its M) bs most)
  have HZ := hid (@rankE_zero (its M) bs 400)
  have HZM := hid (@rankE_zero (its M) bs most)
  have HX4 := hid (@rank_zero (its M) bs 400)
  have HXM := hid (@rank_zero (its M) bs most)
  have HLN := hid (rankX_len (its M) bs 400)
  have HR := hid hr
  have HBS := hid hb
  clear hr hb
  obtain ⟨E4, hE4⟩ : ∃ q, q = rankE (its M) bs 400 := ⟨_, rfl⟩
  obtain ⟨EM, hEM⟩ : ∃ q, q = rankE (its M) bs most := ⟨_, rfl⟩
  obtain ⟨X4, hX4⟩ : ∃ q, q = rankX (its M) bs 400 := ⟨_, rfl⟩
  obtain ⟨XM, hXM⟩ : ∃ q, q = rankX (its M) bs most := ⟨_, rfl⟩
  rw [← hE4] at HR4 HLAW HZ HX4
  rw [← hEM] at HRM HLAW HZM HXM
  rw [← hX4] at HR4 HLAW HX4 HLN
  rw [← hXM] at HRM HLAW HXM
  clear hE4 hEM hX4 hXM
  go_enter Try.func4, Try.ntmps4
  go_wp2_with fail
  -- STOP-a
  refine (rconst_any w).mono ?_
  rintro e w1 ⟨cb, co, cb0, co0, cb1, co1, cc0, cc1, ck, rfl, hc0, hc1, hv0, hv1, hb1⟩
  have HBW := hid hb1
  clear hb1
  go_wp2_with fail
  -- STOP-b
  refine (HR4.out _ HBW.out).mono ?_
  rintro e w2 hp2
  obtain ⟨A2, k2, M2, rfl, hs2, hr2, hcap2, hcap2', hb2⟩ := hp2.rowR
  have HS2 := hid hs2
  have HRR2 := hid hr2
  replace HBW := hid (Below.step' HBW.out hb2)
  clear hp2 hs2 hr2 hb2 hc0 hc1 hv0 hv1 HR4
  go_wp2_with fail
  -- STOP-c
  refine (HRM.out _ HBW.out).mono ?_
  rintro e w3 hp3
  obtain ⟨A3, k3, M3, rfl, hs3, hr3, hcap3, hcap3', hb3⟩ := hp3.rowR
  have HS3 := hid hs3
  have HRR3 := hid hr3
  replace HRR2 := hid (HRR2.out.step hb3)
  replace HBW := hid (Below.step' HBW.out hb3)
  clear hp3 hs3 hr3 hb3 HRM
  by_cases q4 : E4 = 0
  rotate_left
  · have t1 : (E4 != 0) = true := by simpa using q4
    have hM0 : M2.length = 0 := by rw [← nrows_len, HS2.out, HX4.out q4]; rfl
    have t2 : ((M2.length : Int) == 0) = true := by rw [hM0]; rfl
    clear q4
    go_wp2_with fail
    -- STOP-d
    go_ret
    exact ⟨rfl, HBW.out⟩
  by_cases qm : EM = 0
  rotate_left
  · have t1 : (EM != 0) = true := by simpa using qm
    have hM0 : M3.length = 0 := by rw [← nrows_len, HS3.out, HXM.out qm]; rfl
    have t2 : ((M3.length : Int) == 0) = true := by rw [hM0]; rfl
    subst q4
    clear qm
    cases hq2 : ((M2.length : Int) == 0)
    · go_wp2_with fail
      go_ret
      exact ⟨rfl, HBW.out⟩
    · go_wp2_with fail
      go_ret
      exact ⟨rfl, HBW.out⟩
  subst q4 qm
  obtain ⟨l1, l2, l3, l4, l5, l6, l7⟩ := HLAW.out rfl rfl
  obtain ⟨z1, z2, z3, z4, z5, -, -⟩ := HZ.out rfl
  obtain ⟨-, -, -, -, -, zm1, zm2⟩ := HZM.out rfl
  have hM400 : M.length ≤ 400 := by have := (setI_zero.1 z1).1; rwa [its_len] at this
  have HL1 := hid l1
  have HL2 := hid l2
  have HL3 := hid l3
  have HPW := hid l4
  have HWID := hid l5
  have HN1 := hid (⟨l6, l7⟩ : 0 ≤ sumN (its M) ∧ sumN (its M) ≤ 400 * (its M).length)
  have HNN := hid (fun x (hx : x ∈ M) => z3 x.it (List.mem_map.2 ⟨x, hx, rfl⟩))
  have HOK := hid z5
  have HW8 := hid (wid_le z1)
  clear l1 l2 l3 l4 l5 l6 l7 z1 z2 z3 z4 z5 HLAW HZ HZM HX4 HXM
  go_wp2_with fail
  -- STOP-e
  go_loopw [13, 88] (fun s13 s88 wr => ∃ i : Nat, i ≤ M.length ∧ s88 = .int .i64 i ∧ (∃ sm : Int, s13 = .int .i64 sm ∧ Hid (sm = sumN (its (M.take i))) ∧ Hid (0 ≤ sm ∧ sm ≤ 400 * i)) ∧ Hid (Below w3.heap.size w3 wr)) (fun _ s88 _ => M.length - (intOf s88).toNat)
  case atStart => exact ⟨0, by omega, rfl, ⟨0, rfl, hid rfl, hid (by omega)⟩, hid (Below.refl _ _)⟩
  case round =>
    obtain ⟨i, hi, rfl, ⟨sm, rfl, HSM, HSUM⟩, HB⟩ := hrel
    have HB3 := hid (Below.step' HBW.out HB.out)
    by_cases hlt : i < M.length
    · obtain ⟨b, off, rfl, hbb, e0, e1⟩ := (HR.out.1.step HB3.out).it hlt
      have hnn := HNN.out M[i] (List.getElem_mem hlt)
      have HST := hid (show sumN (its (M.take (i + 1))) = sumN (its (M.take i)) + M[i].n by
        rw [List.take_succ_eq_append_getElem hlt]
        show (((M.take i ++ [M[i]]).map IR.it).map (·.2)).sum = (((M.take i).map IR.it).map (·.2)).sum + M[i].n
        rw [List.map_append, List.map_append, List.sum_append]
        simp)
      generalize M[i] = x at *
      obtain ⟨xr, xA, xk, xn⟩ := x
      simp only at e0 e1 hnn HST
      have hsum := HSUM.out
      have hw : IntKind.i64.wrap (sm + xn) = sm + xn := IntWalk.i64_in _ (by omega)
      have hnb : (b = wr.heap.size) = False := by simp; omega
      go_wp2_with fail
      -- STOP-f
      go_roundw
      case rel => exact ⟨i + 1, by omega, by go_num, ⟨sm + xn, rfl, hid (by rw [HST.out, HSM.out]), hid (by omega)⟩, hid (alloc_below HB.out _)⟩
      case measure => simp [intOf]; omega
    · have hik : i = M.length := by omega
      subst hik
      rw [List.take_length] at HSM
      obtain ⟨N, hN⟩ : ∃ N, N = sm := ⟨_, rfl⟩
      rw [← HSM.out, ← hN] at HL1 HL2
      rw [← hN] at HSUM HSM ⊢
      have h2l : (M2.length : Int) = min N 400 := by rw [← HL1.out, ← HS2.out, nrows_len]
      have h3l : (M3.length : Int) = min N most := by rw [← HL2.out, ← HS3.out, nrows_len]
      have t1 : ((M2.length : Int) != min N 400) = false := by rw [h2l]; simp
      have t2 : ((M3.length : Int) != min N most) = false := by rw [h3l]; simp
      have hle : M3.length ≤ M2.length := by have := HSUM.out; omega
      have hcc : (M3.length : Int) ≤ (k2 : Int) := by omega
      have HEF := hid (fun (A2' : Option Addr) => equalFuncR_any (M2.take M3.length) M3 A2 A3 k2 k3 wr ((HRR2.out.step HB.out).take _) (by rw [List.length_take]; omega) (HRR3.out.step HB.out) (by omega))
      have hnr : nrows (M2.take M3.length) = nrows M3 := by
        have h := HL3.out
        rw [← HS2.out, ← HS3.out, nrows_len] at h
        rw [nrows, List.map_take]; exact h
      have hd : decide (nrows (M2.take M3.length) = nrows M3) = true := decide_eq_true hnr
      rw [hd, List.length_take, Nat.min_eq_left hle] at HEF
      clear hN h2l h3l hnr hd HL1 HL2 HL3
      go_wp2_with fail
      -- STOP-g
      refine (HEF.out none).mono ?_
      rintro e w5 ⟨rfl, hb5⟩
      have HB5 := hid (Below.step' HB.out hb5)
      have HPX : Hid (∀ i, (hi : i + 1 < M2.length) → cmpBy bs (M2[i]'(by omega)).row M2[i + 1].row ≤ 0) := hid (fun i hi => by
        have h := HPW.out
        rw [← HS2.out] at h
        have := List.pairwise_iff_getElem.1 h i (i + 1) (by rw [nrows_len]; omega) (by rw [nrows_len]; exact hi) (by omega)
        simpa [nrows] using this)
      have HWX : Hid (∀ x ∈ M2, (x.row.length : Int) = widI (its M)) := hid (fun x hx => HWID.out x.row (by rw [← HS2.out]; exact List.mem_map.2 ⟨x, hx, rfl⟩))
      obtain ⟨WD, hWD⟩ : ∃ q, q = widI (its M) := ⟨_, rfl⟩
      rw [← hWD] at HWX HOK HW8
      obtain ⟨Lm, hLm⟩ : ∃ q : Int, q = (M2.length : Int) - 1 := ⟨_, rfl⟩
      have hlen2 : M2.length ≤ 400 := by
        have := HLN.out
        rw [← HS2.out, nrows_len] at this
        exact this
      have hwl : IntKind.i64.wrap ((M2.length : Int) - 1) = Lm := by rw [hLm]; exact IntWalk.i64_in _ (by omega)
      have HLM := hid hLm
      clear hLm hWD hb5 HB t1 t2 HEF HPW HWID HB3 HSUM HNN HN1
      go_wp2_with fail
      -- STOP-h
      go_loopw [122] (fun s122 wr => ∃ i : Nat, i ≤ M2.length ∧ s122 = .int .i64 i ∧ Hid (Below w3.heap.size w3 wr)) (fun s122 _ => M2.length - (intOf s122).toNat)
      case atStart => exact ⟨0, by omega, rfl, HB5⟩
      case round =>
        obtain ⟨i, hi, rfl, HB⟩ := hrel
        clear HB5
        have hLm := HLM.out
        by_cases hlt : (i : Int) < Lm
        · have hi1 : i + 1 < M2.length := by omega
          obtain ⟨i1, hi1'⟩ : ∃ i1 : Nat, i1 = i + 1 := ⟨_, rfl⟩
          have hw1 : IntKind.i64.wrap ((i : Int) + 1) = (i1 : Int) := by rw [hi1']; exact IntWalk.i64_in _ (by omega)
          have HCB := hid (HPX.out i hi1)
          obtain ⟨b, off, hA2, hbb, v0⟩ := (HRR2.out.1.step HB.out).nr (k := i) (by omega)
          obtain ⟨b', off', hA2', -, v1⟩ := (HRR2.out.1.step HB.out).nr (k := i + 1) hi1
          rw [hA2] at hA2'
          injection hA2' with hA2'
          injection hA2' with q1 q2
          subst q1 q2 hA2
          have HRX := hid ((HRR2.out.2 M2[i] (List.getElem_mem (by omega))).1)
          have HRY := hid ((HRR2.out.2 M2[i + 1] (List.getElem_mem hi1)).1)
          have hlx := HWX.out M2[i] (List.getElem_mem (by omega))
          have hly := HWX.out M2[i + 1] (List.getElem_mem hi1)
          generalize M2[i] = x at *
          generalize M2[i + 1] = y at *
          rw [← hi1'] at v1
          obtain ⟨xr, xA, xk, xn⟩ := x
          obtain ⟨yr, yA, yk, yn⟩ := y
          simp only at v0 v1 HRX HRY hlx hly HCB
          have HLX := hid hlx
          have HLY := hid hly
          have HV0 := hid (⟨v0, hbb⟩ : wr.cell? ⟨b, off + i, none⟩ = some (.slice xA xr.length xk) ∧ b < wr.heap.size)
          have HV1 := hid v1
          have HI1 := hid hi1'
          have i1l : (i1 : Int) < (M2.length : Int) := by omega
          have il : (i : Int) < (M2.length : Int) := by omega
          obtain ⟨wo, rfl⟩ : ∃ wx : World, wx = wr := ⟨_, rfl⟩
          clear hLm hlx hly v0 v1 hbb hi1' hi1 HPX HWX
          go_wp2_with fail
          -- STOP-i
          go_loopw [127] (fun s127 wr => ∃ j : Nat, j ≤ bs.length ∧ s127 = .int .i64 j ∧ Hid (cmpBy (bs.drop j) xr yr ≤ 0) ∧ Hid (Below wo.heap.size wo wr)) (fun s127 _ => bs.length - (intOf s127).toNat)
          case atStart => exact ⟨0, by omega, rfl, HCB, hid (Below.refl _ _)⟩
          case round =>
            obtain ⟨j, hj, rfl, HJ, HBJ⟩ := hrel
            have HBO := hid (Below.step' HB.out HBJ.out)
            by_cases hjl : j < bs.length
            · obtain ⟨bb, bo, rfl, hbb, h0⟩ := (HBS.out.step (Below.step' HBW.out HBO.out)).int' hjl
              obtain ⟨n0, n1, n2⟩ := HOK.out bs[j] (List.getElem_mem hjl)
              have HD := hid (List.drop_eq_getElem_cons hjl)
              replace HJ : Hid ((if colv bs[j] xr < colv bs[j] yr then -1 else if colv bs[j] yr < colv bs[j] xr then 1 else cmpBy (bs.drop (j + 1)) xr yr) ≤ 0) := hid (by rw [← cmpBy_cons, ← HD.out]; exact HJ.out)
              clear HD
              generalize bs[j] = n at *
              have hlx := HLX.out
              have hly := HLY.out
              have hw8 := HW8.out
              have v0 := ((bcell HBJ.out).1 b (off + i) HV0.out.2).trans HV0.out.1
              have v1 := ((bcell HBJ.out).1 b (off + i1) HV0.out.2).trans HV1.out
              obtain ⟨jj, hjj⟩ : ∃ jj : Nat, (jj : Int) = (if n < 0 then -n - 1 else n - 1) := ⟨(if n < 0 then -n - 1 else n - 1).toNat, by split <;> omega⟩
              have jx : jj < xr.length := by split at hjj <;> omega
              have jy : jj < yr.length := by split at hjj <;> omega
              obtain ⟨bx, ox, rfl, hbx, vx⟩ := (HRX.out.step HBO.out).int' jx
              obtain ⟨by', oy, rfl, hby, vy⟩ := (HRY.out.step HBO.out).int' jy
              have ex : colv n xr = if n < 0 then -xr[jj] else xr[jj] := by
                unfold colv
                by_cases hn : n < 0
                · rw [if_pos hn] at hjj
                  rw [if_pos hn, if_pos hn, show (-n - 1).toNat = jj by omega, List.getD_eq_getElem?_getD, List.getElem?_eq_getElem jx]; rfl
                · rw [if_neg hn] at hjj
                  rw [if_neg hn, if_neg hn, show (n - 1).toNat = jj by omega, List.getD_eq_getElem?_getD, List.getElem?_eq_getElem jx]; rfl
              have ey : colv n yr = if n < 0 then -yr[jj] else yr[jj] := by
                unfold colv
                by_cases hn : n < 0
                · rw [if_pos hn] at hjj
                  rw [if_pos hn, if_pos hn, show (-n - 1).toNat = jj by omega, List.getD_eq_getElem?_getD, List.getElem?_eq_getElem jy]; rfl
                · rw [if_neg hn] at hjj
                  rw [if_neg hn, if_neg hn, show (n - 1).toNat = jj by omega, List.getD_eq_getElem?_getD, List.getElem?_eq_getElem jy]; rfl
              rw [ex, ey] at HJ
              clear ex ey
              generalize xr[jj] = u at *
              generalize yr[jj] = v at *
              have p1 : (jj : Int) < (xr.length : Int) := by omega
              have p2 : (jj : Int) < (yr.length : Int) := by omega
              by_cases hn : n < 0
              · rw [if_pos hn] at hjj
                rw [if_pos hn, if_pos hn] at HJ
                have hwn : IntKind.i64.wrap (-n) = -n := IntWalk.i64_in _ (by omega)
                have hwj : IntKind.i64.wrap (-n - 1) = (jj : Int) := by rw [hjj]; exact IntWalk.i64_in _ (by omega)
                have hn0 : (0 < n) = False := eq_false (by omega)
                clear hjj hlx hly
                by_cases huv : u = v
                · have HUV := hid huv
                  have t1 : (u == v) = true := by simp [huv]
                  clear huv
                  go_wp2_with fail
                  -- STOP-j
                  refine wp_region_quiet_lit (by kernel_rfl) (by kernel_rfl) ?_
                  repeat (any_goals ((with_reducible refine wpQuiet_step (fun K hK => ?_)); go_simp; first | (with_reducible refine hK _ ?_; clear hK K) | ((with_reducible apply Exists.intro); (with_reducible refine ⟨fun _ => ?_, hK _ ?_⟩); (fail); clear hK K) | ((with_reducible refine (if_neg ?_).mpr (hK _ ?_)); (decide); clear hK K) | (split <;> (with_reducible refine hK _ ?_; clear hK K))))
                  all_goals ((with_reducible refine wpQuiet_nil ?_); intro _ hw'; obtain ⟨nq, hw''⟩ := hw'; subst hw'')
                  go_wp2_with fail
                  go_roundw
                  case rel => exact ⟨j + 1, by omega, by go_num, hid (by have := HJ.out; rw [HUV.out, if_neg (by omega), if_neg (by omega)] at this; exact this), hid (below_drewN HBJ.out _)⟩
                  case measure => simp [intOf]; omega
                · have t1 : (u == v) = false := by simp [huv]
                  have t2 : (u < v) = False := eq_false (by
                    intro h
                    have := HJ.out
                    rw [if_neg (by omega), if_pos (by omega)] at this
                    omega)
                  clear huv
                  go_wp2_with fail
                  refine wp_region_quiet_lit (by kernel_rfl) (by kernel_rfl) ?_
                  repeat (any_goals ((with_reducible refine wpQuiet_step (fun K hK => ?_)); go_simp; first | (with_reducible refine hK _ ?_; clear hK K) | ((with_reducible apply Exists.intro); (with_reducible refine ⟨fun _ => ?_, hK _ ?_⟩); (fail); clear hK K) | ((with_reducible refine (if_neg ?_).mpr (hK _ ?_)); (decide); clear hK K) | (split <;> (with_reducible refine hK _ ?_; clear hK K))))
                  all_goals ((with_reducible refine wpQuiet_nil ?_); intro _ hw'; obtain ⟨nq, hw''⟩ := hw'; subst hw'')
                  go_wp2_with fail
                  -- STOP-k
                  exact ⟨⟨i1, by omega, rfl, hid (below_drewN HBO.out _)⟩, by have := HI1.out; simp [intOf]; omega⟩
              · rw [if_neg hn] at hjj
                rw [if_neg hn, if_neg hn] at HJ
                have hwj : IntKind.i64.wrap (n - 1) = (jj : Int) := by rw [hjj]; exact IntWalk.i64_in _ (by omega)
                have hn0 : (0 < n) = True := eq_true (by omega)
                clear hjj hlx hly
                by_cases huv : u = v
                · have HUV := hid huv
                  have t1 : (u == v) = true := by simp [huv]
                  clear huv
                  go_wp2_with fail
                  refine wp_region_quiet_lit (by kernel_rfl) (by kernel_rfl) ?_
                  repeat (any_goals ((with_reducible refine wpQuiet_step (fun K hK => ?_)); go_simp; first | (with_reducible refine hK _ ?_; clear hK K) | ((with_reducible apply Exists.intro); (with_reducible refine ⟨fun _ => ?_, hK _ ?_⟩); (fail); clear hK K) | ((with_reducible refine (if_neg ?_).mpr (hK _ ?_)); (decide); clear hK K) | (split <;> (with_reducible refine hK _ ?_; clear hK K))))
                  all_goals ((with_reducible refine wpQuiet_nil ?_); intro _ hw'; obtain ⟨nq, hw''⟩ := hw'; subst hw'')
                  go_wp2_with fail
                  go_roundw
                  case rel => exact ⟨j + 1, by omega, by go_num, hid (by have := HJ.out; rw [HUV.out, if_neg (by omega), if_neg (by omega)] at this; exact this), hid (below_drewN HBJ.out _)⟩
                  case measure => simp [intOf]; omega
                · have t1 : (u == v) = false := by simp [huv]
                  have t2 : (u < v) = True := eq_true (by
                    have := HJ.out
                    by_cases h : u < v
                    · exact h
                    · rw [if_neg (by omega), if_pos (by omega)] at this
                      omega)
                  clear huv
                  go_wp2_with fail
                  refine wp_region_quiet_lit (by kernel_rfl) (by kernel_rfl) ?_
                  repeat (any_goals ((with_reducible refine wpQuiet_step (fun K hK => ?_)); go_simp; first | (with_reducible refine hK _ ?_; clear hK K) | ((with_reducible apply Exists.intro); (with_reducible refine ⟨fun _ => ?_, hK _ ?_⟩); (fail); clear hK K) | ((with_reducible refine (if_neg ?_).mpr (hK _ ?_)); (decide); clear hK K) | (split <;> (with_reducible refine hK _ ?_; clear hK K))))
                  all_goals ((with_reducible refine wpQuiet_nil ?_); intro _ hw'; obtain ⟨nq, hw''⟩ := hw'; subst hw'')
                  go_wp2_with fail
                  exact ⟨⟨i1, by omega, rfl, hid (below_drewN HBO.out _)⟩, by have := HI1.out; simp [intOf]; omega⟩
            · have hje : j = bs.length := by omega
              subst hje
              go_wp2_with fail
              -- STOP-l
              exact ⟨⟨i1, by omega, rfl, HBO⟩, by have := HI1.out; simp [intOf]; omega⟩
        · have hge : Lm ≤ (i : Int) := by omega
          clear hLm
          go_wp2_with fail
          go_ret
          exact ⟨rfl, Below.step' HBW.out HB.out⟩
end Go.Proofs.Ytmcdaibdpeeefaa
/- Arguments that are lists of ints, or ints, as a claim reads them. -/
namespace Go.Proofs.Ytmcdaibdpeeefaa
set_option linter.unusedVariables false
open Go.ChangeShapes Go.WideShapes Go.ChangeAt Go.RowKit Go.Deep

set_option maxRecDepth 100000 in
theorem arg_ints {H : Type} {enc : TypeId × Value → H} {w : World} {r : Reach} {b0 base : Nat} {spare : Nat → Bool} {held : Bool} {v : Value} {d : DataW H} {p : List MemPlace}
    (hv : Value.okWide Try.prog w r b0 26 v) (h : DataW.Trod enc Try.prog w base spare held 26 v d p) :
    ∃ (A : Option Addr) (k : Nat) (l : List Int), v = .slice A l.length k ∧ Row w w.heap.size A (icells' l) ∧ l.length ≤ 9223372036854775807 := by
  obtain ⟨a, n, c, rfl⟩ := okWide_slice Try.underlying26 hv
  obtain ⟨m, hm⟩ := h
  obtain ⟨A, k, l, e, hr, hl, -⟩ := open_ints_cells hm
  simp only [Value.cells, List.cons.injEq, and_true] at e
  exact ⟨A, k, l, e, hr, hl⟩
set_option maxRecDepth 100000 in
theorem arg_intJ {H : Type} {enc : TypeId × Value → H} {w : World} {r : Reach} {b0 base : Nat} {spare : Nat → Bool} {held : Bool} {v : Value} {d : DataW H} {p : List MemPlace}
    (hv : Value.okWide Try.prog w r b0 3 v) (h : DataW.Trod enc Try.prog w base spare held 3 v d p) : ∃ n : Int, v = .int .i64 n ∧ (Lit.int .i64 n).wf = true := by
  obtain ⟨n, rfl, _, _, hw⟩ := open_int Try.underlying3 hv h
  exact ⟨n, rfl, hw⟩
end Go.Proofs.Ytmcdaibdpeeefaa
