/- ZsO, ZsW, ZsR, ZsA, ZsB, ZsC, ZsD -/
import Derived.Test.YtmcdaibdpeeefaaCk02
import Derived.Test.YtmcdaibdpeeefaaCk01
import Derived.WalkSpells
import Derived.Deep.CutBlock
import Derived.Deep.CutRange
/- slices.Compare at int, zset.Order. -/
namespace Go.Proofs.Ytmcdaibdpeeefaa
set_option linter.unusedVariables false
set_option linter.unusedSimpArgs false
open Go.ChangeShapes Go.WideShapes Go.ChangeAt Go.RowKit

theorem isNaN_int (x : Int) (w : World) : Calls Try.prog 85 #[.int .i64 x] w fun e w' => e = .returned (.bool false) ∧ w = w' := by
  go_enter Try.func85, Try.ntmps85
  go_wp2
  go_ret
  simp
def cmpZ (x y : Int) : Int := if x < y then -1 else if y < x then 1 else 0
theorem compareZ_any (x y : Int) (w : World) :
    Calls Try.prog 67 #[.int .i64 x, .int .i64 y] w fun e w' => e = .returned (.int .i64 (cmpZ x y)) ∧ w = w' := by
  go_enter Try.func67, Try.ntmps67
  go_wp2_with (go_at_call 85; refine (isNaN_int _ _).mono ?_; rintro e w' ⟨rfl, rfl⟩)
  all_goals go_ret
  all_goals (refine ⟨?_, rfl⟩; first | (simp [cmpZ, *]; done) | (simp [cmpZ, *]; omega) | (simp [cmpZ]; omega))
theorem cmpL_cons (x y : Int) (l m : List Int) : cmpL (x :: l) (y :: m) = if cmpZ x y = 0 then cmpL l m else cmpZ x y := by
  unfold cmpZ
  rw [cmpL]
  by_cases h1 : x < y
  · rw [if_pos h1, if_pos h1, if_neg (by decide)]
  · rw [if_neg h1, if_neg h1]
    by_cases h2 : y < x
    · rw [if_pos h2, if_pos h2, if_neg (by decide)]
    · rw [if_neg h2, if_neg h2, if_pos rfl]

set_option maxHeartbeats 1000000 in
set_option maxRecDepth 100000 in
theorem compareL_any (l m : List Int) (A B : Option Addr) (c e : Nat) (w : World) (hr : Row w w.heap.size A (icells' l)) (hs : Row w w.heap.size B (icells' m)) (hl : l.length ≤ 9223372036854775807) (hm : m.length ≤ 9223372036854775807) :
    Calls Try.prog 61 #[.slice A l.length c, .slice B m.length e] w fun e w' => e = .returned (.int .i64 (cmpL l m)) ∧ w = w' := by
  have HR := hid hr
  have HS := hid hs
  clear hr hs
  obtain ⟨R, hR⟩ : ∃ R, R = cmpL l m := ⟨_, rfl⟩
  rw [← hR]
  have HRR := hid hR
  clear hR
  go_enter Try.func61, Try.ntmps61
  go_wp2
  go_loop [11] (fun i => ∃ k : Nat, k ≤ l.length ∧ k ≤ m.length ∧ i = .int .i64 k ∧ Hid (R = cmpL (l.drop k) (m.drop k))) (fun i => l.length - (intOf i).toNat)
  case atStart => exact ⟨0, by omega, by omega, rfl, HRR⟩
  case round =>
    clear HRR
    obtain ⟨k, hk, hk2, rfl, HK⟩ := hrel
    by_cases hlt : k < l.length
    · obtain ⟨b, off, rfl, hb, h0⟩ := HR.out.int' hlt
      have HD := hid (List.drop_eq_getElem_cons hlt)
      by_cases hlt2 : k < m.length
      · obtain ⟨b', off', rfl, hb', h0'⟩ := HS.out.int' hlt2
        have HD' := hid (List.drop_eq_getElem_cons hlt2)
        have HC : Hid (R = if cmpZ l[k] m[k] = 0 then cmpL (l.drop (k + 1)) (m.drop (k + 1)) else cmpZ l[k] m[k]) := hid (by rw [HK.out, HD.out, HD'.out, cmpL_cons])
        clear HK HD HD'
        generalize l[k] = x at *
        generalize m[k] = y at *
        have hc := compareZ_any x y w
        obtain ⟨cv, hcv⟩ : ∃ cv, cv = cmpZ x y := ⟨_, rfl⟩
        rw [← hcv] at hc HC
        have HCC := hid hc
        clear hc hcv
        by_cases hz : cv = 0
        · have t1 : (cv != 0) = false := by simp [hz]
          have HZ := hid hz
          clear hz
          go_wp2_with (go_at_call 67; refine HCC.out.mono ?_; rintro e w' ⟨rfl, rfl⟩)
          go_round
          case rel => exact ⟨k + 1, by omega, by omega, by go_num, hid (by rw [HC.out, if_pos HZ.out])⟩
          case measure => simp [intOf]; omega
        · have t1 : (cv != 0) = true := by simp [hz]
          have HZ := hid hz
          clear hz
          go_wp2_with (go_at_call 67; refine HCC.out.mono ?_; rintro e w' ⟨rfl, rfl⟩)
          go_ret
          exact ⟨ret_int (by rw [HC.out, if_neg HZ.out]), rfl⟩
      · have he : Hid (R = 1) := hid (by rw [HK.out, HD.out, show m.drop k = [] from List.drop_eq_nil_of_le (by omega)]; rfl)
        have hkm : (m.length : Int) ≤ (k : Int) := by omega
        clear HK HD
        go_wp2
        go_ret
        exact ⟨ret_int he.out.symm, rfl⟩
    · have hkl : k = l.length := by omega
      by_cases hlt2 : l.length < m.length
      · have he : Hid (R = -1) := hid (by rw [HK.out, show l.drop k = [] from List.drop_eq_nil_of_le (by omega), List.drop_eq_getElem_cons (show k < m.length by omega)]; rfl)
        clear HK hkl
        go_wp2
        go_ret
        exact ⟨ret_int he.out.symm, rfl⟩
      · have he : Hid (R = 0) := hid (by rw [HK.out, show l.drop k = [] from List.drop_eq_nil_of_le (by omega), show m.drop k = [] from List.drop_eq_nil_of_le (by omega)]; rfl)
        clear HK hkl
        go_wp2
        go_ret
        exact ⟨ret_int he.out.symm, rfl⟩

set_option maxRecDepth 100000 in
theorem orderL_any (l m : List Int) (A B : Option Addr) (c e : Nat) (w : World) (hr : Row w w.heap.size A (icells' l)) (hs : Row w w.heap.size B (icells' m)) (hl : l.length ≤ 9223372036854775807) (hm : m.length ≤ 9223372036854775807) :
    Calls Try.prog 38 #[.slice A l.length c, .slice B m.length e] w fun e w' => e = .returned (.int .i64 (cmpL l m)) ∧ w = w' := by
  have HC := hid (compareL_any l m A B c e w hr hs hl hm)
  clear hr hs
  go_enter Try.func38, Try.ntmps38
  go_wp2_with (go_at_call 61; refine HC.out.mono ?_; rintro e w' ⟨rfl, rfl⟩)
  go_ret
  exact ⟨rfl, rfl⟩
end Go.Proofs.Ytmcdaibdpeeefaa
/- Words for items of a call's own making. -/
namespace Go.Proofs.Ytmcdaibdpeeefaa
set_option linter.unusedVariables false
set_option linter.unusedSimpArgs false
open Go.ChangeShapes Go.WideShapes Go.ChangeAt Go.RowKit

theorem Row.grown_ne {w w' : World} {B : Nat} {A : Option Addr} {xs : List Value} {r : Option Nat} (h : Row w B A xs) (hB : B ≤ w.heap.size) (hg : w.grownBy w' r) (hr : ∀ b off q, A = some ⟨b, off, q⟩ → some b ≠ r) : Row w' B A xs := by
  rcases h with h | ⟨b, off, h1, h2, h3⟩
  · exact .inl h
  · refine .inr ⟨b, off, h1, h2, fun j u hu => ?_⟩
    rw [World.cell?_of_block (w := w) (hg.block b (by omega) (hr b off none h1))]
    exact h3 j u hu
/-- A row of ints in a block of its own: it lies there, and its room is known. -/
structure RowOwn (w : World) (A : Option Addr) (l : List Int) (k : Nat) : Prop where
  row : Row w w.heap.size A (icells' l)
  own : w.ownsRow 0 3 1 (.slice A l.length k) l.length (icells' l)
theorem RowOwn.of_own {w : World} {B n k : Nat} {A : Option Addr} {l : List Int} (h : w.ownsRow B 3 1 (.slice A n k) n (icells' l)) (hn : n = l.length) : RowOwn w A l k := by
  subst hn; exact ⟨Row.of_ownS h, own_baseS h (Nat.zero_le _)⟩
theorem RowOwn.step {w w' : World} {A : Option Addr} {l : List Int} {k : Nat} (h : RowOwn w A l k) (hb : Below w.heap.size w w') : RowOwn w' A l k := ⟨h.row.step hb, own_laterS h.own hb⟩
theorem RowOwn.grown_ne {w w' : World} {B : Nat} {A : Option Addr} {l : List Int} {k : Nat} {r : Option Nat} (h : RowOwn w A l k) (_ : B ≤ w.heap.size) (hg : w.grownBy w' r) (hr : ∀ b off q, A = some ⟨b, off, q⟩ → some b ≠ r) : RowOwn w' A l k := by
  refine ⟨(h.row.grown_ne (Nat.le_refl _) hg hr).more hg.size, ?_⟩
  obtain ⟨h1, h2⟩ := h.own
  refine ⟨h1, ?_⟩
  rcases h2 with h2 | ⟨b, cap, cur, e, hb, hgt, h3⟩
  · exact .inl h2
  · have hlt : b < w.heap.size := by
      rcases Nat.lt_or_ge b w.heap.size with h | h
      · exact h
      · rw [Array.getElem?_eq_none h] at hgt; cases hgt
    refine .inr ⟨b, cap, cur, e, hb, (hg.block b hlt ?_).trans hgt, h3⟩
    injection e with e
    exact hr b 0 none e
theorem RowOwn.more {w : World} {A : Option Addr} {l : List Int} {k B C : Nat} (h : RowOwn w A l k) (_ : B ≤ C) : RowOwn w A l k := h
/-- The rows of items that a call has made: in blocks of their own. -/
def RowsNew (w : World) (lo : Nat) (v : Value) (M : List IR) : Prop := ∀ x ∈ M, RowOwn w x.A x.row x.k ∧ NewAt lo x.A ∧ (∀ b off q, x.A = some ⟨b, off, q⟩ → some b ≠ v.ownBlock ∧ b < w.heap.size) ∧ x.row.length ≤ 1048576
theorem RowsNew.nil (w : World) (lo : Nat) (v : Value) : RowsNew w lo v [] := fun x hx => by simp at hx
theorem RowsNew.step {w w' : World} {lo : Nat} {v : Value} {M : List IR} (h : RowsNew w lo v M) (hb : Below w.heap.size w w') : RowsNew w' lo v M := fun x hx => by
  obtain ⟨h1, h2, h3, h4⟩ := h x hx
  exact ⟨h1.step hb, h2, fun b off q e => ⟨(h3 b off q e).1, Nat.lt_of_lt_of_le (h3 b off q e).2 hb.size⟩, h4⟩
theorem RowsNew.grown {w w' : World} {lo : Nat} {v v' : Value} {M : List IR} (h : RowsNew w lo v M) (hg : w.grownBy w' v.ownBlock) (hv : v'.ownBlock = v.ownBlock ∨ v'.ownBlock = some w.heap.size) : RowsNew w' lo v' M := fun x hx => by
  obtain ⟨h1, h2, h3, h4⟩ := h x hx
  refine ⟨h1.grown_ne (Nat.le_refl _) hg (fun b off q e => (h3 b off q e).1), h2, fun b off q e => ⟨?_, Nat.lt_of_lt_of_le (h3 b off q e).2 hg.size⟩, h4⟩
  rcases hv with hv | hv
  · rw [hv]; exact (h3 b off q e).1
  · rw [hv]; intro e2; injection e2 with e2; have := (h3 b off q e).2; omega
theorem RowsNew.snoc {w : World} {lo : Nat} {v : Value} {M : List IR} (h : RowsNew w lo v M) {x : IR} (h1 : RowOwn w x.A x.row x.k) (h2 : NewAt lo x.A) (h3 : ∀ b off q, x.A = some ⟨b, off, q⟩ → some b ≠ v.ownBlock ∧ b < w.heap.size) (h4 : x.row.length ≤ 1048576) : RowsNew w lo v (M ++ [x]) := fun y hy => by
  rcases List.mem_append.1 hy with e | e
  · exact h y e
  · rw [List.mem_singleton.1 e]; exact ⟨h1, h2, h3, h4⟩
theorem RowsNew.rows {w : World} {lo : Nat} {v : Value} {M : List IR} (h : RowsNew w lo v M) : RowsAt w w.heap.size M := fun x hx => ⟨(h x hx).1.row, Nat.le_trans (h x hx).2.2.2 (by decide)⟩
theorem Row.lt_of {w : World} {A : Option Addr} {xs : List Value} {b off q} (h : Row w w.heap.size A xs) (e : A = some ⟨b, off, q⟩) (hx : xs ≠ []) : b < w.heap.size := by
  rcases h with h | ⟨b', off', h1, h2, -⟩
  · exact absurd h hx
  · rw [e] at h1; injection h1 with h1; injection h1 with h1; omega

theorem elem_item : Elem Try.prog 22 28 2 32 := ⟨Try.underlying22, by
  obtain ⟨i, hi, hz, hs, hb⟩ := info_parts (P := Try.prog) (e := 28) (z := .agg #[.slice none 0 0, .int .i64 0]) (size := 2) (bytes := 32) (by kernel_rfl)
  exact ⟨i, _, hi, hz, hs, hb, rfl⟩, by decide⟩

/-- A list of items of a call's own making. -/
def ItsPost (S : List It) (w : World) (e : Ending) (w' : World) : Prop :=
  ∃ (A : Option Addr) (k : Nat) (M : List IR), e = .returned (.slice A M.length k) ∧ its M = S ∧ w'.ownsRow w.heap.size 28 2 (.slice A M.length k) M.length (rcells M) ∧ RowsNew w' w.heap.size (.slice A M.length k) M ∧ Below w.heap.size w w'
/-- A list of items of a call's own making, and an error. -/
def ItsErr (S : List It) (x : Int) (w : World) (e : Ending) (w' : World) : Prop :=
  ∃ (A : Option Addr) (k : Nat) (M : List IR), e = .returned (.tuple #[.slice A M.length k, .int .i64 x]) ∧ its M = S ∧ w'.ownsRow w.heap.size 28 2 (.slice A M.length k) M.length (rcells M) ∧ RowsNew w' w.heap.size (.slice A M.length k) M ∧ Below w.heap.size w w'
theorem itsErr_nil {w w' : World} {x : Int} (hb : Below w.heap.size w w') : ItsErr [] x w (.returned (.tuple #[.slice none 0 0, .int .i64 x])) w' :=
  ⟨none, 0, [], rfl, rfl, World.ownsRow_nil _ _ _ _, RowsNew.nil _ _ _, hb⟩
theorem itsErr_nil' {S : List It} {w w' : World} {x y : Int} (hS : S = []) (hx : y = x) (hb : Below w.heap.size w w') : ItsErr S y w (.returned (.tuple #[.slice none 0 0, .int .i64 x])) w' := by
  subst hS hx; exact itsErr_nil hb
theorem its_len (M : List IR) : (its M).length = M.length := List.length_map ..
theorem rcells_snoc (M : List IR) (x : IR) : rcells (M ++ [x]) = rcells M ++ x.cells := by rw [rcells, List.flatMap_append]; simp
end Go.Proofs.Ytmcdaibdpeeefaa
/- Sets with weights: which rows and weights may be; slices.IndexFunc, ContainsFunc at int. -/
namespace Go.Proofs.Ytmcdaibdpeeefaa
set_option linter.unusedVariables false
set_option linter.unusedSimpArgs false
open Go.ChangeShapes Go.WideShapes Go.ChangeAt Go.RowKit

/-- An index that IndexFunc tells: at least 0 just if there is one. -/
def FoundAt (p : Prop) (w : World) (e : Ending) (w' : World) : Prop := ∃ i : Int, e = .returned (.int .i64 i) ∧ (0 ≤ i ↔ p) ∧ Below w.heap.size w w'
/-- What is asked of a function value: handed an element of the list, in whatever later world, it answers p, and leaves what was there. -/
def PredNt (g : Nat) (caps : Array Value) (p : Int → Bool) (L : List Int) (w : World) : Prop :=
  ∀ w', Below w.heap.size w w' → ∀ x ∈ L, Calls Try.prog g (#[.int .i64 x] ++ caps) w' fun e w'' => e = .returned (.bool (p x)) ∧ Below w'.heap.size w' w''
set_option maxHeartbeats 400000 in
set_option maxRecDepth 100000 in
theorem indexNt_any (g : Nat) (caps : Array Value) (p : Int → Bool) (L : List Int) (A : Option Addr) (c : Nat) (w : World) (hr : Row w w.heap.size A (icells' L)) (hl : L.length ≤ 9223372036854775807)
    (eg : ∀ args w, (callFunc g args).run Try.prog w = .ok (.enter g args) w) (hp : PredNt g caps p L w) :
    Calls Try.prog 63 #[.slice A L.length c, .func (.func g) #[] caps] w (FoundAt (L.any p = true) w) := by
  have HR := hid hr
  clear hr
  go_enter Try.func63, Try.ntmps63
  go_wp2
  go_loopw [8] (fun i wr => (∃ k : Nat, k ≤ L.length ∧ i = .int .i64 k ∧ ∀ j (h : j < L.length), j < k → p L[j] = false) ∧ Below w.heap.size w wr) (fun i _ => L.length - (intOf i).toNat)
  case atStart => exact ⟨⟨0, by omega, rfl, fun j _ h => absurd h (by omega)⟩, Below.refl _ _⟩
  case round =>
    obtain ⟨⟨k, hk, rfl, hno⟩, hbw⟩ := hrel
    by_cases hlt : k < L.length
    · obtain ⟨b, off, rfl, hb, h0⟩ := (HR.out.below hbw (Nat.le_refl _)).int' hlt
      have hc := hp wr hbw L[k] (List.getElem_mem _)
      have HN := hid hno
      have HB := hid hbw
      have HC := hid hc
      clear hno hbw hc
      generalize hd : L[k] = d at *
      have HD := hid hd
      clear hd
      (try simp only [IR.cells] at h0 HC)
      obtain ⟨pd, hpd⟩ : ∃ b, b = p d := ⟨_, rfl⟩
      rw [← hpd] at HC
      have HP := hid hpd
      clear hpd
      cases pd
      all_goals
        go_wp2_with (refine (HC.out).mono ?_; rintro e w1 ⟨rfl, hb1⟩)
      · go_roundw
        case rel =>
          refine ⟨⟨k + 1, by omega, by go_num, fun j h hj => ?_⟩, HB.out.trans (hb1.mono HB.out.size)⟩
          by_cases e : j = k
          · subst e; rw [HD.out]; exact HP.out.symm
          · exact HN.out j h (by omega)
        case measure => simp [intOf]; omega
      · go_ret
        refine ⟨k, rfl, iff_of_true (by omega) (List.any_eq_true.2 ⟨L[k], List.getElem_mem _, by rw [HD.out]; exact HP.out.symm⟩), HB.out.trans (hb1.mono HB.out.size)⟩
    · go_wp2
      go_ret
      refine ⟨-1, rfl, iff_of_false (by omega) ?_, hbw⟩
      intro hm
      obtain ⟨d, hd, e⟩ := List.any_eq_true.1 hm
      obtain ⟨j, hj, rfl⟩ := List.getElem_of_mem hd
      rw [hno j hj (by omega)] at e
      cases e
theorem containsNt_any (g : Nat) (caps : Array Value) (p : Int → Bool) (L : List Int) (A : Option Addr) (c : Nat) (w : World) (hr : Row w w.heap.size A (icells' L)) (hl : L.length ≤ 9223372036854775807)
    (eg : ∀ args w, (callFunc g args).run Try.prog w = .ok (.enter g args) w) (hp : PredNt g caps p L w) :
    Calls Try.prog 44 #[.slice A L.length c, .func (.func g) #[] caps] w fun e w' => e = .returned (.bool (L.any p)) ∧ Below w.heap.size w w' := by
  have H := indexNt_any g caps p L A c w hr hl eg hp
  have HR := hid hr
  have HP := hid hp
  clear hr eg hp
  go_enter Try.func44, Try.ntmps44
  go_wp2_with (go_at_call 63; refine H.mono ?_; rintro e w' ⟨i, rfl, hi, hb⟩)
  go_ret
  refine ⟨ret_bool ?_, hb⟩
  first
    | (rw [Bool.eq_iff_iff, decide_eq_true_eq]; exact hi)
    | (rw [Bool.eq_iff_iff, decide_eq_true_eq, List.any_eq_true])

theorem far_any (n : Int) (w : World) : Calls Try.prog 34 #[.int .i64 n] w fun e w' => e = .returned (.bool (farB n)) ∧ w = w' := by
  obtain ⟨R, hR⟩ : ∃ R, R = farB n := ⟨_, rfl⟩
  rw [← hR]
  have HR := hid hR
  clear hR
  by_cases h1 : n < -1048576
  · go_enter Try.func34, Try.ntmps34
    go_wp2
    go_ret
    exact ⟨ret_bool (by rw [HR.out]; unfold farB; rw [decide_eq_true h1]; rfl), rfl⟩
  · by_cases h2 : 1048576 < n
    · go_enter Try.func34, Try.ntmps34
      go_wp2
      go_ret
      exact ⟨ret_bool (by rw [HR.out]; unfold farB; rw [decide_eq_true h2]; simp), rfl⟩
    · go_enter Try.func34, Try.ntmps34
      go_wp2
      go_ret
      exact ⟨ret_bool (by rw [HR.out]; unfold farB; rw [decide_eq_false (by omega), decide_eq_false (by omega)]; rfl), rfl⟩
theorem row1_any (n : Int) (w : World) : Calls Try.prog 57 #[.int .i64 n] w fun e w' => e = .returned (.bool (outB n)) ∧ w = w' := by
  obtain ⟨R, hR⟩ : ∃ R, R = outB n := ⟨_, rfl⟩
  rw [← hR]
  have HR := hid hR
  clear hR
  by_cases h1 : n < -1073741824
  · go_enter Try.func57, Try.ntmps57
    go_wp2
    go_ret
    exact ⟨ret_bool (by rw [HR.out]; unfold outB; rw [decide_eq_true h1]; rfl), rfl⟩
  · by_cases h2 : 1073741824 < n
    · go_enter Try.func57, Try.ntmps57
      go_wp2
      go_ret
      exact ⟨ret_bool (by rw [HR.out]; unfold outB; rw [decide_eq_true h2]; simp), rfl⟩
    · go_enter Try.func57, Try.ntmps57
      go_wp2
      go_ret
      exact ⟨ret_bool (by rw [HR.out]; unfold outB; rw [decide_eq_false (by omega), decide_eq_false (by omega)]; rfl), rfl⟩
theorem enters_row1 : ∀ args w, (callFunc 57 args).run Try.prog w = .ok (.enter 57 args) w := enters_of Try.func57 (by kernel_rfl) rfl

set_option maxHeartbeats 400000 in
set_option maxRecDepth 100000 in
theorem row_any (r : List Int) (A : Option Addr) (c : Nat) (w : World) (hr : Row w w.heap.size A (icells' r)) (hl : r.length ≤ 9223372036854775807) :
    Calls Try.prog 33 #[.slice A r.length c] w fun e w' => e = .returned (.bool (rowB r)) ∧ Below w.heap.size w w' := by
  have HC := hid (containsNt_any 57 #[] outB r A c w hr hl enters_row1 (fun w' hb x hx => (row1_any x w').mono fun e w2 ⟨h1, h2⟩ => ⟨h1, h2 ▸ Below.refl _ _⟩))
  clear hr
  obtain ⟨R, hR⟩ : ∃ R, R = rowB r := ⟨_, rfl⟩
  rw [← hR]
  have HR := hid hR
  clear hR
  obtain ⟨B, hB⟩ : ∃ B, B = r.any outB := ⟨_, rfl⟩
  rw [← hB] at HC
  have HB := hid hB
  clear hB
  by_cases h8 : r.length ≤ 8
  · have h8' : (r.length : Int) ≤ 8 := by omega
    go_enter Try.func33, Try.ntmps33
    go_wp2_with (go_at_call 44; refine HC.out.mono ?_; rintro e w' ⟨rfl, hb⟩)
    go_ret
    exact ⟨ret_bool (by rw [HR.out]; unfold rowB; rw [decide_eq_true h8, ← HB.out]; rfl), hb⟩
  · have h8' : (8 : Int) < (r.length : Int) := by omega
    go_enter Try.func33, Try.ntmps33
    go_wp2
    go_ret
    exact ⟨ret_bool (by rw [HR.out]; unfold rowB; rw [decide_eq_false h8]; rfl), Below.refl _ _⟩
end Go.Proofs.Ytmcdaibdpeeefaa
/- The order that zset.Sum sorts by. -/
namespace Go.Proofs.Ytmcdaibdpeeefaa
set_option linter.unusedVariables false
set_option linter.unusedSimpArgs false
open Go.ChangeShapes Go.WideShapes Go.ChangeAt Go.RowKit Go.Shelf Go.Lib Go.Sort

set_option maxHeartbeats 400000 in
set_option maxRecDepth 100000 in
theorem sum1_any (x y : IR) (w : World) (hx : Row w w.heap.size x.A (icells' x.row)) (hxl : x.row.length ≤ 9223372036854775807) (hy : Row w w.heap.size y.A (icells' y.row)) (hyl : y.row.length ≤ 9223372036854775807) :
    Calls Try.prog 60 #[.agg x.cells.toArray, .agg y.cells.toArray] w fun e w' => e = .returned (.int .i64 (cmpL x.row y.row)) ∧ ∃ q os', w' = grow (w.drewN q) os' := by
  obtain ⟨xr, xA, xk, xn⟩ := x
  obtain ⟨yr, yA, yk, yn⟩ := y
  simp only at hx hxl hy hyl ⊢
  have HC := hid (fun w1 (hb : Below w.heap.size w w1) => orderL_any xr yr xA yA xk yk w1 (hx.step hb) (hy.step hb) hxl hyl)
  clear hx hy
  simp only [IR.cells]
  go_enter Try.func60, Try.ntmps60
  go_wp2_with (go_at_call 38; refine (HC.out _ (by (repeat' (first | (with_reducible exact Below.refl _ _) | (with_reducible assumption) | (with_reducible refine below_drewN ?_ _) | (with_reducible refine Below.drew ?_) | (with_reducible refine Below.alloc ?_ ?_ _) | (with_reducible refine Below.setCell ?_ ?_ _) | (refine Below.trans ?_ (Below.mono (by assumption) ?_)) | go_size)))).mono ?_; rintro e w' ⟨rfl, rfl⟩)
  go_ret
  exact ⟨rfl, 0, _, by rw [alloc_eq_grow, alloc_eq_grow, grow_grow]; rfl⟩
theorem enters_sum1 : ∀ args w, (callFunc 60 args).run Try.prog w = .ok (.enter 60 args) w := enters_of Try.func60 (by kernel_rfl) rfl

/-- A world of the sort's: the one that it began with, but for the row's block, and what is new. -/
theorem sortWorldK_grown {α : Type} [Inhabited α] (enc : α → List Value) (k : Nat) (w : World) (g off n : Nat) (l : Array α) (os : Array Obj) : w.grownBy (sortWorldK enc k w g off n l os) (some g) := by
  refine ⟨rfl, rfl, rfl, ?_, ?_⟩
  · unfold sortWorldK grow Sort.putRowK putRow mapBlock Sort.ahead
    simp
  · intro j hj hne
    have hne' : g ≠ j := fun e => hne (by rw [e])
    unfold sortWorldK grow Sort.putRowK putRow mapBlock Sort.ahead
    simp [Array.getElem?_append, hj, Array.getElem_modify, hne']

/-- What is asked of the items that a sort orders: their rows lie below B. -/
def RowQ (w : World) (B : Nat) (x : IR) : Prop := Row w B x.A (icells' x.row) ∧ x.row.length ≤ 9223372036854775807
instance (w : World) (B : Nat) : Inhabited (QI (RowQ w B)) := ⟨⟨⟨[], none, 0, 0⟩, Row.nil, by simp⟩⟩
def itCf {Q : IR → Prop} (x y : QI Q) : Int := cmpL x.1.row y.1.row
theorem swo_itCf {Q : IR → Prop} : SWO (ltOf (itCf (Q := Q))) where
  irrefl x := swo_it.irrefl x.1.it
  trans x y z h1 h2 := swo_it.trans x.1.it y.1.it z.1.it h1 h2
  ntrans x y z h1 h2 := swo_it.ntrans x.1.it y.1.it z.1.it h1 h2
theorem cmpLays_sum1 (w : World) (B blk off size : Nat) (hB : B ≤ w.heap.size) (hblk : B ≤ blk) : CmpLays Try.prog 60 #[] (QI.cells (Q := RowQ w B)) 2 itCf blk off size w := fun m os dk hs x y => by
  have hg := sortWorldK_grown (QI.cells (Q := RowQ w B)) 2 w blk off m dk os
  have hr : ∀ z : QI (RowQ w B), Row (sortWorldK (QI.cells (Q := RowQ w B)) 2 w blk off m dk os) (sortWorldK (QI.cells (Q := RowQ w B)) 2 w blk off m dk os).heap.size z.1.A (icells' z.1.row) := fun z =>
    (z.2.1.grown hB hg (fun k e => by injection e with e; omega)).more (Nat.le_trans hB hg.size)
  exact sum1_any x.1 y.1 _ (hr x) x.2.2 (hr y) y.2.2
end Go.Proofs.Ytmcdaibdpeeefaa
/- The stable sort over a row of items that the call owns, nil too; slices.Clone at int. -/
namespace Go.Proofs.Ytmcdaibdpeeefaa
set_option linter.unusedVariables false
set_option linter.unusedSimpArgs false
open Go.ChangeShapes Go.WideShapes Go.ChangeAt Go.RowKit Go.Shelf Go.Lib Go.Sort

theorem zflat_flatK {α : Type} [Inhabited α] (f : α → List Value) (k : Nat) (hf : ∀ x, (f x).length = k) (hk : 0 < k) (l : List α) : (l.flatMap f).toArray = flatK f k l.toArray := by
  apply Array.ext
  · rw [List.size_toArray, flat_len hf, size_flatK, List.size_toArray]
  · intro i h1 h2
    have hi : i < l.length * k := by rw [List.size_toArray, flat_len hf] at h1; exact h1
    have hq : i / k < l.length := Nat.div_lt_of_lt_mul (by rw [Nat.mul_comm]; exact hi)
    have e := get_flatK f k l.toArray i (by rw [List.size_toArray]; exact hi)
    rw [getElem!_pos _ i h2] at e
    rw [e]
    have g := flat_get hf l (i / k) hq (i % k) (Nat.mod_lt _ hk)
    rw [Nat.div_add_mod' i k] at g
    have hl : l.toArray[i / k]! = l[i / k] := by simp [hq]
    rw [hl]
    have h3 : i % k < (f l[i / k]).length := by rw [hf]; exact Nat.mod_lt _ hk
    rw [getElem!_pos (f l[i / k]) (i % k) h3]
    have h4 : i < (l.flatMap f).length := by rw [flat_len hf]; exact hi
    rw [List.getElem?_eq_getElem h4, List.getElem?_eq_getElem h3] at g
    injection g with g
theorem take_get {cur : Array Value} {n : Nat} {xs : List Value} (h : cur.toList.take n = xs) {j : Nat} (hj : j < xs.length) : cur[j]? = xs[j]? := by
  subst h
  rw [List.getElem?_take_of_lt (by simp at hj; omega)]
  simp
theorem own_holds {α : Type} [Inhabited α] (f : α → List Value) (hf : ∀ x, (f x).length = 2) {w : World} {g : Nat} {l : List α} {cur : Array Value} {T : TypeId} (hg : w.heap[g]? = some (.cells cur T (0, 0))) (hc : cur.toList.take (l.length * 2) = l.flatMap f) : HoldsK f 2 w g 0 l.toArray := by
  intro j hj
  rw [← zflat_flatK f 2 hf (by decide)] at hj ⊢
  have hj' : j < (l.flatMap f).length := by simpa using hj
  have e := take_get hc hj'
  have e2 : (l.flatMap f).toArray[j]! = (l.flatMap f)[j] := by
    rw [getElem!_pos _ j hj]; simp
  rw [e2]
  constructor
  · rw [Nat.zero_add, cell_of_row w g j cur T (0, 0) hg, e, List.getElem?_eq_getElem hj']; rfl
  · simp [World.frozen?, hg]
theorem own_sorted {α : Type} [Inhabited α] (f : α → List Value) (hf : ∀ x, (f x).length = 2) {w : World} {B cap g n : Nat} {l' : List α} {cur : Array Value} {T : TypeId} {os : Array Obj} (hb : B ≤ g) (hg : w.heap[g]? = some (.cells cur T (0, 0))) (hcap : l'.length ≤ cap) (hm : cap ≤ maxLen) (hs : cur.size = cap * 2) :
    (sortWorldK f 2 w g 0 n l'.toArray os).ownsRow B T 2 (.slice (some ⟨g, 0, none⟩) l'.length cap) l'.length (l'.flatMap f) := by
  have hlt : g < w.heap.size := by
    rcases Nat.lt_or_ge g w.heap.size with h | h
    · exact h
    · rw [Array.getElem?_eq_none h] at hg; cases hg
  have hnew : (sortWorldK f 2 w g 0 n l'.toArray os).heap[g]? = some (.cells (putCells id 0 (flatK f 2 l'.toArray) cur) T (0, 0)) := by
    unfold sortWorldK grow Sort.putRowK putRow mapBlock Sort.ahead
    simp only [Array.getElem?_append, Array.size_modify, hlt, if_true, Array.getElem?_modify, hg, Option.map_some]
    rfl
  refine ⟨by rw [flat_len hf], .inr ⟨g, cap, _, rfl, hb, hnew, hcap, hm, by simp [putCells, hs], ?_⟩⟩
  rw [← zflat_flatK f 2 hf (by decide)]
  apply List.ext_getElem?
  intro j
  by_cases hj : j < (l'.flatMap f).length
  · have hj2 : j < l'.length * 2 := by rw [flat_len hf] at hj; exact hj
    have hjc : j < cur.size := by rw [hs]; omega
    rw [List.getElem?_take_of_lt hj2]
    simp only [putCells, Array.toList_mapIdx, List.getElem?_mapIdx]
    have : cur.toList[j]? = some cur.toList[j] := List.getElem?_eq_getElem (by simpa using hjc)
    rw [this]
    simp only [Option.map_some, Nat.zero_le, Nat.zero_add, List.size_toArray, hj, and_self, if_true, Nat.sub_zero, id]
    rw [getElem!_pos _ j (by simpa using hj), List.getElem?_eq_getElem hj]
    simp
  · rw [List.getElem?_eq_none (Nat.le_of_not_lt hj), List.getElem?_eq_none]
    rw [List.length_take]
    rw [flat_len hf] at hj
    omega

set_option maxRecDepth 100000 in
theorem ins_none (c : Nat) (f : Value) (w : World) : Calls Try.prog 75 #[.slice none 0 c, .int .i64 0, .int .i64 0, f] w fun e w' => e = .returned (.tuple #[]) ∧ w = w' := by
  go_enter Try.func75, Try.ntmps75
  go_wp2
  refine wp_loop_rounds 1 ?_
  rw [rounds_succ]
  go_wp2
  go_end0
  exact ⟨rfl, rfl⟩
set_option maxRecDepth 100000 in
theorem stable_none (c : Nat) (f : Value) (w : World) : Calls Try.prog 74 #[.slice none 0 c, .int .i64 0, f] w fun e w' => e = .returned (.tuple #[]) ∧ w = w' := by
  go_enter Try.func74, Try.ntmps74
  go_wp2
  refine wp_loop_rounds 1 ?_
  rw [rounds_succ]
  go_wp2_with (go_at_call 75; refine (ins_none _ _ _).mono ?_; rintro e w' ⟨rfl, rfl⟩)
  refine wp_loop_rounds 1 ?_
  rw [rounds_succ]
  go_wp2
  go_end0
  exact ⟨rfl, rfl⟩
set_option maxRecDepth 100000 in
theorem sortStable_none (c : Nat) (f : Value) (w : World) : Calls Try.prog 59 #[.slice none 0 c, f] w fun e w' => e = .returned (.tuple #[]) ∧ w = w' := by
  go_enter Try.func59, Try.ntmps59
  go_wp2_with (go_at_call 74; refine (stable_none _ _ _).mono ?_; rintro e w' ⟨rfl, rfl⟩)
  go_end0
  exact ⟨rfl, rfl⟩

theorem perm_all {α : Type} {d d' : Array α} [Inhabited α] (h : PermIn 0 d.size d d') : d'.toList.Perm d.toList := by
  have h2 := h.2.2
  have e1 : d'.extract 0 d.size = d' := by rw [← h.1]; simp
  have e2 : d.extract 0 d.size = d := by simp
  rwa [e1, e2] at h2
theorem attach_val {Q : IR → Prop} : ∀ (L : List IR) (h : ∀ x ∈ L, Q x), (L.attachWith Q h).map Subtype.val = L := fun L h => by simp
theorem cells_val {Q : IR → Prop} (l : List (QI Q)) : l.flatMap (QI.cells (Q := Q)) = rcells (l.map Subtype.val) := by
  rw [rcells, List.flatMap_map]

/-- The stable sort over a row that the call owns (nil too). -/
theorem zsortI_own {B : Nat} {v : Value} (L : List IR) (w : World) (hown : w.ownsRow B 28 2 v L.length (rcells L)) (hr : RowsAt w B L) (hB : B ≤ w.heap.size) (hl : L.length ≤ 1152921504606846975) :
    Calls Try.prog 59 #[v, .func (.func 60) #[] #[]] w fun e w' => e = .returned (.tuple #[]) ∧ ∃ L' : List IR, L'.Perm L ∧ Rising (its L') ∧ w'.ownsRow B 28 2 v L.length (rcells L') ∧ w.grownBy w' v.ownBlock := by
  rcases hown.2 with ⟨rfl, h0⟩ | ⟨g, cap, cur, rfl, hb, hg, hcap, hm, hs, ht⟩
  · have hl0 : L = [] := List.eq_nil_of_length_eq_zero h0
    subst hl0
    refine (sortStable_none 0 _ w).mono fun e w' ⟨he, hw⟩ => ?_
    subst hw
    exact ⟨he, [], List.Perm.refl _, fun i j hi _ _ => by simp at hi, hown, ⟨rfl, rfl, rfl, Nat.le_refl _, fun _ _ _ => rfl⟩⟩
  · have hlt : g < w.heap.size := by
      rcases Nat.lt_or_ge g w.heap.size with h | h
      · exact h
      · rw [Array.getElem?_eq_none h] at hg; cases hg
    have hv := attach_val L (Q := RowQ w B) hr
    obtain ⟨l, hL⟩ : ∃ l : List (QI (RowQ w B)), l = L.attachWith (RowQ w B) hr := ⟨_, rfl⟩
    rw [← hL] at hv
    have hln : l.length = L.length := by rw [← hv, List.length_map]
    have hcells : l.flatMap QI.cells = rcells L := by rw [cells_val, hv]
    have R : RowK (QI.cells (Q := RowQ w B)) 2 w g 0 l.toArray := ⟨fun _ => rfl, fun x u hu => by simp only [QI.cells, IR.cells, List.mem_cons, List.not_mem_nil, or_false] at hu; rcases hu with rfl | rfl <;> rfl, own_holds _ (fun _ => rfl) hg (by rw [hln, ht, hcells]), hlt⟩
    have hc := sortStable_raw (itCf (Q := RowQ w B)) 60 #[] g 0 cap l.toArray w enters_sum1 (cmpLays_sum1 w B g 0 l.toArray.size hB hb) R swo_itCf (by rw [List.size_toArray, hln]; omega)
    rw [show l.toArray.size = L.length by rw [List.size_toArray, hln]] at hc
    refine hc.mono fun e w' ⟨he, d', hp, hsrt, n, os, hw⟩ => ?_
    rw [show L.length = l.toArray.size by rw [List.size_toArray, hln]] at hp hsrt
    have hperm := perm_all hp
    have hd : d' = d'.toList.toArray := by simp
    have hdl : d'.toList.length = L.length := by rw [hperm.length_eq]; simpa using hln
    have ho := own_sorted (QI.cells (Q := RowQ w B)) (fun _ => rfl) (l' := d'.toList) (n := n) (os := os) hb hg (by rw [hdl]; exact hcap) hm hs
    rw [← hd, ← hw, cells_val, hdl] at ho
    refine ⟨he, d'.toList.map Subtype.val, ?_, ?_, ho, ?_⟩
    · have := hperm.map Subtype.val
      rw [hv] at this
      exact this
    · intro i j hi hj hij
      simp only [its, List.length_map] at hi hj
      have h1 := hsrt i j (Nat.zero_le _) hij (by rw [List.size_toArray, hln, ← hdl]; exact hj)
      have hi' : i < d'.size := by simpa using hi
      have hj' : j < d'.size := by simpa using hj
      rw [getElem!_pos d' i hi', getElem!_pos d' j hj'] at h1
      have h3 : ¬ (cmpL (d'[j]).1.row (d'[i]).1.row < 0) := of_decide_eq_false h1
      have h2 := cmpL_neg (d'[i]).1.row (d'[j]).1.row
      simp only [its, List.getElem_map, Array.getElem_toList, IR.it]
      omega
    · rw [hw]
      exact sortWorldK_grown _ 2 w g 0 n d' os

theorem elem_int : Elem Try.prog 26 3 1 8 := ⟨Try.underlying26, by
  obtain ⟨i, hi, hz, hs, hb⟩ := info_parts (P := Try.prog) (e := 3) (z := .int .i64 0) (size := 1) (bytes := 8) (by kernel_rfl)
  exact ⟨i, _, hi, hz, hs, hb, rfl⟩, by decide⟩
set_option maxHeartbeats 400000 in
set_option maxRecDepth 100000 in
theorem cloneI_any (l : List Int) (A : Option Addr) (c : Nat) (w : World) (hr : Row w w.heap.size A (icells' l)) (hl : l.length ≤ 1048576) :
    Calls Try.prog 37 #[.slice A l.length c] w fun e w' => ∃ A' c', e = .returned (.slice A' l.length c') ∧ RowOwn w' A' l c' ∧ NewAt w.heap.size A' ∧ (∀ b off q, A' = some ⟨b, off, q⟩ → b < w'.heap.size) ∧ Below w.heap.size w w' := by
  rcases A with _ | ad
  · have he : l = [] := by
      rcases hr with h | ⟨b, off, h, _⟩
      · simpa using h
      · cases h
    subst he
    have hnil := fun (w : World) => Lib.run_eql_slice_nil w (P := Try.prog) (t := 26) (e := 3) none 0 c 0 0 Try.underlying26
    go_enter Try.func37, Try.ntmps37
    go_wp2
    go_ret
    exact ⟨none, 0, rfl, ⟨Row.nil, World.ownsRow_nil _ _ _ _⟩, newAt_none _, (fun _ _ _ e => by cases e), Below.refl _ _⟩
  · have hnil := fun (w : World) => Lib.run_eql_slice_nil w (P := Try.prog) (t := 26) (e := 3) (some ad) l.length c 0 0 Try.underlying26
    have HR := hid hr
    clear hr
    go_enter Try.func37, Try.ntmps37
    go_wp2_with (at_builtin; refine wpList_append_row elem_int rfl _ _ rfl w.heap.size (.slice (some ⟨w.heap.size, 0, none⟩) 0 0) 0 [] rfl (World.ownsRow_made w #[] 0 (Nat.le_refl _) (by decide) rfl) (some ad) l.length c w.heap.size (icells' l) rfl ?_ (HR.out.below (Below.alloc (Below.refl _ _) (Nat.le_refl _) _) (Nat.le_refl _)) ?_ ?_ ?_ ?_ ?_; rotate_right; intro v1 w1 hown1 hg1 hat1; rotate_left; (simp); (intro u hu; obtain ⟨x, -, rfl⟩ := List.mem_map.1 hu; rfl); (simp only [maxLen]; omega); (omega); (simp))
    go_ret
    obtain ⟨A1, c1, rfl⟩ := own_formS hown1
    refine ⟨A1, c1, by simp, ?_, own_newS hown1 (Nat.le_refl _), own_inS hown1, ((Below.refl _ _).alloc (Nat.le_refl _) _).grown hg1 (by simp) (fun k hk => ?_)⟩
    · exact RowOwn.of_own (by simpa using hown1) rfl
    · simp [Value.ownBlock] at hk
      omega
end Go.Proofs.Ytmcdaibdpeeefaa
/- zset.Sum: each row with its weight in all, in order. -/
namespace Go.Proofs.Ytmcdaibdpeeefaa
set_option linter.unusedVariables false
set_option linter.unusedSimpArgs false
open Go.ChangeShapes Go.WideShapes Go.ChangeAt Go.RowKit Go.Shelf Go.Lib Go.Sort

/-- A list of items, and where it lies. -/
structure LR where
  L : List IR
  A : Option Addr
  k : Nat
abbrev LR.cells (x : LR) : List Value := [.slice x.A x.L.length x.k]
theorem LR.len (x : LR) : x.cells.length = 1 := rfl
abbrev lrs (LL : List LR) : List IR := LL.flatMap LR.L
theorem Row.lr {w : World} {B : Nat} {A : Option Addr} {LL : List LR} (h : Row w B A (LL.flatMap LR.cells)) {k : Nat} (hk : k < LL.length) :
    ∃ b off, A = some ⟨b, off, none⟩ ∧ b < B ∧ w.cell? ⟨b, off + k, none⟩ = some (.slice LL[k].A LL[k].L.length LL[k].k) := by
  obtain ⟨b, off, h1, h2, h3⟩ := Row.flat LR.len h (by omega) hk
  have := h3 0 _ rfl
  rw [Nat.mul_one, Nat.add_zero] at this
  exact ⟨b, off, h1, h2, this⟩
theorem lrs_take_len (LL : List LR) (j : Nat) : (lrs (LL.take j)).length ≤ (lrs LL).length := by
  have e : lrs LL = lrs (LL.take j) ++ lrs (LL.drop j) := by rw [lrs, lrs, lrs, ← List.flatMap_append, List.take_append_drop]
  rw [e, List.length_append]; omega

theorem grp_at {L : List IR} {i n : Nat} (h : i + n < L.length) : grpSum (its L) i (n + 1) = IntKind.i64.wrap (grpSum (its L) i n + L[i + n].n) := by
  rw [grpSum, List.getElem?_eq_getElem (by rw [its_len]; exact h), Option.map_some, Option.getD_some]
  simp [its]

set_option maxHeartbeats 8000000 in
set_option maxRecDepth 100000 in
theorem sum_any (LL : List LR) (A : Option Addr) (c : Nat) (w : World) (hr : Row w w.heap.size A (LL.flatMap LR.cells)) (hrows : ∀ x ∈ LL, RowI w w.heap.size x.A x.L) (hl : (lrs LL).length ≤ 1048576) (hll : LL.length ≤ 1048576) (hrl : ∀ x ∈ lrs LL, x.row.length ≤ 1048576) :
    Calls Try.prog 36 #[.slice A LL.length c] w (ItsPost (sumL (its (lrs LL))) w) := by
  have HR := hid hr
  have HRW := hid hrows
  have HRL := hid hrl
  clear hr hrows hrl
  have hs0 : w.heap.size ≤ w.heap.size := Nat.le_refl _
  obtain ⟨i0, z0, hi0, hz0, hz1, hz2, hz3⟩ := elem_item.hi
  go_enter Try.func36, Try.ntmps36
  go_wp2_with fail
  -- STOP-a
  go_loopw [3, 11] (fun s3 s11 wr => ∃ j : Nat, j ≤ LL.length ∧ s11 = .int .i64 j ∧ Hid (wr.ownsRow w.heap.size 28 2 s3 (lrs (LL.take j)).length (rcells (lrs (LL.take j)))) ∧ Hid (Below w.heap.size w wr)) (fun _ s11 _ => LL.length - (intOf s11).toNat)
  case atStart => exact ⟨0, by omega, rfl, hid (World.ownsRow_nil _ _ _ _), hid (Below.refl _ _)⟩
  case round =>
    obtain ⟨j, hj, rfl, HOWN, HB⟩ := hrel
    have hsz := HB.out.size
    by_cases hlt : j < LL.length
    · obtain ⟨b, off, rfl, hb, h0⟩ := (HR.out.below HB.out (Nat.le_refl _)).lr hlt
      have HST := hid (show lrs (LL.take (j + 1)) = lrs (LL.take j) ++ LL[j].L by rw [List.take_succ_eq_append_getElem hlt, lrs, List.flatMap_append]; simp)
      have HN := hid ((HRW.out _ (List.getElem_mem hlt)).1.below HB.out (Nat.le_refl _))
      have hl2 : (lrs (LL.take j)).length + LL[j].L.length ≤ 1048576 := by
        have := lrs_take_len LL (j + 1)
        rw [HST.out, List.length_append] at this
        omega
      obtain ⟨O, hO⟩ : ∃ O, O = lrs (LL.take j) := ⟨_, rfl⟩
      rw [← hO] at HOWN HST hl2
      clear hO
      generalize LL[j] = x at *
      obtain ⟨xl, xA, xk⟩ := x
      obtain ⟨A3, c3, rfl⟩ := own_formS HOWN.out
      have hb2 : b < wr.heap.size := by omega
      simp only at h0 HN hl2 HST
      go_wp2_with (at_builtin; refine wpList_append_row elem_item rfl _ _ rfl w.heap.size _ _ _ rfl HOWN.out xA xl.length xk w.heap.size (rcells xl) rfl (rcells_len xl) HN.out (rcells_one xl) ?_ ?_ ?_ ?_; rotate_right; intro v6 w6 hown6 hg6 hif6; rotate_left; (simp only [maxLen]; omega); (omega); (omega))
      go_roundw
      case rel =>
        refine ⟨j + 1, by omega, by go_num, ?_, hid (HB.out.grown hg6 hsz (fun g e => (HOWN.out.lt g e).1))⟩
        rw [HST.out, List.length_append, rcells, List.flatMap_append]
        exact hid hown6
      case measure => simp [intOf]; omega
    · have hJ : LL.take j = LL := List.take_of_length_le (by omega)
      rw [hJ] at HOWN
      obtain ⟨L, hL⟩ : ∃ L, L = lrs LL := ⟨_, rfl⟩
      rw [← hL] at HOWN hl HRL ⊢
      have HRA : Hid (RowsAt w w.heap.size L) := hid (fun x hx => by
        rw [hL] at hx
        obtain ⟨y, hy, hxy⟩ := List.mem_flatMap.1 hx
        exact (HRW.out y hy).2 x hxy)
      obtain ⟨A3, c3, rfl⟩ := own_formS HOWN.out
      have HRA2 := hid (HRA.out.below HB.out (Nat.le_refl _))
      have HLL := hid hL
      clear hL hJ HRW
      go_wp2_with fail
      -- STOP-b
      refine (zsortI_own L _ HOWN.out HRA2.out hsz (by omega)).mono ?_
      rintro e w2 ⟨rfl, L', hperm, hris, hown2, hg2⟩
      have HB2 := hid (HB.out.grown hg2 hsz (fun g e => (HOWN.out.lt g e).1))
      have HPM := hid hperm
      have HRS := hid hris
      have hln : L'.length = L.length := hperm.length_eq
      have HRX := hid (show Row w2 w2.heap.size A3 (rcells L') from Row.of_ownS hown2)
      have HRB : Hid (RowsAt w2 w2.heap.size L') := hid ((((HRA.out.sub fun x hx => hperm.mem_iff.1 hx).below HB2.out (Nat.le_refl _))).more HB2.out.size)
      have HRL2 : Hid (∀ x ∈ L', x.row.length ≤ 1048576) := hid (fun x hx => HRL.out x (hperm.mem_iff.1 hx))
      have HFIN : Hid (∀ S : List It, Summed (its L') (its L').length S → S = sumL (its L)) := hid (fun S h => summed_sumL (hperm.map IR.it) h)
      have HLN := hid hln
      have hs2 : w.heap.size ≤ w2.heap.size := HB2.out.size
      clear hperm hris hown2 hg2 HRA HRA2 HRL HB HOWN hln hsz hlt hj
      go_wp2_with fail
      -- STOP-c
      go_loopw [6, 7] (fun s6 s7 wr => ∃ (i : Nat) (S : List IR), i ≤ L.length ∧ s7 = .int .i64 i ∧ S.length ≤ i ∧ Hid (Summed (its L') i (its S)) ∧ Hid (wr.ownsRow w2.heap.size 28 2 s6 S.length (rcells S)) ∧ Hid (RowsNew wr w2.heap.size s6 S) ∧ Hid (Below w2.heap.size w2 wr)) (fun _ s7 _ => L.length - (intOf s7).toNat)
      case atStart => exact ⟨0, [], by omega, rfl, by simp, hid (summed_nil _), hid (World.ownsRow_nil _ _ _ _), hid (RowsNew.nil _ _ _), hid (Below.refl _ _)⟩
      case round =>
        obtain ⟨i, S, hi, rfl, hSi, HSM, HOWN, HNEW, HB⟩ := hrel
        obtain ⟨wo, rfl⟩ : ∃ wx : World, wx = wr := ⟨_, rfl⟩
        obtain ⟨A6, c6, rfl⟩ := own_formS HOWN.out
        have hs3 := HB.out.size
        by_cases hlt : i < L.length
        · have hlt' : i < L'.length := by have := HLN.out; omega
          have HRXo := hid (HRX.out.step HB.out)
          have HRBo := hid (HRB.out.step HB.out)
          obtain ⟨b, off, rfl, hb, h0, h1⟩ := HRXo.out.it hlt'
          have hbw : b < w2.heap.size := by
            obtain ⟨b2, off2, hA2, hb2, -⟩ := HRX.out.it hlt'
            injection hA2 with hA2
            injection hA2 with hA3
            omega
          have hmem := List.getElem_mem hlt'
          have HRO : Hid (∀ h : i < L'.length, L'[i] = L'[i]) := hid (fun _ => rfl)
          have HROW := hid (HRBo.out _ hmem).1
          have hrl2 := HRL2.out _ hmem
          have HEQ := hid (show ∀ j, (h : j < L'.length) → (its L')[j]'(by rw [its_len]; exact h) = L'[j].it from fun j h => by simp [its])
          obtain ⟨r, hr⟩ : ∃ r, r = L'[i].row := ⟨_, rfl⟩
          have HRR := hid hr
          rw [← hr] at h0 HROW hrl2
          clear hr hmem HRO
          generalize L'[i].A = rA at *
          generalize L'[i].k = rk at *
          generalize L'[i].n = rn at *
          have HCL := hid (cloneI_any r rA rk wo HROW.out hrl2)
          go_wp2_with fail
          -- STOP-d
          refine HCL.out.mono ?_
          rintro e w3 ⟨A5, c5, rfl, hrow5, hnew5, hin5, hb5⟩
          have HIN5 := hid hin5
          have HROW5 := hid hrow5
          have HNEW5 := hid hnew5
          have HB5 := hid hb5
          have hs5 := hb5.size
          clear hrow5 hnew5 hin5 hb5 h0 h1 hb HCL HROW
          go_wp2_with fail
          -- STOP-e
          go_loopw [7] (fun s7 wr => ∃ n : Nat, i + n ≤ L.length ∧ s7 = .int .i64 ((i + n : Nat) : Int) ∧ Hid (InGroup (its L') i (i + n) r) ∧ Hid (Blk wr w3.heap.size #[.slice A5 r.length c5, .int .i64 (grpSum (its L') i n)] 28) ∧ Hid (Below w3.heap.size w3 wr)) (fun s7 _ => L.length - (intOf s7).toNat)
          case atStart => exact ⟨0, by omega, by simp, hid (fun k hk h1 h2 => by omega), hid (Blk.new _ _ _), hid (alloc_below (Below.refl _ _) _)⟩
          case round =>
            obtain ⟨n, hn, rfl, HG, HXB, HB6⟩ := hrel
            obtain ⟨wi, rfl⟩ : ∃ wx : World, wx = wr := ⟨_, rfl⟩
            obtain ⟨j, hj⟩ : ∃ j, j = i + n := ⟨_, rfl⟩
            have HJ := hid hj
            rw [← hj] at hn HG ⊢
            clear hj
            have hs6 := HB6.out.size
            have HB7 := hid (Below.step' HB.out (Below.step' HB5.out HB6.out))
            have HROW6 := hid (HROW5.out.row.step HB6.out)
            have hxl := HXB.out.lt
            obtain ⟨okb, hok⟩ : ∃ okb : Bool, okb = (if h : j < L'.length then decide (cmpL L'[j].row r = 0) else false) := ⟨_, rfl⟩
            have HOK := hid hok
            clear hok
            go_upto_region 12 with fail
            go_cut [46] from 32 to 46 (fun s wx => s = .bool okb ∧ Hid (Below wi.heap.size wi wx))
            case first =>
              by_cases hlt2 : j < L.length
              · have hlt3 : j < L'.length := by have := HLN.out; omega
                obtain ⟨b', off', hA, hb', h0, h1⟩ := (HRX.out.step HB7.out).it hlt3
                injection hA with hA
                injection hA with hA1 hA2
                subst hA1 hA2
                have hokv : okb = decide (cmpL L'[j].row r = 0) := by rw [HOK.out, dif_pos hlt3]
                have hmem := List.getElem_mem hlt3
                have HORD := hid (fun w1 (hb : Below wi.heap.size wi w1) => orderL_any L'[j].row r L'[j].A A5 L'[j].k c5 w1 ((HRB.out.step HB7.out).step hb _ hmem).1 (HROW6.out.step hb) (Nat.le_trans (HRL2.out _ hmem) (by decide)) (by omega))
                obtain ⟨cv, hcv⟩ : ∃ cv, cv = cmpL L'[j].row r := ⟨_, rfl⟩
                rw [← hcv] at HORD hokv
                clear hmem hcv
                generalize L'[j].row = xr at *
                generalize L'[j].A = xA at *
                generalize L'[j].k = xk at *
                generalize L'[j].n = xn at *
                have HOV := hid hokv
                obtain ⟨cx, fx, sx, nx⟩ := HXB.out.all
                by_cases hz : cv = 0
                · have t1 : (cv == 0) = true := by simp [hz]
                  have HZ := hid hz
                  clear hokv hz
                  go_wp2
                  refine region_ext (by kernel_rfl) (by kernel_rfl) (fun hext => ?_)
                  repeat (any_goals ((with_reducible refine wpQuiet_step (fun K hK => ?_)); go_simp; first | (with_reducible refine hK _ ?_; clear hK K) | ((with_reducible apply Exists.intro); (with_reducible refine ⟨fun _ => ?_, hK _ ?_⟩); (go_at_call 38; exact ext_call_same _ (HORD.out _ (Ext.below _))); clear hK K) | ((with_reducible refine (if_neg ?_).mpr (hK _ ?_)); (decide); clear hK K) | (split <;> (with_reducible refine hK _ ?_; clear hK K))))
                  all_goals ((with_reducible refine wpQuiet_nil ?_); clear hext; intro w1 hx1; have hb1 := ext_below hx1; clear hx1)
                  go_wp2
                  all_goals
                    go_meet
                    case rel => exact ⟨by rw [HOV.out, decide_eq_true HZ.out], hid hb1⟩
                · have t1 : (cv == 0) = false := by simp [hz]
                  have HZ := hid hz
                  clear hokv hz
                  go_wp2
                  refine region_ext (by kernel_rfl) (by kernel_rfl) (fun hext => ?_)
                  repeat (any_goals ((with_reducible refine wpQuiet_step (fun K hK => ?_)); go_simp; first | (with_reducible refine hK _ ?_; clear hK K) | ((with_reducible apply Exists.intro); (with_reducible refine ⟨fun _ => ?_, hK _ ?_⟩); (go_at_call 38; exact ext_call_same _ (HORD.out _ (Ext.below _))); clear hK K) | ((with_reducible refine (if_neg ?_).mpr (hK _ ?_)); (decide); clear hK K) | (split <;> (with_reducible refine hK _ ?_; clear hK K))))
                  all_goals ((with_reducible refine wpQuiet_nil ?_); clear hext; intro w1 hx1; have hb1 := ext_below hx1; clear hx1)
                  go_wp2
                  all_goals
                    go_meet
                    case rel => exact ⟨by rw [HOV.out, decide_eq_false HZ.out], hid hb1⟩
              · have hlt3 : ¬ j < L'.length := by have := HLN.out; omega
                have HOV : Hid (okb = false) := hid (by rw [HOK.out, dif_neg hlt3])
                have hd : decide ((j : Int) < (L.length : Int)) = false := decide_eq_false (by omega)
                go_wp2
                refine region_ext (by kernel_rfl) (by kernel_rfl) (fun hext => ?_)
                repeat (any_goals ((with_reducible refine wpQuiet_step (fun K hK => ?_)); go_simp; first | (with_reducible refine hK _ ?_; clear hK K) | ((with_reducible apply Exists.intro); (with_reducible refine ⟨fun _ => ?_, hK _ ?_⟩); (fail); clear hK K) | ((with_reducible refine (if_neg ?_).mpr (hK _ ?_)); (decide); clear hK K) | (split <;> (with_reducible refine hK _ ?_; clear hK K))))
                all_goals ((with_reducible refine wpQuiet_nil ?_); clear hext; intro w1 hx1; have hb1 := ext_below hx1; clear hx1)
                go_wp2
                all_goals
                  go_meet
                  case rel => exact ⟨by rw [HOV.out], hid hb1⟩
            case rest =>
              obtain ⟨rfl, HB8⟩ := hcut
              obtain ⟨wj, rfl⟩ : ∃ wx : World, wx = wc := ⟨_, rfl⟩
              have HXB8 := hid (HXB.out.step HB8.out)
              have HB9 := hid (HB6.out.trans (HB8.out.mono hs6))
              have HB10 := hid (Below.step' HB7.out HB8.out)
              have hs8 := HB8.out.size
              clear HXB HB7 HROW6
              cases okb
              · have hn0 : 0 < n := by
                  rcases Nat.eq_zero_or_pos n with h | h
                  · exfalso
                    have hji : j = i := by have := HJ.out; omega
                    have := HOK.out
                    rw [dif_pos (show j < L'.length by omega)] at this
                    simp only [hji] at this
                    rw [← HRR.out, cmpL_self] at this
                    simp at this
                  · exact h
                have hlenj : i + n ≤ (its L').length := by rw [its_len, HLN.out, ← HJ.out]; exact hn
                have hout : ∀ h : i + n < (its L').length, (its L')[i + n].1 ≠ r := fun h e => by
                  have h2 : j < L'.length := by rw [its_len] at h; rw [HJ.out]; exact h
                  have := HOK.out
                  rw [dif_pos h2] at this
                  have e2 := HEQ.out (i + n) (by rw [its_len] at h; exact h)
                  rw [e2] at e
                  simp only [IR.it] at e
                  simp only [HJ.out, e, cmpL_self] at this
                  simp at this
                have hgrp := HG.out
                rw [HJ.out] at hgrp
                have HSS := hid (summed_step (fun a b ha hb hab => HRS.out a b ha hb hab) HSM.out hn0 hlenj r hgrp hout)
                clear hlenj hout hgrp HOK
                obtain ⟨gs, hgs⟩ : ∃ gs, gs = grpSum (its L') i n := ⟨_, rfl⟩
                rw [← hgs] at HXB8 HSS
                clear hgs
                obtain ⟨cx, fx, sx, nx⟩ := HXB8.out.all
                have HOWN8 := hid (own_laterS HOWN.out (Below.step' HB5.out (Below.trans HB6.out (HB8.out.mono hs6))))
                have HNEW8 := hid (HNEW.out.step (Below.step' HB5.out (Below.trans HB6.out (HB8.out.mono hs6))))
                have HROW8 := hid (HROW5.out.step (Below.trans HB6.out (HB8.out.mono hs6)))
                by_cases hz : gs = 0
                · have t1 : (gs != 0) = false := by simp [hz]
                  have HZ := hid hz
                  clear hz
                  go_wp2_with fail
                  go_roundw
                  case rel =>
                    refine ⟨j, S, hn, rfl, by have := HJ.out; omega, ?_, HOWN8, HNEW8, HB10⟩
                    have := HSS.out
                    rw [if_pos HZ.out, ← HJ.out] at this
                    exact hid this
                  case measure => have := HJ.out; simp [intOf]; omega
                · have t1 : (gs != 0) = true := by simp [hz]
                  have HZ := hid hz
                  clear hz
                  have hj2 := HJ.out
                  have hjn : i < j := by omega
                  clear hj2
                  go_wp2_with (at_builtin; refine wpList_append_row elem_item rfl _ _ rfl w2.heap.size _ _ _ rfl (HOWN8.out.alloc _) (some ⟨wj.heap.size, 0, none⟩) 1 1 (wj.heap.size + 1) [.slice A5 r.length c5, .int .i64 gs] rfl rfl (Row.new' _ _ _ rfl rfl (Nat.lt_succ_self _)) (rcells_one [⟨r, A5, c5, gs⟩]) ?_ ?_ ?_ ?_; rotate_right; intro v7 w7 hown7 hg7 hif7; rotate_left; (simp only [maxLen]; omega); (omega); (simp; omega))
                  -- STOP-f
                  have HNEW9 := hid ((HNEW8.out.step (alloc_below (Below.refl _ _) (.cells #[.slice A5 r.length c5, .int .i64 gs] 28))).grown hg7 hif7)
                  have HROW9 := hid ((HROW8.out.step (alloc_below (Below.refl _ _) (.cells #[.slice A5 r.length c5, .int .i64 gs] 28))))
                  have hA5 : ∀ b off q, A5 = some ⟨b, off, q⟩ → some b ≠ (Value.slice A6 S.length c6).ownBlock := fun b off q e e2 => by
                    have q1 := HNEW5.out b off q e
                    have q2 := (HOWN.out.lt b e2.symm).2
                    omega
                  have HA5 := hid hA5
                  have HIF := hid hif7
                  have HG7 := hid hg7
                  have HOWN9 := hid hown7
                  clear hown7 hg7 hif7 hA5
                  go_roundw
                  case rel =>
                    have HB11 := (HB10.out.alloc (by omega) (.cells #[.slice A5 r.length c5, .int .i64 gs] 28)).grown HG7.out (by simp; omega) (fun g e => (HOWN8.out.lt g e).1)
                    have hsum : Summed (its L') j (its (S ++ [⟨r, A5, c5, gs⟩])) := by
                      have := HSS.out
                      rw [if_neg HZ.out, ← HJ.out] at this
                      show Summed (its L') j ((S ++ [(⟨r, A5, c5, gs⟩ : IR)]).map IR.it)
                      rw [List.map_append]
                      exact this
                    have hr9 := (HROW9.out.grown_ne (Nat.le_refl _) HG7.out HA5.out).more HG7.out.size
                    refine ⟨j, S ++ [⟨r, A5, c5, gs⟩], hn, rfl, by simp; omega, hid hsum, ?_, hid ?_, hid HB11⟩
                    · rw [rcells_snoc, List.length_append]
                      exact HOWN9
                    · refine RowsNew.snoc HNEW9.out (x := (⟨r, A5, c5, gs⟩ : IR)) hr9 (newAt_le HNEW5.out hs3) (fun b off q e => ?_) hrl2
                      have hlt9 := HIN5.out b off q e
                      have hsz7 := HG7.out.size
                      simp at hsz7
                      refine ⟨?_, by omega⟩
                      rcases HIF.out with h | h
                      · rw [h]; exact HA5.out b off q e
                      · rw [h]; intro e2; injection e2 with e2; simp at e2; omega
                  case measure => have := HJ.out; simp [intOf]; omega
              · have hlt3 : j < L'.length := by
                  rcases Nat.lt_or_ge j L'.length with h | h
                  · exact h
                  · have := HOK.out; rw [dif_neg (by omega)] at this; cases this
                have hlt2 : j < L.length := by have := HLN.out; omega
                have hrow : L'[j].row = r := by
                  have := HOK.out
                  rw [dif_pos hlt3] at this
                  exact cmpL_eq _ _ (by simpa using this.symm)
                obtain ⟨b', off', hA, hb', h0, h1⟩ := (HRX.out.step HB10.out).it hlt3
                injection hA with hA
                injection hA with hA1 hA2
                subst hA1 hA2
                have HGR : Hid (InGroup (its L') i (j + 1) r) := hid (fun k hk h1 h2 => by
                  by_cases e : k = j
                  · subst e; rw [HEQ.out k hlt3]; exact hrow
                  · exact HG.out k hk h1 (by omega))
                have HGA : Hid (grpSum (its L') i (n + 1) = IntKind.i64.wrap (grpSum (its L') i n + L'[j].n)) := hid (by
                  have := HJ.out
                  subst this
                  exact grp_at hlt3)
                clear hrow HOK
                obtain ⟨gs, hgs⟩ : ∃ gs, gs = grpSum (its L') i n := ⟨_, rfl⟩
                rw [← hgs] at HXB8 HGA
                clear hgs
                generalize L'[j].row = xr at *
                generalize L'[j].A = xA at *
                generalize L'[j].k = xk at *
                generalize L'[j].n = xn at *
                obtain ⟨cx, fx, sx, nx⟩ := HXB8.out.all
                have hne : (w3.heap.size = b) = False := by simp; omega
                have hne' : (b = w3.heap.size) = False := by simp; omega
                have hb3 : b < wj.heap.size := by omega
                go_wp2_with fail
                -- STOP-g
                go_big_region
                go_wp2
                go_roundw
                case rel =>
                  refine ⟨n + 1, by have := HJ.out; omega, by have := HJ.out; go_num, hid (by have := HGR.out; rwa [HJ.out] at this), hid ?_, hid (HB9.out.setCell (p := ⟨w3.heap.size, 1, none⟩) (Nat.le_refl _) _).drew⟩
                  rw [HGA.out, IntWalk.i64_left]
                  exact (HXB8.out.set 1 _).drew
                case measure => have := HJ.out; simp [intOf]; omega
        · have hli : i = (its L').length := by rw [its_len, HLN.out]; omega
          have HF := hid (HFIN.out (its S) (by rw [← hli]; exact HSM.out))
          clear hli
          go_wp2
          go_ret
          exact ⟨A6, c6, S, rfl, by rw [← HLL.out]; exact HF.out, own_baseS HOWN.out hs2, fun x hx => by
            obtain ⟨q1, q2, q3, q4⟩ := HNEW.out x hx
            exact ⟨q1, newAt_le q2 hs2, q3, q4⟩, HB2.out.trans (HB.out.mono hs2)⟩
end Go.Proofs.Ytmcdaibdpeeefaa
/- slices.IndexFunc, ContainsFunc at Item; zset.Done. -/
namespace Go.Proofs.Ytmcdaibdpeeefaa
set_option linter.unusedVariables false
set_option linter.unusedSimpArgs false
open Go.ChangeShapes Go.WideShapes Go.ChangeAt Go.RowKit
/-- What is asked of a function value: handed an element of the list, in whatever later world, it answers p, and leaves what was there. -/
def PredIt (g : Nat) (caps : Array Value) (p : IR → Bool) (L : List IR) (w : World) : Prop :=
  ∀ w', Below w.heap.size w w' → ∀ x ∈ L, Calls Try.prog g (#[.agg x.cells.toArray] ++ caps) w' fun e w'' => e = .returned (.bool (p x)) ∧ Below w'.heap.size w' w''
set_option maxHeartbeats 400000 in
set_option maxRecDepth 100000 in
theorem indexIt_any (g : Nat) (caps : Array Value) (p : IR → Bool) (L : List IR) (A : Option Addr) (c : Nat) (w : World) (hr : Row w w.heap.size A (rcells L)) (hl : L.length ≤ 9223372036854775807)
    (eg : ∀ args w, (callFunc g args).run Try.prog w = .ok (.enter g args) w) (hp : PredIt g caps p L w) :
    Calls Try.prog 56 #[.slice A L.length c, .func (.func g) #[] caps] w (FoundAt (L.any p = true) w) := by
  have HR := hid hr
  clear hr
  go_enter Try.func56, Try.ntmps56
  go_wp2
  go_loopw [8] (fun i wr => (∃ k : Nat, k ≤ L.length ∧ i = .int .i64 k ∧ ∀ j (h : j < L.length), j < k → p L[j] = false) ∧ Below w.heap.size w wr) (fun i _ => L.length - (intOf i).toNat)
  case atStart => exact ⟨⟨0, by omega, rfl, fun j _ h => absurd h (by omega)⟩, Below.refl _ _⟩
  case round =>
    obtain ⟨⟨k, hk, rfl, hno⟩, hbw⟩ := hrel
    by_cases hlt : k < L.length
    · obtain ⟨b, off, rfl, hb, h0, h1⟩ := (HR.out.below hbw (Nat.le_refl _)).it hlt
      have hc := hp wr hbw L[k] (List.getElem_mem _)
      have HN := hid hno
      have HB := hid hbw
      have HC := hid hc
      clear hno hbw hc
      generalize hd : L[k] = d at *
      obtain ⟨xr, xA, xk, xn⟩ := d
      have HD := hid hd
      clear hd
      (try simp only [IR.cells] at h0 h1 HC)
      obtain ⟨pd, hpd⟩ : ∃ b, b = p ⟨xr, xA, xk, xn⟩ := ⟨_, rfl⟩
      rw [← hpd] at HC
      have HP := hid hpd
      clear hpd
      cases pd
      all_goals
        go_wp2_with (refine (HC.out).mono ?_; rintro e w1 ⟨rfl, hb1⟩)
      · go_roundw
        case rel =>
          refine ⟨⟨k + 1, by omega, by go_num, fun j h hj => ?_⟩, HB.out.trans (hb1.mono HB.out.size)⟩
          by_cases e : j = k
          · subst e; rw [HD.out]; exact HP.out.symm
          · exact HN.out j h (by omega)
        case measure => simp [intOf]; omega
      · go_ret
        refine ⟨k, rfl, iff_of_true (by omega) (List.any_eq_true.2 ⟨L[k], List.getElem_mem _, by rw [HD.out]; exact HP.out.symm⟩), HB.out.trans (hb1.mono HB.out.size)⟩
    · go_wp2
      go_ret
      refine ⟨-1, rfl, iff_of_false (by omega) ?_, hbw⟩
      intro hm
      obtain ⟨d, hd, e⟩ := List.any_eq_true.1 hm
      obtain ⟨j, hj, rfl⟩ := List.getElem_of_mem hd
      rw [hno j hj (by omega)] at e
      cases e
theorem containsIt_any (g : Nat) (caps : Array Value) (p : IR → Bool) (L : List IR) (A : Option Addr) (c : Nat) (w : World) (hr : Row w w.heap.size A (rcells L)) (hl : L.length ≤ 9223372036854775807)
    (eg : ∀ args w, (callFunc g args).run Try.prog w = .ok (.enter g args) w) (hp : PredIt g caps p L w) :
    Calls Try.prog 31 #[.slice A L.length c, .func (.func g) #[] caps] w fun e w' => e = .returned (.bool (L.any p)) ∧ Below w.heap.size w w' := by
  have H := indexIt_any g caps p L A c w hr hl eg hp
  have HR := hid hr
  have HP := hid hp
  clear hr eg hp
  go_enter Try.func31, Try.ntmps31
  go_wp2_with (go_at_call 56; refine H.mono ?_; rintro e w' ⟨i, rfl, hi, hb⟩)
  go_ret
  refine ⟨ret_bool ?_, hb⟩
  first
    | (rw [Bool.eq_iff_iff, decide_eq_true_eq]; exact hi)
    | (rw [Bool.eq_iff_iff, decide_eq_true_eq, List.any_eq_true])

set_option maxHeartbeats 400000 in
set_option maxRecDepth 100000 in
theorem done1_any (x : IR) (w : World) (hr : Row w w.heap.size x.A (icells' x.row)) (hl : x.row.length ≤ 9223372036854775807) :
    Calls Try.prog 58 #[.agg x.cells.toArray] w fun e w' => e = .returned (.bool (badB x.it)) ∧ Below w.heap.size w w' := by
  obtain ⟨xr, xA, xk, xn⟩ := x
  simp only [IR.cells, IR.it] at hr hl ⊢
  have HC := hid (fun w1 (hb : Below w.heap.size w w1) => row_any xr xA xk w1 (hr.step hb) hl)
  have HF := hid (fun w1 => far_any xn w1)
  clear hr
  have HX := hid (show badB (xr, xn) = (!rowB xr || farB xn) from rfl)
  obtain ⟨R, hR⟩ : ∃ R, R = badB (xr, xn) := ⟨_, rfl⟩
  rw [← hR] at HX ⊢
  clear hR
  obtain ⟨rb, hrb⟩ : ∃ b, b = rowB xr := ⟨_, rfl⟩
  rw [← hrb] at HC HX
  clear hrb
  obtain ⟨fb, hfb⟩ : ∃ b, b = farB xn := ⟨_, rfl⟩
  rw [← hfb] at HF HX
  clear hfb
  cases rb
  all_goals
    go_enter Try.func58, Try.ntmps58
    go_wp2_with fail
    refine (HC.out _ (by (repeat' (first | (with_reducible exact Below.refl _ _) | (with_reducible assumption) | (with_reducible refine below_drewN ?_ _) | (with_reducible refine Below.drew ?_) | (with_reducible refine Below.alloc ?_ ?_ _) | (with_reducible refine Below.setCell ?_ ?_ _) | (refine Below.trans ?_ (Below.mono (by assumption) ?_)) | go_size)))).mono ?_
    rintro e w1 ⟨rfl, hb1⟩
    have hB1 : Below w.heap.size w w1 := (by refine Below.step' ?_ hb1; (repeat' (first | (with_reducible exact Below.refl _ _) | (with_reducible assumption) | (with_reducible refine below_drewN ?_ _) | (with_reducible refine Below.drew ?_) | (with_reducible refine Below.alloc ?_ ?_ _) | (with_reducible refine Below.setCell ?_ ?_ _) | (refine Below.trans ?_ (Below.mono (by assumption) ?_)) | go_size)))
    have HX1 := hid (Blk.step (Blk.new w #[.slice xA xr.length xk, .int .i64 xn] 28) hb1)
    clear hb1
    obtain ⟨cx, fx, sx, nx⟩ := HX1.out.all
    go_wp2_with (go_at_call 34; refine (HF.out _).mono ?_; rintro e w' ⟨rfl, rfl⟩)
    go_ret
    exact ⟨ret_bool (by rw [HX.out]; rfl), hB1⟩
theorem enters_done1 : ∀ args w, (callFunc 58 args).run Try.prog w = .ok (.enter 58 args) w := enters_of Try.func58 (by kernel_rfl) rfl

set_option maxHeartbeats 400000 in
set_option maxRecDepth 100000 in
theorem norm1_any (x : IR) (w : World) (hr : Row w w.heap.size x.A (icells' x.row)) (hl : x.row.length ≤ 9223372036854775807) :
    Calls Try.prog 32 #[.agg x.cells.toArray] w fun e w' => e = .returned (.bool (badB x.it)) ∧ Below w.heap.size w w' := by
  obtain ⟨xr, xA, xk, xn⟩ := x
  simp only [IR.cells, IR.it] at hr hl ⊢
  have HC := hid (fun w1 (hb : Below w.heap.size w w1) => row_any xr xA xk w1 (hr.step hb) hl)
  have HF := hid (fun w1 => far_any xn w1)
  clear hr
  have HX := hid (show badB (xr, xn) = (!rowB xr || farB xn) from rfl)
  obtain ⟨R, hR⟩ : ∃ R, R = badB (xr, xn) := ⟨_, rfl⟩
  rw [← hR] at HX ⊢
  clear hR
  obtain ⟨rb, hrb⟩ : ∃ b, b = rowB xr := ⟨_, rfl⟩
  rw [← hrb] at HC HX
  clear hrb
  obtain ⟨fb, hfb⟩ : ∃ b, b = farB xn := ⟨_, rfl⟩
  rw [← hfb] at HF HX
  clear hfb
  cases rb
  all_goals
    go_enter Try.func32, Try.ntmps32
    go_wp2_with fail
    refine (HC.out _ (by (repeat' (first | (with_reducible exact Below.refl _ _) | (with_reducible assumption) | (with_reducible refine below_drewN ?_ _) | (with_reducible refine Below.drew ?_) | (with_reducible refine Below.alloc ?_ ?_ _) | (with_reducible refine Below.setCell ?_ ?_ _) | (refine Below.trans ?_ (Below.mono (by assumption) ?_)) | go_size)))).mono ?_
    rintro e w1 ⟨rfl, hb1⟩
    have hB1 : Below w.heap.size w w1 := (by refine Below.step' ?_ hb1; (repeat' (first | (with_reducible exact Below.refl _ _) | (with_reducible assumption) | (with_reducible refine below_drewN ?_ _) | (with_reducible refine Below.drew ?_) | (with_reducible refine Below.alloc ?_ ?_ _) | (with_reducible refine Below.setCell ?_ ?_ _) | (refine Below.trans ?_ (Below.mono (by assumption) ?_)) | go_size)))
    have HX1 := hid (Blk.step (Blk.new w #[.slice xA xr.length xk, .int .i64 xn] 28) hb1)
    clear hb1
    obtain ⟨cx, fx, sx, nx⟩ := HX1.out.all
    go_wp2_with (go_at_call 34; refine (HF.out _).mono ?_; rintro e w' ⟨rfl, rfl⟩)
    go_ret
    exact ⟨ret_bool (by rw [HX.out]; rfl), hB1⟩
theorem enters_norm1 : ∀ args w, (callFunc 32 args).run Try.prog w = .ok (.enter 32 args) w := enters_of Try.func32 (by kernel_rfl) rfl

theorem any_its (M : List IR) : M.any (fun x => badB x.it) = (its M).any badB := by rw [its, List.any_map]; rfl

def DonePost (D : Int) (v : Value) (w : World) (e : Ending) (w' : World) : Prop := e = .returned (.tuple #[if D = 0 then v else .slice none 0 0, .int .i64 D]) ∧ Below w.heap.size w w'
set_option maxHeartbeats 400000 in
set_option maxRecDepth 100000 in
theorem done_any (M : List IR) (A : Option Addr) (k : Nat) (w : World) (hr : Row w w.heap.size A (rcells M)) (hrow : RowsAt w w.heap.size M) (hl : M.length ≤ 9223372036854775807) :
    Calls Try.prog 35 #[.slice A M.length k] w (DonePost (doneE (its M)) (.slice A M.length k) w) := by
  have HC := hid (containsIt_any 58 #[] (fun x => badB x.it) M A k w hr hl enters_done1 (fun w' hb x hx => done1_any x w' ((hrow.step hb) x hx).1 (hrow x hx).2))
  clear hr hrow
  have HE := hid (show doneE (its M) = if (its M).any badB = true then 5 else if 400 < (its M).length then 2 else 0 from rfl)
  rw [any_its] at HC
  rw [its_len] at HE
  obtain ⟨D, hD⟩ : ∃ D, D = doneE (its M) := ⟨_, rfl⟩
  rw [← hD] at HE ⊢
  clear hD
  obtain ⟨B, hB⟩ : ∃ B, B = (its M).any badB := ⟨_, rfl⟩
  rw [← hB] at HC HE
  clear hB
  cases B
  · by_cases h4 : 400 < M.length
    · have h4' : (400 : Int) < (M.length : Int) := by omega
      have HD : Hid (D = 2) := hid (by rw [HE.out, if_neg (by simp), if_pos h4])
      go_enter Try.func35, Try.ntmps35
      go_wp2_with (go_at_call 31; refine HC.out.mono ?_; rintro e w' ⟨rfl, hb⟩)
      go_ret2
      exact ⟨by rw [HD.out, if_neg (by decide)]; rfl, hb⟩
    · have h4' : (M.length : Int) ≤ 400 := by omega
      have HD : Hid (D = 0) := hid (by rw [HE.out, if_neg (by simp), if_neg h4])
      go_enter Try.func35, Try.ntmps35
      go_wp2_with (go_at_call 31; refine HC.out.mono ?_; rintro e w' ⟨rfl, hb⟩)
      go_ret2
      exact ⟨by rw [HD.out, if_pos rfl]; rfl, hb⟩
  · have HD : Hid (D = 5) := hid (by rw [HE.out, if_pos rfl])
    go_enter Try.func35, Try.ntmps35
    go_wp2_with (go_at_call 31; refine HC.out.mono ?_; rintro e w' ⟨rfl, hb⟩)
    go_ret2
    exact ⟨by rw [HD.out, if_neg (by decide)]; rfl, hb⟩
end Go.Proofs.Ytmcdaibdpeeefaa
