/- QyA -/
import Derived.Test.YtamlaeocojcgdaaDoorQueryBackCardS02
/- query.within, query.of. -/
namespace Go.Proofs.YtamlaeocojcgdaaDoor
set_option linter.unusedVariables false
set_option linter.unusedSimpArgs false
open Go.ChangeShapes Go.WideShapes Go.ChangeAt Go.RowKit

/-- A step, and where its list lies. -/
structure SR where
  st : St
  A : Option Addr
  k : Nat
instance : Inhabited SR := ⟨⟨⟨0, 0, 0, 0, 0, 0, []⟩, none, 0⟩⟩
abbrev SR.cells (x : SR) : List Value := [.int .i64 x.st.kind, .int .i64 x.st.a, .int .i64 x.st.b, .int .i64 x.st.col, .int .i64 x.st.op, .int .i64 x.st.val, .slice x.A x.st.list.length x.k]
abbrev scells (L : List SR) : List Value := L.flatMap SR.cells
abbrev sts (L : List SR) : List St := L.map SR.st
theorem SR.len (x : SR) : x.cells.length = 7 := rfl
def StepsAt (w : World) (B : Nat) (L : List SR) : Prop := ∀ x ∈ L, Row w B x.A (icells' x.st.list) ∧ x.st.list.length ≤ 9223372036854775807
/-- Steps in memory. -/
def RowS (w : World) (B : Nat) (A : Option Addr) (L : List SR) : Prop := Row w B A (scells L) ∧ StepsAt w B L
theorem StepsAt.step {w w' : World} {L : List SR} (h : StepsAt w w.heap.size L) (hb : Below w.heap.size w w') : StepsAt w' w'.heap.size L := fun x hx => ⟨(h x hx).1.step hb, (h x hx).2⟩
theorem RowS.step {w w' : World} {A : Option Addr} {L : List SR} (h : RowS w w.heap.size A L) (hb : Below w.heap.size w w') : RowS w' w'.heap.size A L := ⟨h.1.step hb, h.2.step hb⟩
theorem Row.sr {w : World} {B : Nat} {A : Option Addr} {L : List SR} (h : Row w B A (scells L)) {k : Nat} (hk : k < L.length) :
    ∃ b off, A = some ⟨b, off, none⟩ ∧ b < B ∧ w.cell? ⟨b, off + k * 7, none⟩ = some (.int .i64 L[k].st.kind) ∧ w.cell? ⟨b, off + k * 7 + 1, none⟩ = some (.int .i64 L[k].st.a) ∧ w.cell? ⟨b, off + k * 7 + 2, none⟩ = some (.int .i64 L[k].st.b) ∧
      w.cell? ⟨b, off + k * 7 + 3, none⟩ = some (.int .i64 L[k].st.col) ∧ w.cell? ⟨b, off + k * 7 + 4, none⟩ = some (.int .i64 L[k].st.op) ∧ w.cell? ⟨b, off + k * 7 + 5, none⟩ = some (.int .i64 L[k].st.val) ∧ w.cell? ⟨b, off + k * 7 + 6, none⟩ = some (.slice L[k].A L[k].st.list.length L[k].k) := by
  obtain ⟨b, off, h1, h2, h3⟩ := Row.flat SR.len h (by omega) hk
  exact ⟨b, off, h1, h2, h3 0 _ rfl, h3 1 _ rfl, h3 2 _ rfl, h3 3 _ rfl, h3 4 _ rfl, h3 5 _ rfl, h3 6 _ rfl⟩

theorem qwithin_any (n lo hi : Int) (w : World) :
    Calls Tryd.prog 43 #[.int .i64 n, .int .i64 lo, .int .i64 hi] w fun e w' => e = .returned (.bool (wiB n lo hi)) ∧ w = w' := by
  obtain ⟨R, hR⟩ : ∃ R, R = wiB n lo hi := ⟨_, rfl⟩
  rw [← hR]
  have HR := hid hR
  clear hR
  by_cases h1 : lo ≤ n
  · go_enter Tryd.func43, Tryd.ntmps43
    go_wp2
    go_ret
    exact ⟨ret_bool (by rw [HR.out]; unfold wiB; rw [decide_eq_true h1]; rfl), rfl⟩
  · have h2 : (lo ≤ n) = False := eq_false h1
    go_enter Tryd.func43, Tryd.ntmps43
    go_wp2
    go_ret
    exact ⟨ret_bool (by rw [HR.out]; unfold wiB; rw [decide_eq_false (by omega)]; rfl), rfl⟩
theorem of1_any (n a : Int) (ha : 0 ≤ a ∧ a ≤ 8) (b : Nat) (w : World) (hc : Caught w ⟨b, 0, none⟩ (.int .i64 a)) :
    Calls Tryd.prog 58 #[.int .i64 n, .pointer (some ⟨b, 0, none⟩)] w fun e w' => e = .returned (.bool (!wiB n 0 (a - 1))) ∧ w = w' := by
  obtain ⟨h0, hlt⟩ := hc
  have hw : IntKind.i64.wrap (a - 1) = a - 1 := IntWalk.i64_in _ (by omega)
  go_enter Tryd.func58, Tryd.ntmps58
  go_wp2_with (go_at_call 43; refine (qwithin_any _ _ _ _).mono ?_; rintro e w' ⟨rfl, rfl⟩)
  go_ret
  exact ⟨rfl, rfl⟩
theorem enters_of1 : ∀ args w, (callFunc 58 args).run Tryd.prog w = .ok (.enter 58 args) w := enters_of Tryd.func58 (by kernel_rfl) rfl


set_option maxHeartbeats 1000000 in
set_option maxRecDepth 100000 in
theorem of_k2 (sa sb sc so sv : Int) (sl : List Int) (sA : Option Addr) (sK : Nat) (a b : Int) (w : World) (ha : 0 ≤ a ∧ a ≤ 8) (hb : 0 ≤ b ∧ b ≤ 8) (hl : Row w w.heap.size sA (icells' sl)) (hll : sl.length ≤ 9223372036854775807) :
    Calls Tryd.prog 44 #[.agg #[.int .i64 2, .int .i64 sa, .int .i64 sb, .int .i64 sc, .int .i64 so, .int .i64 sv, .slice sA sl.length sK], .int .i64 a, .int .i64 b] w fun e w' => e = .returned (.int .i64 (ofW ⟨2, sa, sb, sc, so, sv, sl⟩ a b)) ∧ Below w.heap.size w w' := by
  obtain ⟨R, hR⟩ : ∃ R, R = ofW ⟨2, sa, sb, sc, so, sv, sl⟩ a b := ⟨_, rfl⟩
  rw [← hR]
  have HR := hid hR
  clear hR
  have hw1 : IntKind.i64.wrap (a - 1) = a - 1 := IntWalk.i64_in _ (by omega)
  have hw2 : IntKind.i64.wrap (b - 1) = b - 1 := IntWalk.i64_in _ (by omega)
  have hw3 : IntKind.i64.wrap (a + b) = a + b := IntWalk.i64_in _ (by omega)
  cases hz1 : (sc == 0)
  · cases hc : wiB sc 0 (a - 1)
    · go_enter Tryd.func44, Tryd.ntmps44
      go_wp2_with (go_at_call 43; refine (qwithin_any _ _ _ _).mono ?_; rintro e w' ⟨rfl, rfl⟩)
      go_ret
      exact ⟨ret_int (by rw [HR.out]; simp [ofW, noneB, hz1, hc]), by (repeat' (first | (with_reducible exact Below.refl _ _) | (with_reducible assumption) | (with_reducible refine below_drewN ?_ _) | (with_reducible refine Below.drew ?_) | (with_reducible refine Below.alloc ?_ ?_ _) | (with_reducible refine Below.setCell ?_ ?_ _) | (refine Below.trans ?_ (Below.mono (by assumption) ?_)) | go_size))⟩
    · cases ho3 : wiB so 1 3
      · go_enter Tryd.func44, Tryd.ntmps44
        go_wp2_with (go_at_call 43; refine (qwithin_any _ _ _ _).mono ?_; rintro e w' ⟨rfl, rfl⟩)
        go_ret
        exact ⟨ret_int (by rw [HR.out]; simp [ofW, noneB, hz1, hc, ho3]), by (repeat' (first | (with_reducible exact Below.refl _ _) | (with_reducible assumption) | (with_reducible refine below_drewN ?_ _) | (with_reducible refine Below.drew ?_) | (with_reducible refine Below.alloc ?_ ?_ _) | (with_reducible refine Below.setCell ?_ ?_ _) | (refine Below.trans ?_ (Below.mono (by assumption) ?_)) | go_size))⟩
      · cases hv : wiB sv (-1073741824) 1073741824
        · go_enter Tryd.func44, Tryd.ntmps44
          go_wp2_with (go_at_call 43; refine (qwithin_any _ _ _ _).mono ?_; rintro e w' ⟨rfl, rfl⟩)
          go_ret
          exact ⟨ret_int (by rw [HR.out]; simp [ofW, noneB, hz1, hc, ho3, hv]), by (repeat' (first | (with_reducible exact Below.refl _ _) | (with_reducible assumption) | (with_reducible refine below_drewN ?_ _) | (with_reducible refine Below.drew ?_) | (with_reducible refine Below.alloc ?_ ?_ _) | (with_reducible refine Below.setCell ?_ ?_ _) | (refine Below.trans ?_ (Below.mono (by assumption) ?_)) | go_size))⟩
        · go_enter Tryd.func44, Tryd.ntmps44
          go_wp2_with (go_at_call 43; refine (qwithin_any _ _ _ _).mono ?_; rintro e w' ⟨rfl, rfl⟩)
          go_ret
          exact ⟨ret_int (by rw [HR.out]; simp [ofW, noneB, hz1, hc, ho3, hv]), by (repeat' (first | (with_reducible exact Below.refl _ _) | (with_reducible assumption) | (with_reducible refine below_drewN ?_ _) | (with_reducible refine Below.drew ?_) | (with_reducible refine Below.alloc ?_ ?_ _) | (with_reducible refine Below.setCell ?_ ?_ _) | (refine Below.trans ?_ (Below.mono (by assumption) ?_)) | go_size))⟩
  · cases hz2 : (so == 0)
    · cases hc : wiB sc 0 (a - 1)
      · go_enter Tryd.func44, Tryd.ntmps44
        go_wp2_with (go_at_call 43; refine (qwithin_any _ _ _ _).mono ?_; rintro e w' ⟨rfl, rfl⟩)
        go_ret
        exact ⟨ret_int (by rw [HR.out]; simp [ofW, noneB, hz1, hz2, hc]), by (repeat' (first | (with_reducible exact Below.refl _ _) | (with_reducible assumption) | (with_reducible refine below_drewN ?_ _) | (with_reducible refine Below.drew ?_) | (with_reducible refine Below.alloc ?_ ?_ _) | (with_reducible refine Below.setCell ?_ ?_ _) | (refine Below.trans ?_ (Below.mono (by assumption) ?_)) | go_size))⟩
      · cases ho3 : wiB so 1 3
        · go_enter Tryd.func44, Tryd.ntmps44
          go_wp2_with (go_at_call 43; refine (qwithin_any _ _ _ _).mono ?_; rintro e w' ⟨rfl, rfl⟩)
          go_ret
          exact ⟨ret_int (by rw [HR.out]; simp [ofW, noneB, hz1, hz2, hc, ho3]), by (repeat' (first | (with_reducible exact Below.refl _ _) | (with_reducible assumption) | (with_reducible refine below_drewN ?_ _) | (with_reducible refine Below.drew ?_) | (with_reducible refine Below.alloc ?_ ?_ _) | (with_reducible refine Below.setCell ?_ ?_ _) | (refine Below.trans ?_ (Below.mono (by assumption) ?_)) | go_size))⟩
        · cases hv : wiB sv (-1073741824) 1073741824
          · go_enter Tryd.func44, Tryd.ntmps44
            go_wp2_with (go_at_call 43; refine (qwithin_any _ _ _ _).mono ?_; rintro e w' ⟨rfl, rfl⟩)
            go_ret
            exact ⟨ret_int (by rw [HR.out]; simp [ofW, noneB, hz1, hz2, hc, ho3, hv]), by (repeat' (first | (with_reducible exact Below.refl _ _) | (with_reducible assumption) | (with_reducible refine below_drewN ?_ _) | (with_reducible refine Below.drew ?_) | (with_reducible refine Below.alloc ?_ ?_ _) | (with_reducible refine Below.setCell ?_ ?_ _) | (refine Below.trans ?_ (Below.mono (by assumption) ?_)) | go_size))⟩
          · go_enter Tryd.func44, Tryd.ntmps44
            go_wp2_with (go_at_call 43; refine (qwithin_any _ _ _ _).mono ?_; rintro e w' ⟨rfl, rfl⟩)
            go_ret
            exact ⟨ret_int (by rw [HR.out]; simp [ofW, noneB, hz1, hz2, hc, ho3, hv]), by (repeat' (first | (with_reducible exact Below.refl _ _) | (with_reducible assumption) | (with_reducible refine below_drewN ?_ _) | (with_reducible refine Below.drew ?_) | (with_reducible refine Below.alloc ?_ ?_ _) | (with_reducible refine Below.setCell ?_ ?_ _) | (refine Below.trans ?_ (Below.mono (by assumption) ?_)) | go_size))⟩
    · cases hz3 : (sv == 0)
      · cases hc : wiB sc 0 (a - 1)
        · go_enter Tryd.func44, Tryd.ntmps44
          go_wp2_with (go_at_call 43; refine (qwithin_any _ _ _ _).mono ?_; rintro e w' ⟨rfl, rfl⟩)
          go_ret
          exact ⟨ret_int (by rw [HR.out]; simp [ofW, noneB, hz1, hz2, hz3, hc]), by (repeat' (first | (with_reducible exact Below.refl _ _) | (with_reducible assumption) | (with_reducible refine below_drewN ?_ _) | (with_reducible refine Below.drew ?_) | (with_reducible refine Below.alloc ?_ ?_ _) | (with_reducible refine Below.setCell ?_ ?_ _) | (refine Below.trans ?_ (Below.mono (by assumption) ?_)) | go_size))⟩
        · cases ho3 : wiB so 1 3
          · go_enter Tryd.func44, Tryd.ntmps44
            go_wp2_with (go_at_call 43; refine (qwithin_any _ _ _ _).mono ?_; rintro e w' ⟨rfl, rfl⟩)
            go_ret
            exact ⟨ret_int (by rw [HR.out]; simp [ofW, noneB, hz1, hz2, hz3, hc, ho3]), by (repeat' (first | (with_reducible exact Below.refl _ _) | (with_reducible assumption) | (with_reducible refine below_drewN ?_ _) | (with_reducible refine Below.drew ?_) | (with_reducible refine Below.alloc ?_ ?_ _) | (with_reducible refine Below.setCell ?_ ?_ _) | (refine Below.trans ?_ (Below.mono (by assumption) ?_)) | go_size))⟩
          · cases hv : wiB sv (-1073741824) 1073741824
            · go_enter Tryd.func44, Tryd.ntmps44
              go_wp2_with (go_at_call 43; refine (qwithin_any _ _ _ _).mono ?_; rintro e w' ⟨rfl, rfl⟩)
              go_ret
              exact ⟨ret_int (by rw [HR.out]; simp [ofW, noneB, hz1, hz2, hz3, hc, ho3, hv]), by (repeat' (first | (with_reducible exact Below.refl _ _) | (with_reducible assumption) | (with_reducible refine below_drewN ?_ _) | (with_reducible refine Below.drew ?_) | (with_reducible refine Below.alloc ?_ ?_ _) | (with_reducible refine Below.setCell ?_ ?_ _) | (refine Below.trans ?_ (Below.mono (by assumption) ?_)) | go_size))⟩
            · go_enter Tryd.func44, Tryd.ntmps44
              go_wp2_with (go_at_call 43; refine (qwithin_any _ _ _ _).mono ?_; rintro e w' ⟨rfl, rfl⟩)
              go_ret
              exact ⟨ret_int (by rw [HR.out]; simp [ofW, noneB, hz1, hz2, hz3, hc, ho3, hv]), by (repeat' (first | (with_reducible exact Below.refl _ _) | (with_reducible assumption) | (with_reducible refine below_drewN ?_ _) | (with_reducible refine Below.drew ?_) | (with_reducible refine Below.alloc ?_ ?_ _) | (with_reducible refine Below.setCell ?_ ?_ _) | (refine Below.trans ?_ (Below.mono (by assumption) ?_)) | go_size))⟩
      · cases hc : wiB sc 0 (a - 1)
        · go_enter Tryd.func44, Tryd.ntmps44
          go_wp2_with (go_at_call 43; refine (qwithin_any _ _ _ _).mono ?_; rintro e w' ⟨rfl, rfl⟩)
          go_ret
          exact ⟨ret_int (by rw [HR.out]; simp [ofW, noneB, hz1, hz2, hz3, hc]), by (repeat' (first | (with_reducible exact Below.refl _ _) | (with_reducible assumption) | (with_reducible refine below_drewN ?_ _) | (with_reducible refine Below.drew ?_) | (with_reducible refine Below.alloc ?_ ?_ _) | (with_reducible refine Below.setCell ?_ ?_ _) | (refine Below.trans ?_ (Below.mono (by assumption) ?_)) | go_size))⟩
        · cases ho3 : wiB so 1 3
          · go_enter Tryd.func44, Tryd.ntmps44
            go_wp2_with (go_at_call 43; refine (qwithin_any _ _ _ _).mono ?_; rintro e w' ⟨rfl, rfl⟩)
            go_ret
            exact ⟨ret_int (by rw [HR.out]; simp [ofW, noneB, hz1, hz2, hz3, hc, ho3]), by (repeat' (first | (with_reducible exact Below.refl _ _) | (with_reducible assumption) | (with_reducible refine below_drewN ?_ _) | (with_reducible refine Below.drew ?_) | (with_reducible refine Below.alloc ?_ ?_ _) | (with_reducible refine Below.setCell ?_ ?_ _) | (refine Below.trans ?_ (Below.mono (by assumption) ?_)) | go_size))⟩
          · cases hv : wiB sv (-1073741824) 1073741824
            · go_enter Tryd.func44, Tryd.ntmps44
              go_wp2_with (go_at_call 43; refine (qwithin_any _ _ _ _).mono ?_; rintro e w' ⟨rfl, rfl⟩)
              go_ret
              exact ⟨ret_int (by rw [HR.out]; simp [ofW, noneB, hz1, hz2, hz3, hc, ho3, hv]), by (repeat' (first | (with_reducible exact Below.refl _ _) | (with_reducible assumption) | (with_reducible refine below_drewN ?_ _) | (with_reducible refine Below.drew ?_) | (with_reducible refine Below.alloc ?_ ?_ _) | (with_reducible refine Below.setCell ?_ ?_ _) | (refine Below.trans ?_ (Below.mono (by assumption) ?_)) | go_size))⟩
            · go_enter Tryd.func44, Tryd.ntmps44
              go_wp2_with (go_at_call 43; refine (qwithin_any _ _ _ _).mono ?_; rintro e w' ⟨rfl, rfl⟩)
              go_ret
              exact ⟨ret_int (by rw [HR.out]; simp [ofW, noneB, hz1, hz2, hz3, hc, ho3, hv]), by (repeat' (first | (with_reducible exact Below.refl _ _) | (with_reducible assumption) | (with_reducible refine below_drewN ?_ _) | (with_reducible refine Below.drew ?_) | (with_reducible refine Below.alloc ?_ ?_ _) | (with_reducible refine Below.setCell ?_ ?_ _) | (refine Below.trans ?_ (Below.mono (by assumption) ?_)) | go_size))⟩
set_option maxHeartbeats 1000000 in
set_option maxRecDepth 100000 in
theorem of_k3 (sa sb sc so sv : Int) (sl : List Int) (sA : Option Addr) (sK : Nat) (a b : Int) (w : World) (ha : 0 ≤ a ∧ a ≤ 8) (hb : 0 ≤ b ∧ b ≤ 8) (hl : Row w w.heap.size sA (icells' sl)) (hll : sl.length ≤ 9223372036854775807) :
    Calls Tryd.prog 44 #[.agg #[.int .i64 3, .int .i64 sa, .int .i64 sb, .int .i64 sc, .int .i64 so, .int .i64 sv, .slice sA sl.length sK], .int .i64 a, .int .i64 b] w fun e w' => e = .returned (.int .i64 (ofW ⟨3, sa, sb, sc, so, sv, sl⟩ a b)) ∧ Below w.heap.size w w' := by
  obtain ⟨R, hR⟩ : ∃ R, R = ofW ⟨3, sa, sb, sc, so, sv, sl⟩ a b := ⟨_, rfl⟩
  rw [← hR]
  have HR := hid hR
  clear hR
  have hw1 : IntKind.i64.wrap (a - 1) = a - 1 := IntWalk.i64_in _ (by omega)
  have hw2 : IntKind.i64.wrap (b - 1) = b - 1 := IntWalk.i64_in _ (by omega)
  have hw3 : IntKind.i64.wrap (a + b) = a + b := IntWalk.i64_in _ (by omega)
  have HCT : Hid (∀ w1, Below w.heap.size w w1 → Caught w1 ⟨w.heap.size + 1, 0, none⟩ (.int .i64 a) → Calls Tryd.prog 57 #[.slice sA sl.length sK, .func (.func 58) #[] #[.pointer (some ⟨w.heap.size + 1, 0, none⟩)]] w1 fun e w' => e = .returned (.bool (sl.any (fun n => !wiB n 0 (a - 1)))) ∧ Below w1.heap.size w1 w') := hid (fun w1 hbb hc => containsNt_any 58 #[.pointer (some ⟨w.heap.size + 1, 0, none⟩)] (fun n => !wiB n 0 (a - 1)) sl sA sK w1 (hl.step hbb) hll enters_of1 (fun w' hb' x hx => (of1_any x a ha (w.heap.size + 1) w' (hc.step hb')).mono fun e w2 ⟨h1, h2⟩ => ⟨h1, h2 ▸ Below.refl _ _⟩))
  clear hl
  cases hz1 : (sc == 0)
  · go_enter Tryd.func44, Tryd.ntmps44
    go_wp2_with (go_at_call 43; refine (qwithin_any _ _ _ _).mono ?_; rintro e w' ⟨rfl, rfl⟩)
    go_ret
    exact ⟨ret_int (by rw [HR.out]; simp [ofW, noneB, hz1]), by (repeat' (first | (with_reducible exact Below.refl _ _) | (with_reducible assumption) | (with_reducible refine below_drewN ?_ _) | (with_reducible refine Below.drew ?_) | (with_reducible refine Below.alloc ?_ ?_ _) | (with_reducible refine Below.setCell ?_ ?_ _) | (refine Below.trans ?_ (Below.mono (by assumption) ?_)) | go_size))⟩
  · cases hz2 : (so == 0)
    · go_enter Tryd.func44, Tryd.ntmps44
      go_wp2_with (go_at_call 43; refine (qwithin_any _ _ _ _).mono ?_; rintro e w' ⟨rfl, rfl⟩)
      go_ret
      exact ⟨ret_int (by rw [HR.out]; simp [ofW, noneB, hz1, hz2]), by (repeat' (first | (with_reducible exact Below.refl _ _) | (with_reducible assumption) | (with_reducible refine below_drewN ?_ _) | (with_reducible refine Below.drew ?_) | (with_reducible refine Below.alloc ?_ ?_ _) | (with_reducible refine Below.setCell ?_ ?_ _) | (refine Below.trans ?_ (Below.mono (by assumption) ?_)) | go_size))⟩
    · cases hz3 : (sv == 0)
      · go_enter Tryd.func44, Tryd.ntmps44
        go_wp2_with (go_at_call 43; refine (qwithin_any _ _ _ _).mono ?_; rintro e w' ⟨rfl, rfl⟩)
        go_ret
        exact ⟨ret_int (by rw [HR.out]; simp [ofW, noneB, hz1, hz2, hz3]), by (repeat' (first | (with_reducible exact Below.refl _ _) | (with_reducible assumption) | (with_reducible refine below_drewN ?_ _) | (with_reducible refine Below.drew ?_) | (with_reducible refine Below.alloc ?_ ?_ _) | (with_reducible refine Below.setCell ?_ ?_ _) | (refine Below.trans ?_ (Below.mono (by assumption) ?_)) | go_size))⟩
      · cases hl8 : decide (sl.length ≤ 8)
        · have hl8' : ((sl.length : Int) ≤ 8) = False := eq_false (by have := of_decide_eq_false hl8; omega)
          go_enter Tryd.func44, Tryd.ntmps44
          go_wp2_with (go_at_call 43; refine (qwithin_any _ _ _ _).mono ?_; rintro e w' ⟨rfl, rfl⟩)
          go_ret
          exact ⟨ret_int (by rw [HR.out]; simp [ofW, noneB, hz1, hz2, hz3, hl8]), by (repeat' (first | (with_reducible exact Below.refl _ _) | (with_reducible assumption) | (with_reducible refine below_drewN ?_ _) | (with_reducible refine Below.drew ?_) | (with_reducible refine Below.alloc ?_ ?_ _) | (with_reducible refine Below.setCell ?_ ?_ _) | (refine Below.trans ?_ (Below.mono (by assumption) ?_)) | go_size))⟩
        · have hl8' : ((sl.length : Int) ≤ 8) = True := eq_true (by have := of_decide_eq_true hl8; omega)
          cases hany : sl.any (fun n => !wiB n 0 (a - 1))
          · rw [hany] at HCT
            go_enter Tryd.func44, Tryd.ntmps44
            go_wp2_with (go_at_call 43; refine (qwithin_any _ _ _ _).mono ?_; rintro e w' ⟨rfl, rfl⟩)
            refine (HCT.out _ (by exact ((Below.refl _ _).alloc (Nat.le_refl _) _).alloc (by simp) _) ⟨by simp, by simp⟩).mono ?_
            rintro e w1 ⟨rfl, hb1⟩
            have hB1 : Below w.heap.size w w1 := (by refine Below.step' ?_ hb1; (repeat' (first | (with_reducible exact Below.refl _ _) | (with_reducible assumption) | (with_reducible refine below_drewN ?_ _) | (with_reducible refine Below.drew ?_) | (with_reducible refine Below.alloc ?_ ?_ _) | (with_reducible refine Below.setCell ?_ ?_ _) | (refine Below.trans ?_ (Below.mono (by assumption) ?_)) | go_size)))
            have hX1 : Blk w1 w.heap.size #[.int .i64 3, .int .i64 sa, .int .i64 sb, .int .i64 sc, .int .i64 so, .int .i64 sv, .slice sA sl.length sK] 40 := Blk.step ((Blk.new w _ _).alloc _) hb1
            have HXA := hid hX1
            have HB := hid hB1
            clear hb1 hX1 hB1
            obtain ⟨cHXA, fHXA, sHXA, nHXA⟩ := HXA.out.all
            try simp only [cbox] at cHXA
            go_wp2_with fail
            go_ret
            exact ⟨ret_int (by rw [HR.out]; simp [ofW, noneB, hz1, hz2, hz3, hl8, hany]), HB.out⟩
          · rw [hany] at HCT
            go_enter Tryd.func44, Tryd.ntmps44
            go_wp2_with (go_at_call 43; refine (qwithin_any _ _ _ _).mono ?_; rintro e w' ⟨rfl, rfl⟩)
            refine (HCT.out _ (by exact ((Below.refl _ _).alloc (Nat.le_refl _) _).alloc (by simp) _) ⟨by simp, by simp⟩).mono ?_
            rintro e w1 ⟨rfl, hb1⟩
            have hB1 : Below w.heap.size w w1 := (by refine Below.step' ?_ hb1; (repeat' (first | (with_reducible exact Below.refl _ _) | (with_reducible assumption) | (with_reducible refine below_drewN ?_ _) | (with_reducible refine Below.drew ?_) | (with_reducible refine Below.alloc ?_ ?_ _) | (with_reducible refine Below.setCell ?_ ?_ _) | (refine Below.trans ?_ (Below.mono (by assumption) ?_)) | go_size)))
            have hX1 : Blk w1 w.heap.size #[.int .i64 3, .int .i64 sa, .int .i64 sb, .int .i64 sc, .int .i64 so, .int .i64 sv, .slice sA sl.length sK] 40 := Blk.step ((Blk.new w _ _).alloc _) hb1
            have HXA := hid hX1
            have HB := hid hB1
            clear hb1 hX1 hB1
            obtain ⟨cHXA, fHXA, sHXA, nHXA⟩ := HXA.out.all
            try simp only [cbox] at cHXA
            go_wp2_with fail
            go_ret
            exact ⟨ret_int (by rw [HR.out]; simp [ofW, noneB, hz1, hz2, hz3, hl8, hany]), HB.out⟩
set_option maxHeartbeats 1000000 in
set_option maxRecDepth 100000 in
theorem of_k4 (sa sb sc so sv : Int) (sl : List Int) (sA : Option Addr) (sK : Nat) (a b : Int) (w : World) (ha : 0 ≤ a ∧ a ≤ 8) (hb : 0 ≤ b ∧ b ≤ 8) (hl : Row w w.heap.size sA (icells' sl)) (hll : sl.length ≤ 9223372036854775807) :
    Calls Tryd.prog 44 #[.agg #[.int .i64 4, .int .i64 sa, .int .i64 sb, .int .i64 sc, .int .i64 so, .int .i64 sv, .slice sA sl.length sK], .int .i64 a, .int .i64 b] w fun e w' => e = .returned (.int .i64 (ofW ⟨4, sa, sb, sc, so, sv, sl⟩ a b)) ∧ Below w.heap.size w w' := by
  obtain ⟨R, hR⟩ : ∃ R, R = ofW ⟨4, sa, sb, sc, so, sv, sl⟩ a b := ⟨_, rfl⟩
  rw [← hR]
  have HR := hid hR
  clear hR
  have hw1 : IntKind.i64.wrap (a - 1) = a - 1 := IntWalk.i64_in _ (by omega)
  have hw2 : IntKind.i64.wrap (b - 1) = b - 1 := IntWalk.i64_in _ (by omega)
  have hw3 : IntKind.i64.wrap (a + b) = a + b := IntWalk.i64_in _ (by omega)
  cases hz1 : (sc == 0)
  · cases hc : wiB sc 0 (a - 1)
    · go_enter Tryd.func44, Tryd.ntmps44
      go_wp2_with (go_at_call 43; refine (qwithin_any _ _ _ _).mono ?_; rintro e w' ⟨rfl, rfl⟩)
      go_ret
      exact ⟨ret_int (by rw [HR.out]; simp [ofW, noneB, hz1, hc]), by (repeat' (first | (with_reducible exact Below.refl _ _) | (with_reducible assumption) | (with_reducible refine below_drewN ?_ _) | (with_reducible refine Below.drew ?_) | (with_reducible refine Below.alloc ?_ ?_ _) | (with_reducible refine Below.setCell ?_ ?_ _) | (refine Below.trans ?_ (Below.mono (by assumption) ?_)) | go_size))⟩
    · cases hz2 : (so == 0)
      · go_enter Tryd.func44, Tryd.ntmps44
        go_wp2_with (go_at_call 43; refine (qwithin_any _ _ _ _).mono ?_; rintro e w' ⟨rfl, rfl⟩)
        go_ret
        exact ⟨ret_int (by rw [HR.out]; simp [ofW, noneB, hz1, hc, hz2]), by (repeat' (first | (with_reducible exact Below.refl _ _) | (with_reducible assumption) | (with_reducible refine below_drewN ?_ _) | (with_reducible refine Below.drew ?_) | (with_reducible refine Below.alloc ?_ ?_ _) | (with_reducible refine Below.setCell ?_ ?_ _) | (refine Below.trans ?_ (Below.mono (by assumption) ?_)) | go_size))⟩
      · cases hvb : wiB sv 0 (b - 1)
        · go_enter Tryd.func44, Tryd.ntmps44
          go_wp2_with (go_at_call 43; refine (qwithin_any _ _ _ _).mono ?_; rintro e w' ⟨rfl, rfl⟩)
          go_ret
          exact ⟨ret_int (by rw [HR.out]; simp [ofW, noneB, hz1, hc, hz2, hvb]), by (repeat' (first | (with_reducible exact Below.refl _ _) | (with_reducible assumption) | (with_reducible refine below_drewN ?_ _) | (with_reducible refine Below.drew ?_) | (with_reducible refine Below.alloc ?_ ?_ _) | (with_reducible refine Below.setCell ?_ ?_ _) | (refine Below.trans ?_ (Below.mono (by assumption) ?_)) | go_size))⟩
        · cases hs8 : decide (a + b ≤ 8)
          · have hs8' : (a + b ≤ 8) = False := eq_false (by simpa using hs8)
            go_enter Tryd.func44, Tryd.ntmps44
            go_wp2_with (go_at_call 43; refine (qwithin_any _ _ _ _).mono ?_; rintro e w' ⟨rfl, rfl⟩)
            go_ret
            exact ⟨ret_int (by rw [HR.out]; simp [ofW, noneB, hz1, hc, hz2, hvb, hs8]), by (repeat' (first | (with_reducible exact Below.refl _ _) | (with_reducible assumption) | (with_reducible refine below_drewN ?_ _) | (with_reducible refine Below.drew ?_) | (with_reducible refine Below.alloc ?_ ?_ _) | (with_reducible refine Below.setCell ?_ ?_ _) | (refine Below.trans ?_ (Below.mono (by assumption) ?_)) | go_size))⟩
          · have hs8' : (a + b ≤ 8) = True := eq_true (by simpa using hs8)
            go_enter Tryd.func44, Tryd.ntmps44
            go_wp2_with (go_at_call 43; refine (qwithin_any _ _ _ _).mono ?_; rintro e w' ⟨rfl, rfl⟩)
            go_ret
            exact ⟨ret_int (by rw [HR.out]; simp [ofW, noneB, hz1, hc, hz2, hvb, hs8]), by (repeat' (first | (with_reducible exact Below.refl _ _) | (with_reducible assumption) | (with_reducible refine below_drewN ?_ _) | (with_reducible refine Below.drew ?_) | (with_reducible refine Below.alloc ?_ ?_ _) | (with_reducible refine Below.setCell ?_ ?_ _) | (refine Below.trans ?_ (Below.mono (by assumption) ?_)) | go_size))⟩
  · cases hz2 : (so == 0)
    · cases hc : wiB sc 0 (a - 1)
      · go_enter Tryd.func44, Tryd.ntmps44
        go_wp2_with (go_at_call 43; refine (qwithin_any _ _ _ _).mono ?_; rintro e w' ⟨rfl, rfl⟩)
        go_ret
        exact ⟨ret_int (by rw [HR.out]; simp [ofW, noneB, hz1, hz2, hc]), by (repeat' (first | (with_reducible exact Below.refl _ _) | (with_reducible assumption) | (with_reducible refine below_drewN ?_ _) | (with_reducible refine Below.drew ?_) | (with_reducible refine Below.alloc ?_ ?_ _) | (with_reducible refine Below.setCell ?_ ?_ _) | (refine Below.trans ?_ (Below.mono (by assumption) ?_)) | go_size))⟩
      · go_enter Tryd.func44, Tryd.ntmps44
        go_wp2_with (go_at_call 43; refine (qwithin_any _ _ _ _).mono ?_; rintro e w' ⟨rfl, rfl⟩)
        go_ret
        exact ⟨ret_int (by rw [HR.out]; simp [ofW, noneB, hz1, hz2, hc]), by (repeat' (first | (with_reducible exact Below.refl _ _) | (with_reducible assumption) | (with_reducible refine below_drewN ?_ _) | (with_reducible refine Below.drew ?_) | (with_reducible refine Below.alloc ?_ ?_ _) | (with_reducible refine Below.setCell ?_ ?_ _) | (refine Below.trans ?_ (Below.mono (by assumption) ?_)) | go_size))⟩
    · cases hz3 : (sv == 0)
      · cases hc : wiB sc 0 (a - 1)
        · go_enter Tryd.func44, Tryd.ntmps44
          go_wp2_with (go_at_call 43; refine (qwithin_any _ _ _ _).mono ?_; rintro e w' ⟨rfl, rfl⟩)
          go_ret
          exact ⟨ret_int (by rw [HR.out]; simp [ofW, noneB, hz1, hz2, hz3, hc]), by (repeat' (first | (with_reducible exact Below.refl _ _) | (with_reducible assumption) | (with_reducible refine below_drewN ?_ _) | (with_reducible refine Below.drew ?_) | (with_reducible refine Below.alloc ?_ ?_ _) | (with_reducible refine Below.setCell ?_ ?_ _) | (refine Below.trans ?_ (Below.mono (by assumption) ?_)) | go_size))⟩
        · cases hvb : wiB sv 0 (b - 1)
          · go_enter Tryd.func44, Tryd.ntmps44
            go_wp2_with (go_at_call 43; refine (qwithin_any _ _ _ _).mono ?_; rintro e w' ⟨rfl, rfl⟩)
            go_ret
            exact ⟨ret_int (by rw [HR.out]; simp [ofW, noneB, hz1, hz2, hz3, hc, hvb]), by (repeat' (first | (with_reducible exact Below.refl _ _) | (with_reducible assumption) | (with_reducible refine below_drewN ?_ _) | (with_reducible refine Below.drew ?_) | (with_reducible refine Below.alloc ?_ ?_ _) | (with_reducible refine Below.setCell ?_ ?_ _) | (refine Below.trans ?_ (Below.mono (by assumption) ?_)) | go_size))⟩
          · cases hs8 : decide (a + b ≤ 8)
            · have hs8' : (a + b ≤ 8) = False := eq_false (by simpa using hs8)
              go_enter Tryd.func44, Tryd.ntmps44
              go_wp2_with (go_at_call 43; refine (qwithin_any _ _ _ _).mono ?_; rintro e w' ⟨rfl, rfl⟩)
              go_ret
              exact ⟨ret_int (by rw [HR.out]; simp [ofW, noneB, hz1, hz2, hz3, hc, hvb, hs8]), by (repeat' (first | (with_reducible exact Below.refl _ _) | (with_reducible assumption) | (with_reducible refine below_drewN ?_ _) | (with_reducible refine Below.drew ?_) | (with_reducible refine Below.alloc ?_ ?_ _) | (with_reducible refine Below.setCell ?_ ?_ _) | (refine Below.trans ?_ (Below.mono (by assumption) ?_)) | go_size))⟩
            · have hs8' : (a + b ≤ 8) = True := eq_true (by simpa using hs8)
              go_enter Tryd.func44, Tryd.ntmps44
              go_wp2_with (go_at_call 43; refine (qwithin_any _ _ _ _).mono ?_; rintro e w' ⟨rfl, rfl⟩)
              go_ret
              exact ⟨ret_int (by rw [HR.out]; simp [ofW, noneB, hz1, hz2, hz3, hc, hvb, hs8]), by (repeat' (first | (with_reducible exact Below.refl _ _) | (with_reducible assumption) | (with_reducible refine below_drewN ?_ _) | (with_reducible refine Below.drew ?_) | (with_reducible refine Below.alloc ?_ ?_ _) | (with_reducible refine Below.setCell ?_ ?_ _) | (refine Below.trans ?_ (Below.mono (by assumption) ?_)) | go_size))⟩
      · cases hc : wiB sc 0 (a - 1)
        · go_enter Tryd.func44, Tryd.ntmps44
          go_wp2_with (go_at_call 43; refine (qwithin_any _ _ _ _).mono ?_; rintro e w' ⟨rfl, rfl⟩)
          go_ret
          exact ⟨ret_int (by rw [HR.out]; simp [ofW, noneB, hz1, hz2, hz3, hc]), by (repeat' (first | (with_reducible exact Below.refl _ _) | (with_reducible assumption) | (with_reducible refine below_drewN ?_ _) | (with_reducible refine Below.drew ?_) | (with_reducible refine Below.alloc ?_ ?_ _) | (with_reducible refine Below.setCell ?_ ?_ _) | (refine Below.trans ?_ (Below.mono (by assumption) ?_)) | go_size))⟩
        · cases hvb : wiB sv 0 (b - 1)
          · go_enter Tryd.func44, Tryd.ntmps44
            go_wp2_with (go_at_call 43; refine (qwithin_any _ _ _ _).mono ?_; rintro e w' ⟨rfl, rfl⟩)
            go_ret
            exact ⟨ret_int (by rw [HR.out]; simp [ofW, noneB, hz1, hz2, hz3, hc, hvb]), by (repeat' (first | (with_reducible exact Below.refl _ _) | (with_reducible assumption) | (with_reducible refine below_drewN ?_ _) | (with_reducible refine Below.drew ?_) | (with_reducible refine Below.alloc ?_ ?_ _) | (with_reducible refine Below.setCell ?_ ?_ _) | (refine Below.trans ?_ (Below.mono (by assumption) ?_)) | go_size))⟩
          · cases hs8 : decide (a + b ≤ 8)
            · have hs8' : (a + b ≤ 8) = False := eq_false (by simpa using hs8)
              go_enter Tryd.func44, Tryd.ntmps44
              go_wp2_with (go_at_call 43; refine (qwithin_any _ _ _ _).mono ?_; rintro e w' ⟨rfl, rfl⟩)
              go_ret
              exact ⟨ret_int (by rw [HR.out]; simp [ofW, noneB, hz1, hz2, hz3, hc, hvb, hs8]), by (repeat' (first | (with_reducible exact Below.refl _ _) | (with_reducible assumption) | (with_reducible refine below_drewN ?_ _) | (with_reducible refine Below.drew ?_) | (with_reducible refine Below.alloc ?_ ?_ _) | (with_reducible refine Below.setCell ?_ ?_ _) | (refine Below.trans ?_ (Below.mono (by assumption) ?_)) | go_size))⟩
            · have hs8' : (a + b ≤ 8) = True := eq_true (by simpa using hs8)
              go_enter Tryd.func44, Tryd.ntmps44
              go_wp2_with (go_at_call 43; refine (qwithin_any _ _ _ _).mono ?_; rintro e w' ⟨rfl, rfl⟩)
              go_ret
              exact ⟨ret_int (by rw [HR.out]; simp [ofW, noneB, hz1, hz2, hz3, hc, hvb, hs8]), by (repeat' (first | (with_reducible exact Below.refl _ _) | (with_reducible assumption) | (with_reducible refine below_drewN ?_ _) | (with_reducible refine Below.drew ?_) | (with_reducible refine Below.alloc ?_ ?_ _) | (with_reducible refine Below.setCell ?_ ?_ _) | (refine Below.trans ?_ (Below.mono (by assumption) ?_)) | go_size))⟩
set_option maxHeartbeats 1000000 in
set_option maxRecDepth 100000 in
theorem of_k5 (sa sb sc so sv : Int) (sl : List Int) (sA : Option Addr) (sK : Nat) (a b : Int) (w : World) (ha : 0 ≤ a ∧ a ≤ 8) (hb : 0 ≤ b ∧ b ≤ 8) (hl : Row w w.heap.size sA (icells' sl)) (hll : sl.length ≤ 9223372036854775807) :
    Calls Tryd.prog 44 #[.agg #[.int .i64 5, .int .i64 sa, .int .i64 sb, .int .i64 sc, .int .i64 so, .int .i64 sv, .slice sA sl.length sK], .int .i64 a, .int .i64 b] w fun e w' => e = .returned (.int .i64 (ofW ⟨5, sa, sb, sc, so, sv, sl⟩ a b)) ∧ Below w.heap.size w w' := by
  obtain ⟨R, hR⟩ : ∃ R, R = ofW ⟨5, sa, sb, sc, so, sv, sl⟩ a b := ⟨_, rfl⟩
  rw [← hR]
  have HR := hid hR
  clear hR
  have hw1 : IntKind.i64.wrap (a - 1) = a - 1 := IntWalk.i64_in _ (by omega)
  have hw2 : IntKind.i64.wrap (b - 1) = b - 1 := IntWalk.i64_in _ (by omega)
  have hw3 : IntKind.i64.wrap (a + b) = a + b := IntWalk.i64_in _ (by omega)
  cases hz1 : (sc == 0)
  · go_enter Tryd.func44, Tryd.ntmps44
    go_wp2_with (go_at_call 43; refine (qwithin_any _ _ _ _).mono ?_; rintro e w' ⟨rfl, rfl⟩)
    go_ret
    exact ⟨ret_int (by rw [HR.out]; simp [ofW, noneB, hz1]), by (repeat' (first | (with_reducible exact Below.refl _ _) | (with_reducible assumption) | (with_reducible refine below_drewN ?_ _) | (with_reducible refine Below.drew ?_) | (with_reducible refine Below.alloc ?_ ?_ _) | (with_reducible refine Below.setCell ?_ ?_ _) | (refine Below.trans ?_ (Below.mono (by assumption) ?_)) | go_size))⟩
  · cases hz2 : (so == 0)
    · go_enter Tryd.func44, Tryd.ntmps44
      go_wp2_with (go_at_call 43; refine (qwithin_any _ _ _ _).mono ?_; rintro e w' ⟨rfl, rfl⟩)
      go_ret
      exact ⟨ret_int (by rw [HR.out]; simp [ofW, noneB, hz1, hz2]), by (repeat' (first | (with_reducible exact Below.refl _ _) | (with_reducible assumption) | (with_reducible refine below_drewN ?_ _) | (with_reducible refine Below.drew ?_) | (with_reducible refine Below.alloc ?_ ?_ _) | (with_reducible refine Below.setCell ?_ ?_ _) | (refine Below.trans ?_ (Below.mono (by assumption) ?_)) | go_size))⟩
    · cases hz3 : (sv == 0)
      · go_enter Tryd.func44, Tryd.ntmps44
        go_wp2_with (go_at_call 43; refine (qwithin_any _ _ _ _).mono ?_; rintro e w' ⟨rfl, rfl⟩)
        go_ret
        exact ⟨ret_int (by rw [HR.out]; simp [ofW, noneB, hz1, hz2, hz3]), by (repeat' (first | (with_reducible exact Below.refl _ _) | (with_reducible assumption) | (with_reducible refine below_drewN ?_ _) | (with_reducible refine Below.drew ?_) | (with_reducible refine Below.alloc ?_ ?_ _) | (with_reducible refine Below.setCell ?_ ?_ _) | (refine Below.trans ?_ (Below.mono (by assumption) ?_)) | go_size))⟩
      · cases heq : (a == b)
        · go_enter Tryd.func44, Tryd.ntmps44
          go_wp2_with (go_at_call 43; refine (qwithin_any _ _ _ _).mono ?_; rintro e w' ⟨rfl, rfl⟩)
          go_ret
          exact ⟨ret_int (by rw [HR.out]; simp [ofW, noneB, hz1, hz2, hz3, heq]), by (repeat' (first | (with_reducible exact Below.refl _ _) | (with_reducible assumption) | (with_reducible refine below_drewN ?_ _) | (with_reducible refine Below.drew ?_) | (with_reducible refine Below.alloc ?_ ?_ _) | (with_reducible refine Below.setCell ?_ ?_ _) | (refine Below.trans ?_ (Below.mono (by assumption) ?_)) | go_size))⟩
        · go_enter Tryd.func44, Tryd.ntmps44
          go_wp2_with (go_at_call 43; refine (qwithin_any _ _ _ _).mono ?_; rintro e w' ⟨rfl, rfl⟩)
          go_ret
          exact ⟨ret_int (by rw [HR.out]; simp [ofW, noneB, hz1, hz2, hz3, heq]), by (repeat' (first | (with_reducible exact Below.refl _ _) | (with_reducible assumption) | (with_reducible refine below_drewN ?_ _) | (with_reducible refine Below.drew ?_) | (with_reducible refine Below.alloc ?_ ?_ _) | (with_reducible refine Below.setCell ?_ ?_ _) | (refine Below.trans ?_ (Below.mono (by assumption) ?_)) | go_size))⟩
set_option maxHeartbeats 1000000 in
set_option maxRecDepth 100000 in
theorem of_k6 (sa sb sc so sv : Int) (sl : List Int) (sA : Option Addr) (sK : Nat) (a b : Int) (w : World) (ha : 0 ≤ a ∧ a ≤ 8) (hb : 0 ≤ b ∧ b ≤ 8) (hl : Row w w.heap.size sA (icells' sl)) (hll : sl.length ≤ 9223372036854775807) :
    Calls Tryd.prog 44 #[.agg #[.int .i64 6, .int .i64 sa, .int .i64 sb, .int .i64 sc, .int .i64 so, .int .i64 sv, .slice sA sl.length sK], .int .i64 a, .int .i64 b] w fun e w' => e = .returned (.int .i64 (ofW ⟨6, sa, sb, sc, so, sv, sl⟩ a b)) ∧ Below w.heap.size w w' := by
  obtain ⟨R, hR⟩ : ∃ R, R = ofW ⟨6, sa, sb, sc, so, sv, sl⟩ a b := ⟨_, rfl⟩
  rw [← hR]
  have HR := hid hR
  clear hR
  have hw1 : IntKind.i64.wrap (a - 1) = a - 1 := IntWalk.i64_in _ (by omega)
  have hw2 : IntKind.i64.wrap (b - 1) = b - 1 := IntWalk.i64_in _ (by omega)
  have hw3 : IntKind.i64.wrap (a + b) = a + b := IntWalk.i64_in _ (by omega)
  cases hz1 : (sc == 0)
  · go_enter Tryd.func44, Tryd.ntmps44
    go_wp2_with (go_at_call 43; refine (qwithin_any _ _ _ _).mono ?_; rintro e w' ⟨rfl, rfl⟩)
    go_ret
    exact ⟨ret_int (by rw [HR.out]; simp [ofW, noneB, hz1]), by (repeat' (first | (with_reducible exact Below.refl _ _) | (with_reducible assumption) | (with_reducible refine below_drewN ?_ _) | (with_reducible refine Below.drew ?_) | (with_reducible refine Below.alloc ?_ ?_ _) | (with_reducible refine Below.setCell ?_ ?_ _) | (refine Below.trans ?_ (Below.mono (by assumption) ?_)) | go_size))⟩
  · cases hz2 : (so == 0)
    · go_enter Tryd.func44, Tryd.ntmps44
      go_wp2_with (go_at_call 43; refine (qwithin_any _ _ _ _).mono ?_; rintro e w' ⟨rfl, rfl⟩)
      go_ret
      exact ⟨ret_int (by rw [HR.out]; simp [ofW, noneB, hz1, hz2]), by (repeat' (first | (with_reducible exact Below.refl _ _) | (with_reducible assumption) | (with_reducible refine below_drewN ?_ _) | (with_reducible refine Below.drew ?_) | (with_reducible refine Below.alloc ?_ ?_ _) | (with_reducible refine Below.setCell ?_ ?_ _) | (refine Below.trans ?_ (Below.mono (by assumption) ?_)) | go_size))⟩
    · cases hz3 : (sv == 0)
      · go_enter Tryd.func44, Tryd.ntmps44
        go_wp2_with (go_at_call 43; refine (qwithin_any _ _ _ _).mono ?_; rintro e w' ⟨rfl, rfl⟩)
        go_ret
        exact ⟨ret_int (by rw [HR.out]; simp [ofW, noneB, hz1, hz2, hz3]), by (repeat' (first | (with_reducible exact Below.refl _ _) | (with_reducible assumption) | (with_reducible refine below_drewN ?_ _) | (with_reducible refine Below.drew ?_) | (with_reducible refine Below.alloc ?_ ?_ _) | (with_reducible refine Below.setCell ?_ ?_ _) | (refine Below.trans ?_ (Below.mono (by assumption) ?_)) | go_size))⟩
      · cases heq : (a == b)
        · go_enter Tryd.func44, Tryd.ntmps44
          go_wp2_with (go_at_call 43; refine (qwithin_any _ _ _ _).mono ?_; rintro e w' ⟨rfl, rfl⟩)
          go_ret
          exact ⟨ret_int (by rw [HR.out]; simp [ofW, noneB, hz1, hz2, hz3, heq]), by (repeat' (first | (with_reducible exact Below.refl _ _) | (with_reducible assumption) | (with_reducible refine below_drewN ?_ _) | (with_reducible refine Below.drew ?_) | (with_reducible refine Below.alloc ?_ ?_ _) | (with_reducible refine Below.setCell ?_ ?_ _) | (refine Below.trans ?_ (Below.mono (by assumption) ?_)) | go_size))⟩
        · go_enter Tryd.func44, Tryd.ntmps44
          go_wp2_with (go_at_call 43; refine (qwithin_any _ _ _ _).mono ?_; rintro e w' ⟨rfl, rfl⟩)
          go_ret
          exact ⟨ret_int (by rw [HR.out]; simp [ofW, noneB, hz1, hz2, hz3, heq]), by (repeat' (first | (with_reducible exact Below.refl _ _) | (with_reducible assumption) | (with_reducible refine below_drewN ?_ _) | (with_reducible refine Below.drew ?_) | (with_reducible refine Below.alloc ?_ ?_ _) | (with_reducible refine Below.setCell ?_ ?_ _) | (refine Below.trans ?_ (Below.mono (by assumption) ?_)) | go_size))⟩
set_option maxHeartbeats 1000000 in
set_option maxRecDepth 100000 in
theorem of_k7 (sa sb sc so sv : Int) (sl : List Int) (sA : Option Addr) (sK : Nat) (a b : Int) (w : World) (ha : 0 ≤ a ∧ a ≤ 8) (hb : 0 ≤ b ∧ b ≤ 8) (hl : Row w w.heap.size sA (icells' sl)) (hll : sl.length ≤ 9223372036854775807) :
    Calls Tryd.prog 44 #[.agg #[.int .i64 7, .int .i64 sa, .int .i64 sb, .int .i64 sc, .int .i64 so, .int .i64 sv, .slice sA sl.length sK], .int .i64 a, .int .i64 b] w fun e w' => e = .returned (.int .i64 (ofW ⟨7, sa, sb, sc, so, sv, sl⟩ a b)) ∧ Below w.heap.size w w' := by
  obtain ⟨R, hR⟩ : ∃ R, R = ofW ⟨7, sa, sb, sc, so, sv, sl⟩ a b := ⟨_, rfl⟩
  rw [← hR]
  have HR := hid hR
  clear hR
  have hw1 : IntKind.i64.wrap (a - 1) = a - 1 := IntWalk.i64_in _ (by omega)
  have hw2 : IntKind.i64.wrap (b - 1) = b - 1 := IntWalk.i64_in _ (by omega)
  have hw3 : IntKind.i64.wrap (a + b) = a + b := IntWalk.i64_in _ (by omega)
  cases hz1 : (sc == 0)
  · go_enter Tryd.func44, Tryd.ntmps44
    go_wp2_with (go_at_call 43; refine (qwithin_any _ _ _ _).mono ?_; rintro e w' ⟨rfl, rfl⟩)
    go_ret
    exact ⟨ret_int (by rw [HR.out]; simp [ofW, noneB, hz1]), by (repeat' (first | (with_reducible exact Below.refl _ _) | (with_reducible assumption) | (with_reducible refine below_drewN ?_ _) | (with_reducible refine Below.drew ?_) | (with_reducible refine Below.alloc ?_ ?_ _) | (with_reducible refine Below.setCell ?_ ?_ _) | (refine Below.trans ?_ (Below.mono (by assumption) ?_)) | go_size))⟩
  · cases hz2 : (so == 0)
    · go_enter Tryd.func44, Tryd.ntmps44
      go_wp2_with (go_at_call 43; refine (qwithin_any _ _ _ _).mono ?_; rintro e w' ⟨rfl, rfl⟩)
      go_ret
      exact ⟨ret_int (by rw [HR.out]; simp [ofW, noneB, hz1, hz2]), by (repeat' (first | (with_reducible exact Below.refl _ _) | (with_reducible assumption) | (with_reducible refine below_drewN ?_ _) | (with_reducible refine Below.drew ?_) | (with_reducible refine Below.alloc ?_ ?_ _) | (with_reducible refine Below.setCell ?_ ?_ _) | (refine Below.trans ?_ (Below.mono (by assumption) ?_)) | go_size))⟩
    · cases hz3 : (sv == 0)
      · go_enter Tryd.func44, Tryd.ntmps44
        go_wp2_with (go_at_call 43; refine (qwithin_any _ _ _ _).mono ?_; rintro e w' ⟨rfl, rfl⟩)
        go_ret
        exact ⟨ret_int (by rw [HR.out]; simp [ofW, noneB, hz1, hz2, hz3]), by (repeat' (first | (with_reducible exact Below.refl _ _) | (with_reducible assumption) | (with_reducible refine below_drewN ?_ _) | (with_reducible refine Below.drew ?_) | (with_reducible refine Below.alloc ?_ ?_ _) | (with_reducible refine Below.setCell ?_ ?_ _) | (refine Below.trans ?_ (Below.mono (by assumption) ?_)) | go_size))⟩
      · go_enter Tryd.func44, Tryd.ntmps44
        go_wp2_with (go_at_call 43; refine (qwithin_any _ _ _ _).mono ?_; rintro e w' ⟨rfl, rfl⟩)
        go_ret
        exact ⟨ret_int (by rw [HR.out]; simp [ofW, noneB, hz1, hz2, hz3]), by (repeat' (first | (with_reducible exact Below.refl _ _) | (with_reducible assumption) | (with_reducible refine below_drewN ?_ _) | (with_reducible refine Below.drew ?_) | (with_reducible refine Below.alloc ?_ ?_ _) | (with_reducible refine Below.setCell ?_ ?_ _) | (refine Below.trans ?_ (Below.mono (by assumption) ?_)) | go_size))⟩
set_option maxHeartbeats 1000000 in
set_option maxRecDepth 100000 in
theorem of_k8 (sa sb sc so sv : Int) (sl : List Int) (sA : Option Addr) (sK : Nat) (a b : Int) (w : World) (ha : 0 ≤ a ∧ a ≤ 8) (hb : 0 ≤ b ∧ b ≤ 8) (hl : Row w w.heap.size sA (icells' sl)) (hll : sl.length ≤ 9223372036854775807) :
    Calls Tryd.prog 44 #[.agg #[.int .i64 8, .int .i64 sa, .int .i64 sb, .int .i64 sc, .int .i64 so, .int .i64 sv, .slice sA sl.length sK], .int .i64 a, .int .i64 b] w fun e w' => e = .returned (.int .i64 (ofW ⟨8, sa, sb, sc, so, sv, sl⟩ a b)) ∧ Below w.heap.size w w' := by
  obtain ⟨R, hR⟩ : ∃ R, R = ofW ⟨8, sa, sb, sc, so, sv, sl⟩ a b := ⟨_, rfl⟩
  rw [← hR]
  have HR := hid hR
  clear hR
  have hw1 : IntKind.i64.wrap (a - 1) = a - 1 := IntWalk.i64_in _ (by omega)
  have hw2 : IntKind.i64.wrap (b - 1) = b - 1 := IntWalk.i64_in _ (by omega)
  have hw3 : IntKind.i64.wrap (a + b) = a + b := IntWalk.i64_in _ (by omega)
  cases hz1 : (sc == 0)
  · cases hc : wiB sc 0 (a - 1)
    · go_enter Tryd.func44, Tryd.ntmps44
      go_wp2_with (go_at_call 43; refine (qwithin_any _ _ _ _).mono ?_; rintro e w' ⟨rfl, rfl⟩)
      go_ret
      exact ⟨ret_int (by rw [HR.out]; simp [ofW, noneB, hz1, hc]), by (repeat' (first | (with_reducible exact Below.refl _ _) | (with_reducible assumption) | (with_reducible refine below_drewN ?_ _) | (with_reducible refine Below.drew ?_) | (with_reducible refine Below.alloc ?_ ?_ _) | (with_reducible refine Below.setCell ?_ ?_ _) | (refine Below.trans ?_ (Below.mono (by assumption) ?_)) | go_size))⟩
    · cases hz2 : (so == 0)
      · go_enter Tryd.func44, Tryd.ntmps44
        go_wp2_with (go_at_call 43; refine (qwithin_any _ _ _ _).mono ?_; rintro e w' ⟨rfl, rfl⟩)
        go_ret
        exact ⟨ret_int (by rw [HR.out]; simp [ofW, noneB, hz1, hc, hz2]), by (repeat' (first | (with_reducible exact Below.refl _ _) | (with_reducible assumption) | (with_reducible refine below_drewN ?_ _) | (with_reducible refine Below.drew ?_) | (with_reducible refine Below.alloc ?_ ?_ _) | (with_reducible refine Below.setCell ?_ ?_ _) | (refine Below.trans ?_ (Below.mono (by assumption) ?_)) | go_size))⟩
      · cases hz3 : (sv == 0)
        · go_enter Tryd.func44, Tryd.ntmps44
          go_wp2_with (go_at_call 43; refine (qwithin_any _ _ _ _).mono ?_; rintro e w' ⟨rfl, rfl⟩)
          go_ret
          exact ⟨ret_int (by rw [HR.out]; simp [ofW, noneB, hz1, hc, hz2, hz3]), by (repeat' (first | (with_reducible exact Below.refl _ _) | (with_reducible assumption) | (with_reducible refine below_drewN ?_ _) | (with_reducible refine Below.drew ?_) | (with_reducible refine Below.alloc ?_ ?_ _) | (with_reducible refine Below.setCell ?_ ?_ _) | (refine Below.trans ?_ (Below.mono (by assumption) ?_)) | go_size))⟩
        · go_enter Tryd.func44, Tryd.ntmps44
          go_wp2_with (go_at_call 43; refine (qwithin_any _ _ _ _).mono ?_; rintro e w' ⟨rfl, rfl⟩)
          go_ret
          exact ⟨ret_int (by rw [HR.out]; simp [ofW, noneB, hz1, hc, hz2, hz3]), by (repeat' (first | (with_reducible exact Below.refl _ _) | (with_reducible assumption) | (with_reducible refine below_drewN ?_ _) | (with_reducible refine Below.drew ?_) | (with_reducible refine Below.alloc ?_ ?_ _) | (with_reducible refine Below.setCell ?_ ?_ _) | (refine Below.trans ?_ (Below.mono (by assumption) ?_)) | go_size))⟩
  · cases hz2 : (so == 0)
    · cases hc : wiB sc 0 (a - 1)
      · go_enter Tryd.func44, Tryd.ntmps44
        go_wp2_with (go_at_call 43; refine (qwithin_any _ _ _ _).mono ?_; rintro e w' ⟨rfl, rfl⟩)
        go_ret
        exact ⟨ret_int (by rw [HR.out]; simp [ofW, noneB, hz1, hz2, hc]), by (repeat' (first | (with_reducible exact Below.refl _ _) | (with_reducible assumption) | (with_reducible refine below_drewN ?_ _) | (with_reducible refine Below.drew ?_) | (with_reducible refine Below.alloc ?_ ?_ _) | (with_reducible refine Below.setCell ?_ ?_ _) | (refine Below.trans ?_ (Below.mono (by assumption) ?_)) | go_size))⟩
      · go_enter Tryd.func44, Tryd.ntmps44
        go_wp2_with (go_at_call 43; refine (qwithin_any _ _ _ _).mono ?_; rintro e w' ⟨rfl, rfl⟩)
        go_ret
        exact ⟨ret_int (by rw [HR.out]; simp [ofW, noneB, hz1, hz2, hc]), by (repeat' (first | (with_reducible exact Below.refl _ _) | (with_reducible assumption) | (with_reducible refine below_drewN ?_ _) | (with_reducible refine Below.drew ?_) | (with_reducible refine Below.alloc ?_ ?_ _) | (with_reducible refine Below.setCell ?_ ?_ _) | (refine Below.trans ?_ (Below.mono (by assumption) ?_)) | go_size))⟩
    · cases hz3 : (sv == 0)
      · cases hc : wiB sc 0 (a - 1)
        · go_enter Tryd.func44, Tryd.ntmps44
          go_wp2_with (go_at_call 43; refine (qwithin_any _ _ _ _).mono ?_; rintro e w' ⟨rfl, rfl⟩)
          go_ret
          exact ⟨ret_int (by rw [HR.out]; simp [ofW, noneB, hz1, hz2, hz3, hc]), by (repeat' (first | (with_reducible exact Below.refl _ _) | (with_reducible assumption) | (with_reducible refine below_drewN ?_ _) | (with_reducible refine Below.drew ?_) | (with_reducible refine Below.alloc ?_ ?_ _) | (with_reducible refine Below.setCell ?_ ?_ _) | (refine Below.trans ?_ (Below.mono (by assumption) ?_)) | go_size))⟩
        · go_enter Tryd.func44, Tryd.ntmps44
          go_wp2_with (go_at_call 43; refine (qwithin_any _ _ _ _).mono ?_; rintro e w' ⟨rfl, rfl⟩)
          go_ret
          exact ⟨ret_int (by rw [HR.out]; simp [ofW, noneB, hz1, hz2, hz3, hc]), by (repeat' (first | (with_reducible exact Below.refl _ _) | (with_reducible assumption) | (with_reducible refine below_drewN ?_ _) | (with_reducible refine Below.drew ?_) | (with_reducible refine Below.alloc ?_ ?_ _) | (with_reducible refine Below.setCell ?_ ?_ _) | (refine Below.trans ?_ (Below.mono (by assumption) ?_)) | go_size))⟩
      · cases hc : wiB sc 0 (a - 1)
        · go_enter Tryd.func44, Tryd.ntmps44
          go_wp2_with (go_at_call 43; refine (qwithin_any _ _ _ _).mono ?_; rintro e w' ⟨rfl, rfl⟩)
          go_ret
          exact ⟨ret_int (by rw [HR.out]; simp [ofW, noneB, hz1, hz2, hz3, hc]), by (repeat' (first | (with_reducible exact Below.refl _ _) | (with_reducible assumption) | (with_reducible refine below_drewN ?_ _) | (with_reducible refine Below.drew ?_) | (with_reducible refine Below.alloc ?_ ?_ _) | (with_reducible refine Below.setCell ?_ ?_ _) | (refine Below.trans ?_ (Below.mono (by assumption) ?_)) | go_size))⟩
        · go_enter Tryd.func44, Tryd.ntmps44
          go_wp2_with (go_at_call 43; refine (qwithin_any _ _ _ _).mono ?_; rintro e w' ⟨rfl, rfl⟩)
          go_ret
          exact ⟨ret_int (by rw [HR.out]; simp [ofW, noneB, hz1, hz2, hz3, hc]), by (repeat' (first | (with_reducible exact Below.refl _ _) | (with_reducible assumption) | (with_reducible refine below_drewN ?_ _) | (with_reducible refine Below.drew ?_) | (with_reducible refine Below.alloc ?_ ?_ _) | (with_reducible refine Below.setCell ?_ ?_ _) | (refine Below.trans ?_ (Below.mono (by assumption) ?_)) | go_size))⟩
set_option maxHeartbeats 1000000 in
set_option maxRecDepth 100000 in
theorem of_k9 (sa sb sc so sv : Int) (sl : List Int) (sA : Option Addr) (sK : Nat) (a b : Int) (w : World) (ha : 0 ≤ a ∧ a ≤ 8) (hb : 0 ≤ b ∧ b ≤ 8) (hl : Row w w.heap.size sA (icells' sl)) (hll : sl.length ≤ 9223372036854775807) :
    Calls Tryd.prog 44 #[.agg #[.int .i64 9, .int .i64 sa, .int .i64 sb, .int .i64 sc, .int .i64 so, .int .i64 sv, .slice sA sl.length sK], .int .i64 a, .int .i64 b] w fun e w' => e = .returned (.int .i64 (ofW ⟨9, sa, sb, sc, so, sv, sl⟩ a b)) ∧ Below w.heap.size w w' := by
  obtain ⟨R, hR⟩ : ∃ R, R = ofW ⟨9, sa, sb, sc, so, sv, sl⟩ a b := ⟨_, rfl⟩
  rw [← hR]
  have HR := hid hR
  clear hR
  have hw1 : IntKind.i64.wrap (a - 1) = a - 1 := IntWalk.i64_in _ (by omega)
  have hw2 : IntKind.i64.wrap (b - 1) = b - 1 := IntWalk.i64_in _ (by omega)
  have hw3 : IntKind.i64.wrap (a + b) = a + b := IntWalk.i64_in _ (by omega)
  cases hz1 : (sc == 0)
  · cases hc : wiB sc 0 (a - 1)
    · go_enter Tryd.func44, Tryd.ntmps44
      go_wp2_with (go_at_call 43; refine (qwithin_any _ _ _ _).mono ?_; rintro e w' ⟨rfl, rfl⟩)
      go_ret
      exact ⟨ret_int (by rw [HR.out]; simp [ofW, noneB, hz1, hc]), by (repeat' (first | (with_reducible exact Below.refl _ _) | (with_reducible assumption) | (with_reducible refine below_drewN ?_ _) | (with_reducible refine Below.drew ?_) | (with_reducible refine Below.alloc ?_ ?_ _) | (with_reducible refine Below.setCell ?_ ?_ _) | (refine Below.trans ?_ (Below.mono (by assumption) ?_)) | go_size))⟩
    · cases hz2 : (so == 0)
      · go_enter Tryd.func44, Tryd.ntmps44
        go_wp2_with (go_at_call 43; refine (qwithin_any _ _ _ _).mono ?_; rintro e w' ⟨rfl, rfl⟩)
        go_ret
        exact ⟨ret_int (by rw [HR.out]; simp [ofW, noneB, hz1, hc, hz2]), by (repeat' (first | (with_reducible exact Below.refl _ _) | (with_reducible assumption) | (with_reducible refine below_drewN ?_ _) | (with_reducible refine Below.drew ?_) | (with_reducible refine Below.alloc ?_ ?_ _) | (with_reducible refine Below.setCell ?_ ?_ _) | (refine Below.trans ?_ (Below.mono (by assumption) ?_)) | go_size))⟩
      · cases hva : wiB sv 0 (a - 1)
        · go_enter Tryd.func44, Tryd.ntmps44
          go_wp2_with (go_at_call 43; refine (qwithin_any _ _ _ _).mono ?_; rintro e w' ⟨rfl, rfl⟩)
          go_ret
          exact ⟨ret_int (by rw [HR.out]; simp [ofW, noneB, hz1, hc, hz2, hva]), by (repeat' (first | (with_reducible exact Below.refl _ _) | (with_reducible assumption) | (with_reducible refine below_drewN ?_ _) | (with_reducible refine Below.drew ?_) | (with_reducible refine Below.alloc ?_ ?_ _) | (with_reducible refine Below.setCell ?_ ?_ _) | (refine Below.trans ?_ (Below.mono (by assumption) ?_)) | go_size))⟩
        · go_enter Tryd.func44, Tryd.ntmps44
          go_wp2_with (go_at_call 43; refine (qwithin_any _ _ _ _).mono ?_; rintro e w' ⟨rfl, rfl⟩)
          go_ret
          exact ⟨ret_int (by rw [HR.out]; simp [ofW, noneB, hz1, hc, hz2, hva]), by (repeat' (first | (with_reducible exact Below.refl _ _) | (with_reducible assumption) | (with_reducible refine below_drewN ?_ _) | (with_reducible refine Below.drew ?_) | (with_reducible refine Below.alloc ?_ ?_ _) | (with_reducible refine Below.setCell ?_ ?_ _) | (refine Below.trans ?_ (Below.mono (by assumption) ?_)) | go_size))⟩
  · cases hz2 : (so == 0)
    · cases hc : wiB sc 0 (a - 1)
      · go_enter Tryd.func44, Tryd.ntmps44
        go_wp2_with (go_at_call 43; refine (qwithin_any _ _ _ _).mono ?_; rintro e w' ⟨rfl, rfl⟩)
        go_ret
        exact ⟨ret_int (by rw [HR.out]; simp [ofW, noneB, hz1, hz2, hc]), by (repeat' (first | (with_reducible exact Below.refl _ _) | (with_reducible assumption) | (with_reducible refine below_drewN ?_ _) | (with_reducible refine Below.drew ?_) | (with_reducible refine Below.alloc ?_ ?_ _) | (with_reducible refine Below.setCell ?_ ?_ _) | (refine Below.trans ?_ (Below.mono (by assumption) ?_)) | go_size))⟩
      · go_enter Tryd.func44, Tryd.ntmps44
        go_wp2_with (go_at_call 43; refine (qwithin_any _ _ _ _).mono ?_; rintro e w' ⟨rfl, rfl⟩)
        go_ret
        exact ⟨ret_int (by rw [HR.out]; simp [ofW, noneB, hz1, hz2, hc]), by (repeat' (first | (with_reducible exact Below.refl _ _) | (with_reducible assumption) | (with_reducible refine below_drewN ?_ _) | (with_reducible refine Below.drew ?_) | (with_reducible refine Below.alloc ?_ ?_ _) | (with_reducible refine Below.setCell ?_ ?_ _) | (refine Below.trans ?_ (Below.mono (by assumption) ?_)) | go_size))⟩
    · cases hz3 : (sv == 0)
      · cases hc : wiB sc 0 (a - 1)
        · go_enter Tryd.func44, Tryd.ntmps44
          go_wp2_with (go_at_call 43; refine (qwithin_any _ _ _ _).mono ?_; rintro e w' ⟨rfl, rfl⟩)
          go_ret
          exact ⟨ret_int (by rw [HR.out]; simp [ofW, noneB, hz1, hz2, hz3, hc]), by (repeat' (first | (with_reducible exact Below.refl _ _) | (with_reducible assumption) | (with_reducible refine below_drewN ?_ _) | (with_reducible refine Below.drew ?_) | (with_reducible refine Below.alloc ?_ ?_ _) | (with_reducible refine Below.setCell ?_ ?_ _) | (refine Below.trans ?_ (Below.mono (by assumption) ?_)) | go_size))⟩
        · cases hva : wiB sv 0 (a - 1)
          · go_enter Tryd.func44, Tryd.ntmps44
            go_wp2_with (go_at_call 43; refine (qwithin_any _ _ _ _).mono ?_; rintro e w' ⟨rfl, rfl⟩)
            go_ret
            exact ⟨ret_int (by rw [HR.out]; simp [ofW, noneB, hz1, hz2, hz3, hc, hva]), by (repeat' (first | (with_reducible exact Below.refl _ _) | (with_reducible assumption) | (with_reducible refine below_drewN ?_ _) | (with_reducible refine Below.drew ?_) | (with_reducible refine Below.alloc ?_ ?_ _) | (with_reducible refine Below.setCell ?_ ?_ _) | (refine Below.trans ?_ (Below.mono (by assumption) ?_)) | go_size))⟩
          · go_enter Tryd.func44, Tryd.ntmps44
            go_wp2_with (go_at_call 43; refine (qwithin_any _ _ _ _).mono ?_; rintro e w' ⟨rfl, rfl⟩)
            go_ret
            exact ⟨ret_int (by rw [HR.out]; simp [ofW, noneB, hz1, hz2, hz3, hc, hva]), by (repeat' (first | (with_reducible exact Below.refl _ _) | (with_reducible assumption) | (with_reducible refine below_drewN ?_ _) | (with_reducible refine Below.drew ?_) | (with_reducible refine Below.alloc ?_ ?_ _) | (with_reducible refine Below.setCell ?_ ?_ _) | (refine Below.trans ?_ (Below.mono (by assumption) ?_)) | go_size))⟩
      · cases hc : wiB sc 0 (a - 1)
        · go_enter Tryd.func44, Tryd.ntmps44
          go_wp2_with (go_at_call 43; refine (qwithin_any _ _ _ _).mono ?_; rintro e w' ⟨rfl, rfl⟩)
          go_ret
          exact ⟨ret_int (by rw [HR.out]; simp [ofW, noneB, hz1, hz2, hz3, hc]), by (repeat' (first | (with_reducible exact Below.refl _ _) | (with_reducible assumption) | (with_reducible refine below_drewN ?_ _) | (with_reducible refine Below.drew ?_) | (with_reducible refine Below.alloc ?_ ?_ _) | (with_reducible refine Below.setCell ?_ ?_ _) | (refine Below.trans ?_ (Below.mono (by assumption) ?_)) | go_size))⟩
        · cases hva : wiB sv 0 (a - 1)
          · go_enter Tryd.func44, Tryd.ntmps44
            go_wp2_with (go_at_call 43; refine (qwithin_any _ _ _ _).mono ?_; rintro e w' ⟨rfl, rfl⟩)
            go_ret
            exact ⟨ret_int (by rw [HR.out]; simp [ofW, noneB, hz1, hz2, hz3, hc, hva]), by (repeat' (first | (with_reducible exact Below.refl _ _) | (with_reducible assumption) | (with_reducible refine below_drewN ?_ _) | (with_reducible refine Below.drew ?_) | (with_reducible refine Below.alloc ?_ ?_ _) | (with_reducible refine Below.setCell ?_ ?_ _) | (refine Below.trans ?_ (Below.mono (by assumption) ?_)) | go_size))⟩
          · go_enter Tryd.func44, Tryd.ntmps44
            go_wp2_with (go_at_call 43; refine (qwithin_any _ _ _ _).mono ?_; rintro e w' ⟨rfl, rfl⟩)
            go_ret
            exact ⟨ret_int (by rw [HR.out]; simp [ofW, noneB, hz1, hz2, hz3, hc, hva]), by (repeat' (first | (with_reducible exact Below.refl _ _) | (with_reducible assumption) | (with_reducible refine below_drewN ?_ _) | (with_reducible refine Below.drew ?_) | (with_reducible refine Below.alloc ?_ ?_ _) | (with_reducible refine Below.setCell ?_ ?_ _) | (refine Below.trans ?_ (Below.mono (by assumption) ?_)) | go_size))⟩
set_option maxHeartbeats 1000000 in
set_option maxRecDepth 100000 in
theorem of_k0 (sk sa sb sc so sv : Int) (sl : List Int) (sA : Option Addr) (sK : Nat) (a b : Int) (w : World) (ha : 0 ≤ a ∧ a ≤ 8) (hb : 0 ≤ b ∧ b ≤ 8) (hl : Row w w.heap.size sA (icells' sl)) (hll : sl.length ≤ 9223372036854775807) (hk : sk ≠ 2 ∧ sk ≠ 3 ∧ sk ≠ 4 ∧ sk ≠ 5 ∧ sk ≠ 6 ∧ sk ≠ 7 ∧ sk ≠ 8 ∧ sk ≠ 9) :
    Calls Tryd.prog 44 #[.agg #[.int .i64 sk, .int .i64 sa, .int .i64 sb, .int .i64 sc, .int .i64 so, .int .i64 sv, .slice sA sl.length sK], .int .i64 a, .int .i64 b] w fun e w' => e = .returned (.int .i64 (ofW ⟨sk, sa, sb, sc, so, sv, sl⟩ a b)) ∧ Below w.heap.size w w' := by
  obtain ⟨R, hR⟩ : ∃ R, R = ofW ⟨sk, sa, sb, sc, so, sv, sl⟩ a b := ⟨_, rfl⟩
  rw [← hR]
  have HR := hid hR
  clear hR
  have hw1 : IntKind.i64.wrap (a - 1) = a - 1 := IntWalk.i64_in _ (by omega)
  have hw2 : IntKind.i64.wrap (b - 1) = b - 1 := IntWalk.i64_in _ (by omega)
  have hw3 : IntKind.i64.wrap (a + b) = a + b := IntWalk.i64_in _ (by omega)
  obtain ⟨k2, k3, k4, k5, k6, k7, k8, k9⟩ := hk
  have e2 : (sk == 2) = false := by simpa using k2
  have e3 : (sk == 3) = false := by simpa using k3
  have e4 : (sk == 4) = false := by simpa using k4
  have e5 : (sk == 5) = false := by simpa using k5
  have e6 : (sk == 6) = false := by simpa using k6
  have e7 : (sk == 7) = false := by simpa using k7
  have e8 : (sk == 8) = false := by simpa using k8
  have e9 : (sk == 9) = false := by simpa using k9
  cases hz1 : (sc == 0)
  · go_enter Tryd.func44, Tryd.ntmps44
    go_wp2_with (go_at_call 43; refine (qwithin_any _ _ _ _).mono ?_; rintro e w' ⟨rfl, rfl⟩)
    go_ret
    exact ⟨ret_int (by rw [HR.out]; simp [ofW, noneB, hz1, k2, k3, k4, k5, k6, k7, k8, k9]), by (repeat' (first | (with_reducible exact Below.refl _ _) | (with_reducible assumption) | (with_reducible refine below_drewN ?_ _) | (with_reducible refine Below.drew ?_) | (with_reducible refine Below.alloc ?_ ?_ _) | (with_reducible refine Below.setCell ?_ ?_ _) | (refine Below.trans ?_ (Below.mono (by assumption) ?_)) | go_size))⟩
  · cases hz2 : (so == 0)
    · go_enter Tryd.func44, Tryd.ntmps44
      go_wp2_with (go_at_call 43; refine (qwithin_any _ _ _ _).mono ?_; rintro e w' ⟨rfl, rfl⟩)
      go_ret
      exact ⟨ret_int (by rw [HR.out]; simp [ofW, noneB, hz1, hz2, k2, k3, k4, k5, k6, k7, k8, k9]), by (repeat' (first | (with_reducible exact Below.refl _ _) | (with_reducible assumption) | (with_reducible refine below_drewN ?_ _) | (with_reducible refine Below.drew ?_) | (with_reducible refine Below.alloc ?_ ?_ _) | (with_reducible refine Below.setCell ?_ ?_ _) | (refine Below.trans ?_ (Below.mono (by assumption) ?_)) | go_size))⟩
    · cases hz3 : (sv == 0)
      · go_enter Tryd.func44, Tryd.ntmps44
        go_wp2_with (go_at_call 43; refine (qwithin_any _ _ _ _).mono ?_; rintro e w' ⟨rfl, rfl⟩)
        go_ret
        exact ⟨ret_int (by rw [HR.out]; simp [ofW, noneB, hz1, hz2, hz3, k2, k3, k4, k5, k6, k7, k8, k9]), by (repeat' (first | (with_reducible exact Below.refl _ _) | (with_reducible assumption) | (with_reducible refine below_drewN ?_ _) | (with_reducible refine Below.drew ?_) | (with_reducible refine Below.alloc ?_ ?_ _) | (with_reducible refine Below.setCell ?_ ?_ _) | (refine Below.trans ?_ (Below.mono (by assumption) ?_)) | go_size))⟩
      · go_enter Tryd.func44, Tryd.ntmps44
        go_wp2_with (go_at_call 43; refine (qwithin_any _ _ _ _).mono ?_; rintro e w' ⟨rfl, rfl⟩)
        go_ret
        exact ⟨ret_int (by rw [HR.out]; simp [ofW, noneB, hz1, hz2, hz3, k2, k3, k4, k5, k6, k7, k8, k9]), by (repeat' (first | (with_reducible exact Below.refl _ _) | (with_reducible assumption) | (with_reducible refine below_drewN ?_ _) | (with_reducible refine Below.drew ?_) | (with_reducible refine Below.alloc ?_ ?_ _) | (with_reducible refine Below.setCell ?_ ?_ _) | (refine Below.trans ?_ (Below.mono (by assumption) ?_)) | go_size))⟩

/-- query.of tells a step's width. -/
theorem of_any' (x : SR) (a b : Int) (w : World) (ha : 0 ≤ a ∧ a ≤ 8) (hb : 0 ≤ b ∧ b ≤ 8) (hl : Row w w.heap.size x.A (icells' x.st.list)) (hll : x.st.list.length ≤ 9223372036854775807) :
    Calls Tryd.prog 44 #[.agg x.cells.toArray, .int .i64 a, .int .i64 b] w fun e w' => e = .returned (.int .i64 (ofW x.st a b)) ∧ Below w.heap.size w w' := by
  obtain ⟨⟨sk, sa, sb, sc, so, sv, sl⟩, sA, sK⟩ := x
  simp only at hl hll
  by_cases k2 : sk = 2
  · subst k2; exact of_k2 sa sb sc so sv sl sA sK a b w ha hb hl hll
  by_cases k3 : sk = 3
  · subst k3; exact of_k3 sa sb sc so sv sl sA sK a b w ha hb hl hll
  by_cases k4 : sk = 4
  · subst k4; exact of_k4 sa sb sc so sv sl sA sK a b w ha hb hl hll
  by_cases k5 : sk = 5
  · subst k5; exact of_k5 sa sb sc so sv sl sA sK a b w ha hb hl hll
  by_cases k6 : sk = 6
  · subst k6; exact of_k6 sa sb sc so sv sl sA sK a b w ha hb hl hll
  by_cases k7 : sk = 7
  · subst k7; exact of_k7 sa sb sc so sv sl sA sK a b w ha hb hl hll
  by_cases k8 : sk = 8
  · subst k8; exact of_k8 sa sb sc so sv sl sA sK a b w ha hb hl hll
  by_cases k9 : sk = 9
  · subst k9; exact of_k9 sa sb sc so sv sl sA sK a b w ha hb hl hll
  exact of_k0 sk sa sb sc so sv sl sA sK a b w ha hb hl hll ⟨k2, k3, k4, k5, k6, k7, k8, k9⟩
end Go.Proofs.YtamlaeocojcgdaaDoor
