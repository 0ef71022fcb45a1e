/- Contracts: slices.Index, slices.Contains at Dot; dot.Has, viewref.Has. -/
import Derived.Test.YtogegnikpjcpdaaDotA
namespace Go.Proofs.Ytogegnikpjcpdaa
set_option linter.unusedVariables false
open Go.ChangeShapes Go.WideShapes Go.ChangeAt Go.RowKit

abbrev dcells (l : List (Int × Int)) : List Value := l.flatMap fun d => [.int .i64 d.1, .int .i64 d.2]

theorem dcells_get : ∀ (l : List (Int × Int)) (k : Nat) (h : k < l.length), (dcells l)[k * 2]? = some (.int .i64 l[k].1) ∧ (dcells l)[k * 2 + 1]? = some (.int .i64 l[k].2)
  | d :: l, 0, _ => by simp
  | d :: l, k + 1, h => by
    have := dcells_get l k (by simpa using h)
    simpa [Nat.add_mul, List.flatMap_cons, List.getElem?_append] using this

theorem dcells_len (l : List (Int × Int)) : (dcells l).length = 2 * l.length := by
  induction l with
  | nil => rfl
  | cons d l ih => simp [List.flatMap_cons] at *; omega

theorem Row.dot {w : World} {B : Nat} {A : Option Addr} {l : List (Int × Int)} (h : Row w B A (dcells l)) {k : Nat} (hk : k < l.length) :
    ∃ b off, A = some ⟨b, off, none⟩ ∧ b < B ∧ w.cell? ⟨b, off + k * 2, none⟩ = some (.int .i64 l[k].1) ∧ w.cell? ⟨b, off + k * 2 + 1, none⟩ = some (.int .i64 l[k].2) := by
  obtain ⟨b, off, h1, h2, h3⟩ := h.at_ (k := 0) (by rw [dcells_len]; omega)
  have := dcells_get l k hk
  exact ⟨b, off, h1, h2, h3 _ _ this.1, by rw [Nat.add_assoc]; exact h3 _ _ this.2⟩

theorem under_dot : Try.prog.underlying 27 = some (.struct (Try.prog.fieldsOf 27)) := by kernel_rfl
theorem stood_dot : Try.prog.stoodInHeld 27 = false := by kernel_rfl
theorem guard_dot : Try.prog.eqGuardType Try.prog.depth 27 = false := by kernel_rfl
theorem eql_dot (a b c d : Int) (w : World) : (binOp .eql 27 (.agg #[.int .i64 a, .int .i64 b]) (.agg #[.int .i64 c, .int .i64 d])).run Try.prog w = .ok (.bool (a == c && b == d)) w := by
  have h1 := under_dot
  have h2 := stood_dot
  simp only [run_eql_struct, run_equalIn_agg _ _ _ _ _ h1 h2]
  simp [go_sem]
  by_cases ha : a = c <;> by_cases hb : b = d <;> simp [ha, hb, go_sem]

def IdxPost (p : Prop) (w : World) (e : Ending) (w' : World) : Prop := ∃ i : Int, e = .returned (.int .i64 i) ∧ (0 ≤ i ↔ p) ∧ Below w.heap.size w w'

set_option maxRecDepth 100000 in
theorem index_any (l : List (Int × Int)) (v0 v1 : Int) (A : Option Addr) (c : Nat) (w : World) (hr : Row w w.heap.size A (dcells l)) (hl : l.length ≤ 9223372036854775807) :
    Calls Try.prog 97 #[.slice A l.length c, .agg #[.int .i64 v0, .int .i64 v1]] w (IdxPost ((v0, v1) ∈ l) w) := by
  go_enter Try.func97, Try.ntmps97
  go_wp2
  go_loopw [8] (fun i wr => (∃ k : Nat, k ≤ l.length ∧ i = .int .i64 k ∧ ∀ j (h : j < l.length), j < k → l[j] ≠ (v0, v1)) ∧ Below (w.heap.size + 1) (w.alloc (.cells #[.int .i64 v0, .int .i64 v1] 27)) wr) (fun i _ => l.length - (intOf i).toNat)
  case atStart => exact ⟨⟨0, by omega, rfl, fun j _ h => absurd h (by omega)⟩, Below.refl _ _⟩
  case round =>
    obtain ⟨⟨k, hk, rfl, hno⟩, hbw⟩ := hrel
    by_cases hlt : k < l.length
    · have hr1 := (hr.below (Below.alloc (Below.refl _ _) (Nat.le_refl _) _) (Nat.le_refl _)).below (hbw.mono (Nat.le_succ _)) (Nat.le_refl _)
      obtain ⟨b, off, rfl, hb, h0, h1⟩ := hr1.dot hlt
      have d0 : wr.cell? ⟨w.heap.size, 0, none⟩ = some (.int .i64 v0) := by rw [(bcell hbw).1 _ _ (by omega)]; simp [go_sem]
      have d1 : wr.cell? ⟨w.heap.size, 1, none⟩ = some (.int .i64 v1) := by rw [(bcell hbw).1 _ _ (by omega)]; simp [go_sem]
      have HN := hid hno
      have HB := hid hbw
      clear hno hr hr1 hbw
      go_wp2
      have g1 := guard_dot
      have g2 := eql_dot
      go_quiet (fail)
      go_wp2
      · have ht : (v0 == l[k].1) = true ∧ (v1 == l[k].2) = true := by assumption
        go_ret
        refine ⟨k, rfl, iff_of_true (by omega) ?_, ((Below.refl _ _).alloc (Nat.le_refl _) _).trans (below_drewN (HB.out.mono (Nat.le_succ _)) _)⟩
        have e : (v0, v1) = l[k] := by ext <;> simp_all
        rw [e]; exact List.getElem_mem _
      · have ht : (v0 == l[k].1) = false ∨ (v1 == l[k].2) = false := by assumption
        go_roundw
        case rel =>
          refine ⟨⟨k + 1, by omega, by go_num, fun j h hj => ?_⟩, below_drewN HB.out _⟩
          by_cases e : j = k
          · subst e; intro h2; rw [h2] at ht; simp at ht
          · exact HN.out j h (by omega)
        case measure => simp [intOf]; omega
    · go_wp2
      go_ret
      refine ⟨-1, rfl, iff_of_false (by omega) ?_, ((Below.refl _ _).alloc (Nat.le_refl _) _).trans (hbw.mono (Nat.le_succ _))⟩
      intro hm
      obtain ⟨j, hj, e⟩ := List.getElem_of_mem hm
      exact hno j hj (by omega) e

theorem contains_any (l : List (Int × Int)) (v0 v1 : Int) (A : Option Addr) (c : Nat) (w : World) (hr : Row w w.heap.size A (dcells l)) (hl : l.length ≤ 9223372036854775807) :
    Calls Try.prog 67 #[.slice A l.length c, .agg #[.int .i64 v0, .int .i64 v1]] w fun e w' => e = .returned (.bool (decide ((v0, v1) ∈ l))) ∧ Below w.heap.size w w' := by
  have H := index_any l v0 v1 A c (w.alloc (.cells #[.int .i64 v0, .int .i64 v1] 27)) ((hr.below (Below.alloc (Below.refl _ _) (Nat.le_refl _) _) (Nat.le_refl _)).more (by simp)) hl
  have HR := hid hr
  clear hr
  go_enter Try.func67, Try.ntmps67
  go_wp2_with (go_at_call 97; refine H.mono ?_; rintro e w' ⟨i, rfl, hi, hb⟩)
  go_ret
  refine ⟨?_, ((Below.refl _ _).alloc (Nat.le_refl _) _).trans (hb.mono (by simp))⟩
  by_cases h : (v0, v1) ∈ l <;> simp_all

end Go.Proofs.Ytogegnikpjcpdaa
