/- Contracts of slices.IndexFunc, ContainsFunc at Dot, and of the predicates handed to them. -/
import Derived.Test.YtogegnikpjcpdaaDotF
import Derived.Shelf.Abstract
namespace Go.Proofs.Ytogegnikpjcpdaa
set_option linter.unusedVariables false
open Go.ChangeShapes Go.WideShapes Go.ChangeAt Go.RowKit

/-- What is asked of a function value: handed a dot of the list, in whatever later world, it answers p, and leaves what was there. -/
def PredD (g : Nat) (caps : Array Value) (p : Int × Int → Bool) (l : List (Int × Int)) (w : World) : Prop :=
  ∀ w', Below w.heap.size w w' → ∀ d ∈ l, Calls Try.prog g (#[dval d] ++ caps) w' fun e w'' => e = .returned (.bool (p d)) ∧ Below w'.heap.size w' w''

set_option maxHeartbeats 400000 in
set_option maxRecDepth 100000 in
theorem indexFunc_any (g : Nat) (caps : Array Value) (p : Int × Int → Bool) (l : List (Int × Int)) (A : Option Addr) (c : Nat) (w : World) (hr : Row w w.heap.size A (dcells l)) (hl : l.length ≤ 9223372036854775807)
    (eg : ∀ args w, (callFunc g args).run Try.prog w = .ok (.enter g args) w) (hp : PredD g caps p l w) :
    Calls Try.prog 65 #[.slice A l.length c, .func (.func g) #[] caps] w (IdxPost (l.any p = true) w) := by
  have HR := hid hr
  clear hr
  go_enter Try.func65, Try.ntmps65
  go_wp2
  go_loopw [8] (fun i wr => (∃ k : Nat, k ≤ l.length ∧ i = .int .i64 k ∧ ∀ j (h : j < l.length), j < k → p l[j] = false) ∧ Below w.heap.size w wr) (fun i _ => l.length - (intOf i).toNat)
  case atStart => exact ⟨⟨0, by omega, rfl, fun j _ h => absurd h (by omega)⟩, Below.refl _ _⟩
  case round =>
    obtain ⟨⟨k, hk, rfl, hno⟩, hbw⟩ := hrel
    by_cases hlt : k < l.length
    · obtain ⟨b, off, rfl, hb, h0, h1⟩ := (HR.out.below hbw (Nat.le_refl _)).dot hlt
      have hc := hp wr hbw l[k] (List.getElem_mem _)
      have HN := hid hno
      have HB := hid hbw
      have HC := hid hc
      clear hno hbw hc
      generalize hd : l[k] = d at *
      obtain ⟨d0, d1⟩ := d
      have HD := hid hd
      clear hd
      simp only at h0 h1
      cases hpd : p (d0, d1)
      all_goals
        rw [hpd] at HC
        have HP := hid hpd
        clear hpd
        go_wp2_with (refine (HC.out).mono ?_; rintro e w1 ⟨rfl, hb1⟩)
      · go_roundw
        case rel =>
          refine ⟨⟨k + 1, by omega, by go_num, fun j h hj => ?_⟩, HB.out.trans (hb1.mono HB.out.size)⟩
          by_cases e : j = k
          · subst e; rw [HD.out]; exact HP.out
          · exact HN.out j h (by omega)
        case measure => simp [intOf]; omega
      · go_ret
        refine ⟨k, rfl, iff_of_true (by omega) (List.any_eq_true.2 ⟨l[k], List.getElem_mem _, by rw [HD.out]; exact HP.out⟩), HB.out.trans (hb1.mono HB.out.size)⟩
    · go_wp2
      go_ret
      refine ⟨-1, rfl, iff_of_false (by omega) ?_, hbw⟩
      intro hm
      obtain ⟨d, hd, e⟩ := List.any_eq_true.1 hm
      obtain ⟨j, hj, rfl⟩ := List.getElem_of_mem hd
      rw [hno j hj (by omega)] at e
      cases e

theorem containsFunc_any (g : Nat) (caps : Array Value) (p : Int × Int → Bool) (l : List (Int × Int)) (A : Option Addr) (c : Nat) (w : World) (hr : Row w w.heap.size A (dcells l)) (hl : l.length ≤ 9223372036854775807)
    (eg : ∀ args w, (callFunc g args).run Try.prog w = .ok (.enter g args) w) (hp : PredD g caps p l w) :
    Calls Try.prog 17 #[.slice A l.length c, .func (.func g) #[] caps] w fun e w' => e = .returned (.bool (l.any p)) ∧ Below w.heap.size w w' := by
  have H := indexFunc_any g caps p l A c w hr hl eg hp
  have HR := hid hr
  have HP := hid hp
  clear hr eg hp
  go_enter Try.func17, Try.ntmps17
  go_wp2_with (go_at_call 65; refine H.mono ?_; rintro e w' ⟨i, rfl, hi, hb⟩)
  go_ret
  refine ⟨ret_bool ?_, hb⟩
  cases h : l.any p
  · rw [h] at hi; simpa using hi
  · rw [h] at hi; simpa using hi

theorem notRight_any (d : Int × Int) (w : World) :
    Calls Try.prog 62 #[dval d] w fun e w' => e = .returned (.bool (!rightB d.1 d.2)) ∧ Below w.heap.size w w' := by
  obtain ⟨n, s⟩ := d
  simp only [dval]
  go_enter Try.func62, Try.ntmps62
  go_wp2_with (go_at_call 63; refine (right_any _ _ _).mono ?_; rintro e w' ⟨rfl, hb⟩)
  go_ret
  exact ⟨rfl, by (repeat' (first | (with_reducible exact Below.refl _ _) | (with_reducible assumption) | (with_reducible refine below_drewN ?_ _) | (with_reducible refine Below.drew ?_) | (with_reducible refine Below.alloc ?_ ?_ _) | (with_reducible refine Below.setCell ?_ ?_ _) | (refine Below.trans ?_ (Below.mono (by assumption) ?_)) | go_size))⟩

theorem enters_makeF : ∀ args w, (callFunc 62 args).run Try.prog w = .ok (.enter 62 args) w := enters_of Try.func62 (by kernel_rfl) rfl
theorem predMake (l : List (Int × Int)) (w : World) : PredD 62 #[] (fun d => !rightB d.1 d.2) l w := fun w' _ d _ => notRight_any d w'
end Go.Proofs.Ytogegnikpjcpdaa
