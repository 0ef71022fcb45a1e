/- slices.IndexFunc, ContainsFunc at Context; stable.all and its predicate. -/
import Derived.Test.YtogegnikpjcpdaaFlat
import Derived.Test.YtogegnikpjcpdaaMeetP
namespace Go.Proofs.Ytogegnikpjcpdaa
set_option linter.unusedVariables false
open Go.ChangeShapes Go.WideShapes Go.ChangeAt Go.RowKit

def PredC (g : Nat) (caps : Array Value) (p : Ctx → Bool) (L : List CR) (w : World) : Prop :=
  ∀ w', Below w.heap.size w w' → ∀ x ∈ L, Calls Try.prog g (#[cval x.c x.A x.k] ++ caps) w' fun e w'' => e = .returned (.bool (p x.c)) ∧ Below w'.heap.size w' w''

set_option maxHeartbeats 400000 in
set_option maxRecDepth 100000 in
theorem indexFuncC_any (g : Nat) (caps : Array Value) (p : Ctx → Bool) (L : List CR) (A : Option Addr) (c : Nat) (w : World) (hr : RowC w w.heap.size A L) (hl : L.length ≤ 9223372036854775807)
    (eg : ∀ args w, (callFunc g args).run Try.prog w = .ok (.enter g args) w) (hp : PredC g caps p L w) :
    Calls Try.prog 74 #[.slice A L.length c, .func (.func g) #[] caps] w (IdxPost ((CR.ctxs L).any p = true) w) := by
  have HR := hid hr
  clear hr
  go_enter Try.func74, Try.ntmps74
  go_wp2
  go_loopw [8] (fun i wr => (∃ k : Nat, k ≤ L.length ∧ i = .int .i64 k ∧ ∀ j (h : j < L.length), j < k → p L[j].c = false) ∧ Below w.heap.size w wr) (fun i _ => L.length - (intOf i).toNat)
  case atStart => exact ⟨⟨0, by omega, rfl, fun j _ h => absurd h (by omega)⟩, Below.refl _ _⟩
  case round =>
    obtain ⟨⟨k, hk, rfl, hno⟩, hbw⟩ := hrel
    by_cases hlt : k < L.length
    · obtain ⟨b, off, rfl, hb, h0, h1, h2, h3, h4, -, -⟩ := (HR.out.below hbw (Nat.le_refl _)).at_ hlt
      have hc := hp wr hbw L[k] (List.getElem_mem _)
      have HN := hid hno
      have HB := hid hbw
      have HC := hid hc
      clear hno hbw hc
      generalize hd : L[k] = d at *
      obtain ⟨⟨d0, d1, d2, d3, dl⟩, dA, dk⟩ := d
      have HD := hid hd
      clear hd
      simp only at h0 h1 h2 h3 h4
      simp only [cval] at HC
      cases hpd : p ⟨d0, d1, d2, d3, dl⟩
      all_goals
        rw [hpd] at HC
        have HP := hid hpd
        clear hpd
        go_wp2_with (refine (HC.out).mono ?_; rintro e w1 ⟨rfl, hb1⟩)
      · go_roundw
        case rel =>
          refine ⟨⟨k + 1, by omega, by go_num, fun j h hj => ?_⟩, HB.out.trans (hb1.mono HB.out.size)⟩
          by_cases e : j = k
          · subst e; rw [HD.out]; exact HP.out
          · exact HN.out j h (by omega)
        case measure => simp [intOf]; omega
      · go_ret
        refine ⟨k, rfl, iff_of_true (by omega) (List.any_eq_true.2 ⟨L[k].c, List.mem_map.2 ⟨L[k], List.getElem_mem _, rfl⟩, by rw [HD.out]; exact HP.out⟩), HB.out.trans (hb1.mono HB.out.size)⟩
    · go_wp2
      go_ret
      refine ⟨-1, rfl, iff_of_false (by omega) ?_, hbw⟩
      intro hm
      obtain ⟨d, hd, e⟩ := List.any_eq_true.1 hm
      obtain ⟨x, hx, rfl⟩ := List.mem_map.1 hd
      obtain ⟨j, hj, rfl⟩ := List.getElem_of_mem hx
      rw [hno j hj (by omega)] at e
      cases e

theorem containsFuncC_any (g : Nat) (caps : Array Value) (p : Ctx → Bool) (L : List CR) (A : Option Addr) (c : Nat) (w : World) (hr : RowC w w.heap.size A L) (hl : L.length ≤ 9223372036854775807)
    (eg : ∀ args w, (callFunc g args).run Try.prog w = .ok (.enter g args) w) (hp : PredC g caps p L w) :
    Calls Try.prog 37 #[.slice A L.length c, .func (.func g) #[] caps] w fun e w' => e = .returned (.bool ((CR.ctxs L).any p)) ∧ Below w.heap.size w w' := by
  have H := indexFuncC_any g caps p L A c w hr hl eg hp
  have HR := hid hr
  have HP := hid hp
  clear hr eg hp
  generalize CR.ctxs L = M at *
  go_enter Try.func37, Try.ntmps37
  go_wp2_with (go_at_call 74; refine H.mono ?_; rintro e w' ⟨i, rfl, hi, hb⟩)
  go_ret
  refine ⟨ret_bool ?_, hb⟩
  rw [Bool.eq_iff_iff, decide_eq_true_eq, List.any_eq_true]

theorem allF_any (x : CR) (X : Nat) (d : Int × Int) (w : World) (hX : Blk w X #[.int .i64 d.1, .int .i64 d.2] 27) (rb : Row w w.heap.size x.A (dcells x.c.cloud)) (lb : x.c.cloud.length ≤ 9223372036854775807) :
    Calls Try.prog 100 #[cval x.c x.A x.k, .pointer (some ⟨X, 0, none⟩)] w fun e w' => e = .returned (.bool (!hasB x.c d)) ∧ Below w.heap.size w w' := by
  have HH := hid (fun w1 (hb : Below w.heap.size w w1) => has_any x.c d x.A x.k w1 (rb.step hb) lb)
  have hlt := hX.lt
  obtain ⟨c1, f1⟩ := hX.cells
  clear hX rb f1
  obtain ⟨d0, d1⟩ := d
  obtain ⟨⟨b0, b1, b2, b3, bl⟩, B, m⟩ := x
  simp only [cval, dval] at *
  generalize hasB ⟨b0, b1, b2, b3, bl⟩ (d0, d1) = I at *
  go_enter Try.func100, Try.ntmps100
  go_wp2_with fail
  refine (HH.out _ (by (repeat' (first | (with_reducible exact Below.refl _ _) | (with_reducible assumption) | (with_reducible refine below_drewN ?_ _) | (with_reducible refine Below.drew ?_) | (with_reducible refine Below.alloc ?_ ?_ _) | (with_reducible refine Below.setCell ?_ ?_ _) | (refine Below.trans ?_ (Below.mono (by assumption) ?_)) | go_size)))).mono ?_
  rintro e w1 ⟨rfl, hb1⟩
  go_wp2
  go_ret
  exact ⟨rfl, (by refine Below.step' ?_ hb1; (repeat' (first | (with_reducible exact Below.refl _ _) | (with_reducible assumption) | (with_reducible refine below_drewN ?_ _) | (with_reducible refine Below.drew ?_) | (with_reducible refine Below.alloc ?_ ?_ _) | (with_reducible refine Below.setCell ?_ ?_ _) | (refine Below.trans ?_ (Below.mono (by assumption) ?_)) | go_size)))⟩

theorem enters_allF : ∀ args w, (callFunc 100 args).run Try.prog w = .ok (.enter 100 args) w := enters_of Try.func100 (by kernel_rfl) rfl

theorem not_anyC (L : List Ctx) (f : Ctx → Bool) : (!L.any (fun d => !f d)) = L.all f := by
  induction L with
  | nil => rfl
  | cons x l ih => simp only [List.any_cons, List.all_cons, ← ih]; cases f x <;> simp

theorem all_any (L : List CR) (d : Int × Int) (A : Option Addr) (c : Nat) (w : World) (hr : RowC w w.heap.size A L) (hl : L.length ≤ 9223372036854775807) :
    Calls Try.prog 72 #[.slice A L.length c, dval d] w fun e w' => e = .returned (.bool (allB (CR.ctxs L) d)) ∧ Below w.heap.size w w' := by
  have HCF := hid (fun w1 X (hb : Below w.heap.size w w1) (hX : Blk w1 X #[.int .i64 d.1, .int .i64 d.2] 27) => containsFuncC_any 100 #[.pointer (some ⟨X, 0, none⟩)] (fun c => !hasB c d) L A c w1 (hr.step hb) hl enters_allF
    (fun w2 hb2 x hx => allF_any x X d w2 (hX.step hb2) (((hr.step hb).step hb2).2 x hx).1 (hr.2 x hx).2))
  have HE := hid (not_anyC (CR.ctxs L) (fun c => hasB c d))
  clear hr
  obtain ⟨d0, d1⟩ := d
  simp only [dval, allB] at *
  generalize (CR.ctxs L).all (fun c => hasB c (d0, d1)) = R at *
  generalize ((CR.ctxs L).any fun c => !hasB c (d0, d1)) = S at *
  go_enter Try.func72, Try.ntmps72
  go_wp2_with fail
  refine (HCF.out _ w.heap.size ?_ ?_).mono ?_
  · (repeat' (first | (with_reducible exact Below.refl _ _) | (with_reducible assumption) | (with_reducible refine below_drewN ?_ _) | (with_reducible refine Below.drew ?_) | (with_reducible refine Below.alloc ?_ ?_ _) | (with_reducible refine Below.setCell ?_ ?_ _) | (refine Below.trans ?_ (Below.mono (by assumption) ?_)) | go_size))
  · exact Blk.new w _ _
  rintro e w1 ⟨rfl, hb1⟩
  go_wp2
  go_ret
  exact ⟨ret_bool HE.out, (by refine Below.step' ?_ hb1; (repeat' (first | (with_reducible exact Below.refl _ _) | (with_reducible assumption) | (with_reducible refine below_drewN ?_ _) | (with_reducible refine Below.drew ?_) | (with_reducible refine Below.alloc ?_ ?_ _) | (with_reducible refine Below.setCell ?_ ?_ _) | (refine Below.trans ?_ (Below.mono (by assumption) ?_)) | go_size)))⟩
end Go.Proofs.Ytogegnikpjcpdaa
