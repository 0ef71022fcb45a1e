/- slices.Compact at Dot, over a row that the call owns. -/
import Derived.Test.YtogegnikpjcpdaaDotK
import Derived.Shelf.Slices.CompactI
namespace Go.Proofs.Ytogegnikpjcpdaa
set_option linter.unusedVariables false
open Go.ChangeShapes Go.WideShapes Go.ChangeAt Go.RowKit

/-- Runs of equal neighbours, each once. -/
def cpt : List (Int × Int) → List (Int × Int)
  | [] => []
  | [a] => [a]
  | a :: b :: r => if a = b then cpt (b :: r) else a :: cpt (b :: r)

theorem cpt_snoc (x : Int × Int) : ∀ l : List (Int × Int), cpt (l ++ [x]) = if l.getLast? = some x then cpt l else cpt l ++ [x]
  | [] => by simp [cpt]
  | [a] => by
    by_cases h : a = x <;> simp [cpt, h]
  | a :: b :: r => by
    have ih := cpt_snoc x (b :: r)
    simp only [List.cons_append] at ih ⊢
    simp only [cpt, List.getLast?_cons_cons]
    rw [ih]
    by_cases h : a = b <;> by_cases h2 : (b :: r).getLast? = some x <;> simp [h, h2]

theorem cpt_same : ∀ l : List (Int × Int), (∀ j (h : j + 1 < l.length), l[j + 1] ≠ l[j]) → cpt l = l
  | [], _ => rfl
  | [a], _ => rfl
  | a :: b :: r, h => by
    have h0 := h 0 (by simp)
    simp at h0
    rw [cpt, if_neg (fun e => h0 e.symm), cpt_same (b :: r) (fun j hj => by have := h (j + 1) (by simp at hj ⊢; omega); simpa using this)]

theorem own_dot {w : World} {B n cap g : Nat} {T : TypeId} {l : List (Int × Int)} (h : w.ownsRow B T 2 (.slice (some ⟨g, 0, none⟩) n cap) n (dcells l)) {k : Nat} (hk : k < l.length) :
    w.cell? ⟨g, k * 2, none⟩ = some (.int .i64 l[k].1) ∧ w.cell? ⟨g, k * 2 + 1, none⟩ = some (.int .i64 l[k].2) := by
  obtain ⟨g0, g1⟩ := dcells_get l k hk
  have h0 := h.cells (g := g) rfl _ _ g0
  have h1 := h.cells (g := g) rfl _ _ g1
  rw [add_none, Nat.zero_add] at h0 h1
  exact ⟨h0, h1⟩

theorem own_short {w : World} {B n cap g k : Nat} {T : TypeId} {xs : List Value} (h : w.ownsRow B T 2 (.slice (some ⟨g, 0, none⟩) n cap) n xs) (hk : k ≤ n) :
    w.ownsRow B T 2 (.slice (some ⟨g, 0, none⟩) k cap) k (xs.take (k * 2)) := by
  rcases h.2 with ⟨h', _⟩ | ⟨g', cap', cur, h', hb, hg, hnc, hcm, hcs, htake⟩
  · cases h'
  · simp only [Value.slice.injEq, Option.some.injEq, Addr.mk.injEq, and_true, true_and] at h'
    obtain ⟨rfl, rfl⟩ := h'
    refine ⟨by rw [List.length_take, h.1]; omega, .inr ⟨g, cap, cur, rfl, hb, hg, by omega, hcm, hcs, ?_⟩⟩
    rw [← htake, List.take_take, Nat.min_eq_left (by omega)]

theorem own_beyond {B n cap g : Nat} {T : TypeId} {xs : List Value} : ∀ (vs : List Value) (w : World) (off : Nat), w.ownsRow B T 2 (.slice (some ⟨g, 0, none⟩) n cap) n xs → n * 2 ≤ off →
    (w.setCells g off vs).ownsRow B T 2 (.slice (some ⟨g, 0, none⟩) n cap) n xs ∧ w.grownBy (w.setCells g off vs) (some g)
  | [], w, off, h, _ => ⟨h, ⟨rfl, rfl, rfl, Nat.le_refl _, fun _ _ _ => rfl⟩⟩
  | v :: vs, w, off, h, ho => by
    have hs := h.stored off v
    have e : xs.set off v = xs := List.set_eq_of_length_le (by rw [h.1]; exact ho)
    rw [e] at hs
    obtain ⟨h1, h2⟩ := own_beyond vs _ (off + 1) hs.1 (by omega)
    rw [World.setCells]
    exact ⟨h1, ⟨h2.os.trans hs.2.os, h2.tape.trans hs.2.tape, h2.output.trans hs.2.output, Nat.le_trans hs.2.size h2.size, fun k hk hne => (h2.block k (Nat.lt_of_lt_of_le hk hs.2.size) hne).trans (hs.2.block k hk hne)⟩⟩

theorem grown_trans {w w1 w2 : World} {row : Option Nat} (h1 : w.grownBy w1 row) (h2 : w1.grownBy w2 row) : w.grownBy w2 row :=
  ⟨h2.os.trans h1.os, h2.tape.trans h1.tape, h2.output.trans h1.output, Nat.le_trans h1.size h2.size, fun k hk hne => (h2.block k (Nat.lt_of_lt_of_le hk h1.size) hne).trans (h1.block k hk hne)⟩
theorem grown_drewN {w w1 : World} {row : Option Nat} (h1 : w.grownBy w1 row) (n : Nat) : w.grownBy (w1.drewN n) row := ⟨h1.os, h1.tape, h1.output, h1.size, h1.block⟩
theorem grown_refl (w : World) (row : Option Nat) : w.grownBy w row := ⟨rfl, rfl, rfl, Nat.le_refl _, fun _ _ _ => rfl⟩

theorem dcells_set : ∀ (l : List (Int × Int)) (k : Nat) (d : Int × Int), ((dcells l).set (k * 2) (.int .i64 d.1)).set (k * 2 + 1) (.int .i64 d.2) = dcells (l.set k d)
  | [], k, d => by simp
  | a :: l, 0, d => by simp [List.flatMap_cons]
  | a :: l, k + 1, d => by
    have ih := dcells_set l k d
    have e : (k + 1) * 2 = k * 2 + 1 + 1 := by omega
    simp only [dcells, List.flatMap_cons, List.set_cons_succ, e] at ih ⊢
    simpa using ih

theorem own_store {w : World} {B n cap g : Nat} {T : TypeId} {l : List (Int × Int)} (h : w.ownsRow B T 2 (.slice (some ⟨g, 0, none⟩) n cap) n (dcells l)) (k : Nat) (d : Int × Int) :
    ((w.setCell ⟨g, k * 2, none⟩ (.int .i64 d.1)).setCell ⟨g, k * 2 + 1, none⟩ (.int .i64 d.2)).ownsRow B T 2 (.slice (some ⟨g, 0, none⟩) n cap) n (dcells (l.set k d)) ∧
      w.grownBy ((w.setCell ⟨g, k * 2, none⟩ (.int .i64 d.1)).setCell ⟨g, k * 2 + 1, none⟩ (.int .i64 d.2)) (some g) := by
  have h1 := h.stored (k * 2) (.int .i64 d.1)
  have h2 := h1.1.stored (k * 2 + 1) (.int .i64 d.2)
  rw [dcells_set] at h2
  exact ⟨h2.1, grown_trans h1.2 h2.2⟩

/-- Within the inner loop: of the first m places the runs stand in the first kk; from m - 1 on all is as it was. -/
structure CInv (l : List (Int × Int)) (m kk : Nat) (ds : List (Int × Int)) : Prop where
  len : ds.length = l.length
  lt : kk + 1 ≤ m
  low : ds.take kk = cpt (l.take m)
  high : ∀ j (h : j < l.length) (h' : j < ds.length), m ≤ j + 1 → ds[j] = l[j]

theorem CInv.skip {l ds : List (Int × Int)} {m kk : Nat} (h : CInv l m kk ds) (hm : m < l.length) (hm0 : 0 < m) (he : l[m] = l[m - 1]) : CInv l (m + 1) kk ds := by
  refine ⟨h.len, by have := h.lt; omega, ?_, fun j hj hj' hm' => h.high j hj hj' (by omega)⟩
  rw [List.take_succ_eq_append_getElem hm, cpt_snoc, if_pos, h.low]
  rw [List.getLast?_eq_getElem?, List.length_take, Nat.min_eq_left (by omega), List.getElem?_take_of_lt (by omega), List.getElem?_eq_getElem (by omega), he]

theorem CInv.keep {l ds : List (Int × Int)} {m kk : Nat} (h : CInv l m kk ds) (hm : m < l.length) (hm0 : 0 < m) (he : l[m] ≠ l[m - 1]) : CInv l (m + 1) (kk + 1) (ds.set kk l[m]) := by
  have hlt := h.lt
  have hlen := h.len
  refine ⟨by simpa using hlen, by omega, ?_, fun j hj hj' hm' => ?_⟩
  · rw [List.take_succ_eq_append_getElem hm, cpt_snoc, if_neg, ← h.low, List.take_succ_eq_append_getElem (by simp; omega)]
    · simp [List.take_set_of_le]
    · rw [List.getLast?_eq_getElem?, List.length_take, Nat.min_eq_left (by omega), List.getElem?_take_of_lt (by omega), List.getElem?_eq_getElem (by omega)]
      intro e
      injection e with e
      exact he e.symm
  · rw [List.getElem_set_ne (by omega)]
    exact h.high j hj (by simpa using hj') (by omega)

theorem CInv.start {l : List (Int × Int)} {k : Nat} (hk : k < l.length) (hk0 : 0 < k) (hall : ∀ j (h : j + 1 < l.length), j + 1 < k → l[j + 1] ≠ l[j]) (he : l[k] = l[k - 1]) : CInv l (k + 1) k l := by
  refine ⟨rfl, Nat.le_refl _, ?_, fun _ _ _ _ => rfl⟩
  rw [List.take_succ_eq_append_getElem hk, cpt_snoc, if_pos]
  · rw [cpt_same]
    intro j hj
    simp at hj
    simp only [List.getElem_take]
    exact hall j (by omega) (by omega)
  · rw [List.getLast?_eq_getElem?, List.length_take, Nat.min_eq_left (by omega), List.getElem?_take_of_lt (by omega), List.getElem?_eq_getElem (by omega), he]
end Go.Proofs.Ytogegnikpjcpdaa
