/- The frame of DotSays: begun. First lemma: an argument []Dot read by DataW.trod is a Row. -/
import Derived.Test.YtogegnikpjcpdaaDotU
import Derived.Test.YtogegnikpjcpdaaFrame
import Derived.Laws.IdiomArrays
import Derived.Deep.Slices
namespace Go.Proofs.Ytogegnikpjcpdaa
set_option linter.unusedVariables false
open Go.ChangeShapes Go.WideShapes Go.ChangeAt Go.RowKit Go.Deep

/-- A row from its cells, one dot at a time. -/
theorem Row.of_cells {w : World} {b off n : Nat} (hb : b < w.heap.size) (h : ∀ i, i < n → ∃ x y : Int, w.cell? ⟨b, off + i * 2, none⟩ = some (.int .i64 x) ∧ w.cell? ⟨b, off + i * 2 + 1, none⟩ = some (.int .i64 y)) :
    ∃ l : List (Int × Int), l.length = n ∧ Row w w.heap.size (some ⟨b, off, none⟩) (dcells l) := by
  have h' : ∀ m, m ≤ n → ∃ l : List (Int × Int), l.length = m ∧ ∀ j u, (dcells l)[j]? = some u → w.cell? ⟨b, off + j, none⟩ = some u := by
    intro m
    induction m with
    | zero => exact fun _ => ⟨[], rfl, fun j u hu => by simp [dcells] at hu⟩
    | succ m ih =>
      intro hm
      obtain ⟨l, hl, hc⟩ := ih (by omega)
      obtain ⟨x, y, hx, hy⟩ := h m (by omega)
      refine ⟨l ++ [(x, y)], by simp [hl], fun j u hu => ?_⟩
      have e : dcells (l ++ [(x, y)]) = dcells l ++ [.int .i64 x, .int .i64 y] := by simp [dcells]
      rw [e] at hu
      have hlen := dcells_len l
      by_cases hj : j < (dcells l).length
      · rw [List.getElem?_append_left hj] at hu
        exact hc j u hu
      · rw [List.getElem?_append_right (by omega)] at hu
        rcases (by omega : j = m * 2 ∨ j = m * 2 + 1 ∨ m * 2 + 2 ≤ j) with h1 | h1 | h1
        · have h2 : j - (dcells l).length = 0 := by omega
          rw [h2] at hu
          injection hu with hu
          rw [← hu, h1]; exact hx
        · have h2 : j - (dcells l).length = 1 := by omega
          rw [h2] at hu
          injection hu with hu
          rw [← hu, h1]; exact hy
        · rw [hlen, hl, List.getElem?_eq_none (by simp; omega)] at hu; cases hu
  obtain ⟨l, hl, hc⟩ := h' n (Nat.le_refl _)
  exact ⟨l, hl, .inr ⟨b, off, rfl, hb, hc⟩⟩

set_option maxRecDepth 100000 in
/-- A dot in two cells, as the claim reads it. -/
theorem open_dot {H : Type} {enc : TypeId × Value → H} {w : World} {base n : Nat} {spare : Nat → Bool} {held : Bool} {cs : List Value} {x : DataW H × List MemPlace}
    (h : DataW.trod enc Try.prog w base spare held n 27 cs = some x) : ∃ a b : Int, cs = [.int .i64 a, .int .i64 b] := by
  obtain ⟨xs, n', _, hx, hlen, hxl, hf⟩ := DataW.trod_struct Try.underlying27 h
  have c2 : Try.prog.cellsOf 27 = 2 := by kernel_rfl
  have c1 : Try.prog.cellsOf 3 = 1 := by kernel_rfl
  rw [c2] at hlen
  match cs, hlen with
  | [u, v], _ =>
    match xs, hxl with
    | [y0, y1], _ =>
      have h0 := hf 0 _ rfl
      have h1 := hf 1 _ rfl
      simp only [List.getElem_toArray, List.getElem_cons_zero, List.getElem_cons_succ, List.getElem?_cons_zero, List.getElem?_cons_succ] at h0 h1
      simp only [c1, List.drop_zero, List.take_succ_cons, List.take_zero, List.drop_succ_cons] at h0 h1
      obtain ⟨a, ea, _⟩ := DataW.trod_int Try.underlying3 h0
      obtain ⟨b, eb, _⟩ := DataW.trod_int Try.underlying3 h1
      injection ea with ea
      injection eb with eb
      subst ea eb
      exact ⟨a, b, rfl⟩

set_option maxRecDepth 100000 in
/-- The cells of a list of dots, as the claim reads it, are a row; its length is in an int's reach. -/
theorem open_dots {H : Type} {enc : TypeId × Value → H} {w : World} {base n : Nat} {spare : Nat → Bool} {held : Bool} {cs : List Value} {x : DataW H × List MemPlace}
    (h : DataW.trod enc Try.prog w base spare held n 23 cs = some x) : ∃ (A : Option Addr) (k : Nat) (l : List (Int × Int)), cs = [.slice A l.length k] ∧ Row w w.heap.size A (dcells l) ∧ l.length ≤ 9223372036854775807 := by
  have c2 : Try.prog.cellsOf 27 = 2 := by kernel_rfl
  rcases open_slice Try.underlying23 h with ⟨rfl, _⟩ | ⟨a, len, cap, m, n', D, Pl, rfl, hb, hl, hm, hmm, hx, hi⟩
  · exact ⟨none, 0, [], rfl, Row.nil, by simp⟩
  · by_cases h0 : len = 0
    · subst h0
      exact ⟨some a, cap, [], rfl, Row.nil, by simp⟩
    · have hlm : len ≤ m := by rw [hmm]; split <;> omega
      have hd : ∀ i, i < len → ∃ x y : Int, w.cell? (a.add (i * 2)) = some (.int .i64 x) ∧ w.cell? ((a.add (i * 2)).add 1) = some (.int .i64 y) := by
        intro i hil
        obtain ⟨cs', hc, ht⟩ := hi i (by omega)
        obtain ⟨x, y, rfl⟩ := open_dot ht
        rw [c2] at hc
        obtain ⟨_, _, hat⟩ := World.cells?_some hc
        exact ⟨x, y, by simpa [Addr.add] using hat 0 (by omega), hat 1 (by omega)⟩
      obtain ⟨b, off, spot⟩ := a
      obtain ⟨x0, _, hx0, _⟩ := hd 0 (by omega)
      have hspot : spot = none := by simpa [Addr.add] using World.cell?_spot hx0
      subst hspot
      have hblk : b < w.heap.size := World.block_lt_of_cell? _ _ (by simpa [Addr.add] using hx0)
      obtain ⟨l, hll, hr⟩ := Row.of_cells (w := w) (b := b) (off := off) (n := len) hblk (fun i hil => by
        obtain ⟨x, y, hx, hy⟩ := hd i hil
        rw [add_none] at hx
        rw [add_none, add_none] at hy
        exact ⟨x, y, hx, hy⟩)
      subst hll
      refine ⟨some ⟨b, off, none⟩, cap, l, rfl, hr, ?_⟩
      simp only [maxLen] at hm
      omega

set_option maxRecDepth 100000 in
/-- A context in five cells, as the claim reads it. -/
theorem open_ctx_cells {H : Type} {enc : TypeId × Value → H} {w : World} {base n : Nat} {spare : Nat → Bool} {held : Bool} {cs : List Value} {x : DataW H × List MemPlace}
    (h : DataW.trod enc Try.prog w base spare held n 25 cs = some x) :
    ∃ (c : Ctx) (A : Option Addr) (k : Nat), cs = [.int .i64 c.c0, .int .i64 c.c1, .int .i64 c.c2, .int .i64 c.c3, .slice A c.cloud.length k] ∧ Row w w.heap.size A (dcells c.cloud) ∧ c.cloud.length ≤ 9223372036854775807 := by
  obtain ⟨xs, n', _, hx, hlen, hxl, hf⟩ := DataW.trod_struct Try.underlying25 h
  have c5 : Try.prog.cellsOf 25 = 5 := by kernel_rfl
  have c4 : Try.prog.cellsOf 22 = 4 := by kernel_rfl
  have c1 : Try.prog.cellsOf 23 = 1 := by kernel_rfl
  have ci : Try.prog.cellsOf 3 = 1 := by kernel_rfl
  rw [c5] at hlen
  match cs, hlen with
  | [u0, u1, u2, u3, u4], _ =>
    match xs, hxl with
    | [y0, y1], _ =>
      have h0 := hf 0 _ rfl
      have h1 := hf 1 _ rfl
      simp only [List.getElem_toArray, List.getElem_cons_zero, List.getElem_cons_succ, List.getElem?_cons_zero, List.getElem?_cons_succ] at h0 h1
      simp only [c4, c1, List.drop_zero, List.take_succ_cons, List.take_zero, List.drop_succ_cons] at h0 h1
      obtain ⟨z0, z1, z2, z3, m, _, e0, e1, e2, e3⟩ := trod_array4 Try.underlying22 ci h0
      obtain ⟨a, ea, _⟩ := DataW.trod_int Try.underlying3 e0
      obtain ⟨b, eb, _⟩ := DataW.trod_int Try.underlying3 e1
      obtain ⟨c, ec, _⟩ := DataW.trod_int Try.underlying3 e2
      obtain ⟨d, ed, _⟩ := DataW.trod_int Try.underlying3 e3
      obtain ⟨A, k, l, el, hr, hl⟩ := open_dots h1
      injection ea with ea
      injection eb with eb
      injection ec with ec
      injection ed with ed
      injection el with el
      subst ea eb ec ed el
      exact ⟨⟨a, b, c, d, l⟩, A, k, rfl, hr, hl⟩

set_option maxRecDepth 100000 in
theorem arg_ctx {H : Type} {enc : TypeId × Value → H} {w : World} {r : Reach} {b0 base : Nat} {spare : Nat → Bool} {held : Bool} {v : Value} {d : DataW H} {p : List MemPlace}
    (hv : Value.okWide Try.prog w r b0 25 v) (h : DataW.Trod enc Try.prog w base spare held 25 v d p) :
    ∃ (c : Ctx) (A : Option Addr) (k : Nat), v = cval c A k ∧ Row w w.heap.size A (dcells c.cloud) ∧ c.cloud.length ≤ 9223372036854775807 := by
  obtain ⟨⟨cs⟩, rfl, _⟩ := okWide_struct Try.underlying25 hv
  obtain ⟨n, hn⟩ := h
  obtain ⟨c, A, k, e, hr, hl⟩ := open_ctx_cells hn
  simp only [Value.cells] at e
  subst e
  exact ⟨c, A, k, rfl, hr, hl⟩

set_option maxRecDepth 100000 in
theorem arg_dot {H : Type} {enc : TypeId × Value → H} {w : World} {r : Reach} {b0 base : Nat} {spare : Nat → Bool} {held : Bool} {v : Value} {d : DataW H} {p : List MemPlace}
    (hv : Value.okWide Try.prog w r b0 27 v) (h : DataW.Trod enc Try.prog w base spare held 27 v d p) : ∃ x : Int × Int, v = dval x := by
  obtain ⟨⟨cs⟩, rfl, _⟩ := okWide_struct Try.underlying27 hv
  obtain ⟨n, hn⟩ := h
  obtain ⟨a, b, e⟩ := open_dot hn
  simp only [Value.cells] at e
  subst e
  exact ⟨(a, b), rfl⟩

set_option maxRecDepth 100000 in
theorem arg_dots {H : Type} {enc : TypeId × Value → H} {w : World} {r : Reach} {b0 base : Nat} {spare : Nat → Bool} {held : Bool} {v : Value} {d : DataW H} {p : List MemPlace}
    (hv : Value.okWide Try.prog w r b0 23 v) (h : DataW.Trod enc Try.prog w base spare held 23 v d p) :
    ∃ (A : Option Addr) (k : Nat) (l : List (Int × Int)), v = .slice A l.length k ∧ Row w w.heap.size A (dcells l) ∧ l.length ≤ 9223372036854775807 := by
  obtain ⟨a, n, c, rfl⟩ := okWide_slice Try.underlying23 hv
  obtain ⟨m, hm⟩ := h
  obtain ⟨A, k, l, e, hr, hl⟩ := open_dots hm
  simp only [Value.cells, List.cons.injEq, and_true] at e
  exact ⟨A, k, l, e, hr, hl⟩

set_option maxRecDepth 100000 in
theorem arg_int {H : Type} {enc : TypeId × Value → H} {w : World} {r : Reach} {b0 base : Nat} {spare : Nat → Bool} {held : Bool} {v : Value} {d : DataW H} {p : List MemPlace}
    (hv : Value.okWide Try.prog w r b0 3 v) (h : DataW.Trod enc Try.prog w base spare held 3 v d p) : ∃ n : Int, v = .int .i64 n ∧ (Lit.int .i64 n).wf = true := by
  obtain ⟨n, rfl, _, _, hw⟩ := open_int Try.underlying3 hv h
  exact ⟨n, rfl, hw⟩
end Go.Proofs.Ytogegnikpjcpdaa
