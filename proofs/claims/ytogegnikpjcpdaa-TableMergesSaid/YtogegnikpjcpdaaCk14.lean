/- DotV, OpenT, FrameU, OpenU -/
import Derived.Test.YtogegnikpjcpdaaCk09
import Derived.Test.YtogegnikpjcpdaaCk13
import Derived.Laws.IdiomArrays
import Derived.Deep.Slices
import Derived.Test.YtogegnikpjcpdaaCk04
import Derived.JoinedCond
/- The frame of DotSays: begun. First lemma: an argument []Dot read by DataW.trod is a Row. -/
namespace Go.Proofs.Ytogegnikpjcpdaa
set_option linter.unusedVariables false
open Go.ChangeShapes Go.WideShapes Go.ChangeAt Go.RowKit Go.Deep

/-- A row from its cells, one dot at a time. -/
theorem Row.of_cells {w : World} {b off n : Nat} (hb : b < w.heap.size) (h : ∀ i, i < n → ∃ x y : Int, w.cell? ⟨b, off + i * 2, none⟩ = some (.int .i64 x) ∧ w.cell? ⟨b, off + i * 2 + 1, none⟩ = some (.int .i64 y)) :
    ∃ l : List (Int × Int), l.length = n ∧ Row w w.heap.size (some ⟨b, off, none⟩) (dcells l) := by
  have h' : ∀ m, m ≤ n → ∃ l : List (Int × Int), l.length = m ∧ ∀ j u, (dcells l)[j]? = some u → w.cell? ⟨b, off + j, none⟩ = some u := by
    intro m
    induction m with
    | zero => exact fun _ => ⟨[], rfl, fun j u hu => by simp [dcells] at hu⟩
    | succ m ih =>
      intro hm
      obtain ⟨l, hl, hc⟩ := ih (by omega)
      obtain ⟨x, y, hx, hy⟩ := h m (by omega)
      refine ⟨l ++ [(x, y)], by simp [hl], fun j u hu => ?_⟩
      have e : dcells (l ++ [(x, y)]) = dcells l ++ [.int .i64 x, .int .i64 y] := by simp [dcells]
      rw [e] at hu
      have hlen := dcells_len l
      by_cases hj : j < (dcells l).length
      · rw [List.getElem?_append_left hj] at hu
        exact hc j u hu
      · rw [List.getElem?_append_right (by omega)] at hu
        rcases (by omega : j = m * 2 ∨ j = m * 2 + 1 ∨ m * 2 + 2 ≤ j) with h1 | h1 | h1
        · have h2 : j - (dcells l).length = 0 := by omega
          rw [h2] at hu
          injection hu with hu
          rw [← hu, h1]; exact hx
        · have h2 : j - (dcells l).length = 1 := by omega
          rw [h2] at hu
          injection hu with hu
          rw [← hu, h1]; exact hy
        · rw [hlen, hl, List.getElem?_eq_none (by simp; omega)] at hu; cases hu
  obtain ⟨l, hl, hc⟩ := h' n (Nat.le_refl _)
  exact ⟨l, hl, .inr ⟨b, off, rfl, hb, hc⟩⟩

set_option maxRecDepth 100000 in
/-- A dot in two cells, as the claim reads it. -/
theorem open_dot {H : Type} {enc : TypeId × Value → H} {w : World} {base n : Nat} {spare : Nat → Bool} {held : Bool} {cs : List Value} {x : DataW H × List MemPlace}
    (h : DataW.trod enc Try.prog w base spare held n 27 cs = some x) : ∃ a b : Int, cs = [.int .i64 a, .int .i64 b] := by
  obtain ⟨xs, n', _, hx, hlen, hxl, hf⟩ := DataW.trod_struct Try.underlying27 h
  have c2 : Try.prog.cellsOf 27 = 2 := by kernel_rfl
  have c1 : Try.prog.cellsOf 3 = 1 := by kernel_rfl
  rw [c2] at hlen
  match cs, hlen with
  | [u, v], _ =>
    match xs, hxl with
    | [y0, y1], _ =>
      have h0 := hf 0 _ rfl
      have h1 := hf 1 _ rfl
      simp only [List.getElem_toArray, List.getElem_cons_zero, List.getElem_cons_succ, List.getElem?_cons_zero, List.getElem?_cons_succ] at h0 h1
      simp only [c1, List.drop_zero, List.take_succ_cons, List.take_zero, List.drop_succ_cons] at h0 h1
      obtain ⟨a, ea, _⟩ := DataW.trod_int Try.underlying3 h0
      obtain ⟨b, eb, _⟩ := DataW.trod_int Try.underlying3 h1
      injection ea with ea
      injection eb with eb
      subst ea eb
      exact ⟨a, b, rfl⟩

set_option maxRecDepth 100000 in
/-- The cells of a list of dots, as the claim reads it, are a row; its length is in an int's reach. -/
theorem open_dots {H : Type} {enc : TypeId × Value → H} {w : World} {base n : Nat} {spare : Nat → Bool} {held : Bool} {cs : List Value} {x : DataW H × List MemPlace}
    (h : DataW.trod enc Try.prog w base spare held n 23 cs = some x) : ∃ (A : Option Addr) (k : Nat) (l : List (Int × Int)), cs = [.slice A l.length k] ∧ Row w w.heap.size A (dcells l) ∧ l.length ≤ 9223372036854775807 := by
  have c2 : Try.prog.cellsOf 27 = 2 := by kernel_rfl
  rcases open_slice Try.underlying23 h with ⟨rfl, _⟩ | ⟨a, len, cap, m, n', D, Pl, rfl, hb, hl, hm, hmm, hx, hi⟩
  · exact ⟨none, 0, [], rfl, Row.nil, by simp⟩
  · by_cases h0 : len = 0
    · subst h0
      exact ⟨some a, cap, [], rfl, Row.nil, by simp⟩
    · have hlm : len ≤ m := by rw [hmm]; split <;> omega
      have hd : ∀ i, i < len → ∃ x y : Int, w.cell? (a.add (i * 2)) = some (.int .i64 x) ∧ w.cell? ((a.add (i * 2)).add 1) = some (.int .i64 y) := by
        intro i hil
        obtain ⟨cs', hc, ht⟩ := hi i (by omega)
        obtain ⟨x, y, rfl⟩ := open_dot ht
        rw [c2] at hc
        obtain ⟨_, _, hat⟩ := World.cells?_some hc
        exact ⟨x, y, by simpa [Addr.add] using hat 0 (by omega), hat 1 (by omega)⟩
      obtain ⟨b, off, spot⟩ := a
      obtain ⟨x0, _, hx0, _⟩ := hd 0 (by omega)
      have hspot : spot = none := by simpa [Addr.add] using World.cell?_spot hx0
      subst hspot
      have hblk : b < w.heap.size := World.block_lt_of_cell? _ _ (by simpa [Addr.add] using hx0)
      obtain ⟨l, hll, hr⟩ := Row.of_cells (w := w) (b := b) (off := off) (n := len) hblk (fun i hil => by
        obtain ⟨x, y, hx, hy⟩ := hd i hil
        rw [add_none] at hx
        rw [add_none, add_none] at hy
        exact ⟨x, y, hx, hy⟩)
      subst hll
      refine ⟨some ⟨b, off, none⟩, cap, l, rfl, hr, ?_⟩
      simp only [maxLen] at hm
      omega

set_option maxRecDepth 100000 in
/-- A context in five cells, as the claim reads it. -/
theorem open_ctx_cells {H : Type} {enc : TypeId × Value → H} {w : World} {base n : Nat} {spare : Nat → Bool} {held : Bool} {cs : List Value} {x : DataW H × List MemPlace}
    (h : DataW.trod enc Try.prog w base spare held n 25 cs = some x) :
    ∃ (c : Ctx) (A : Option Addr) (k : Nat), cs = [.int .i64 c.c0, .int .i64 c.c1, .int .i64 c.c2, .int .i64 c.c3, .slice A c.cloud.length k] ∧ Row w w.heap.size A (dcells c.cloud) ∧ c.cloud.length ≤ 9223372036854775807 := by
  obtain ⟨xs, n', _, hx, hlen, hxl, hf⟩ := DataW.trod_struct Try.underlying25 h
  have c5 : Try.prog.cellsOf 25 = 5 := by kernel_rfl
  have c4 : Try.prog.cellsOf 22 = 4 := by kernel_rfl
  have c1 : Try.prog.cellsOf 23 = 1 := by kernel_rfl
  have ci : Try.prog.cellsOf 3 = 1 := by kernel_rfl
  rw [c5] at hlen
  match cs, hlen with
  | [u0, u1, u2, u3, u4], _ =>
    match xs, hxl with
    | [y0, y1], _ =>
      have h0 := hf 0 _ rfl
      have h1 := hf 1 _ rfl
      simp only [List.getElem_toArray, List.getElem_cons_zero, List.getElem_cons_succ, List.getElem?_cons_zero, List.getElem?_cons_succ] at h0 h1
      simp only [c4, c1, List.drop_zero, List.take_succ_cons, List.take_zero, List.drop_succ_cons] at h0 h1
      obtain ⟨z0, z1, z2, z3, m, _, e0, e1, e2, e3⟩ := trod_array4 Try.underlying22 ci h0
      obtain ⟨a, ea, _⟩ := DataW.trod_int Try.underlying3 e0
      obtain ⟨b, eb, _⟩ := DataW.trod_int Try.underlying3 e1
      obtain ⟨c, ec, _⟩ := DataW.trod_int Try.underlying3 e2
      obtain ⟨d, ed, _⟩ := DataW.trod_int Try.underlying3 e3
      obtain ⟨A, k, l, el, hr, hl⟩ := open_dots h1
      injection ea with ea
      injection eb with eb
      injection ec with ec
      injection ed with ed
      injection el with el
      subst ea eb ec ed el
      exact ⟨⟨a, b, c, d, l⟩, A, k, rfl, hr, hl⟩

set_option maxRecDepth 100000 in
theorem arg_ctx {H : Type} {enc : TypeId × Value → H} {w : World} {r : Reach} {b0 base : Nat} {spare : Nat → Bool} {held : Bool} {v : Value} {d : DataW H} {p : List MemPlace}
    (hv : Value.okWide Try.prog w r b0 25 v) (h : DataW.Trod enc Try.prog w base spare held 25 v d p) :
    ∃ (c : Ctx) (A : Option Addr) (k : Nat), v = cval c A k ∧ Row w w.heap.size A (dcells c.cloud) ∧ c.cloud.length ≤ 9223372036854775807 := by
  obtain ⟨⟨cs⟩, rfl, _⟩ := okWide_struct Try.underlying25 hv
  obtain ⟨n, hn⟩ := h
  obtain ⟨c, A, k, e, hr, hl⟩ := open_ctx_cells hn
  simp only [Value.cells] at e
  subst e
  exact ⟨c, A, k, rfl, hr, hl⟩

set_option maxRecDepth 100000 in
theorem arg_dot {H : Type} {enc : TypeId × Value → H} {w : World} {r : Reach} {b0 base : Nat} {spare : Nat → Bool} {held : Bool} {v : Value} {d : DataW H} {p : List MemPlace}
    (hv : Value.okWide Try.prog w r b0 27 v) (h : DataW.Trod enc Try.prog w base spare held 27 v d p) : ∃ x : Int × Int, v = dval x := by
  obtain ⟨⟨cs⟩, rfl, _⟩ := okWide_struct Try.underlying27 hv
  obtain ⟨n, hn⟩ := h
  obtain ⟨a, b, e⟩ := open_dot hn
  simp only [Value.cells] at e
  subst e
  exact ⟨(a, b), rfl⟩

set_option maxRecDepth 100000 in
theorem arg_dots {H : Type} {enc : TypeId × Value → H} {w : World} {r : Reach} {b0 base : Nat} {spare : Nat → Bool} {held : Bool} {v : Value} {d : DataW H} {p : List MemPlace}
    (hv : Value.okWide Try.prog w r b0 23 v) (h : DataW.Trod enc Try.prog w base spare held 23 v d p) :
    ∃ (A : Option Addr) (k : Nat) (l : List (Int × Int)), v = .slice A l.length k ∧ Row w w.heap.size A (dcells l) ∧ l.length ≤ 9223372036854775807 := by
  obtain ⟨a, n, c, rfl⟩ := okWide_slice Try.underlying23 hv
  obtain ⟨m, hm⟩ := h
  obtain ⟨A, k, l, e, hr, hl⟩ := open_dots hm
  simp only [Value.cells, List.cons.injEq, and_true] at e
  exact ⟨A, k, l, e, hr, hl⟩

set_option maxRecDepth 100000 in
theorem arg_int {H : Type} {enc : TypeId × Value → H} {w : World} {r : Reach} {b0 base : Nat} {spare : Nat → Bool} {held : Bool} {v : Value} {d : DataW H} {p : List MemPlace}
    (hv : Value.okWide Try.prog w r b0 3 v) (h : DataW.Trod enc Try.prog w base spare held 3 v d p) : ∃ n : Int, v = .int .i64 n ∧ (Lit.int .i64 n).wf = true := by
  obtain ⟨n, rfl, _, _, hw⟩ := open_int Try.underlying3 hv h
  exact ⟨n, rfl, hw⟩
end Go.Proofs.Ytogegnikpjcpdaa
/- Arguments that are tables or lists of contexts, as a claim reads them; what the second form's bound gives. -/
namespace Go.Proofs.Ytogegnikpjcpdaa
set_option linter.unusedVariables false
open Go.ChangeShapes Go.WideShapes Go.ChangeAt Go.RowKit Go.Deep

theorem bulk_one {H : Type} (d : DataW H) : 1 ≤ Rows.uptoBulk d := by
  cases d with
  | lit l => cases l <;> simp [Rows.uptoBulk]
  | nil => simp [Rows.uptoBulk]
  | ptr d => simp [Rows.uptoBulk]
  | slice elems spare => simp [Rows.uptoBulk]
  | agg parts => simp [Rows.uptoBulk]
  | iface t d => simp [Rows.uptoBulk]
  | map entries => simp [Rows.uptoBulk]
  | held h => simp [Rows.uptoBulk]
theorem bulk_len {H : Type} (l : List (DataW H)) : l.length ≤ Rows.uptoBulkAll l := by
  induction l with
  | nil => simp [Rows.uptoBulkAll]
  | cons x r ih => have := bulk_one x; simp only [Rows.uptoBulkAll, List.length_cons]; omega
theorem bulk_slice {H : Type} (elems spare : List (DataW H)) : elems.length + 1 ≤ Rows.uptoBulk (.slice elems spare) := by
  have h1 := bulk_len elems
  simp only [Rows.uptoBulk]
  omega
theorem bulk_part {H : Type} {d : DataW H} {l : List (DataW H)} (h : d ∈ l) : Rows.uptoBulk d ≤ Rows.uptoBulkAll l := by
  induction l with
  | nil => cases h
  | cons x r ih =>
    simp only [Rows.uptoBulkAll]
    cases List.mem_cons.1 h with
    | inl e => subst e; omega
    | inr e => have := ih e; omega

set_option maxRecDepth 100000 in
theorem open_cel {H : Type} {enc : TypeId × Value → H} {w : World} {base n : Nat} {spare : Nat → Bool} {held : Bool} {cs : List Value} {x : DataW H × List MemPlace}
    (h : DataW.trod enc Try.prog w base spare held n 62 cs = some x) : ∃ y : Cel, cs = y.cells := by
  obtain ⟨xs, n', _, hx, hlen, hxl, hf⟩ := DataW.trod_struct Try.underlying62 h
  have c5 : Try.prog.cellsOf 62 = 5 := by kernel_rfl
  have c2 : Try.prog.cellsOf 27 = 2 := by kernel_rfl
  have c1 : Try.prog.cellsOf 3 = 1 := by kernel_rfl
  rw [c5] at hlen
  match cs, hlen with
  | [u0, u1, u2, u3, u4], _ =>
    match xs, hxl with
    | [y0, y1, y2, y3], _ =>
      have h0 := hf 0 _ rfl
      have h1 := hf 1 _ rfl
      have h2 := hf 2 _ rfl
      have h3 := hf 3 _ rfl
      simp only [List.getElem_toArray, List.getElem_cons_zero, List.getElem_cons_succ, List.getElem?_cons_zero, List.getElem?_cons_succ] at h0 h1 h2 h3
      simp only [c2, c1, List.drop_zero, List.take_succ_cons, List.take_zero, List.drop_succ_cons] at h0 h1 h2 h3
      obtain ⟨a, b, e0⟩ := open_dot h0
      obtain ⟨c, e1, _⟩ := DataW.trod_int Try.underlying3 h1
      obtain ⟨d, e2, _⟩ := DataW.trod_int Try.underlying3 h2
      obtain ⟨e, e3, _⟩ := DataW.trod_int Try.underlying3 h3
      injection e0 with e0 e0'
      injection e0' with e0' _
      injection e1 with e1
      injection e2 with e2
      injection e3 with e3
      subst e0 e0' e1 e2 e3
      exact ⟨⟨(a, b), c, d, e⟩, rfl⟩

/-- A slice of things of s cells each, as the claim reads it. -/
theorem open_each {α H : Type} {f : α → List Value} {s : Nat} (hf : ∀ x, (f x).length = s) (hs : 0 < s) {Q : α → Prop} {enc : TypeId × Value → H} {w : World} {base n : Nat} {spare : Nat → Bool} {held : Bool} {cs : List Value} {x : DataW H × List MemPlace} {t e : TypeId}
    (ht : Try.prog.underlying t = some (.slice e)) (hc : Try.prog.cellsOf e = s)
    (ho : ∀ n cs y, DataW.trod enc Try.prog w base spare held n e cs = some y → ∃ z : α, Q z ∧ cs = f z)
    (h : DataW.trod enc Try.prog w base spare held n t cs = some x) :
    ∃ (A : Option Addr) (k : Nat) (l : List α), cs = [.slice A l.length k] ∧ Row w w.heap.size A (l.flatMap f) ∧ (∀ z ∈ l, Q z) ∧ l.length ≤ 9223372036854775807 ∧ l.length ≤ Rows.uptoBulk x.1 := by
  rcases open_slice ht h with ⟨rfl, hx⟩ | ⟨a, len, cap, m, n', D, Pl, rfl, hb, hl, hm, hmm, hx, hi⟩
  · exact ⟨none, 0, [], rfl, Row.nil, by simp, by simp, by simp⟩
  · by_cases h0 : len = 0
    · subst h0
      exact ⟨some a, cap, [], rfl, Row.nil, by simp, by simp, by simp⟩
    · have hlm : len ≤ m := by rw [hmm]; split <;> omega
      have hd : ∀ i, i < len → ∃ z : α, Q z ∧ ∀ j u, (f z)[j]? = some u → w.cell? ((a.add (i * s)).add j) = some u := by
        intro i hil
        obtain ⟨cs', hc', ht'⟩ := hi i (by omega)
        obtain ⟨z, hq, rfl⟩ := ho _ _ _ ht'
        rw [hc] at hc'
        obtain ⟨_, _, hat⟩ := World.cells?_some hc'
        refine ⟨z, hq, fun j u hu => ?_⟩
        have hj : j < s := by
          rcases Nat.lt_or_ge j s with q | q
          · exact q
          · rw [List.getElem?_eq_none (by rw [hf]; exact q)] at hu; cases hu
        rw [hat j hj]; exact hu
      obtain ⟨b, off, spot⟩ := a
      obtain ⟨z0, _, hz0⟩ := hd 0 (by omega)
      have hu0 : (f z0)[0]? = some ((f z0)[0]'(by rw [hf]; exact hs)) := List.getElem?_eq_getElem _
      have hx0 := hz0 0 _ hu0
      have hspot : spot = none := by simpa [Addr.add] using World.cell?_spot hx0
      subst hspot
      have hblk : b < w.heap.size := World.block_lt_of_cell? _ _ (by simpa [Addr.add] using hx0)
      obtain ⟨l, hll, hql, hr⟩ := Row.of_each hf (w := w) (b := b) (off := off) (n := len) hblk (Q := Q) (fun i hil => by
        obtain ⟨z, hq, hz⟩ := hd i hil
        refine ⟨z, hq, fun j u hu => ?_⟩
        have := hz j u hu
        rw [add_none, add_none, Nat.add_assoc] at this
        exact this)
      subst hll
      refine ⟨some ⟨b, off, none⟩, cap, l, rfl, hr, hql, ?_, ?_⟩
      · simp only [maxLen] at hm
        omega
      · rw [hx]
        have := bulk_slice ((List.range l.length).map D) ((List.range (m - l.length)).map fun j => D (l.length + j))
        simp only [List.length_map, List.length_range] at this
        simp only
        omega

set_option maxRecDepth 100000 in
theorem arg_ctxs {H : Type} {enc : TypeId × Value → H} {w : World} {r : Reach} {b0 base : Nat} {spare : Nat → Bool} {held : Bool} {v : Value} {d : DataW H} {p : List MemPlace}
    (hv : Value.okWide Try.prog w r b0 51 v) (h : DataW.Trod enc Try.prog w base spare held 51 v d p) :
    ∃ (A : Option Addr) (k : Nat) (L : List CR), v = .slice A L.length k ∧ RowC w w.heap.size A L ∧ L.length ≤ 9223372036854775807 ∧ L.length ≤ Rows.uptoBulk d := by
  obtain ⟨a, n, c, rfl⟩ := okWide_slice Try.underlying51 hv
  obtain ⟨m, hm⟩ := h
  obtain ⟨A, k, L, e, hr, hq, hl, hb⟩ := open_each (f := CR.cells) (Q := fun x : CR => Row w w.heap.size x.A (dcells x.c.cloud) ∧ x.c.cloud.length ≤ 9223372036854775807) CR.len (by decide) Try.underlying51 (by kernel_rfl) (fun n cs y hy => by
    obtain ⟨c, A, k, e, h1, h2⟩ := open_ctx_cells hy
    exact ⟨⟨c, A, k⟩, ⟨h1, h2⟩, e⟩) hm
  simp only [Value.cells, List.cons.injEq, and_true] at e
  exact ⟨A, k, L, e, ⟨hr, hq⟩, hl, hb⟩

set_option maxRecDepth 100000 in
theorem open_tab_cells {H : Type} {enc : TypeId × Value → H} {w : World} {base n : Nat} {spare : Nat → Bool} {held : Bool} {cs : List Value} {x : DataW H × List MemPlace}
    (h : DataW.trod enc Try.prog w base spare held n 59 cs = some x) :
    ∃ (t : Tab) (A : Option Addr) (k : Nat) (B : Option Addr) (m : Nat), cs = [.int .i64 t.c.c0, .int .i64 t.c.c1, .int .i64 t.c.c2, .int .i64 t.c.c3, .slice A t.c.cloud.length k, .slice B t.cells.length m] ∧
      Row w w.heap.size A (dcells t.c.cloud) ∧ t.c.cloud.length ≤ 9223372036854775807 ∧ Row w w.heap.size B (tcells t.cells) ∧ t.cells.length ≤ 9223372036854775807 := by
  obtain ⟨xs, n', _, hx, hlen, hxl, hf⟩ := DataW.trod_struct Try.underlying59 h
  have c6 : Try.prog.cellsOf 59 = 6 := by kernel_rfl
  have c5 : Try.prog.cellsOf 25 = 5 := by kernel_rfl
  have c1 : Try.prog.cellsOf 57 = 1 := by kernel_rfl
  rw [c6] at hlen
  match cs, hlen with
  | [u0, u1, u2, u3, u4, u5], _ =>
    match xs, hxl with
    | [y0, y1], _ =>
      have h0 := hf 0 _ rfl
      have h1 := hf 1 _ rfl
      simp only [List.getElem_toArray, List.getElem_cons_zero, List.getElem_cons_succ, List.getElem?_cons_zero, List.getElem?_cons_succ] at h0 h1
      simp only [c5, c1, List.drop_zero, List.take_succ_cons, List.take_zero, List.drop_succ_cons] at h0 h1
      obtain ⟨c, A, k, e0, r0, l0⟩ := open_ctx_cells h0
      obtain ⟨B, m, l, e1, r1, -, l1, -⟩ := open_each (f := Cel.cells) (Q := fun _ => True) Cel.len (by decide) Try.underlying57 (by kernel_rfl) (fun n cs y hy => by
        obtain ⟨z, e⟩ := open_cel hy
        exact ⟨z, trivial, e⟩) h1
      simp only [List.cons.injEq, and_true] at e0 e1
      obtain ⟨rfl, rfl, rfl, rfl, rfl⟩ := e0
      subst e1
      exact ⟨⟨c, l⟩, A, k, B, m, rfl, r0, l0, r1, l1⟩

set_option maxRecDepth 100000 in
theorem arg_table {H : Type} {enc : TypeId × Value → H} {w : World} {r : Reach} {b0 base : Nat} {spare : Nat → Bool} {held : Bool} {v : Value} {d : DataW H} {p : List MemPlace}
    (hv : Value.okWide Try.prog w r b0 59 v) (h : DataW.Trod enc Try.prog w base spare held 59 v d p) :
    ∃ (t : Tab) (A : Option Addr) (k : Nat) (B : Option Addr) (m : Nat), v = tval t A k B m ∧ Row w w.heap.size A (dcells t.c.cloud) ∧ t.c.cloud.length ≤ 9223372036854775807 ∧ Row w w.heap.size B (tcells t.cells) ∧ t.cells.length ≤ 9223372036854775807 := by
  obtain ⟨⟨cs⟩, rfl, _⟩ := okWide_struct Try.underlying59 hv
  obtain ⟨n, hn⟩ := h
  obtain ⟨t, A, k, B, m, e, r0, l0, r1, l1⟩ := open_tab_cells hn
  simp only [Value.cells] at e
  subst e
  exact ⟨t, A, k, B, m, rfl, r0, l0, r1, l1⟩
end Go.Proofs.Ytogegnikpjcpdaa
/- The frame of the second form ('..UptoSaid'): as Frame's, with the bound handed to the walk. -/
namespace Go.Proofs.Ytogegnikpjcpdaa
set_option linter.unusedVariables false
open Go.ChangeShapes Go.WideShapes Go.ChangeAt Go.RowKit

theorem law_lifted_upto {C : Checked} {os : Os} {f : FuncId} {fn : Func} {s : ChangeSpec} {conds : List PathCond} {H : Type} {enc : TypeId × Value → H} {F : Stop.Interp} {tb : TypeId}
    (own : ownKnob C.prog.godebug = none) (started : os.Started) (noInit : C.prog.inits.idxOf? f = none) (hfn : C.prog.funcs[f]? = some fn)
    (witness : ∃ (w : World) (tape : Tape) (i : Input), w.os = os ∧ (w.forCall tape i).Shaped C.prog ∧ i.vars = [] ∧ Input.okWide C.prog (w.forCall tape i) .any w.heap.size f i ∧
      (Rows.OpenSpec.upto s).pre6 enc C.prog fn conds false (w.forCall tape i).memory i.args ∧ ({} : Assume).holds C.prog (lone (Frame.enter C.prog f i.args .normal) [] (w.forCall tape i)))
    (hl : laidOutB C.prog = true) (hts : ∀ t ∈ fn.params.toList, C.prog.readableRec t = true ∧ t < C.prog.types.size) (hres : fn.resultTypes = #[tb]) (hbool : C.prog.underlying tb = some .bool) (hvars : s.vars = [])
    (hspec : ∀ es : List (DataW H), es.length = fn.params.toList.length → s.fn H es = { results := [.lit (.bool true)], args := es })
    (walk : ∀ (W : World) (base : Nat) (args : Array Value) (ds : List (DataW H)) (ps : List MemPlace),
      (∀ (j : Nat) t v, fn.params[j]? = some t → args[j]? = some v → Value.okWide C.prog W .any base t v) → DataW.TrodAll enc C.prog W 0 (fun _ => true) true fn.params.toList args.toList ds ps → Rows.uptoBulkAll ds ≤ 1048576 →
      Calls C.prog f args W fun e W' => e = .returned (.bool true) ∧ Below W.heap.size W W') :
    ReturnsInHanded {} C os f .any ((Rows.OpenSpec.upto s).pre6 enc C.prog fn conds false) (((Rows.OpenSpec.upto s).at F).post enc C.prog fn false true false false) := by
  refine returnsInHanded_of_cond (C := C) (s := Rows.OpenSpec.upto s) (k := Rows.uptoSmall) rfl own started noInit hfn witness ?_
  intro W base args ds gs before hval hW hcnd hk _
  have hW' := hW
  obtain ⟨p, q, hA, hV, _⟩ := hW
  have hb : Rows.uptoBulkAll ds ≤ 1048576 := by
    have h : Rows.uptoBulkAll (ds ++ gs) ≤ 1048576 := of_decide_eq_true hk
    have happ : ∀ (l r : List (DataW H)), Rows.uptoBulkAll (l ++ r) = Rows.uptoBulkAll l + Rows.uptoBulkAll r := by
      intro l r
      induction l with
      | nil => simp [Rows.uptoBulkAll]
      | cons x l ih => simp only [List.cons_append, Rows.uptoBulkAll, ih]; omega
    rw [happ] at h
    omega
  refine (walk W base args ds p hval hA hb).mono fun e W' ⟨he, hb⟩ => ?_
  exact ⟨_, he, law_post (s := s) hl hts hres hbool hvars hspec hW' hb⟩
end Go.Proofs.Ytogegnikpjcpdaa
/- A table as a claim of the second form reads it. -/
namespace Go.Proofs.Ytogegnikpjcpdaa
set_option linter.unusedVariables false
open Go.ChangeShapes Go.WideShapes Go.ChangeAt Go.RowKit Go.Deep

set_option maxRecDepth 100000 in
theorem open_tab_cellsU {H : Type} {enc : TypeId × Value → H} {w : World} {base n : Nat} {spare : Nat → Bool} {held : Bool} {cs : List Value} {x : DataW H × List MemPlace}
    (h : DataW.trod enc Try.prog w base spare held n 59 cs = some x) :
    ∃ (t : Tab) (A : Option Addr) (k : Nat) (B : Option Addr) (m : Nat), cs = [.int .i64 t.c.c0, .int .i64 t.c.c1, .int .i64 t.c.c2, .int .i64 t.c.c3, .slice A t.c.cloud.length k, .slice B t.cells.length m] ∧
      Row w w.heap.size A (dcells t.c.cloud) ∧ t.c.cloud.length ≤ 9223372036854775807 ∧ Row w w.heap.size B (tcells t.cells) ∧ t.cells.length ≤ 9223372036854775807 ∧ t.cells.length ≤ Rows.uptoBulk x.1 := by
  obtain ⟨xs, n', _, hx, hlen, hxl, hf⟩ := DataW.trod_struct Try.underlying59 h
  have c6 : Try.prog.cellsOf 59 = 6 := by kernel_rfl
  have c5 : Try.prog.cellsOf 25 = 5 := by kernel_rfl
  have c1 : Try.prog.cellsOf 57 = 1 := by kernel_rfl
  rw [c6] at hlen
  match cs, hlen with
  | [u0, u1, u2, u3, u4, u5], _ =>
    match xs, hxl with
    | [y0, y1], _ =>
      have h0 := hf 0 _ rfl
      have h1 := hf 1 _ rfl
      simp only [List.getElem_toArray, List.getElem_cons_zero, List.getElem_cons_succ, List.getElem?_cons_zero, List.getElem?_cons_succ] at h0 h1
      simp only [c5, c1, List.drop_zero, List.take_succ_cons, List.take_zero, List.drop_succ_cons] at h0 h1
      obtain ⟨c, A, k, e0, r0, l0⟩ := open_ctx_cells h0
      obtain ⟨B, m, l, e1, r1, -, l1, b1⟩ := open_each (f := Cel.cells) (Q := fun _ => True) Cel.len (by decide) Try.underlying57 (by kernel_rfl) (fun n cs y hy => by
        obtain ⟨z, e⟩ := open_cel hy
        exact ⟨z, trivial, e⟩) h1
      simp only [List.cons.injEq, and_true] at e0 e1
      obtain ⟨rfl, rfl, rfl, rfl, rfl⟩ := e0
      subst e1
      exact ⟨⟨c, l⟩, A, k, B, m, rfl, r0, l0, r1, l1, by rw [hx]; simp only [List.map_cons, List.map_nil, Rows.uptoBulk, Rows.uptoBulkAll]; omega⟩

set_option maxRecDepth 100000 in
theorem arg_tableU {H : Type} {enc : TypeId × Value → H} {w : World} {r : Reach} {b0 base : Nat} {spare : Nat → Bool} {held : Bool} {v : Value} {d : DataW H} {p : List MemPlace}
    (hv : Value.okWide Try.prog w r b0 59 v) (h : DataW.Trod enc Try.prog w base spare held 59 v d p) :
    ∃ (t : Tab) (A : Option Addr) (k : Nat) (B : Option Addr) (m : Nat), v = tval t A k B m ∧ Row w w.heap.size A (dcells t.c.cloud) ∧ t.c.cloud.length ≤ 9223372036854775807 ∧ Row w w.heap.size B (tcells t.cells) ∧ t.cells.length ≤ 9223372036854775807 ∧ t.cells.length ≤ Rows.uptoBulk d := by
  obtain ⟨⟨cs⟩, rfl, _⟩ := okWide_struct Try.underlying59 hv
  obtain ⟨n, hn⟩ := h
  obtain ⟨t, A, k, B, m, e, r0, l0, r1, l1, b1⟩ := open_tab_cellsU hn
  simp only [Value.cells] at e
  subst e
  exact ⟨t, A, k, B, m, rfl, r0, l0, r1, l1, b1⟩
end Go.Proofs.Ytogegnikpjcpdaa
