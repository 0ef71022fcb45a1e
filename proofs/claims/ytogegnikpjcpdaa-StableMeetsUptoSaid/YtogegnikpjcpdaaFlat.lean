/- Rows of things of more than one cell: contexts in a list, cells of a table. No program in sight. -/
import Derived.Test.YtogegnikpjcpdaaLess
namespace Go.Proofs.Ytogegnikpjcpdaa
set_option linter.unusedVariables false
open Go.RowKit

theorem flat_len {α β : Type} {f : α → List β} {n : Nat} (hf : ∀ x, (f x).length = n) : ∀ (L : List α), (L.flatMap f).length = L.length * n
  | [] => by simp
  | x :: L => by rw [List.flatMap_cons, List.length_append, hf, flat_len hf L, List.length_cons, Nat.succ_mul, Nat.add_comm]
theorem flat_get {α β : Type} {f : α → List β} {n : Nat} (hf : ∀ x, (f x).length = n) : ∀ (L : List α) (k : Nat) (h : k < L.length) (j : Nat), j < n → (L.flatMap f)[k * n + j]? = (f L[k])[j]?
  | x :: L, 0, _, j, hj => by
    rw [List.flatMap_cons, Nat.zero_mul, Nat.zero_add, List.getElem?_append_left (by rw [hf]; exact hj)]; rfl
  | x :: L, k + 1, h, j, hj => by
    rw [List.flatMap_cons, List.getElem?_append_right (by rw [hf, Nat.succ_mul]; omega), hf, show (k + 1) * n + j - n = k * n + j by rw [Nat.succ_mul]; omega]
    exact flat_get hf L k (by simpa using h) j hj
theorem flat_take {α β : Type} {f : α → List β} {n : Nat} (hf : ∀ x, (f x).length = n) : ∀ (L : List α) (k : Nat), (L.flatMap f).take (k * n) = (L.take k).flatMap f
  | [], k => by simp
  | x :: L, 0 => by simp
  | x :: L, k + 1 => by
    rw [List.flatMap_cons, List.take_succ_cons, List.flatMap_cons, Nat.succ_mul, Nat.add_comm, ← flat_take hf L k]
    rw [List.take_append, hf, List.take_of_length_le (by rw [hf]; omega), Nat.add_sub_cancel_left]

/-- What lies at the k-th thing of a row. -/
theorem Row.flat {α : Type} {f : α → List Value} {n : Nat} (hf : ∀ x, (f x).length = n) {w : World} {B : Nat} {A : Option Addr} {L : List α} (h : Row w B A (L.flatMap f)) (hn : 0 < n) {k : Nat} (hk : k < L.length) :
    ∃ b off, A = some ⟨b, off, none⟩ ∧ b < B ∧ ∀ j u, (f L[k])[j]? = some u → w.cell? ⟨b, off + k * n + j, none⟩ = some u := by
  have hlen : 0 < (L.flatMap f).length := by rw [flat_len hf]; exact Nat.mul_pos (by omega) hn
  obtain ⟨b, off, h1, h2, h3⟩ := h.at_ hlen
  refine ⟨b, off, h1, h2, fun j u hu => ?_⟩
  have hj : j < n := by
    rcases Nat.lt_or_ge j n with h | h
    · exact h
    · rw [List.getElem?_eq_none (by rw [hf]; exact h)] at hu; cases hu
  have := h3 (k * n + j) u (by rw [flat_get hf L k hk j hj]; exact hu)
  rw [← Nat.add_assoc] at this
  exact this

/-- A row from its cells, one thing at a time. -/
theorem Row.of_each {α : Type} {f : α → List Value} {s : Nat} (hf : ∀ x, (f x).length = s) {w : World} {b off n : Nat} (hb : b < w.heap.size) {Q : α → Prop}
    (h : ∀ i, i < n → ∃ x : α, Q x ∧ ∀ j u, (f x)[j]? = some u → w.cell? ⟨b, off + (i * s + j), none⟩ = some u) :
    ∃ l : List α, l.length = n ∧ (∀ x ∈ l, Q x) ∧ Row w w.heap.size (some ⟨b, off, none⟩) (l.flatMap f) := by
  have h' : ∀ m, m ≤ n → ∃ l : List α, l.length = m ∧ (∀ x ∈ l, Q x) ∧ ∀ j u, (l.flatMap f)[j]? = some u → w.cell? ⟨b, off + j, none⟩ = some u := by
    intro m
    induction m with
    | zero => exact fun _ => ⟨[], rfl, by simp, fun j u hu => by simp at hu⟩
    | succ m ih =>
      intro hm
      obtain ⟨l, hl, hq, hc⟩ := ih (by omega)
      obtain ⟨x, hqx, hx⟩ := h m (by omega)
      refine ⟨l ++ [x], by simp [hl], fun y hy => ?_, fun j u hu => ?_⟩
      · rcases List.mem_append.1 hy with h1 | h1
        · exact hq y h1
        · simp only [List.mem_singleton] at h1; rw [h1]; exact hqx
      · have e : (l ++ [x]).flatMap f = l.flatMap f ++ f x := by simp
        rw [e] at hu
        have hlen := flat_len hf l
        by_cases hj : j < (l.flatMap f).length
        · rw [List.getElem?_append_left hj] at hu
          exact hc j u hu
        · rw [List.getElem?_append_right (by omega)] at hu
          have := hx _ u hu
          rw [hlen, hl, show m * s + (j - m * s) = j by rw [hlen, hl] at hj; omega] at this
          exact this
  obtain ⟨l, hl, hq, hc⟩ := h' n (Nat.le_refl _)
  exact ⟨l, hl, hq, .inr ⟨b, off, rfl, hb, hc⟩⟩

/-- A context, and where its cloud lies. -/
structure CR where
  c : Ctx
  A : Option Addr
  k : Nat
abbrev CR.cells (x : CR) : List Value := [.int .i64 x.c.c0, .int .i64 x.c.c1, .int .i64 x.c.c2, .int .i64 x.c.c3, .slice x.A x.c.cloud.length x.k]
abbrev ccells (L : List CR) : List Value := L.flatMap CR.cells
theorem CR.len (x : CR) : x.cells.length = 5 := rfl
/-- A list of contexts lies at A, their clouds too. -/
def RowC (w : World) (B : Nat) (A : Option Addr) (L : List CR) : Prop := Row w B A (ccells L) ∧ ∀ x ∈ L, Row w B x.A (dcells x.c.cloud) ∧ x.c.cloud.length ≤ 9223372036854775807
theorem RowC.below {w w' : World} {B C : Nat} {A : Option Addr} {L : List CR} (h : RowC w B A L) (hb : Below C w w') (hB : B ≤ C) : RowC w' B A L :=
  ⟨h.1.below hb hB, fun x hx => ⟨(h.2 x hx).1.below hb hB, (h.2 x hx).2⟩⟩
theorem RowC.more {w : World} {B C : Nat} {A : Option Addr} {L : List CR} (h : RowC w B A L) (hB : B ≤ C) : RowC w C A L := ⟨h.1.more hB, fun x hx => ⟨(h.2 x hx).1.more hB, (h.2 x hx).2⟩⟩
theorem RowC.step {w w' : World} {A : Option Addr} {L : List CR} (h : RowC w w.heap.size A L) (hb : Below w.heap.size w w') : RowC w' w'.heap.size A L := (h.below hb (Nat.le_refl _)).more hb.size
theorem RowC.at_ {w : World} {B : Nat} {A : Option Addr} {L : List CR} (h : RowC w B A L) {k : Nat} (hk : k < L.length) :
    ∃ b off, A = some ⟨b, off, none⟩ ∧ b < B ∧ w.cell? ⟨b, off + k * 5, none⟩ = some (.int .i64 L[k].c.c0) ∧ w.cell? ⟨b, off + k * 5 + 1, none⟩ = some (.int .i64 L[k].c.c1) ∧ w.cell? ⟨b, off + k * 5 + 2, none⟩ = some (.int .i64 L[k].c.c2) ∧
      w.cell? ⟨b, off + k * 5 + 3, none⟩ = some (.int .i64 L[k].c.c3) ∧ w.cell? ⟨b, off + k * 5 + 4, none⟩ = some (.slice L[k].A L[k].c.cloud.length L[k].k) ∧ Row w B L[k].A (dcells L[k].c.cloud) ∧ L[k].c.cloud.length ≤ 9223372036854775807 := by
  obtain ⟨b, off, h1, h2, h3⟩ := Row.flat CR.len h.1 (by omega) hk
  exact ⟨b, off, h1, h2, h3 0 _ rfl, h3 1 _ rfl, h3 2 _ rfl, h3 3 _ rfl, h3 4 _ rfl, (h.2 _ (List.getElem_mem _)).1, (h.2 _ (List.getElem_mem _)).2⟩
theorem RowC.clk {w : World} {B b off : Nat} {L : List CR} (h : RowC w B (some ⟨b, off, none⟩) L) {k : Nat} (hk : k < L.length) {n : Nat} (hn : n < 4) : w.cell? ⟨b, off + k * 5 + n, none⟩ = some (.int .i64 (L[k].c.at_ n)) ∧ b < B := by
  obtain ⟨b', off', hA, hb, c0, c1, c2, c3, c4, -, -⟩ := h.at_ hk
  injection hA with hA
  injection hA with h1 h2
  subst h1 h2
  refine ⟨?_, hb⟩
  rcases (by omega : n = 0 ∨ n = 1 ∨ n = 2 ∨ n = 3) with e | e | e | e <;> subst e
  · exact c0
  · exact c1
  · exact c2
  · exact c3
theorem RowC.five {w : World} {B b off : Nat} {L : List CR} (h : RowC w B (some ⟨b, off, none⟩) L) {k : Nat} (hk : k < L.length) :
    b < B ∧ w.cell? ⟨b, off + k * 5, none⟩ = some (.int .i64 L[k].c.c0) ∧ w.cell? ⟨b, off + k * 5 + 1, none⟩ = some (.int .i64 L[k].c.c1) ∧ w.cell? ⟨b, off + k * 5 + 2, none⟩ = some (.int .i64 L[k].c.c2) ∧
      w.cell? ⟨b, off + k * 5 + 3, none⟩ = some (.int .i64 L[k].c.c3) ∧ w.cell? ⟨b, off + k * 5 + 4, none⟩ = some (.slice L[k].A L[k].c.cloud.length L[k].k) := by
  obtain ⟨b', off', hA, hb, c0, c1, c2, c3, c4, -, -⟩ := h.at_ hk
  injection hA with hA
  injection hA with h1 h2
  subst h1 h2
  exact ⟨hb, c0, c1, c2, c3, c4⟩
abbrev CR.ctxs (L : List CR) : List Ctx := L.map CR.c

/-- A cell of a table. -/
structure Cel where
  d : Int × Int
  key : Int
  col : Int
  val : Int
instance : DecidableEq Cel := fun a b => decidable_of_iff (a.d = b.d ∧ a.key = b.key ∧ a.col = b.col ∧ a.val = b.val) (by cases a; cases b; simp)
abbrev Cel.cells (x : Cel) : List Value := [.int .i64 x.d.1, .int .i64 x.d.2, .int .i64 x.key, .int .i64 x.col, .int .i64 x.val]
abbrev tcells (l : List Cel) : List Value := l.flatMap Cel.cells
theorem Cel.len (x : Cel) : x.cells.length = 5 := rfl
theorem tcells_len (l : List Cel) : (tcells l).length = l.length * 5 := flat_len Cel.len l
theorem tcells_one (l : List Cel) : ∀ u ∈ tcells l, u.oneCell' = true := by
  intro u hu
  obtain ⟨x, -, hx⟩ := List.mem_flatMap.1 hu
  simp only [Cel.cells, List.mem_cons, List.not_mem_nil, or_false] at hx
  rcases hx with rfl | rfl | rfl | rfl | rfl <;> rfl
theorem Row.cel {w : World} {B : Nat} {A : Option Addr} {l : List Cel} (h : Row w B A (tcells l)) {k : Nat} (hk : k < l.length) :
    ∃ b off, A = some ⟨b, off, none⟩ ∧ b < B ∧ w.cell? ⟨b, off + k * 5, none⟩ = some (.int .i64 l[k].d.1) ∧ w.cell? ⟨b, off + k * 5 + 1, none⟩ = some (.int .i64 l[k].d.2) ∧ w.cell? ⟨b, off + k * 5 + 2, none⟩ = some (.int .i64 l[k].key) ∧
      w.cell? ⟨b, off + k * 5 + 3, none⟩ = some (.int .i64 l[k].col) ∧ w.cell? ⟨b, off + k * 5 + 4, none⟩ = some (.int .i64 l[k].val) := by
  obtain ⟨b, off, h1, h2, h3⟩ := Row.flat Cel.len h (by omega) hk
  exact ⟨b, off, h1, h2, h3 0 _ rfl, h3 1 _ rfl, h3 2 _ rfl, h3 3 _ rfl, h3 4 _ rfl⟩

structure Tab where
  c : Ctx
  cells : List Cel
/-- A table's value. -/
abbrev tval (t : Tab) (A : Option Addr) (k : Nat) (B : Option Addr) (m : Nat) : Value :=
  .agg #[.int .i64 t.c.c0, .int .i64 t.c.c1, .int .i64 t.c.c2, .int .i64 t.c.c3, .slice A t.c.cloud.length k, .slice B t.cells.length m]
abbrev tbox (t : Tab) (A : Option Addr) (k : Nat) (B : Option Addr) (m : Nat) : Array Value :=
  #[.int .i64 t.c.c0, .int .i64 t.c.c1, .int .i64 t.c.c2, .int .i64 t.c.c3, .slice A t.c.cloud.length k, .slice B t.cells.length m]
end Go.Proofs.Ytogegnikpjcpdaa
