/- RkD, PnV, PnW, PnX -/
import Derived.Test.YtldlmkfigjicgaaDoorCk08
import Derived.Test.YtldlmkfigjicgaaDoorCk04
import Derived.Test.YtldlmkfigjicgaaDoorCk12
import Derived.Test.YtldlmkfigjicgaaDoorCk07
/- rank.Rows. -/
namespace Go.Proofs.YtldlmkfigjicgaaDoor
set_option linter.unusedVariables false
set_option linter.unusedSimpArgs false
open Go.ChangeShapes Go.WideShapes Go.ChangeAt Go.RowKit

/-- Rows as a list of slices of ints: the items' rows alone. -/
abbrev kcells (M : List IR) : List Value := M.flatMap fun x => [.slice x.A x.row.length x.k]
abbrev nrows (M : List IR) : List (List Int) := M.map IR.row
def RowsPost (S : List (List Int)) (x : Int) (w : World) (e : Ending) (w' : World) : Prop :=
  ∃ (A : Option Addr) (k : Nat) (M : List IR), e = .returned (.tuple #[.slice A M.length k, .int .i64 x]) ∧ nrows M = S ∧ w'.ownsRow w.heap.size 23 1 (.slice A M.length k) M.length (kcells M) ∧ RowsNew w' w.heap.size (.slice A M.length k) M ∧ Below w.heap.size w w'
theorem rowsPost_nil {S : List (List Int)} {w w' : World} {x y : Int} (hS : S = []) (hx : y = x) (hb : Below w.heap.size w w') : RowsPost S y w (.returned (.tuple #[.slice none 0 0, .int .i64 x])) w' := by
  subst hS hx; exact ⟨none, 0, [], rfl, rfl, World.ownsRow_nil _ _ _ _, RowsNew.nil _ _ _, hb⟩
theorem kcells_snoc (M : List IR) (x : IR) : kcells (M ++ [x]) = kcells M ++ [.slice x.A x.row.length x.k] := by rw [kcells, List.flatMap_append]; simp
theorem wid_le {l : List It} (h : setI l = 0) : widI l ≤ 8 := by
  cases l with
  | nil => decide
  | cons x l =>
    have := (badB_false ((setI_zero.1 h).2.1 x (by simp))).1
    unfold widI
    simp only
    split <;> omega
theorem expd_succ (L : List It) (i : Nat) (hi : i < L.length) : expd (L.take (i + 1)) = expd (L.take i) ++ List.replicate L[i].2.toNat L[i].1 := by
  unfold expd
  rw [List.take_succ_eq_append_getElem hi, List.flatMap_append]; simp
theorem expd_split (L : List It) (i : Nat) : expd L = expd (L.take i) ++ expd (L.drop i) := by
  unfold expd
  rw [← List.flatMap_append, List.take_append_drop]
theorem expd_drop (L : List It) (i : Nat) (hi : i < L.length) : expd (L.drop i) = List.replicate L[i].2.toNat L[i].1 ++ expd (L.drop (i + 1)) := by
  unfold expd
  rw [List.drop_eq_getElem_cons hi, List.flatMap_cons]
theorem elem_ints : Elem Tryd.prog 24 23 1 24 := ⟨Tryd.underlying24, by
  obtain ⟨i, hi, hz, hs, hb⟩ := info_parts (P := Tryd.prog) (e := 23) (z := .slice none 0 0) (size := 1) (bytes := 24) (by kernel_rfl)
  exact ⟨i, _, hi, hz, hs, hb, rfl⟩, by decide⟩

end Go.Proofs.YtldlmkfigjicgaaDoor
/- plain.All. -/
namespace Go.Proofs.YtldlmkfigjicgaaDoor
set_option linter.unusedVariables false
set_option linter.unusedSimpArgs false
open Go.ChangeShapes Go.WideShapes Go.ChangeAt Go.RowKit

theorem elem_sets : Elem Tryd.prog 74 22 1 24 := ⟨Tryd.underlying74, by
  obtain ⟨i, hi, hz, hs, hb⟩ := info_parts (P := Tryd.prog) (e := 22) (z := .slice none 0 0) (size := 1) (bytes := 24) (by kernel_rfl)
  exact ⟨i, _, hi, hz, hs, hb, rfl⟩, by decide⟩
abbrev pcells (LL : List LR) : List Value := LL.flatMap LR.cells
theorem pcells_len (LL : List LR) : (pcells LL).length = LL.length := by rw [pcells, flat_len LR.len, Nat.mul_one]
def setsOf (LL : List LR) : List (List It) := LL.map (fun x => its x.L)
theorem setsOf_len (LL : List LR) : (setsOf LL).length = LL.length := List.length_map ..
/-- Sets of a call's own making, that share nothing with the slice that holds them. -/
def SetsNew (w : World) (lo : Nat) (v : Value) (LL : List LR) : Prop :=
  ∀ x ∈ LL, w.ownsRow lo 51 2 (.slice x.A x.L.length x.k) x.L.length (rcells x.L) ∧ RowsNew w lo (.slice x.A x.L.length x.k) x.L ∧
    (∀ g, (Value.slice x.A x.L.length x.k).ownBlock = some g → some g ≠ v.ownBlock) ∧ ∀ y ∈ x.L, ∀ b off q, y.A = some ⟨b, off, q⟩ → some b ≠ v.ownBlock
theorem SetsNew.nil (w : World) (lo : Nat) (v : Value) : SetsNew w lo v [] := fun x hx => by simp at hx
theorem SetsNew.step {w w' : World} {lo : Nat} {v : Value} {LL : List LR} (h : SetsNew w lo v LL) (hb : Below w.heap.size w w') : SetsNew w' lo v LL := fun x hx => by
  obtain ⟨h1, h2, h3, h4⟩ := h x hx
  exact ⟨own_laterS h1 hb, h2.step hb, h3, h4⟩
theorem SetsNew.grown {w w' : World} {lo : Nat} {v v' : Value} {LL : List LR} (h : SetsNew w lo v LL) (hg : w.grownBy w' v.ownBlock) (hv : v'.ownBlock = v.ownBlock ∨ v'.ownBlock = some w.heap.size) : SetsNew w' lo v' LL := fun x hx => by
  obtain ⟨h1, h2, h3, h4⟩ := h x hx
  refine ⟨own_ne_grown h1 hg h3, h2.grownNe hg h4, fun g e => ?_, fun y hy b off q e => ?_⟩
  · rcases hv with hv | hv
    · rw [hv]; exact h3 g e
    · rw [hv]; intro e2; injection e2 with e2; have := (h1.lt g e).2; omega
  · rcases hv with hv | hv
    · rw [hv]; exact h4 y hy b off q e
    · rw [hv]; intro e2; injection e2 with e2; have := ((h2 y hy).2.2.1 b off q e).2; omega
theorem SetsNew.rows {w : World} {lo : Nat} {v : Value} {LL : List LR} (h : SetsNew w lo v LL) : ∀ x ∈ LL, RowI w w.heap.size x.A x.L := fun x hx => ⟨Row.of_ownS (h x hx).1, (h x hx).2.1.rows⟩
/-- All of one set lies ahead of all of the other. -/
def Apart (x y : LR) : Prop := ∃ mid : Nat, (∀ b off q, x.A = some ⟨b, off, q⟩ → b < mid) ∧ (∀ z ∈ x.L, ∀ b off q, z.A = some ⟨b, off, q⟩ → b < mid) ∧ NewAt mid y.A ∧ ∀ z ∈ y.L, NewAt mid z.A
theorem SetsNew.apart {w : World} {lo mid : Nat} {v : Value} {LL : List LR} (h : SetsNew w lo v LL) (hm : w.heap.size ≤ mid) (hp : LL.Pairwise Apart) {y : LR} (h1 : NewAt mid y.A) (h2 : ∀ z ∈ y.L, NewAt mid z.A) : (LL ++ [y]).Pairwise Apart := by
  refine List.pairwise_append.2 ⟨hp, List.pairwise_singleton _ _, fun x hx z hz => ?_⟩
  rw [List.mem_singleton.1 hz]
  obtain ⟨q1, q2, -, -⟩ := h x hx
  exact ⟨mid, fun b off q e => Nat.lt_of_lt_of_le (own_inS q1 b off q e) hm, fun t ht b off q e => Nat.lt_of_lt_of_le ((q2 t ht).2.2.1 b off q e).2 hm, h1, h2⟩
/-- Sets of a call's own making, and an error. -/
def AllPost (S : List (List It)) (x : Int) (w : World) (e : Ending) (w' : World) : Prop :=
  ∃ (A : Option Addr) (k : Nat) (LL : List LR), e = .returned (.tuple #[.slice A LL.length k, .int .i64 x]) ∧ setsOf LL = S ∧ w'.ownsRow w.heap.size 22 1 (.slice A LL.length k) LL.length (pcells LL) ∧ SetsNew w' w.heap.size (.slice A LL.length k) LL ∧ Below w.heap.size w w' ∧ LL.Pairwise Apart ∧ LL.length ≤ 30
theorem allPost_nil {S : List (List It)} {w w' : World} {x y : Int} (hS : S = []) (hx : y = x) (hb : Below w.heap.size w w') : AllPost S y w (.returned (.tuple #[.slice none 0 0, .int .i64 x])) w' := by
  subst hS hx; exact ⟨none, 0, [], rfl, rfl, World.ownsRow_nil _ _ _ _, SetsNew.nil _ _ _, hb, .nil, by simp⟩
theorem allPost_mk {S : List (List It)} {x y : Int} {w w' : World} {A : Option Addr} {k : Nat} {LL : List LR} (hx : y = x) (h1 : setsOf LL = S) (h2 : w'.ownsRow w.heap.size 22 1 (.slice A LL.length k) LL.length (pcells LL)) (h3 : SetsNew w' w.heap.size (.slice A LL.length k) LL) (h4 : Below w.heap.size w w') (h5 : LL.Pairwise Apart) (h6 : LL.length ≤ 30) : AllPost S y w (.returned (.tuple #[.slice A LL.length k, .int .i64 x])) w' := by
  subst hx; exact ⟨A, k, LL, rfl, h1, h2, h3, h4, h5, h6⟩
theorem setsOf_snoc (LL : List LR) (x : LR) : setsOf (LL ++ [x]) = setsOf LL ++ [its x.L] := List.map_append
theorem pcells_snoc (LL : List LR) (x : LR) : pcells (LL ++ [x]) = pcells LL ++ [.slice x.A x.L.length x.k] := by
  rw [pcells, List.flatMap_append]; rfl
theorem SetsNew.snoc {w : World} {lo : Nat} {v : Value} {LL : List LR} (h : SetsNew w lo v LL) {x : LR} (h1 : w.ownsRow lo 51 2 (.slice x.A x.L.length x.k) x.L.length (rcells x.L)) (h2 : RowsNew w lo (.slice x.A x.L.length x.k) x.L) (h3 : ∀ g, (Value.slice x.A x.L.length x.k).ownBlock = some g → some g ≠ v.ownBlock) (h4 : ∀ y ∈ x.L, ∀ b off q, y.A = some ⟨b, off, q⟩ → some b ≠ v.ownBlock) : SetsNew w lo v (LL ++ [x]) := fun y hy => by
  rcases List.mem_append.1 hy with e | e
  · exact h y e
  · rw [List.mem_singleton.1 e]; exact ⟨h1, h2, h3, h4⟩

theorem bound_of {A : List It} (h : setI A = 0) : ∀ y ∈ A, y.1.length ≤ 8 ∧ (∀ z ∈ y.1, -1073741824 ≤ z ∧ z ≤ 1073741824) ∧ -2097152 ≤ y.2 ∧ y.2 ≤ 2097152 := fun y hy => by
  have := badB_bound ((setI_zero.1 h).2.1 y hy)
  exact ⟨this.1, this.2.1, by omega, by omega⟩
theorem stepOk_of {s : St} {V : List Int} {out : List (List It)} (h : stW s V ≠ 0) (ho : OkOut out V) (k : s.kind ≠ 1) : 0 ≤ s.a ∧ s.a < out.length ∧ 0 ≤ s.b ∧ s.b < out.length ∧ StepOk s (out.getD s.a.toNat []) (out.getD s.b.toNat []) := by
  rcases stW_ok h with ⟨k1, -⟩ | ⟨a0, a1, b0, b1, hk⟩
  · exact absurd k1 k
  · obtain ⟨sA, hA⟩ := ho.get a0 a1
    obtain ⟨sB, hB⟩ := ho.get b0 b1
    have bA := bound_of sA
    have bB := bound_of sB
    rw [ho.1]
    refine ⟨a0, a1, b0, b1, ⟨fun k2 => ?_, fun k3 => ?_, fun k6 y hy => (bB y hy).2.2⟩, fun k4 => ?_, fun k89 => ?_⟩
    · rcases hk with ⟨q, hk⟩ | ⟨q, hk⟩ | ⟨q, hk⟩ | ⟨q, hk⟩ | q | ⟨q, hk⟩ | ⟨q, hk⟩ <;> try omega
      exact ⟨hk.1, fun y hy => by have := hA y hy; omega⟩
    · rcases hk with ⟨q, hk⟩ | ⟨q, hk⟩ | ⟨q, hk⟩ | ⟨q, hk⟩ | q | ⟨q, hk⟩ | ⟨q, hk⟩ <;> try omega
      exact ⟨hk.1, fun n hn => ⟨(hk.2 n hn).1, fun y hy => by have := hA y hy; have := (hk.2 n hn).2; omega⟩⟩
    · rcases hk with ⟨q, hk⟩ | ⟨q, hk⟩ | ⟨q, hk⟩ | ⟨q, hk⟩ | q | ⟨q, hk⟩ | ⟨q, hk⟩ <;> try omega
      exact ⟨hk.1, hk.2.2.1, fun y hy => ⟨by have := hA y hy; omega, bA y hy⟩, fun y hy => ⟨by have := hB y hy; omega, bB y hy⟩⟩
    · rcases hk with ⟨q, hk⟩ | ⟨q, hk⟩ | ⟨q, hk⟩ | ⟨q, hk⟩ | q | ⟨q, hk⟩ | ⟨q, hk⟩ <;> try omega
      · exact ⟨hk.1, fun k9 => by omega, fun y hy => ⟨by have := hA y hy; omega, fun k9 => by omega, (bA y hy).2⟩⟩
      · exact ⟨hk.1, fun k9 => hk.2.2.1, fun y hy => ⟨by have := hA y hy; omega, fun k9 => by have := hA y hy; omega, (bA y hy).2⟩⟩
theorem atL_len {s : St} {V : List Int} {out : List (List It)} {ta tb : List It} (h : stW s V ≠ 0) (ho : OkOut out V) (la : ta.length ≤ 400) (lb : tb.length ≤ 400) : (atL ta tb s out).length ≤ 160000 := by
  unfold atL
  by_cases k : s.kind = 1
  · rw [if_pos k]; split <;> omega
  · rw [if_neg k]
    rcases stW_ok h with ⟨k1, -⟩ | ⟨a0, a1, b0, b1, hk⟩
    · exact absurd k1 k
    · exact stL_len s (set_len (ho.get a0 a1).1) (set_len (ho.get b0 b1).1)
theorem stW_le {s : St} {V : List Int} (h : stW s V ≠ 0) (hV : ∀ v ∈ V, v ≤ 8) : stW s V ≤ 8 := by
  rw [stW_val h]
  have hg : ∀ i : Nat, V.getD i 0 ≤ 8 := fun i => by
    rw [List.getD_eq_getElem?_getD]
    cases e : V[i]? with
    | none => simp
    | some v => simpa using hV v (List.mem_of_getElem? e)
  unfold wv
  rcases stW_ok h with ⟨k1, -⟩ | ⟨a0, a1, b0, b1, hk⟩
  · rw [if_pos k1]; omega
  · have := hg s.a.toNat
    rcases hk with ⟨q, hk⟩ | ⟨q, hk⟩ | ⟨q, hk⟩ | ⟨q, hk⟩ | q | ⟨q, hk⟩ | ⟨q, hk⟩ <;> (repeat' split) <;> omega
theorem setsOf_getD {LL : List LR} {i : Nat} (h : i < LL.length) : (setsOf LL).getD i [] = its LL[i].L := by
  rw [List.getD_eq_getElem?_getD, setsOf, List.getElem?_map, List.getElem?_eq_getElem h]; rfl
end Go.Proofs.YtldlmkfigjicgaaDoor
/- plain.All, the walk. -/
namespace Go.Proofs.YtldlmkfigjicgaaDoor
set_option linter.unusedVariables false
set_option linter.unusedSimpArgs false
open Go.ChangeShapes Go.WideShapes Go.ChangeAt Go.RowKit

end Go.Proofs.YtldlmkfigjicgaaDoor
/- plain.Eval. -/
namespace Go.Proofs.YtldlmkfigjicgaaDoor
set_option linter.unusedVariables false
set_option linter.unusedSimpArgs false
open Go.ChangeShapes Go.WideShapes Go.ChangeAt Go.RowKit

theorem itsErr_mk {S : List It} {x y : Int} {w w' : World} {A : Option Addr} {k : Nat} {M : List IR} (hx : y = x) (h1 : its M = S) (h2 : w'.ownsRow w.heap.size 51 2 (.slice A M.length k) M.length (rcells M)) (h3 : RowsNew w' w.heap.size (.slice A M.length k) M) (h4 : Below w.heap.size w w') : ItsErr S y w (.returned (.tuple #[.slice A M.length k, .int .i64 x])) w' := by
  subst hx; exact ⟨A, k, M, rfl, h1, h2, h3, h4⟩

end Go.Proofs.YtldlmkfigjicgaaDoor
