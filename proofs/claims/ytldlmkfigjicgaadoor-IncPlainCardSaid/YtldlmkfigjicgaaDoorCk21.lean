/- ToA -/
import Derived.Test.YtldlmkfigjicgaaDoorCk20
import Derived.Test.YtldlmkfigjicgaaDoorCk04
import Derived.Deep.RegionLaw
/- viewref.Total. -/
namespace Go.Proofs.YtldlmkfigjicgaaDoor
set_option linter.unusedVariables false
set_option linter.unusedSimpArgs false
open Go.ChangeShapes Go.WideShapes Go.ChangeAt Go.RowKit

theorem elem_rowint : Elem Tryd.prog 24 23 1 24 := ⟨Tryd.underlying24, by
  obtain ⟨i, hi, hz, hs, hb⟩ := info_parts (P := Tryd.prog) (e := 23) (z := .slice none 0 0) (size := 1) (bytes := 24) (by kernel_rfl)
  exact ⟨i, _, hi, hz, hs, hb, rfl⟩, by decide⟩
theorem Row.one {w : World} {B : Nat} {A : Option Addr} {L : List IR} (h : Row w B A (L.flatMap IR.one)) {k : Nat} (hk : k < L.length) :
    ∃ b off, A = some ⟨b, off, none⟩ ∧ b < B ∧ w.cell? ⟨b, off + k, none⟩ = some (.slice L[k].A L[k].row.length L[k].k) := by
  obtain ⟨b, off, h1, h2, h3⟩ := Row.flat IR.one_len h (by omega) hk
  have := h3 0 _ rfl
  rw [Nat.mul_one, Nat.add_zero] at this
  exact ⟨b, off, h1, h2, this⟩
theorem one_one (L : List IR) : ∀ u ∈ L.flatMap IR.one, u.oneCell' = true := fun u hu => by
  obtain ⟨x, -, hx⟩ := List.mem_flatMap.1 hu
  rw [List.mem_singleton.1 hx]; rfl
theorem ownsMap_step {H : Type} {P : Program} {k : TypeId} {R : Value → Option (DataW H × List MemPlace)} {b n : Nat} {D : DataW H} {w w' : World} (h : w.ownsMap P k R b n D) (hb : Below w.heap.size w w') : w'.ownsMap P k R b n D :=
  h.kept (row := none) ⟨hb.os, hb.tape, hb.output, hb.size, fun k hk _ => hb.block k hk⟩ (by simp)
theorem icT_one (l : List Int) : ∀ u ∈ icells' l, u.oneCell' = true := by
  intro u hu
  obtain ⟨x, -, rfl⟩ := List.mem_map.1 hu
  rfl
/-- An item told anew. -/
structure TotNew (wj wX w7 : World) (v v7 : Value) (A : Option Addr) (r : List Int) (c : Nat) (n : Int) : Prop where
  b : Below wj.heap.size wj wX
  ro : RowOwn wX A r c
  hi : ∀ b off q, A = some ⟨b, off, q⟩ → wj.heap.size ≤ b ∧ b < wX.heap.size
  g : (wX.alloc (.cells #[.slice A r.length c, .int .i64 n] 51)).grownBy w7 v.ownBlock
  i : v7.ownBlock = v.ownBlock ∨ v7.ownBlock = some (wX.alloc (.cells #[.slice A r.length c, .int .i64 n] 51)).heap.size
/-- What is asked of a list to be totalled. -/
structure TotOk (M : List IR) : Prop where
  len : M.length ≤ 4194304
  row : ∀ x ∈ M, x.row.length ≤ 1048576
  num : ∀ x ∈ M, In64 x.row
end Go.Proofs.YtldlmkfigjicgaaDoor
