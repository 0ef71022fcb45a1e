/- StbW, Sym, SymM, Shelf, Sts, ZsA -/
import Derived.Test.YtldlmkfigjicgaaDoorCk02
import Derived.BigRegion
import Derived.Deep.LoopGhost
import Derived.Outline
import Derived.Shelf.SlSortCmp.QuietGrown
import Derived.Deep.CutBlock
import Derived.Deep.CutRange
import Derived.Shelf.SlSortCmp.WholeK
import Derived.Ground.SlsfProg
import Derived.Test.YtldlmkfigjicgaaDoorRows
/- slices.SortStableFunc at items: swapRange, rotate. -/
namespace Go.Proofs.YtldlmkfigjicgaaDoor
set_option linter.unusedVariables false
open Go.ChangeShapes Go.WideShapes Go.ChangeAt Go.RowKit Go.Shelf Go.Lib Go.Sort

/-- Items of which something holds. -/
abbrev QI (Q : IR → Prop) := {x : IR // Q x}
abbrev QI.cells {Q : IR → Prop} (x : QI Q) : List Value := x.1.cells
variable {Q : IR → Prop} [Inhabited (QI Q)]

end Go.Proofs.YtldlmkfigjicgaaDoor
/- slices.SortStableFunc at items: symMerge. -/
namespace Go.Proofs.YtldlmkfigjicgaaDoor
set_option linter.unusedVariables false
open Go.ChangeShapes Go.WideShapes Go.ChangeAt Go.RowKit Go.Shelf Go.Lib Go.Sort
variable {Q : IR → Prop} [Inhabited (QI Q)]

end Go.Proofs.YtldlmkfigjicgaaDoor
/- slices.SortStableFunc at items: symMerge, whole. -/
namespace Go.Proofs.YtldlmkfigjicgaaDoor
set_option linter.unusedVariables false
open Go.ChangeShapes Go.WideShapes Go.ChangeAt Go.RowKit Go.Shelf Go.Lib Go.Sort
variable {Q : IR → Prop} [Inhabited (QI Q)]

end Go.Proofs.YtldlmkfigjicgaaDoor
/-
  DERIVED: THE SHELF's CONTRACTS AT THIS DUMP, IN PLAIN WORDS (tools/lay-plain.mjs out of 'YtldlmkfigjicgaaDoorShelf.lean', which tools/lay-shelf.mjs wrote): THE SAME DECLARATIONS UNDER THE SAME NAMES: 'import', 'namespace', 'open', 'def', 'theorem' AND NOTHING ELSE: no command of the shelf's: FOR A HAND-IN. Each laying: the table of numbers ('.._ren') and one theorem, a field a fact of the dump's own or the kernel's comparison; each contract: ONE APPLICATION.
-/
namespace Go.Proofs
open Go.Shelf
def Tryd.sortItem_ren : Go.Shelf.Ren := ⟨fun | 6 => 27 | 15 => 55 | 14 => 54 | 28 => 80 | 29 => 81 | 20 => 72 | 21 => 73 | 22 => 74 | 23 => 75 | 24 => 76 | 25 => 77 | 26 => 78 | 27 => 79 | 46 => 101 | 47 => 102 | 48 => 103 | 49 => 104 | 50 => 105 | 57 => 124 | n => n, fun | 22 => 22 | 24 => 51 | 25 => 56 | 3 => 3 | 39 => 96 | 0 => 0 | 53 => 116 | 55 => 118 | 4 => 4 | 46 => 109 | 45 => 108 | 50 => 113 | 5 => 5 | 9 => 9 | 66 => 135 | 70 => 139 | 76 => 156 | 77 => 157 | n => n, fun | n => n⟩
theorem Tryd.sortItem : Go.Proofs.SlLaysF0.n6 Tryd.prog Tryd.sortItem_ren := {
  mixed := by kernel_rfl
  f6 := ⟨Tryd.f27.name, by decide, Tryd.func27.trans (congrArg some (by kernel_rfl))⟩
  f14 := ⟨Tryd.f54.name, by decide, Tryd.func54.trans (congrArg some (by kernel_rfl))⟩
  f15 := Tryd.func55.trans (congrArg some (by kernel_rfl))
  f20 := ⟨Tryd.f72.name, by decide, Tryd.func72.trans (congrArg some (by kernel_rfl))⟩
  f21 := ⟨Tryd.f73.name, by decide, Tryd.func73.trans (congrArg some (by kernel_rfl))⟩
  f22 := ⟨Tryd.f74.name, by decide, Tryd.func74.trans (congrArg some (by kernel_rfl))⟩
  f23 := ⟨Tryd.f75.name, by decide, Tryd.func75.trans (congrArg some (by kernel_rfl))⟩
  f24 := ⟨Tryd.f76.name, by decide, Tryd.func76.trans (congrArg some (by kernel_rfl))⟩
  f25 := ⟨Tryd.f77.name, by decide, Tryd.func77.trans (congrArg some (by kernel_rfl))⟩
  f26 := ⟨Tryd.f78.name, by decide, Tryd.func78.trans (congrArg some (by kernel_rfl))⟩
  f27 := ⟨Tryd.f79.name, by decide, Tryd.func79.trans (congrArg some (by kernel_rfl))⟩
  f28 := Tryd.func80.trans (congrArg some (by kernel_rfl))
  f29 := Tryd.func81.trans (congrArg some (by kernel_rfl))
  f46 := ⟨Tryd.f101.name, by decide, Tryd.func101.trans (congrArg some (by kernel_rfl))⟩
  f47 := Tryd.func102.trans (congrArg some (by kernel_rfl))
  f48 := Tryd.func103.trans (congrArg some (by kernel_rfl))
  f49 := ⟨Tryd.f104.name, by decide, Tryd.func104.trans (congrArg some (by kernel_rfl))⟩
  f50 := ⟨Tryd.f105.name, by decide, Tryd.func105.trans (congrArg some (by kernel_rfl))⟩
  f57 := ⟨Tryd.f124.name, by decide, Tryd.func124.trans (congrArg some (by kernel_rfl))⟩
  t0 := Tryd.underlying0
  a0 := Tryd.isAgg0
  z0 := Tryd.sizeOf0
  v0 := Tryd.zeroValue0
  t3 := Tryd.underlying3
  a3 := Tryd.isAgg3
  z3 := Tryd.sizeOf3
  v3 := Tryd.zeroValue3
  t4 := Tryd.underlying4
  a4 := Tryd.isAgg4
  z4 := Tryd.sizeOf4
  v4 := Tryd.zeroValue4
  t5 := Tryd.underlying5
  a5 := Tryd.isAgg5
  z5 := Tryd.sizeOf5
  v5 := Tryd.zeroValue5
  t9 := Tryd.underlying9
  a9 := Tryd.isAgg9
  z9 := Tryd.sizeOf9
  v9 := Tryd.zeroValue9
  t22 := Tryd.underlying22
  a22 := Tryd.isAgg22
  z22 := Tryd.sizeOf22
  v22 := Tryd.zeroValue22
  t25 := Tryd.underlying56
  a25 := Tryd.isAgg56
  z25 := Tryd.sizeOf56
  v25 := Tryd.zeroValue56
  t39 := Tryd.underlying96
  a39 := Tryd.isAgg96
  z39 := Tryd.sizeOf96
  v39 := Tryd.zeroValue96
  t45 := Tryd.underlying108
  a45 := Tryd.isAgg108
  z45 := Tryd.sizeOf108
  v45 := Tryd.zeroValue108
  t46 := Tryd.underlying109
  a46 := Tryd.isAgg109
  z46 := Tryd.sizeOf109
  v46 := Tryd.zeroValue109
  t50 := Tryd.underlying113
  a50 := Tryd.isAgg113
  z50 := Tryd.sizeOf113
  v50 := Tryd.zeroValue113
  t53 := Tryd.underlying116
  a53 := Tryd.isAgg116
  z53 := Tryd.sizeOf116
  v53 := Tryd.zeroValue116
  t55 := Tryd.underlying118
  a55 := Tryd.isAgg118
  z55 := Tryd.sizeOf118
  v55 := Tryd.zeroValue118
  t66 := Tryd.underlying135
  a66 := Tryd.isAgg135
  z66 := Tryd.sizeOf135
  v66 := Tryd.zeroValue135
  t70 := Tryd.underlying139
  a70 := Tryd.isAgg139
  z70 := Tryd.sizeOf139
  v70 := Tryd.zeroValue139
  t76 := Tryd.underlying156
  a76 := Tryd.isAgg156
  z76 := Tryd.sizeOf156
  v76 := Tryd.zeroValue156
  t77 := Tryd.underlying157
  a77 := Tryd.isAgg157
  z77 := Tryd.sizeOf157
  v77 := Tryd.zeroValue157 }
end Go.Proofs
/- slices.SortStableFunc at items: the whole sort. -/
namespace Go.Proofs.YtldlmkfigjicgaaDoor
set_option linter.unusedVariables false
open Go.ChangeShapes Go.WideShapes Go.ChangeAt Go.RowKit Go.Shelf Go.Lib Go.Sort
variable {Q : IR → Prop} [Inhabited (QI Q)]

theorem cmpLays_on {cf : QI Q → QI Q → Int} {g : Nat} {cb : Array Value} {blk off : Nat} {d0 D : Array (QI Q)} {w0 W : World} (hC : CmpLays Tryd.prog g cb (QI.cells (Q := Q)) 2 cf blk off d0.size w0) (R : RowK (QI.cells (Q := Q)) 2 w0 blk off d0) (h : SWK (QI.cells (Q := Q)) 2 w0 blk off D W) (hs : D.size = d0.size) :
    CmpLays Tryd.prog g cb (QI.cells (Q := Q)) 2 cf blk off D.size W := fun m os dk hk x y => by
  obtain ⟨m', os', e⟩ := h.on R.hblk m dk os hk
  rw [e]
  exact hC m' os' dk (hk.trans hs) x y

theorem ins_any (cf : QI Q → QI Q → Int) (g : Nat) (cb : Array Value) (blk off cap : Nat) (d0 : Array (QI Q)) (w0 : World) (eg : ∀ args w, (callFunc g args).run Tryd.prog w = .ok (.enter g args) w) (hC : CmpLays Tryd.prog g cb (QI.cells (Q := Q)) 2 cf blk off d0.size w0)
    (R : RowK (QI.cells (Q := Q)) 2 w0 blk off d0) (hS : SWO (ltOf cf)) (hsz : d0.size < 4611686018427387904) (a b : Nat) (d : Array (QI Q)) (w : World) (hab : a ≤ b) (hb : b ≤ d.size) (hs : d.size = d0.size) (S : SWK (QI.cells (Q := Q)) 2 w0 blk off d w) :
    Calls Tryd.prog 72 #[.slice (some ⟨blk, off, none⟩) d.size cap, .int .i64 a, .int .i64 b, .func (.func g) #[] cb] w fun e w' => e = .returned (.tuple #[]) ∧ ∃ d', PermIn a b d d' ∧ SortedIn (ltOf cf) a b d' ∧ SWK (QI.cells (Q := Q)) 2 w0 blk off d' w' := by
  have L : SlLaysF0.n20 Tryd.prog Tryd.sortItem_ren := { Tryd.sortItem with }
  refine (AnyQ.insertionSortCmpFunc L 2 Tryd.isAgg51 Tryd.sizeOf51 (QI.cells (Q := Q)) R.hk R.h1 cf g cb blk off cap a b d w eg (cmpLays_on hC R S hs) (S.holds R.hblk R.hH hs) (S.lt R.hblk) hab hb (by omega)).mono ?_
  rintro e w' ⟨rfl, n, os, rfl⟩
  obtain ⟨h1, h2⟩ := insertionSort_holds hS d a b hab hb
  exact ⟨rfl, _, h1, h2, S.on R.hblk n _ os h1.1⟩

end Go.Proofs.YtldlmkfigjicgaaDoor
/- The order that zset.Sum sorts by. -/
namespace Go.Proofs.YtldlmkfigjicgaaDoor
set_option linter.unusedVariables false
set_option linter.unusedSimpArgs false
open Go.ChangeShapes Go.WideShapes Go.ChangeAt Go.RowKit Go.Shelf Go.Lib Go.Sort

set_option maxHeartbeats 400000 in
set_option maxRecDepth 100000 in
theorem sum1_any (x y : IR) (w : World) (hx : Row w w.heap.size x.A (icells' x.row)) (hxl : x.row.length ≤ 9223372036854775807) (hy : Row w w.heap.size y.A (icells' y.row)) (hyl : y.row.length ≤ 9223372036854775807) :
    Calls Tryd.prog 65 #[.agg x.cells.toArray, .agg y.cells.toArray] w fun e w' => e = .returned (.int .i64 (cmpL x.row y.row)) ∧ ∃ q os', w' = grow (w.drewN q) os' := by
  obtain ⟨xr, xA, xk, xn⟩ := x
  obtain ⟨yr, yA, yk, yn⟩ := y
  simp only at hx hxl hy hyl ⊢
  have HC := hid (fun w1 (hb : Below w.heap.size w w1) => orderL_any xr yr xA yA xk yk w1 (hx.step hb) (hy.step hb) hxl hyl)
  clear hx hy
  simp only [IR.cells]
  go_enter Tryd.func65, Tryd.ntmps65
  go_wp2_with (go_at_call 50; refine (HC.out _ (by (repeat' (first | (with_reducible exact Below.refl _ _) | (with_reducible assumption) | (with_reducible refine below_drewN ?_ _) | (with_reducible refine Below.drew ?_) | (with_reducible refine Below.alloc ?_ ?_ _) | (with_reducible refine Below.setCell ?_ ?_ _) | (refine Below.trans ?_ (Below.mono (by assumption) ?_)) | go_size)))).mono ?_; rintro e w' ⟨rfl, rfl⟩)
  go_ret
  exact ⟨rfl, 0, _, by rw [alloc_eq_grow, alloc_eq_grow, grow_grow]; rfl⟩
theorem enters_sum1 : ∀ args w, (callFunc 65 args).run Tryd.prog w = .ok (.enter 65 args) w := enters_of Tryd.func65 (by kernel_rfl) rfl

/-- A world of the sort's: the one that it began with, but for the row's block, and what is new. -/
theorem sortWorldK_grown {α : Type} [Inhabited α] (enc : α → List Value) (k : Nat) (w : World) (g off n : Nat) (l : Array α) (os : Array Obj) : w.grownBy (sortWorldK enc k w g off n l os) (some g) := by
  refine ⟨rfl, rfl, rfl, ?_, ?_⟩
  · unfold sortWorldK grow Sort.putRowK putRow mapBlock Sort.ahead
    simp
  · intro j hj hne
    have hne' : g ≠ j := fun e => hne (by rw [e])
    unfold sortWorldK grow Sort.putRowK putRow mapBlock Sort.ahead
    simp [Array.getElem?_append, hj, Array.getElem_modify, hne']

/-- What is asked of the items that a sort orders: their rows lie below B. -/
def RowQ (w : World) (B : Nat) (x : IR) : Prop := Row w B x.A (icells' x.row) ∧ x.row.length ≤ 9223372036854775807
instance (w : World) (B : Nat) : Inhabited (QI (RowQ w B)) := ⟨⟨⟨[], none, 0, 0⟩, Row.nil, by simp⟩⟩
def itCf {Q : IR → Prop} (x y : QI Q) : Int := cmpL x.1.row y.1.row
theorem swo_itCf {Q : IR → Prop} : SWO (ltOf (itCf (Q := Q))) where
  irrefl x := swo_it.irrefl x.1.it
  trans x y z h1 h2 := swo_it.trans x.1.it y.1.it z.1.it h1 h2
  ntrans x y z h1 h2 := swo_it.ntrans x.1.it y.1.it z.1.it h1 h2
theorem cmpLays_sum1 (w : World) (B blk off size : Nat) (hB : B ≤ w.heap.size) (hblk : B ≤ blk) : CmpLays Tryd.prog 65 #[] (QI.cells (Q := RowQ w B)) 2 itCf blk off size w := fun m os dk hs x y => by
  have hg := sortWorldK_grown (QI.cells (Q := RowQ w B)) 2 w blk off m dk os
  have hr : ∀ z : QI (RowQ w B), Row (sortWorldK (QI.cells (Q := RowQ w B)) 2 w blk off m dk os) (sortWorldK (QI.cells (Q := RowQ w B)) 2 w blk off m dk os).heap.size z.1.A (icells' z.1.row) := fun z =>
    (z.2.1.grown hB hg (fun k e => by injection e with e; omega)).more (Nat.le_trans hB hg.size)
  exact sum1_any x.1 y.1 _ (hr x) x.2.2 (hr y) y.2.2
end Go.Proofs.YtldlmkfigjicgaaDoor
