/- ShelfR, Bst, ItN, App, QtV, FrameQ, QrP, Bsq, Gen, Itm, ZsR, ZsW, StbW, ZsB, ZsC, RkA -/
import Derived.Test.YtamlaeocojcgdaaDoorQueryBackCardS01
import Derived.Shelf.LaysM
import Derived.Shelf.Strconv.Itoa3
import Derived.Shelf.Strings.OnBuilder
import Derived.Shelf.Small.Wraps
import Derived.Shelf.Strings.Shaped
import Derived.Shelf.Strings.SplitShaped
import Derived.Ground.NamesProg
import Derived.Test.YtamlaeocojcgdaaDoorRows
import Derived.WalkKit
import Derived.Lib.ItoaLen
import Derived.Laws.Concat
import Derived.Lib.AppendIntMem
import Derived.Maps.AppendAt
import Derived.Deep.RegionHeld3
import Derived.Lib.Split
import Derived.Lib.SplitLaws
import Derived.OwnWalk
import Derived.Shelf.SlSortCmp.KitK
import Derived.Deep.CutBlock
import Derived.Deep.CutRange
import Derived.BigRegion
import Derived.Deep.LoopGhost
import Derived.Outline
import Derived.Shelf.SlSortCmp.QuietGrown
import Derived.WalkSpells
/-
  DERIVED: THE SHELF's CONTRACTS AT THIS DUMP, IN PLAIN WORDS (tools/lay-plain.mjs out of 'YtamlaeocojcgdaaDoorShelfR.lean', which tools/lay-shelf.mjs wrote): THE SAME DECLARATIONS UNDER THE SAME NAMES: 'import', 'namespace', 'open', 'def', 'theorem' AND NOTHING ELSE: no command of the shelf's: FOR A HAND-IN. Each laying: the table of numbers ('.._ren') and one theorem, a field a fact of the dump's own or the kernel's comparison; each contract: ONE APPLICATION.
-/
namespace Go.Proofs
open Go.Shelf
def Tryd.lays156_ren : Go.Shelf.Ren := ⟨fun | 156 => 30 | 165 => 40 | 166 => 41 | 169 => 42 | 240 => 55 | 241 => 56 | 276 => 72 | 277 => 73 | n => n, fun | 31 => 44 | 9 => 9 | 3 => 3 | 4 => 4 | 0 => 0 | 20 => 20 | 72 => 72 | 76 => 76 | 70 => 69 | 37 => 70 | 75 => 75 | 127 => 92 | 164 => 108 | 5 => 5 | 80 => 78 | n => n, fun | n => n⟩
theorem Tryd.lays156 : Go.Proofs.Lays.n156 Tryd.prog Tryd.lays156_ren := {
  mixed := by kernel_rfl
  f156 := Tryd.func30.trans (congrArg some (by kernel_rfl))
  f165 := Tryd.func40.trans (congrArg some (by kernel_rfl))
  f166 := Tryd.func41.trans (congrArg some (by kernel_rfl))
  f169 := Tryd.func42.trans (congrArg some (by kernel_rfl))
  f240 := Tryd.func55.trans (congrArg some (by kernel_rfl))
  f241 := Tryd.func56.trans (congrArg some (by kernel_rfl))
  f276 := Tryd.func72.trans (congrArg some (by kernel_rfl))
  f277 := Tryd.func73.trans (congrArg some (by kernel_rfl))
  t0 := Tryd.underlying0
  a0 := Tryd.isAgg0
  z0 := Tryd.sizeOf0
  v0 := Tryd.zeroValue0
  t3 := Tryd.underlying3
  a3 := Tryd.isAgg3
  z3 := Tryd.sizeOf3
  v3 := Tryd.zeroValue3
  t4 := Tryd.underlying4
  a4 := Tryd.isAgg4
  z4 := Tryd.sizeOf4
  v4 := Tryd.zeroValue4
  t9 := Tryd.underlying9
  a9 := Tryd.isAgg9
  z9 := Tryd.sizeOf9
  v9 := Tryd.zeroValue9
  t20 := Tryd.underlying20
  a20 := Tryd.isAgg20
  z20 := Tryd.sizeOf20
  v20 := Tryd.zeroValue20
  t31 := Tryd.underlying44
  a31 := Tryd.isAgg44
  z31 := Tryd.sizeOf44
  v31 := Tryd.zeroValue44
  t37 := Tryd.underlying70
  a37 := Tryd.isAgg70
  z37 := Tryd.sizeOf70
  v37 := Tryd.zeroValue70
  t70 := Tryd.underlying69
  a70 := Tryd.isAgg69
  z70 := Tryd.sizeOf69
  v70 := Tryd.zeroValue69
  t72 := Tryd.underlying72
  a72 := Tryd.isAgg72
  z72 := Tryd.sizeOf72
  v72 := Tryd.zeroValue72
  t75 := Tryd.underlying75
  a75 := Tryd.isAgg75
  z75 := Tryd.sizeOf75
  v75 := Tryd.zeroValue75
  t76 := Tryd.underlying76
  a76 := Tryd.isAgg76
  z76 := Tryd.sizeOf76
  v76 := Tryd.zeroValue76
  t127 := Tryd.underlying92
  a127 := Tryd.isAgg92
  z127 := Tryd.sizeOf92
  v127 := Tryd.zeroValue92
  t164 := Tryd.underlying108
  a164 := Tryd.isAgg108
  z164 := Tryd.sizeOf108
  v164 := Tryd.zeroValue108 }
theorem Tryd.Builder_Extra_156 : Builder.Extra Tryd.prog Tryd.lays156_ren := {
  sizeBuilder := by kernel_rfl
  liesBuilder := by kernel_rfl
  t5 := Tryd.underlying5
  a5 := Tryd.isAgg5
  z5 := Tryd.sizeOf5
  v5 := Tryd.zeroValue5
  infoByte := by kernel_rfl
  cellsByte := by kernel_rfl
  sizeByte := by kernel_rfl
  neB5 := by decide }
open Go.RowKit in
/-- strings.Join: "Join concatenates the elements of its first argument to create a single string. The separator string sep is placed between elements in the resulting string.": HOWEVER MANY ELEMENTS. Below the heap's end the world is as it was. (LAID: no walk: one application.) -/
theorem Tryd.strings_Join (bk o c : Nat) (xs : List ByteArray) (sep : ByteArray) (w : World) (hcells : ∀ (j : Nat) x, xs[j]? = some x → w.cell? ⟨bk, o + j, none⟩ = some (.string x)) (hbk : bk < w.heap.size) (hN : xs.length ≤ 140737488355328) (hcap : xs.length ≤ c) (hlen : (Lib.join (xs.map (·.data.toList)) sep.data.toList).length ≤ 140737488355328) :
    Calls Tryd.prog 30 #[.slice (some ⟨bk, o, none⟩) xs.length c, .string sep] w fun e w' => e = .returned (.string ⟨(Lib.join (xs.map (·.data.toList)) sep.data.toList).toArray⟩) ∧ Below w.heap.size w w' := Any.strings_Join Tryd.lays156 Tryd.Builder_Extra_156 bk o c xs sep w hcells hbk hN hcap hlen
def Tryd.lays103_ren : Go.Shelf.Ren := ⟨fun | 103 => 63 | 210 => 77 | 206 => 81 | n => n, fun | 9 => 9 | 4 => 4 | 24 => 98 | 3 => 3 | n => n, fun | n => n⟩
theorem Tryd.lays103 : Go.Proofs.Lays.n103 Tryd.prog Tryd.lays103_ren := {
  mixed := by kernel_rfl
  f103 := Tryd.func63.trans (congrArg some (by kernel_rfl))
  f206 := Tryd.func81.trans (congrArg some (by kernel_rfl))
  f210 := Tryd.func77.trans (congrArg some (by kernel_rfl))
  t3 := Tryd.underlying3
  a3 := Tryd.isAgg3
  z3 := Tryd.sizeOf3
  v3 := Tryd.zeroValue3
  t4 := Tryd.underlying4
  a4 := Tryd.isAgg4
  z4 := Tryd.sizeOf4
  v4 := Tryd.zeroValue4
  t9 := Tryd.underlying9
  a9 := Tryd.isAgg9
  z9 := Tryd.sizeOf9
  v9 := Tryd.zeroValue9
  t24 := Tryd.underlying98
  a24 := Tryd.isAgg98
  z24 := Tryd.sizeOf98
  v24 := Tryd.zeroValue98 }
open Go.RowKit in
/-- strings.CutPrefix: "CutPrefix returns s without the provided leading prefix string and reports whether it found the prefix. If s doesn't start with prefix, CutPrefix returns s, false. If prefix is the empty string, CutPrefix returns s, true.": IT RETURNS '(Lib.trimPrefix s p, Lib.hasPrefix s p)'; the world is as it was. (LAID: no walk: one application.) -/
theorem Tryd.strings_CutPrefix (s p : ByteArray) (w : World) :
    Calls Tryd.prog 63 #[.string s, .string p] w fun e w' => e = .returned (.tuple #[.string ⟨(Lib.trimPrefix s.data.toList p.data.toList).toArray⟩, .bool (Lib.hasPrefix s.data.toList p.data.toList)]) ∧ w' = w := Any.strings_CutPrefix Tryd.lays103 s p w
def Tryd.laysM171_ren : Go.Shelf.Ren := ⟨fun | 171 => 16 | 243 => 27 | 246 => 39 | 283 => 51 | 284 => 52 | 285 => 53 | 286 => 54 | 129 => 68 | 317 => 67 | 318 => 69 | 319 => 70 | 320 => 71 | 337 => 79 | 338 => 80 | n => n, fun | 3 => 3 | 9 => 9 | 2 => 2 | 4 => 4 | 171 => 86 | 0 => 0 | 53 => 87 | 37 => 70 | 5 => 5 | 173 => 90 | 212 => 104 | 51 => 105 | 20 => 20 | 213 => 106 | 46 => 97 | 232 => 120 | 233 => 121 | n => n, fun | 17 => 2 | 18 => 5 | 19 => 6 | n => n⟩
theorem Tryd.laysM171 : Go.Proofs.LaysM.n171 Tryd.prog Tryd.laysM171_ren := {
  mixed := by kernel_rfl
  f129 := Tryd.func68.trans (congrArg some (by kernel_rfl))
  f171 := Tryd.func16.trans (congrArg some (by kernel_rfl))
  f243 := Tryd.func27.trans (congrArg some (by kernel_rfl))
  f246 := Tryd.func39.trans (congrArg some (by kernel_rfl))
  f283 := Tryd.func51.trans (congrArg some (by kernel_rfl))
  f284 := Tryd.func52.trans (congrArg some (by kernel_rfl))
  f285 := Tryd.func53.trans (congrArg some (by kernel_rfl))
  f286 := Tryd.func54.trans (congrArg some (by kernel_rfl))
  f317 := Tryd.func67.trans (congrArg some (by kernel_rfl))
  f318 := Tryd.func69.trans (congrArg some (by kernel_rfl))
  f319 := Tryd.func70.trans (congrArg some (by kernel_rfl))
  f320 := Tryd.func71.trans (congrArg some (by kernel_rfl))
  f337 := Tryd.func79.trans (congrArg some (by kernel_rfl))
  f338 := Tryd.func80.trans (congrArg some (by kernel_rfl))
  t0 := Tryd.underlying0
  a0 := Tryd.isAgg0
  z0 := Tryd.sizeOf0
  v0 := Tryd.zeroValue0
  t2 := Tryd.underlying2
  a2 := Tryd.isAgg2
  z2 := Tryd.sizeOf2
  v2 := Tryd.zeroValue2
  t3 := Tryd.underlying3
  a3 := Tryd.isAgg3
  z3 := Tryd.sizeOf3
  v3 := Tryd.zeroValue3
  t4 := Tryd.underlying4
  a4 := Tryd.isAgg4
  z4 := Tryd.sizeOf4
  v4 := Tryd.zeroValue4
  t5 := Tryd.underlying5
  a5 := Tryd.isAgg5
  z5 := Tryd.sizeOf5
  v5 := Tryd.zeroValue5
  t9 := Tryd.underlying9
  a9 := Tryd.isAgg9
  z9 := Tryd.sizeOf9
  v9 := Tryd.zeroValue9
  t20 := Tryd.underlying20
  a20 := Tryd.isAgg20
  z20 := Tryd.sizeOf20
  v20 := Tryd.zeroValue20
  t37 := Tryd.underlying70
  a37 := Tryd.isAgg70
  z37 := Tryd.sizeOf70
  v37 := Tryd.zeroValue70
  t46 := Tryd.underlying97
  a46 := Tryd.isAgg97
  z46 := Tryd.sizeOf97
  v46 := Tryd.zeroValue97
  t51 := Tryd.underlying105
  a51 := Tryd.isAgg105
  z51 := Tryd.sizeOf105
  v51 := Tryd.zeroValue105
  t53 := Tryd.underlying87
  a53 := Tryd.isAgg87
  z53 := Tryd.sizeOf87
  v53 := Tryd.zeroValue87
  t171 := Tryd.underlying86
  a171 := Tryd.isAgg86
  z171 := Tryd.sizeOf86
  v171 := Tryd.zeroValue86
  t173 := Tryd.underlying90
  a173 := Tryd.isAgg90
  z173 := Tryd.sizeOf90
  v173 := Tryd.zeroValue90
  t212 := Tryd.underlying104
  a212 := Tryd.isAgg104
  z212 := Tryd.sizeOf104
  v212 := Tryd.zeroValue104
  t213 := Tryd.underlying106
  a213 := Tryd.isAgg106
  z213 := Tryd.sizeOf106
  t232 := Tryd.underlying120
  a232 := Tryd.isAgg120
  z232 := Tryd.sizeOf120
  v232 := Tryd.zeroValue120
  t233 := Tryd.underlying121
  a233 := Tryd.isAgg121
  z233 := Tryd.sizeOf121
  v233 := Tryd.zeroValue121
  g17 := by kernel_rfl
  g18 := by kernel_rfl
  g19 := by kernel_rfl
  i0 := by kernel_rfl
  i2 := by kernel_rfl
  i3 := by kernel_rfl
  i4 := by kernel_rfl
  i5 := by kernel_rfl
  i9 := by kernel_rfl
  i20 := by kernel_rfl
  i37 := by kernel_rfl
  i46 := by kernel_rfl
  i51 := by kernel_rfl
  i53 := by kernel_rfl
  i171 := by kernel_rfl
  i173 := by kernel_rfl
  i212 := by kernel_rfl
  i232 := by kernel_rfl
  i233 := by kernel_rfl
  m17 := by kernel_rfl
  m18 := by kernel_rfl
  m19 := by kernel_rfl }
open Go.RowKit Go.Sort Go.Lib in
/-- strconv.Itoa: "Itoa is equivalent to FormatInt(int64(i), 10).": i's DECIMAL NUMERAL ('Lib.itoa': a '-' where i is negative, then the digits), FOR EVERY int. The world behind the call: the world before it, new blocks behind the heap (the library's 'var a [24]byte'), draws. (LAID: no walk: one application.) -/
theorem Tryd.strconv_Itoa (n : Int) (h0 : -9223372036854775808 ≤ n) (h1 : n ≤ 9223372036854775807) (w : World) (htab : Lib.TabIs Tryd.prog w "internal/strconv.uint64pow10" .u64 Lib.pow10Tab) :
    Calls Tryd.prog 16 #[.int .i64 n] w fun e w' => e = .returned (.string ⟨(Lib.itoa n).toArray⟩) ∧ ∃ k os, w' = grow (w.drewN k) os := Any.strconv_Itoa Tryd.laysM171 n h0 h1 w htab
def Tryd.laysM145_ren : Go.Shelf.Ren := ⟨fun | 145 => 19 | 220 => 32 | 219 => 45 | 217 => 59 | 225 => 60 | 224 => 61 | 267 => 62 | 266 => 75 | 314 => 76 | n => n, fun | 9 => 9 | 4 => 4 | 59 => 48 | 3 => 3 | 5 => 5 | 46 => 97 | 146 => 112 | 51 => 105 | n => n, fun | 1 => 1 | n => n⟩
theorem Tryd.laysM145 : Go.Proofs.LaysM.n145 Tryd.prog Tryd.laysM145_ren := {
  mixed := by kernel_rfl
  f145 := Tryd.func19.trans (congrArg some (by kernel_rfl))
  f217 := Tryd.func59.trans (congrArg some (by kernel_rfl))
  f219 := Tryd.func45.trans (congrArg some (by kernel_rfl))
  f220 := Tryd.func32.trans (congrArg some (by kernel_rfl))
  f224 := Tryd.func61.trans (congrArg some (by kernel_rfl))
  f225 := Tryd.func60.trans (congrArg some (by kernel_rfl))
  f266 := Tryd.func75.trans (congrArg some (by kernel_rfl))
  f267 := Tryd.func62.trans (congrArg some (by kernel_rfl))
  f314 := Tryd.func76.trans (congrArg some (by kernel_rfl))
  t3 := Tryd.underlying3
  a3 := Tryd.isAgg3
  z3 := Tryd.sizeOf3
  v3 := Tryd.zeroValue3
  t4 := Tryd.underlying4
  a4 := Tryd.isAgg4
  z4 := Tryd.sizeOf4
  v4 := Tryd.zeroValue4
  t5 := Tryd.underlying5
  a5 := Tryd.isAgg5
  z5 := Tryd.sizeOf5
  v5 := Tryd.zeroValue5
  t9 := Tryd.underlying9
  a9 := Tryd.isAgg9
  z9 := Tryd.sizeOf9
  v9 := Tryd.zeroValue9
  t46 := Tryd.underlying97
  a46 := Tryd.isAgg97
  z46 := Tryd.sizeOf97
  v46 := Tryd.zeroValue97
  t51 := Tryd.underlying105
  a51 := Tryd.isAgg105
  z51 := Tryd.sizeOf105
  v51 := Tryd.zeroValue105
  t59 := Tryd.underlying48
  a59 := Tryd.isAgg48
  z59 := Tryd.sizeOf48
  v59 := Tryd.zeroValue48
  t146 := Tryd.underlying112
  a146 := Tryd.isAgg112
  z146 := Tryd.sizeOf112
  v146 := Tryd.zeroValue112
  g1 := by kernel_rfl
  i3 := by kernel_rfl
  i4 := by kernel_rfl
  i5 := by kernel_rfl
  i9 := by kernel_rfl
  i46 := by kernel_rfl
  i51 := by kernel_rfl
  i59 := by kernel_rfl
  i146 := by kernel_rfl
  m1 := by kernel_rfl
  s1_3 := fun w h => Go.Proofs.cell_of_shapedOpen_int (zero := #[.int .i64 0]) (t := 3) h (of_decide_eq_true (by kernel_rfl)) (by kernel_rfl) rfl (by kernel_rfl) (by kernel_rfl) Tryd.underlying3 }
def Tryd.laysM146_ren : Go.Shelf.Ren := ⟨fun | 146 => 21 | 221 => 36 | 268 => 47 | 138 => 48 | 143 => 49 | 195 => 64 | 197 => 65 | 218 => 66 | 219 => 45 | 260 => 78 | 217 => 59 | 225 => 60 | 224 => 61 | 267 => 62 | 266 => 75 | 314 => 76 | n => n, fun | 9 => 9 | 31 => 44 | 3 => 3 | 4 => 4 | 0 => 0 | 105 => 101 | 21 => 21 | 5 => 5 | 46 => 97 | 119 => 116 | 139 => 119 | 138 => 118 | 146 => 112 | 51 => 105 | n => n, fun | 1 => 1 | 3 => 3 | 4 => 4 | n => n⟩
theorem Tryd.laysM146 : Go.Proofs.LaysM.n146 Tryd.prog Tryd.laysM146_ren := {
  mixed := by kernel_rfl
  f138 := Tryd.func48.trans (congrArg some (by kernel_rfl))
  f143 := Tryd.func49.trans (congrArg some (by kernel_rfl))
  f146 := Tryd.func21.trans (congrArg some (by kernel_rfl))
  f195 := Tryd.func64.trans (congrArg some (by kernel_rfl))
  f197 := Tryd.func65.trans (congrArg some (by kernel_rfl))
  f217 := Tryd.func59.trans (congrArg some (by kernel_rfl))
  f218 := Tryd.func66.trans (congrArg some (by kernel_rfl))
  f219 := Tryd.func45.trans (congrArg some (by kernel_rfl))
  f221 := Tryd.func36.trans (congrArg some (by kernel_rfl))
  f224 := Tryd.func61.trans (congrArg some (by kernel_rfl))
  f225 := Tryd.func60.trans (congrArg some (by kernel_rfl))
  f260 := Tryd.func78.trans (congrArg some (by kernel_rfl))
  f266 := Tryd.func75.trans (congrArg some (by kernel_rfl))
  f267 := Tryd.func62.trans (congrArg some (by kernel_rfl))
  f268 := Tryd.func47.trans (congrArg some (by kernel_rfl))
  f314 := Tryd.func76.trans (congrArg some (by kernel_rfl))
  t0 := Tryd.underlying0
  a0 := Tryd.isAgg0
  z0 := Tryd.sizeOf0
  v0 := Tryd.zeroValue0
  t3 := Tryd.underlying3
  a3 := Tryd.isAgg3
  z3 := Tryd.sizeOf3
  v3 := Tryd.zeroValue3
  t4 := Tryd.underlying4
  a4 := Tryd.isAgg4
  z4 := Tryd.sizeOf4
  v4 := Tryd.zeroValue4
  t5 := Tryd.underlying5
  a5 := Tryd.isAgg5
  z5 := Tryd.sizeOf5
  v5 := Tryd.zeroValue5
  t9 := Tryd.underlying9
  a9 := Tryd.isAgg9
  z9 := Tryd.sizeOf9
  v9 := Tryd.zeroValue9
  t21 := Tryd.underlying21
  a21 := Tryd.isAgg21
  z21 := Tryd.sizeOf21
  v21 := Tryd.zeroValue21
  t31 := Tryd.underlying44
  a31 := Tryd.isAgg44
  z31 := Tryd.sizeOf44
  v31 := Tryd.zeroValue44
  t46 := Tryd.underlying97
  a46 := Tryd.isAgg97
  z46 := Tryd.sizeOf97
  v46 := Tryd.zeroValue97
  t51 := Tryd.underlying105
  a51 := Tryd.isAgg105
  z51 := Tryd.sizeOf105
  v51 := Tryd.zeroValue105
  t105 := Tryd.underlying101
  a105 := Tryd.isAgg101
  z105 := Tryd.sizeOf101
  v105 := Tryd.zeroValue101
  t119 := Tryd.underlying116
  a119 := Tryd.isAgg116
  z119 := Tryd.sizeOf116
  t138 := Tryd.underlying118
  a138 := Tryd.isAgg118
  z138 := Tryd.sizeOf118
  v138 := Tryd.zeroValue118
  t139 := Tryd.underlying119
  a139 := Tryd.isAgg119
  z139 := Tryd.sizeOf119
  v139 := Tryd.zeroValue119
  t146 := Tryd.underlying112
  a146 := Tryd.isAgg112
  z146 := Tryd.sizeOf112
  v146 := Tryd.zeroValue112
  g1 := by kernel_rfl
  g3 := by kernel_rfl
  g4 := by kernel_rfl
  i0 := by kernel_rfl
  i3 := by kernel_rfl
  i4 := by kernel_rfl
  i5 := by kernel_rfl
  i9 := by kernel_rfl
  i21 := by kernel_rfl
  i31 := by kernel_rfl
  i46 := by kernel_rfl
  i51 := by kernel_rfl
  i105 := by kernel_rfl
  i138 := by kernel_rfl
  i139 := by kernel_rfl
  i146 := by kernel_rfl
  m1 := by kernel_rfl
  s1_3 := fun w h => Go.Proofs.cell_of_shapedOpen_int (zero := #[.int .i64 0]) (t := 3) h (of_decide_eq_true (by kernel_rfl)) (by kernel_rfl) rfl (by kernel_rfl) (by kernel_rfl) Tryd.underlying3
  m3 := by kernel_rfl
  m4 := by kernel_rfl }
end Go.Proofs
/- Lists of bytes as strings. No program in sight. -/
namespace Go.Proofs.YtamlaeocojcgdaaDoor
abbrev bstr (l : List UInt8) : ByteArray := ⟨l.toArray⟩
theorem bstr_app (a b : List UInt8) : bstr a ++ bstr b = bstr (a ++ b) := by
  apply ByteArray.ext
  rw [ByteArray.data_append]
  simp
theorem bstr_size (a : List UInt8) : (bstr a).size = a.length := rfl
end Go.Proofs.YtamlaeocojcgdaaDoor
/- strconv.Itoa at a seat that has it. -/
namespace Go.Proofs.YtamlaeocojcgdaaDoor
set_option linter.unusedVariables false
set_option linter.unusedSimpArgs false
open Go.ChangeShapes Go.WideShapes Go.ChangeAt Go.RowKit

/-- The library's table of powers. -/
abbrev Pow (w : World) : Prop := Lib.TabIs Tryd.prog w "internal/strconv.uint64pow10" .u64 Lib.pow10Tab
theorem Pow.step {w w' : World} (h : Pow w) (hb : Below w.heap.size w w') : Pow w' := Lib.tabBelow_of_tabIs h w' hb
theorem itoaN_any (n : Int) (h : -1073741824 ≤ n ∧ n ≤ 1073741824) (w : World) (ht : Pow w) : Calls Tryd.prog 16 #[.int .i64 n] w fun e w' => e = .returned (.string (bstr (Lib.itoa n))) ∧ Below w.heap.size w w' :=
  (Tryd.strconv_Itoa n (by omega) (by omega) w ht).mono fun e w' ⟨he, k, os, hw⟩ => ⟨he, by rw [hw]; exact Lib.below_grow w.heap.size w (Nat.le_refl _) k os⟩
end Go.Proofs.YtamlaeocojcgdaaDoor
/- append onto an owned row from whatever row, nil or not: one law for plain regions, one for regions that draw. No program in sight. -/
namespace Go.Proofs.YtamlaeocojcgdaaDoor
set_option linter.unusedVariables false
open Go.RowKit

/-- What the table says of a slice type's elements. -/
structure Elem (P : Program) (t e : TypeId) (size bytes : Nat) : Prop where
  ht : P.underlying t = some (.slice e)
  hi : ∃ i z, P.info? e = some i ∧ i.zero = some z ∧ i.size = size ∧ i.bytes = bytes ∧ z.cells.size = size
  pos : 0 < size

theorem addr_add (b off j : Nat) : (⟨b, off, none⟩ : Addr).add j = ⟨b, off + j, none⟩ := by
  by_cases h : j = 0 <;> simp [Addr.add, h]

theorem Row.new (w : World) (cs : Array Value) (T : TypeId) {B : Nat} (hB : w.heap.size < B) : Row (w.alloc (.cells cs T)) B (some ⟨w.heap.size, 0, none⟩) cs.toList :=
  .inr ⟨w.heap.size, 0, rfl, hB, fun j u hu => by
    have h := (Blk.new w cs T).cells.1 j
    rw [Nat.zero_add, h]
    simpa using hu⟩
theorem Row.new' (w : World) (cs : Array Value) (T : TypeId) {h B : Nat} {xs : List Value} (e : w.heap.size = h) (hx : xs = cs.toList) (hB : h < B) : Row (w.alloc (.cells cs T)) B (some ⟨h, 0, none⟩) xs := by
  subst e hx; exact Row.new w cs T hB
theorem Row.drew {w : World} {B : Nat} {A : Option Addr} {xs : List Value} (h : Row w B A xs) : Row w.drew B A xs := h
theorem Row.drewN {w : World} {B : Nat} {A : Option Addr} {xs : List Value} (h : Row w B A xs) (n : Nat) : Row (w.drewN n) B A xs := h
theorem Row.alloc {w : World} {A : Option Addr} {xs : List Value} (h : Row w w.heap.size A xs) (o : Obj) : Row (w.alloc o) (w.alloc o).heap.size A xs := h.step ((Below.refl _ _).alloc (Nat.le_refl _) o)
theorem Row.grown {w w' : World} {B : Nat} {A : Option Addr} {xs : List Value} {row : Option Nat} (h : Row w B A xs) (hB : B ≤ w.heap.size) (hg : w.grownBy w' row) (hr : ∀ k, row = some k → B ≤ k) : Row w' B A xs :=
  h.below (C := B) ⟨hg.os, hg.tape, hg.output, hg.size, fun k hk => hg.block k (by omega) (fun e => by have := hr k e.symm; omega)⟩ (Nat.le_refl _)

theorem run_append_zero {P : Program} (w : World) (base : Nat) (t ty e : TypeId) (i : TypeInfo) (size : Nat) (ht : P.underlying t = some (.slice e)) (hi : P.info? e = some i)
    (v : Value) (n : Nat) (xs : List Value) (hown : w.ownsRow base e size v n xs) (A : Option Addr) (c : Nat) :
    (Builtin.append_ #[t, t] ty #[v, .slice A 0 c]).run P w = .ok v w := by
  cases A with
  | none =>
    rcases hown.2 with ⟨rfl, rfl⟩ | ⟨g, cap, cur, rfl, _, _, hnc, _⟩
    · simp [Builtin.append_, run_underlying ht, sizeOf, typeInfo, hi, Builtin.lenOf, Builtin.firstCells]
    · simp [Builtin.append_, run_underlying ht, sizeOf, typeInfo, hi, Builtin.lenOf, Builtin.firstCells, hnc, storeCells]
  | some a =>
    rcases hown.2 with ⟨rfl, rfl⟩ | ⟨g, cap, cur, rfl, _, _, hnc, _⟩
    · simp [Builtin.append_, run_underlying ht, sizeOf, typeInfo, hi, Builtin.lenOf, Builtin.firstCells, loadCells, loadCellsFrom]
    · simp [Builtin.append_, run_underlying ht, sizeOf, typeInfo, hi, Builtin.lenOf, Builtin.firstCells, hnc, storeCells, loadCells, loadCellsFrom]

theorem run_append_row {P : Program} (w : World) (base : Nat) (t ty e : TypeId) {size bytes : Nat} (El : Elem P t e size bytes)
    (v : Value) (n : Nat) (xs : List Value) (hown : w.ownsRow base e size v n xs)
    (A : Option Addr) (m c B : Nat) (news : List Value) (hl : news.length = m * size) (hnews : Row w B A news) (h1 : ∀ u ∈ news, u.oneCell' = true)
    (h63 : n + m ≤ maxLen) (hbytes : (n + m) * bytes ≤ 140737488355328) (hbase : base ≤ w.heap.size) :
    ∃ v' w', (Builtin.append_ #[t, t] ty #[v, .slice A m c]).run P w = .ok v' w' ∧ w'.ownsRow base e size v' (n + m) (xs ++ news) ∧ w.grownBy w' v.ownBlock ∧ (v'.ownBlock = v.ownBlock ∨ v'.ownBlock = some w.heap.size) := by
  obtain ⟨i, z, hi, hz, hsize, hby, hzs⟩ := El.hi
  rcases hnews with rfl | ⟨b, off, rfl, hb, hc⟩
  · have hm : m = 0 := by
      have hp := El.pos
      simp only [List.length_nil] at hl
      rcases Nat.mul_eq_zero.1 hl.symm with h | h <;> omega
    subst hm
    exact ⟨v, w, run_append_zero w base t ty e i size El.ht hi v n xs hown A c, by simpa using hown, ⟨rfl, rfl, rfl, Nat.le_refl _, fun _ _ _ => rfl⟩, .inl rfl⟩
  · obtain ⟨v', w', hr, h2, h3, h4, h5⟩ := run_append_own_at (P := P) w base t ty e i z size bytes El.ht hi hz hsize hby hzs El.pos v n xs hown ⟨b, off, none⟩ m c news hl (fun j u hu => by
      rw [addr_add]
      exact hc j u hu) h1 h63 hbytes hbase
    exact ⟨v', w', hr, h2, h3, h5⟩

theorem wp_append_row {P : Program} {w : World} {o : Oper} {a : Act} {K : Act → World → Prop} {Q : Exit → Act → World → Prop} {t e : TypeId} {size bytes : Nat} (El : Elem P t e size bytes) (s x : Operand)
    (ho : o.op = .call { callee := .builtin .append, args := #[s, x], argTypes := #[t, t] })
    (base : Nat) (v : Value) (n : Nat) (xs : List Value) (hs : a.eval s = v) (hown : w.ownsRow base e size v n xs)
    (A : Option Addr) (m c B : Nat) (news : List Value) (hx : a.eval x = .slice A m c) (hl : news.length = m * size) (hnews : Row w B A news) (h1 : ∀ u ∈ news, u.oneCell' = true)
    (h63 : n + m ≤ maxLen) (hbytes : (n + m) * bytes ≤ 140737488355328) (hbase : base ≤ w.heap.size)
    (h : ∀ v' w', w'.ownsRow base e size v' (n + m) (xs ++ news) → w.grownBy w' v.ownBlock → (v'.ownBlock = v.ownBlock ∨ v'.ownBlock = some w.heap.size) → K (a.put o.dst v') w') : o.wp P a w K Q := by
  obtain ⟨v', w', hr, h2, h3, h4⟩ := run_append_row (P := P) w base t o.type e El v n xs hown A m c B news hl hnews h1 h63 hbytes hbase
  unfold Oper.wp execOp
  simp only [ho, resolve, invoke, builtin, Sem.run_bind, Sem.run_pure, Result.andThen_ok, List.map_toArray, List.map_cons, List.map_nil, hs, hx, hr]
  exact h v' w' h2 h3 h4

theorem wpList_append_row {P : Program} {w : World} {ops : Array Oper} {rest : List Oper} {o : Oper} {a : Act} {Q : Exit → Act → World → Prop} {t e : TypeId} {size bytes : Nat} (El : Elem P t e size bytes) (hgd : o.guard = none) (s x : Operand)
    (ho : o.op = .call { callee := .builtin .append, args := #[s, x], argTypes := #[t, t] })
    (base : Nat) (v : Value) (n : Nat) (xs : List Value) (hs : a.eval s = v) (hown : w.ownsRow base e size v n xs)
    (A : Option Addr) (m c B : Nat) (news : List Value) (hx : a.eval x = .slice A m c) (hl : news.length = m * size) (hnews : Row w B A news) (h1 : ∀ u ∈ news, u.oneCell' = true)
    (h63 : n + m ≤ maxLen) (hbytes : (n + m) * bytes ≤ 140737488355328) (hbase : base ≤ w.heap.size)
    (h : ∀ v' w', w'.ownsRow base e size v' (n + m) (xs ++ news) → w.grownBy w' v.ownBlock → (v'.ownBlock = v.ownBlock ∨ v'.ownBlock = some w.heap.size) → wpList P ops Q rest (a.put o.dst v') w') :
    wpList P ops Q (o :: rest) a w :=
  wpList_plain hgd fun K hK => wp_append_row El s x ho base v n xs hs hown A m c B news hx hl hnews h1 h63 hbytes hbase fun v' w' a1 a2 a3 => hK _ _ (h v' w' a1 a2 a3)

/-- What is in the anchor world stands in a later one: for 'go_region_held3'. -/
theorem keepS {W w' : World} (h : Below W.heap.size W w') : (∀ b o, b < W.heap.size → w'.cell? ⟨b, o, none⟩ = W.cell? ⟨b, o, none⟩) ∧ Below W.heap.size W w' := ⟨(bcell h).1, h⟩
theorem own_ne_lo {w : World} {B n size : Nat} {T : TypeId} {v : Value} {xs : List Value} (h : w.ownsRow B T size v n xs) : ∀ b, b < B → (some b = v.ownBlock) = False :=
  fun b hb => eq_false fun e => Nat.lt_irrefl _ (Nat.lt_of_lt_of_le hb (h.lt b e.symm).1)
theorem Blk.grown' {w w' : World} {b : Nat} {cs : Array Value} {T : TypeId} {row : Option Nat} (h : Blk w b cs T) (hg : w.grownBy w' row) (hne : (some b = row) = False) : Blk w' b cs T := h.grown hg (fun e => by rw [hne] at e; exact e)
theorem alloc_below {W w : World} (h : Below W.heap.size W w) (o : Obj) : Below W.heap.size W (w.alloc o) := h.alloc h.size o
end Go.Proofs.YtamlaeocojcgdaaDoor
/- The project's list of words in memory; strconv.Itoa as a value. -/
namespace Go.Proofs.YtamlaeocojcgdaaDoor
set_option linter.unusedVariables false
set_option linter.unusedSimpArgs false
open Go.ChangeShapes Go.WideShapes Go.ChangeAt Go.RowKit

/-- The project's list of words. -/
def VerbsAt (w : World) : Prop := 0 < w.heap.size ∧ ∀ k : Nat, k ≤ 9 → w.cell? ⟨0, k, none⟩ = some (.string (bstr (verbB (k : Int))))
theorem VerbsAt.step {w w' : World} (h : VerbsAt w) (hb : Below w.heap.size w w') : VerbsAt w' := ⟨Nat.lt_of_lt_of_le h.1 hb.size, fun k hk => by rw [(bcell hb).1 _ _ h.1]; exact h.2 k hk⟩
end Go.Proofs.YtamlaeocojcgdaaDoor
/- The frame of QuerySays: its row lists the library's tables and the project's list of words. No law in sight. -/
namespace Go.Proofs.YtamlaeocojcgdaaDoor
set_option linter.unusedVariables false
open Go.ChangeShapes Go.WideShapes Go.ChangeAt Go.RowKit

theorem pow_data : (Rows.laid_internal_strconv_uint64pow10 : DataW Unit) = Lib.tabData .u64 Lib.pow10Tab := by kernel_rfl
theorem pow_named : Tryd.prog.globalNamed "internal/strconv.uint64pow10" = some 2 := by kernel_rfl
theorem pow_type : (Tryd.prog.globals[2]?).map (·.type) = some 104 := by kernel_rfl
end Go.Proofs.YtamlaeocojcgdaaDoor
/- Queries read: pieces of a text, numbers, steps of words. No program in sight. -/
namespace Go.Proofs.YtamlaeocojcgdaaDoor
set_option linter.unusedVariables false
set_option linter.unusedSimpArgs false

/-- The pieces of a text between bytes of one sort. -/
def pcs (c : UInt8) : List UInt8 → List (List UInt8)
  | [] => [[]]
  | x :: l => if x = c then [] :: pcs c l else match pcs c l with
    | [] => [[x]]
    | h :: t => (x :: h) :: t
theorem pcs_ne (c : UInt8) (l : List UInt8) : pcs c l ≠ [] := by
  cases l with
  | nil => simp [pcs]
  | cons x l =>
    unfold pcs
    by_cases h : x = c
    · rw [if_pos h]; simp
    · rw [if_neg h]
      split <;> simp
theorem pcs_sep (c : UInt8) (l : List UInt8) : pcs c (c :: l) = [] :: pcs c l := by rw [pcs, if_pos rfl]
theorem pcs_cons {c x : UInt8} (h : x ≠ c) {l p : List UInt8} {r : List (List UInt8)} (e : pcs c l = p :: r) : pcs c (x :: l) = (x :: p) :: r := by rw [pcs, if_neg h, e]
theorem pcs_ex (c : UInt8) (l : List UInt8) : ∃ p r, pcs c l = p :: r := List.exists_cons_of_ne_nil (pcs_ne c l)
theorem pcs_nosep {c : UInt8} {l : List UInt8} (h : c ∉ l) : pcs c l = [l] := by
  induction l with
  | nil => rfl
  | cons x l ih =>
    have h1 : x ≠ c := fun e => h (by rw [e]; exact List.mem_cons_self)
    have h2 : c ∉ l := fun e => h (List.mem_cons_of_mem _ e)
    rw [pcs_cons h1 (ih h2)]
theorem pcs_first {c : UInt8} {a : List UInt8} (h : c ∉ a) (b : List UInt8) : pcs c (a ++ c :: b) = a :: pcs c b := by
  induction a with
  | nil => exact pcs_sep c b
  | cons x a ih =>
    have h1 : x ≠ c := fun e => h (by rw [e]; exact List.mem_cons_self)
    have h2 : c ∉ a := fun e => h (List.mem_cons_of_mem _ e)
    rw [List.cons_append, pcs_cons h1 (ih h2)]
theorem pcs_len (c : UInt8) (l : List UInt8) : (pcs c l).length ≤ l.length + 1 ∧ ∀ p ∈ pcs c l, p.length ≤ l.length := by
  induction l with
  | nil => simp [pcs]
  | cons x l ih =>
    by_cases hx : x = c
    · subst hx
      rw [pcs_sep]
      refine ⟨by simp only [List.length_cons]; omega, fun p hp => ?_⟩
      rcases List.mem_cons.1 hp with rfl | hp
      · simp
      · have := ih.2 p hp; simp only [List.length_cons]; omega
    · obtain ⟨p, r, e⟩ := pcs_ex c l
      rw [pcs_cons hx e]
      rw [e] at ih
      refine ⟨by have := ih.1; simp only [List.length_cons] at *; omega, fun q hq => ?_⟩
      rcases List.mem_cons.1 hq with rfl | hq
      · have := ih.2 p (by simp); simp only [List.length_cons]; omega
      · have := ih.2 q (by simp [hq]); simp only [List.length_cons]; omega
/-! The library's words for it. -/
theorem index_pcs (c : UInt8) (s : List UInt8) : (c ∉ s ∧ Lib.index s [c] = -1) ∨ ∃ a b, c ∉ a ∧ s = a ++ c :: b ∧ Lib.index s [c] = a.length := by
  induction s with
  | nil => left; simp [Lib.index]
  | cons x s ih =>
    by_cases hx : x = c
    · subst hx
      right
      exact ⟨[], s, by simp, rfl, by simp [Lib.index, List.isPrefixOf]⟩
    · have hp : ([c].isPrefixOf (x :: s)) = false := by simp [List.isPrefixOf, Ne.symm hx]
      rcases ih with ⟨h1, h2⟩ | ⟨a, b, h1, h2, h3⟩
      · left
        refine ⟨fun h => ?_, by rw [Lib.index, hp, h2]; simp⟩
        rcases List.mem_cons.1 h with e | e
        · exact hx e.symm
        · exact h1 e
      · right
        refine ⟨x :: a, b, fun h => ?_, by rw [h2]; rfl, ?_⟩
        · rcases List.mem_cons.1 h with e | e
          · exact hx e.symm
          · exact h1 e
        · have hz : ((a.length : Int) == -1) = false := by rw [beq_eq_false_iff_ne]; omega
          rw [Lib.index, hp, h3]
          simp [hz]
theorem splitK_pcs (c : UInt8) : ∀ (k : Nat) (s : List UInt8), Lib.count s [c] ≤ k → Lib.splitK [c] 0 k s = pcs c s := by
  intro k
  induction k with
  | zero =>
    intro s h
    rcases index_pcs c s with ⟨h1, h2⟩ | ⟨a, b, h1, h2, h3⟩
    · rw [Lib.splitK, pcs_nosep h1]
    · exfalso
      have hz : ¬ ((a.length : Int) == -1) = true := by rw [beq_iff_eq]; omega
      unfold Lib.count at h
      rw [Lib.countFrom, h3, if_neg hz] at h
      omega
  | succ k ih =>
    intro s h
    rw [Lib.splitK]
    rcases index_pcs c s with ⟨h1, h2⟩ | ⟨a, b, h1, h2, h3⟩
    · rw [h2, pcs_nosep h1]; rfl
    · have hz : ¬ ((a.length : Int) == -1) = true := by rw [beq_iff_eq]; omega
      rw [h3, if_neg hz]
      have e1 : ((a.length : Int)).toNat = a.length := rfl
      have e2 : s.take (a.length + 0) = a := by rw [h2]; simp
      have e3 : s.drop (a.length + 1) = b := by rw [h2, List.drop_append]; simp
      rw [e1, e2, List.length_singleton, e3, ih, h2, pcs_first h1]
      have hc : Lib.count s [c] = 1 + Lib.count b [c] := by
        have := Lib.countB_hit ⟨s.toArray⟩ ⟨#[c]⟩ a.length (show 1 ≤ (#[c] : Array UInt8).size from Nat.le_refl 1) (by simpa [Lib.indexB] using h3)
        unfold Lib.countB at this
        rw [Lib.extract_to_end] at this
        exact this.trans (by show 1 + Lib.count (s.drop (a.length + 1)) [c] = _; rw [e3])
      omega
theorem split_pcs (c : UInt8) (s : ByteArray) : (Lib.splitB ⟨#[c]⟩ 0 (Lib.countB s ⟨#[c]⟩) s).map (·.data.toList) = pcs c s.data.toList := by
  rw [Lib.splitB_data]
  exact splitK_pcs c _ _ (Nat.le_refl _)
theorem cut_miss {c : UInt8} {s : List UInt8} (h : c ∉ s) : Lib.cut s [c] = (s, [], false) := by
  rcases index_pcs c s with ⟨h1, h2⟩ | ⟨a, b, h1, h2, h3⟩
  · rw [Lib.cut, h2]; rfl
  · exact absurd (by rw [h2]; simp) h
theorem cut_hit {c : UInt8} {a b : List UInt8} (h : c ∉ a) : Lib.cut (a ++ c :: b) [c] = (a, b, true) := by
  rcases index_pcs c (a ++ c :: b) with ⟨h1, h2⟩ | ⟨a', b', h1, h2, h3⟩
  · exact absurd (by simp) h1
  · have e : a' = a ∧ b' = b := by
      have p1 := pcs_first h b
      have p2 := pcs_first h1 b'
      rw [← h2] at p2
      have q := p1.symm.trans p2
      have ea : a = a' := (List.cons.inj q).1
      subst ea
      have := List.append_cancel_left h2
      exact ⟨rfl, (List.cons.inj this).2.symm⟩
    obtain ⟨rfl, rfl⟩ := e
    rw [Lib.cut, h3, if_pos (by omega)]
    simp
theorem sep_or (c : UInt8) (s : List UInt8) : c ∉ s ∨ ∃ a b, c ∉ a ∧ s = a ++ c :: b := by
  rcases index_pcs c s with ⟨h1, _⟩ | ⟨a, b, h1, h2, _⟩
  · exact .inl h1
  · exact .inr ⟨a, b, h1, h2⟩

/-! numbers -/
def digB (x : UInt8) : Bool := decide (48 ≤ x.toNat) && decide (x.toNat ≤ 57)
def valD (l : List UInt8) : Int := l.foldl (fun n x => 10 * n + ((x.toNat : Int) - 48)) 0
theorem valD_snoc (l : List UInt8) (x : UInt8) : valD (l ++ [x]) = 10 * valD l + ((x.toNat : Int) - 48) := by simp [valD]
theorem valD_rng : ∀ (n : Nat) (l : List UInt8), l.length = n → (∀ x ∈ l, digB x = true) → 0 ≤ valD l ∧ valD l < 10 ^ n := by
  intro n
  induction n with
  | zero => intro l h _; rw [List.length_eq_zero_iff.1 h]; simp [valD]
  | succ n ih =>
    intro l h hd
    obtain ⟨l', x, rfl⟩ : ∃ l' x, l = l' ++ [x] := by
      have hne : l ≠ [] := fun e => by rw [e] at h; simp at h
      exact ⟨l.dropLast, l.getLast hne, (List.dropLast_concat_getLast hne).symm⟩
    have h1 := ih l' (by simp at h; omega) (fun y hy => hd y (by simp [hy]))
    have h2 := hd x (by simp)
    simp only [digB, Bool.and_eq_true, decide_eq_true_eq] at h2
    rw [valD_snoc, Int.pow_succ]
    omega
/-- A first digit that is no nought: no nought. -/
theorem valD_pos {x : UInt8} {l : List UInt8} (hx : digB x = true) (h0 : x ≠ 48) (hd : ∀ y ∈ l, digB y = true) : 0 < valD (x :: l) := by
  have hx' : 1 ≤ (x.toNat : Int) - 48 := by
    simp only [digB, Bool.and_eq_true, decide_eq_true_eq] at hx
    have : x.toNat ≠ 48 := fun e => h0 (UInt8.toNat_inj.1 e)
    omega
  obtain ⟨n, hn⟩ : ∃ n, l.length = n := ⟨_, rfl⟩
  revert l
  induction n with
  | zero =>
    intro l hd hn
    rw [List.length_eq_zero_iff.1 hn]
    simp only [valD, List.foldl_cons, List.foldl_nil]; omega
  | succ n ih =>
    intro l hd hn
    obtain ⟨l', y, rfl⟩ : ∃ l' y, l = l' ++ [y] := by
      have hne : l ≠ [] := fun e => by rw [e] at hn; simp at hn
      exact ⟨l.dropLast, l.getLast hne, (List.dropLast_concat_getLast hne).symm⟩
    have h1 := ih (l := l') (fun z hz => hd z (by simp [hz])) (by simp at hn; omega)
    have h2 := hd y (by simp)
    simp only [digB, Bool.and_eq_true, decide_eq_true_eq] at h2
    rw [← List.cons_append, valD_snoc]
    omega
/-- Digits behind a sign that is there or not. -/
def numD (m : Bool) (d : List UInt8) : Option Int :=
  if 1 ≤ d.length ∧ d.length ≤ 10 ∧ ¬ (d.head? = some 48 ∧ (1 < d.length ∨ m = true)) ∧ (∀ x ∈ d, digB x = true) then some (if m then - valD d else valD d) else none
def numR (s : List UInt8) : Option Int := if s.head? = some 45 then numD true s.tail else numD false s
def numsR : List (List UInt8) → Option (List Int)
  | [] => some []
  | x :: l => match numR x, numsR l with
    | some n, some ns => some (n :: ns)
    | _, _ => none
theorem numsR_bad {x : List UInt8} {l : List (List UInt8)} (hx : x ∈ l) (h : numR x = none) : numsR l = none := by
  induction l with
  | nil => cases hx
  | cons y l ih =>
    rcases List.mem_cons.1 hx with rfl | hx
    · rw [numsR, h]
    · rw [numsR, ih hx]
      cases numR y <;> rfl
theorem numsR_snoc {l : List (List UInt8)} {ns : List Int} {x : List UInt8} {n : Int} (h : numsR l = some ns) (hx : numR x = some n) : numsR (l ++ [x]) = some (ns ++ [n]) := by
  induction l generalizing ns with
  | nil =>
    rw [numsR] at h
    obtain rfl := (Option.some.inj h).symm
    simp [numsR, hx]
  | cons y l ih =>
    rw [numsR] at h
    revert h
    cases hy : numR y with
    | none => simp
    | some m =>
      cases hl : numsR l with
      | none => simp
      | some ms =>
        intro h
        obtain rfl := (Option.some.inj h).symm
        rw [List.cons_append, numsR, hy, ih hl]; rfl
theorem numsR_len {l : List (List UInt8)} {ns : List Int} (h : numsR l = some ns) : ns.length = l.length := by
  induction l generalizing ns with
  | nil => rw [numsR] at h; obtain rfl := (Option.some.inj h).symm; rfl
  | cons y l ih =>
    rw [numsR] at h
    revert h
    cases hy : numR y with
    | none => simp
    | some m =>
      cases hl : numsR l with
      | none => simp
      | some ms =>
        intro h
        obtain rfl := (Option.some.inj h).symm
        simp [ih hl]
/-! steps -/
def signR (o : List UInt8) : Option Int := if o = [60] then some 1 else if o = [61] then some 2 else if o = [62] then some 3 else none
def kindR (v : List UInt8) : Int :=
  if v = verbB 1 then 1 else if v = verbB 2 then 2 else if v = verbB 3 then 3 else if v = verbB 4 then 4 else if v = verbB 5 then 5 else if v = verbB 6 then 6 else if v = verbB 7 then 7 else if v = verbB 8 then 8 else if v = verbB 9 then 9 else 0
/-- A step of its numbers. -/
def mkR (k : Int) (op : Int) (l : List Int) : List Int → Option St
  | [a] => if k = 1 ∨ k = 7 ∨ k = 3 then some ⟨k, a, 0, 0, op, 0, l⟩ else none
  | [a, b] => if k = 5 ∨ k = 6 then some ⟨k, a, b, 0, op, 0, l⟩ else if k = 8 then some ⟨k, a, 0, b, op, 0, l⟩ else none
  | [a, b, c] => if k = 2 ∨ k = 9 then some ⟨k, a, 0, b, op, c, l⟩ else none
  | [a, b, c, d] => if k = 4 then some ⟨k, a, b, c, op, d, l⟩ else none
  | _ => none
/-- A step of words; none: it is none. -/
def stepR : List (List UInt8) → Option St
  | [] => none
  | v :: r =>
    if kindR v = 2 then match r with
      | [x, y, o, z] => match signR o, numsR [x, y, z] with
        | some p, some ns => mkR 2 p [] ns
        | _, _ => none
      | _ => none
    else if kindR v = 3 then match r with
      | [x, y] => match numsR [x], numsR (pcs 44 y) with
        | some ns, some l => mkR 3 0 l ns
        | _, _ => none
      | _ => none
    else match numsR r with
      | some ns => mkR (kindR v) 0 [] ns
      | none => none
/-- Lines read, from the n-th one on: the number of the line that is none, or the steps. -/
def linesR : List (List UInt8) → Int → Sum Int (List St)
  | [], _ => .inr []
  | [x], n => if x = [] then .inr [] else .inl n
  | x :: y :: r, n => match stepR (pcs 32 x) with
    | none => .inl n
    | some s => match linesR (y :: r) (n + 1) with
      | .inl k => .inl k
      | .inr q => .inr (s :: q)
/-- P11: what Parse answers. -/
def parseR (s : List UInt8) : List St × Int × Int :=
  if 1024 < s.length then ([], 0, 2) else match linesR (pcs 10 s) 1 with
    | .inl k => ([], k, 3)
    | .inr q => if queryE q = 0 then (q, 0, 0) else ([], 0, queryE q)
end Go.Proofs.YtamlaeocojcgdaaDoor
/- Strings by their bytes. No program in sight. -/
namespace Go.Proofs.YtamlaeocojcgdaaDoor
theorem bsq_get (L : List UInt8) (i : Nat) (h : i < L.length) : (bstr L)[i]'h = L[i] := by simp [ByteArray.getElem_eq_getElem_data]
theorem bsq_lt (b : UInt8) : b.toNat < 256 := b.toNat_lt
theorem bstr_list (L : List UInt8) : (bstr L).data.toList = L := rfl
theorem bstr_of (s : ByteArray) : s = bstr s.data.toList := rfl
theorem bsq_eqT {A B : ByteArray} {a b : List UInt8} (hA : A = bstr a) (hB : B = bstr b) (h : a = b) : (A.toList == B.toList) = true := by
  rw [hA, hB, h]; exact beq_self_eq_true _
theorem bsq_eqF {A B : ByteArray} {a b : List UInt8} (hA : A = bstr a) (hB : B = bstr b) (h : a ≠ b) : (A.toList == B.toList) = false := by
  rw [hA, hB, ByteArray.toList_eq, ByteArray.toList_eq]
  exact beq_eq_false_iff_ne.2 h
end Go.Proofs.YtamlaeocojcgdaaDoor
/- Words for memory that every seat wants: rows of things of more than one cell, owned rows of whatever size. No program in sight. -/
namespace Go.Proofs.YtamlaeocojcgdaaDoor
set_option linter.unusedVariables false
open Go.RowKit

theorem flat_len {α β : Type} {f : α → List β} {n : Nat} (hf : ∀ x, (f x).length = n) : ∀ (L : List α), (L.flatMap f).length = L.length * n
  | [] => by simp
  | x :: L => by rw [List.flatMap_cons, List.length_append, hf, flat_len hf L, List.length_cons, Nat.succ_mul, Nat.add_comm]
theorem flat_get {α β : Type} {f : α → List β} {n : Nat} (hf : ∀ x, (f x).length = n) : ∀ (L : List α) (k : Nat) (h : k < L.length) (j : Nat), j < n → (L.flatMap f)[k * n + j]? = (f L[k])[j]?
  | x :: L, 0, _, j, hj => by
    rw [List.flatMap_cons, Nat.zero_mul, Nat.zero_add, List.getElem?_append_left (by rw [hf]; exact hj)]; rfl
  | x :: L, k + 1, h, j, hj => by
    rw [List.flatMap_cons, List.getElem?_append_right (by rw [hf, Nat.succ_mul]; omega), hf, show (k + 1) * n + j - n = k * n + j by rw [Nat.succ_mul]; omega]
    exact flat_get hf L k (by simpa using h) j hj
/-- What lies at the k-th thing of a row. -/
theorem Row.flat {α : Type} {f : α → List Value} {n : Nat} (hf : ∀ x, (f x).length = n) {w : World} {B : Nat} {A : Option Addr} {L : List α} (h : Row w B A (L.flatMap f)) (hn : 0 < n) {k : Nat} (hk : k < L.length) :
    ∃ b off, A = some ⟨b, off, none⟩ ∧ b < B ∧ ∀ j u, (f L[k])[j]? = some u → w.cell? ⟨b, off + k * n + j, none⟩ = some u := by
  have hlen : 0 < (L.flatMap f).length := by rw [flat_len hf]; exact Nat.mul_pos (by omega) hn
  obtain ⟨b, off, h1, h2, h3⟩ := h.at_ hlen
  refine ⟨b, off, h1, h2, fun j u hu => ?_⟩
  have hj : j < n := by
    rcases Nat.lt_or_ge j n with h | h
    · exact h
    · rw [List.getElem?_eq_none (by rw [hf]; exact h)] at hu; cases hu
  have := h3 (k * n + j) u (by rw [flat_get hf L k hk j hj]; exact hu)
  rw [← Nat.add_assoc] at this
  exact this

/-- A row from its cells, one thing at a time. -/
theorem Row.of_each {α : Type} {f : α → List Value} {s : Nat} (hf : ∀ x, (f x).length = s) {w : World} {b off n : Nat} (hb : b < w.heap.size) {Q : α → Prop}
    (h : ∀ i, i < n → ∃ x : α, Q x ∧ ∀ j u, (f x)[j]? = some u → w.cell? ⟨b, off + (i * s + j), none⟩ = some u) :
    ∃ l : List α, l.length = n ∧ (∀ x ∈ l, Q x) ∧ Row w w.heap.size (some ⟨b, off, none⟩) (l.flatMap f) := by
  have h' : ∀ m, m ≤ n → ∃ l : List α, l.length = m ∧ (∀ x ∈ l, Q x) ∧ ∀ j u, (l.flatMap f)[j]? = some u → w.cell? ⟨b, off + j, none⟩ = some u := by
    intro m
    induction m with
    | zero => exact fun _ => ⟨[], rfl, by simp, fun j u hu => by simp at hu⟩
    | succ m ih =>
      intro hm
      obtain ⟨l, hl, hq, hc⟩ := ih (by omega)
      obtain ⟨x, hqx, hx⟩ := h m (by omega)
      refine ⟨l ++ [x], by simp [hl], fun y hy => ?_, fun j u hu => ?_⟩
      · rcases List.mem_append.1 hy with h1 | h1
        · exact hq y h1
        · simp only [List.mem_singleton] at h1; rw [h1]; exact hqx
      · have e : (l ++ [x]).flatMap f = l.flatMap f ++ f x := by simp
        rw [e] at hu
        have hlen := flat_len hf l
        by_cases hj : j < (l.flatMap f).length
        · rw [List.getElem?_append_left hj] at hu
          exact hc j u hu
        · rw [List.getElem?_append_right (by omega)] at hu
          have := hx _ u hu
          rw [hlen, hl, show m * s + (j - m * s) = j by rw [hlen, hl] at hj; omega] at this
          exact this
  obtain ⟨l, hl, hq, hc⟩ := h' n (Nat.le_refl _)
  exact ⟨l, hl, hq, .inr ⟨b, off, rfl, hb, hc⟩⟩

theorem add_none (b off j : Nat) : (⟨b, off, none⟩ : Addr).add j = ⟨b, off + j, none⟩ := by
  unfold Addr.add
  split
  · subst_vars; rfl
  · rfl
/-- A slice's block is none that was there ahead. -/
def NewAt (lo : Nat) (A : Option Addr) : Prop := ∀ b off q, A = some ⟨b, off, q⟩ → lo ≤ b
theorem grown_of_below {w w' : World} (h : Below w.heap.size w w') : w.grownBy w' none := ⟨h.os, h.tape, h.output, h.size, fun k hk _ => h.block k hk⟩
theorem Row.of_ownS {w : World} {B n c s : Nat} {T : TypeId} {A : Option Addr} {xs : List Value} (h : w.ownsRow B T s (.slice A n c) n xs) : Row w w.heap.size A xs := by
  rcases h.2 with ⟨h', h0⟩ | ⟨g, cap, cur, h', hb, hg, hnc, hcm, hcs, htake⟩
  · have : xs = [] := List.eq_nil_of_length_eq_zero (by rw [h.1, h0, Nat.zero_mul])
    exact .inl this
  · injection h' with h1 h2 h3
    subst h1
    have hlt : g < w.heap.size := by
      rcases Nat.lt_or_ge g w.heap.size with h | h
      · exact h
      · rw [Array.getElem?_eq_none h] at hg; cases hg
    refine .inr ⟨g, 0, rfl, hlt, fun j u hu => ?_⟩
    have := h.cells (g := g) rfl j u hu
    rwa [add_none] at this
theorem own_formS {w : World} {B n s : Nat} {T : TypeId} {v : Value} {xs : List Value} (h : w.ownsRow B T s v n xs) : ∃ A c, v = .slice A n c := by
  rcases h.2 with ⟨rfl, rfl⟩ | ⟨g, cap, cur, rfl, _⟩
  · exact ⟨none, 0, rfl⟩
  · exact ⟨_, _, rfl⟩
theorem own_laterS {w w' : World} {B n s : Nat} {T : TypeId} {v : Value} {xs : List Value} (h : w.ownsRow B T s v n xs) (hb : Below w.heap.size w w') : w'.ownsRow B T s v n xs :=
  h.kept (grown_of_below hb) (by cases hv : v.ownBlock <;> simp)
/-- What a new block holds, as append reads it. -/
theorem news_at (w : World) (cs : List Value) (T : TypeId) (H : Nat) (hH : w.heap.size = H) : ∀ j u, cs[j]? = some u → (w.alloc (.cells cs.toArray T)).cell? ((⟨H, 0, none⟩ : Addr).add j) = some u := by
  intro j u hu
  subst hH
  rw [add_none, Nat.zero_add, cell_of_row _ _ j _ _ _ (heap_alloc_new w _)]
  simpa using hu
end Go.Proofs.YtamlaeocojcgdaaDoor
/- Items of sets in memory: a row and how many times; lists of ints. -/
namespace Go.Proofs.YtamlaeocojcgdaaDoor
set_option linter.unusedVariables false
open Go.RowKit

/-- An item, and where its row lies. -/
structure IR where
  row : List Int
  A : Option Addr
  k : Nat
  n : Int
instance : Inhabited IR := ⟨⟨[], none, 0, 0⟩⟩
abbrev IR.cells (x : IR) : List Value := [.slice x.A x.row.length x.k, .int .i64 x.n]
abbrev rcells (L : List IR) : List Value := L.flatMap IR.cells
theorem IR.len (x : IR) : x.cells.length = 2 := rfl
abbrev icells' (l : List Int) : List Value := l.map (Value.int .i64)
/-- The rows of the items lie below B. -/
def RowsAt (w : World) (B : Nat) (L : List IR) : Prop := ∀ x ∈ L, Row w B x.A (icells' x.row) ∧ x.row.length ≤ 9223372036854775807
/-- A list of items lies at A, their rows too. -/
def RowI (w : World) (B : Nat) (A : Option Addr) (L : List IR) : Prop := Row w B A (rcells L) ∧ RowsAt w B L
theorem RowsAt.below {w w' : World} {B C : Nat} {L : List IR} (h : RowsAt w B L) (hb : Below C w w') (hB : B ≤ C) : RowsAt w' B L := fun x hx => ⟨(h x hx).1.below hb hB, (h x hx).2⟩
theorem RowsAt.more {w : World} {B C : Nat} {L : List IR} (h : RowsAt w B L) (hB : B ≤ C) : RowsAt w C L := fun x hx => ⟨(h x hx).1.more hB, (h x hx).2⟩
theorem RowsAt.step {w w' : World} {L : List IR} (h : RowsAt w w.heap.size L) (hb : Below w.heap.size w w') : RowsAt w' w'.heap.size L := (h.below hb (Nat.le_refl _)).more hb.size
theorem RowI.step {w w' : World} {A : Option Addr} {L : List IR} (h : RowI w w.heap.size A L) (hb : Below w.heap.size w w') : RowI w' w'.heap.size A L := ⟨h.1.step hb, h.2.step hb⟩
theorem RowI.nil {w : World} {B : Nat} {A : Option Addr} : RowI w B A [] := ⟨Row.nil, fun x hx => by simp at hx⟩
theorem Row.int' {w : World} {B : Nat} {A : Option Addr} {l : List Int} (h : Row w B A (icells' l)) {k : Nat} (hk : k < l.length) :
    ∃ b off, A = some ⟨b, off, none⟩ ∧ b < B ∧ w.cell? ⟨b, off + k, none⟩ = some (.int .i64 l[k]) := by
  obtain ⟨b, off, h1, h2, h3⟩ := h.at_ (show 0 < (icells' l).length by simp; omega)
  exact ⟨b, off, h1, h2, h3 k _ (by simp [hk])⟩
end Go.Proofs.YtamlaeocojcgdaaDoor
/- Sets with weights: which rows and weights may be; slices.IndexFunc, ContainsFunc at int. -/
namespace Go.Proofs.YtamlaeocojcgdaaDoor
set_option linter.unusedVariables false
set_option linter.unusedSimpArgs false
open Go.ChangeShapes Go.WideShapes Go.ChangeAt Go.RowKit

/-- An index that IndexFunc tells: at least 0 just if there is one. -/
def FoundAt (p : Prop) (w : World) (e : Ending) (w' : World) : Prop := ∃ i : Int, e = .returned (.int .i64 i) ∧ (0 ≤ i ↔ p) ∧ Below w.heap.size w w'
/-- What is asked of a function value: handed an element of the list, in whatever later world, it answers p, and leaves what was there. -/
def PredNt (g : Nat) (caps : Array Value) (p : Int → Bool) (L : List Int) (w : World) : Prop :=
  ∀ w', Below w.heap.size w w' → ∀ x ∈ L, Calls Tryd.prog g (#[.int .i64 x] ++ caps) w' fun e w'' => e = .returned (.bool (p x)) ∧ Below w'.heap.size w' w''
set_option maxHeartbeats 400000 in
set_option maxRecDepth 100000 in
theorem indexNt_any (g : Nat) (caps : Array Value) (p : Int → Bool) (L : List Int) (A : Option Addr) (c : Nat) (w : World) (hr : Row w w.heap.size A (icells' L)) (hl : L.length ≤ 9223372036854775807)
    (eg : ∀ args w, (callFunc g args).run Tryd.prog w = .ok (.enter g args) w) (hp : PredNt g caps p L w) :
    Calls Tryd.prog 74 #[.slice A L.length c, .func (.func g) #[] caps] w (FoundAt (L.any p = true) w) := by
  have HR := hid hr
  clear hr
  go_enter Tryd.func74, Tryd.ntmps74
  go_wp2
  go_loopw [8] (fun i wr => (∃ k : Nat, k ≤ L.length ∧ i = .int .i64 k ∧ ∀ j (h : j < L.length), j < k → p L[j] = false) ∧ Below w.heap.size w wr) (fun i _ => L.length - (intOf i).toNat)
  case atStart => exact ⟨⟨0, by omega, rfl, fun j _ h => absurd h (by omega)⟩, Below.refl _ _⟩
  case round =>
    obtain ⟨⟨k, hk, rfl, hno⟩, hbw⟩ := hrel
    by_cases hlt : k < L.length
    · obtain ⟨b, off, rfl, hb, h0⟩ := (HR.out.below hbw (Nat.le_refl _)).int' hlt
      have hc := hp wr hbw L[k] (List.getElem_mem _)
      have HN := hid hno
      have HB := hid hbw
      have HC := hid hc
      clear hno hbw hc
      generalize hd : L[k] = d at *
      have HD := hid hd
      clear hd
      (try simp only [IR.cells] at h0 HC)
      obtain ⟨pd, hpd⟩ : ∃ b, b = p d := ⟨_, rfl⟩
      rw [← hpd] at HC
      have HP := hid hpd
      clear hpd
      cases pd
      all_goals
        go_wp2_with (refine (HC.out).mono ?_; rintro e w1 ⟨rfl, hb1⟩)
      · go_roundw
        case rel =>
          refine ⟨⟨k + 1, by omega, by go_num, fun j h hj => ?_⟩, HB.out.trans (hb1.mono HB.out.size)⟩
          by_cases e : j = k
          · subst e; rw [HD.out]; exact HP.out.symm
          · exact HN.out j h (by omega)
        case measure => simp [intOf]; omega
      · go_ret
        refine ⟨k, rfl, iff_of_true (by omega) (List.any_eq_true.2 ⟨L[k], List.getElem_mem _, by rw [HD.out]; exact HP.out.symm⟩), HB.out.trans (hb1.mono HB.out.size)⟩
    · go_wp2
      go_ret
      refine ⟨-1, rfl, iff_of_false (by omega) ?_, hbw⟩
      intro hm
      obtain ⟨d, hd, e⟩ := List.any_eq_true.1 hm
      obtain ⟨j, hj, rfl⟩ := List.getElem_of_mem hd
      rw [hno j hj (by omega)] at e
      cases e
theorem containsNt_any (g : Nat) (caps : Array Value) (p : Int → Bool) (L : List Int) (A : Option Addr) (c : Nat) (w : World) (hr : Row w w.heap.size A (icells' L)) (hl : L.length ≤ 9223372036854775807)
    (eg : ∀ args w, (callFunc g args).run Tryd.prog w = .ok (.enter g args) w) (hp : PredNt g caps p L w) :
    Calls Tryd.prog 57 #[.slice A L.length c, .func (.func g) #[] caps] w fun e w' => e = .returned (.bool (L.any p)) ∧ Below w.heap.size w w' := by
  have H := indexNt_any g caps p L A c w hr hl eg hp
  have HR := hid hr
  have HP := hid hp
  clear hr eg hp
  go_enter Tryd.func57, Tryd.ntmps57
  go_wp2_with (go_at_call 74; refine H.mono ?_; rintro e w' ⟨i, rfl, hi, hb⟩)
  go_ret
  refine ⟨ret_bool ?_, hb⟩
  first
    | (rw [Bool.eq_iff_iff, decide_eq_true_eq]; exact hi)
    | (rw [Bool.eq_iff_iff, decide_eq_true_eq, List.any_eq_true])

end Go.Proofs.YtamlaeocojcgdaaDoor
/- Words for items of a call's own making. -/
namespace Go.Proofs.YtamlaeocojcgdaaDoor
set_option linter.unusedVariables false
set_option linter.unusedSimpArgs false
open Go.ChangeShapes Go.WideShapes Go.ChangeAt Go.RowKit

theorem Row.grown_ne {w w' : World} {B : Nat} {A : Option Addr} {xs : List Value} {r : Option Nat} (h : Row w B A xs) (hB : B ≤ w.heap.size) (hg : w.grownBy w' r) (hr : ∀ b off q, A = some ⟨b, off, q⟩ → some b ≠ r) : Row w' B A xs := by
  rcases h with h | ⟨b, off, h1, h2, h3⟩
  · exact .inl h
  · refine .inr ⟨b, off, h1, h2, fun j u hu => ?_⟩
    rw [World.cell?_of_block (w := w) (hg.block b (by omega) (hr b off none h1))]
    exact h3 j u hu
/-- A row of ints in a block of its own: it lies there, and its room is known. -/
structure RowOwn (w : World) (A : Option Addr) (l : List Int) (k : Nat) : Prop where
  row : Row w w.heap.size A (icells' l)
  own : w.ownsRow 0 3 1 (.slice A l.length k) l.length (icells' l)
theorem RowOwn.step {w w' : World} {A : Option Addr} {l : List Int} {k : Nat} (h : RowOwn w A l k) (hb : Below w.heap.size w w') : RowOwn w' A l k := ⟨h.row.step hb, own_laterS h.own hb⟩
theorem RowOwn.grown_ne {w w' : World} {B : Nat} {A : Option Addr} {l : List Int} {k : Nat} {r : Option Nat} (h : RowOwn w A l k) (_ : B ≤ w.heap.size) (hg : w.grownBy w' r) (hr : ∀ b off q, A = some ⟨b, off, q⟩ → some b ≠ r) : RowOwn w' A l k := by
  refine ⟨(h.row.grown_ne (Nat.le_refl _) hg hr).more hg.size, ?_⟩
  obtain ⟨h1, h2⟩ := h.own
  refine ⟨h1, ?_⟩
  rcases h2 with h2 | ⟨b, cap, cur, e, hb, hgt, h3⟩
  · exact .inl h2
  · have hlt : b < w.heap.size := by
      rcases Nat.lt_or_ge b w.heap.size with h | h
      · exact h
      · rw [Array.getElem?_eq_none h] at hgt; cases hgt
    refine .inr ⟨b, cap, cur, e, hb, (hg.block b hlt ?_).trans hgt, h3⟩
    injection e with e
    exact hr b 0 none e
theorem RowOwn.more {w : World} {A : Option Addr} {l : List Int} {k B C : Nat} (h : RowOwn w A l k) (_ : B ≤ C) : RowOwn w A l k := h
/-- The rows of items that a call has made: in blocks of their own. -/
def RowsNew (w : World) (lo : Nat) (v : Value) (M : List IR) : Prop := ∀ x ∈ M, RowOwn w x.A x.row x.k ∧ NewAt lo x.A ∧ (∀ b off q, x.A = some ⟨b, off, q⟩ → some b ≠ v.ownBlock ∧ b < w.heap.size) ∧ x.row.length ≤ 1048576
theorem RowsNew.nil (w : World) (lo : Nat) (v : Value) : RowsNew w lo v [] := fun x hx => by simp at hx
theorem RowsNew.step {w w' : World} {lo : Nat} {v : Value} {M : List IR} (h : RowsNew w lo v M) (hb : Below w.heap.size w w') : RowsNew w' lo v M := fun x hx => by
  obtain ⟨h1, h2, h3, h4⟩ := h x hx
  exact ⟨h1.step hb, h2, fun b off q e => ⟨(h3 b off q e).1, Nat.lt_of_lt_of_le (h3 b off q e).2 hb.size⟩, h4⟩
theorem RowsNew.grown {w w' : World} {lo : Nat} {v v' : Value} {M : List IR} (h : RowsNew w lo v M) (hg : w.grownBy w' v.ownBlock) (hv : v'.ownBlock = v.ownBlock ∨ v'.ownBlock = some w.heap.size) : RowsNew w' lo v' M := fun x hx => by
  obtain ⟨h1, h2, h3, h4⟩ := h x hx
  refine ⟨h1.grown_ne (Nat.le_refl _) hg (fun b off q e => (h3 b off q e).1), h2, fun b off q e => ⟨?_, Nat.lt_of_lt_of_le (h3 b off q e).2 hg.size⟩, h4⟩
  rcases hv with hv | hv
  · rw [hv]; exact (h3 b off q e).1
  · rw [hv]; intro e2; injection e2 with e2; have := (h3 b off q e).2; omega
theorem RowsNew.snoc {w : World} {lo : Nat} {v : Value} {M : List IR} (h : RowsNew w lo v M) {x : IR} (h1 : RowOwn w x.A x.row x.k) (h2 : NewAt lo x.A) (h3 : ∀ b off q, x.A = some ⟨b, off, q⟩ → some b ≠ v.ownBlock ∧ b < w.heap.size) (h4 : x.row.length ≤ 1048576) : RowsNew w lo v (M ++ [x]) := fun y hy => by
  rcases List.mem_append.1 hy with e | e
  · exact h y e
  · rw [List.mem_singleton.1 e]; exact ⟨h1, h2, h3, h4⟩
theorem RowsNew.rows {w : World} {lo : Nat} {v : Value} {M : List IR} (h : RowsNew w lo v M) : RowsAt w w.heap.size M := fun x hx => ⟨(h x hx).1.row, Nat.le_trans (h x hx).2.2.2 (by decide)⟩
end Go.Proofs.YtamlaeocojcgdaaDoor
/- slices.SortStableFunc at items: swapRange, rotate. -/
namespace Go.Proofs.YtamlaeocojcgdaaDoor
set_option linter.unusedVariables false
open Go.ChangeShapes Go.WideShapes Go.ChangeAt Go.RowKit Go.Shelf Go.Lib Go.Sort

/-- Items of which something holds. -/
abbrev QI (Q : IR → Prop) := {x : IR // Q x}
abbrev QI.cells {Q : IR → Prop} (x : QI Q) : List Value := x.1.cells
variable {Q : IR → Prop} [Inhabited (QI Q)]

end Go.Proofs.YtamlaeocojcgdaaDoor
/- The stable sort over a row of items that the call owns, nil too; slices.Clone at int. -/
namespace Go.Proofs.YtamlaeocojcgdaaDoor
set_option linter.unusedVariables false
set_option linter.unusedSimpArgs false
open Go.ChangeShapes Go.WideShapes Go.ChangeAt Go.RowKit Go.Shelf Go.Lib Go.Sort

theorem elem_int : Elem Tryd.prog 26 3 1 8 := ⟨Tryd.underlying26, by
  obtain ⟨i, hi, hz, hs, hb⟩ := info_parts (P := Tryd.prog) (e := 3) (z := .int .i64 0) (size := 1) (bytes := 8) (by kernel_rfl)
  exact ⟨i, _, hi, hz, hs, hb, rfl⟩, by decide⟩
end Go.Proofs.YtamlaeocojcgdaaDoor
/- zset.Sum: each row with its weight in all, in order. -/
namespace Go.Proofs.YtamlaeocojcgdaaDoor
set_option linter.unusedVariables false
set_option linter.unusedSimpArgs false
open Go.ChangeShapes Go.WideShapes Go.ChangeAt Go.RowKit Go.Shelf Go.Lib Go.Sort

/-- A list of items, and where it lies. -/
structure LR where
  L : List IR
  A : Option Addr
  k : Nat
abbrev LR.cells (x : LR) : List Value := [.slice x.A x.L.length x.k]
theorem LR.len (x : LR) : x.cells.length = 1 := rfl
end Go.Proofs.YtamlaeocojcgdaaDoor
/- rank's closures, rank.width, the order of rows. -/
namespace Go.Proofs.YtamlaeocojcgdaaDoor
set_option linter.unusedVariables false
set_option linter.unusedSimpArgs false
open Go.ChangeShapes Go.WideShapes Go.ChangeAt Go.RowKit Go.Shelf Go.Lib Go.Sort

/-- A variable that a closure has caught. -/
def Caught (w : World) (a : Addr) (v : Value) : Prop := w.cell? a = some v ∧ a.block < w.heap.size
theorem Caught.step {w w' : World} {b off : Nat} {v : Value} (h : Caught w ⟨b, off, none⟩ v) (hb : Below w.heap.size w w') : Caught w' ⟨b, off, none⟩ v := ⟨((bcell hb).1 b off h.2).trans h.1, Nat.lt_of_lt_of_le h.2 hb.size⟩

end Go.Proofs.YtamlaeocojcgdaaDoor
