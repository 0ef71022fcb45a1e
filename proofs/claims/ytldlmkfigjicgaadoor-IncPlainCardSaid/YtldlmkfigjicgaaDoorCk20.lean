/- ShelfR, ToN, ToS -/
import Derived.Shelf.LaysM
import Derived.Shelf.Strconv.Itoa3
import Derived.Ground.NamesProg
import Derived.Ground.SlsfProg
import Derived.Shelf.SlSortCmp.Whole1
import Derived.Shelf.SlSortCmp.NoneTotal
import Derived.Test.YtldlmkfigjicgaaDoorRows
import Derived.Test.YtldlmkfigjicgaaDoorCk05
import Derived.Test.YtldlmkfigjicgaaDoorCk02
import Derived.Test.YtldlmkfigjicgaaDoorCk01
import Derived.Lib.ItoaLen
import Derived.Laws.Concat
import Derived.Test.YtldlmkfigjicgaaDoorCk04
/-
  DERIVED: THE SHELF's CONTRACTS AT THIS DUMP, IN PLAIN WORDS (tools/lay-plain.mjs out of 'YtldlmkfigjicgaaDoorShelfR.lean', which tools/lay-shelf.mjs wrote): THE SAME DECLARATIONS UNDER THE SAME NAMES: 'import', 'namespace', 'open', 'def', 'theorem' AND NOTHING ELSE: no command of the shelf's: FOR A HAND-IN. Each laying: the table of numbers ('.._ren') and one theorem, a field a fact of the dump's own or the kernel's comparison; each contract: ONE APPLICATION.
-/
namespace Go.Proofs
open Go.Shelf
def Tryd.itoaL_ren : Go.Shelf.Ren := ⟨fun | 171 => 34 | 243 => 61 | 246 => 84 | 283 => 107 | 284 => 108 | 285 => 109 | 286 => 110 | 129 => 81 | 317 => 125 | 318 => 126 | 319 => 127 | 320 => 128 | 337 => 133 | 338 => 134 | n => n, fun | 3 => 3 | 9 => 9 | 2 => 2 | 4 => 4 | 171 => 142 | 0 => 0 | 53 => 118 | 37 => 144 | 5 => 5 | 173 => 145 | 212 => 160 | 51 => 116 | 20 => 20 | 213 => 161 | 46 => 96 | 232 => 163 | 233 => 164 | n => n, fun | 17 => 0 | 18 => 1 | 19 => 2 | n => n⟩
theorem Tryd.itoaL : Go.Proofs.LaysM.n171 Tryd.prog Tryd.itoaL_ren := {
  mixed := by kernel_rfl
  f129 := Tryd.func81.trans (congrArg some (by kernel_rfl))
  f171 := Tryd.func34.trans (congrArg some (by kernel_rfl))
  f243 := Tryd.func61.trans (congrArg some (by kernel_rfl))
  f246 := Tryd.func84.trans (congrArg some (by kernel_rfl))
  f283 := Tryd.func107.trans (congrArg some (by kernel_rfl))
  f284 := Tryd.func108.trans (congrArg some (by kernel_rfl))
  f285 := Tryd.func109.trans (congrArg some (by kernel_rfl))
  f286 := Tryd.func110.trans (congrArg some (by kernel_rfl))
  f317 := Tryd.func125.trans (congrArg some (by kernel_rfl))
  f318 := Tryd.func126.trans (congrArg some (by kernel_rfl))
  f319 := Tryd.func127.trans (congrArg some (by kernel_rfl))
  f320 := Tryd.func128.trans (congrArg some (by kernel_rfl))
  f337 := Tryd.func133.trans (congrArg some (by kernel_rfl))
  f338 := Tryd.func134.trans (congrArg some (by kernel_rfl))
  t0 := Tryd.underlying0
  a0 := Tryd.isAgg0
  z0 := Tryd.sizeOf0
  v0 := Tryd.zeroValue0
  t2 := Tryd.underlying2
  a2 := Tryd.isAgg2
  z2 := Tryd.sizeOf2
  v2 := Tryd.zeroValue2
  t3 := Tryd.underlying3
  a3 := Tryd.isAgg3
  z3 := Tryd.sizeOf3
  v3 := Tryd.zeroValue3
  t4 := Tryd.underlying4
  a4 := Tryd.isAgg4
  z4 := Tryd.sizeOf4
  v4 := Tryd.zeroValue4
  t5 := Tryd.underlying5
  a5 := Tryd.isAgg5
  z5 := Tryd.sizeOf5
  v5 := Tryd.zeroValue5
  t9 := Tryd.underlying9
  a9 := Tryd.isAgg9
  z9 := Tryd.sizeOf9
  v9 := Tryd.zeroValue9
  t20 := Tryd.underlying20
  a20 := Tryd.isAgg20
  z20 := Tryd.sizeOf20
  v20 := Tryd.zeroValue20
  t37 := Tryd.underlying144
  a37 := Tryd.isAgg144
  z37 := Tryd.sizeOf144
  v37 := Tryd.zeroValue144
  t46 := Tryd.underlying96
  a46 := Tryd.isAgg96
  z46 := Tryd.sizeOf96
  v46 := Tryd.zeroValue96
  t51 := Tryd.underlying116
  a51 := Tryd.isAgg116
  z51 := Tryd.sizeOf116
  v51 := Tryd.zeroValue116
  t53 := Tryd.underlying118
  a53 := Tryd.isAgg118
  z53 := Tryd.sizeOf118
  v53 := Tryd.zeroValue118
  t171 := Tryd.underlying142
  a171 := Tryd.isAgg142
  z171 := Tryd.sizeOf142
  v171 := Tryd.zeroValue142
  t173 := Tryd.underlying145
  a173 := Tryd.isAgg145
  z173 := Tryd.sizeOf145
  v173 := Tryd.zeroValue145
  t212 := Tryd.underlying160
  a212 := Tryd.isAgg160
  z212 := Tryd.sizeOf160
  v212 := Tryd.zeroValue160
  t213 := Tryd.underlying161
  a213 := Tryd.isAgg161
  z213 := Tryd.sizeOf161
  t232 := Tryd.underlying163
  a232 := Tryd.isAgg163
  z232 := Tryd.sizeOf163
  v232 := Tryd.zeroValue163
  t233 := Tryd.underlying164
  a233 := Tryd.isAgg164
  z233 := Tryd.sizeOf164
  v233 := Tryd.zeroValue164
  g17 := by kernel_rfl
  g18 := by kernel_rfl
  g19 := by kernel_rfl
  i0 := by kernel_rfl
  i2 := by kernel_rfl
  i3 := by kernel_rfl
  i4 := by kernel_rfl
  i5 := by kernel_rfl
  i9 := by kernel_rfl
  i20 := by kernel_rfl
  i37 := by kernel_rfl
  i46 := by kernel_rfl
  i51 := by kernel_rfl
  i53 := by kernel_rfl
  i171 := by kernel_rfl
  i173 := by kernel_rfl
  i212 := by kernel_rfl
  i232 := by kernel_rfl
  i233 := by kernel_rfl
  m17 := by kernel_rfl
  m18 := by kernel_rfl
  m19 := by kernel_rfl }
def Tryd.sortRows_ren : Go.Shelf.Ren := ⟨fun | 6 => 43 | 15 => 55 | 14 => 68 | 28 => 80 | 29 => 81 | 20 => 91 | 21 => 92 | 22 => 93 | 23 => 94 | 24 => 95 | 25 => 96 | 26 => 97 | 27 => 98 | 46 => 121 | 47 => 102 | 48 => 103 | 49 => 122 | 50 => 123 | 57 => 132 | n => n, fun | 22 => 24 | 24 => 23 | 25 => 86 | 3 => 3 | 39 => 96 | 0 => 0 | 53 => 116 | 55 => 118 | 4 => 4 | 46 => 109 | 45 => 108 | 50 => 113 | 5 => 5 | 9 => 9 | 66 => 135 | 70 => 139 | 76 => 156 | 77 => 157 | n => n, fun | n => n⟩
theorem Tryd.sortRows : Go.Proofs.SlLaysF.n6 Tryd.prog Tryd.sortRows_ren := {
  mixed := by kernel_rfl
  f6 := ⟨Tryd.f43.name, by decide, Tryd.func43.trans (congrArg some (by kernel_rfl))⟩
  f14 := ⟨Tryd.f68.name, by decide, Tryd.func68.trans (congrArg some (by kernel_rfl))⟩
  f15 := Tryd.func55.trans (congrArg some (by kernel_rfl))
  f20 := ⟨Tryd.f91.name, by decide, Tryd.func91.trans (congrArg some (by kernel_rfl))⟩
  f21 := ⟨Tryd.f92.name, by decide, Tryd.func92.trans (congrArg some (by kernel_rfl))⟩
  f22 := ⟨Tryd.f93.name, by decide, Tryd.func93.trans (congrArg some (by kernel_rfl))⟩
  f23 := ⟨Tryd.f94.name, by decide, Tryd.func94.trans (congrArg some (by kernel_rfl))⟩
  f24 := ⟨Tryd.f95.name, by decide, Tryd.func95.trans (congrArg some (by kernel_rfl))⟩
  f25 := ⟨Tryd.f96.name, by decide, Tryd.func96.trans (congrArg some (by kernel_rfl))⟩
  f26 := ⟨Tryd.f97.name, by decide, Tryd.func97.trans (congrArg some (by kernel_rfl))⟩
  f27 := ⟨Tryd.f98.name, by decide, Tryd.func98.trans (congrArg some (by kernel_rfl))⟩
  f28 := Tryd.func80.trans (congrArg some (by kernel_rfl))
  f29 := Tryd.func81.trans (congrArg some (by kernel_rfl))
  f46 := ⟨Tryd.f121.name, by decide, Tryd.func121.trans (congrArg some (by kernel_rfl))⟩
  f47 := Tryd.func102.trans (congrArg some (by kernel_rfl))
  f48 := Tryd.func103.trans (congrArg some (by kernel_rfl))
  f49 := ⟨Tryd.f122.name, by decide, Tryd.func122.trans (congrArg some (by kernel_rfl))⟩
  f50 := ⟨Tryd.f123.name, by decide, Tryd.func123.trans (congrArg some (by kernel_rfl))⟩
  f57 := ⟨Tryd.f132.name, by decide, Tryd.func132.trans (congrArg some (by kernel_rfl))⟩
  t0 := Tryd.underlying0
  a0 := Tryd.isAgg0
  z0 := Tryd.sizeOf0
  v0 := Tryd.zeroValue0
  t3 := Tryd.underlying3
  a3 := Tryd.isAgg3
  z3 := Tryd.sizeOf3
  v3 := Tryd.zeroValue3
  t4 := Tryd.underlying4
  a4 := Tryd.isAgg4
  z4 := Tryd.sizeOf4
  v4 := Tryd.zeroValue4
  t5 := Tryd.underlying5
  a5 := Tryd.isAgg5
  z5 := Tryd.sizeOf5
  v5 := Tryd.zeroValue5
  t9 := Tryd.underlying9
  a9 := Tryd.isAgg9
  z9 := Tryd.sizeOf9
  v9 := Tryd.zeroValue9
  t22 := Tryd.underlying24
  a22 := Tryd.isAgg24
  z22 := Tryd.sizeOf24
  v22 := Tryd.zeroValue24
  a24 := Tryd.isAgg23
  z24 := Tryd.sizeOf23
  t25 := Tryd.underlying86
  a25 := Tryd.isAgg86
  z25 := Tryd.sizeOf86
  v25 := Tryd.zeroValue86
  t39 := Tryd.underlying96
  a39 := Tryd.isAgg96
  z39 := Tryd.sizeOf96
  v39 := Tryd.zeroValue96
  t45 := Tryd.underlying108
  a45 := Tryd.isAgg108
  z45 := Tryd.sizeOf108
  v45 := Tryd.zeroValue108
  t46 := Tryd.underlying109
  a46 := Tryd.isAgg109
  z46 := Tryd.sizeOf109
  v46 := Tryd.zeroValue109
  t50 := Tryd.underlying113
  a50 := Tryd.isAgg113
  z50 := Tryd.sizeOf113
  v50 := Tryd.zeroValue113
  t53 := Tryd.underlying116
  a53 := Tryd.isAgg116
  z53 := Tryd.sizeOf116
  v53 := Tryd.zeroValue116
  t55 := Tryd.underlying118
  a55 := Tryd.isAgg118
  z55 := Tryd.sizeOf118
  v55 := Tryd.zeroValue118
  t66 := Tryd.underlying135
  a66 := Tryd.isAgg135
  z66 := Tryd.sizeOf135
  v66 := Tryd.zeroValue135
  t70 := Tryd.underlying139
  a70 := Tryd.isAgg139
  z70 := Tryd.sizeOf139
  v70 := Tryd.zeroValue139
  t76 := Tryd.underlying156
  a76 := Tryd.isAgg156
  z76 := Tryd.sizeOf156
  v76 := Tryd.zeroValue156
  t77 := Tryd.underlying157
  a77 := Tryd.isAgg157
  z77 := Tryd.sizeOf157
  v77 := Tryd.zeroValue157 }
def Tryd.sortRows0_ren : Go.Shelf.Ren := ⟨fun | 6 => 43 | 15 => 55 | 14 => 68 | 28 => 80 | 29 => 81 | 20 => 91 | 21 => 92 | 22 => 93 | 23 => 94 | 24 => 95 | 25 => 96 | 26 => 97 | 27 => 98 | 46 => 121 | 47 => 102 | 48 => 103 | 49 => 122 | 50 => 123 | 57 => 132 | n => n, fun | 22 => 24 | 24 => 23 | 25 => 86 | 3 => 3 | 39 => 96 | 0 => 0 | 53 => 116 | 55 => 118 | 4 => 4 | 46 => 109 | 45 => 108 | 50 => 113 | 5 => 5 | 9 => 9 | 66 => 135 | 70 => 139 | 76 => 156 | 77 => 157 | n => n, fun | n => n⟩
theorem Tryd.sortRows0 : Go.Proofs.SlLaysF0.n6 Tryd.prog Tryd.sortRows0_ren := {
  mixed := by kernel_rfl
  f6 := ⟨Tryd.f43.name, by decide, Tryd.func43.trans (congrArg some (by kernel_rfl))⟩
  f14 := ⟨Tryd.f68.name, by decide, Tryd.func68.trans (congrArg some (by kernel_rfl))⟩
  f15 := Tryd.func55.trans (congrArg some (by kernel_rfl))
  f20 := ⟨Tryd.f91.name, by decide, Tryd.func91.trans (congrArg some (by kernel_rfl))⟩
  f21 := ⟨Tryd.f92.name, by decide, Tryd.func92.trans (congrArg some (by kernel_rfl))⟩
  f22 := ⟨Tryd.f93.name, by decide, Tryd.func93.trans (congrArg some (by kernel_rfl))⟩
  f23 := ⟨Tryd.f94.name, by decide, Tryd.func94.trans (congrArg some (by kernel_rfl))⟩
  f24 := ⟨Tryd.f95.name, by decide, Tryd.func95.trans (congrArg some (by kernel_rfl))⟩
  f25 := ⟨Tryd.f96.name, by decide, Tryd.func96.trans (congrArg some (by kernel_rfl))⟩
  f26 := ⟨Tryd.f97.name, by decide, Tryd.func97.trans (congrArg some (by kernel_rfl))⟩
  f27 := ⟨Tryd.f98.name, by decide, Tryd.func98.trans (congrArg some (by kernel_rfl))⟩
  f28 := Tryd.func80.trans (congrArg some (by kernel_rfl))
  f29 := Tryd.func81.trans (congrArg some (by kernel_rfl))
  f46 := ⟨Tryd.f121.name, by decide, Tryd.func121.trans (congrArg some (by kernel_rfl))⟩
  f47 := Tryd.func102.trans (congrArg some (by kernel_rfl))
  f48 := Tryd.func103.trans (congrArg some (by kernel_rfl))
  f49 := ⟨Tryd.f122.name, by decide, Tryd.func122.trans (congrArg some (by kernel_rfl))⟩
  f50 := ⟨Tryd.f123.name, by decide, Tryd.func123.trans (congrArg some (by kernel_rfl))⟩
  f57 := ⟨Tryd.f132.name, by decide, Tryd.func132.trans (congrArg some (by kernel_rfl))⟩
  t0 := Tryd.underlying0
  a0 := Tryd.isAgg0
  z0 := Tryd.sizeOf0
  v0 := Tryd.zeroValue0
  t3 := Tryd.underlying3
  a3 := Tryd.isAgg3
  z3 := Tryd.sizeOf3
  v3 := Tryd.zeroValue3
  t4 := Tryd.underlying4
  a4 := Tryd.isAgg4
  z4 := Tryd.sizeOf4
  v4 := Tryd.zeroValue4
  t5 := Tryd.underlying5
  a5 := Tryd.isAgg5
  z5 := Tryd.sizeOf5
  v5 := Tryd.zeroValue5
  t9 := Tryd.underlying9
  a9 := Tryd.isAgg9
  z9 := Tryd.sizeOf9
  v9 := Tryd.zeroValue9
  t22 := Tryd.underlying24
  a22 := Tryd.isAgg24
  z22 := Tryd.sizeOf24
  v22 := Tryd.zeroValue24
  t25 := Tryd.underlying86
  a25 := Tryd.isAgg86
  z25 := Tryd.sizeOf86
  v25 := Tryd.zeroValue86
  t39 := Tryd.underlying96
  a39 := Tryd.isAgg96
  z39 := Tryd.sizeOf96
  v39 := Tryd.zeroValue96
  t45 := Tryd.underlying108
  a45 := Tryd.isAgg108
  z45 := Tryd.sizeOf108
  v45 := Tryd.zeroValue108
  t46 := Tryd.underlying109
  a46 := Tryd.isAgg109
  z46 := Tryd.sizeOf109
  v46 := Tryd.zeroValue109
  t50 := Tryd.underlying113
  a50 := Tryd.isAgg113
  z50 := Tryd.sizeOf113
  v50 := Tryd.zeroValue113
  t53 := Tryd.underlying116
  a53 := Tryd.isAgg116
  z53 := Tryd.sizeOf116
  v53 := Tryd.zeroValue116
  t55 := Tryd.underlying118
  a55 := Tryd.isAgg118
  z55 := Tryd.sizeOf118
  v55 := Tryd.zeroValue118
  t66 := Tryd.underlying135
  a66 := Tryd.isAgg135
  z66 := Tryd.sizeOf135
  v66 := Tryd.zeroValue135
  t70 := Tryd.underlying139
  a70 := Tryd.isAgg139
  z70 := Tryd.sizeOf139
  v70 := Tryd.zeroValue139
  t76 := Tryd.underlying156
  a76 := Tryd.isAgg156
  z76 := Tryd.sizeOf156
  v76 := Tryd.zeroValue156
  t77 := Tryd.underlying157
  a77 := Tryd.isAgg157
  z77 := Tryd.sizeOf157
  v77 := Tryd.zeroValue157 }
end Go.Proofs
/- viewref.name: a row's name. -/
namespace Go.Proofs.YtldlmkfigjicgaaDoor
set_option linter.unusedVariables false
set_option linter.unusedSimpArgs false
open Go.ChangeShapes Go.WideShapes Go.ChangeAt Go.RowKit

/-- The library's table of powers. -/
abbrev Pow (w : World) : Prop := Lib.TabIs Tryd.prog w "internal/strconv.uint64pow10" .u64 Lib.pow10Tab
theorem Pow.step {w w' : World} (h : Pow w) (hb : Below w.heap.size w w') : Pow w' := Lib.tabBelow_of_tabIs h w' hb
/-- Numbers as they may be. -/
def In64 (l : List Int) : Prop := ∀ n ∈ l, -9223372036854775808 ≤ n ∧ n ≤ 9223372036854775807
theorem itoa_le {n : Int} (h : -9223372036854775808 ≤ n ∧ n ≤ 9223372036854775807) : (Lib.itoa n).length ≤ 21 := Lib.itoa_length_le n h.1 h.2
theorem nameB_len {l : List Int} (h : In64 l) : (nameB l).length ≤ 22 * l.length := by
  induction l with
  | nil => simp [nameB]
  | cons n l ih =>
    have h1 := itoa_le (h n (by simp))
    have h2 := ih fun m hm => h m (by simp [hm])
    simp only [nameB, List.length_append, List.length_cons]
    omega
theorem itoa_any (n : Int) (h : -9223372036854775808 ≤ n ∧ n ≤ 9223372036854775807) (w : World) (ht : Pow w) : Calls Tryd.prog 34 #[.int .i64 n] w fun e w' => e = .returned (.string (bstr (Lib.itoa n))) ∧ Below w.heap.size w w' :=
  (Any.strconv_Itoa Tryd.itoaL n h.1 h.2 w ht).mono fun e w' ⟨he, k, os, hw⟩ => ⟨he, by rw [hw]; exact Lib.below_grow w.heap.size w (Nat.le_refl _) k os⟩
set_option maxHeartbeats 1000000 in
set_option maxRecDepth 100000 in
theorem name_any (l : List Int) (A : Option Addr) (c : Nat) (w : World) (hr : Row w w.heap.size A (icells' l)) (hl : l.length ≤ 1048576) (hin : In64 l) (ht : Pow w) :
    Calls Tryd.prog 42 #[.slice A l.length c] w fun e w' => e = .returned (.string (bstr (nameB l))) ∧ Below w.heap.size w w' := by
  have HR := hid hr
  have HT := hid ht
  have hsz := bstr_size
  have hap := bstr_app
  clear hr ht
  go_enter Tryd.func42, Tryd.ntmps42
  go_wp2_with fail
  -- STOP-a
  go_loopw [3, 4] (fun s3 s4 wr => ∃ i : Nat, i ≤ l.length ∧ s4 = .int .i64 i ∧ s3 = .string (bstr (nameB (l.take i))) ∧ Hid (Below w.heap.size w wr)) (fun _ s4 _ => l.length - (intOf s4).toNat)
  case atStart => exact ⟨0, by omega, rfl, rfl, hid (Below.refl _ _)⟩
  case round =>
    obtain ⟨i, hi, rfl, rfl, HB⟩ := hrel
    by_cases hlt : i < l.length
    · have t1 : ((i : Int) < (l.length : Int)) = True := eq_true (by omega)
      have HR1 := hid (HR.out.step HB.out)
      have HN := hid (show nameB (l.take (i + 1)) = nameB (l.take i) ++ (Lib.itoa l[i] ++ [44]) by rw [List.take_succ_eq_append_getElem hlt, nameB_snoc])
      have hnl : (nameB (l.take i)).length ≤ 22 * 1048576 := by
        have h1 := nameB_len (l := l.take i) (fun n hn => hin n (List.mem_of_mem_take hn))
        have h2 : (l.take i).length ≤ 1048576 := by rw [List.length_take]; omega
        omega
      obtain ⟨b, off, rfl, hb, c0⟩ := HR1.out.int' hlt
      have h64 := hin _ (List.getElem_mem hlt)
      have hil := itoa_le h64
      generalize l[i] = x at *
      obtain ⟨S, hS⟩ : ∃ S, S = nameB (l.take i) := ⟨_, rfl⟩
      rw [← hS] at HN hnl ⊢
      clear hS
      have HC := hid (itoa_any x h64 wr (Pow.step HT.out HB.out))
      obtain ⟨I, hI⟩ : ∃ I, I = Lib.itoa x := ⟨_, rfl⟩
      rw [← hI] at HC HN hil
      clear hI
      go_wp2_with fail
      -- STOP-b
      refine HC.out.mono ?_
      rintro e w2 ⟨rfl, hb2⟩
      have HB2 := hid (Below.step' HB.out hb2)
      have e44 : (⟨#[44]⟩ : ByteArray) = bstr [44] := rfl
      have hz1 : (bstr I).size = I.length := rfl
      clear hb2 HC
      go_wp2_with fail
      -- STOP-c
      go_roundw
      case rel => exact ⟨i + 1, by omega, by go_num, by rw [HN.out], HB2⟩
      case measure => simp [intOf]; omega
    · have t1 : ((i : Int) < (l.length : Int)) = False := eq_false (by omega)
      have hil : l.take i = l := List.take_of_length_le (by omega)
      rw [hil]
      go_wp2_with fail
      -- STOP-d
      go_ret
      exact ⟨rfl, HB.out⟩
end Go.Proofs.YtldlmkfigjicgaaDoor
/- slices.SortFunc at rows of numbers, by viewref.Order. -/
namespace Go.Proofs.YtldlmkfigjicgaaDoor
set_option linter.unusedVariables false
set_option linter.unusedSimpArgs false
open Go.ChangeShapes Go.WideShapes Go.ChangeAt Go.RowKit Go.Shelf Go.Lib Go.Sort

/-- A row alone. -/
abbrev IR.one (x : IR) : List Value := [.slice x.A x.row.length x.k]
theorem IR.one_len (x : IR) : x.one.length = 1 := rfl
def QI.val1 {Q : IR → Prop} (x : QI Q) : Value := .slice x.1.A x.1.row.length x.1.k
theorem oneCell_val1 {Q : IR → Prop} : OneCell (QI.val1 (Q := Q)) := fun _ => rfl
theorem own_holds1 {α : Type} [Inhabited α] (f : α → Value) {w : World} {g : Nat} {l : List α} {cur : Array Value} {T : TypeId} (hg : w.heap[g]? = some (.cells cur T (0, 0))) (hc : cur.toList.take l.length = l.map f) : Holds f w g 0 l.toArray := by
  intro j hj
  have hj1 : j < l.length := by simpa using hj
  have hj' : j < (l.map f).length := by simpa using hj1
  have e := take_get hc hj'
  rw [getElem!_pos _ j hj]
  constructor
  · rw [Nat.zero_add, cell_of_row w g j cur T (0, 0) hg, e, List.getElem?_eq_getElem hj']; simp
  · simp [World.frozen?, hg]
theorem sortWorld_grown {α : Type} [Inhabited α] (enc : α → Value) (w : World) (g off n : Nat) (l : Array α) (os : Array Obj) : w.grownBy (sortWorld enc w g off n l os) (some g) := by
  refine ⟨rfl, rfl, rfl, ?_, ?_⟩
  · unfold sortWorld grow putRow mapBlock Sort.ahead
    simp
  · intro j hj hne
    have hne' : g ≠ j := fun e => hne (by rw [e])
    unfold sortWorld grow putRow mapBlock Sort.ahead
    simp [Array.getElem?_append, hj, Array.getElem_modify, hne']
theorem own_sorted1 {α : Type} [Inhabited α] (f : α → Value) {w : World} {B cap g n : Nat} {l' : List α} {cur : Array Value} {T : TypeId} {os : Array Obj} (hb : B ≤ g) (hg : w.heap[g]? = some (.cells cur T (0, 0))) (hcap : l'.length ≤ cap) (hm : cap ≤ maxLen) (hs : cur.size = cap) :
    (sortWorld f w g 0 n l'.toArray os).ownsRow B T 1 (.slice (some ⟨g, 0, none⟩) l'.length cap) l'.length (l'.map f) := by
  have hlt : g < w.heap.size := by
    rcases Nat.lt_or_ge g w.heap.size with h | h
    · exact h
    · rw [Array.getElem?_eq_none h] at hg; cases hg
  have hnew : (sortWorld f w g 0 n l'.toArray os).heap[g]? = some (.cells (putCells f 0 l'.toArray cur) T (0, 0)) := by
    unfold sortWorld grow putRow mapBlock Sort.ahead
    simp only [Array.getElem?_append, Array.size_modify, hlt, if_true, Array.getElem?_modify, hg, Option.map_some]
    rfl
  refine ⟨by simp, .inr ⟨g, cap, _, rfl, hb, hnew, hcap, hm, by simp [putCells, hs], ?_⟩⟩
  apply List.ext_getElem?
  intro j
  rw [Nat.mul_one]
  by_cases hj : j < l'.length
  · have hjc : j < cur.size := by rw [hs]; omega
    rw [List.getElem?_take_of_lt hj]
    simp only [putCells, Array.toList_mapIdx, List.getElem?_mapIdx]
    have : cur.toList[j]? = some cur.toList[j] := List.getElem?_eq_getElem (by simpa using hjc)
    rw [this]
    simp only [Option.map_some, Nat.zero_le, Nat.zero_add, List.size_toArray, hj, and_self, if_true, Nat.sub_zero]
    rw [getElem!_pos _ j (by simpa using hj)]
    simp [hj]
  · have h1 : (l'.map f)[j]? = none := List.getElem?_eq_none (by simpa using hj)
    rw [h1]
    apply List.getElem?_eq_none
    rw [List.length_take]
    omega
theorem enters_Order : ∀ args w, (callFunc 44 args).run Tryd.prog w = .ok (.enter 44 args) w := enters_of Tryd.func44 (by kernel_rfl) rfl
theorem cmpLays_Order (w : World) (B blk off size : Nat) (hB : B ≤ w.heap.size) (hblk : B ≤ blk) : CmpLays1 Tryd.prog 44 #[] (QI.val1 (Q := RowQ w B)) itCf blk off size w := fun m os dk hs x y => by
  have hg := sortWorld_grown (QI.val1 (Q := RowQ w B)) w blk off m dk os
  have hr : ∀ z : QI (RowQ w B), Row (sortWorld (QI.val1 (Q := RowQ w B)) w blk off m dk os) (sortWorld (QI.val1 (Q := RowQ w B)) w blk off m dk os).heap.size z.1.A (icells' z.1.row) := fun z =>
    (z.2.1.grown hB hg (fun k e => by injection e with e; omega)).more (Nat.le_trans hB hg.size)
  refine (Rorder_any x.1.row y.1.row x.1.A y.1.A x.1.k y.1.k _ (hr x) (hr y) x.2.2 y.2.2).mono ?_
  rintro e w' ⟨rfl, q, rfl⟩
  exact ⟨rfl, q, #[], by rw [grow_empty]⟩
theorem vals_one {Q : IR → Prop} (l : List (QI Q)) : l.map (QI.val1 (Q := Q)) = (l.map Subtype.val).flatMap IR.one := by
  induction l with
  | nil => rfl
  | cons x l ih => simp only [List.map_cons, List.flatMap_cons, ih]; rfl
/-- slices.SortFunc at rows, over a row that the call owns. -/
theorem sortRows_own {B : Nat} {v : Value} (L : List IR) (w : World) (hown : w.ownsRow B 23 1 v L.length (L.flatMap IR.one)) (hr : ∀ x ∈ L, RowQ w B x) (hB : B ≤ w.heap.size) (hl : L.length ≤ 140737488355328) :
    Calls Tryd.prog 43 #[v, .func (.func 44) #[] #[]] w fun e w' => e = .returned (.tuple #[]) ∧ ∃ L' : List IR, L'.Perm L ∧ RisingR (L'.map IR.row) ∧ w'.ownsRow B 23 1 v L.length (L'.flatMap IR.one) ∧ w.grownBy w' v.ownBlock := by
  rcases hown.2 with ⟨rfl, h0⟩ | ⟨g, cap, cur, rfl, hbg, hg, hcap, hm, hs, ht⟩
  · have hl0 : L = [] := List.eq_nil_of_length_eq_zero h0
    subst hl0
    refine (AnyF.slices_SortFunc_none Tryd.sortRows0 none 0 _ w).mono fun e w' ⟨he, hw⟩ => ?_
    subst hw
    exact ⟨he, [], List.Perm.refl _, fun i j hi => by simp at hi, hown, ⟨rfl, rfl, rfl, Nat.le_refl _, fun _ _ _ => rfl⟩⟩
  · have hlt : g < w.heap.size := by
      rcases Nat.lt_or_ge g w.heap.size with h | h
      · exact h
      · rw [Array.getElem?_eq_none h] at hg; cases hg
    obtain ⟨l, hLe⟩ : ∃ l : List (QI (RowQ w B)), l = L.attachWith (RowQ w B) hr := ⟨_, rfl⟩
    have hv : l.map Subtype.val = L := by rw [hLe, attach_val]
    have hln : l.length = L.length := by rw [← hv, List.length_map]
    have hcells : l.map (QI.val1 (Q := RowQ w B)) = L.flatMap IR.one := by rw [vals_one, hv]
    have H := Any.slices_SortFunc Tryd.sortRows (QI.val1 (Q := RowQ w B)) oneCell_val1 itCf swo_itCf 44 #[] g 0 cap l.toArray w enters_Order
      (cmpLays_Order w B g 0 l.toArray.size hB hbg) (own_holds1 _ hg (by rw [hln, hcells]; rw [Nat.mul_one] at ht; exact ht)) hlt (by rw [List.size_toArray, hln]; omega)
    rw [show l.toArray.size = L.length by rw [List.size_toArray, hln]] at H
    refine H.mono fun e w' ⟨he, d', m, os, hp, hsrt, hw⟩ => ?_
    rw [show L.length = l.toArray.size by rw [List.size_toArray, hln]] at hp hsrt
    have hperm := perm_all hp
    have hd : d' = d'.toList.toArray := by simp
    have hdl : d'.toList.length = L.length := by rw [hperm.length_eq]; simpa using hln
    have ho := own_sorted1 (QI.val1 (Q := RowQ w B)) (l' := d'.toList) (n := m) (os := os) hbg hg (by rw [hdl]; exact hcap) hm (by rw [Nat.mul_one] at hs; exact hs)
    rw [← hd, ← hw, vals_one, hdl] at ho
    refine ⟨he, d'.toList.map Subtype.val, ?_, ?_, ho, ?_⟩
    · have := hperm.map Subtype.val
      rw [hv] at this
      exact this
    · intro i j hi hj hij
      simp only [List.length_map] at hi hj
      have h1 := hsrt i j (Nat.zero_le _) hij (by rw [List.size_toArray, hln, ← hdl]; exact hj)
      have hi' : i < d'.size := by simpa using hi
      have hj' : j < d'.size := by simpa using hj
      rw [getElem!_pos d' i hi', getElem!_pos d' j hj'] at h1
      simp only [List.getElem_map, Array.getElem_toList]
      have h2 := cmpL_neg (d'[i]).1.row (d'[j]).1.row
      have h3 : ¬ cmpL (d'[j]).1.row (d'[i]).1.row < 0 := by
        simp only [ltOf, itCf] at h1
        exact of_decide_eq_false h1
      omega
    · rw [hw]
      exact sortWorld_grown _ _ _ _ _ _ _
end Go.Proofs.YtldlmkfigjicgaaDoor
