/- MeetA, Own, ShelfI, Ints, Vals, TabC -/
import Derived.Test.YtogegnikpjcpdaaCk05
import Derived.Test.YtogegnikpjcpdaaCk06
import Derived.Shelf.Sort.Plain
import Derived.Shelf.Slices.CompactI
import Derived.Shelf.Slices.In.SortNone
import Derived.Test.YtogegnikpjcpdaaRows
import Derived.Test.YtogegnikpjcpdaaCk04
/- stable.Meet: no context, a wrong one. -/
namespace Go.Proofs.Ytogegnikpjcpdaa
set_option linter.unusedVariables false
open Go.ChangeShapes Go.WideShapes Go.ChangeAt Go.RowKit

theorem gb_below {w0 w w' : World} {row : Option Nat} (h : w0.grownBy w row) (hb : Below w.heap.size w w') : w0.grownBy w' row :=
  grown_trans h ⟨hb.os, hb.tape, hb.output, hb.size, fun k hk _ => hb.block k hk⟩
theorem gb_set {w0 w : World} {P : Nat} (h : w0.grownBy w (some P)) (i : Nat) (v : Value) : w0.grownBy (w.setCell ⟨P, i, none⟩ v) (some P) :=
  grown_trans h ⟨rfl, rfl, rfl, by simp, fun k hk hne => Below.heap_setCell w ⟨P, i, none⟩ v k (by intro e; exact hne (by rw [e]))⟩
theorem gb_own {w0 w w' : World} {P : Nat} {row : Option Nat} (h : w0.grownBy w (some P)) (hg : w.grownBy w' row) (hr : ∀ g, row = some g → w0.heap.size ≤ g) : w0.grownBy w' (some P) :=
  ⟨hg.os.trans h.os, hg.tape.trans h.tape, hg.output.trans h.output, Nat.le_trans h.size hg.size, fun k hk hne => (hg.block k (Nat.lt_of_lt_of_le hk h.size) (fun e => by have := hr k e.symm; omega)).trans (h.block k hk hne)⟩
theorem gb_to {w0 w' : World} {P B : Nat} (h : w0.grownBy w' (some P)) (hB : B ≤ P) (hB2 : B ≤ w0.heap.size) : Below B w0 w' :=
  ⟨h.os, h.tape, h.output, h.size, fun k hk => h.block k (by omega) (by intro e; injection e with e; omega)⟩
theorem gb_blk {w0 w' : World} {P b : Nat} {cs : Array Value} {T : TypeId} (h : w0.grownBy w' (some P)) (hx : Blk w0 b cs T) (hne : b ≠ P) : Blk w' b cs T :=
  hx.grown h (by intro e; injection e with e; exact hne e)

theorem ctxs_get (L : List CR) (i : Nat) (h : i < L.length) : (CR.ctxs L)[i]'(by simpa using h) = L[i].c := by simp

theorem meet_none (A : Option Addr) (k : Nat) (w : World) : Calls Try.prog 35 #[.slice A 0 k] w (CtxErr ⟨0, 0, 0, 0, []⟩ 1 w) := by
  go_enter Try.func35, Try.ntmps35
  go_wp2
  exact bodyPost_ret (v := .tuple #[cval ⟨0, 0, 0, 0, []⟩ none 0, .int .i64 1]) (by simp [results, Try.results35, go_sem]) rfl ⟨none, 0, rfl, Row.nil, by (repeat' (first | (with_reducible exact Below.refl _ _) | (with_reducible assumption) | (with_reducible refine below_drewN ?_ _) | (with_reducible refine Below.drew ?_) | (with_reducible refine Below.alloc ?_ ?_ _) | (with_reducible refine Below.setCell ?_ ?_ _) | (refine Below.trans ?_ (Below.mono (by assumption) ?_)) | go_size)), fun _ _ _ h => by cases h⟩

set_option maxHeartbeats 1000000 in
set_option maxRecDepth 100000 in
theorem meet_bad (L : List CR) (A : Option Addr) (k : Nat) (w : World) (hr : RowC w w.heap.size A L) (hl : L.length ≤ 9223372036854775807) (h0 : badL (CR.ctxs L) ≠ 0) :
    Calls Try.prog 35 #[.slice A L.length k] w (CtxErr ⟨0, 0, 0, 0, []⟩ (badL (CR.ctxs L)) w) := by
  have hpos : 0 < L.length := by
    rcases Nat.eq_zero_or_pos L.length with h | h
    · rw [List.eq_nil_of_length_eq_zero h] at h0; exact absurd rfl h0
    · exact h
  have hz : ((L.length : Int) == 0) = false := by simp only [beq_eq_false_iff_ne, ne_eq]; omega
  have HR := hid hr
  have HE := hid h0
  clear hr h0
  go_enter Try.func35, Try.ntmps35
  go_wp2
  obtain ⟨W0, hW0⟩ : ∃ W0 : World, W0 = w.alloc (.cells #[.int .i64 0, .int .i64 0, .int .i64 0, .int .i64 0, .slice none 0 0] 25) := ⟨_, rfl⟩
  rw [← hW0]
  have HB0 := hid (show Below w.heap.size w W0 by rw [hW0]; (repeat' (first | (with_reducible exact Below.refl _ _) | (with_reducible assumption) | (with_reducible refine below_drewN ?_ _) | (with_reducible refine Below.drew ?_) | (with_reducible refine Below.alloc ?_ ?_ _) | (with_reducible refine Below.setCell ?_ ?_ _) | (refine Below.trans ?_ (Below.mono (by assumption) ?_)) | go_size)))
  have HXR := hid (show Blk W0 w.heap.size #[.int .i64 0, .int .i64 0, .int .i64 0, .int .i64 0, .slice none 0 0] 25 by rw [hW0]; exact Blk.new _ _ _)
  clear hW0
  go_loopw [24] (fun s24 wr => ∃ i : Nat, i ≤ L.length ∧ s24 = .int .i64 i ∧ (∀ c ∈ (CR.ctxs L).take i, checkI c = 0) ∧ Below W0.heap.size W0 wr) (fun s24 _ => L.length - (intOf s24).toNat)
  case atStart => exact ⟨0, by omega, rfl, by simp, Below.refl _ _⟩
  case round =>
    obtain ⟨i, hi, rfl, hno, hbw⟩ := hrel
    by_cases hlt : i < L.length
    · obtain ⟨b, off, hA, hb, c0, c1, c2, c3, c4, rx, lx⟩ := (HR.out.step (Below.step' HB0.out hbw)).at_ hlt
      subst hA
      have HC := hid (fun w1 (hb1 : Below wr.heap.size wr w1) => check_any L[i].c L[i].A L[i].k w1 (rx.step hb1) lx)
      have htk := List.take_succ_eq_append_getElem (show i < (CR.ctxs L).length by simpa using hlt)
      rw [ctxs_get L i hlt] at htk
      have hbt := badL_take (show i < (CR.ctxs L).length by simpa using hlt) hno
      rw [ctxs_get L i hlt] at hbt
      have HXR1 := hid (HXR.out.step hbw)
      have HBW := hid hbw
      have HN := hid hno
      have HTK := hid htk
      have HBT := hid hbt
      clear hno hbw htk hbt rx
      generalize L[i] = x at *
      obtain ⟨⟨x0, x1, x2, x3, xl⟩, xA, xk⟩ := x
      simp only at c0 c1 c2 c3 c4
      simp only [cval] at HC
      obtain ⟨I, hI⟩ : ∃ I, I = checkI ⟨x0, x1, x2, x3, xl⟩ := ⟨_, rfl⟩
      rw [← hI] at HC
      have HI := hid hI
      clear hI
      by_cases q : I = 0
      · subst q
        go_wp2_with fail
        refine (HC.out _ ((Below.refl _ _).alloc (Nat.le_refl _) _)).mono ?_
        rintro e w1 ⟨rfl, hb1⟩
        have HB1 := hid (show Below wr.heap.size wr w1 from (by refine Below.step' ?_ hb1; (repeat' (first | (with_reducible exact Below.refl _ _) | (with_reducible assumption) | (with_reducible refine below_drewN ?_ _) | (with_reducible refine Below.drew ?_) | (with_reducible refine Below.alloc ?_ ?_ _) | (with_reducible refine Below.setCell ?_ ?_ _) | (refine Below.trans ?_ (Below.mono (by assumption) ?_)) | go_size))))
        clear hb1 c0 c1 c2 c3 c4
        go_wp2
        go_roundw
        case rel =>
          refine ⟨i + 1, by omega, by go_num, fun c hc => ?_, Below.step' HBW.out HB1.out⟩
          rw [HTK.out, List.mem_append, List.mem_singleton] at hc
          rcases hc with hc | rfl
          · exact HN.out c hc
          · exact HI.out.symm
        case measure => simp [intOf]; omega
      · have q2 : (I != 0) = true := by simpa using q
        have q3 : badL (CR.ctxs L) = I := (HBT.out (by rw [← HI.out]; exact q)).trans HI.out.symm
        have HQ := hid q3
        clear q q3
        go_wp2_with fail
        refine (HC.out _ ((Below.refl _ _).alloc (Nat.le_refl _) _)).mono ?_
        rintro e w1 ⟨rfl, hb1⟩
        have hB1 : Below wr.heap.size wr w1 := (by refine Below.step' ?_ hb1; (repeat' (first | (with_reducible exact Below.refl _ _) | (with_reducible assumption) | (with_reducible refine below_drewN ?_ _) | (with_reducible refine Below.drew ?_) | (with_reducible refine Below.alloc ?_ ?_ _) | (with_reducible refine Below.setCell ?_ ?_ _) | (refine Below.trans ?_ (Below.mono (by assumption) ?_)) | go_size)))
        have hR := HXR1.out.step hB1
        have hsz := HXR.out.lt
        obtain ⟨⟨cr0, cr1, cr2, cr3, cr4⟩, fr0, fr1, fr2, fr3, fr4⟩ := hR.five
        have HR5 := hid (Blk.set5 hR (.int .i64 0) (.int .i64 0) (.int .i64 0) (.int .i64 0) (.slice none 0 0))
        have HB5 := hid (Below.set5 (Below.step' (Below.step' HB0.out HBW.out) hB1) (Nat.le_refl _) (.int .i64 0) (.int .i64 0) (.int .i64 0) (.int .i64 0) (.slice none 0 0))
        clear hb1 hB1 hR c0 c1 c2 c3 c4
        go_wp2
        obtain ⟨⟨q0, q1, q2, q3, q4⟩, -⟩ := HR5.out.five
        exact bodyPost_ret (v := .tuple #[cval ⟨0, 0, 0, 0, []⟩ none 0, .int .i64 I]) (by simp [results, Try.results35, go_sem, q0, q1, q2, q3, q4]) rfl ⟨none, 0, by rw [HQ.out], Row.nil, HB5.out, fun _ _ _ h => by cases h⟩
    · exact absurd (badL_zero.2 (fun c hc => hno c (by rw [List.take_of_length_le (by simp; omega)]; exact hc))) HE.out
end Go.Proofs.Ytogegnikpjcpdaa
/- Owned rows of whatever size; words for a list of cells that a call makes. No program in sight. -/
namespace Go.Proofs.Ytogegnikpjcpdaa
set_option linter.unusedVariables false
open Go.RowKit

theorem Row.of_ownS {w : World} {B n c s : Nat} {T : TypeId} {A : Option Addr} {xs : List Value} (h : w.ownsRow B T s (.slice A n c) n xs) : Row w w.heap.size A xs := by
  rcases h.2 with ⟨h', h0⟩ | ⟨g, cap, cur, h', hb, hg, hnc, hcm, hcs, htake⟩
  · have : xs = [] := List.eq_nil_of_length_eq_zero (by rw [h.1, h0, Nat.zero_mul])
    exact .inl this
  · injection h' with h1 h2 h3
    subst h1
    have hlt : g < w.heap.size := by
      rcases Nat.lt_or_ge g w.heap.size with h | h
      · exact h
      · rw [Array.getElem?_eq_none h] at hg; cases hg
    refine .inr ⟨g, 0, rfl, hlt, fun j u hu => ?_⟩
    have := h.cells (g := g) rfl j u hu
    rwa [add_none] at this
theorem own_formS {w : World} {B n s : Nat} {T : TypeId} {v : Value} {xs : List Value} (h : w.ownsRow B T s v n xs) : ∃ A c, v = .slice A n c := by
  rcases h.2 with ⟨rfl, rfl⟩ | ⟨g, cap, cur, rfl, _⟩
  · exact ⟨none, 0, rfl⟩
  · exact ⟨_, _, rfl⟩
theorem own_laterS {w w' : World} {B n s : Nat} {T : TypeId} {v : Value} {xs : List Value} (h : w.ownsRow B T s v n xs) (hb : Below w.heap.size w w') : w'.ownsRow B T s v n xs :=
  h.kept (grown_of_below hb) (by cases hv : v.ownBlock <;> simp)
theorem own_baseS {w : World} {B B' n s : Nat} {T : TypeId} {v : Value} {xs : List Value} (h : w.ownsRow B T s v n xs) (hB : B' ≤ B) : w.ownsRow B' T s v n xs := by
  refine ⟨h.1, ?_⟩
  rcases h.2 with h2 | ⟨g, cap, cur, h1, h2, h3⟩
  · exact .inl h2
  · exact .inr ⟨g, cap, cur, h1, Nat.le_trans hB h2, h3⟩
theorem own_newS {w : World} {B B' n c s : Nat} {T : TypeId} {A : Option Addr} {xs : List Value} (h : w.ownsRow B T s (.slice A n c) n xs) (hB : B' ≤ B) : NewAt B' A := by
  intro b off q e
  subst e
  exact Nat.le_trans hB (h.lt b (by
    rcases h.2 with ⟨h', _⟩ | ⟨g, cap, cur, h', _⟩
    · cases h'
    · injection h' with h1; injection h1 with h1; injection h1 with h1 h2 h3; subst h1 h2 h3; rfl)).1
theorem own_setS {w : World} {B n s : Nat} {T : TypeId} {v : Value} {xs : List Value} (h : w.ownsRow B T s v n xs) {b : Nat} (hb : b < B) (i : Nat) (u : Value) : (w.setCell ⟨b, i, none⟩ u).ownsRow B T s v n xs :=
  ownsRow_setCell_below h (a := ⟨b, i, none⟩) hb u

/-- A list of cells, each of a row of its own make, and an error. -/
def CelsErr (l : List Cel) (x : Int) (w : World) (e : Ending) (w' : World) : Prop :=
  ∃ v, e = .returned (.tuple #[v, .int .i64 x]) ∧ w'.ownsRow w.heap.size 62 5 v l.length (tcells l) ∧ Below w.heap.size w w'
theorem info_cel : (Try.prog.info? 62).map (fun i => (i.zero, i.size, i.bytes)) = some (some (.agg #[.int .i64 0, .int .i64 0, .int .i64 0, .int .i64 0, .int .i64 0]), 5, 40) := by kernel_rfl
theorem newsT (w : World) (x : Cel) (T : TypeId) (H : Nat) (hH : w.heap.size = H) : ∀ j u, (tcells [x])[j]? = some u → (w.alloc (.cells #[.int .i64 x.d.1, .int .i64 x.d.2, .int .i64 x.key, .int .i64 x.col, .int .i64 x.val] T)).cell? ((⟨H, 0, none⟩ : Addr).add j) = some u := by
  intro j u hu
  subst hH
  rw [add_none, Nat.zero_add, cell_of_row _ _ j _ _ _ (heap_alloc_new w _)]
  simpa using hu
theorem tcells_snoc (l : List Cel) (x : Cel) : tcells (l ++ [x]) = tcells l ++ tcells [x] := by simp [tcells]
end Go.Proofs.Ytogegnikpjcpdaa
/- Contracts of slices.Sort and slices.Compact at []int, laid at this program by the shelf's own tools (lay-shelf.mjs, lay-plain.mjs). -/
namespace Go.Proofs
open Go.Shelf
def Try.lays189_ren : Go.Shelf.Ren := ⟨fun | 189 => 82 | 125 => 99 | 257 => 101 | 128 => 113 | 129 => 114 | 294 => 115 | 295 => 116 | 296 => 117 | 297 => 118 | 298 => 119 | 299 => 120 | 216 => 121 | 300 => 122 | 301 => 123 | 328 => 138 | 329 => 134 | 330 => 135 | 331 => 139 | 332 => 140 | 215 => 104 | 343 => 145 | n => n, fun | 28 => 72 | 3 => 3 | 46 => 115 | 0 => 0 | 51 => 129 | 53 => 131 | 4 => 4 | 183 => 122 | 182 => 121 | 131 => 126 | 5 => 5 | 9 => 9 | 218 => 143 | 222 => 147 | 228 => 153 | 229 => 154 | n => n, fun | n => n⟩
theorem Try.lays189 : Go.Proofs.Lays.n189 Try.prog Try.lays189_ren := {
  mixed := by kernel_rfl
  f125 := Try.func99.trans (congrArg some (by kernel_rfl))
  f128 := Try.func113.trans (congrArg some (by kernel_rfl))
  f129 := Try.func114.trans (congrArg some (by kernel_rfl))
  f189 := Try.func82.trans (congrArg some (by kernel_rfl))
  f215 := Try.func104.trans (congrArg some (by kernel_rfl))
  f216 := Try.func121.trans (congrArg some (by kernel_rfl))
  f257 := Try.func101.trans (congrArg some (by kernel_rfl))
  f294 := Try.func115.trans (congrArg some (by kernel_rfl))
  f295 := Try.func116.trans (congrArg some (by kernel_rfl))
  f296 := Try.func117.trans (congrArg some (by kernel_rfl))
  f297 := Try.func118.trans (congrArg some (by kernel_rfl))
  f298 := Try.func119.trans (congrArg some (by kernel_rfl))
  f299 := Try.func120.trans (congrArg some (by kernel_rfl))
  f300 := Try.func122.trans (congrArg some (by kernel_rfl))
  f301 := Try.func123.trans (congrArg some (by kernel_rfl))
  f328 := Try.func138.trans (congrArg some (by kernel_rfl))
  f329 := Try.func134.trans (congrArg some (by kernel_rfl))
  f330 := Try.func135.trans (congrArg some (by kernel_rfl))
  f331 := Try.func139.trans (congrArg some (by kernel_rfl))
  f332 := Try.func140.trans (congrArg some (by kernel_rfl))
  f343 := Try.func145.trans (congrArg some (by kernel_rfl))
  t0 := Try.underlying0
  a0 := Try.isAgg0
  z0 := Try.sizeOf0
  v0 := Try.zeroValue0
  t3 := Try.underlying3
  a3 := Try.isAgg3
  z3 := Try.sizeOf3
  v3 := Try.zeroValue3
  t4 := Try.underlying4
  a4 := Try.isAgg4
  z4 := Try.sizeOf4
  v4 := Try.zeroValue4
  t5 := Try.underlying5
  a5 := Try.isAgg5
  z5 := Try.sizeOf5
  v5 := Try.zeroValue5
  t9 := Try.underlying9
  a9 := Try.isAgg9
  z9 := Try.sizeOf9
  v9 := Try.zeroValue9
  t28 := Try.underlying72
  a28 := Try.isAgg72
  z28 := Try.sizeOf72
  v28 := Try.zeroValue72
  t46 := Try.underlying115
  a46 := Try.isAgg115
  z46 := Try.sizeOf115
  v46 := Try.zeroValue115
  t51 := Try.underlying129
  a51 := Try.isAgg129
  z51 := Try.sizeOf129
  v51 := Try.zeroValue129
  t53 := Try.underlying131
  a53 := Try.isAgg131
  z53 := Try.sizeOf131
  v53 := Try.zeroValue131
  t131 := Try.underlying126
  a131 := Try.isAgg126
  z131 := Try.sizeOf126
  v131 := Try.zeroValue126
  t182 := Try.underlying121
  a182 := Try.isAgg121
  z182 := Try.sizeOf121
  v182 := Try.zeroValue121
  t183 := Try.underlying122
  a183 := Try.isAgg122
  z183 := Try.sizeOf122
  v183 := Try.zeroValue122
  t218 := Try.underlying143
  a218 := Try.isAgg143
  z218 := Try.sizeOf143
  v218 := Try.zeroValue143
  t222 := Try.underlying147
  a222 := Try.isAgg147
  z222 := Try.sizeOf147
  v222 := Try.zeroValue147
  t228 := Try.underlying153
  a228 := Try.isAgg153
  z228 := Try.sizeOf153
  v228 := Try.zeroValue153
  t229 := Try.underlying154
  a229 := Try.isAgg154
  z229 := Try.sizeOf154
  v229 := Try.zeroValue154 }
open Go.Sort Go.RowKit in
theorem Try.slices_Sort_int (blk off cap : Nat) (zs : List Int) (w : World) (hH : Holds (Value.int .i64) w blk off zs.toArray) (hblk : blk < w.heap.size) (hsz : zs.length < 4611686018427387904) :
    Calls Try.prog 82 #[.slice (some ⟨blk, off, none⟩) zs.length cap] w fun e w' =>
      e = .returned (.tuple #[]) ∧ ∃ n os, w' = grow (putRow (Value.int .i64) (Sort.ahead w n) blk off (zs.mergeSort fun x y => decide (x ≤ y)).toArray) os := Any.slices_Sort_int Try.lays189 blk off cap zs w hH hblk hsz
def Try.laysNm220_ren : Go.Shelf.Ren := ⟨fun | 20 => 83 | n => n, fun | 22 => 72 | 3 => 3 | 4 => 4 | 0 => 0 | n => n, fun | n => n⟩
theorem Try.laysNm220 : Go.Proofs.Lays2.n20 Try.prog Try.laysNm220_ren := {
  mixed := by kernel_rfl
  f20 := Try.func83.trans (congrArg some (by kernel_rfl))
  t0 := Try.underlying0
  a0 := Try.isAgg0
  z0 := Try.sizeOf0
  v0 := Try.zeroValue0
  t3 := Try.underlying3
  a3 := Try.isAgg3
  z3 := Try.sizeOf3
  v3 := Try.zeroValue3
  t4 := Try.underlying4
  a4 := Try.isAgg4
  z4 := Try.sizeOf4
  v4 := Try.zeroValue4
  t22 := Try.underlying72
  a22 := Try.isAgg72
  z22 := Try.sizeOf72
  v22 := Try.zeroValue72
  i3 := by kernel_rfl }
open Go.RowKit Go.Lib Go.Sort in
theorem Try.slices_Compact_int_arr (blk off cap : Nat) (d : Array Int) (w : World) (hH : Holds encI w blk off d) (hsz : d.size ≤ 9223372036854775807) (hcap : d.size ≤ cap) :
    Calls Try.prog 83 #[.slice (some ⟨blk, off, none⟩) d.size cap] w fun e w' => e = .returned (.slice (some ⟨blk, off, none⟩) (compactUpTo d d.size).length cap) ∧ ∃ q, w' = putRow encI (Sort.ahead w q) blk off (compactUpTo d d.size ++ List.replicate (d.size - (compactUpTo d d.size).length) 0).toArray := Any.slices_Compact_int_arr Try.laysNm220 blk off cap d w hH hsz hcap
open Go.RowKit Go.Lib Go.Sort in
theorem Try.slices_Compact_int (blk off cap : Nat) (zs : List Int) (w : World) (hH : Holds (Value.int .i64) w blk off zs.toArray) (hsz : zs.length ≤ 9223372036854775807) (hcap : zs.length ≤ cap) :
    Calls Try.prog 83 #[.slice (some ⟨blk, off, none⟩) zs.length cap] w fun e w' => e = .returned (.slice (some ⟨blk, off, none⟩) (Lib.compact zs).length cap) ∧ ∃ q, w' = putRow (Value.int .i64) (Sort.ahead w q) blk off (Lib.compact zs ++ List.replicate (zs.length - (Lib.compact zs).length) 0).toArray := Any.slices_Compact_int Try.laysNm220 blk off cap zs w hH hsz hcap
open Go.RowKit Go.Lib Go.Sort in
theorem Try.slices_Compact_int_empty (a : Option Addr) (cap : Nat) (w : World) :
    Calls Try.prog 83 #[.slice a 0 cap] w fun e w' => e = .returned (.slice a 0 cap) ∧ w' = w := Any.slices_Compact_int_empty Try.laysNm220 a cap w
open Go.RowKit Go.Sort in
theorem Try.slices_Sort_int_none (p : Option Addr) (cap : Nat) (w : World) :
    Calls Try.prog 82 #[.slice p 0 cap] w fun e w' => e = .returned (.tuple #[]) ∧ w' = w := Any.slices_Sort_int_none Try.lays189 p cap w
end Go.Proofs
/- Lists of ints in memory; slices.Equal, Sort, Compact at int over rows. -/
namespace Go.Proofs.Ytogegnikpjcpdaa
set_option linter.unusedVariables false
open Go.ChangeShapes Go.WideShapes Go.ChangeAt Go.RowKit Go.Sort

abbrev icells (l : List Int) : List Value := l.map (Value.int .i64)
theorem icells_one (l : List Int) : ∀ u ∈ icells l, u.oneCell' = true := by
  intro u hu
  obtain ⟨x, -, rfl⟩ := List.mem_map.1 hu
  rfl
theorem Row.int {w : World} {B : Nat} {A : Option Addr} {l : List Int} (h : Row w B A (icells l)) {k : Nat} (hk : k < l.length) :
    ∃ b off, A = some ⟨b, off, none⟩ ∧ b < B ∧ w.cell? ⟨b, off + k, none⟩ = some (.int .i64 l[k]) := by
  obtain ⟨b, off, h1, h2, h3⟩ := h.at_ (show 0 < (icells l).length by simp; omega)
  exact ⟨b, off, h1, h2, h3 k _ (by simp [hk])⟩
theorem info_int : (Try.prog.info? 3).map (fun i => (i.zero, i.size, i.bytes)) = some (some (.int .i64 0), 1, 8) := by kernel_rfl
theorem newsI (w : World) (x : Int) (T : TypeId) (H : Nat) (hH : w.heap.size = H) : ∀ j u, (icells [x])[j]? = some u → (w.alloc (.cells #[.int .i64 x] T)).cell? ((⟨H, 0, none⟩ : Addr).add j) = some u := by
  intro j u hu
  subst hH
  rw [add_none, Nat.zero_add, cell_of_row _ _ j _ _ _ (heap_alloc_new w _)]
  simpa using hu

set_option maxHeartbeats 400000 in
set_option maxRecDepth 100000 in
theorem equalI_any (l m : List Int) (A B : Option Addr) (c e : Nat) (w : World) (hr : Row w w.heap.size A (icells l)) (hs : Row w w.heap.size B (icells m)) (hl : l.length ≤ 9223372036854775807) (hm : m.length ≤ 9223372036854775807) :
    Calls Try.prog 49 #[.slice A l.length c, .slice B m.length e] w fun e w' => e = .returned (.bool (decide (l = m))) ∧ Below w.heap.size w w' := by
  have HR := hid hr
  have HS := hid hs
  clear hr hs
  by_cases hlen : l.length = m.length
  · have hne : ((l.length : Int) != (m.length : Int)) = false := by simp [hlen]
    have HL := hid hlen
    clear hlen
    go_enter Try.func49, Try.ntmps49
    go_wp2
    go_loopw [13] (fun i wr => (∃ k : Nat, k ≤ l.length ∧ i = .int .i64 k ∧ ∀ j (h : j < l.length) (h' : j < m.length), j < k → l[j] = m[j]) ∧ Below w.heap.size w wr) (fun i _ => l.length - (intOf i).toNat)
    case atStart => exact ⟨⟨0, by omega, rfl, fun j _ _ h => absurd h (by omega)⟩, Below.refl _ _⟩
    case round =>
      obtain ⟨⟨k, hk, rfl, hno⟩, hbw⟩ := hrel
      by_cases hlt : k < l.length
      · have hlt' : k < m.length := by have := HL.out; omega
        obtain ⟨b, off, rfl, hb, h0⟩ := (HR.out.below hbw (Nat.le_refl _)).int hlt
        obtain ⟨b', off', rfl, hb', h0'⟩ := (HS.out.below hbw (Nat.le_refl _)).int hlt'
        have HN := hid hno
        have HB := hid hbw
        clear hno hbw
        generalize hd : l[k] = d at *
        generalize hd' : m[k] = d' at *
        have HD := hid hd
        have HD' := hid hd'
        clear hd hd'
        by_cases hq : d = d'
        · have q : (d != d') = false := by simp [hq]
          have HQ := hid hq
          clear hq
          go_wp2
          refine wp_region_quiet_lit (by kernel_rfl) (by kernel_rfl) ?_
          repeat (any_goals ((with_reducible refine wpQuiet_step (fun K hK => ?_)); go_simp; first | (with_reducible refine hK _ ?_; clear hK K) | ((with_reducible apply Exists.intro); (with_reducible refine ⟨fun _ => ?_, hK _ ?_⟩); (fail); clear hK K) | ((with_reducible refine (if_neg ?_).mpr (hK _ ?_)); (decide); clear hK K) | (split <;> (with_reducible refine hK _ ?_; clear hK K))))
          all_goals ((with_reducible refine wpQuiet_nil ?_); intro _ hw'; obtain ⟨nq, hw''⟩ := hw'; subst hw'')
          go_wp2
          go_roundw
          case rel =>
            refine ⟨⟨k + 1, by omega, by go_num, fun j h h' hj => ?_⟩, below_drewN HB.out _⟩
            by_cases e : j = k
            · subst e; rw [HD.out, HD'.out]; exact HQ.out
            · exact HN.out j h h' (by omega)
          case measure => simp [intOf]; omega
        · have q : (d != d') = true := by simp [hq]
          have HQ := hid hq
          clear hq
          go_wp2
          refine wp_region_quiet_lit (by kernel_rfl) (by kernel_rfl) ?_
          repeat (any_goals ((with_reducible refine wpQuiet_step (fun K hK => ?_)); go_simp; first | (with_reducible refine hK _ ?_; clear hK K) | ((with_reducible apply Exists.intro); (with_reducible refine ⟨fun _ => ?_, hK _ ?_⟩); (fail); clear hK K) | ((with_reducible refine (if_neg ?_).mpr (hK _ ?_)); (decide); clear hK K) | (split <;> (with_reducible refine hK _ ?_; clear hK K))))
          all_goals ((with_reducible refine wpQuiet_nil ?_); intro _ hw'; obtain ⟨nq, hw''⟩ := hw'; subst hw'')
          go_wp2
          go_ret
          refine ⟨ret_bool ?_, below_drewN HB.out _⟩
          symm
          rw [decide_eq_false_iff_not]
          rintro rfl
          exact HQ.out (HD.out.symm.trans HD'.out)
      · go_wp2
        go_ret
        refine ⟨ret_bool ?_, hbw⟩
        have : l = m := List.ext_getElem HL.out fun j h h' => hno j h h' (by omega)
        simp [this]
  · have hne : ((l.length : Int) != (m.length : Int)) = true := by simp; omega
    go_enter Try.func49, Try.ntmps49
    go_wp2
    go_ret
    exact ⟨ret_bool (by symm; simp; rintro rfl; exact hlen rfl), Below.refl _ _⟩

theorem holdsI {w : World} {g : Nat} {l : List Int} {cur : Array Value} {T : TypeId} (hg : w.heap[g]? = some (.cells cur T (0, 0))) (hc : cur.toList.take l.length = icells l) : Holds (Value.int .i64) w g 0 l.toArray := by
  intro j hj
  have hj' : j < l.length := by simpa using hj
  have e := take_eq_get hc (j := j) (by simpa using hj')
  rw [getElem!_pos _ j hj]
  constructor
  · rw [Nat.zero_add, cell_of_row w g j cur T (0, 0) hg, e]; simp [hj']
  · simp [World.frozen?, hg]

/-- A row of ints laid anew in the block that the call owns. -/
theorem put_world {w : World} {B cap g n : Nat} {l l' : List Int} {cur : Array Value} {T : TypeId} {os : Array Obj} (hb : B ≤ g) (hg : w.heap[g]? = some (.cells cur T (0, 0))) (hcap : l.length ≤ cap) (hm : cap ≤ maxLen) (hs : cur.size = cap * 1)
    (hlen : l'.length = l.length) {m : Nat} (hml : m ≤ l'.length) :
    (grow (putRow (Value.int .i64) (Sort.ahead w n) g 0 l'.toArray) os).ownsRow B T 1 (.slice (some ⟨g, 0, none⟩) m cap) m (icells (l'.take m)) ∧ w.grownBy (grow (putRow (Value.int .i64) (Sort.ahead w n) g 0 l'.toArray) os) (some g) := by
  have hlt : g < w.heap.size := by
    rcases Nat.lt_or_ge g w.heap.size with h | h
    · exact h
    · rw [Array.getElem?_eq_none h] at hg; cases hg
  have hnew : (grow (putRow (Value.int .i64) (Sort.ahead w n) g 0 l'.toArray) os).heap[g]? = some (.cells (putCells (Value.int .i64) 0 l'.toArray cur) T (0, 0)) := by
    unfold grow putRow mapBlock Sort.ahead
    simp only [Array.getElem?_append, Array.size_modify, hlt, if_true, Array.getElem?_modify, hg, Option.map_some]
    rfl
  refine ⟨⟨by simp [hml], .inr ⟨g, cap, _, rfl, hb, hnew, by omega, hm, by simp [putCells, hs], ?_⟩⟩, ?_⟩
  · apply List.ext_getElem?
    intro j
    by_cases hj : j < m
    · have hjc : j < cur.size := by rw [hs]; omega
      rw [List.getElem?_take_of_lt (by omega)]
      simp only [putCells, Array.toList_mapIdx, List.getElem?_mapIdx]
      have : cur.toList[j]? = some cur.toList[j] := List.getElem?_eq_getElem (by simpa using hjc)
      rw [this]
      have hj' : j < l'.length := by omega
      simp only [Option.map_some, Nat.zero_le, Nat.zero_add, List.size_toArray, hj', and_self, if_true, Nat.sub_zero]
      rw [getElem!_pos _ j (by simpa using hj')]
      simp [List.getElem?_take_of_lt hj, hj']
    · rw [List.getElem?_eq_none (by simp; omega), List.getElem?_eq_none (by simp; omega)]
  · refine ⟨rfl, rfl, rfl, ?_, ?_⟩
    · unfold grow putRow mapBlock Sort.ahead
      simp
    · intro k hk hne
      have hne' : g ≠ k := fun e => hne (by rw [e])
      unfold grow putRow mapBlock Sort.ahead
      simp [Array.getElem?_append, hk, Array.getElem_modify, hne']

theorem grow_none (W : World) : grow W #[] = W := by
  unfold grow
  rw [Array.append_empty]

def isort (l : List Int) : List Int := l.mergeSort fun x y => decide (x ≤ y)
theorem isort_len (l : List Int) : (isort l).length = l.length := by unfold isort; simp

theorem sortI_own {B : Nat} {v : Value} (l : List Int) (w : World) (hown : w.ownsRow B 3 1 v l.length (icells l)) (hl : l.length ≤ 140737488355328) :
    Calls Try.prog 82 #[v] w fun e w' => e = .returned (.tuple #[]) ∧ w'.ownsRow B 3 1 v l.length (icells (isort l)) ∧ w.grownBy w' v.ownBlock := by
  rcases hown.2 with ⟨rfl, h0⟩ | ⟨g, cap, cur, rfl, hb, hg, hcap, hm, hs, ht⟩
  · have hl0 : l = [] := List.eq_nil_of_length_eq_zero h0
    subst hl0
    refine (Try.slices_Sort_int_none none 0 w).mono fun e w' ⟨he, hw⟩ => ?_
    subst hw
    refine ⟨he, by simpa [isort] using hown, ⟨rfl, rfl, rfl, Nat.le_refl _, fun _ _ _ => rfl⟩⟩
  · have hlt : g < w.heap.size := by
      rcases Nat.lt_or_ge g w.heap.size with h | h
      · exact h
      · rw [Array.getElem?_eq_none h] at hg; cases hg
    refine (Try.slices_Sort_int g 0 cap l w (holdsI hg (by simpa using ht)) hlt (by omega)).mono fun e w' ⟨he, n, os, hw⟩ => ?_
    subst hw
    have := put_world (l := l) (l' := isort l) (os := os) (n := n) hb hg hcap hm hs (isort_len l) (m := l.length) (by rw [isort_len]; exact Nat.le_refl _)
    rw [List.take_of_length_le (by rw [isort_len]; exact Nat.le_refl _)] at this
    exact ⟨he, this.1, this.2⟩

theorem compact_len (l : List Int) : (Lib.compact l).length ≤ l.length := by
  unfold Lib.compact Lib.compactUpTo
  rw [List.length_map]
  refine Nat.le_trans (List.length_filter_le _ _) (by simp)

theorem compactI_own {B : Nat} {v : Value} (l : List Int) (w : World) (hown : w.ownsRow B 3 1 v l.length (icells l)) (hl : l.length ≤ 140737488355328) :
    Calls Try.prog 83 #[v] w fun e w' => ∃ v', e = .returned v' ∧ w'.ownsRow B 3 1 v' (Lib.compact l).length (icells (Lib.compact l)) ∧ w.grownBy w' v.ownBlock ∧ v'.ownBlock = v.ownBlock := by
  rcases hown.2 with ⟨rfl, h0⟩ | ⟨g, cap, cur, rfl, hb, hg, hcap, hm, hs, ht⟩
  · have hl0 : l = [] := List.eq_nil_of_length_eq_zero h0
    subst hl0
    refine (Try.slices_Compact_int_empty none 0 w).mono fun e w' ⟨he, hw⟩ => ?_
    subst hw
    exact ⟨_, he, by simpa [Lib.compact, Lib.compactUpTo] using hown, ⟨rfl, rfl, rfl, Nat.le_refl _, fun _ _ _ => rfl⟩, rfl⟩
  · refine (Try.slices_Compact_int g 0 cap l w (holdsI hg (by simpa using ht)) (by omega) hcap).mono fun e w' ⟨he, q, hw⟩ => ?_
    subst hw
    have hc := compact_len l
    have := put_world (l := l) (l' := Lib.compact l ++ List.replicate (l.length - (Lib.compact l).length) 0) (os := #[]) (n := q) hb hg hcap hm hs (by simp; omega) (m := (Lib.compact l).length) (by simp)
    rw [List.take_append_of_le_length (Nat.le_refl _), List.take_length] at this
    rw [grow_none] at this
    exact ⟨_, he, this.1, this.2, rfl⟩
end Go.Proofs.Ytogegnikpjcpdaa
/- table.Values, table.Keys. -/
namespace Go.Proofs.Ytogegnikpjcpdaa
set_option linter.unusedVariables false
open Go.ChangeShapes Go.WideShapes Go.ChangeAt Go.RowKit

def IntsPost (l : List Int) (w : World) (e : Ending) (w' : World) : Prop :=
  ∃ v, e = .returned v ∧ w'.ownsRow w.heap.size 3 1 v l.length (icells l) ∧ Below w.heap.size w w'
def atKC (key col : Int) (x : Cel) : Bool := x.key == key && x.col == col
def onceI (l : List Int) : List Int := Lib.compact (isort l)
def valsL (t : Tab) (key col : Int) : List Int := onceI ((t.cells.filter (atKC key col)).map Cel.val)
def keysL (t : Tab) : List Int := onceI (t.cells.map Cel.key)
theorem valsL_len (t : Tab) (key col : Int) : (valsL t key col).length ≤ t.cells.length := by
  unfold valsL onceI
  refine Nat.le_trans (compact_len _) ?_
  rw [isort_len, List.length_map]
  exact List.length_filter_le _ _
theorem keysL_len (t : Tab) : (keysL t).length ≤ t.cells.length := by
  unfold keysL onceI
  refine Nat.le_trans (compact_len _) ?_
  rw [isort_len, List.length_map]
  exact Nat.le_refl _
theorem icells_snoc (l : List Int) (x : Int) : icells (l ++ [x]) = icells l ++ icells [x] := by simp

set_option maxHeartbeats 4000000 in
set_option maxRecDepth 100000 in
theorem values_any (t : Tab) (key col : Int) (A : Option Addr) (k : Nat) (B : Option Addr) (m : Nat) (w : World) (rb : Row w w.heap.size B (tcells t.cells)) (lb : t.cells.length ≤ 4398046511104) :
    Calls Try.prog 50 #[tval t A k B m, .int .i64 key, .int .i64 col] w (IntsPost (valsL t key col) w) := by
  have RB := hid (fun w1 (hb : Below w.heap.size w w1) => rb.step hb)
  have HV := hid (show valsL t key col = Lib.compact (isort ((t.cells.filter (atKC key col)).map Cel.val)) from rfl)
  obtain ⟨V, hV⟩ : ∃ V, V = valsL t key col := ⟨_, rfl⟩
  rw [← hV] at HV ⊢
  clear rb hV
  obtain ⟨⟨c0, c1, c2, c3, cl⟩, l⟩ := t
  obtain ⟨i1, hi0, hz0, hz1, hz2⟩ := info_parts info_int
  simp only [tval] at *
  go_enter Try.func50, Try.ntmps50
  go_wp2
  obtain ⟨W2, hW2⟩ : ∃ W2 : World, W2 = w.alloc (.cells #[.int .i64 c0, .int .i64 c1, .int .i64 c2, .int .i64 c3, .slice A cl.length k, .slice B l.length m] 59) := ⟨_, rfl⟩
  rw [← hW2]
  have HB2 := hid (show Below w.heap.size w W2 by rw [hW2]; (repeat' (first | (with_reducible exact Below.refl _ _) | (with_reducible assumption) | (with_reducible refine below_drewN ?_ _) | (with_reducible refine Below.drew ?_) | (with_reducible refine Below.alloc ?_ ?_ _) | (with_reducible refine Below.setCell ?_ ?_ _) | (refine Below.trans ?_ (Below.mono (by assumption) ?_)) | go_size)))
  have hs2 : w.heap.size ≤ W2.heap.size := HB2.out.size
  clear hW2
  go_loopw [7, 13] (fun s7 s13 wr => ∃ i : Nat, i ≤ l.length ∧ s13 = .int .i64 i ∧ wr.ownsRow W2.heap.size 3 1 s7 (((l.take i).filter (atKC key col)).map Cel.val).length (icells (((l.take i).filter (atKC key col)).map Cel.val)) ∧ Below W2.heap.size W2 wr) (fun _ s13 _ => l.length - (intOf s13).toNat)
  case atStart => exact ⟨0, by omega, rfl, by simpa using World.ownsRow_nil _ _ _ _, Below.refl _ _⟩
  case round =>
    obtain ⟨i, hi, rfl, hown, hbw⟩ := hrel
    have hst : ∀ hj : i < l.length, ((l.take (i + 1)).filter (atKC key col)).map Cel.val = ((l.take i).filter (atKC key col)).map Cel.val ++ (if atKC key col l[i] = true then [l[i].val] else []) := by
      intro hj
      rw [List.take_succ_eq_append_getElem hj, List.filter_append, List.map_append, List.filter_cons, List.filter_nil]
      split <;> simp
    have hol : (((l.take i).filter (atKC key col)).map Cel.val).length ≤ 4398046511104 := by
      have := List.length_filter_le (atKC key col) (l.take i)
      rw [List.length_take] at this
      rw [List.length_map]
      omega
    have hfin : ¬ i < l.length → Lib.compact (isort (((l.take i).filter (atKC key col)).map Cel.val)) = V := fun h => by rw [HV.out, List.take_of_length_le (by omega)]
    obtain ⟨O, hO⟩ : ∃ O, O = ((l.take i).filter (atKC key col)).map Cel.val := ⟨_, rfl⟩
    rw [← hO] at hown hst hol hfin
    clear hO
    obtain ⟨A8, c8, rfl⟩ := own_formS hown
    have hB := Below.step' HB2.out hbw
    have HOWN := hid hown
    have HBW := hid hbw
    have HBB := hid hB
    have HFIN := hid hfin
    clear hown hbw hB hfin
    by_cases hlt : i < l.length
    · obtain ⟨b, off, hA, hb, e0, e1, e2, e3, e4⟩ := (RB.out wr HBB.out).cel hlt
      subst hA
      have HST := hid (hst hlt)
      clear hst
      generalize l[i] = x at *
      obtain ⟨⟨d0, d1⟩, ky, co, vl⟩ := x
      simp only at e0 e1 e2 e3 e4
      have hneb : (b = wr.heap.size) = False := by simp; omega
      have hsw := HBW.out.size
      cases q1 : (ky == key)
      · have HQ := hid (show atKC key col ⟨(d0, d1), ky, co, vl⟩ = false by simp only [atKC, q1, Bool.false_and])
        go_wp2
        go_roundw
        case rel => exact ⟨i + 1, by omega, by go_num, by rw [HST.out, HQ.out, if_neg (by simp), List.append_nil]; exact HOWN.out.alloc _, HBW.out.alloc HBW.out.size _⟩
        case measure => simp [intOf]; omega
      · cases q2 : (co == col)
        · have HQ := hid (show atKC key col ⟨(d0, d1), ky, co, vl⟩ = false by simp only [atKC, q1, q2, Bool.and_false])
          go_wp2
          go_roundw
          case rel => exact ⟨i + 1, by omega, by go_num, by rw [HST.out, HQ.out, if_neg (by simp), List.append_nil]; exact HOWN.out.alloc _, HBW.out.alloc HBW.out.size _⟩
          case measure => simp [intOf]; omega
        · have HQ := hid (show atKC key col ⟨(d0, d1), ky, co, vl⟩ = true by simp only [atKC, q1, q2, Bool.and_true])
          go_wp2_with (at_builtin; refine wpList_append_own _ rfl _ _ 72 rfl W2.heap.size 3 i1 _ 1 8 Try.underlying72 hi0 hz0 hz1 hz2 rfl (by decide) _ _ _ rfl ((HOWN.out.alloc _).alloc _) ⟨wr.heap.size + 1, 0, none⟩ 1 1 (icells [vl]) rfl rfl (newsI _ vl _ _ (by simp)) (icells_one _) ?_ ?_ ?_ ?_; rotate_right; intro v6 w6 hown6 hg6 _; rotate_left; (simp only [maxLen]; omega); (omega); (simp; omega))
          go_roundw
          case rel =>
            refine ⟨i + 1, by omega, by go_num, ?_, ((HBW.out.alloc HBW.out.size _).alloc (by simp; omega) _).grown hg6 (by simp; omega) (fun g e => (HOWN.out.lt g e).1)⟩
            rw [HST.out, HQ.out, if_pos rfl, icells_snoc]
            simpa using hown6
          case measure => simp [intOf]; omega
    · have hfin := HFIN.out hlt
      have HSO := hid (sortI_own O wr HOWN.out (by omega))
      have HOL := hid (fun g e => (HOWN.out.lt g e).1)
      have hsw := HBW.out.size
      clear hst
      go_wp2_with fail
      refine HSO.out.mono ?_
      rintro e w5 ⟨rfl, hown5, hg5⟩
      have hsl := isort_len O
      have hown5' : w5.ownsRow W2.heap.size 3 1 (.slice A8 O.length c8) (isort O).length (icells (isort O)) := by rw [hsl]; exact hown5
      have HC := hid (compactI_own (isort O) w5 hown5' (by omega))
      have hs5 := hg5.size
      have HB5 := hid (HBB.out.grown hg5 (by omega) (fun g e => by have := HOL.out g e; omega))
      clear hown5 hown5' hg5
      go_wp2_with fail
      refine HC.out.mono ?_
      rintro e w6 ⟨v6, rfl, hown6, hg6, hv6⟩
      have HO6 := hid hown6
      have HG6 := hid hg6
      rw [hfin] at HO6
      have HF := hid hfin
      clear hown6 hg6 hfin hv6
      go_wp2
      go_ret
      exact ⟨v6, rfl, own_baseS HO6.out hs2, HB5.out.grown HG6.out (by omega) (fun g e => by have := HOL.out g e; omega)⟩

set_option maxHeartbeats 4000000 in
set_option maxRecDepth 100000 in
theorem keys_any (t : Tab) (A : Option Addr) (k : Nat) (B : Option Addr) (m : Nat) (w : World) (rb : Row w w.heap.size B (tcells t.cells)) (lb : t.cells.length ≤ 4398046511104) :
    Calls Try.prog 52 #[tval t A k B m] w (IntsPost (keysL t) w) := by
  have RB := hid (fun w1 (hb : Below w.heap.size w w1) => rb.step hb)
  have HV := hid (show keysL t = Lib.compact (isort (t.cells.map Cel.key)) from rfl)
  obtain ⟨V, hV⟩ : ∃ V, V = keysL t := ⟨_, rfl⟩
  rw [← hV] at HV ⊢
  clear rb hV
  obtain ⟨⟨c0, c1, c2, c3, cl⟩, l⟩ := t
  obtain ⟨i1, hi0, hz0, hz1, hz2⟩ := info_parts info_int
  simp only [tval] at *
  go_enter Try.func52, Try.ntmps52
  go_wp2
  obtain ⟨W2, hW2⟩ : ∃ W2 : World, W2 = w.alloc (.cells #[.int .i64 c0, .int .i64 c1, .int .i64 c2, .int .i64 c3, .slice A cl.length k, .slice B l.length m] 59) := ⟨_, rfl⟩
  rw [← hW2]
  have HB2 := hid (show Below w.heap.size w W2 by rw [hW2]; (repeat' (first | (with_reducible exact Below.refl _ _) | (with_reducible assumption) | (with_reducible refine below_drewN ?_ _) | (with_reducible refine Below.drew ?_) | (with_reducible refine Below.alloc ?_ ?_ _) | (with_reducible refine Below.setCell ?_ ?_ _) | (refine Below.trans ?_ (Below.mono (by assumption) ?_)) | go_size)))
  have hs2 : w.heap.size ≤ W2.heap.size := HB2.out.size
  clear hW2
  go_loopw [3, 9] (fun s3 s9 wr => ∃ i : Nat, i ≤ l.length ∧ s9 = .int .i64 i ∧ wr.ownsRow W2.heap.size 3 1 s3 ((l.take i).map Cel.key).length (icells ((l.take i).map Cel.key)) ∧ Below W2.heap.size W2 wr) (fun _ s9 _ => l.length - (intOf s9).toNat)
  case atStart => exact ⟨0, by omega, rfl, by simpa using World.ownsRow_nil _ _ _ _, Below.refl _ _⟩
  case round =>
    obtain ⟨i, hi, rfl, hown, hbw⟩ := hrel
    have hst : ∀ hj : i < l.length, (l.take (i + 1)).map Cel.key = (l.take i).map Cel.key ++ [l[i].key] := by
      intro hj
      rw [List.take_succ_eq_append_getElem hj, List.map_append]; rfl
    have hol : ((l.take i).map Cel.key).length ≤ 4398046511104 := by
      rw [List.length_map, List.length_take]
      omega
    have hfin : ¬ i < l.length → Lib.compact (isort ((l.take i).map Cel.key)) = V := fun h => by rw [HV.out, List.take_of_length_le (by omega)]
    obtain ⟨O, hO⟩ : ∃ O, O = (l.take i).map Cel.key := ⟨_, rfl⟩
    rw [← hO] at hown hst hol hfin
    clear hO
    obtain ⟨A8, c8, rfl⟩ := own_formS hown
    have hB := Below.step' HB2.out hbw
    have HOWN := hid hown
    have HBW := hid hbw
    have HBB := hid hB
    have HFIN := hid hfin
    clear hown hbw hB hfin
    by_cases hlt : i < l.length
    · obtain ⟨b, off, hA, hb, e0, e1, e2, e3, e4⟩ := (RB.out wr HBB.out).cel hlt
      subst hA
      have HST := hid (hst hlt)
      clear hst
      generalize l[i] = x at *
      obtain ⟨⟨d0, d1⟩, ky, co, vl⟩ := x
      simp only at e0 e1 e2 e3 e4
      have hneb : (b = wr.heap.size) = False := by simp; omega
      have hsw := HBW.out.size
      go_wp2_with (at_builtin; refine wpList_append_own _ rfl _ _ 72 rfl W2.heap.size 3 i1 _ 1 8 Try.underlying72 hi0 hz0 hz1 hz2 rfl (by decide) _ _ _ rfl ((HOWN.out.alloc _).alloc _) ⟨wr.heap.size + 1, 0, none⟩ 1 1 (icells [ky]) rfl rfl (newsI _ ky _ _ (by simp)) (icells_one _) ?_ ?_ ?_ ?_; rotate_right; intro v6 w6 hown6 hg6 _; rotate_left; (simp only [maxLen]; omega); (omega); (simp; omega))
      go_roundw
      case rel =>
        refine ⟨i + 1, by omega, by go_num, ?_, ((HBW.out.alloc HBW.out.size _).alloc (by simp; omega) _).grown hg6 (by simp; omega) (fun g e => (HOWN.out.lt g e).1)⟩
        rw [HST.out, icells_snoc]
        simpa using hown6
      case measure => simp [intOf]; omega
    · have hfin := HFIN.out hlt
      have HSO := hid (sortI_own O wr HOWN.out (by omega))
      have HOL := hid (fun g e => (HOWN.out.lt g e).1)
      have hsw := HBW.out.size
      clear hst
      go_wp2_with fail
      refine HSO.out.mono ?_
      rintro e w5 ⟨rfl, hown5, hg5⟩
      have hsl := isort_len O
      have hown5' : w5.ownsRow W2.heap.size 3 1 (.slice A8 O.length c8) (isort O).length (icells (isort O)) := by rw [hsl]; exact hown5
      have HC := hid (compactI_own (isort O) w5 hown5' (by omega))
      have hs5 := hg5.size
      have HB5 := hid (HBB.out.grown hg5 (by omega) (fun g e => by have := HOL.out g e; omega))
      clear hown5 hown5' hg5
      go_wp2_with fail
      refine HC.out.mono ?_
      rintro e w6 ⟨v6, rfl, hown6, hg6, hv6⟩
      have HO6 := hid hown6
      have HG6 := hid hg6
      rw [hfin] at HO6
      have HF := hid hfin
      clear hown6 hg6 hfin hv6
      go_wp2
      go_ret
      exact ⟨v6, rfl, own_baseS HO6.out hs2, HB5.out.grown HG6.out (by omega) (fun g e => by have := HOL.out g e; omega)⟩
end Go.Proofs.Ytogegnikpjcpdaa
/- table.Check, viewref.Table. -/
namespace Go.Proofs.Ytogegnikpjcpdaa
set_option linter.unusedVariables false
open Go.ChangeShapes Go.WideShapes Go.ChangeAt Go.RowKit

def celOk (c : Ctx) (x : Cel) : Bool := rightB x.d.1 x.d.2 && hasB c x.d && inB x.key 0 49 && (inB x.col 0 2 && inB x.val (-1000) 1000)
def badCel (t : Tab) (i : Nat) : Bool := !celOk t.c (t.cells.getD i ⟨(0, 0), 0, 0, 0⟩) || (decide (0 < i) && !before (t.cells.getD (i - 1) ⟨(0, 0), 0, 0, 0⟩).d (t.cells.getD i ⟨(0, 0), 0, 0, 0⟩).d)
def tabI (t : Tab) : Int := if checkI t.c ≠ 0 then checkI t.c else if 400 < t.cells.length then 2 else if (List.range t.cells.length).any (badCel t) then 5 else 0
theorem tabI_ctx {t : Tab} (h : checkI t.c ≠ 0) : tabI t = checkI t.c := by unfold tabI; rw [if_pos h]
theorem tabI_large {t : Tab} (h : checkI t.c = 0) (h2 : 400 < t.cells.length) : tabI t = 2 := by unfold tabI; rw [if_neg (by simp [h]), if_pos h2]
theorem tabI_form {t : Tab} (h : checkI t.c = 0) (h2 : t.cells.length ≤ 400) {i : Nat} (hi : i < t.cells.length) (hb : badCel t i = true) : tabI t = 5 := by
  unfold tabI
  rw [if_neg (by simp [h]), if_neg (by omega), if_pos (List.any_eq_true.2 ⟨i, List.mem_range.2 hi, hb⟩)]
theorem tabI_ok {t : Tab} (h : checkI t.c = 0) (h2 : t.cells.length ≤ 400) (hg : ∀ i, i < t.cells.length → badCel t i = false) : tabI t = 0 := by
  unfold tabI
  rw [if_neg (by simp [h]), if_neg (by omega), if_neg]
  intro hq
  obtain ⟨i, hi, hb⟩ := List.any_eq_true.1 hq
  rw [hg i (List.mem_range.1 hi)] at hb
  cases hb
theorem badCel_at {t : Tab} {i : Nat} (h : i < t.cells.length) : badCel t i = (!celOk t.c t.cells[i] || (decide (0 < i) && !before (t.cells.getD (i - 1) ⟨(0, 0), 0, 0, 0⟩).d t.cells[i].d)) := by
  unfold badCel
  simp [List.getD, h]

set_option maxRecDepth 100000 in
theorem within_any (n lo hi : Int) (w : World) : Calls Try.prog 75 #[.int .i64 n, .int .i64 lo, .int .i64 hi] w fun e w' => e = .returned (.bool (inB n lo hi)) ∧ w = w' := by
  go_enter Try.func75, Try.ntmps75
  by_cases h1 : lo ≤ n <;> by_cases h2 : n ≤ hi
  all_goals
    go_wp2
    go_ret
    exact ⟨ret_bool (by simp [inB]; omega), rfl⟩
set_option maxRecDepth 100000 in
theorem keyed_any (n : Int) (w : World) : Calls Try.prog 76 #[.int .i64 n] w fun e w' => e = .returned (.bool (inB n 0 49)) ∧ w = w' := by
  go_enter Try.func76, Try.ntmps76
  go_wp2_with (refine (within_any _ _ _ _).mono ?_; rintro e w' ⟨rfl, rfl⟩)
  go_ret
  exact ⟨rfl, rfl⟩
set_option maxRecDepth 100000 in
theorem valued_any (c v : Int) (w : World) : Calls Try.prog 77 #[.int .i64 c, .int .i64 v] w fun e w' => e = .returned (.bool (inB c 0 2 && inB v (-1000) 1000)) ∧ w = w' := by
  have H0 := fun w => within_any c 0 2 w
  cases h : inB c 0 2
  all_goals
    rw [h] at H0
    have H := hid H0
    clear H0 h
    go_enter Try.func77, Try.ntmps77
    go_wp2_with fail
    refine (H.out _).mono ?_
    rintro e w' ⟨rfl, rfl⟩
    go_wp2_with (refine (within_any _ _ _ _).mono ?_; rintro e w' ⟨rfl, rfl⟩)
    go_ret
    exact ⟨ret_bool (by simp), rfl⟩

theorem make_lit1 (d : Int × Int) (A : Option Addr) (k : Nat) (w : World) (hr : Row w w.heap.size A (dcells [d])) : Calls Try.prog 16 #[.slice A 1 k] w (CtxErr (makeC [d]) (if rightB d.1 d.2 = true then 0 else 5) w) := by
  have h := make_any [d] A k w hr (by simp)
  have e : makeE [d] = if rightB d.1 d.2 = true then 0 else 5 := by
    unfold makeE
    cases hq : rightB d.1 d.2 <;> simp [hq]
  rw [e] at h
  exact h

theorem celOk_parts {c : Ctx} {x : Cel} (h1 : rightB x.d.1 x.d.2 = true) (h2 : hasB c x.d = true) (h3 : inB x.key 0 49 = true) (h4 : (inB x.col 0 2 && inB x.val (-1000) 1000) = true) : celOk c x = true := by
  unfold celOk; rw [h1, h2, h3, h4]; rfl
theorem celOk_no {c : Ctx} {x : Cel} (h : rightB x.d.1 x.d.2 = false ∨ hasB c x.d = false ∨ inB x.key 0 49 = false ∨ (inB x.col 0 2 && inB x.val (-1000) 1000) = false) : celOk c x = false := by
  unfold celOk
  rcases h with h | h | h | h <;> rw [h] <;> simp

set_option maxHeartbeats 4000000 in
set_option maxRecDepth 100000 in
theorem tcheck_any (t : Tab) (A : Option Addr) (k : Nat) (B : Option Addr) (m : Nat) (w : World) (ra : Row w w.heap.size A (dcells t.c.cloud)) (la : t.c.cloud.length ≤ 9223372036854775807)
    (rb : Row w w.heap.size B (tcells t.cells)) (lb : t.cells.length ≤ 9223372036854775807) :
    Calls Try.prog 47 #[tval t A k B m] w fun e w' => e = .returned (.int .i64 (tabI t)) ∧ Below w.heap.size w w' := by
  have HC := hid (fun w1 (hb : Below w.heap.size w w1) => check_any t.c A k w1 (ra.step hb) la)
  have HH := hid (fun w1 (hb : Below w.heap.size w w1) d => has_any t.c d A k w1 (ra.step hb) la)
  have RB := hid (fun w1 (hb : Below w.heap.size w w1) => rb.step hb)
  have HT1 := hid (@tabI_ctx t)
  have HT2 := hid (@tabI_large t)
  have HT3 := hid (@tabI_form t)
  have HT4 := hid (@tabI_ok t)
  have HBA := hid (fun i (h : i < t.cells.length) => badCel_at (t := t) h)
  clear ra rb
  obtain ⟨⟨c0, c1, c2, c3, cl⟩, l⟩ := t
  obtain ⟨c, hc⟩ : ∃ c : Ctx, c = ⟨c0, c1, c2, c3, cl⟩ := ⟨_, rfl⟩
  simp only [tval, cval] at *
  rw [← hc] at HC HH HT1 HT2 HT3 HT4 HBA ⊢
  have HCC := hid hc
  clear hc
  obtain ⟨I, hI⟩ : ∃ I, I = checkI c := ⟨_, rfl⟩
  rw [← hI] at HC HT1 HT2 HT3 HT4
  clear hI
  obtain ⟨R, hR⟩ : ∃ R, R = tabI ⟨c, l⟩ := ⟨_, rfl⟩
  rw [← hR] at HT1 HT2 HT3 HT4 ⊢
  clear hR
  by_cases q : I = 0
  rotate_left
  · have q2 : (I != 0) = true := by simpa using q
    have HR := hid (HT1.out q)
    clear q
    go_enter Try.func47, Try.ntmps47
    go_wp2_with fail
    refine (HC.out _ (by (repeat' (first | (with_reducible exact Below.refl _ _) | (with_reducible assumption) | (with_reducible refine below_drewN ?_ _) | (with_reducible refine Below.drew ?_) | (with_reducible refine Below.alloc ?_ ?_ _) | (with_reducible refine Below.setCell ?_ ?_ _) | (refine Below.trans ?_ (Below.mono (by assumption) ?_)) | go_size)))).mono ?_
    rintro e w1 ⟨rfl, hb1⟩
    go_wp2
    go_ret
    exact ⟨ret_int HR.out.symm, (by refine Below.step' ?_ hb1; (repeat' (first | (with_reducible exact Below.refl _ _) | (with_reducible assumption) | (with_reducible refine below_drewN ?_ _) | (with_reducible refine Below.drew ?_) | (with_reducible refine Below.alloc ?_ ?_ _) | (with_reducible refine Below.setCell ?_ ?_ _) | (refine Below.trans ?_ (Below.mono (by assumption) ?_)) | go_size)))⟩
  · subst q
    go_enter Try.func47, Try.ntmps47
    go_wp2_with fail
    refine (HC.out _ (by (repeat' (first | (with_reducible exact Below.refl _ _) | (with_reducible assumption) | (with_reducible refine below_drewN ?_ _) | (with_reducible refine Below.drew ?_) | (with_reducible refine Below.alloc ?_ ?_ _) | (with_reducible refine Below.setCell ?_ ?_ _) | (refine Below.trans ?_ (Below.mono (by assumption) ?_)) | go_size)))).mono ?_
    rintro e w1 ⟨rfl, hb1⟩
    have HBW := hid (show Below w.heap.size w w1 from (by refine Below.step' ?_ hb1; (repeat' (first | (with_reducible exact Below.refl _ _) | (with_reducible assumption) | (with_reducible refine below_drewN ?_ _) | (with_reducible refine Below.drew ?_) | (with_reducible refine Below.alloc ?_ ?_ _) | (with_reducible refine Below.setCell ?_ ?_ _) | (refine Below.trans ?_ (Below.mono (by assumption) ?_)) | go_size))))
    have HXT := hid (Blk.step (Blk.new w #[.int .i64 c0, .int .i64 c1, .int .i64 c2, .int .i64 c3, .slice A cl.length k, .slice B l.length m] 59) hb1)
    clear hb1
    obtain ⟨cHXT, fHXT, sHXT, nHXT⟩ := HXT.out.all
    try simp only [cbox] at cHXT
    by_cases h4 : 400 < l.length
    · have hq : decide ((400 : Int) < (l.length : Int)) = true := by simp; omega
      have HR := hid (HT2.out trivial h4)
      go_wp2
      go_ret
      exact ⟨ret_int HR.out.symm, HBW.out⟩
    · have hq : decide ((400 : Int) < (l.length : Int)) = false := by simp; omega
      go_wp2
      clear cHXT fHXT sHXT nHXT
      go_loopw [21] (fun s21 wr => ∃ i : Nat, i ≤ l.length ∧ s21 = .int .i64 i ∧ (∀ j, j < i → badCel ⟨c, l⟩ j = false) ∧ Below w1.heap.size w1 wr) (fun s21 _ => l.length - (intOf s21).toNat)
      case atStart => exact ⟨0, by omega, rfl, fun j h => absurd h (by omega), Below.refl _ _⟩
      case round =>
        obtain ⟨i, hi, rfl, hno, hbw⟩ := hrel
        have HN := hid hno
        have HB := hid (Below.step' HBW.out hbw)
        have HB1 := hid hbw
        have HXR := hid (HXT.out.step hbw)
        clear hno hbw
        by_cases hlt : i < l.length
        · obtain ⟨b, off, hA, hb, e0, e1, e2, e3, e4⟩ := (RB.out wr HB.out).cel hlt
          subst hA
          have hp : 0 < i → ∃ p : Int × Int, (l.getD (i - 1) ⟨(0, 0), 0, 0, 0⟩).d = p ∧ ∀ w1, Below w.heap.size w w1 → w1.cell? ⟨b, off + (i - 1) * 5, none⟩ = some (.int .i64 p.1) ∧ w1.cell? ⟨b, off + (i - 1) * 5 + 1, none⟩ = some (.int .i64 p.2) := by
            intro hm
            refine ⟨l[i - 1].d, by simp [List.getD, show i - 1 < l.length by omega], fun w1 hb1 => ?_⟩
            obtain ⟨b', off', he, hb', h0', h1', -⟩ := (RB.out w1 hb1).cel (k := i - 1) (by omega)
            injection he with he
            injection he with he1 he2
            subst he1 he2
            exact ⟨h0', h1'⟩
          have HBAD := hid (HBA.out i hlt)
          have HT3i := hid (fun hb => HT3.out trivial (by simpa using h4) (i := i) hlt hb)
          try simp only at HBAD
          generalize l[i] = x at *
          obtain ⟨⟨d0, d1⟩, key, col, val⟩ := x
          simp only at e0 e1 e2 e3 e4
          obtain ⟨cHXR, fHXR, sHXR, nHXR⟩ := HXR.out.all
          try simp only [cbox] at cHXR
          have hneb : (b = wr.heap.size) = False := by simp; omega
          go_wp2_with fail
          refine (make_lit1 (d0, d1) _ _ _ (by exact Row.new' (wr.alloc _) _ _ (by simp) rfl (by simp))).mono ?_
          rintro e w2 ⟨A2, k2, rfl, hr2, hb2, hn2⟩
          have hB2 : Below wr.heap.size wr w2 := (by refine Below.step' ?_ hb2; (repeat' (first | (with_reducible exact Below.refl _ _) | (with_reducible assumption) | (with_reducible refine below_drewN ?_ _) | (with_reducible refine Below.drew ?_) | (with_reducible refine Below.alloc ?_ ?_ _) | (with_reducible refine Below.setCell ?_ ?_ _) | (refine Below.trans ?_ (Below.mono (by assumption) ?_)) | go_size)))
          have HX5 := hid (Blk.thru (B := wr.heap.size + 1 + 1) (w := (wr.alloc (.cells #[.int .i64 d0, .int .i64 d1, .int .i64 key, .int .i64 col, .int .i64 val] 62)).alloc (.cells #[.int .i64 d0, .int .i64 d1] 27)) (b := wr.heap.size) (cs := #[.int .i64 d0, .int .i64 d1, .int .i64 key, .int .i64 col, .int .i64 val]) (T := 62) (by exact (Blk.new wr _ _).alloc _) (by simpa using hb2) (by omega))
          clear cHXR fHXR sHXR nHXR
          replace HXR := hid (HXR.out.step hB2)
          have HB2 := hid (Below.step' HB.out hB2)
          have HB12 := hid (Below.step' HB1.out hB2)
          have hs2 := hB2.size
          clear hb2 hB2 hr2 hn2 e0 e1 e2 e3 e4 hneb hb
          obtain ⟨cHXR, fHXR, sHXR, nHXR⟩ := HXR.out.all
          try simp only [cbox] at cHXR
          obtain ⟨cHX5, fHX5, sHX5, nHX5⟩ := HX5.out.all
          try simp only [cbox] at cHX5
          have hbo : Below w.heap.size w (w2.alloc (.cells (cbox (makeC [(d0, d1)]) A2 k2) 25)) := HB2.out.alloc HB2.out.size _
          have hbo1 : Below w1.heap.size w1 (w2.alloc (.cells (cbox (makeC [(d0, d1)]) A2 k2) 25)) := HB12.out.alloc HB12.out.size _
          have HBO := hid hbo
          have HBO1 := hid hbo1
          clear hbo hbo1
          simp only [cbox] at HBO HBO1
          obtain ⟨K, hK⟩ : ∃ K, K = makeC [(d0, d1)] := ⟨_, rfl⟩
          rw [← hK] at HBO HBO1 ⊢
          clear hK
          simp only [cval]
          cases hright : rightB d0 d1
          · have HR := hid (HT3i.out (by rw [HBAD.out, celOk_no (.inl hright)]; rfl))
            simp only [Bool.false_eq_true, if_false]
            go_wp2
            go_ret
            exact ⟨ret_int HR.out.symm, HBO.out⟩
          · simp only [if_true]
            have hh := fun w1 (hb : Below w.heap.size w w1) => HH.out w1 hb (d0, d1)
            cases hhas : hasB c (d0, d1)
            · have HR := hid (HT3i.out (by rw [HBAD.out, celOk_no (.inr (.inl hhas))]; rfl))
              rw [hhas] at hh
              have HHQ := hid hh
              clear hh
              go_wp2_with fail
              refine (HHQ.out _ HBO.out).mono ?_
              rintro e w3 ⟨rfl, hb3⟩
              go_wp2
              go_ret
              exact ⟨ret_int HR.out.symm, Below.step' HBO.out hb3⟩
            · rw [hhas] at hh
              have HHQ := hid hh
              clear hh
              have hky := fun w => keyed_any key w
              have hva := fun w => valued_any col val w
              cases hkey : inB key 0 49
              · have HR := hid (HT3i.out (by rw [HBAD.out, celOk_no (.inr (.inr (.inl hkey)))]; rfl))
                rw [hkey] at hky
                have HKY := hid hky
                clear hky hva
                go_wp2_with fail
                refine (HHQ.out _ HBO.out).mono ?_
                rintro e w3 ⟨rfl, hb3⟩
                have hB3 : Below w2.heap.size w2 w3 := (by refine Below.step' ?_ hb3; (repeat' (first | (with_reducible exact Below.refl _ _) | (with_reducible assumption) | (with_reducible refine below_drewN ?_ _) | (with_reducible refine Below.drew ?_) | (with_reducible refine Below.alloc ?_ ?_ _) | (with_reducible refine Below.setCell ?_ ?_ _) | (refine Below.trans ?_ (Below.mono (by assumption) ?_)) | go_size)))
                clear cHX5 fHX5 sHX5 nHX5
                replace HX5 := hid (HX5.out.step hB3)
                obtain ⟨cHX5, fHX5, sHX5, nHX5⟩ := HX5.out.all
                try simp only [cbox] at cHX5
                go_wp2_with fail
                refine (HKY.out _).mono ?_
                rintro e w4 ⟨rfl, rfl⟩
                go_wp2
                go_ret
                exact ⟨ret_int HR.out.symm, Below.step' HBO.out hb3⟩
              · cases hval : (inB col 0 2 && inB val (-1000) 1000)
                · have HR := hid (HT3i.out (by rw [HBAD.out, celOk_no (.inr (.inr (.inr hval)))]; rfl))
                  rw [hkey] at hky
                  rw [hval] at hva
                  have HKY := hid hky
                  have HVA := hid hva
                  clear hky hva hkey hval
                  go_wp2_with fail
                  refine (HHQ.out _ HBO.out).mono ?_
                  rintro e w3 ⟨rfl, hb3⟩
                  have hB3 : Below w2.heap.size w2 w3 := (by refine Below.step' ?_ hb3; (repeat' (first | (with_reducible exact Below.refl _ _) | (with_reducible assumption) | (with_reducible refine below_drewN ?_ _) | (with_reducible refine Below.drew ?_) | (with_reducible refine Below.alloc ?_ ?_ _) | (with_reducible refine Below.setCell ?_ ?_ _) | (refine Below.trans ?_ (Below.mono (by assumption) ?_)) | go_size)))
                  clear cHX5 fHX5 sHX5 nHX5
                  replace HX5 := hid (HX5.out.step hB3)
                  obtain ⟨cHX5, fHX5, sHX5, nHX5⟩ := HX5.out.all
                  try simp only [cbox] at cHX5
                  go_wp2_with fail
                  refine (HKY.out _).mono ?_
                  rintro e w4 ⟨rfl, rfl⟩
                  go_wp2_with fail
                  refine (HVA.out _).mono ?_
                  rintro e w4 ⟨rfl, rfl⟩
                  go_wp2
                  go_ret
                  exact ⟨ret_int HR.out.symm, Below.step' HBO.out hb3⟩
                · have hok := celOk_parts (c := c) (x := ⟨(d0, d1), key, col, val⟩) hright hhas hkey hval
                  rw [hkey] at hky
                  rw [hval] at hva
                  have HKY := hid hky
                  have HVA := hid hva
                  have hbad := HBAD.out
                  rw [hok] at hbad
                  have HBD := hid hbad
                  clear hky hva hkey hval hok hbad hright hhas
                  go_wp2_with fail
                  refine (HHQ.out _ HBO.out).mono ?_
                  rintro e w3 ⟨rfl, hb3⟩
                  have hB3 : Below w2.heap.size w2 w3 := (by refine Below.step' ?_ hb3; (repeat' (first | (with_reducible exact Below.refl _ _) | (with_reducible assumption) | (with_reducible refine below_drewN ?_ _) | (with_reducible refine Below.drew ?_) | (with_reducible refine Below.alloc ?_ ?_ _) | (with_reducible refine Below.setCell ?_ ?_ _) | (refine Below.trans ?_ (Below.mono (by assumption) ?_)) | go_size)))
                  clear cHX5 fHX5 sHX5 nHX5
                  clear cHXR fHXR sHXR nHXR
                  replace HX5 := hid (HX5.out.step hB3)
                  replace HXR := hid (HXR.out.step hB3)
                  have HB3 := hid (Below.step' HBO.out hb3)
                  have HB13 := hid (Below.step' HBO1.out hb3)
                  have hs3 := hB3.size
                  clear hb3 hB3
                  obtain ⟨cHX5, fHX5, sHX5, nHX5⟩ := HX5.out.all
                  try simp only [cbox] at cHX5
                  obtain ⟨cHXR, fHXR, sHXR, nHXR⟩ := HXR.out.all
                  try simp only [cbox] at cHXR
                  go_wp2_with fail
                  refine (HKY.out _).mono ?_
                  rintro e w4 ⟨rfl, rfl⟩
                  go_wp2_with fail
                  refine (HVA.out _).mono ?_
                  rintro e w4 ⟨rfl, rfl⟩
                  by_cases hk0 : 0 < i
                  · obtain ⟨⟨p0, p1⟩, hpe, hpc⟩ := hp hk0
                    obtain ⟨g0, g1⟩ := hpc w3 HB3.out
                    have hd : decide ((0 : Int) < (i : Int)) = true := by simp; omega
                    have hd2 : decide (0 < i) = true := by simp; omega
                    simp only at g0 g1
                    clear hp hpc
                    have z1 : IntKind.i64.wrap ((i : Int) - 1) = (i : Int) - 1 := IntWalk.i64_in _ (by omega)
                    have z2 : (1 : Int) ≤ (i : Int) := by omega
                    have z3 : (i : Int) - 1 < (l.length : Int) := by omega
                    have z4 : ((i : Int) - 1).toNat = i - 1 := by omega
                    have hblt : b < w3.heap.size := World.block_lt_of_cell? _ _ g0
                    have hbd := HBD.out
                    rw [hpe, hd2] at hbd
                    simp only [Bool.not_true, Bool.false_or, Bool.true_and] at hbd
                    have HBD2 := hid hbd
                    clear hpe hbd HBD HBAD hd2
                    cases hbf : decide (0 ≤ or2 (cmpI p0 d0) (cmpI p1 d1))
                    · have hbe : before (p0, p1) (d0, d1) = true := by
                        have := cmp_before (p0, p1) (d0, d1)
                        cases hq : before (p0, p1) (d0, d1)
                        · rw [hq] at this; simp only [iff_true] at this; rw [decide_eq_false_iff_not] at hbf; exact absurd this hbf
                        · rfl
                      rw [hbe] at HBD2
                      clear hbe
                      go_wp2
                      refine region_ext (by kernel_rfl) (by kernel_rfl) (fun hext => ?_)
                      repeat (any_goals ((with_reducible refine wpQuiet_step (fun K hK => ?_)); go_simp; first | (with_reducible refine hK _ ?_; clear hK K) | ((with_reducible apply Exists.intro); (with_reducible refine ⟨fun _ => ?_, hK _ ?_⟩); ((go_at_call 66; exact ext_call _ (by simp) (order_ints _ _ _ _ _))); clear hK K) | ((with_reducible refine (if_neg ?_).mpr (hK _ ?_)); (decide); clear hK K) | (split <;> (with_reducible refine hK _ ?_; clear hK K))))
                      all_goals ((with_reducible refine wpQuiet_nil ?_); clear hext; intro w1 hx1; have hb1 := ext_below hx1; clear hx1)
                      go_wp2
                      go_roundw
                      case rel =>
                        refine ⟨i + 1, by omega, by go_num, fun j hj => ?_, Below.step' HB13.out hb1⟩
                        by_cases e : j = i
                        · subst e; exact HBD2.out
                        · exact HN.out j (by omega)
                      case measure => simp [intOf]; omega
                    · have hbe : before (p0, p1) (d0, d1) = false := (cmp_before (p0, p1) (d0, d1)).1 (by simpa using hbf)
                      rw [hbe] at HBD2
                      clear hbe
                      go_wp2
                      refine region_ext (by kernel_rfl) (by kernel_rfl) (fun hext => ?_)
                      repeat (any_goals ((with_reducible refine wpQuiet_step (fun K hK => ?_)); go_simp; first | (with_reducible refine hK _ ?_; clear hK K) | ((with_reducible apply Exists.intro); (with_reducible refine ⟨fun _ => ?_, hK _ ?_⟩); ((go_at_call 66; exact ext_call _ (by simp) (order_ints _ _ _ _ _))); clear hK K) | ((with_reducible refine (if_neg ?_).mpr (hK _ ?_)); (decide); clear hK K) | (split <;> (with_reducible refine hK _ ?_; clear hK K))))
                      all_goals ((with_reducible refine wpQuiet_nil ?_); clear hext; intro w1 hx1; have hb1 := ext_below hx1; clear hx1)
                      go_wp2
                      go_ret
                      exact ⟨ret_int (HT3i.out HBD2.out).symm, Below.step' HB3.out hb1⟩
                  · have hd : decide ((0 : Int) < (i : Int)) = false := by simp; omega
                    have hd2 : decide (0 < i) = false := by simp; omega
                    have hbd := HBD.out
                    rw [hd2] at hbd
                    have HBD2 := hid hbd
                    clear hbd HBD HBAD hd2 hp
                    go_wp2
                    refine region_ext (by kernel_rfl) (by kernel_rfl) (fun hext => ?_)
                    repeat (any_goals ((with_reducible refine wpQuiet_step (fun K hK => ?_)); go_simp; first | (with_reducible refine hK _ ?_; clear hK K) | ((with_reducible apply Exists.intro); (with_reducible refine ⟨fun _ => ?_, hK _ ?_⟩); ((go_at_call 66; exact ext_call _ (by simp) (order_ints _ _ _ _ _))); clear hK K) | ((with_reducible refine (if_neg ?_).mpr (hK _ ?_)); (decide); clear hK K) | (split <;> (with_reducible refine hK _ ?_; clear hK K))))
                    all_goals ((with_reducible refine wpQuiet_nil ?_); clear hext; intro w1 hx1; have hb1 := ext_below hx1; clear hx1)
                    go_wp2
                    go_roundw
                    case rel =>
                      refine ⟨i + 1, by omega, by go_num, fun j hj => ?_, Below.step' HB13.out hb1⟩
                      by_cases e : j = i
                      · subst e; exact HBD2.out
                      · exact HN.out j (by omega)
                    case measure => simp [intOf]; omega
        · have HR := hid (HT4.out trivial (by simpa using h4) (fun j hj => HN.out j (by omega)))
          go_wp2
          go_ret
          exact ⟨ret_int HR.out.symm, HB.out⟩
end Go.Proofs.Ytogegnikpjcpdaa
