/- PnV, PnW, PnX, PlS, PnY, PnL, OpenS -/
import Derived.Test.YtmcdaibdpeeefaaCk13
import Derived.Test.YtmcdaibdpeeefaaCk06
import Derived.Test.YtmcdaibdpeeefaaCk04
import Derived.Test.YtmcdaibdpeeefaaCk07
import Derived.Test.YtmcdaibdpeeefaaCk05
import Derived.Test.YtmcdaibdpeeefaaCk09
/- plain.All. -/
namespace Go.Proofs.Ytmcdaibdpeeefaa
set_option linter.unusedVariables false
set_option linter.unusedSimpArgs false
open Go.ChangeShapes Go.WideShapes Go.ChangeAt Go.RowKit

theorem elem_sets : Elem Try.prog 42 22 1 24 := ⟨Try.underlying42, by
  obtain ⟨i, hi, hz, hs, hb⟩ := info_parts (P := Try.prog) (e := 22) (z := .slice none 0 0) (size := 1) (bytes := 24) (by kernel_rfl)
  exact ⟨i, _, hi, hz, hs, hb, rfl⟩, by decide⟩
abbrev llcells (LL : List LR) : List Value := LL.flatMap LR.cells
theorem llcells_len (LL : List LR) : (llcells LL).length = LL.length := by rw [llcells, flat_len LR.len, Nat.mul_one]
def setsOf (LL : List LR) : List (List It) := LL.map (fun x => its x.L)
theorem setsOf_len (LL : List LR) : (setsOf LL).length = LL.length := List.length_map ..
/-- Sets of a call's own making, that share nothing with the slice that holds them. -/
def SetsNew (w : World) (lo : Nat) (v : Value) (LL : List LR) : Prop :=
  ∀ x ∈ LL, w.ownsRow lo 28 2 (.slice x.A x.L.length x.k) x.L.length (rcells x.L) ∧ RowsNew w lo (.slice x.A x.L.length x.k) x.L ∧
    (∀ g, (Value.slice x.A x.L.length x.k).ownBlock = some g → some g ≠ v.ownBlock) ∧ ∀ y ∈ x.L, ∀ b off q, y.A = some ⟨b, off, q⟩ → some b ≠ v.ownBlock
theorem SetsNew.nil (w : World) (lo : Nat) (v : Value) : SetsNew w lo v [] := fun x hx => by simp at hx
theorem SetsNew.step {w w' : World} {lo : Nat} {v : Value} {LL : List LR} (h : SetsNew w lo v LL) (hb : Below w.heap.size w w') : SetsNew w' lo v LL := fun x hx => by
  obtain ⟨h1, h2, h3, h4⟩ := h x hx
  exact ⟨own_laterS h1 hb, h2.step hb, h3, h4⟩
theorem SetsNew.grown {w w' : World} {lo : Nat} {v v' : Value} {LL : List LR} (h : SetsNew w lo v LL) (hg : w.grownBy w' v.ownBlock) (hv : v'.ownBlock = v.ownBlock ∨ v'.ownBlock = some w.heap.size) : SetsNew w' lo v' LL := fun x hx => by
  obtain ⟨h1, h2, h3, h4⟩ := h x hx
  refine ⟨own_ne_grown h1 hg h3, h2.grownNe hg h4, fun g e => ?_, fun y hy b off q e => ?_⟩
  · rcases hv with hv | hv
    · rw [hv]; exact h3 g e
    · rw [hv]; intro e2; injection e2 with e2; have := (h1.lt g e).2; omega
  · rcases hv with hv | hv
    · rw [hv]; exact h4 y hy b off q e
    · rw [hv]; intro e2; injection e2 with e2; have := ((h2 y hy).2.2.1 b off q e).2; omega
theorem SetsNew.rows {w : World} {lo : Nat} {v : Value} {LL : List LR} (h : SetsNew w lo v LL) : ∀ x ∈ LL, RowI w w.heap.size x.A x.L := fun x hx => ⟨Row.of_ownS (h x hx).1, (h x hx).2.1.rows⟩
/-- All of one set lies ahead of all of the other. -/
def Apart (x y : LR) : Prop := ∃ mid : Nat, (∀ b off q, x.A = some ⟨b, off, q⟩ → b < mid) ∧ (∀ z ∈ x.L, ∀ b off q, z.A = some ⟨b, off, q⟩ → b < mid) ∧ NewAt mid y.A ∧ ∀ z ∈ y.L, NewAt mid z.A
theorem SetsNew.apart {w : World} {lo mid : Nat} {v : Value} {LL : List LR} (h : SetsNew w lo v LL) (hm : w.heap.size ≤ mid) (hp : LL.Pairwise Apart) {y : LR} (h1 : NewAt mid y.A) (h2 : ∀ z ∈ y.L, NewAt mid z.A) : (LL ++ [y]).Pairwise Apart := by
  refine List.pairwise_append.2 ⟨hp, List.pairwise_singleton _ _, fun x hx z hz => ?_⟩
  rw [List.mem_singleton.1 hz]
  obtain ⟨q1, q2, -, -⟩ := h x hx
  exact ⟨mid, fun b off q e => Nat.lt_of_lt_of_le (own_inS q1 b off q e) hm, fun t ht b off q e => Nat.lt_of_lt_of_le ((q2 t ht).2.2.1 b off q e).2 hm, h1, h2⟩
/-- Sets of a call's own making, and an error. -/
def AllPost (S : List (List It)) (x : Int) (w : World) (e : Ending) (w' : World) : Prop :=
  ∃ (A : Option Addr) (k : Nat) (LL : List LR), e = .returned (.tuple #[.slice A LL.length k, .int .i64 x]) ∧ setsOf LL = S ∧ w'.ownsRow w.heap.size 22 1 (.slice A LL.length k) LL.length (llcells LL) ∧ SetsNew w' w.heap.size (.slice A LL.length k) LL ∧ Below w.heap.size w w' ∧ LL.Pairwise Apart ∧ LL.length ≤ 30
theorem allPost_nil {S : List (List It)} {w w' : World} {x y : Int} (hS : S = []) (hx : y = x) (hb : Below w.heap.size w w') : AllPost S y w (.returned (.tuple #[.slice none 0 0, .int .i64 x])) w' := by
  subst hS hx; exact ⟨none, 0, [], rfl, rfl, World.ownsRow_nil _ _ _ _, SetsNew.nil _ _ _, hb, .nil, by simp⟩
theorem allPost_mk {S : List (List It)} {x y : Int} {w w' : World} {A : Option Addr} {k : Nat} {LL : List LR} (hx : y = x) (h1 : setsOf LL = S) (h2 : w'.ownsRow w.heap.size 22 1 (.slice A LL.length k) LL.length (llcells LL)) (h3 : SetsNew w' w.heap.size (.slice A LL.length k) LL) (h4 : Below w.heap.size w w') (h5 : LL.Pairwise Apart) (h6 : LL.length ≤ 30) : AllPost S y w (.returned (.tuple #[.slice A LL.length k, .int .i64 x])) w' := by
  subst hx; exact ⟨A, k, LL, rfl, h1, h2, h3, h4, h5, h6⟩
theorem setsOf_snoc (LL : List LR) (x : LR) : setsOf (LL ++ [x]) = setsOf LL ++ [its x.L] := List.map_append
theorem llcells_snoc (LL : List LR) (x : LR) : llcells (LL ++ [x]) = llcells LL ++ [.slice x.A x.L.length x.k] := by
  rw [llcells, List.flatMap_append]; rfl
theorem SetsNew.snoc {w : World} {lo : Nat} {v : Value} {LL : List LR} (h : SetsNew w lo v LL) {x : LR} (h1 : w.ownsRow lo 28 2 (.slice x.A x.L.length x.k) x.L.length (rcells x.L)) (h2 : RowsNew w lo (.slice x.A x.L.length x.k) x.L) (h3 : ∀ g, (Value.slice x.A x.L.length x.k).ownBlock = some g → some g ≠ v.ownBlock) (h4 : ∀ y ∈ x.L, ∀ b off q, y.A = some ⟨b, off, q⟩ → some b ≠ v.ownBlock) : SetsNew w lo v (LL ++ [x]) := fun y hy => by
  rcases List.mem_append.1 hy with e | e
  · exact h y e
  · rw [List.mem_singleton.1 e]; exact ⟨h1, h2, h3, h4⟩

theorem bound_of {A : List It} (h : setI A = 0) : ∀ y ∈ A, y.1.length ≤ 8 ∧ (∀ z ∈ y.1, -1073741824 ≤ z ∧ z ≤ 1073741824) ∧ -1048576 ≤ y.2 ∧ y.2 ≤ 1048576 := fun y hy => badB_bound ((setI_zero.1 h).2.1 y hy)
theorem stepOk_of {s : St} {V : List Int} {out : List (List It)} (h : stW s V ≠ 0) (ho : OkOut out V) (k : s.kind ≠ 1) : 0 ≤ s.a ∧ s.a < out.length ∧ 0 ≤ s.b ∧ s.b < out.length ∧ StepOk s (out.getD s.a.toNat []) (out.getD s.b.toNat []) := by
  rcases stW_ok h with ⟨k1, -⟩ | ⟨a0, a1, b0, b1, hk⟩
  · exact absurd k1 k
  · obtain ⟨sA, hA⟩ := ho.get a0 a1
    obtain ⟨sB, hB⟩ := ho.get b0 b1
    have bA := bound_of sA
    have bB := bound_of sB
    rw [ho.1]
    refine ⟨a0, a1, b0, b1, ⟨fun k2 => ?_, fun k3 => ?_, fun k6 y hy => (bB y hy).2.2⟩, fun k4 => ?_, fun k89 => ?_⟩
    · rcases hk with ⟨q, hk⟩ | ⟨q, hk⟩ | ⟨q, hk⟩ | ⟨q, hk⟩ | q | ⟨q, hk⟩ | ⟨q, hk⟩ <;> try omega
      exact ⟨hk.1, fun y hy => by have := hA y hy; omega⟩
    · rcases hk with ⟨q, hk⟩ | ⟨q, hk⟩ | ⟨q, hk⟩ | ⟨q, hk⟩ | q | ⟨q, hk⟩ | ⟨q, hk⟩ <;> try omega
      exact ⟨hk.1, fun n hn => ⟨(hk.2 n hn).1, fun y hy => by have := hA y hy; have := (hk.2 n hn).2; omega⟩⟩
    · rcases hk with ⟨q, hk⟩ | ⟨q, hk⟩ | ⟨q, hk⟩ | ⟨q, hk⟩ | q | ⟨q, hk⟩ | ⟨q, hk⟩ <;> try omega
      exact ⟨hk.1, hk.2.2.1, fun y hy => ⟨by have := hA y hy; omega, bA y hy⟩, fun y hy => ⟨by have := hB y hy; omega, bB y hy⟩⟩
    · rcases hk with ⟨q, hk⟩ | ⟨q, hk⟩ | ⟨q, hk⟩ | ⟨q, hk⟩ | q | ⟨q, hk⟩ | ⟨q, hk⟩ <;> try omega
      · exact ⟨hk.1, fun k9 => by omega, fun y hy => ⟨by have := hA y hy; omega, fun k9 => by omega, (bA y hy).2⟩⟩
      · exact ⟨hk.1, fun k9 => hk.2.2.1, fun y hy => ⟨by have := hA y hy; omega, fun k9 => by have := hA y hy; omega, (bA y hy).2⟩⟩
theorem atL_len {s : St} {V : List Int} {out : List (List It)} {ta tb : List It} (h : stW s V ≠ 0) (ho : OkOut out V) (la : ta.length ≤ 400) (lb : tb.length ≤ 400) : (atL ta tb s out).length ≤ 160000 := by
  unfold atL
  by_cases k : s.kind = 1
  · rw [if_pos k]; split <;> omega
  · rw [if_neg k]
    rcases stW_ok h with ⟨k1, -⟩ | ⟨a0, a1, b0, b1, hk⟩
    · exact absurd k1 k
    · exact stL_len s (set_len (ho.get a0 a1).1) (set_len (ho.get b0 b1).1)
theorem stW_le {s : St} {V : List Int} (h : stW s V ≠ 0) (hV : ∀ v ∈ V, v ≤ 8) : stW s V ≤ 8 := by
  rw [stW_val h]
  have hg : ∀ i : Nat, V.getD i 0 ≤ 8 := fun i => by
    rw [List.getD_eq_getElem?_getD]
    cases e : V[i]? with
    | none => simp
    | some v => simpa using hV v (List.mem_of_getElem? e)
  unfold wv
  rcases stW_ok h with ⟨k1, -⟩ | ⟨a0, a1, b0, b1, hk⟩
  · rw [if_pos k1]; omega
  · have := hg s.a.toNat
    rcases hk with ⟨q, hk⟩ | ⟨q, hk⟩ | ⟨q, hk⟩ | ⟨q, hk⟩ | q | ⟨q, hk⟩ | ⟨q, hk⟩ <;> (repeat' split) <;> omega
theorem setsOf_getD {LL : List LR} {i : Nat} (h : i < LL.length) : (setsOf LL).getD i [] = its LL[i].L := by
  rw [List.getD_eq_getElem?_getD, setsOf, List.getElem?_map, List.getElem?_eq_getElem h]; rfl
end Go.Proofs.Ytmcdaibdpeeefaa
/- plain.All, the walk. -/
namespace Go.Proofs.Ytmcdaibdpeeefaa
set_option linter.unusedVariables false
set_option linter.unusedSimpArgs false
open Go.ChangeShapes Go.WideShapes Go.ChangeAt Go.RowKit

set_option maxHeartbeats 1000000 in
set_option maxRecDepth 100000 in
theorem all_any (L : List SR) (M1 M2 : List IR) (A0 A1 A2 : Option Addr) (c0 c1 c2 : Nat) (w : World) (h0 : RowS w w.heap.size A0 L) (l0 : L.length ≤ 9223372036854775807) (h1 : RowI w w.heap.size A1 M1) (l1 : M1.length ≤ 9223372036854775807) (h2 : RowI w w.heap.size A2 M2) (l2 : M2.length ≤ 9223372036854775807) :
    Calls Try.prog 20 #[.slice A0 L.length c0, .slice A1 M1.length c1, .slice A2 M2.length c2] w (AllPost (allX (sts L) (its M1) (its M2)) (allE (sts L) (its M1) (its M2)) w) := by
  have HBS := hid (bases_any L M1 M2 A0 A1 A2 c0 c1 c2 w h0 l0 h1 l1 h2 l2)
  have HE := hid (show allE (sts L) (its M1) (its M2) = if basesE (sts L) (its M1) (its M2) ≠ 0 then basesE (sts L) (its M1) (its M2) else (setsG (its M1) (its M2) (sts L) []).1 from rfl)
  have HX := hid (show allX (sts L) (its M1) (its M2) = if allE (sts L) (its M1) (its M2) = 0 then (setsG (its M1) (its M2) (sts L) []).2 else [] from rfl)
  obtain ⟨E, hE⟩ : ∃ q, q = allE (sts L) (its M1) (its M2) := ⟨_, rfl⟩
  obtain ⟨X, hX⟩ : ∃ q, q = allX (sts L) (its M1) (its M2) := ⟨_, rfl⟩
  obtain ⟨EB, hEB⟩ : ∃ q, q = basesE (sts L) (its M1) (its M2) := ⟨_, rfl⟩
  have HEB := hid hEB
  rw [← hE] at HE HX
  rw [← hX] at HX
  rw [← hEB] at HE HBS
  rw [← hE, ← hX]
  have HR := hid h0
  have HR1 := hid h1
  have HR2 := hid h2
  clear hE hX hEB h0 h1 h2
  go_enter Try.func20, Try.ntmps20
  go_wp2_with fail
  refine HBS.out.mono ?_
  rintro e w1 ⟨rfl, hb1⟩
  have HB1 := hid hb1
  clear hb1 HBS
  by_cases q0 : EB = 0
  rotate_left
  · have t1 : (EB != 0) = true := by simpa using q0
    have HE1 := hid (show E = EB by rw [HE.out, if_pos q0])
    have HQ := hid q0
    clear q0
    go_wp2_with fail
    go_ret2
    exact allPost_nil (by rw [HX.out, if_neg (by rw [HE1.out]; exact HQ.out)]) HE1.out HB1.out
  subst q0
  replace HE : Hid (E = (setsG (its M1) (its M2) (sts L) []).1) := hid (by rw [HE.out, if_neg (by simp)])
  obtain ⟨z1, z2, z3, z4, z5⟩ := basesE_zero.1 HEB.out.symm
  obtain ⟨z6, z7, Wf, z8⟩ := queryE_zero.1 z1
  have hL8 : L.length ≤ 8 := by simpa [sts] using z7
  have hM1 := len_set z2
  have hM2 := len_set z3
  have H4 := hid (And.intro z4 z5)
  have HLA := hid (show (its M1).length ≤ 400 from set_len z2)
  have HLB := hid (show (its M2).length ≤ 400 from set_len z3)
  have HW0 := hid z8
  clear z1 z2 z3 z4 z5 z6 z7 z8 HEB
  go_wp2_with fail
  -- STOP-a
  go_loopw [9, 24] (fun s9 s24 wr => ∃ (i : Nat) (LL : List LR) (V : List Int), i ≤ L.length ∧ s24 = .int .i64 i ∧ LL.length = i ∧ Hid (widsL (sts (L.drop i)) V = some Wf ∧ ∀ v ∈ V, v ≤ 8) ∧ Hid (OkOut (setsOf LL) V) ∧ Hid (setsG (its M1) (its M2) (sts (L.drop i)) (setsOf LL) = setsG (its M1) (its M2) (sts L) []) ∧ Hid (wr.ownsRow w1.heap.size 22 1 s9 LL.length (llcells LL)) ∧ Hid (SetsNew wr w1.heap.size s9 LL) ∧ Hid (Below w1.heap.size w1 wr) ∧ Hid (LL.Pairwise Apart)) (fun _ s24 _ => L.length - (intOf s24).toNat)
  case atStart => exact ⟨0, [], [], by omega, rfl, rfl, hid ⟨by rw [List.drop_zero]; exact HW0.out, by simp⟩, hid okOut_nil, hid (by rw [List.drop_zero]; rfl), hid (World.ownsRow_nil _ _ _ _), hid (SetsNew.nil _ _ _), hid (Below.refl _ _), hid .nil⟩
  case round =>
    obtain ⟨i, LL, V, hi, rfl, hLL, HWV, HOK, HSG, HOWN, HNEW, HB, HAPT⟩ := hrel
    obtain ⟨A9, c9, rfl⟩ := own_formS HOWN.out
    have hsw := HB.out.size
    have HBW := hid (Below.step' HB1.out HB.out)
    have HLL := hid hLL
    have hLL1 : LL.length ≤ i := by omega
    clear hLL
    by_cases hlt : i < L.length
    · have HRS := hid (HR.out.step HBW.out)
      obtain ⟨b, off, rfl, hb, e0, e1, e2, e3, e4, e5, e6⟩ := HRS.out.1.sr hlt
      have HRX := hid (HRS.out.2 L[i] (List.getElem_mem hlt))
      have hdr : sts (L.drop i) = L[i].st :: sts (L.drop (i + 1)) := by rw [List.drop_eq_getElem_cons hlt]; rfl
      obtain ⟨hWV, hV8⟩ := HWV.out
      rw [hdr] at hWV
      obtain ⟨y1, y2⟩ := widsL_cons hWV
      have HWN := hid y2
      have HSG' := HSG.out
      rw [hdr, setsG] at HSG'
      have HSN := hid HSG'
      have HSO := hid (fun k => stepOk_of y1 HOK.out k)
      have HAL := hid (atL_len y1 HOK.out HLA.out HLB.out)
      have HAW := hid (atL_wide y1 HOK.out H4.out.1 H4.out.2)
      have HV8 := hid (show ∀ v ∈ V ++ [stW L[i].st V], v ≤ 8 from fun v hv => by
        rcases List.mem_append.1 hv with q | q
        · exact hV8 v q
        · rw [List.mem_singleton.1 q]; exact stW_le y1 hV8)
      have HKA := hid (show L[i].st.kind = 1 → L[i].st.a = 0 ∨ L[i].st.a = 1 from fun k => by
        rcases stW_ok y1 with ⟨-, q⟩ | ⟨-, -, -, -, hk⟩
        · exact q
        · omega)
      clear hdr hWV hV8 y1 y2 HSG' HSG HWV
      generalize L[i] = x at *
      generalize stW x.st V = v at *
      obtain ⟨ST, hST⟩ : ∃ q, q = x.st := ⟨_, rfl⟩
      obtain ⟨⟨sk, sa, sb, sc, so, sv, sl⟩, sA, sK⟩ := x
      simp only at e0 e1 e2 e3 e4 e5 e6 HRX HKA HSO hST
      rw [← hST] at HSN HSO HAL HAW
      have HST := hid hST
      clear hST
      have hneb : (b = wr.heap.size) = False := by simp; omega
      obtain ⟨wo, rfl⟩ : ∃ wx : World, wx = wr := ⟨_, rfl⟩
      obtain ⟨W2, hW2⟩ : ∃ W2 : World, W2 = wo.alloc (.cells #[.int .i64 sk, .int .i64 sa, .int .i64 sb, .int .i64 sc, .int .i64 so, .int .i64 sv, .slice sA sl.length sK] 49) := ⟨_, rfl⟩
      have HX2 := hid (show Blk W2 wo.heap.size #[.int .i64 sk, .int .i64 sa, .int .i64 sb, .int .i64 sc, .int .i64 so, .int .i64 sv, .slice sA sl.length sK] 49 by rw [hW2]; exact Blk.new _ _ _)
      have HBO := hid (show Below wo.heap.size wo W2 by rw [hW2]; exact alloc_below (Below.refl _ _) _)
      go_upto_block 2 with fail
      -- STOP-b
      rw [← hW2]
      clear hW2 e0 e1 e2 e3 e4 e5 e6
      obtain ⟨cHX2, fHX2, sHX2, nHX2⟩ := HX2.out.all
      try simp only [cbox] at cHX2
      go_cut [12] from 28 to 49 (fun s12 wx => ∃ A M k, s12 = .slice A M.length k ∧ Hid ((its M).Perm (atL (its M1) (its M2) ST (setsOf LL))) ∧ Hid (RowI wx wx.heap.size A M) ∧ Hid (Below W2.heap.size W2 wx))
      case first =>
        obtain ⟨cx, fx, sx, nx⟩ := HX2.out.all
        by_cases k1 : sk = 1
        · have t1 : (sk != 1) = false := by simp [k1]
          have HAT := hid (show atL (its M1) (its M2) ST (setsOf LL) = if sa = 0 then its M1 else its M2 by rw [HST.out, atL, if_pos k1])
          clear k1
          by_cases k2 : sa = 0
          · have t2 : (sa == 0) = true := by simp [k2]
            have HK2 := hid k2
            clear k2
            go_wp2_with fail
            go_meet
            case rel => exact ⟨A1, M1, c1, rfl, hid (by rw [HAT.out, if_pos HK2.out]), hid (HR1.out.step (Below.step' HBW.out HBO.out)), hid (Below.refl _ _)⟩
          · have t2 : (sa == 0) = false := by simp [k2]
            have HK2 := hid k2
            clear k2
            go_wp2_with fail
            go_meet
            case rel => exact ⟨A2, M2, c2, rfl, hid (by rw [HAT.out, if_neg HK2.out]), hid (HR2.out.step (Below.step' HBW.out HBO.out)), hid (Below.refl _ _)⟩
        · have t1 : (sk != 1) = true := by simpa using k1
          have hKN : ST.kind ≠ 1 := by rw [HST.out]; exact k1
          have HAT := hid (show atL (its M1) (its M2) ST (setsOf LL) = stL ST ((setsOf LL).getD sa.toNat []) ((setsOf LL).getD sb.toNat []) by rw [atL, if_neg hKN, HST.out])
          obtain ⟨a0, a1, b0, b1, hok⟩ := HSO.out k1
          rw [setsOf_len] at a1 b1
          obtain ⟨ja, hja⟩ : ∃ j : Nat, (j : Int) = sa := ⟨sa.toNat, by omega⟩
          obtain ⟨jb, hjb⟩ : ∃ j : Nat, (j : Int) = sb := ⟨sb.toNat, by omega⟩
          have hla : ja < LL.length := by omega
          have hlb : jb < LL.length := by omega
          have eA : sa.toNat = ja := by omega
          have eB : sb.toNat = jb := by omega
          rw [eA, eB, setsOf_getD hla, setsOf_getD hlb] at hok HAT
          obtain ⟨bo, oo, rfl, hbo, ga⟩ := (Row.of_ownS HOWN.out).lr hla
          obtain ⟨bo', oo', hA9, hbo', gb⟩ := (Row.of_ownS HOWN.out).lr hlb
          injection hA9 with hA9
          injection hA9 with hA9 hA9'
          subst hA9 hA9'
          have SA := HNEW.out.rows _ (List.getElem_mem hla)
          have SB := HNEW.out.rows _ (List.getElem_mem hlb)
          have LA : LL[ja].L.length ≤ 400 := by
            have := (HOK.out.2 ja (by rw [setsOf_len]; exact hla)).1
            rw [setsOf_getD hla] at this
            exact len_set this
          have LB : LL[jb].L.length ≤ 400 := by
            have := (HOK.out.2 jb (by rw [setsOf_len]; exact hlb)).1
            rw [setsOf_getD hlb] at this
            exact len_set this
          generalize LL[ja] = RA at *
          generalize LL[jb] = RB at *
          obtain ⟨MA, AA, kA⟩ := RA
          obtain ⟨MB, AB, kB⟩ := RB
          simp only at SA SB LA LB ga gb hok HAT
          have HSA := hid SA
          have HSB := hid SB
          have HOKS := hid hok
          have hga := ((bcell HBO.out).1 bo _ hbo).trans ga
          have hgb := ((bcell HBO.out).1 bo _ hbo).trans gb
          have HCS := hid (fun w3 (hb : Below W2.heap.size W2 w3) => step_any ⟨⟨sk, sa, sb, sc, so, sv, sl⟩, sA, sK⟩ MA MB AA AB kA kB w3 (HRX.out.1.step (Below.step' HBO.out hb)) (HSA.out.step (Below.step' HBO.out hb)) LA (HSB.out.step (Below.step' HBO.out hb)) LB (by have := HOKS.out; rw [HST.out] at this; exact this))
          have hbo2 : bo < W2.heap.size := Nat.lt_of_lt_of_le hbo HBO.out.size
          clear SA SB hok ga gb eA eB hKN k1 hbo'
          subst hja hjb
          go_upto_region 11 with fail
          refine region_tail 11 (by kernel_rfl) (by kernel_rfl) ?_
          simp only [List.take_succ_cons, List.take_zero, List.drop_succ_cons, List.drop_zero]
          repeat still_step
          refine wpStill_nil ?_
          go_wp2_with fail
          -- STOP-c
          refine (HCS.out _ (Below.drew (Below.refl _ _))).mono ?_
          rintro e w3 ⟨A12, k12, M12, rfl, hperm, hrow, hb3⟩
          have HPM := hid hperm
          have HRW := hid hrow
          have HB3 := hid hb3
          clear hperm hrow hb3 HCS
          go_wp2_with fail
          go_meet
          case rel => exact ⟨A12, M12, k12, rfl, hid (by rw [HAT.out, HST.out]; exact HPM.out), HRW, hid (Below.step' (Below.drew (Below.refl _ _)) HB3.out)⟩
      case rest =>
        obtain ⟨A12, M12, k12, rfl, HPM, HRW, HB3⟩ := hcut
        have HB4 := hid (Below.step' HBO.out HB3.out)
        have HO4 := hid (own_laterS HOWN.out HB4.out)
        have HN4 := hid (HNEW.out.step HB4.out)
        clear HX2
        obtain ⟨w4, rfl⟩ : ∃ wx : World, wx = wc := ⟨_, rfl⟩
        -- STOP-d
        have hlM : M12.length ≤ 160000 := by
          rw [← its_len M12, HPM.out.length_eq]
          exact HAL.out
        have hS : sumL (its M12) = sumL (atL (its M1) (its M2) ST (setsOf LL)) := sumL_perm HPM.out
        have HLEN := hid (show ∀ y ∈ M12, (y.row.length : Int) = v from fun y hy => HAW.out _ (HPM.out.mem_iff.1 (List.mem_map.2 ⟨y, hy, rfl⟩)))
        have hv8 : v ≤ 8 := HV8.out v (by simp)
        have HSM : Hid (∀ w5, Below w4.heap.size w4 w5 → ∀ A3, Row w5 w5.heap.size A3 [.slice A12 M12.length k12] → Calls Try.prog 36 #[.slice A3 1 1] w5 (ItsPost (sumL (its M12)) w5)) := hid (fun w5 hb A3 h => by
          have := sum_any [⟨M12, A12, k12⟩] A3 1 w5 (by simpa using h) (fun x hx => by
            simp only [List.mem_cons, List.not_mem_nil, or_false] at hx
            subst hx
            exact HRW.out.step hb) (by simp; omega) (by simp) (fun x hx => by
            simp only [lrs, List.flatMap_cons, List.flatMap_nil, List.append_nil] at hx
            have := HLEN.out x hx
            omega)
          simpa using this)
        rw [hS] at HSM
        generalize hSS : sumL (atL (its M1) (its M2) ST (setsOf LL)) = SS at *
        clear hS
        have HSS := hid hSS
        clear hSS
        go_wp2_with fail
        -- STOP-e
        refine (HSM.out _ (alloc_below (Below.refl _ _) _) _ (Row.new' _ _ _ rfl rfl (by simp))).mono ?_
        rintro e w5 ⟨A3, k3, M3, rfl, hits, hown, hnew, hb5⟩
        have hB5 : Below w4.heap.size w4 w5 := (by refine Below.step' ?_ hb5; (repeat' (first | (with_reducible exact Below.refl _ _) | (with_reducible assumption) | (with_reducible refine below_drewN ?_ _) | (with_reducible refine Below.drew ?_) | (with_reducible refine Below.alloc ?_ ?_ _) | (with_reducible refine Below.setCell ?_ ?_ _) | (refine Below.trans ?_ (Below.mono (by assumption) ?_)) | go_size)))
        have hs4 : wo.heap.size ≤ w4.heap.size := HB4.out.size
        have HIT := hid hits
        have HOW := hid (own_baseS hown (show w4.heap.size ≤ _ by simp))
        have HNW : Hid (RowsNew w5 w4.heap.size (.slice A3 M3.length k3) M3) := hid (fun x hx => by
          obtain ⟨q1, q2, q3, q4⟩ := hnew x hx
          exact ⟨q1, newAt_le q2 (by simp), q3, q4⟩)
        have hl3 : M3.length ≤ 160000 := by
          rw [← its_len M3, hits, ← HSS.out]
          exact Nat.le_trans (sumL_len _) HAL.out
        have hdn := done_any M3 A3 k3 w5 (Row.of_ownS hown) hnew.rows (by omega)
        rw [hits] at hdn
        have HDN := hid hdn
        have HB5 := hid hB5
        have HO5 := hid (own_laterS HO4.out hB5)
        have HN5 := hid (HN4.out.step hB5)
        obtain ⟨ED, hED⟩ : ∃ q, q = doneE SS := ⟨_, rfl⟩
        have HED := hid hED
        rw [← hED] at HDN HSN
        clear hits hown hnew hb5 hB5 hdn HSM hED
        go_wp2_with fail
        -- STOP-f
        refine HDN.out.mono ?_
        rintro e w6 ⟨rfl, hb6⟩
        have HB6 := hid hb6
        have HO6 := hid (own_laterS HO5.out hb6)
        have HN6 := hid (HN5.out.step hb6)
        have HOS6 := hid (own_laterS HOW.out hb6)
        have HNS6 := hid (HNW.out.step hb6)
        have HBA := hid (Below.step' (Below.step' HBW.out HB4.out) (Below.step' HB5.out hb6))
        have HBL := hid (Below.step' (Below.step' HB.out HB4.out) (Below.step' HB5.out hb6))
        have hs6 := HBL.out.size
        clear hb6 HDN HO5 HN5
        by_cases hz : ED = 0
        · have HZ := hid hz
          rw [if_pos hz]
          have hzb : (ED != 0) = false := by simp [hz]
          have HSN2 := hid (show setsG (its M1) (its M2) (sts (L.drop (i + 1))) (setsOf LL ++ [SS]) = setsG (its M1) (its M2) (sts L) [] by have := HSN.out; rwa [if_neg (by simp [hz])] at this)
          clear hz HSN
          have hone : ∀ u ∈ ([.slice A3 M3.length k3] : List Value), u.oneCell' = true := by
            intro u hu
            simp only [List.mem_cons, List.not_mem_nil, or_false] at hu
            subst hu; rfl
          go_wp2_with (at_builtin; refine wpList_append_row elem_sets rfl _ _ rfl w1.heap.size _ _ _ rfl (HO6.out.alloc _) (some ⟨w6.heap.size, 0, none⟩) 1 1 (w6.heap.size + 1) [.slice A3 M3.length k3] rfl rfl (Row.new' _ _ _ rfl rfl (Nat.lt_succ_self _)) hone ?_ ?_ ?_ ?_; rotate_right; intro v7 w7 hown7 hg7 hif7; rotate_left; (simp only [maxLen]; omega); (omega); (simp; omega))
          -- STOP-g
          have HOW7 := hid hown7
          have HG7 := hid hg7
          have HIF := hid hif7
          clear hown7 hg7 hif7 hone hs6 hs4
          go_roundw
          case rel =>
            have hNA := (HN6.out.step (alloc_below (Below.refl _ _) (.cells #[.slice A3 M3.length k3] 22))).grown HG7.out HIF.out
            have hsz6 := (Below.step' HB5.out HB6.out).size
            have hsz7 := HG7.out.size
            simp at hsz7
            refine ⟨i + 1, LL ++ [⟨M3, A3, k3⟩], V ++ [v], by omega, by go_num, by simp; exact HLL.out, hid ⟨HWN.out, HV8.out⟩, hid ?_, hid ?_, hid ?_, hid ?_, hid (Below.grown (alloc_below HBL.out _) HG7.out (by have := HBL.out.size; simp; omega) (fun g e => (HO6.out.lt g e).1)), hid (HN4.out.apart (Nat.le_refl _) HAPT.out (own_newS HOS6.out (Nat.le_refl _)) (fun z hz => (HNS6.out z hz).2.1))⟩
            · rw [setsOf_snoc]
              refine HOK.out.snoc ?_ fun y hy => ?_
              · rw [HIT.out, ← HSS.out]
                exact done_set (by rw [HSS.out, ← HED.out]; exact HZ.out)
              · simp only at hy
                rw [HIT.out, ← HSS.out] at hy
                obtain ⟨z, hz, e2⟩ := sumL_mem hy
                rw [← e2]
                exact HAW.out z hz
            · rw [setsOf_snoc, HIT.out]; exact HSN2.out
            · rw [llcells_snoc, List.length_append]
              simpa using HOW7.out
            · have hap := alloc_below (Below.refl w6.heap.size w6) (.cells #[.slice A3 M3.length k3] 22)
              have hOA := own_laterS HOS6.out hap
              have hNB := HNS6.out.step hap
              have hb4w := HBL.out.size
              have hold : ∀ g, w4.heap.size ≤ g → g < w6.heap.size → some g ≠ _ := fun g q1 q2 e2 => by
                have := (HO4.out.lt g e2.symm).2
                omega
              have hne : ∀ g, w4.heap.size ≤ g → g < w6.heap.size → some g ≠ v7.ownBlock := fun g q1 q2 => by
                rcases HIF.out with q | q
                · rw [q]; exact hold g q1 q2
                · rw [q]; intro e2; injection e2 with e2; simp at e2; omega
              have hsA : w1.heap.size ≤ w4.heap.size := (Below.step' HB.out HB4.out).size
              refine SetsNew.snoc hNA (x := (⟨M3, A3, k3⟩ : LR)) (own_baseS (own_ne_grown hOA HG7.out fun g e => ?_) hsA) (fun y hy => ?_) (fun g e => ?_) (fun y hy b off q e => ?_)
              · have := HOS6.out.lt g e
                exact hold g this.1 this.2
              · have hy2 := (hNB.grownNe HG7.out (fun z hz b off q e => hold b ((HNS6.out z hz).2.1 b off q e) ((HNS6.out z hz).2.2.1 b off q e).2)) y hy
                exact ⟨hy2.1, newAt_le hy2.2.1 hsA, hy2.2.2⟩
              · have := HOS6.out.lt g e
                exact hne g this.1 this.2
              · exact hne b ((HNS6.out y hy).2.1 b off q e) ((HNS6.out y hy).2.2.1 b off q e).2
          case measure => simp [intOf]; omega
        · have HZ := hid hz
          rw [if_neg hz]
          have hzb : (ED != 0) = true := by simpa using hz
          have HSN2 := hid (show setsG (its M1) (its M2) (sts L) [] = (ED, []) by have := HSN.out; rw [if_pos hz] at this; exact this.symm)
          clear hz HSN
          go_wp2_with fail
          -- STOP-h
          go_ret2
          refine allPost_nil ?_ ?_ HBA.out
          · rw [HX.out, HE.out, HSN2.out, if_neg HZ.out]
          · rw [HE.out, HSN2.out]
    · have hik : i = L.length := by omega
      subst hik
      have HS0 := hid (show setsG (its M1) (its M2) (sts L) [] = (0, setsOf LL) by have := HSG.out; rw [List.drop_length] at this; exact this.symm)
      go_wp2_with fail
      -- STOP-i
      go_ret2
      have hE0 : E = 0 := by rw [HE.out, HS0.out]
      refine allPost_mk hE0 ?_ (own_baseS HOWN.out HB1.out.size) (fun x hx => ?_) HBW.out HAPT.out (by have := HLL.out; omega)
      · rw [HX.out, if_pos hE0, HS0.out]
      · obtain ⟨q1, q2, q3, q4⟩ := HNEW.out x hx
        exact ⟨own_baseS q1 HB1.out.size, fun y hy => ⟨(q2 y hy).1, newAt_le (q2 y hy).2.1 HB1.out.size, (q2 y hy).2.2⟩, q3, q4⟩
end Go.Proofs.Ytmcdaibdpeeefaa
/- plain.Eval. -/
namespace Go.Proofs.Ytmcdaibdpeeefaa
set_option linter.unusedVariables false
set_option linter.unusedSimpArgs false
open Go.ChangeShapes Go.WideShapes Go.ChangeAt Go.RowKit

theorem itsErr_mk {S : List It} {x y : Int} {w w' : World} {A : Option Addr} {k : Nat} {M : List IR} (hx : y = x) (h1 : its M = S) (h2 : w'.ownsRow w.heap.size 28 2 (.slice A M.length k) M.length (rcells M)) (h3 : RowsNew w' w.heap.size (.slice A M.length k) M) (h4 : Below w.heap.size w w') : ItsErr S y w (.returned (.tuple #[.slice A M.length k, .int .i64 x])) w' := by
  subst hx; exact ⟨A, k, M, rfl, h1, h2, h3, h4⟩

set_option maxHeartbeats 1000000 in
set_option maxRecDepth 100000 in
theorem eval_any (L : List SR) (M1 M2 : List IR) (A0 A1 A2 : Option Addr) (c0 c1 c2 : Nat) (w : World) (h0 : RowS w w.heap.size A0 L) (l0 : L.length ≤ 9223372036854775807) (h1 : RowI w w.heap.size A1 M1) (l1 : M1.length ≤ 9223372036854775807) (h2 : RowI w w.heap.size A2 M2) (l2 : M2.length ≤ 9223372036854775807) :
    Calls Try.prog 22 #[.slice A0 L.length c0, .slice A1 M1.length c1, .slice A2 M2.length c2] w (ItsErr (evalX (sts L) (its M1) (its M2)) (allE (sts L) (its M1) (its M2)) w) := by
  have HAL := hid (all_any L M1 M2 A0 A1 A2 c0 c1 c2 w h0 l0 h1 l1 h2 l2)
  have HOK := hid (fun h : allE (sts L) (its M1) (its M2) = 0 => all_ok h)
  have HX := hid (show evalX (sts L) (its M1) (its M2) = (allX (sts L) (its M1) (its M2)).getLastD [] from rfl)
  have HN := hid (show allE (sts L) (its M1) (its M2) ≠ 0 → allX (sts L) (its M1) (its M2) = [] from fun h => by unfold allX; rw [if_neg h])
  obtain ⟨E, hE⟩ : ∃ q, q = allE (sts L) (its M1) (its M2) := ⟨_, rfl⟩
  obtain ⟨X, hX⟩ : ∃ q, q = allX (sts L) (its M1) (its M2) := ⟨_, rfl⟩
  obtain ⟨Y, hY⟩ : ∃ q, q = evalX (sts L) (its M1) (its M2) := ⟨_, rfl⟩
  rw [← hX, ← hE] at HAL HN
  rw [← hX, ← hE] at HOK
  rw [← hX, ← hY] at HX
  rw [← hY, ← hE]
  clear hX hE hY h0 h1 h2
  go_enter Try.func22, Try.ntmps22
  go_wp2_with fail
  refine HAL.out.mono ?_
  rintro e w1 ⟨A9, c9, LL, rfl, hS, hown, hnew, hb1, -, -⟩
  have HS := hid hS
  have HOW := hid hown
  have HNW := hid hnew
  have HB := hid hb1
  clear hS hown hnew hb1 HAL
  by_cases q0 : E = 0
  rotate_left
  · have t1 : (E != 0) = true := by simpa using q0
    have HY0 := hid (show Y = [] by rw [HX.out, HN.out q0]; rfl)
    clear q0
    go_wp2_with fail
    go_ret2
    exact itsErr_nil' HY0.out rfl HB.out
  · subst q0
    obtain ⟨Wf, -, -, o3, o4⟩ := HOK.out rfl
    have hlen : LL.length = X.length := by rw [← setsOf_len, HS.out]
    obtain ⟨j, hj⟩ : ∃ j : Nat, j + 1 = LL.length := ⟨LL.length - 1, by omega⟩
    have hjl : j < LL.length := by omega
    obtain ⟨bo, oo, rfl, hbo, ga⟩ := (Row.of_ownS HOW.out).lr hjl
    have HR := hid (HNW.out _ (List.getElem_mem hjl))
    have HY1 := hid (show its LL[j].L = Y by
      rw [HX.out, ← HS.out, ← getD_last _ _ (by rw [setsOf_len]; omega), setsOf_len, show LL.length - 1 = j by omega, setsOf_getD hjl])
    generalize LL[j] = R at *
    obtain ⟨M, A, k⟩ := R
    simp only at ga HR HY1
    have hw : IntKind.i64.wrap ((LL.length : Int) - 1) = (j : Int) := by
      have : (sts L).length = L.length := List.length_map ..
      rw [IntWalk.i64_in _ (by omega)]; omega
    have hjl' : (j : Int) < (LL.length : Int) := by omega
    clear hlen o3 o4 hj
    go_wp2_with fail
    -- STOP-a
    go_ret2
    exact itsErr_mk rfl HY1.out HR.out.1 HR.out.2.1 HB.out
end Go.Proofs.Ytmcdaibdpeeefaa
/- The constant query of counted. No program in sight. -/
namespace Go.Proofs.Ytmcdaibdpeeefaa
set_option linter.unusedVariables false
set_option linter.unusedSimpArgs false
def cq : List St := [⟨1, 0, 0, 0, 0, 0, []⟩, ⟨8, 0, 0, 1, 0, 0, []⟩]
def cs : List It := [([1, 5, 0, 0], 1), ([2, 5, 0, 0], 1)]
theorem cq_e : basesE cq cs [] = 0 := by decide +kernel
theorem cs_g : stL ⟨8, 0, 0, 1, 0, 0, []⟩ cs cs = [([5, 2], 1)] := by decide +kernel
theorem cs_d : setI cs = 0 := by decide +kernel
theorem cs_d2 : setI [([5, 2], 1)] = 0 := by decide +kernel
theorem cs_s : sumL cs = cs := (sumL_eq (setI_zero.1 cs_d).2.2 fun r => rfl).symm
theorem cs_s2 : sumL [([5, 2], 1)] = [([5, 2], 1)] := (sumL_eq (setI_zero.1 cs_d2).2.2 fun r => rfl).symm
theorem counted_s : setsG cs [] cq [] = (0, [cs, [([5, 2], 1)]]) := by
  have e1 : atL cs [] ⟨1, 0, 0, 0, 0, 0, []⟩ [] = cs := rfl
  have e2 : atL cs [] ⟨8, 0, 0, 1, 0, 0, []⟩ [cs] = [([5, 2], 1)] := cs_g
  have d1 : doneE cs = 0 := by decide +kernel
  have d2 : doneE [([5, 2], 1)] = 0 := by decide +kernel
  rw [cq, setsG, e1, cs_s, if_neg (by rw [d1]; simp), List.nil_append, setsG, e2, cs_s2, if_neg (by rw [d2]; simp), setsG]
  rfl
theorem counted_E : allE cq cs [] = 0 := allE_zero.2 ⟨cq_e, by rw [counted_s]⟩
theorem counted_X : evalX cq cs [] = [([5, 2], 1)] := by
  rw [evalX, allX_zero counted_E, counted_s]; rfl
#print axioms counted_X
end Go.Proofs.Ytmcdaibdpeeefaa
/- viewkeep.counted. -/
namespace Go.Proofs.Ytmcdaibdpeeefaa
set_option linter.unusedVariables false
set_option linter.unusedSimpArgs false
open Go.ChangeShapes Go.WideShapes Go.ChangeAt Go.RowKit

theorem RowI.nil' (w : World) (A : Option Addr) : RowI w w.heap.size A [] := ⟨.inl rfl, fun x hx => by simp at hx⟩
set_option maxHeartbeats 1000000 in
set_option maxRecDepth 100000 in
theorem counted_any (w : World) : Calls Try.prog 19 #[] w fun e w' => e = .returned (.bool true) ∧ Below w.heap.size w w' := by
  have HEV := hid (fun (w1 : World) A0 c0 A1 c1 Aa Ab (r0 : Row w1 w1.heap.size A0 [.int .i64 1, .int .i64 0, .int .i64 0, .int .i64 0, .int .i64 0, .int .i64 0, .slice none 0 0, .int .i64 8, .int .i64 0, .int .i64 0, .int .i64 1, .int .i64 0, .int .i64 0, .slice none 0 0])
      (r1 : Row w1 w1.heap.size A1 [.slice Aa 4 4, .int .i64 1, .slice Ab 4 4, .int .i64 1]) (ra : Row w1 w1.heap.size Aa (icells' [1, 5, 0, 0])) (rb : Row w1 w1.heap.size Ab (icells' [2, 5, 0, 0])) =>
    show Calls Try.prog 22 #[.slice A0 2 c0, .slice A1 2 c1, .slice none 0 0] w1 (ItsErr [([5, 2], 1)] 0 w1) from by
      have h := eval_any [⟨⟨1, 0, 0, 0, 0, 0, []⟩, none, 0⟩, ⟨⟨8, 0, 0, 1, 0, 0, []⟩, none, 0⟩] [⟨[1, 5, 0, 0], Aa, 4, 1⟩, ⟨[2, 5, 0, 0], Ab, 4, 1⟩] [] A0 A1 none c0 c1 0 w1 ⟨r0, fun x hx => by
        simp only [List.mem_cons, List.not_mem_nil, or_false] at hx
        rcases hx with rfl | rfl <;> exact ⟨.inl rfl, by simp⟩⟩ (by simp) ⟨r1, fun x hx => by
        simp only [List.mem_cons, List.not_mem_nil, or_false] at hx
        rcases hx with rfl | rfl
        · exact ⟨ra, by simp⟩
        · exact ⟨rb, by simp⟩⟩ (by simp) (RowI.nil' _ _) (by simp)
      have e1 : evalX (sts [⟨⟨1, 0, 0, 0, 0, 0, []⟩, none, 0⟩, ⟨⟨8, 0, 0, 1, 0, 0, []⟩, none, 0⟩]) (its [⟨[1, 5, 0, 0], Aa, 4, 1⟩, ⟨[2, 5, 0, 0], Ab, 4, 1⟩]) (its []) = [([5, 2], 1)] := counted_X
      have e2 : allE (sts [⟨⟨1, 0, 0, 0, 0, 0, []⟩, none, 0⟩, ⟨⟨8, 0, 0, 1, 0, 0, []⟩, none, 0⟩]) (its [⟨[1, 5, 0, 0], Aa, 4, 1⟩, ⟨[2, 5, 0, 0], Ab, 4, 1⟩]) (its []) = 0 := counted_E
      rw [e1, e2] at h
      exact h)
  go_enter Try.func19, Try.ntmps19
  go_wp2_with fail
  -- STOP-a
  refine (HEV.out _ _ _ _ _ (some ⟨w.heap.size + 1, 0, none⟩) (some ⟨w.heap.size + 1 + 1, 0, none⟩) (by exact (((Row.new' w _ _ rfl rfl (by simp)).alloc _).alloc _).alloc _) (by exact Row.new' (((w.alloc _).alloc _).alloc _) _ _ (by simp) rfl (by simp)) (by exact ((Row.new' (w.alloc _) _ _ (by simp) rfl (by simp)).alloc _).alloc _) (by exact (Row.new' ((w.alloc _).alloc _) _ _ (by simp) rfl (by simp)).alloc _)).mono ?_
  rintro e w2 ⟨A2, k2, M2, rfl, hi2, ho2, hn2, hb2⟩
  have hB2 : Below w.heap.size w w2 := (by refine Below.step' ?_ hb2; (repeat' (first | (with_reducible exact Below.refl _ _) | (with_reducible assumption) | (with_reducible refine below_drewN ?_ _) | (with_reducible refine Below.drew ?_) | (with_reducible refine Below.alloc ?_ ?_ _) | (with_reducible refine Below.setCell ?_ ?_ _) | (refine Below.trans ?_ (Below.mono (by assumption) ?_)) | go_size)))
  have HBW := hid hB2
  have hl2 : M2.length = 1 := by rw [← its_len, hi2]; rfl
  have HG2 : Hid (RowI w2 w2.heap.size A2 M2) := hid ⟨Row.of_ownS ho2, hn2.rows⟩
  have HI2 := hid hi2
  have HL2 := hid hl2
  clear ho2 hn2 hb2 hi2 hl2 hB2 HEV
  have HSS : Hid (∀ w3 A3 A4, Below w2.heap.size w2 w3 → Row w3 w3.heap.size A3 [.slice A4 2 2, .int .i64 1] → Row w3 w3.heap.size A4 (icells' [5, 2]) → Calls Try.prog 13 #[.slice A2 M2.length k2, .slice A3 1 1] w3 fun e w' => e = .returned (.bool true) ∧ Below w3.heap.size w3 w') := hid (fun w3 A3 A4 hb h3 h4 => by
    have h := sameSet_any M2 [⟨[5, 2], A4, 2, 1⟩] A2 A3 k2 1 w3 (HG2.out.step hb) (by rw [HL2.out]; decide) ⟨by simpa [rcells, IR.cells] using h3, fun x hx => by
      simp only [List.mem_cons, List.not_mem_nil, or_false] at hx
      subst hx
      exact ⟨h4, by simp⟩⟩ (by simp)
    rw [HI2.out, show its [⟨[5, 2], A4, 2, 1⟩] = [([5, 2], 1)] from rfl, decide_eq_true rfl] at h
    exact h)
  go_wp2_with fail
  -- STOP-b
  refine (HSS.out _ (some ⟨w2.heap.size + 1, 0, none⟩) (some ⟨w2.heap.size, 0, none⟩) (by exact ((Below.refl _ _).alloc (Nat.le_refl _) _).alloc (by simp) _) (by exact Row.new' (w2.alloc _) _ _ (by simp) rfl (by simp)) (by exact (Row.new' w2 _ _ rfl rfl (by simp)).alloc _)).mono ?_
  rintro e w3 ⟨rfl, hb3⟩
  have hB3 : Below w2.heap.size w2 w3 := (by refine Below.step' ?_ hb3; (repeat' (first | (with_reducible exact Below.refl _ _) | (with_reducible assumption) | (with_reducible refine below_drewN ?_ _) | (with_reducible refine Below.drew ?_) | (with_reducible refine Below.alloc ?_ ?_ _) | (with_reducible refine Below.setCell ?_ ?_ _) | (refine Below.trans ?_ (Below.mono (by assumption) ?_)) | go_size)))
  replace HBW := hid (Below.step' HBW.out hB3)
  clear hb3 hB3 HSS HG2 HI2 HL2
  go_wp2
  go_ret
  exact ⟨rfl, HBW.out⟩
end Go.Proofs.Ytmcdaibdpeeefaa
/- viewkeep.PlainLinear. -/
namespace Go.Proofs.Ytmcdaibdpeeefaa
set_option linter.unusedVariables false
set_option linter.unusedSimpArgs false
open Go.ChangeShapes Go.WideShapes Go.ChangeAt Go.RowKit

set_option maxHeartbeats 1000000 in
set_option maxRecDepth 100000 in
theorem plainLinear_any (L : List SR) (A0 : Option Addr) (c0 : Nat) (M1 M2 M3 M4 : List IR) (A1 A2 A3 A4 : Option Addr) (c1 c2 c3 c4 : Nat) (w : World) (h0 : RowS w w.heap.size A0 L) (l0 : L.length ≤ 9223372036854775807) (h1 : RowI w w.heap.size A1 M1) (l1 : M1.length ≤ 9223372036854775807) (h2 : RowI w w.heap.size A2 M2) (l2 : M2.length ≤ 9223372036854775807) (h3 : RowI w w.heap.size A3 M3) (l3 : M3.length ≤ 9223372036854775807) (h4 : RowI w w.heap.size A4 M4) (l4 : M4.length ≤ 9223372036854775807) :
    Calls Try.prog 6 #[.slice A0 L.length c0, .slice A1 M1.length c1, .slice A2 M2.length c2, .slice A3 M3.length c3, .slice A4 M4.length c4] w fun e w' => e = .returned (.bool true) ∧ Below w.heap.size w w' := by
  have HR0 := hid h0
  have HR1 := hid h1
  have HR2 := hid h2
  have HR3 := hid h3
  have HR4 := hid h4
  clear h0 h1 h2 h3 h4
  go_enter Try.func6, Try.ntmps6
  go_wp2_with fail
  refine (counted_any w).mono ?_
  rintro e w1 ⟨rfl, hb1⟩
  have HB1 := hid hb1
  clear hb1
  go_wp2_with fail
  -- STOP-a
  go_loopw [27] (fun s27 wr => ∃ i : Nat, i ≤ L.length ∧ s27 = .int .i64 i ∧ Hid (∀ j, j < i → (h : j < L.length) → L[j].st.kind ≠ 4 ∧ L[j].st.kind ≤ 6) ∧ Hid (Below w1.heap.size w1 wr)) (fun s27 _ => L.length - (intOf s27).toNat)
  case atStart => exact ⟨0, by omega, rfl, hid (fun j h => by omega), hid (Below.refl _ _)⟩
  case round =>
    obtain ⟨i, hi, rfl, HKD, HB⟩ := hrel
    by_cases hlt : i < L.length
    · have HRS := hid ((HR0.out.step (Below.step' HB1.out HB.out)))
      obtain ⟨b, off, rfl, hb, e0, e1, e2, e3, e4, e5, e6⟩ := HRS.out.1.sr hlt
      have HKS := hid (show ∀ k, L[i].st.kind = k → k ≠ 4 ∧ k ≤ 6 → ∀ j, j < i + 1 → (h : j < L.length) → L[j].st.kind ≠ 4 ∧ L[j].st.kind ≤ 6 from fun k hk h2 j hj h => by
        by_cases q : j < i
        · exact HKD.out j q h
        · have : j = i := by omega
          subst this
          rw [hk]; exact h2)
      generalize L[i] = x at *
      obtain ⟨⟨sk, sa, sb, sc, so, sv, sl⟩, sA, sK⟩ := x
      simp only at e0 e1 e2 e3 e4 e5 e6 HKS
      have hneb : (b = wr.heap.size) = False := by simp; omega
      by_cases k4 : sk = 4
      · have t1 : (sk == 4) = true := by simp [k4]
        clear k4
        go_wp2_with fail
        go_ret
        exact ⟨rfl, Below.step' HB1.out (Below.step' HB.out (alloc_below (Below.refl _ _) _))⟩
      · have t1 : (sk == 4) = false := by simp [k4]
        have HK4 := hid k4
        clear k4
        by_cases k6 : 6 < sk
        · have t2 : (6 < sk) = True := eq_true k6
          clear k6
          go_wp2_with fail
          go_ret
          exact ⟨rfl, Below.step' HB1.out (Below.step' HB.out (alloc_below (Below.refl _ _) _))⟩
        · have t2 : (6 < sk) = False := eq_false k6
          have HK6 := hid (show sk ≤ 6 by omega)
          clear k6
          go_wp2_with fail
          -- STOP-b
          go_roundw
          case rel => exact ⟨i + 1, by omega, by go_num, hid (HKS.out sk rfl ⟨HK4.out, HK6.out⟩), hid (Below.step' HB.out (alloc_below (Below.refl _ _) _))⟩
          case measure => simp [intOf]; omega
    · have hik : i = L.length := by omega
      subst hik
      have HQ := hid (show ∀ s ∈ sts L, s.kind ≠ 4 ∧ s.kind ≤ 6 from fun s hs => by
        obtain ⟨x, hx, rfl⟩ := List.mem_map.1 hs
        obtain ⟨j, hj, rfl⟩ := List.getElem_of_mem hx
        exact HKD.out j hj hj)
      have HBW := hid (Below.step' HB1.out HB.out)
      clear HKD hi hlt HB HB1
      have HV1 := hid (fun w1 (hb : Below w.heap.size w w1) => eval_any L M1 M2 A0 A1 A2 c0 c1 c2 w1 (HR0.out.step hb) l0 (HR1.out.step hb) l1 (HR2.out.step hb) l2)
      have HV2 := hid (fun w1 (hb : Below w.heap.size w w1) => eval_any L M3 M4 A0 A3 A4 c0 c3 c4 w1 (HR0.out.step hb) l0 (HR3.out.step hb) l3 (HR4.out.step hb) l4)
      have HA1 := hid (fun w1 (hb : Below w.heap.size w w1) => add_any M1 M3 A1 A3 c1 c3 w1 (HR1.out.step hb) l1 (HR3.out.step hb) l3)
      have HA2 := hid (fun w1 (hb : Below w.heap.size w w1) => add_any M2 M4 A2 A4 c2 c4 w1 (HR2.out.step hb) l2 (HR4.out.step hb) l4)
      have HLW := hid (fun e1 e2 e3 e4 e5 e6 => linear_law (q := sts L) (a := its M1) (b := its M2) (c := its M3) (d := its M4) HQ.out e1 e2 e3 e4 e5 e6)
      have HV3 := hid (fun (M5 M6 : List IR) A5 A6 c5 c6 w1 (hb : Below w.heap.size w w1) h5 l5 h6 l6 => eval_any L M5 M6 A0 A5 A6 c0 c5 c6 w1 (HR0.out.step hb) l0 h5 l5 h6 l6)
      obtain ⟨X1, hX1⟩ : ∃ q, q = evalX (sts L) (its M1) (its M2) := ⟨_, rfl⟩
      obtain ⟨X2, hX2⟩ : ∃ q, q = evalX (sts L) (its M3) (its M4) := ⟨_, rfl⟩
      obtain ⟨X3, hX3⟩ : ∃ q, q = addX (its M1) (its M3) := ⟨_, rfl⟩
      obtain ⟨X4, hX4⟩ : ∃ q, q = addX (its M2) (its M4) := ⟨_, rfl⟩
      obtain ⟨E1, hE1⟩ : ∃ q, q = allE (sts L) (its M1) (its M2) := ⟨_, rfl⟩
      obtain ⟨E2, hE2⟩ : ∃ q, q = allE (sts L) (its M3) (its M4) := ⟨_, rfl⟩
      obtain ⟨E3, hE3⟩ : ∃ q, q = addE (its M1) (its M3) := ⟨_, rfl⟩
      obtain ⟨E4, hE4⟩ : ∃ q, q = addE (its M2) (its M4) := ⟨_, rfl⟩
      rw [← hX1, ← hX2, ← hX3, ← hX4, ← hE1, ← hE2, ← hE3, ← hE4] at HLW
      rw [← hX1, ← hE1] at HV1
      rw [← hX2, ← hE2] at HV2
      rw [← hX3, ← hE3] at HA1
      rw [← hX4, ← hE4] at HA2
      clear hX1 hX2 hX3 hX4 hE1 hE2 hE3 hE4
      go_wp2_with fail
      -- STOP-c
      refine (HV1.out _ HBW.out).mono ?_
      rintro e w2 ⟨A5, k5, M5, rfl, hi5, ho5, hn5, hb5⟩
      replace HBW := hid (Below.step' HBW.out hb5)
      have HI5 := hid hi5
      have HG5 : Hid (RowI w2 w2.heap.size A5 M5) := hid ⟨Row.of_ownS ho5, hn5.rows⟩
      have HC5 := hid (own_capS ho5)
      clear hi5 ho5 hn5 hb5 HV1
      go_wp2_with fail
      refine (HV2.out _ HBW.out).mono ?_
      rintro e w3 ⟨A6, k6, M6, rfl, hi6, ho6, hn6, hb6⟩
      replace HBW := hid (Below.step' HBW.out hb6)
      replace HG5 := hid (HG5.out.step hb6)
      have HI6 := hid hi6
      have HG6 : Hid (RowI w3 w3.heap.size A6 M6) := hid ⟨Row.of_ownS ho6, hn6.rows⟩
      have HC6 := hid (own_capS ho6)
      clear hi6 ho6 hn6 hb6 HV2
      go_wp2_with fail
      refine (HA1.out _ HBW.out).mono ?_
      rintro e w4 ⟨A7, k7, M7, rfl, hi7, ho7, hn7, hb7⟩
      replace HBW := hid (Below.step' HBW.out hb7)
      replace HG5 := hid (HG5.out.step hb7)
      replace HG6 := hid (HG6.out.step hb7)
      have HI7 := hid hi7
      have HG7 : Hid (RowI w4 w4.heap.size A7 M7) := hid ⟨Row.of_ownS ho7, hn7.rows⟩
      have HC7 := hid (own_capS ho7)
      clear hi7 ho7 hn7 hb7 HA1
      go_wp2_with fail
      refine (HA2.out _ HBW.out).mono ?_
      rintro e w5 ⟨A8, k8, M8, rfl, hi8, ho8, hn8, hb8⟩
      replace HBW := hid (Below.step' HBW.out hb8)
      replace HG5 := hid (HG5.out.step hb8)
      replace HG6 := hid (HG6.out.step hb8)
      replace HG7 := hid (HG7.out.step hb8)
      have HI8 := hid hi8
      have HG8 : Hid (RowI w5 w5.heap.size A8 M8) := hid ⟨Row.of_ownS ho8, hn8.rows⟩
      have HC8 := hid (own_capS ho8)
      clear hi8 ho8 hn8 hb8 HA2
      -- STOP-d
      by_cases q1 : E1 = 0
      rotate_left
      · have t1 : (E1 != 0) = true := by simpa using q1
        clear q1
        go_wp2_with fail
        go_ret
        exact ⟨rfl, HBW.out⟩
      subst q1
      by_cases q2 : E2 = 0
      rotate_left
      · have t1 : (E2 != 0) = true := by simpa using q2
        clear q2
        go_wp2_with fail
        go_ret
        exact ⟨rfl, HBW.out⟩
      subst q2
      by_cases q3 : E3 = 0
      rotate_left
      · have t1 : (E3 != 0) = true := by simpa using q3
        clear q3
        go_wp2_with fail
        go_ret
        exact ⟨rfl, HBW.out⟩
      subst q3
      by_cases q4 : E4 = 0
      rotate_left
      · have t1 : (E4 != 0) = true := by simpa using q4
        clear q4
        go_wp2_with fail
        go_ret
        exact ⟨rfl, HBW.out⟩
      subst q4
      replace HV3 := hid (HV3.out M7 M8 A7 A8 k7 k8 w5 HBW.out HG7.out (by have := HC7.out; simp only [maxLen] at this; omega) HG8.out (by have := HC8.out; simp only [maxLen] at this; omega))
      replace HLW := hid (fun e5 e6 => HLW.out rfl rfl rfl rfl e5 e6)
      rw [HI7.out, HI8.out] at HV3
      have HAD := hid (fun w6 (hb : Below w5.heap.size w5 w6) => add_any M5 M6 A5 A6 k5 k6 w6 (HG5.out.step hb) (by have := HC5.out; simp only [maxLen] at this; omega) (HG6.out.step hb) (by have := HC6.out; simp only [maxLen] at this; omega))
      rw [HI5.out, HI6.out] at HAD
      obtain ⟨X5, hX5⟩ : ∃ q, q = evalX (sts L) X3 X4 := ⟨_, rfl⟩
      obtain ⟨E5, hE5⟩ : ∃ q, q = allE (sts L) X3 X4 := ⟨_, rfl⟩
      obtain ⟨X6, hX6⟩ : ∃ q, q = addX X1 X2 := ⟨_, rfl⟩
      obtain ⟨E6, hE6⟩ : ∃ q, q = addE X1 X2 := ⟨_, rfl⟩
      rw [← hX5, ← hE5] at HV3
      rw [← hX6, ← hE6] at HAD
      rw [← hX5, ← hX6, ← hE5, ← hE6] at HLW
      clear hX5 hE5 hX6 hE6
      go_wp2_with fail
      -- STOP-e
      refine HV3.out.mono ?_
      rintro e w6 ⟨A9, k9, M9, rfl, hi9, ho9, hn9, hb9⟩
      replace HBW := hid (Below.step' HBW.out hb9)
      have HI9 := hid hi9
      have HB9 := hid hb9
      have HG9 : Hid (RowI w6 w6.heap.size A9 M9) := hid ⟨Row.of_ownS ho9, hn9.rows⟩
      have HC9 := hid (own_capS ho9)
      clear hi9 ho9 hn9 hb9 HV3
      go_wp2_with fail
      refine (HAD.out _ HB9.out).mono ?_
      rintro e w7 ⟨AA, kA, MA, rfl, hiA, hoA, hnA, hbA⟩
      replace HBW := hid (Below.step' HBW.out hbA)
      replace HG9 := hid (HG9.out.step hbA)
      have HIA := hid hiA
      have HGA : Hid (RowI w7 w7.heap.size AA MA) := hid ⟨Row.of_ownS hoA, hnA.rows⟩
      have HCA := hid (own_capS hoA)
      clear hiA hoA hnA hbA HAD HB9
      by_cases q5 : E5 = 0
      rotate_left
      · have t1 : (E5 != 0) = true := by simpa using q5
        clear q5
        go_wp2_with fail
        go_ret
        exact ⟨rfl, HBW.out⟩
      subst q5
      by_cases q6 : E6 = 0
      rotate_left
      · have t1 : (E6 != 0) = true := by simpa using q6
        clear q6
        go_wp2_with fail
        go_ret
        exact ⟨rfl, HBW.out⟩
      subst q6
      have HSS := hid (sameSet_any M9 MA A9 AA k9 kA w7 HG9.out (by have := HC9.out; simp only [maxLen] at this; omega) HGA.out (by have := HCA.out; simp only [maxLen] at this; omega))
      rw [HI9.out, HIA.out, decide_eq_true (HLW.out rfl rfl)] at HSS
      go_wp2_with fail
      -- STOP-f
      refine HSS.out.mono ?_
      rintro e w8 ⟨rfl, hb8⟩
      replace HBW := hid (Below.step' HBW.out hb8)
      clear hb8
      go_wp2
      go_ret
      exact ⟨rfl, HBW.out⟩
end Go.Proofs.Ytmcdaibdpeeefaa
/- Arguments that are queries, as a claim reads them. -/
namespace Go.Proofs.Ytmcdaibdpeeefaa
set_option linter.unusedVariables false
set_option linter.unusedSimpArgs false
open Go.ChangeShapes Go.WideShapes Go.ChangeAt Go.RowKit Go.Deep

set_option maxRecDepth 100000 in
theorem open_step {H : Type} {enc : TypeId × Value → H} {w : World} {base n : Nat} {spare : Nat → Bool} {held : Bool} {cs : List Value} {x : DataW H × List MemPlace}
    (h : DataW.trod enc Try.prog w base spare held n 49 cs = some x) : ∃ z : SR, (Row w w.heap.size z.A (icells' z.st.list) ∧ z.st.list.length ≤ 9223372036854775807) ∧ cs = z.cells := by
  obtain ⟨xs, n', _, hx, hlen, hxl, hf⟩ := DataW.trod_struct Try.underlying49 h
  have c2 : Try.prog.cellsOf 49 = 7 := by kernel_rfl
  have c1 : Try.prog.cellsOf 26 = 1 := by kernel_rfl
  have c1' : Try.prog.cellsOf 3 = 1 := by kernel_rfl
  rw [c2] at hlen
  match cs, hlen with
  | [u0, u1, u2, u3, u4, u5, u6], _ =>
    match xs, hxl with
    | [y0, y1, y2, y3, y4, y5, y6], _ =>
      have h0 := hf 0 _ rfl
      have h1 := hf 1 _ rfl
      have h2 := hf 2 _ rfl
      have h3 := hf 3 _ rfl
      have h4 := hf 4 _ rfl
      have h5 := hf 5 _ rfl
      have h6 := hf 6 _ rfl
      simp only [List.getElem_toArray, List.getElem_cons_zero, List.getElem_cons_succ, List.getElem?_cons_zero, List.getElem?_cons_succ] at h0 h1 h2 h3 h4 h5 h6
      simp only [c1, c1', List.drop_zero, List.take_succ_cons, List.take_zero, List.drop_succ_cons] at h0 h1 h2 h3 h4 h5 h6
      obtain ⟨z0, e0, _⟩ := DataW.trod_int Try.underlying3 h0
      obtain ⟨z1, e1, _⟩ := DataW.trod_int Try.underlying3 h1
      obtain ⟨z2, e2, _⟩ := DataW.trod_int Try.underlying3 h2
      obtain ⟨z3, e3, _⟩ := DataW.trod_int Try.underlying3 h3
      obtain ⟨z4, e4, _⟩ := DataW.trod_int Try.underlying3 h4
      obtain ⟨z5, e5, _⟩ := DataW.trod_int Try.underlying3 h5
      obtain ⟨A, k, l, e6, r0, l0, -⟩ := open_ints_cells h6
      injection e0 with e0
      injection e1 with e1
      injection e2 with e2
      injection e3 with e3
      injection e4 with e4
      injection e5 with e5
      injection e6 with e6
      subst e0 e1 e2 e3 e4 e5 e6
      exact ⟨⟨⟨z0, z1, z2, z3, z4, z5, l⟩, A, k⟩, ⟨r0, l0⟩, rfl⟩
set_option maxRecDepth 100000 in
theorem arg_steps {H : Type} {enc : TypeId × Value → H} {w : World} {r : Reach} {b0 base : Nat} {spare : Nat → Bool} {held : Bool} {v : Value} {d : DataW H} {p : List MemPlace}
    (hv : Value.okWide Try.prog w r b0 40 v) (h : DataW.Trod enc Try.prog w base spare held 40 v d p) :
    ∃ (A : Option Addr) (k : Nat) (L : List SR), v = .slice A L.length k ∧ RowS w w.heap.size A L ∧ L.length ≤ 9223372036854775807 := by
  obtain ⟨a, n, c, rfl⟩ := okWide_slice Try.underlying40 hv
  obtain ⟨m, hm⟩ := h
  obtain ⟨A, k, L, e, hr, hq, hl, -⟩ := open_each (f := SR.cells) (Q := fun z : SR => Row w w.heap.size z.A (icells' z.st.list) ∧ z.st.list.length ≤ 9223372036854775807) SR.len (by decide) Try.underlying40 (by kernel_rfl) (fun n cs y hy => open_step hy) hm
  simp only [Value.cells, List.cons.injEq, and_true] at e
  exact ⟨A, k, L, e, ⟨hr, hq⟩, hl⟩
end Go.Proofs.Ytmcdaibdpeeefaa
