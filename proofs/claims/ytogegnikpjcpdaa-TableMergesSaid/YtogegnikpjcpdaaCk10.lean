/- BothP, TPut, TDel, TabR -/
import Derived.Test.YtogegnikpjcpdaaCk09
import Derived.Maps.OwnSet
import Derived.DeepKeys4
import Derived.Laws.Tables
import Derived.Test.YtogegnikpjcpdaaCk07
/- A map from dots to cells: its keys, its readings; what is wrong with two tables (plain). -/
namespace Go.Proofs.Ytogegnikpjcpdaa
set_option linter.unusedVariables false
open Go.ChangeShapes Go.WideShapes Go.ChangeAt Go.RowKit

theorem dot_wide : (match Try.prog.underlying 27 with | some (.array _ _) | some (.struct _) => true | _ => false) = true := by rw [Try.underlying27]
theorem prog_laid : laidOutB Try.prog = true := by kernel_rfl
theorem dot_row : decide (27 < Try.prog.types.size) = true := by kernel_rfl
theorem dot_keyAt : Try.prog.keyTypeAt 2 27 = true := by kernel_rfl
theorem dot_lt : 27 < Try.prog.types.size := of_decide_eq_true dot_row
set_option maxRecDepth 100000 in
theorem dot_keyed : Maps.Keyed Try.prog 27 := Maps.Keyed.of_law (deep_law_laid prog_laid (m := 2) (Nat.le_of_ble_eq_true rfl) dot_lt dot_keyAt dot_wide)
theorem dot_keyType : Try.prog.keyType 27 = true := by kernel_rfl
theorem dot_cellsOf : Try.prog.cellsOf 27 = 2 := by kernel_rfl
theorem int_cellsOf : Try.prog.cellsOf 3 = 1 := by kernel_rfl
theorem keyLits_dot (n : Nat) (a b : Int) (ha : (Lit.int .i64 a).wf = true) (hb : (Lit.int .i64 b).wf = true) : Try.prog.keyLits (n + 2) 27 [.int .i64 a, .int .i64 b] = some [.int .i64 a, .int .i64 b] := by
  simp [Program.keyLits, Try.underlying27, Try.underlying3, dot_cellsOf, int_cellsOf, ha, hb]
def keyL (d : Int × Int) : Lit := .string (keyBytes [.int .i64 d.1, .int .i64 d.2])
theorem keyOf_dot (a b : Int) (ha : (Lit.int .i64 a).wf = true) (hb : (Lit.int .i64 b).wf = true) : keyOf Try.prog 27 (.agg #[.int .i64 a, .int .i64 b]) = some (keyL (a, b)) := by
  have h2 : (Value.agg #[.int .i64 a, .int .i64 b]).formed Try.prog 27 = true := by
    simp [Value.formed, Try.underlying27, dot_cellsOf]
  obtain ⟨n, hn⟩ : ∃ n, Try.prog.types.size + 1 = n + 2 := by
    have : 0 < Try.prog.types.size := Nat.lt_of_le_of_lt (Nat.zero_le _) (of_decide_eq_true dot_row)
    exact ⟨Try.prog.types.size - 1, by omega⟩
  unfold keyOf
  rw [Try.underlying27, hn]
  simp only [dot_keyType, h2, Bool.and_self, if_true]
  rw [show (Value.agg #[.int .i64 a, .int .i64 b]).cells.toList = [.int .i64 a, .int .i64 b] from rfl, keyLits_dot n a b ha hb]
  rfl
theorem right_wf {d : Int × Int} (h : rightB d.1 d.2 = true) : (Lit.int .i64 d.1).wf = true ∧ (Lit.int .i64 d.2).wf = true := by
  simp only [rightB, Bool.and_eq_true, decide_eq_true_eq] at h
  exact ⟨by simp [Lit.wf, IntKind.min, IntKind.max, IntKind.signed, IntKind.bits]; omega, by simp [Lit.wf, IntKind.min, IntKind.max, IntKind.signed, IntKind.bits]; omega⟩
theorem keyOf_right {d : Int × Int} (h : rightB d.1 d.2 = true) : keyOf Try.prog 27 (.agg #[.int .i64 d.1, .int .i64 d.2]) = some (keyL d) := keyOf_dot _ _ (right_wf h).1 (right_wf h).2
set_option maxRecDepth 100000 in
theorem keyL_inj {d e : Int × Int} (hd : rightB d.1 d.2 = true) (he : rightB e.1 e.2 = true) (h : keyL d = keyL e) : d = e := by
  have h1 := keyOf_right hd
  have h2 := keyOf_right he
  rw [← h] at h2
  have h3 := dot_keyed.inj h1 h2
  injection h3 with h3
  have h4 : (#[Value.int .i64 d.1, .int .i64 d.2] : Array Value).toList = #[Value.int .i64 e.1, .int .i64 e.2].toList := by rw [h3]
  simp at h4
  exact Prod.ext h4.1 h4.2

/-! The map. -/
def celD (x : Cel) : DataW Unit := .agg [.lit (.int .i64 x.d.1), .lit (.int .i64 x.d.2), .lit (.int .i64 x.key), .lit (.int .i64 x.col), .lit (.int .i64 x.val)]
def celElem : Value → Option (DataW Unit × List MemPlace)
  | .agg cs => match cs.toList with
    | [.int .i64 a, .int .i64 b, .int .i64 k, .int .i64 c, .int .i64 v] => some (celD ⟨(a, b), k, c, v⟩, [])
    | _ => none
  | _ => none
theorem celElem_mk (x : Cel) : celElem (celv x) = some (celD x, []) := rfl
theorem celElem_inv {v : Value} {x : Cel} {ps : List MemPlace} (h : celElem v = some (celD x, ps)) : v = celv x := by
  unfold celElem at h
  split at h
  · rename_i cs
    split at h
    · rename_i a b k c v' e
      injection h with h
      injection h with h _
      simp only [celD, DataW.agg.injEq, List.cons.injEq, DataW.lit.injEq, Lit.int.injEq, true_and, and_true] at h
      obtain ⟨h1, h2, h3, h4, h5⟩ := h
      have : cs = #[.int .i64 x.d.1, .int .i64 x.d.2, .int .i64 x.key, .int .i64 x.col, .int .i64 x.val] := by
        apply Array.toList_inj.1
        rw [e, h1, h2, h3, h4, h5]
      rw [this]
    · cases h
  · cases h
def mapL (l : List Cel) : DataW Unit := l.foldl (fun D x => D.put (keyL x.d) (celD x)) (.map [])
theorem mapL_snoc (l : List Cel) (x : Cel) : mapL (l ++ [x]) = (mapL l).put (keyL x.d) (celD x) := by simp [mapL, List.foldl_append]
theorem isMap_fold (l : List Cel) : ∀ D : DataW Unit, Maps.IsMap D → Maps.IsMap (l.foldl (fun D x => D.put (keyL x.d) (celD x)) D) := by
  induction l with
  | nil => intro D h; exact h
  | cons x l ih => intro D h; exact ih _ (h.put _ _)
theorem isMap_mapL (l : List Cel) : Maps.IsMap (mapL l) := isMap_fold l _ Maps.isMap_empty
theorem isKey (d : Int × Int) : WideAt.IsKeyLit (keyL d) := trivial

theorem snoc_rec {α : Type} {p : List α → Prop} (h0 : p []) (h1 : ∀ l x, p l → p (l ++ [x])) (l : List α) : p l := by
  rw [← List.reverse_reverse l]
  generalize l.reverse = m
  induction m with
  | nil => exact h0
  | cons x m ih => rw [List.reverse_cons]; exact h1 _ _ ih
/-- What the map says of a dot: the last cell with it. -/
theorem mapL_at {d : Int × Int} (hd : rightB d.1 d.2 = true) (l : List Cel) : (∀ x ∈ l, rightB x.d.1 x.d.2 = true) →
    (Maps.has (mapL l) (keyL d) = false ∧ (∀ x ∈ l, x.d ≠ d)) ∨ ∃ x ∈ l, x.d = d ∧ Maps.has (mapL l) (keyL d) = true ∧ ∀ z, (mapL l).atKey (keyL d) z = celD x := by
  refine snoc_rec (p := fun l => (∀ x ∈ l, rightB x.d.1 x.d.2 = true) → (Maps.has (mapL l) (keyL d) = false ∧ (∀ x ∈ l, x.d ≠ d)) ∨ ∃ x ∈ l, x.d = d ∧ Maps.has (mapL l) (keyL d) = true ∧ ∀ z, (mapL l).atKey (keyL d) z = celD x) ?_ ?_ l
  · exact fun _ => .inl ⟨rfl, by simp⟩
  · intro l x ih hl
    rw [mapL_snoc]
    have hx := hl x (by simp)
    by_cases e : x.d = d
    · right
      refine ⟨x, by simp, e, ?_, fun z => ?_⟩
      · rw [e]; exact Maps.has_put_same (isMap_mapL l) (isKey d) _
      · rw [e]; exact Maps.atKey_put_same (isMap_mapL l) (isKey d) _ _
    · have hne : keyL d ≠ keyL x.d := fun h => e (keyL_inj hx hd h.symm)
      rcases ih (fun y hy => hl y (List.mem_append_left _ hy)) with ⟨h1, h2⟩ | ⟨y, hy, h1, h2, h3⟩
      · left
        refine ⟨by rw [Maps.has_put_other hne]; exact h1, fun y hy => ?_⟩
        rcases List.mem_append.1 hy with hy | hy
        · exact h2 y hy
        · rw [List.mem_singleton.1 hy]; exact e
      · right
        exact ⟨y, List.mem_append_left _ hy, h1, by rw [Maps.has_put_other hne]; exact h2, fun z => by rw [Maps.atKey_put_other hne]; exact h3 z⟩

/-! What is wrong with two tables. -/
def clashB (a b : Tab) (y : Cel) : Bool := a.cells.any fun x => decide (x.d = y.d) && !decide (x = y)
def bothE (a b : Tab) : Int := if tabI a ≠ 0 then tabI a else if tabI b ≠ 0 then tabI b else if b.cells.any (clashB a b) then 5 else 0
end Go.Proofs.Ytogegnikpjcpdaa
/- table.Put, table.Del. -/
namespace Go.Proofs.Ytogegnikpjcpdaa
set_option linter.unusedVariables false
open Go.ChangeShapes Go.WideShapes Go.ChangeAt Go.RowKit

theorem build_cel (d0 d1 k c v : Int) (w : World) : (Instr.build 62 #[(0, .agg #[.int .i64 d0, .int .i64 d1]), (1, .int .i64 k), (2, .int .i64 c), (3, .int .i64 v)]).run Try.prog w = .ok (.agg #[.int .i64 d0, .int .i64 d1, .int .i64 k, .int .i64 c, .int .i64 v]) w :=
  run_build w _ _ _ (by kernel_rfl)
theorem build_tab (c0 c1 c2 c3 : Int) (A B : Option Addr) (n k m j : Nat) (w : World) : (Instr.build 59 #[(0, .agg #[.int .i64 c0, .int .i64 c1, .int .i64 c2, .int .i64 c3, .slice A n k]), (1, .slice B m j)]).run Try.prog w = .ok (.agg #[.int .i64 c0, .int .i64 c1, .int .i64 c2, .int .i64 c3, .slice A n k, .slice B m j]) w :=
  run_build w _ _ _ (by kernel_rfl)

abbrev set6 (w : World) (b : Nat) (y0 y1 y2 y3 y4 y5 : Value) : World := (set5 w b y0 y1 y2 y3 y4).setCell ⟨b, 5, none⟩ y5
theorem Blk.set6 {w : World} {b : Nat} {x0 x1 x2 x3 x4 x5 : Value} {T : TypeId} (h : Blk w b #[x0, x1, x2, x3, x4, x5] T) (y0 y1 y2 y3 y4 y5 : Value) : Blk (set6 w b y0 y1 y2 y3 y4 y5) b #[y0, y1, y2, y3, y4, y5] T :=
  (((((h.set 0 y0).set 1 y1).set 2 y2).set 3 y3).set 4 y4).set 5 y5
theorem Row.set6 {w : World} {b lo : Nat} {A : Option Addr} {xs : List Value} (h : Row w w.heap.size A xs) (hn : NewAt lo A) (hb : b < lo) (y0 y1 y2 y3 y4 y5 : Value) : Row (set6 w b y0 y1 y2 y3 y4 y5) (set6 w b y0 y1 y2 y3 y4 y5).heap.size A xs := by
  have h5 := Row.set5 h hn hb y0 y1 y2 y3 y4
  exact (h5.setCell_new hn (a := ⟨b, 5, none⟩) hb y5).more (by simp)
theorem Below.set6 {B : Nat} {a w : World} {b : Nat} (h : Below B a w) (hb : B ≤ b) (y0 y1 y2 y3 y4 y5 : Value) : Below B a (set6 w b y0 y1 y2 y3 y4 y5) :=
  (Below.set5 h hb y0 y1 y2 y3 y4).setCell (p := ⟨b, 5, none⟩) hb y5
theorem Blk.six {w : World} {b : Nat} {x0 x1 x2 x3 x4 x5 : Value} {T : TypeId} (h : Blk w b #[x0, x1, x2, x3, x4, x5] T) :
    (w.cell? ⟨b, 0, none⟩ = some x0 ∧ w.cell? ⟨b, 1, none⟩ = some x1 ∧ w.cell? ⟨b, 2, none⟩ = some x2 ∧ w.cell? ⟨b, 3, none⟩ = some x3 ∧ w.cell? ⟨b, 4, none⟩ = some x4 ∧ w.cell? ⟨b, 5, none⟩ = some x5) ∧
    (w.frozen? ⟨b, 0, none⟩ = false ∧ w.frozen? ⟨b, 1, none⟩ = false ∧ w.frozen? ⟨b, 2, none⟩ = false ∧ w.frozen? ⟨b, 3, none⟩ = false ∧ w.frozen? ⟨b, 4, none⟩ = false ∧ w.frozen? ⟨b, 5, none⟩ = false) :=
  ⟨⟨h.cells.1 0, h.cells.1 1, h.cells.1 2, h.cells.1 3, h.cells.1 4, h.cells.1 5⟩, h.cells.2 0, h.cells.2 1, h.cells.2 2, h.cells.2 3, h.cells.2 4, h.cells.2 5⟩

theorem newAt_none (lo : Nat) : NewAt lo none := fun _ _ _ h => by cases h
def zT : Tab := ⟨⟨0, 0, 0, 0, []⟩, []⟩
def TabErr (T : Tab) (x : Int) (w : World) (e : Ending) (w' : World) : Prop :=
  ∃ A k B m, e = .returned (.tuple #[tval T A k B m, .int .i64 x]) ∧ Row w' w'.heap.size A (dcells T.c.cloud) ∧ Row w' w'.heap.size B (tcells T.cells) ∧ Below w.heap.size w w' ∧ NewAt w.heap.size A ∧ NewAt w.heap.size B
def argOk (n key col val : Int) : Bool := inB n 0 3 && inB key 0 49 && (inB col 0 2 && inB val (-1000) 1000)
def putL (t : Tab) (key col : Int) (d : Int × Int) : List (Int × Int) := ((t.cells.filter (atKC key col)).map Cel.d) ++ [d]
def putX (t : Tab) (n key col val : Int) : Tab :=
  if tabI t ≠ 0 ∨ argOk n key col val = false ∨ nextE t.c n ≠ 0 ∨ ctxE (putL t key col (nextD t.c n)) ≠ 0 then zT else ⟨ctxX (putL t key col (nextD t.c n)), [⟨nextD t.c n, key, col, val⟩]⟩
def putE (t : Tab) (n key col val : Int) : Int :=
  if tabI t ≠ 0 then tabI t else if argOk n key col val = false then 1 else if nextE t.c n ≠ 0 then nextE t.c n else ctxE (putL t key col (nextD t.c n))
def delL (t : Tab) (key : Int) : List (Int × Int) := (t.cells.filter (atK key)).map Cel.d
def delX (t : Tab) (key : Int) : Tab := if tabI t ≠ 0 ∨ inB key 0 49 = false ∨ delL t key = [] then zT else ⟨ctxX (delL t key), []⟩
def delE (t : Tab) (key : Int) : Int := if tabI t ≠ 0 then tabI t else if inB key 0 49 = false then 1 else if delL t key = [] then 4 else ctxE (delL t key)

set_option maxHeartbeats 1600000 in
set_option maxRecDepth 100000 in
theorem put_any (t : Tab) (n key col val : Int) (A : Option Addr) (k : Nat) (B : Option Addr) (m : Nat) (w : World) (ra : Row w w.heap.size A (dcells t.c.cloud)) (la : t.c.cloud.length ≤ 9223372036854775807)
    (rb : Row w w.heap.size B (tcells t.cells)) (lb : t.cells.length ≤ 4398046511104) :
    Calls Try.prog 43 #[tval t A k B m, .int .i64 n, .int .i64 key, .int .i64 col, .int .i64 val] w (TabErr (putX t n key col val) (putE t n key col val) w) := by
  have HTC := hid (fun w1 (hb : Below w.heap.size w w1) => tcheck_any t A k B m w1 (ra.step hb) la (rb.step hb) (by omega))
  have HNX := hid (fun w1 (hb : Below w.heap.size w w1) => next_any t.c n A k w1 (ra.step hb) la)
  have HDO := hid (fun w1 X Y (hb : Below w.heap.size w w1) (hX : Blk w1 X #[.int .i64 key] 3) (hY : Blk w1 Y #[.int .i64 col] 3) =>
    dots_any t 79 #[.pointer (some ⟨X, 0, none⟩), .pointer (some ⟨Y, 0, none⟩)] (atKC key col) A k B m w1 (rb.step hb) lb enters_put1 (fun w2 hb2 x _ => put1_any x key col X Y w2 (hX.step hb2) (hY.step hb2)))
  have hX1 : (tabI t ≠ 0 ∨ argOk n key col val = false ∨ nextE t.c n ≠ 0 ∨ ctxE (putL t key col (nextD t.c n)) ≠ 0) → putX t n key col val = zT := fun h => by unfold putX; rw [if_pos h]
  have hX2 : tabI t = 0 → argOk n key col val = true → nextE t.c n = 0 → ctxE (putL t key col (nextD t.c n)) = 0 → putX t n key col val = ⟨ctxX (putL t key col (nextD t.c n)), [⟨nextD t.c n, key, col, val⟩]⟩ := fun h1 h2 h3 h4 => by unfold putX; rw [if_neg (by simp [h1, h2, h3, h4])]
  have hE : putE t n key col val = if tabI t ≠ 0 then tabI t else if argOk n key col val = false then 1 else if nextE t.c n ≠ 0 then nextE t.c n else ctxE (putL t key col (nextD t.c n)) := rfl
  have hL : putL t key col (nextD t.c n) = ((t.cells.filter (atKC key col)).map Cel.d) ++ [nextD t.c n] := rfl
  have hLL : ((t.cells.filter (atKC key col)).map Cel.d).length ≤ t.cells.length := by rw [List.length_map]; exact List.length_filter_le _ _
  obtain ⟨R, hR⟩ : ∃ R, R = putX t n key col val := ⟨_, rfl⟩
  obtain ⟨RE, hRE⟩ : ∃ RE, RE = putE t n key col val := ⟨_, rfl⟩
  rw [← hR, ← hRE]
  rw [← hR] at hX1 hX2
  rw [← hRE] at hE
  clear hR hRE
  obtain ⟨G, hG⟩ : ∃ G, G = (t.cells.filter (atKC key col)).map Cel.d := ⟨_, rfl⟩
  rw [← hG] at hL hLL HDO
  obtain ⟨PL, hPL⟩ : ∃ PL, PL = putL t key col (nextD t.c n) := ⟨_, rfl⟩
  rw [← hPL] at hX1 hX2 hE hL
  clear hG hPL
  obtain ⟨D, hD⟩ : ∃ D, D = nextD t.c n := ⟨_, rfl⟩
  obtain ⟨NE, hNE⟩ : ∃ NE, NE = nextE t.c n := ⟨_, rfl⟩
  rw [← hD, ← hNE] at HNX
  rw [← hD] at hX2 hL
  rw [← hNE] at hX1 hX2 hE
  clear hD hNE
  obtain ⟨T, hT⟩ : ∃ T, T = tabI t := ⟨_, rfl⟩
  rw [← hT] at HTC hX1 hX2 hE
  clear hT
  have HX1 := hid hX1
  have HX2 := hid hX2
  have HE := hid hE
  have HL := hid hL
  clear hX1 hX2 hE hL ra rb
  obtain ⟨⟨c0, c1, c2, c3, cl⟩, l⟩ := t
  obtain ⟨i0, hi0, hz0, hz1, hz2⟩ := info_parts info_dot
  simp only [tval, cval] at *
  have hwn := fun w => within_any n 0 3 w
  have hky := fun w => keyed_any key w
  have hva := fun w => valued_any col val w
  go_enter Try.func43, Try.ntmps43
  go_wp2_with fail
  refine (HTC.out _ (by (repeat' (first | (with_reducible exact Below.refl _ _) | (with_reducible assumption) | (with_reducible refine below_drewN ?_ _) | (with_reducible refine Below.drew ?_) | (with_reducible refine Below.alloc ?_ ?_ _) | (with_reducible refine Below.setCell ?_ ?_ _) | (refine Below.trans ?_ (Below.mono (by assumption) ?_)) | go_size)))).mono ?_
  rintro e w1 ⟨rfl, hb1⟩
  have HBW := hid (show Below w.heap.size w w1 from (by refine Below.step' ?_ hb1; (repeat' (first | (with_reducible exact Below.refl _ _) | (with_reducible assumption) | (with_reducible refine below_drewN ?_ _) | (with_reducible refine Below.drew ?_) | (with_reducible refine Below.alloc ?_ ?_ _) | (with_reducible refine Below.setCell ?_ ?_ _) | (refine Below.trans ?_ (Below.mono (by assumption) ?_)) | go_size))))
  have HXT := hid (Blk.step (w := _) (b := w.heap.size) (cs := #[.int .i64 c0, .int .i64 c1, .int .i64 c2, .int .i64 c3, .slice A cl.length k, .slice B l.length m]) (T := 59) (by exact (((Blk.new w _ _).alloc _).alloc _).alloc _) hb1)
  have HXK := hid (Blk.step (w := _) (b := w.heap.size + 1) (cs := #[.int .i64 key]) (T := 3) (by exact ((Blk.new' (w.alloc _) _ _ (by simp)).alloc _).alloc _) hb1)
  have HXC := hid (Blk.step (w := _) (b := w.heap.size + 1 + 1) (cs := #[.int .i64 col]) (T := 3) (by exact (Blk.new' ((w.alloc _).alloc _) _ _ (by simp)).alloc _) hb1)
  have HXR := hid (Blk.step (w := _) (b := w.heap.size + 1 + 1 + 1) (cs := #[.int .i64 0, .int .i64 0, .int .i64 0, .int .i64 0, .slice none 0 0, .slice none 0 0]) (T := 59) (by exact Blk.new' (((w.alloc _).alloc _).alloc _) _ _ (by simp)) hb1)
  clear hb1
  by_cases qT : T = 0
  rotate_left
  · have t1 : (T != 0) = true := by simpa using qT
    have E1 : Hid (R = zT) := hid (HX1.out (.inl qT))
    have E2 : Hid (RE = T) := hid (by have e := HE.out; rw [if_pos qT] at e; exact e)
    clear qT
    have hR := HXR.out
    obtain ⟨⟨r0, r1, r2, r3, r4, r5⟩, f0, f1, f2, f3, f4, f5⟩ := hR.six
    have HR6 := hid (Blk.set6 hR (.int .i64 0) (.int .i64 0) (.int .i64 0) (.int .i64 0) (.slice none 0 0) (.slice none 0 0))
    have HB6 := hid (Below.set6 HBW.out (show w.heap.size ≤ w.heap.size + 1 + 1 + 1 by omega) (.int .i64 0) (.int .i64 0) (.int .i64 0) (.int .i64 0) (.slice none 0 0) (.slice none 0 0))
    clear hR
    go_wp2
    obtain ⟨⟨q0, q1, q2, q3, q4, q5⟩, -⟩ := HR6.out.six
    exact bodyPost_ret (v := .tuple #[tval zT none 0 none 0, .int .i64 T]) (by simp [results, Try.results43, go_sem, q0, q1, q2, q3, q4, q5, zT]) rfl ⟨none, 0, none, 0, by rw [E1.out, E2.out], by rw [E1.out]; exact Row.nil, by rw [E1.out]; exact Row.nil, HB6.out, newAt_none _, newAt_none _⟩
  · subst qT
    obtain ⟨cHXK, fHXK, sHXK, nHXK⟩ := HXK.out.all
    try simp only [cbox] at cHXK
    obtain ⟨cHXC, fHXC, sHXC, nHXC⟩ := HXC.out.all
    try simp only [cbox] at cHXC
    by_cases qa : argOk n key col val = true
    rotate_left
    · have qa' : argOk n key col val = false := by simpa using qa
      have E1 : Hid (R = zT) := hid (HX1.out (.inr (.inl qa')))
      have E2 : Hid (RE = 1) := hid (by have e := HE.out; rw [if_neg (by simp), if_pos qa'] at e; exact e)
      unfold argOk at qa'
      clear qa
      have hs := HBW.out.size
      cases q1 : inB n 0 3
      · rw [q1] at hwn
        have HWN := hid hwn
        clear hwn hky hva q1 qa'
        go_wp2_with fail
        refine (HWN.out _).mono ?_
        rintro e w2 ⟨rfl, rfl⟩
        have hR := HXR.out
        obtain ⟨⟨r0, r1, r2, r3, r4, r5⟩, f0, f1, f2, f3, f4, f5⟩ := hR.six
        have HR6 := hid (Blk.set6 hR (.int .i64 0) (.int .i64 0) (.int .i64 0) (.int .i64 0) (.slice none 0 0) (.slice none 0 0))
        have HB6 := hid (Below.set6 HBW.out (show w.heap.size ≤ w.heap.size + 1 + 1 + 1 by omega) (.int .i64 0) (.int .i64 0) (.int .i64 0) (.int .i64 0) (.slice none 0 0) (.slice none 0 0))
        clear hR
        go_wp2
        obtain ⟨⟨q0, q1, q2, q3, q4, q5⟩, -⟩ := HR6.out.six
        exact bodyPost_ret (v := .tuple #[tval zT none 0 none 0, .int .i64 1]) (by simp [results, Try.results43, go_sem, q0, q1, q2, q3, q4, q5, zT]) rfl ⟨none, 0, none, 0, by rw [E1.out, E2.out], by rw [E1.out]; exact Row.nil, by rw [E1.out]; exact Row.nil, HB6.out, newAt_none _, newAt_none _⟩
      · cases q2 : inB key 0 49
        · rw [q1] at hwn
          rw [q2] at hky
          have HWN := hid hwn
          have HKY := hid hky
          clear hwn hky hva q1 q2 qa'
          go_wp2_with fail
          refine (HWN.out _).mono ?_
          rintro e w2 ⟨rfl, rfl⟩
          go_wp2_with fail
          refine (HKY.out _).mono ?_
          rintro e w2 ⟨rfl, rfl⟩
          have hR := HXR.out
          obtain ⟨⟨r0, r1, r2, r3, r4, r5⟩, f0, f1, f2, f3, f4, f5⟩ := hR.six
          have HR6 := hid (Blk.set6 hR (.int .i64 0) (.int .i64 0) (.int .i64 0) (.int .i64 0) (.slice none 0 0) (.slice none 0 0))
          have HB6 := hid (Below.set6 HBW.out (show w.heap.size ≤ w.heap.size + 1 + 1 + 1 by omega) (.int .i64 0) (.int .i64 0) (.int .i64 0) (.int .i64 0) (.slice none 0 0) (.slice none 0 0))
          clear hR
          go_wp2
          obtain ⟨⟨q0, q1, q2, q3, q4, q5⟩, -⟩ := HR6.out.six
          exact bodyPost_ret (v := .tuple #[tval zT none 0 none 0, .int .i64 1]) (by simp [results, Try.results43, go_sem, q0, q1, q2, q3, q4, q5, zT]) rfl ⟨none, 0, none, 0, by rw [E1.out, E2.out], by rw [E1.out]; exact Row.nil, by rw [E1.out]; exact Row.nil, HB6.out, newAt_none _, newAt_none _⟩
        · rw [q1, q2] at qa'
          have q3 : (inB col 0 2 && inB val (-1000) 1000) = false := by simpa using qa'
          rw [q1] at hwn
          rw [q2] at hky
          rw [q3] at hva
          have HWN := hid hwn
          have HKY := hid hky
          have HVA := hid hva
          clear hwn hky hva q1 q2 q3 qa'
          go_wp2_with fail
          refine (HWN.out _).mono ?_
          rintro e w2 ⟨rfl, rfl⟩
          go_wp2_with fail
          refine (HKY.out _).mono ?_
          rintro e w2 ⟨rfl, rfl⟩
          go_wp2_with fail
          refine (HVA.out _).mono ?_
          rintro e w2 ⟨rfl, rfl⟩
          have hR := HXR.out
          obtain ⟨⟨r0, r1, r2, r3, r4, r5⟩, f0, f1, f2, f3, f4, f5⟩ := hR.six
          have HR6 := hid (Blk.set6 hR (.int .i64 0) (.int .i64 0) (.int .i64 0) (.int .i64 0) (.slice none 0 0) (.slice none 0 0))
          have HB6 := hid (Below.set6 HBW.out (show w.heap.size ≤ w.heap.size + 1 + 1 + 1 by omega) (.int .i64 0) (.int .i64 0) (.int .i64 0) (.int .i64 0) (.slice none 0 0) (.slice none 0 0))
          clear hR
          go_wp2
          obtain ⟨⟨q0, q1, q2, q3, q4, q5⟩, -⟩ := HR6.out.six
          exact bodyPost_ret (v := .tuple #[tval zT none 0 none 0, .int .i64 1]) (by simp [results, Try.results43, go_sem, q0, q1, q2, q3, q4, q5, zT]) rfl ⟨none, 0, none, 0, by rw [E1.out, E2.out], by rw [E1.out]; exact Row.nil, by rw [E1.out]; exact Row.nil, HB6.out, newAt_none _, newAt_none _⟩
    · have qp : inB n 0 3 = true ∧ inB key 0 49 = true ∧ (inB col 0 2 && inB val (-1000) 1000) = true := by
        unfold argOk at qa
        simp only [Bool.and_eq_true] at qa ⊢
        exact ⟨qa.1.1, qa.1.2, qa.2⟩
      rw [qp.1] at hwn
      rw [qp.2.1] at hky
      rw [qp.2.2] at hva
      have HWN := hid hwn
      have HKY := hid hky
      have HVA := hid hva
      clear hwn hky hva qp
      go_wp2_with fail
      refine (HWN.out _).mono ?_
      rintro e w2 ⟨rfl, rfl⟩
      go_wp2_with fail
      refine (HKY.out _).mono ?_
      rintro e w2 ⟨rfl, rfl⟩
      go_wp2_with fail
      refine (HVA.out _).mono ?_
      rintro e w2 ⟨rfl, rfl⟩
      clear cHXK fHXK sHXK nHXK
      clear cHXC fHXC sHXC nHXC
      obtain ⟨cHXT, fHXT, sHXT, nHXT⟩ := HXT.out.all
      try simp only [cbox] at cHXT
      go_wp2_with fail
      refine (HNX.out _ HBW.out).mono ?_
      rintro e w2 ⟨rfl, hb2⟩
      clear cHXT fHXT sHXT nHXT
      replace HXT := hid (HXT.out.step hb2)
      replace HXK := hid (HXK.out.step hb2)
      replace HXC := hid (HXC.out.step hb2)
      replace HXR := hid (HXR.out.step hb2)
      replace HBW := hid (Below.step' HBW.out hb2)
      clear hb2
      obtain ⟨D0, D1⟩ := D
      simp only [dval]
      by_cases qn : NE = 0
      rotate_left
      · have t1 : (NE != 0) = true := by simpa using qn
        have E1 : Hid (R = zT) := hid (HX1.out (.inr (.inr (.inl qn))))
        have E2 : Hid (RE = NE) := hid (by have e := HE.out; rw [if_neg (by simp), if_neg (by simp [qa]), if_pos qn] at e; exact e)
        clear qn
        replace HXR := hid (HXR.out.alloc (.cells #[.int .i64 D0, .int .i64 D1] 27))
        replace HBW := hid (HBW.out.alloc HBW.out.size (.cells #[.int .i64 D0, .int .i64 D1] 27))
        have hlr := HXR.out.lt
        simp only [World.size_alloc] at hlr
        obtain ⟨Wz, hWz⟩ : ∃ Wz : World, Wz = w2.alloc (.cells #[.int .i64 D0, .int .i64 D1] 27) := ⟨_, rfl⟩
        rw [← hWz] at HXR HBW
        go_upto_region 8 with fail
        rw [← hWz]
        clear hWz
        have hR := HXR.out
        obtain ⟨⟨r0, r1, r2, r3, r4, r5⟩, f0, f1, f2, f3, f4, f5⟩ := hR.six
        have HR6 := hid (Blk.set6 hR (.int .i64 0) (.int .i64 0) (.int .i64 0) (.int .i64 0) (.slice none 0 0) (.slice none 0 0))
        have HB6 := hid (Below.set6 HBW.out (show w.heap.size ≤ w.heap.size + 1 + 1 + 1 by omega) (.int .i64 0) (.int .i64 0) (.int .i64 0) (.int .i64 0) (.slice none 0 0) (.slice none 0 0))
        clear hR
        go_wp2
        obtain ⟨⟨q0, q1, q2, q3, q4, q5⟩, -⟩ := HR6.out.six
        exact bodyPost_ret (v := .tuple #[tval zT none 0 none 0, .int .i64 NE]) (by simp [results, Try.results43, go_sem, q0, q1, q2, q3, q4, q5, zT]) rfl ⟨none, 0, none, 0, by rw [E1.out, E2.out], by rw [E1.out]; exact Row.nil, by rw [E1.out]; exact Row.nil, HB6.out, newAt_none _, newAt_none _⟩
      · subst qn
        have hs2 := HBW.out.size
        have hlx := HXR.out.lt
        have HBD := hid ((Below.refl w2.heap.size w2).alloc (Nat.le_refl _) (.cells #[.int .i64 D0, .int .i64 D1] 27))
        have HXD := hid (Blk.new w2 #[.int .i64 D0, .int .i64 D1] 27)
        obtain ⟨cHXT, fHXT, sHXT, nHXT⟩ := HXT.out.all
        try simp only [cbox] at cHXT
        go_wp2_with fail
        refine (HDO.out _ (w.heap.size + 1) (w.heap.size + 1 + 1) (Below.step' HBW.out HBD.out) (HXK.out.step HBD.out) (HXC.out.step HBD.out)).mono ?_
        rintro e w3 ⟨v3, rfl, hown3, hb3⟩
        obtain ⟨A3, k3, rfl⟩ := own_form hown3
        have hB3 : Below w2.heap.size w2 w3 := Below.step' HBD.out hb3
        clear cHXT fHXT sHXT nHXT
        replace HXK := hid (HXK.out.step hB3)
        replace HXC := hid (HXC.out.step hB3)
        replace HXR := hid (HXR.out.step hB3)
        replace HXD := hid (HXD.out.step hb3)
        replace HBW := hid (Below.step' HBW.out hB3)
        have HOWN3 := hid hown3
        have hs3 := hb3.size
        clear hown3 hb3 hB3 HXT HDO HNX HTC
        obtain ⟨cHXD, fHXD, sHXD, nHXD⟩ := HXD.out.all
        try simp only [cbox] at cHXD
        go_wp2_with (at_builtin; refine wpList_append_own _ rfl _ _ 23 rfl (w2.alloc (.cells #[.int .i64 D0, .int .i64 D1] 27)).heap.size 27 i0 _ 2 16 Try.underlying23 hi0 hz0 hz1 hz2 rfl (by decide) _ _ _ rfl (HOWN3.out.alloc _) ⟨w3.heap.size, 0, none⟩ 1 1 (dcells [(D0, D1)]) rfl rfl (news_new w3 _ _ _ _ rfl) (dcells_one _) ?_ ?_ ?_ ?_; rotate_right; intro v6 w6 hown6 hg6 hif6; clear hif6; obtain ⟨A6, c6, rfl⟩ := own_form hown6; rotate_left; (simp only [maxLen]; omega); (omega); (simp; omega))
        have hpl := HL.out
        have hlen : PL.length = G.length + 1 := by rw [hpl]; simp
        have hown6' : w6.ownsRow (w2.alloc (.cells #[.int .i64 D0, .int .i64 D1] 27)).heap.size 27 2 (.slice A6 PL.length c6) PL.length (dcells PL) := by rw [hlen, hpl]; simpa [dcells] using hown6
        have hct := context_tab PL A6 c6 _ w6 hown6' (by omega) (by omega)
        rw [hlen] at hct
        have HCT := hid hct
        have hb6 : Below (w2.heap.size + 1) w3 w6 := ((Below.refl _ _).alloc (by simp at hs3; omega) _).grown hg6 (by simp at hs3 ⊢; omega) (fun g e => by have := (HOWN3.out.lt g e).1; simp at this; omega)
        have HXK6 := hid (HXK.out.thru hb6 (by omega))
        have HXC6 := hid (HXC.out.thru hb6 (by omega))
        have HXR6 := hid (HXR.out.thru hb6 (by omega))
        have HXD6 := hid (HXD.out.thru hb6 (by omega))
        replace HBW := hid (HBW.out.trans (hb6.mono (by omega)))
        clear hpl hlen hown6 hown6' hct hg6 hb6 HXK HXC HXR HXD HOWN3
        have hlx6 := HXR6.out.lt
        refine HCT.out.mono ?_
        rintro e w7 ⟨A7, k7, rfl, hr7, hb7, hn7⟩
        replace HXK6 := hid (HXK6.out.step hb7)
        replace HXC6 := hid (HXC6.out.step hb7)
        replace HXR6 := hid (HXR6.out.step hb7)
        replace HXD6 := hid (HXD6.out.step hb7)
        have hs6 := HBW.out.size
        replace HBW := hid (Below.step' HBW.out hb7)
        have HR7 := hid hr7
        have HN7 := hid hn7
        have hs7 := hb7.size
        clear hr7 hb7 hn7
        obtain ⟨X7, hX7⟩ : ∃ X7, X7 = ctxX PL := ⟨_, rfl⟩
        obtain ⟨E7, hE7⟩ : ∃ E7, E7 = ctxE PL := ⟨_, rfl⟩
        rw [← hX7, ← hE7] at HX2
        rw [← hE7] at HX1 HE
        rw [← hX7] at HR7
        rw [← hX7, ← hE7]
        clear hX7 hE7
        simp only [cval]
        by_cases q7 : E7 = 0
        rotate_left
        · have t1 : (E7 != 0) = true := by simpa using q7
          have E1 : Hid (R = zT) := hid (HX1.out (.inr (.inr (.inr q7))))
          have E2 : Hid (RE = E7) := hid (by have e := HE.out; rw [if_neg (by simp), if_neg (by simp [qa]), if_neg (by simp)] at e; exact e)
          clear q7
          replace HXR6 := hid (HXR6.out.alloc (.cells #[.int .i64 X7.c0, .int .i64 X7.c1, .int .i64 X7.c2, .int .i64 X7.c3, .slice A7 X7.cloud.length k7] 25))
          replace HBW := hid (HBW.out.alloc HBW.out.size (.cells #[.int .i64 X7.c0, .int .i64 X7.c1, .int .i64 X7.c2, .int .i64 X7.c3, .slice A7 X7.cloud.length k7] 25))
          obtain ⟨Wz, hWz⟩ : ∃ Wz : World, Wz = w7.alloc (.cells #[.int .i64 X7.c0, .int .i64 X7.c1, .int .i64 X7.c2, .int .i64 X7.c3, .slice A7 X7.cloud.length k7] 25) := ⟨_, rfl⟩
          rw [← hWz] at HXR6 HBW
          go_upto_region 12 with fail
          rw [← hWz]
          clear hWz
          have hR := HXR6.out
          obtain ⟨⟨r0, r1, r2, r3, r4, r5⟩, f0, f1, f2, f3, f4, f5⟩ := hR.six
          have HR6 := hid (Blk.set6 hR (.int .i64 0) (.int .i64 0) (.int .i64 0) (.int .i64 0) (.slice none 0 0) (.slice none 0 0))
          have HB6 := hid (Below.set6 HBW.out (show w.heap.size ≤ w.heap.size + 1 + 1 + 1 by omega) (.int .i64 0) (.int .i64 0) (.int .i64 0) (.int .i64 0) (.slice none 0 0) (.slice none 0 0))
          clear hR
          go_wp2
          obtain ⟨⟨q0, q1, q2, q3, q4, q5⟩, -⟩ := HR6.out.six
          exact bodyPost_ret (v := .tuple #[tval zT none 0 none 0, .int .i64 E7]) (by simp [results, Try.results43, go_sem, q0, q1, q2, q3, q4, q5, zT]) rfl ⟨none, 0, none, 0, by rw [E1.out, E2.out], by rw [E1.out]; exact Row.nil, by rw [E1.out]; exact Row.nil, HB6.out, newAt_none _, newAt_none _⟩
        · subst q7
          have E1 := hid (HX2.out (by first | rfl | trivial) qa (by first | rfl | trivial) (by first | rfl | trivial))
          have E2 : Hid (RE = 0) := hid (by have e := HE.out; rw [if_neg (by simp), if_neg (by simp [qa]), if_neg (by simp)] at e; exact e)
          have HX16 := hid (Blk.new w7 (cbox X7 A7 k7) 25)
          have hBz : Below w7.heap.size w7 (w7.alloc (.cells (cbox X7 A7 k7) 25)) := (Below.refl _ _).alloc (Nat.le_refl _) _
          replace HXK6 := hid (HXK6.out.step hBz)
          replace HXC6 := hid (HXC6.out.step hBz)
          replace HXR6 := hid (HXR6.out.step hBz)
          replace HXD6 := hid (HXD6.out.step hBz)
          replace HR7 := hid (HR7.out.step hBz)
          replace HBW := hid (Below.step' HBW.out hBz)
          have hsz := hBz.size
          obtain ⟨Wz, hWz⟩ : ∃ Wz : World, Wz = w7.alloc (.cells (cbox X7 A7 k7) 25) := ⟨_, rfl⟩
          rw [← hWz] at HXK6 HXC6 HXR6 HXD6 HR7 HBW HX16 hsz
          simp only [cbox] at hWz
          go_upto_region 13 with fail
          rw [← hWz]
          clear hWz hBz
          have hR := HXR6.out
          obtain ⟨⟨r0, r1, r2, r3, r4, r5⟩, f0, f1, f2, f3, f4, f5⟩ := hR.six
          have hrl := hR.lt
          have nlx : (w.heap.size + 1 + 1 + 1 = Wz.heap.size) = False := by simp; omega
          have HR6 := hid (Blk.set6 hR (.int .i64 X7.c0) (.int .i64 X7.c1) (.int .i64 X7.c2) (.int .i64 X7.c3) (.slice A7 X7.cloud.length k7) (.slice (some ⟨Wz.heap.size, 0, none⟩) 1 1))
          have HB6 := hid (Below.set6 HBW.out (show w.heap.size ≤ w.heap.size + 1 + 1 + 1 by omega) (.int .i64 X7.c0) (.int .i64 X7.c1) (.int .i64 X7.c2) (.int .i64 X7.c3) (.slice A7 X7.cloud.length k7) (.slice (some ⟨Wz.heap.size, 0, none⟩) 1 1))
          have HROW := hid (Row.set6 HR7.out HN7.out (show w.heap.size + 1 + 1 + 1 < w6.heap.size by omega) (.int .i64 X7.c0) (.int .i64 X7.c1) (.int .i64 X7.c2) (.int .i64 X7.c3) (.slice A7 X7.cloud.length k7) (.slice (some ⟨Wz.heap.size, 0, none⟩) 1 1))
          clear hR
          obtain ⟨⟨x0, x1, x2, x3, x4⟩, -⟩ := HX16.out.five
          have y0 : Wz.cell? ⟨w2.heap.size, 0, none⟩ = some (.int .i64 D0) := (HXD6.out.cells.1 0).trans rfl
          have y1 : Wz.cell? ⟨w2.heap.size, 1, none⟩ = some (.int .i64 D1) := (HXD6.out.cells.1 1).trans rfl
          have yk : Wz.cell? ⟨w.heap.size + 1, 0, none⟩ = some (.int .i64 key) := (HXK6.out.cells.1 0).trans rfl
          have yc : Wz.cell? ⟨w.heap.size + 1 + 1, 0, none⟩ = some (.int .i64 col) := (HXC6.out.cells.1 0).trans rfl
          have bc := fun w => build_cel D0 D1 key col val w
          have bt := fun B m w => build_tab X7.c0 X7.c1 X7.c2 X7.c3 A7 B X7.cloud.length k7 1 m w
          have HQ := hid ((HR6.out.alloc (.cells #[.int .i64 D0, .int .i64 D1, .int .i64 key, .int .i64 col, .int .i64 val] 62)).six.1)
          go_wp2_with (refine bodyPost_ret (v := .tuple #[tval ⟨X7, [⟨(D0, D1), key, col, val⟩]⟩ A7 k7 (some ⟨Wz.heap.size, 0, none⟩) 1, .int .i64 0]) ?h1 rfl ?h2)
          case h1 =>
            obtain ⟨q0, q1, q2, q3, q4, q5⟩ := HQ.out
            simp [results, Try.results43, go_sem, q0, q1, q2, q3, q4, q5]
          case h2 =>
            exact ⟨A7, k7, some ⟨Wz.heap.size, 0, none⟩, 1, by rw [E1.out, E2.out], by rw [E1.out]; exact HROW.out.alloc _, by rw [E1.out]; exact Row.new' _ _ _ (by simp) rfl (by simp),
              alloc_below HB6.out _, fun b off q e => Nat.le_trans hs6 (HN7.out b off q e), fun b off q e => by injection e with e; injection e with e; omega⟩
end Go.Proofs.Ytogegnikpjcpdaa
/- table.Del. -/
namespace Go.Proofs.Ytogegnikpjcpdaa
set_option linter.unusedVariables false
open Go.ChangeShapes Go.WideShapes Go.ChangeAt Go.RowKit

theorem build_tab0 (c0 c1 c2 c3 : Int) (A : Option Addr) (n k : Nat) (w : World) : (Instr.build 59 #[(0, .agg #[.int .i64 c0, .int .i64 c1, .int .i64 c2, .int .i64 c3, .slice A n k])]).run Try.prog w = .ok (.agg #[.int .i64 c0, .int .i64 c1, .int .i64 c2, .int .i64 c3, .slice A n k, .slice none 0 0]) w :=
  run_build w _ _ _ (by kernel_rfl)

set_option maxHeartbeats 1600000 in
set_option maxRecDepth 100000 in
theorem del_any (t : Tab) (key : Int) (A : Option Addr) (k : Nat) (B : Option Addr) (m : Nat) (w : World) (ra : Row w w.heap.size A (dcells t.c.cloud)) (la : t.c.cloud.length ≤ 9223372036854775807)
    (rb : Row w w.heap.size B (tcells t.cells)) (lb : t.cells.length ≤ 4398046511104) :
    Calls Try.prog 45 #[tval t A k B m, .int .i64 key] w (TabErr (delX t key) (delE t key) w) := by
  have HTC := hid (fun w1 (hb : Below w.heap.size w w1) => tcheck_any t A k B m w1 (ra.step hb) la (rb.step hb) (by omega))
  have HDO := hid (fun w1 X (hb : Below w.heap.size w w1) (hX : Blk w1 X #[.int .i64 key] 3) =>
    dots_any t 81 #[.pointer (some ⟨X, 0, none⟩)] (atK key) A k B m w1 (rb.step hb) lb enters_del1 (fun w2 hb2 x _ => del1_any x key X w2 (hX.step hb2)))
  have hX1 : (tabI t ≠ 0 ∨ inB key 0 49 = false ∨ delL t key = []) → delX t key = zT := fun h => by unfold delX; rw [if_pos h]
  have hX2 : tabI t = 0 → inB key 0 49 = true → delL t key ≠ [] → delX t key = ⟨ctxX (delL t key), []⟩ := fun h1 h2 h3 => by unfold delX; rw [if_neg (by simp [h1, h2, h3])]
  have hE : delE t key = if tabI t ≠ 0 then tabI t else if inB key 0 49 = false then 1 else if delL t key = [] then 4 else ctxE (delL t key) := rfl
  have hLL : (delL t key).length ≤ t.cells.length := by unfold delL; rw [List.length_map]; exact List.length_filter_le _ _
  rw [show (t.cells.filter (atK key)).map Cel.d = delL t key from rfl] at HDO
  obtain ⟨R, hR⟩ : ∃ R, R = delX t key := ⟨_, rfl⟩
  obtain ⟨RE, hRE⟩ : ∃ RE, RE = delE t key := ⟨_, rfl⟩
  rw [← hR, ← hRE]
  rw [← hR] at hX1 hX2
  rw [← hRE] at hE
  clear hR hRE
  obtain ⟨G, hG⟩ : ∃ G, G = delL t key := ⟨_, rfl⟩
  rw [← hG] at hX1 hX2 hE hLL HDO
  clear hG
  obtain ⟨T, hT⟩ : ∃ T, T = tabI t := ⟨_, rfl⟩
  rw [← hT] at HTC hX1 hX2 hE
  clear hT
  have HX1 := hid hX1
  have HX2 := hid hX2
  have HE := hid hE
  clear hX1 hX2 hE ra rb
  obtain ⟨⟨c0, c1, c2, c3, cl⟩, l⟩ := t
  simp only [tval, cval] at *
  have hky := fun w => keyed_any key w
  go_enter Try.func45, Try.ntmps45
  go_wp2_with fail
  refine (HTC.out _ (by (repeat' (first | (with_reducible exact Below.refl _ _) | (with_reducible assumption) | (with_reducible refine below_drewN ?_ _) | (with_reducible refine Below.drew ?_) | (with_reducible refine Below.alloc ?_ ?_ _) | (with_reducible refine Below.setCell ?_ ?_ _) | (refine Below.trans ?_ (Below.mono (by assumption) ?_)) | go_size)))).mono ?_
  rintro e w1 ⟨rfl, hb1⟩
  have HBW := hid (show Below w.heap.size w w1 from (by refine Below.step' ?_ hb1; (repeat' (first | (with_reducible exact Below.refl _ _) | (with_reducible assumption) | (with_reducible refine below_drewN ?_ _) | (with_reducible refine Below.drew ?_) | (with_reducible refine Below.alloc ?_ ?_ _) | (with_reducible refine Below.setCell ?_ ?_ _) | (refine Below.trans ?_ (Below.mono (by assumption) ?_)) | go_size))))
  have HXT := hid (Blk.step (w := _) (b := w.heap.size) (cs := #[.int .i64 c0, .int .i64 c1, .int .i64 c2, .int .i64 c3, .slice A cl.length k, .slice B l.length m]) (T := 59) (by exact ((Blk.new w _ _).alloc _).alloc _) hb1)
  have HXK := hid (Blk.step (w := _) (b := w.heap.size + 1) (cs := #[.int .i64 key]) (T := 3) (by exact (Blk.new' (w.alloc _) _ _ (by simp)).alloc _) hb1)
  have HXR := hid (Blk.step (w := _) (b := w.heap.size + 1 + 1) (cs := #[.int .i64 0, .int .i64 0, .int .i64 0, .int .i64 0, .slice none 0 0, .slice none 0 0]) (T := 59) (by exact Blk.new' ((w.alloc _).alloc _) _ _ (by simp)) hb1)
  clear hb1
  by_cases qT : T = 0
  rotate_left
  · have t1 : (T != 0) = true := by simpa using qT
    have E1 : Hid (R = zT) := hid (HX1.out (.inl qT))
    have E2 : Hid (RE = T) := hid (by have e := HE.out; rw [if_pos qT] at e; exact e)
    clear qT
    have hR := HXR.out
    obtain ⟨⟨r0, r1, r2, r3, r4, r5⟩, f0, f1, f2, f3, f4, f5⟩ := hR.six
    have HR6 := hid (Blk.set6 hR (.int .i64 0) (.int .i64 0) (.int .i64 0) (.int .i64 0) (.slice none 0 0) (.slice none 0 0))
    have HB6 := hid (Below.set6 HBW.out (show w.heap.size ≤ w.heap.size + 1 + 1 by omega) (.int .i64 0) (.int .i64 0) (.int .i64 0) (.int .i64 0) (.slice none 0 0) (.slice none 0 0))
    clear hR
    go_wp2
    obtain ⟨⟨q0, q1, q2, q3, q4, q5⟩, -⟩ := HR6.out.six
    exact bodyPost_ret (v := .tuple #[tval zT none 0 none 0, .int .i64 T]) (by simp [results, Try.results45, go_sem, q0, q1, q2, q3, q4, q5, zT]) rfl ⟨none, 0, none, 0, by rw [E1.out, E2.out], by rw [E1.out]; exact Row.nil, by rw [E1.out]; exact Row.nil, HB6.out, newAt_none _, newAt_none _⟩
  · subst qT
    obtain ⟨cHXK, fHXK, sHXK, nHXK⟩ := HXK.out.all
    try simp only [cbox] at cHXK
    cases qa : inB key 0 49
    · have E1 : Hid (R = zT) := hid (HX1.out (.inr (.inl qa)))
      have E2 : Hid (RE = 1) := hid (by have e := HE.out; rw [if_neg (by simp), if_pos qa] at e; exact e)
      rw [qa] at hky
      have HKY := hid hky
      clear hky
      go_wp2_with fail
      refine (HKY.out _).mono ?_
      rintro e w2 ⟨rfl, rfl⟩
      have hR := HXR.out
      obtain ⟨⟨r0, r1, r2, r3, r4, r5⟩, f0, f1, f2, f3, f4, f5⟩ := hR.six
      have HR6 := hid (Blk.set6 hR (.int .i64 0) (.int .i64 0) (.int .i64 0) (.int .i64 0) (.slice none 0 0) (.slice none 0 0))
      have HB6 := hid (Below.set6 HBW.out (show w.heap.size ≤ w.heap.size + 1 + 1 by omega) (.int .i64 0) (.int .i64 0) (.int .i64 0) (.int .i64 0) (.slice none 0 0) (.slice none 0 0))
      clear hR
      go_wp2
      obtain ⟨⟨q0, q1, q2, q3, q4, q5⟩, -⟩ := HR6.out.six
      exact bodyPost_ret (v := .tuple #[tval zT none 0 none 0, .int .i64 1]) (by simp [results, Try.results45, go_sem, q0, q1, q2, q3, q4, q5, zT]) rfl ⟨none, 0, none, 0, by rw [E1.out, E2.out], by rw [E1.out]; exact Row.nil, by rw [E1.out]; exact Row.nil, HB6.out, newAt_none _, newAt_none _⟩
    · rw [qa] at hky
      have HKY := hid hky
      have HQA := hid qa
      clear hky qa
      go_wp2_with fail
      refine (HKY.out _).mono ?_
      rintro e w2 ⟨rfl, rfl⟩
      clear cHXK fHXK sHXK nHXK
      obtain ⟨cHXT, fHXT, sHXT, nHXT⟩ := HXT.out.all
      try simp only [cbox] at cHXT
      go_wp2_with fail
      refine (HDO.out _ (w.heap.size + 1) HBW.out HXK.out).mono ?_
      rintro e w3 ⟨v3, rfl, hown3, hb3⟩
      obtain ⟨A3, k3, rfl⟩ := own_form hown3
      clear cHXT fHXT sHXT nHXT
      replace HXR := hid (HXR.out.step hb3)
      replace HBW := hid (Below.step' HBW.out hb3)
      have HOWN3 := hid hown3
      clear hown3 hb3 HXT HDO HTC HXK HKY
      by_cases qg : G = []
      · have E1 : Hid (R = zT) := hid (HX1.out (.inr (.inr qg)))
        have E2 : Hid (RE = 4) := hid (by have e := HE.out; rw [if_neg (by simp), if_neg (by simp [HQA.out]), if_pos qg] at e; exact e)
        have t1 : ((G.length : Int) == 0) = true := by simp [qg]
        clear qg
        have hR := HXR.out
        obtain ⟨⟨r0, r1, r2, r3, r4, r5⟩, f0, f1, f2, f3, f4, f5⟩ := hR.six
        have HR6 := hid (Blk.set6 hR (.int .i64 0) (.int .i64 0) (.int .i64 0) (.int .i64 0) (.slice none 0 0) (.slice none 0 0))
        have HB6 := hid (Below.set6 HBW.out (show w.heap.size ≤ w.heap.size + 1 + 1 by omega) (.int .i64 0) (.int .i64 0) (.int .i64 0) (.int .i64 0) (.slice none 0 0) (.slice none 0 0))
        clear hR
        go_wp2
        obtain ⟨⟨q0, q1, q2, q3, q4, q5⟩, -⟩ := HR6.out.six
        exact bodyPost_ret (v := .tuple #[tval zT none 0 none 0, .int .i64 4]) (by simp [results, Try.results45, go_sem, q0, q1, q2, q3, q4, q5, zT]) rfl ⟨none, 0, none, 0, by rw [E1.out, E2.out], by rw [E1.out]; exact Row.nil, by rw [E1.out]; exact Row.nil, HB6.out, newAt_none _, newAt_none _⟩
      · have hpos : 0 < G.length := List.length_pos_iff.2 qg
        have t1 : ((G.length : Int) == 0) = false := by simp only [beq_eq_false_iff_ne, ne_eq]; omega
        have E1 := hid (HX2.out (by first | rfl | trivial) HQA.out qg)
        have E2 : Hid (RE = ctxE G) := hid (by have e := HE.out; rw [if_neg (by simp), if_neg (by simp [HQA.out]), if_neg qg] at e; exact e)
        have HCT := hid (context_tab G A3 k3 _ w3 HOWN3.out hpos (by omega))
        clear qg
        have hlx3 := HXR.out.lt
        have hs3 := HBW.out.size
        go_wp2_with fail
        refine HCT.out.mono ?_
        rintro e w7 ⟨A7, k7, rfl, hr7, hb7, hn7⟩
        replace HXR := hid (HXR.out.step hb7)
        replace HBW := hid (Below.step' HBW.out hb7)
        have HR7 := hid hr7
        have HN7 := hid hn7
        have hs7 := hb7.size
        clear hr7 hb7 hn7 HCT
        obtain ⟨X7, hX7⟩ : ∃ X7, X7 = ctxX G := ⟨_, rfl⟩
        obtain ⟨E7, hE7⟩ : ∃ E7, E7 = ctxE G := ⟨_, rfl⟩
        rw [← hX7] at E1 HR7
        rw [← hE7] at E2
        rw [← hX7, ← hE7]
        clear hX7 hE7
        simp only [cval]
        have hBz : Below w7.heap.size w7 (w7.alloc (.cells (cbox X7 A7 k7) 25)) := (Below.refl _ _).alloc (Nat.le_refl _) _
        have HX16 := hid (Blk.new w7 (cbox X7 A7 k7) 25)
        replace HXR := hid (HXR.out.step hBz)
        replace HR7 := hid (HR7.out.step hBz)
        replace HBW := hid (Below.step' HBW.out hBz)
        have hsz := hBz.size
        obtain ⟨Wz, hWz⟩ : ∃ Wz : World, Wz = w7.alloc (.cells (cbox X7 A7 k7) 25) := ⟨_, rfl⟩
        rw [← hWz] at HXR HR7 HBW HX16 hsz
        simp only [cbox] at hWz
        go_upto_region 10 with fail
        rw [← hWz]
        clear hWz hBz
        have hR := HXR.out
        obtain ⟨⟨r0, r1, r2, r3, r4, r5⟩, f0, f1, f2, f3, f4, f5⟩ := hR.six
        have HR6 := hid (Blk.set6 hR (.int .i64 X7.c0) (.int .i64 X7.c1) (.int .i64 X7.c2) (.int .i64 X7.c3) (.slice A7 X7.cloud.length k7) (.slice none 0 0))
        have HB6 := hid (Below.set6 HBW.out (show w.heap.size ≤ w.heap.size + 1 + 1 by omega) (.int .i64 X7.c0) (.int .i64 X7.c1) (.int .i64 X7.c2) (.int .i64 X7.c3) (.slice A7 X7.cloud.length k7) (.slice none 0 0))
        have HROW := hid (Row.set6 HR7.out HN7.out (show w.heap.size + 1 + 1 < w3.heap.size by omega) (.int .i64 X7.c0) (.int .i64 X7.c1) (.int .i64 X7.c2) (.int .i64 X7.c3) (.slice A7 X7.cloud.length k7) (.slice none 0 0))
        clear hR
        obtain ⟨⟨x0, x1, x2, x3, x4⟩, -⟩ := HX16.out.five
        have bt := fun w => build_tab0 X7.c0 X7.c1 X7.c2 X7.c3 A7 X7.cloud.length k7 w
        have HQ := hid HR6.out.six.1
        go_wp2_with (refine bodyPost_ret (v := .tuple #[tval ⟨X7, []⟩ A7 k7 none 0, .int .i64 E7]) ?h1 rfl ?h2)
        case h1 =>
          obtain ⟨q0, q1, q2, q3, q4, q5⟩ := HQ.out
          simp [results, Try.results45, go_sem, q0, q1, q2, q3, q4, q5]
        case h2 =>
          exact ⟨A7, k7, none, 0, by rw [E1.out, E2.out], by rw [E1.out]; exact HROW.out, by rw [E1.out]; exact Row.nil,
            HB6.out, fun b off q e => Nat.le_trans hs3 (HN7.out b off q e), newAt_none _⟩
end Go.Proofs.Ytogegnikpjcpdaa
/- viewref.Table. -/
namespace Go.Proofs.Ytogegnikpjcpdaa
set_option linter.unusedVariables false
open Go.ChangeShapes Go.WideShapes Go.ChangeAt Go.RowKit

set_option maxHeartbeats 4000000 in
set_option maxRecDepth 100000 in
theorem rtable_any (t : Tab) (A : Option Addr) (k : Nat) (B : Option Addr) (m : Nat) (w : World) (ra : Row w w.heap.size A (dcells t.c.cloud)) (la : t.c.cloud.length ≤ 9223372036854775807)
    (rb : Row w w.heap.size B (tcells t.cells)) (lb : t.cells.length ≤ 9223372036854775807) :
    Calls Try.prog 40 #[tval t A k B m] w fun e w' => e = .returned (.int .i64 (tabI t)) ∧ Below w.heap.size w w' := by
  have HC := hid (fun w1 (hb : Below w.heap.size w w1) => context_any t.c A k w1 (ra.step hb) la)
  have HH := hid (fun w1 (hb : Below w.heap.size w w1) d => Rhas_any t.c d A k w1 (ra.step hb) la)
  have RB := hid (fun w1 (hb : Below w.heap.size w w1) => rb.step hb)
  have HT1 := hid (@tabI_ctx t)
  have HT2 := hid (@tabI_large t)
  have HT3 := hid (@tabI_form t)
  have HT4 := hid (@tabI_ok t)
  have HBA := hid (fun i (h : i < t.cells.length) => badCel_at (t := t) h)
  clear ra rb
  obtain ⟨⟨c0, c1, c2, c3, cl⟩, l⟩ := t
  obtain ⟨c, hc⟩ : ∃ c : Ctx, c = ⟨c0, c1, c2, c3, cl⟩ := ⟨_, rfl⟩
  simp only [tval, cval] at *
  rw [← hc] at HC HH HT1 HT2 HT3 HT4 HBA ⊢
  have HCC := hid hc
  clear hc
  obtain ⟨I, hI⟩ : ∃ I, I = checkI c := ⟨_, rfl⟩
  rw [← hI] at HC HT1 HT2 HT3 HT4
  clear hI
  obtain ⟨R, hR⟩ : ∃ R, R = tabI ⟨c, l⟩ := ⟨_, rfl⟩
  rw [← hR] at HT1 HT2 HT3 HT4 ⊢
  clear hR
  by_cases q : I = 0
  rotate_left
  · have q2 : (I != 0) = true := by simpa using q
    have HR := hid (HT1.out q)
    clear q
    go_enter Try.func40, Try.ntmps40
    go_wp2_with fail
    refine (HC.out _ (by (repeat' (first | (with_reducible exact Below.refl _ _) | (with_reducible assumption) | (with_reducible refine below_drewN ?_ _) | (with_reducible refine Below.drew ?_) | (with_reducible refine Below.alloc ?_ ?_ _) | (with_reducible refine Below.setCell ?_ ?_ _) | (refine Below.trans ?_ (Below.mono (by assumption) ?_)) | go_size)))).mono ?_
    rintro e w1 ⟨rfl, hb1⟩
    go_wp2
    go_ret
    exact ⟨ret_int HR.out.symm, (by refine Below.step' ?_ hb1; (repeat' (first | (with_reducible exact Below.refl _ _) | (with_reducible assumption) | (with_reducible refine below_drewN ?_ _) | (with_reducible refine Below.drew ?_) | (with_reducible refine Below.alloc ?_ ?_ _) | (with_reducible refine Below.setCell ?_ ?_ _) | (refine Below.trans ?_ (Below.mono (by assumption) ?_)) | go_size)))⟩
  · subst q
    go_enter Try.func40, Try.ntmps40
    go_wp2_with fail
    refine (HC.out _ (by (repeat' (first | (with_reducible exact Below.refl _ _) | (with_reducible assumption) | (with_reducible refine below_drewN ?_ _) | (with_reducible refine Below.drew ?_) | (with_reducible refine Below.alloc ?_ ?_ _) | (with_reducible refine Below.setCell ?_ ?_ _) | (refine Below.trans ?_ (Below.mono (by assumption) ?_)) | go_size)))).mono ?_
    rintro e w1 ⟨rfl, hb1⟩
    have HBW := hid (show Below w.heap.size w w1 from (by refine Below.step' ?_ hb1; (repeat' (first | (with_reducible exact Below.refl _ _) | (with_reducible assumption) | (with_reducible refine below_drewN ?_ _) | (with_reducible refine Below.drew ?_) | (with_reducible refine Below.alloc ?_ ?_ _) | (with_reducible refine Below.setCell ?_ ?_ _) | (refine Below.trans ?_ (Below.mono (by assumption) ?_)) | go_size))))
    have HXT := hid (Blk.step (Blk.new w #[.int .i64 c0, .int .i64 c1, .int .i64 c2, .int .i64 c3, .slice A cl.length k, .slice B l.length m] 59) hb1)
    clear hb1
    obtain ⟨cHXT, fHXT, sHXT, nHXT⟩ := HXT.out.all
    try simp only [cbox] at cHXT
    by_cases h4 : 400 < l.length
    · have hq : decide ((400 : Int) < (l.length : Int)) = true := by simp; omega
      have HR := hid (HT2.out trivial h4)
      go_wp2
      go_ret
      exact ⟨ret_int HR.out.symm, HBW.out⟩
    · have hq : decide ((400 : Int) < (l.length : Int)) = false := by simp; omega
      go_wp2
      clear cHXT fHXT sHXT nHXT
      go_loopw [4] (fun s4 wr => ∃ i : Nat, i ≤ l.length ∧ s4 = .int .i64 i ∧ (∀ j, j < i → badCel ⟨c, l⟩ j = false) ∧ Below w1.heap.size w1 wr) (fun s4 _ => l.length - (intOf s4).toNat)
      case atStart => exact ⟨0, by omega, rfl, fun j h => absurd h (by omega), Below.refl _ _⟩
      case round =>
        obtain ⟨i, hi, rfl, hno, hbw⟩ := hrel
        have HN := hid hno
        have HB := hid (Below.step' HBW.out hbw)
        have HB1 := hid hbw
        have HXR := hid (HXT.out.step hbw)
        clear hno hbw
        by_cases hlt : i < l.length
        · obtain ⟨b, off, hA, hb, e0, e1, e2, e3, e4⟩ := (RB.out wr HB.out).cel hlt
          subst hA
          have hp : 0 < i → ∃ p : Int × Int, (l.getD (i - 1) ⟨(0, 0), 0, 0, 0⟩).d = p ∧ ∀ w1, Below w.heap.size w w1 → w1.cell? ⟨b, off + (i - 1) * 5, none⟩ = some (.int .i64 p.1) ∧ w1.cell? ⟨b, off + (i - 1) * 5 + 1, none⟩ = some (.int .i64 p.2) := by
            intro hm
            refine ⟨l[i - 1].d, by simp [List.getD, show i - 1 < l.length by omega], fun w1 hb1 => ?_⟩
            obtain ⟨b', off', he, hb', h0', h1', -⟩ := (RB.out w1 hb1).cel (k := i - 1) (by omega)
            injection he with he
            injection he with he1 he2
            subst he1 he2
            exact ⟨h0', h1'⟩
          have HBAD := hid (HBA.out i hlt)
          have HT3i := hid (fun hb => HT3.out trivial (by simpa using h4) (i := i) hlt hb)
          try simp only at HBAD
          generalize l[i] = x at *
          obtain ⟨⟨d0, d1⟩, key, col, val⟩ := x
          simp only at e0 e1 e2 e3 e4
          obtain ⟨cHXR, fHXR, sHXR, nHXR⟩ := HXR.out.all
          try simp only [cbox] at cHXR
          have hneb : (b = wr.heap.size) = False := by simp; omega
          have HX5 := hid (Blk.new wr #[.int .i64 d0, .int .i64 d1, .int .i64 key, .int .i64 col, .int .i64 val] 62)
          have HB2 := hid HB.out
          have HB12 := hid HB1.out
          have hrr := fun w => Rright_any d0 d1 w
          cases hright : rightB d0 d1
          · have HR := hid (HT3i.out (by rw [HBAD.out, celOk_no (.inl hright)]; rfl))
            rw [hright] at hrr
            have HRR := hid hrr
            clear hrr
            go_wp2_with fail
            refine (HRR.out _).mono ?_
            rintro e w2 ⟨rfl, hb2⟩
            go_wp2
            go_ret
            exact ⟨ret_int HR.out.symm, by refine Below.step' (HB.out.alloc HB.out.size _) hb2⟩
          · rw [hright] at hrr
            have HRR := hid hrr
            clear hrr
            go_wp2_with fail
            refine (HRR.out _).mono ?_
            rintro e w2 ⟨rfl, hb2⟩
            have hB2 : Below wr.heap.size wr w2 := (by refine Below.step' ?_ hb2; (repeat' (first | (with_reducible exact Below.refl _ _) | (with_reducible assumption) | (with_reducible refine below_drewN ?_ _) | (with_reducible refine Below.drew ?_) | (with_reducible refine Below.alloc ?_ ?_ _) | (with_reducible refine Below.setCell ?_ ?_ _) | (refine Below.trans ?_ (Below.mono (by assumption) ?_)) | go_size)))
            replace HX5 := hid (HX5.out.step hb2)
            clear cHXR fHXR sHXR nHXR
            replace HXR := hid (HXR.out.step hB2)
            have HBO := hid (Below.step' HB.out hB2)
            have HBO1 := hid (Below.step' HB1.out hB2)
            have hs2 := hB2.size
            clear hb2 hB2 e0 e1 e2 e3 e4 hneb hb
            obtain ⟨cHXR, fHXR, sHXR, nHXR⟩ := HXR.out.all
            try simp only [cbox] at cHXR
            obtain ⟨cHX5, fHX5, sHX5, nHX5⟩ := HX5.out.all
            try simp only [cbox] at cHX5
            have hh := fun w1 (hb : Below w.heap.size w w1) => HH.out w1 hb (d0, d1)
            cases hhas : hasB c (d0, d1)
            · have HR := hid (HT3i.out (by rw [HBAD.out, celOk_no (.inr (.inl hhas))]; rfl))
              rw [hhas] at hh
              have HHQ := hid hh
              clear hh
              go_wp2_with fail
              refine (HHQ.out _ HBO.out).mono ?_
              rintro e w3 ⟨rfl, hb3⟩
              go_wp2
              go_ret
              exact ⟨ret_int HR.out.symm, Below.step' HBO.out hb3⟩
            · rw [hhas] at hh
              have HHQ := hid hh
              clear hh
              have hky := fun w => in_any key 0 49 w
              have hco := fun w => in_any col 0 2 w
              have hva := fun w => in_any val (-1000) 1000 w
              cases hkey : inB key 0 49
              · have HR := hid (HT3i.out (by rw [HBAD.out, celOk_no (.inr (.inr (.inl hkey)))]; rfl))
                rw [hkey] at hky
                have HKY := hid hky
                clear hky hva hco
                go_wp2_with fail
                refine (HHQ.out _ HBO.out).mono ?_
                rintro e w3 ⟨rfl, hb3⟩
                have hB3 : Below w2.heap.size w2 w3 := (by refine Below.step' ?_ hb3; (repeat' (first | (with_reducible exact Below.refl _ _) | (with_reducible assumption) | (with_reducible refine below_drewN ?_ _) | (with_reducible refine Below.drew ?_) | (with_reducible refine Below.alloc ?_ ?_ _) | (with_reducible refine Below.setCell ?_ ?_ _) | (refine Below.trans ?_ (Below.mono (by assumption) ?_)) | go_size)))
                clear cHX5 fHX5 sHX5 nHX5
                replace HX5 := hid (HX5.out.step hB3)
                obtain ⟨cHX5, fHX5, sHX5, nHX5⟩ := HX5.out.all
                try simp only [cbox] at cHX5
                go_wp2_with fail
                refine (HKY.out _).mono ?_
                rintro e w4 ⟨rfl, rfl⟩
                go_wp2
                go_ret
                exact ⟨ret_int HR.out.symm, Below.step' HBO.out hb3⟩
              · cases hcol : inB col 0 2
                · have HR := hid (HT3i.out (by rw [HBAD.out, celOk_no (.inr (.inr (.inr (by rw [hcol]; rfl))))]; rfl))
                  rw [hkey] at hky
                  rw [hcol] at hco
                  have HKY := hid hky
                  have HVA := hid hco
                  clear hky hva hco hkey hcol
                  go_wp2_with fail
                  refine (HHQ.out _ HBO.out).mono ?_
                  rintro e w3 ⟨rfl, hb3⟩
                  have hB3 : Below w2.heap.size w2 w3 := (by refine Below.step' ?_ hb3; (repeat' (first | (with_reducible exact Below.refl _ _) | (with_reducible assumption) | (with_reducible refine below_drewN ?_ _) | (with_reducible refine Below.drew ?_) | (with_reducible refine Below.alloc ?_ ?_ _) | (with_reducible refine Below.setCell ?_ ?_ _) | (refine Below.trans ?_ (Below.mono (by assumption) ?_)) | go_size)))
                  clear cHX5 fHX5 sHX5 nHX5
                  replace HX5 := hid (HX5.out.step hB3)
                  obtain ⟨cHX5, fHX5, sHX5, nHX5⟩ := HX5.out.all
                  try simp only [cbox] at cHX5
                  go_wp2_with fail
                  refine (HKY.out _).mono ?_
                  rintro e w4 ⟨rfl, rfl⟩
                  go_wp2_with fail
                  refine (HVA.out _).mono ?_
                  rintro e w4 ⟨rfl, rfl⟩
                  go_wp2
                  go_ret
                  exact ⟨ret_int HR.out.symm, Below.step' HBO.out hb3⟩
                · cases hval : inB val (-1000) 1000
                  · have HR := hid (HT3i.out (by rw [HBAD.out, celOk_no (.inr (.inr (.inr (by rw [hcol, hval]; rfl))))]; rfl))
                    rw [hkey] at hky
                    rw [hcol] at hco
                    rw [hval] at hva
                    have HKY := hid hky
                    have HVA := hid hva
                    have HCO := hid hco
                    clear hky hva hco hkey hval hcol
                    go_wp2_with fail
                    refine (HHQ.out _ HBO.out).mono ?_
                    rintro e w3 ⟨rfl, hb3⟩
                    have hB3 : Below w2.heap.size w2 w3 := (by refine Below.step' ?_ hb3; (repeat' (first | (with_reducible exact Below.refl _ _) | (with_reducible assumption) | (with_reducible refine below_drewN ?_ _) | (with_reducible refine Below.drew ?_) | (with_reducible refine Below.alloc ?_ ?_ _) | (with_reducible refine Below.setCell ?_ ?_ _) | (refine Below.trans ?_ (Below.mono (by assumption) ?_)) | go_size)))
                    clear cHX5 fHX5 sHX5 nHX5
                    replace HX5 := hid (HX5.out.step hB3)
                    obtain ⟨cHX5, fHX5, sHX5, nHX5⟩ := HX5.out.all
                    try simp only [cbox] at cHX5
                    go_wp2_with fail
                    refine (HKY.out _).mono ?_
                    rintro e w4 ⟨rfl, rfl⟩
                    go_wp2_with fail
                    refine (HCO.out _).mono ?_
                    rintro e w4 ⟨rfl, rfl⟩
                    go_wp2_with fail
                    refine (HVA.out _).mono ?_
                    rintro e w4 ⟨rfl, rfl⟩
                    go_wp2
                    go_ret
                    exact ⟨ret_int HR.out.symm, Below.step' HBO.out hb3⟩
                  · have hok := celOk_parts (c := c) (x := ⟨(d0, d1), key, col, val⟩) hright hhas hkey (by rw [hcol, hval]; rfl)
                    rw [hkey] at hky
                    rw [hcol] at hco
                    rw [hval] at hva
                    have HKY := hid hky
                    have HVA := hid hva
                    have HCO := hid hco
                    have hbad := HBAD.out
                    rw [hok] at hbad
                    have HBD := hid hbad
                    clear hky hva hco hkey hval hcol hok hbad hright hhas
                    go_wp2_with fail
                    refine (HHQ.out _ HBO.out).mono ?_
                    rintro e w3 ⟨rfl, hb3⟩
                    have hB3 : Below w2.heap.size w2 w3 := (by refine Below.step' ?_ hb3; (repeat' (first | (with_reducible exact Below.refl _ _) | (with_reducible assumption) | (with_reducible refine below_drewN ?_ _) | (with_reducible refine Below.drew ?_) | (with_reducible refine Below.alloc ?_ ?_ _) | (with_reducible refine Below.setCell ?_ ?_ _) | (refine Below.trans ?_ (Below.mono (by assumption) ?_)) | go_size)))
                    clear cHX5 fHX5 sHX5 nHX5
                    clear cHXR fHXR sHXR nHXR
                    replace HX5 := hid (HX5.out.step hB3)
                    replace HXR := hid (HXR.out.step hB3)
                    have HB3 := hid (Below.step' HBO.out hb3)
                    have HB13 := hid (Below.step' HBO1.out hb3)
                    have hs3 := hB3.size
                    clear hb3 hB3
                    obtain ⟨cHX5, fHX5, sHX5, nHX5⟩ := HX5.out.all
                    try simp only [cbox] at cHX5
                    obtain ⟨cHXR, fHXR, sHXR, nHXR⟩ := HXR.out.all
                    try simp only [cbox] at cHXR
                    go_wp2_with fail
                    refine (HKY.out _).mono ?_
                    rintro e w4 ⟨rfl, rfl⟩
                    go_wp2_with fail
                    refine (HCO.out _).mono ?_
                    rintro e w4 ⟨rfl, rfl⟩
                    go_wp2_with fail
                    refine (HVA.out _).mono ?_
                    rintro e w4 ⟨rfl, rfl⟩
                    by_cases hk0 : 0 < i
                    · obtain ⟨⟨p0, p1⟩, hpe, hpc⟩ := hp hk0
                      obtain ⟨g0, g1⟩ := hpc w3 HB3.out
                      have hd : decide ((0 : Int) < (i : Int)) = true := by simp; omega
                      have hd2 : decide (0 < i) = true := by simp; omega
                      simp only at g0 g1
                      clear hp hpc
                      have z1 : IntKind.i64.wrap ((i : Int) - 1) = (i : Int) - 1 := IntWalk.i64_in _ (by omega)
                      have z2 : (1 : Int) ≤ (i : Int) := by omega
                      have z3 : (i : Int) - 1 < (l.length : Int) := by omega
                      have z4 : ((i : Int) - 1).toNat = i - 1 := by omega
                      have hblt : b < w3.heap.size := World.block_lt_of_cell? _ _ g0
                      have hbd := HBD.out
                      rw [hpe, hd2] at hbd
                      simp only [Bool.not_true, Bool.false_or, Bool.true_and] at hbd
                      have HBD2 := hid hbd
                      clear hpe hbd HBD HBAD hd2
                      have hbf := fun w => before_any p0 p1 d0 d1 w
                      cases hbe : before (p0, p1) (d0, d1)
                      rotate_left
                      · rw [hbe] at HBD2 hbf
                        have HBF := hid hbf
                        clear hbe hbf
                        go_wp2
                        refine region_ext (by kernel_rfl) (by kernel_rfl) (fun hext => ?_)
                        repeat (any_goals ((with_reducible refine wpQuiet_step (fun K hK => ?_)); go_simp; first | (with_reducible refine hK _ ?_; clear hK K) | ((with_reducible apply Exists.intro); (with_reducible refine ⟨fun _ => ?_, hK _ ?_⟩); ((go_at_call 61; exact ext_call _ (by simp) (HBF.out _))); clear hK K) | ((with_reducible refine (if_neg ?_).mpr (hK _ ?_)); (decide); clear hK K) | (split <;> (with_reducible refine hK _ ?_; clear hK K))))
                        all_goals ((with_reducible refine wpQuiet_nil ?_); clear hext; intro w1 hx1; have hb1 := ext_below hx1; clear hx1)
                        go_wp2
                        go_roundw
                        case rel =>
                          refine ⟨i + 1, by omega, by go_num, fun j hj => ?_, Below.step' HB13.out hb1⟩
                          by_cases e : j = i
                          · subst e; exact HBD2.out
                          · exact HN.out j (by omega)
                        case measure => simp [intOf]; omega
                      · rw [hbe] at HBD2 hbf
                        have HBF := hid hbf
                        clear hbe hbf
                        go_wp2
                        refine region_ext (by kernel_rfl) (by kernel_rfl) (fun hext => ?_)
                        repeat (any_goals ((with_reducible refine wpQuiet_step (fun K hK => ?_)); go_simp; first | (with_reducible refine hK _ ?_; clear hK K) | ((with_reducible apply Exists.intro); (with_reducible refine ⟨fun _ => ?_, hK _ ?_⟩); ((go_at_call 61; exact ext_call _ (by simp) (HBF.out _))); clear hK K) | ((with_reducible refine (if_neg ?_).mpr (hK _ ?_)); (decide); clear hK K) | (split <;> (with_reducible refine hK _ ?_; clear hK K))))
                        all_goals ((with_reducible refine wpQuiet_nil ?_); clear hext; intro w1 hx1; have hb1 := ext_below hx1; clear hx1)
                        go_wp2
                        go_ret
                        exact ⟨ret_int (HT3i.out HBD2.out).symm, Below.step' HB3.out hb1⟩
                    · have hd : decide ((0 : Int) < (i : Int)) = false := by simp; omega
                      have hd2 : decide (0 < i) = false := by simp; omega
                      have hbd := HBD.out
                      rw [hd2] at hbd
                      have HBD2 := hid hbd
                      clear hbd HBD HBAD hd2 hp
                      go_wp2
                      refine region_ext (by kernel_rfl) (by kernel_rfl) (fun hext => ?_)
                      repeat (any_goals ((with_reducible refine wpQuiet_step (fun K hK => ?_)); go_simp; first | (with_reducible refine hK _ ?_; clear hK K) | ((with_reducible apply Exists.intro); (with_reducible refine ⟨fun _ => ?_, hK _ ?_⟩); ((go_at_call 61; exact ext_call _ (by simp) (before_any _ _ _ _ _))); clear hK K) | ((with_reducible refine (if_neg ?_).mpr (hK _ ?_)); (decide); clear hK K) | (split <;> (with_reducible refine hK _ ?_; clear hK K))))
                      all_goals ((with_reducible refine wpQuiet_nil ?_); clear hext; intro w1 hx1; have hb1 := ext_below hx1; clear hx1)
                      go_wp2
                      go_roundw
                      case rel =>
                        refine ⟨i + 1, by omega, by go_num, fun j hj => ?_, Below.step' HB13.out hb1⟩
                        by_cases e : j = i
                        · subst e; exact HBD2.out
                        · exact HN.out j (by omega)
                      case measure => simp [intOf]; omega
        · have HR := hid (HT4.out trivial (by simpa using h4) (fun j hj => HN.out j (by omega)))
          obtain ⟨cHXR, fHXR, sHXR, nHXR⟩ := HXR.out.all
          try simp only [cbox] at cHXR
          go_wp2
          go_ret
          exact ⟨ret_int HR.out.symm, HB.out⟩
end Go.Proofs.Ytogegnikpjcpdaa
