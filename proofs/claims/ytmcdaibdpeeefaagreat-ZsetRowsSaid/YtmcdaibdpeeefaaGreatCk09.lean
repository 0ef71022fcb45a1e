/- PLen, RPut, BothP, Both, Stays, SortC, CptP -/
import Derived.Test.YtmcdaibdpeeefaaGreatCk08
import Derived.Maps.OwnSet
import Derived.DeepKeys4
import Derived.Test.YtmcdaibdpeeefaaGreatCk03
import Derived.Shelf.Slices.CompactI
/- What Put and Del tell is small. -/
namespace Go.Proofs.YtmcdaibdpeeefaaGreat
set_option linter.unusedVariables false
open Go.ChangeShapes Go.WideShapes Go.ChangeAt Go.RowKit

theorem maxS_at (i : Int) : ∀ (l : List (Int × Int)) (m : Int), m ≤ l.foldl (stepS i) m := by
  intro l
  induction l with
  | nil => intro m; exact Int.le_refl _
  | cons x l ih =>
    intro m
    exact Int.le_trans (stepS_le i m x) (ih _)
theorem next_right {c : Ctx} {i : Int} (h : nextE c i = 0) : rightB (nextD c i).1 (nextD c i).2 = true := by
  unfold nextE at h
  by_cases h1 : checkI c ≠ 0
  · rw [if_pos h1] at h; exact absurd h h1
  · rw [if_neg h1] at h
    by_cases h2 : inB i 0 3 = false
    · rw [if_pos h2] at h; cases h
    · rw [if_neg h2] at h
      unfold rnextE at h
      have e : nextD c i = rnextD c i := by unfold nextD; rw [if_neg h1, if_neg h2]
      by_cases h3 : 1099511627776 ≤ maxS c i
      · rw [if_pos h3] at h; cases h
      · rw [e, rnextD, if_neg h3]
        have hin : 0 ≤ i ∧ i ≤ 3 := by simpa [inB] using h2
        have h0 := (at_in (checkI_zero (by simpa using h1)).1 i).1
        have g2 : c.at_ i ≤ maxS c i := maxS_at i c.cloud (c.at_ i)
        simp only [rightB, Bool.and_eq_true, decide_eq_true_eq]
        omega
theorem next_R {c : Ctx} {i : Int} (h : checkI c = 0) (hi : inB i 0 3 = true) : nextD c i = rnextD c i ∧ nextE c i = rnextE c i := by
  unfold nextD nextE
  rw [if_neg (by simp [h]), if_neg (by simp [hi]), if_neg (by simp [h]), if_neg (by simp [hi])]
  exact ⟨rfl, rfl⟩
theorem ctxX_len {l : List (Int × Int)} (h : ctxE l = 0) : (ctxX l).cloud.length ≤ 400 := by
  unfold ctxX ctxE at *
  rw [(joinX_ok h).1]; exact (joinE_zero.1 h).2
theorem putX_len (t : Tab) (n key col val : Int) : (putX t n key col val).c.cloud.length ≤ 400 ∧ (putX t n key col val).cells.length ≤ 1 := by
  unfold putX
  split
  · simp [zT]
  · rename_i h
    simp only [not_or] at h
    exact ⟨ctxX_len (by simpa using h.2.2.2), by simp⟩
theorem delX_len (t : Tab) (key : Int) : (delX t key).c.cloud.length ≤ 400 ∧ (delX t key).cells.length ≤ 1 := by
  unfold delX
  split
  · simp [zT]
  · rename_i h
    simp only [not_or] at h
    refine ⟨?_, by simp⟩
    rw [(del_pack key (by simpa using h.1)).1]
    exact Nat.le_trans pack_length (delL_len key (by simpa using h.1))
end Go.Proofs.YtmcdaibdpeeefaaGreat
/- viewref.Put. -/
namespace Go.Proofs.YtmcdaibdpeeefaaGreat
set_option linter.unusedVariables false
open Go.ChangeShapes Go.WideShapes Go.ChangeAt Go.RowKit

theorem put_pack {t : Tab} {n key col val : Int} (h : tabI t = 0) (hn : nextE t.c n = 0) {L : List (Int × Int)} (hL : L = nextD t.c n :: (t.cells.filter (atKC key col)).map Cel.d) :
    (∀ d ∈ L, rightB d.1 d.2 = true) ∧ L.length ≤ 401 ∧ ctxX (putL t key col (nextD t.c n)) = (if 400 < (packL 0 0 0 0 L).cloud.length then ⟨0, 0, 0, 0, []⟩ else packL 0 0 0 0 L) ∧
    ctxE (putL t key col (nextD t.c n)) = (if 400 < (packL 0 0 0 0 L).cloud.length then 2 else 0) := by
  subst hL
  have hr : ∀ d ∈ nextD t.c n :: (t.cells.filter (atKC key col)).map Cel.d, rightB d.1 d.2 = true := by
    intro d hd
    rcases List.mem_cons.1 hd with rfl | hd
    · exact next_right hn
    · obtain ⟨x, hx, rfl⟩ := List.mem_map.1 hd
      exact cel_right h x (List.mem_filter.1 hx).1
  have hm : ∀ d, d ∈ putL t key col (nextD t.c n) ↔ d ∈ nextD t.c n :: (t.cells.filter (atKC key col)).map Cel.d := by
    intro d
    unfold putL
    rw [List.mem_append, List.mem_singleton, List.mem_cons, or_comm]
  have hlen : ((t.cells.filter (atKC key col)).map Cel.d).length ≤ 400 := by
    rw [List.length_map]
    exact Nat.le_trans (List.length_filter_le _ _) (tabI_zero h).2.1
  have hp := pack_same hr fun d => (hm d).symm
  obtain ⟨h1, h2⟩ := ctx_pack (l := putL t key col (nextD t.c n)) (by unfold putL; simp only [List.length_append, List.length_singleton]; omega) (fun d hd => hr d ((hm d).1 hd))
  refine ⟨hr, by simp only [List.length_cons]; omega, ?_, ?_⟩
  · rw [h1, hp]
  · rw [h2, hp]

end Go.Proofs.YtmcdaibdpeeefaaGreat
/- A map from dots to cells: its keys, its readings; what is wrong with two tables (plain). -/
namespace Go.Proofs.YtmcdaibdpeeefaaGreat
set_option linter.unusedVariables false
open Go.ChangeShapes Go.WideShapes Go.ChangeAt Go.RowKit

theorem dot_wide : (match Tryz.prog.underlying 57 with | some (.array _ _) | some (.struct _) => true | _ => false) = true := by rw [Tryz.underlying57]
theorem prog_laid : laidOutB Tryz.prog = true := by kernel_rfl
theorem dot_row : decide (57 < Tryz.prog.types.size) = true := by kernel_rfl
theorem dot_keyAt : Tryz.prog.keyTypeAt 2 57 = true := by kernel_rfl
theorem dot_lt : 57 < Tryz.prog.types.size := of_decide_eq_true dot_row
set_option maxRecDepth 100000 in
theorem dot_keyed : Maps.Keyed Tryz.prog 57 := Maps.Keyed.of_law (deep_law_laid prog_laid (m := 2) (Nat.le_of_ble_eq_true rfl) dot_lt dot_keyAt dot_wide)
theorem dot_keyType : Tryz.prog.keyType 57 = true := by kernel_rfl
theorem dot_cellsOf : Tryz.prog.cellsOf 57 = 2 := by kernel_rfl
theorem int_cellsOf : Tryz.prog.cellsOf 3 = 1 := by kernel_rfl
theorem keyLits_dot (n : Nat) (a b : Int) (ha : (Lit.int .i64 a).wf = true) (hb : (Lit.int .i64 b).wf = true) : Tryz.prog.keyLits (n + 2) 57 [.int .i64 a, .int .i64 b] = some [.int .i64 a, .int .i64 b] := by
  simp [Program.keyLits, Tryz.underlying57, Tryz.underlying3, dot_cellsOf, int_cellsOf, ha, hb]
def keyL (d : Int × Int) : Lit := .string (keyBytes [.int .i64 d.1, .int .i64 d.2])
theorem keyOf_dot (a b : Int) (ha : (Lit.int .i64 a).wf = true) (hb : (Lit.int .i64 b).wf = true) : keyOf Tryz.prog 57 (.agg #[.int .i64 a, .int .i64 b]) = some (keyL (a, b)) := by
  have h2 : (Value.agg #[.int .i64 a, .int .i64 b]).formed Tryz.prog 57 = true := by
    simp [Value.formed, Tryz.underlying57, dot_cellsOf]
  obtain ⟨n, hn⟩ : ∃ n, Tryz.prog.types.size + 1 = n + 2 := by
    have : 0 < Tryz.prog.types.size := Nat.lt_of_le_of_lt (Nat.zero_le _) (of_decide_eq_true dot_row)
    exact ⟨Tryz.prog.types.size - 1, by omega⟩
  unfold keyOf
  rw [Tryz.underlying57, hn]
  simp only [dot_keyType, h2, Bool.and_self, if_true]
  rw [show (Value.agg #[.int .i64 a, .int .i64 b]).cells.toList = [.int .i64 a, .int .i64 b] from rfl, keyLits_dot n a b ha hb]
  rfl
theorem right_wf {d : Int × Int} (h : rightB d.1 d.2 = true) : (Lit.int .i64 d.1).wf = true ∧ (Lit.int .i64 d.2).wf = true := by
  simp only [rightB, Bool.and_eq_true, decide_eq_true_eq] at h
  exact ⟨by simp [Lit.wf, IntKind.min, IntKind.max, IntKind.signed, IntKind.bits]; omega, by simp [Lit.wf, IntKind.min, IntKind.max, IntKind.signed, IntKind.bits]; omega⟩
theorem keyOf_right {d : Int × Int} (h : rightB d.1 d.2 = true) : keyOf Tryz.prog 57 (.agg #[.int .i64 d.1, .int .i64 d.2]) = some (keyL d) := keyOf_dot _ _ (right_wf h).1 (right_wf h).2
set_option maxRecDepth 100000 in
theorem keyL_inj {d e : Int × Int} (hd : rightB d.1 d.2 = true) (he : rightB e.1 e.2 = true) (h : keyL d = keyL e) : d = e := by
  have h1 := keyOf_right hd
  have h2 := keyOf_right he
  rw [← h] at h2
  have h3 := dot_keyed.inj h1 h2
  injection h3 with h3
  have h4 : (#[Value.int .i64 d.1, .int .i64 d.2] : Array Value).toList = #[Value.int .i64 e.1, .int .i64 e.2].toList := by rw [h3]
  simp at h4
  exact Prod.ext h4.1 h4.2

/-! The map. -/
def celD (x : Cel) : DataW Unit := .agg [.lit (.int .i64 x.d.1), .lit (.int .i64 x.d.2), .lit (.int .i64 x.key), .lit (.int .i64 x.col), .lit (.int .i64 x.val)]
def celElem : Value → Option (DataW Unit × List MemPlace)
  | .agg cs => match cs.toList with
    | [.int .i64 a, .int .i64 b, .int .i64 k, .int .i64 c, .int .i64 v] => some (celD ⟨(a, b), k, c, v⟩, [])
    | _ => none
  | _ => none
theorem celElem_mk (x : Cel) : celElem (celv x) = some (celD x, []) := rfl
theorem celElem_inv {v : Value} {x : Cel} {ps : List MemPlace} (h : celElem v = some (celD x, ps)) : v = celv x := by
  unfold celElem at h
  split at h
  · rename_i cs
    split at h
    · rename_i a b k c v' e
      injection h with h
      injection h with h _
      simp only [celD, DataW.agg.injEq, List.cons.injEq, DataW.lit.injEq, Lit.int.injEq, true_and, and_true] at h
      obtain ⟨h1, h2, h3, h4, h5⟩ := h
      have : cs = #[.int .i64 x.d.1, .int .i64 x.d.2, .int .i64 x.key, .int .i64 x.col, .int .i64 x.val] := by
        apply Array.toList_inj.1
        rw [e, h1, h2, h3, h4, h5]
      rw [this]
    · cases h
  · cases h
def mapL (l : List Cel) : DataW Unit := l.foldl (fun D x => D.put (keyL x.d) (celD x)) (.map [])
theorem mapL_snoc (l : List Cel) (x : Cel) : mapL (l ++ [x]) = (mapL l).put (keyL x.d) (celD x) := by simp [mapL, List.foldl_append]
theorem isMap_fold (l : List Cel) : ∀ D : DataW Unit, Maps.IsMap D → Maps.IsMap (l.foldl (fun D x => D.put (keyL x.d) (celD x)) D) := by
  induction l with
  | nil => intro D h; exact h
  | cons x l ih => intro D h; exact ih _ (h.put _ _)
theorem isMap_mapL (l : List Cel) : Maps.IsMap (mapL l) := isMap_fold l _ Maps.isMap_empty
theorem isKey (d : Int × Int) : WideAt.IsKeyLit (keyL d) := trivial

theorem snoc_rec {α : Type} {p : List α → Prop} (h0 : p []) (h1 : ∀ l x, p l → p (l ++ [x])) (l : List α) : p l := by
  rw [← List.reverse_reverse l]
  generalize l.reverse = m
  induction m with
  | nil => exact h0
  | cons x m ih => rw [List.reverse_cons]; exact h1 _ _ ih
/-- What the map says of a dot: the last cell with it. -/
theorem mapL_at {d : Int × Int} (hd : rightB d.1 d.2 = true) (l : List Cel) : (∀ x ∈ l, rightB x.d.1 x.d.2 = true) →
    (Maps.has (mapL l) (keyL d) = false ∧ (∀ x ∈ l, x.d ≠ d)) ∨ ∃ x ∈ l, x.d = d ∧ Maps.has (mapL l) (keyL d) = true ∧ ∀ z, (mapL l).atKey (keyL d) z = celD x := by
  refine snoc_rec (p := fun l => (∀ x ∈ l, rightB x.d.1 x.d.2 = true) → (Maps.has (mapL l) (keyL d) = false ∧ (∀ x ∈ l, x.d ≠ d)) ∨ ∃ x ∈ l, x.d = d ∧ Maps.has (mapL l) (keyL d) = true ∧ ∀ z, (mapL l).atKey (keyL d) z = celD x) ?_ ?_ l
  · exact fun _ => .inl ⟨rfl, by simp⟩
  · intro l x ih hl
    rw [mapL_snoc]
    have hx := hl x (by simp)
    by_cases e : x.d = d
    · right
      refine ⟨x, by simp, e, ?_, fun z => ?_⟩
      · rw [e]; exact Maps.has_put_same (isMap_mapL l) (isKey d) _
      · rw [e]; exact Maps.atKey_put_same (isMap_mapL l) (isKey d) _ _
    · have hne : keyL d ≠ keyL x.d := fun h => e (keyL_inj hx hd h.symm)
      rcases ih (fun y hy => hl y (List.mem_append_left _ hy)) with ⟨h1, h2⟩ | ⟨y, hy, h1, h2, h3⟩
      · left
        refine ⟨by rw [Maps.has_put_other hne]; exact h1, fun y hy => ?_⟩
        rcases List.mem_append.1 hy with hy | hy
        · exact h2 y hy
        · rw [List.mem_singleton.1 hy]; exact e
      · right
        exact ⟨y, List.mem_append_left _ hy, h1, by rw [Maps.has_put_other hne]; exact h2, fun z => by rw [Maps.atKey_put_other hne]; exact h3 z⟩

/-! What is wrong with two tables. -/
def clashB (a b : Tab) (y : Cel) : Bool := a.cells.any fun x => decide (x.d = y.d) && !decide (x = y)
def bothE (a b : Tab) : Int := if tabI a ≠ 0 then tabI a else if tabI b ≠ 0 then tabI b else if b.cells.any (clashB a b) then 5 else 0
end Go.Proofs.YtmcdaibdpeeefaaGreat
/- table.both. -/
namespace Go.Proofs.YtmcdaibdpeeefaaGreat
set_option linter.unusedVariables false
open Go.ChangeShapes Go.WideShapes Go.ChangeAt Go.RowKit

theorem pair_of_step {l : List Cel} (h : ∀ i (hi : i + 1 < l.length), before l[i].d l[i + 1].d = true) : l.Pairwise (fun x y => before x.d y.d = true) := by
  induction l with
  | nil => exact List.Pairwise.nil
  | cons x l ih =>
    have ih' := ih fun i hi => h (i + 1) (by simp; omega)
    refine List.Pairwise.cons (fun y hy => ?_) ih'
    cases l with
    | nil => cases hy
    | cons z l =>
      have h0 : before x.d z.d = true := by simpa using h 0 (by simp)
      rcases List.mem_cons.1 hy with rfl | hy
      · exact h0
      · have h1 := (List.pairwise_cons.1 ih').1 y hy
        simp only [before_iff] at h0 h1 ⊢; omega
theorem cells_sorted {t : Tab} (h : tabI t = 0) : t.cells.Pairwise (fun x y => before x.d y.d = true) := by
  obtain ⟨-, -, h3⟩ := tabI_zero h
  refine pair_of_step fun i hi => ?_
  have hb := h3 (i + 1) hi
  rw [badCel_at hi] at hb
  simp only [Bool.or_eq_false_iff, Bool.and_eq_false_iff, decide_eq_false_iff_not, Bool.not_eq_false', Nat.add_sub_cancel] at hb
  rcases hb.2 with h | h
  · omega
  · have e : t.cells.getD i ⟨(0, 0), 0, 0, 0⟩ = t.cells[i] := by simp [List.getD, show i < t.cells.length by omega]
    rw [e] at h
    simpa using h
theorem cells_unique {t : Tab} (h : tabI t = 0) : ∀ x ∈ t.cells, ∀ y ∈ t.cells, x.d = y.d → x = y := by
  have hs := cells_sorted h
  generalize t.cells = l at *
  induction l with
  | nil => intro x hx; cases hx
  | cons z l ih =>
    obtain ⟨h1, h2⟩ := List.pairwise_cons.1 hs
    have irr : ∀ d : Int × Int, before d d = true → False := fun d hd => by simp only [before_iff] at hd; omega
    intro x hx y hy e
    rcases List.mem_cons.1 hx with rfl | hx' <;> rcases List.mem_cons.1 hy with rfl | hy'
    · rfl
    · have := h1 y hy'; rw [e] at this; exact (irr _ this).elim
    · have := h1 x hx'; rw [← e] at this; exact (irr _ this).elim
    · exact ih h2 x hx' y hy' e

theorem zero_cel (w : World) : (zeroValue 59).run Tryz.prog w = .ok (celv ⟨(0, 0), 0, 0, 0⟩) w := by kernel_rfl

theorem wpList_look_cel {ops : Array Oper} {rest : List Oper} {o : Oper} {a : Act} {Q : Exit → Act → World → Prop} (w : World) (hg : o.guard = none) (m y : Operand) (hop : o.op = Op.lookup 89 m y true) (b n : Nat) (D : DataW Unit)
    (hm : a.eval m = .map (some b)) (hown : w.ownsMap Tryz.prog 57 celElem b n D) (key : Value) (kl : Lit) (hx : a.eval y = key) (hkey : keyOf Tryz.prog 57 key = some kl) (x : Cel) (hh : Maps.has D kl = true) (hat : ∀ z, D.atKey kl z = celD x)
    (hK : wpList Tryz.prog ops Q rest (a.put o.dst (.tuple #[celv x, .bool true])) w) : wpList Tryz.prog ops Q (o :: rest) a w :=
  wpList_lookup_own_ok w hg m y _ hop 57 59 dot_keyed Tryz.underlying89 celElem (zero_cel w) (celD ⟨(0, 0), 0, 0, 0⟩) [] (celElem_mk _) b n D hm hown key kl hx hkey fun v ps hv => by
    rw [hat] at hv
    rw [celElem_inv hv, hh]
    exact hK
theorem wpList_look_none {ops : Array Oper} {rest : List Oper} {o : Oper} {a : Act} {Q : Exit → Act → World → Prop} (w : World) (hg : o.guard = none) (m y : Operand) (hop : o.op = Op.lookup 89 m y true) (b n : Nat) (D : DataW Unit)
    (hm : a.eval m = .map (some b)) (hown : w.ownsMap Tryz.prog 57 celElem b n D) (key : Value) (kl : Lit) (hx : a.eval y = key) (hkey : keyOf Tryz.prog 57 key = some kl) (hh : Maps.has D kl = false)
    (hK : wpList Tryz.prog ops Q rest (a.put o.dst (.tuple #[celv ⟨(0, 0), 0, 0, 0⟩, .bool false])) w) : wpList Tryz.prog ops Q (o :: rest) a w :=
  wpList_lookup_own_ok w hg m y _ hop 57 59 dot_keyed Tryz.underlying89 celElem (zero_cel w) (celD ⟨(0, 0), 0, 0, 0⟩) [] (celElem_mk _) b n D hm hown key kl hx hkey fun v ps hv => by
    rw [Maps.atKey_of_not_has hh] at hv
    rw [celElem_inv hv, hh]
    exact hK

set_option maxHeartbeats 2000000 in
set_option maxRecDepth 100000 in
theorem both_tab (a b : Tab) (A : Option Addr) (k : Nat) (B : Option Addr) (m : Nat) (A' : Option Addr) (k' : Nat) (B' : Option Addr) (m' : Nat) (w : World) (ra : Row w w.heap.size A (dcells a.c.cloud)) (la : a.c.cloud.length ≤ 9223372036854775807)
    (rb : Row w w.heap.size B (tcells a.cells)) (lb : a.cells.length ≤ 9223372036854775807) (ra' : Row w w.heap.size A' (dcells b.c.cloud)) (la' : b.c.cloud.length ≤ 9223372036854775807)
    (rb' : Row w w.heap.size B' (tcells b.cells)) (lb' : b.cells.length ≤ 9223372036854775807) :
    Calls Tryz.prog 34 #[tval a A k B m, tval b A' k' B' m'] w fun e w' => e = .returned (.int .i64 (bothE a b)) ∧ Below w.heap.size w w' := by
  have HTA := hid (fun w1 (hb : Below w.heap.size w w1) => tcheck_any a A k B m w1 (ra.step hb) la (rb.step hb) lb)
  have HTB := hid (fun w1 (hb : Below w.heap.size w w1) => tcheck_any b A' k' B' m' w1 (ra'.step hb) la' (rb'.step hb) lb')
  have RB := hid (fun w1 (hb : Below w.heap.size w w1) => rb.step hb)
  have RB' := hid (fun w1 (hb : Below w.heap.size w w1) => rb'.step hb)
  have HRT := hid (fun (h : tabI a = 0) => cel_right h)
  have HRT' := hid (fun (h : tabI b = 0) => cel_right h)
  have HUN := hid (fun (h : tabI a = 0) => cells_unique h)
  have HLN := hid (fun (h : tabI a = 0) => (tabI_zero h).2.1)
  have HLN' := hid (fun (h : tabI b = 0) => (tabI_zero h).2.1)
  have HE := hid (show bothE a b = if tabI a ≠ 0 then tabI a else if tabI b ≠ 0 then tabI b else if b.cells.any (clashB a b) then 5 else 0 from rfl)
  have HCL := hid (fun y => show clashB a b y = a.cells.any (fun x => decide (x.d = y.d) && !decide (x = y)) from rfl)
  generalize clashB a b = cl at *
  obtain ⟨RE, hRE⟩ : ∃ RE, RE = bothE a b := ⟨_, rfl⟩
  rw [← hRE] at HE ⊢
  clear hRE
  obtain ⟨TA, hTA⟩ : ∃ T, T = tabI a := ⟨_, rfl⟩
  obtain ⟨TB, hTB⟩ : ∃ T, T = tabI b := ⟨_, rfl⟩
  rw [← hTA] at HTA HE HRT HUN HLN
  rw [← hTB] at HTB HE HRT' HLN'
  clear hTA hTB ra rb ra' rb'
  obtain ⟨⟨c0, c1, c2, c3, al⟩, l⟩ := a
  obtain ⟨⟨f0, f1, f2, f3, bl⟩, l'⟩ := b
  simp only [tval] at *
  go_enter Tryz.func34, Tryz.ntmps34
  go_wp2_with fail
  refine (HTA.out _ (by (repeat' (first | (with_reducible exact Below.refl _ _) | (with_reducible assumption) | (with_reducible refine below_drewN ?_ _) | (with_reducible refine Below.drew ?_) | (with_reducible refine Below.alloc ?_ ?_ _) | (with_reducible refine Below.setCell ?_ ?_ _) | (refine Below.trans ?_ (Below.mono (by assumption) ?_)) | go_size)))).mono ?_
  rintro e w1 ⟨rfl, hb1⟩
  have HBW := hid (show Below w.heap.size w w1 from (by refine Below.step' ?_ hb1; (repeat' (first | (with_reducible exact Below.refl _ _) | (with_reducible assumption) | (with_reducible refine below_drewN ?_ _) | (with_reducible refine Below.drew ?_) | (with_reducible refine Below.alloc ?_ ?_ _) | (with_reducible refine Below.setCell ?_ ?_ _) | (refine Below.trans ?_ (Below.mono (by assumption) ?_)) | go_size))))
  have HXA := hid (Blk.step (w := _) (b := w.heap.size) (cs := #[.int .i64 c0, .int .i64 c1, .int .i64 c2, .int .i64 c3, .slice A al.length k, .slice B l.length m]) (T := 28) (by exact (Blk.new w _ _).alloc _) hb1)
  have HXB := hid (Blk.step (w := _) (b := w.heap.size + 1) (cs := #[.int .i64 f0, .int .i64 f1, .int .i64 f2, .int .i64 f3, .slice A' bl.length k', .slice B' l'.length m']) (T := 28) (by exact Blk.new' (w.alloc _) _ _ (by simp)) hb1)
  clear hb1
  by_cases qA : TA = 0
  rotate_left
  · have t1 : (TA != 0) = true := by simpa using qA
    have E2 : Hid (RE = TA) := hid (by have e := HE.out; rw [if_pos qA] at e; exact e)
    clear qA
    go_wp2
    go_ret
    exact ⟨ret_int E2.out.symm, HBW.out⟩
  · subst qA
    obtain ⟨cHXB, fHXB, sHXB, nHXB⟩ := HXB.out.all
    try simp only [cbox] at cHXB
    go_wp2_with fail
    refine (HTB.out _ HBW.out).mono ?_
    rintro e w2 ⟨rfl, hb2⟩
    clear cHXB fHXB sHXB nHXB
    replace HXA := hid (HXA.out.step hb2)
    replace HXB := hid (HXB.out.step hb2)
    replace HBW := hid (Below.step' HBW.out hb2)
    clear hb2
    by_cases qB : TB = 0
    rotate_left
    · have t1 : (TB != 0) = true := by simpa using qB
      have E2 : Hid (RE = TB) := hid (by have e := HE.out; rw [if_neg (by simp), if_pos qB] at e; exact e)
      clear qB
      go_wp2
      go_ret
      exact ⟨ret_int E2.out.symm, HBW.out⟩
    · subst qB
      have E3 : Hid (RE = if l'.any cl then 5 else 0) := hid (by have e := HE.out; rw [if_neg (by simp), if_neg (by simp)] at e; exact e)
      have hla := HLN.out (by first | rfl | trivial)
      have hlb := HLN'.out (by first | rfl | trivial)
      have HR := hid (HRT.out (by first | rfl | trivial))
      have HR' := hid (HRT'.out (by first | rfl | trivial))
      have HU := hid (HUN.out (by first | rfl | trivial))
      try simp only at hla hlb
      clear HE HRT HRT' HUN HLN HLN' HTA HTB
      have hmm := @run_makeMap Tryz.prog
      have hsz2 := HBW.out.size
      have hxl := HXB.out.lt
      have HOM := hid (World.ownsMap_made w2 Tryz.prog 57 celElem)
      have HBM := hid ((Below.refl w2.heap.size w2).alloc (Nat.le_refl _) (.map #[] 0))
      obtain ⟨cHXA, fHXA, sHXA, nHXA⟩ := HXA.out.all
      try simp only [cbox] at cHXA
      go_wp2
      clear cHXA fHXA sHXA nHXA
      go_loopw [28] (fun s28 wr => ∃ i : Nat, i ≤ l.length ∧ s28 = .int .i64 i ∧ wr.ownsMap Tryz.prog 57 celElem w2.heap.size i (mapL (l.take i)) ∧ Below w2.heap.size w2 wr) (fun s28 _ => l.length - (intOf s28).toNat)
      case atStart => exact ⟨0, by omega, rfl, HOM.out, HBM.out⟩
      case round =>
        obtain ⟨i, hi, rfl, hown, hbw⟩ := hrel
        have hst : ∀ hj : i < l.length, mapL (l.take (i + 1)) = (mapL (l.take i)).put (keyL l[i].d) (celD l[i]) := by
          intro hj
          rw [List.take_succ_eq_append_getElem hj, mapL_snoc]
        have hfin : ¬ i < l.length → mapL (l.take i) = mapL l := fun h => by rw [List.take_of_length_le (by omega)]
        obtain ⟨O, hO⟩ : ∃ O, O = mapL (l.take i) := ⟨_, rfl⟩
        rw [← hO] at hown hst hfin
        clear hO
        have hB := Below.step' HBW.out hbw
        have HOWN := hid hown
        have HB1 := hid hbw
        have HBB := hid hB
        have HFIN := hid hfin
        clear hown hbw hB hfin
        by_cases hlt : i < l.length
        · obtain ⟨b, off, hA, hb, e0, e1, e2, e3, e4⟩ := (RB.out wr HBB.out).cel hlt
          subst hA
          have HST := hid (hst hlt)
          have hrt := HR.out l[i] (List.getElem_mem _)
          have hmk := HOWN.out.lt
          clear hst
          generalize l[i] = x at *
          obtain ⟨⟨d0, d1⟩, ky, co, vl⟩ := x
          simp only at e0 e1 e2 e3 e4 hrt
          have HKY := hid (keyOf_right (d := (d0, d1)) hrt)
          clear hrt
          have hneb : (b = wr.heap.size) = False := by simp; omega
          have hsw := HB1.out.size
          go_wp2_with (at_mapUpdate; refine wpList_mapUpdate_own _ rfl _ _ _ 89 rfl 57 59 dot_keyed Tryz.underlying89 celElem w2.heap.size i O rfl (HOWN.out.alloc _) (by simp only [maxLen]; omega) _ _ (keyL (d0, d1)) rfl rfl HKY.out (celD ⟨(d0, d1), ky, co, vl⟩) [] (celElem_mk ⟨(d0, d1), ky, co, vl⟩) ?_; intro w6 hown6 hg6)
          go_roundw
          case rel =>
            refine ⟨i + 1, by omega, by go_num, by rw [HST.out]; exact hown6, (HB1.out.alloc HB1.out.size _).grown hg6 (by simp; omega) (fun g e => by injection e with e; omega)⟩
          case measure => simp [intOf]; omega
        · have hfin := HFIN.out hlt
          rw [hfin] at HOWN
          have hsw := HB1.out.size
          have hmk := HOWN.out.lt
          replace HXB := hid (HXB.out.step HB1.out)
          replace HBW := hid (Below.step' HBW.out HB1.out)
          obtain ⟨wo, hwo⟩ : ∃ wo : World, wo = wr := ⟨_, rfl⟩
          rw [← hwo] at HOWN HXB HBW hsw hmk ⊢
          clear hwo hst HFIN hfin HB1 HBB HOM HBM HXA
          obtain ⟨cHXB, fHXB, sHXB, nHXB⟩ := HXB.out.all
          try simp only [cbox] at cHXB
          go_wp2
          clear cHXB fHXB sHXB nHXB
          go_loopw [40] (fun s40 wr => ∃ j : Nat, j ≤ l'.length ∧ s40 = .int .i64 j ∧ (∀ y ∈ l'.take j, cl y = false) ∧ wr.ownsMap Tryz.prog 57 celElem w2.heap.size i (mapL l) ∧ Below wo.heap.size wo wr) (fun s40 _ => l'.length - (intOf s40).toNat)
          case atStart => exact ⟨0, by omega, rfl, by simp, HOWN.out, Below.refl _ _⟩
          case round =>
            obtain ⟨j, hj, rfl, hno, hown, hbw⟩ := hrel
            obtain ⟨wx, rfl⟩ : ∃ wx : World, wx = wr := ⟨_, rfl⟩
            have HNO := hid hno
            have HOW := hid hown
            have HB1 := hid hbw
            have HBB := hid (Below.step' HBW.out hbw)
            clear hno hown hbw
            by_cases hlt' : j < l'.length
            · obtain ⟨b, off, hA, hb, e0, e1, e2, e3, e4⟩ := (RB'.out _ HBB.out).cel hlt'
              subst hA
              have hmem : l'[j] ∈ l' := List.getElem_mem _
              have hrt := HR'.out l'[j] hmem
              have hcl := HCL.out l'[j]
              have hst : ∀ y ∈ l'.take (j + 1), cl y = false ∨ y = l'[j] := by
                intro y hy
                rw [List.take_succ_eq_append_getElem hlt'] at hy
                rcases List.mem_append.1 hy with hy | hy
                · exact .inl (HNO.out y hy)
                · exact .inr (List.mem_singleton.1 hy)
              have HST := hid hst
              have HMEM := hid hmem
              clear hst hmem
              generalize l'[j] = y at *
              obtain ⟨⟨d0, d1⟩, ky, co, vl⟩ := y
              simp only at e0 e1 e2 e3 e4 hrt
              have HKY := hid (keyOf_right (d := (d0, d1)) hrt)
              have hneb : (b = wx.heap.size) = False := by simp; omega
              have hneb2 : (b = wx.heap.size + 1) = False := by simp; omega
              have hsw := HB1.out.size
              rcases mapL_at (d := (d0, d1)) hrt l HR.out with ⟨h1, h2⟩ | ⟨x, hxm, hxd, h1, h2⟩
              · have HF := hid (show cl ⟨(d0, d1), ky, co, vl⟩ = false by
                  rw [hcl, List.any_eq_false]
                  intro x hx
                  simp [h2 x hx])
                have HH := hid h1
                clear h1 h2 hrt hcl
                go_wp2_with (at_lookup; refine wpList_look_none _ rfl _ _ rfl w2.heap.size i (mapL l) rfl (HOW.out.alloc _) _ (keyL (d0, d1)) rfl HKY.out HH.out ?_)
                go_roundw
                case rel =>
                  refine ⟨j + 1, by omega, by go_num, fun y hy => ?_, (HOW.out.alloc _).alloc _, (HB1.out.alloc HB1.out.size _).alloc (by simp; omega) _⟩
                  rcases HST.out y hy with h | h
                  · exact h
                  · rw [h]; exact HF.out
                case measure => simp [intOf]; omega
              · have hun := HU.out x hxm
                obtain ⟨⟨x0, x1⟩, xk, xc, xv⟩ := x
                simp only at hxd
                injection hxd with hx0 hx1
                subst hx0 hx1
                have HH := hid h1
                have HA := hid h2
                have HN := hid (neq_cel x0 x1 xk xc xv x0 x1 ky co vl)
                clear h1 h2 hrt
                by_cases qe : (⟨(x0, x1), xk, xc, xv⟩ : Cel) = ⟨(x0, x1), ky, co, vl⟩
                · have HF := hid (show cl ⟨(x0, x1), ky, co, vl⟩ = false by
                    rw [hcl, List.any_eq_false]
                    intro x hx
                    by_cases e : x.d = (x0, x1)
                    · have := hun x hx e.symm
                      rw [← qe]
                      simp [this]
                    · simp [e])
                  have hn := fun w => HN.out w
                  rw [cel_eq, decide_eq_true qe] at hn
                  clear hcl hun qe
                  go_wp2_with (at_lookup; refine wpList_look_cel _ rfl _ _ rfl w2.heap.size i (mapL l) rfl (HOW.out.alloc _) _ (keyL (x0, x1)) rfl HKY.out ⟨(x0, x1), xk, xc, xv⟩ HH.out HA.out ?_)
                  go_roundw
                  case rel =>
                    refine ⟨j + 1, by omega, by go_num, fun y hy => ?_, (HOW.out.alloc _).alloc _, (HB1.out.alloc HB1.out.size _).alloc (by simp; omega) _⟩
                    rcases HST.out y hy with h | h
                    · exact h
                    · rw [h]; exact HF.out
                  case measure => simp [intOf]; omega
                · have HF := hid (show cl ⟨(x0, x1), ky, co, vl⟩ = true by
                    rw [hcl, List.any_eq_true]
                    exact ⟨_, hxm, by simp only [decide_true, Bool.true_and, Bool.not_eq_true', decide_eq_false_iff_not]; exact qe⟩)
                  have hn := fun w => HN.out w
                  rw [cel_eq, decide_eq_false qe] at hn
                  have HR5 := hid (show RE = 5 by rw [E3.out, if_pos (List.any_eq_true.2 ⟨_, HMEM.out, HF.out⟩)])
                  clear hcl hun qe
                  go_wp2_with (at_lookup; refine wpList_look_cel _ rfl _ _ rfl w2.heap.size i (mapL l) rfl (HOW.out.alloc _) _ (keyL (x0, x1)) rfl HKY.out ⟨(x0, x1), xk, xc, xv⟩ HH.out HA.out ?_)
                  go_ret
                  exact ⟨ret_int HR5.out.symm, (HBB.out.alloc HBB.out.size _).alloc (by have := HBB.out.size; simp; omega) _⟩
            · have HR0 := hid (show RE = 0 by
                have hno := HNO.out
                rw [List.take_of_length_le (by omega)] at hno
                rw [E3.out, if_neg]
                rw [Bool.not_eq_true, List.any_eq_false]
                exact fun y hy => by simp [hno y hy])
              go_wp2
              go_ret
              exact ⟨ret_int HR0.out.symm, HBB.out⟩
end Go.Proofs.YtmcdaibdpeeefaaGreat
/- slices.Index, slices.Contains at Cell; table.stays. -/
namespace Go.Proofs.YtmcdaibdpeeefaaGreat
set_option linter.unusedVariables false
open Go.ChangeShapes Go.WideShapes Go.ChangeAt Go.RowKit

set_option maxHeartbeats 1000000 in
set_option maxRecDepth 100000 in
theorem indexC_any (l : List Cel) (v : Cel) (A : Option Addr) (c : Nat) (w : World) (hr : Row w w.heap.size A (tcells l)) (hl : l.length ≤ 9223372036854775807) :
    Calls Tryz.prog 73 #[.slice A l.length c, celv v] w (IdxPost (v ∈ l) w) := by
  have HR := hid (fun w1 (hb : Below w.heap.size w w1) => hr.step hb)
  clear hr
  obtain ⟨⟨v0, v1⟩, v2, v3, v4⟩ := v
  simp only [celv]
  go_enter Tryz.func73, Tryz.ntmps73
  have HX0 := hid (Blk.new w #[.int .i64 v0, .int .i64 v1, .int .i64 v2, .int .i64 v3, .int .i64 v4] 59)
  go_wp2
  go_loopw [8] (fun i wr => (∃ k : Nat, k ≤ l.length ∧ i = .int .i64 k ∧ ∀ j (h : j < l.length), j < k → l[j] ≠ ⟨(v0, v1), v2, v3, v4⟩) ∧ Below (w.heap.size + 1) (w.alloc (.cells #[.int .i64 v0, .int .i64 v1, .int .i64 v2, .int .i64 v3, .int .i64 v4] 59)) wr) (fun i _ => l.length - (intOf i).toNat)
  case atStart => exact ⟨⟨0, by omega, rfl, fun j _ h => absurd h (by omega)⟩, Below.refl _ _⟩
  case round =>
    obtain ⟨⟨k, hk, rfl, hno⟩, hbw⟩ := hrel
    have hBB : Below w.heap.size w wr := ((Below.refl _ _).alloc (Nat.le_refl _) _).trans (hbw.mono (Nat.le_succ _))
    have HX := hid (HX0.out.thru hbw (by omega))
    have HN := hid hno
    have HB := hid hbw
    have HBB := hid hBB
    clear hno hbw hBB
    by_cases hlt : k < l.length
    · obtain ⟨b, off, rfl, hb, e0, e1, e2, e3, e4⟩ := (HR.out wr HBB.out).cel hlt
      have HG := hid (fun (j : Nat) (hj : j = k) (h : j < l.length) => show l[j] = l[k] by subst hj; rfl)
      have HM := hid (List.getElem_mem hlt)
      generalize l[k] = x at *
      obtain ⟨⟨d0, d1⟩, ky, co, vl⟩ := x
      simp only at e0 e1 e2 e3 e4
      have hq := fun w => eql_cel v0 v1 v2 v3 v4 d0 d1 ky co vl w
      rw [cel_eq] at hq
      obtain ⟨cHX, fHX, sHX, nHX⟩ := HX.out.all
      try simp only [cbox] at cHX
      by_cases qe : (⟨(v0, v1), v2, v3, v4⟩ : Cel) = ⟨(d0, d1), ky, co, vl⟩
      · rw [decide_eq_true qe] at hq
        have QE := hid qe
        clear qe
        go_wp2
        refine wp_region_quiet_lit (by kernel_rfl) (by kernel_rfl) ?_
        repeat (any_goals ((with_reducible refine wpQuiet_step (fun K hK => ?_)); go_simp; first | (with_reducible refine hK _ ?_; clear hK K) | ((with_reducible apply Exists.intro); (with_reducible refine ⟨fun _ => ?_, hK _ ?_⟩); (fail); clear hK K) | ((with_reducible refine (if_neg ?_).mpr (hK _ ?_)); (decide); clear hK K) | (split <;> (with_reducible refine hK _ ?_; clear hK K))))
        all_goals ((with_reducible refine wpQuiet_nil ?_); intro _ hw'; obtain ⟨nq, hw''⟩ := hw'; subst hw'')
        go_wp2
        go_ret
        refine ⟨k, rfl, iff_of_true (by omega) ?_, below_drewN HBB.out _⟩
        rw [QE.out]; exact HM.out
      · rw [decide_eq_false qe] at hq
        have QE := hid qe
        clear qe
        go_wp2
        refine wp_region_quiet_lit (by kernel_rfl) (by kernel_rfl) ?_
        repeat (any_goals ((with_reducible refine wpQuiet_step (fun K hK => ?_)); go_simp; first | (with_reducible refine hK _ ?_; clear hK K) | ((with_reducible apply Exists.intro); (with_reducible refine ⟨fun _ => ?_, hK _ ?_⟩); (fail); clear hK K) | ((with_reducible refine (if_neg ?_).mpr (hK _ ?_)); (decide); clear hK K) | (split <;> (with_reducible refine hK _ ?_; clear hK K))))
        all_goals ((with_reducible refine wpQuiet_nil ?_); intro _ hw'; obtain ⟨nq, hw''⟩ := hw'; subst hw'')
        go_wp2
        go_roundw
        case rel =>
          refine ⟨⟨k + 1, by omega, by go_num, fun j h hj => ?_⟩, below_drewN HB.out _⟩
          by_cases e : j = k
          · rw [HG.out j e h]; exact fun h => QE.out h.symm
          · exact HN.out j h (by omega)
        case measure => simp [intOf]; omega
    · go_wp2
      go_ret
      refine ⟨-1, rfl, iff_of_false (by omega) ?_, HBB.out⟩
      intro hm
      obtain ⟨j, hj, e⟩ := List.getElem_of_mem hm
      exact HN.out j hj (by omega) e

set_option maxRecDepth 100000 in
theorem containsC_any (l : List Cel) (v : Cel) (A : Option Addr) (c : Nat) (w : World) (hr : Row w w.heap.size A (tcells l)) (hl : l.length ≤ 9223372036854775807) :
    Calls Tryz.prog 54 #[.slice A l.length c, celv v] w fun e w' => e = .returned (.bool (decide (v ∈ l))) ∧ Below w.heap.size w w' := by
  have HI := hid (fun w1 (hb : Below w.heap.size w w1) => indexC_any l v A c w1 (hr.step hb) hl)
  clear hr
  obtain ⟨⟨v0, v1⟩, v2, v3, v4⟩ := v
  simp only [celv] at *
  go_enter Tryz.func54, Tryz.ntmps54
  go_wp2_with fail
  refine (HI.out _ (by (repeat' (first | (with_reducible exact Below.refl _ _) | (with_reducible assumption) | (with_reducible refine below_drewN ?_ _) | (with_reducible refine Below.drew ?_) | (with_reducible refine Below.alloc ?_ ?_ _) | (with_reducible refine Below.setCell ?_ ?_ _) | (refine Below.trans ?_ (Below.mono (by assumption) ?_)) | go_size)))).mono ?_
  rintro e w1 ⟨i, rfl, hi, hb1⟩
  have HBW := hid (show Below w.heap.size w w1 from (by refine Below.step' ?_ hb1; (repeat' (first | (with_reducible exact Below.refl _ _) | (with_reducible assumption) | (with_reducible refine below_drewN ?_ _) | (with_reducible refine Below.drew ?_) | (with_reducible refine Below.alloc ?_ ?_ _) | (with_reducible refine Below.setCell ?_ ?_ _) | (refine Below.trans ?_ (Below.mono (by assumption) ?_)) | go_size))))
  go_wp2
  go_ret
  refine ⟨?_, HBW.out⟩
  by_cases h : (⟨(v0, v1), v2, v3, v4⟩ : Cel) ∈ l <;> simp_all

def staysB (c : Ctx) (m : List Cel) (x : Cel) : Bool := !hasB c x.d || decide (x ∈ m)
def staysL (t u : Tab) : List Cel := t.cells.filter (staysB u.c u.cells)
def CelsPost (l : List Cel) (w : World) (e : Ending) (w' : World) : Prop :=
  ∃ v, e = .returned v ∧ w'.ownsRow w.heap.size 59 5 v l.length (tcells l) ∧ Below w.heap.size w w'
set_option maxHeartbeats 2000000 in
set_option maxRecDepth 100000 in
theorem stays_any (t u : Tab) (A : Option Addr) (k : Nat) (B : Option Addr) (m : Nat) (A' : Option Addr) (k' : Nat) (B' : Option Addr) (m' : Nat) (w : World)
    (rb : Row w w.heap.size B (tcells t.cells)) (lb : t.cells.length ≤ 400) (ra' : Row w w.heap.size A' (dcells u.c.cloud)) (la' : u.c.cloud.length ≤ 9223372036854775807)
    (rb' : Row w w.heap.size B' (tcells u.cells)) (lb' : u.cells.length ≤ 9223372036854775807) :
    Calls Tryz.prog 36 #[tval t A k B m, tval u A' k' B' m'] w (CelsPost (staysL t u) w) := by
  have HH := hid (fun w1 (hb : Below w.heap.size w w1) d => has_any u.c d A' k' w1 (ra'.step hb) la')
  have HC := hid (fun w1 (hb : Below w.heap.size w w1) v => containsC_any u.cells v B' m' w1 (rb'.step hb) lb')
  have RB := hid (fun w1 (hb : Below w.heap.size w w1) => rb.step hb)
  have HV : staysL t u = t.cells.filter (staysB u.c u.cells) := rfl
  have HS := hid (fun x => show staysB u.c u.cells x = (!hasB u.c x.d || decide (x ∈ u.cells)) from rfl)
  generalize staysB u.c u.cells = p at *
  obtain ⟨V, hV⟩ : ∃ V, V = staysL t u := ⟨_, rfl⟩
  rw [← hV] at HV ⊢
  have HV := hid HV
  clear hV rb ra' rb'
  obtain ⟨⟨c0, c1, c2, c3, cl⟩, l⟩ := t
  obtain ⟨⟨f0, f1, f2, f3, fl⟩, l'⟩ := u
  obtain ⟨i0, hi0, hz0, hz1, hz2⟩ := info_parts info_cel
  simp only [tval, cval] at *
  go_enter Tryz.func36, Tryz.ntmps36
  go_wp2
  obtain ⟨W2, hW2⟩ : ∃ W2 : World, W2 = (w.alloc (.cells #[.int .i64 c0, .int .i64 c1, .int .i64 c2, .int .i64 c3, .slice A cl.length k, .slice B l.length m] 28)).alloc (.cells #[.int .i64 f0, .int .i64 f1, .int .i64 f2, .int .i64 f3, .slice A' fl.length k', .slice B' l'.length m'] 28) := ⟨_, rfl⟩
  rw [← hW2]
  have HB2 := hid (show Below w.heap.size w W2 by rw [hW2]; (repeat' (first | (with_reducible exact Below.refl _ _) | (with_reducible assumption) | (with_reducible refine below_drewN ?_ _) | (with_reducible refine Below.drew ?_) | (with_reducible refine Below.alloc ?_ ?_ _) | (with_reducible refine Below.setCell ?_ ?_ _) | (refine Below.trans ?_ (Below.mono (by assumption) ?_)) | go_size)))
  have hs2 : w.heap.size ≤ W2.heap.size := HB2.out.size
  have HXU := hid (show Blk W2 (w.heap.size + 1) #[.int .i64 f0, .int .i64 f1, .int .i64 f2, .int .i64 f3, .slice A' fl.length k', .slice B' l'.length m'] 28 by rw [hW2]; exact Blk.new' (w.alloc _) _ _ (by simp))
  clear hW2
  go_loopw [5, 11] (fun s5 s11 wr => ∃ i : Nat, i ≤ l.length ∧ s11 = .int .i64 i ∧ wr.ownsRow W2.heap.size 59 5 s5 ((l.take i).filter p).length (tcells ((l.take i).filter p)) ∧ Below W2.heap.size W2 wr) (fun _ s11 _ => l.length - (intOf s11).toNat)
  case atStart => exact ⟨0, by omega, rfl, by simpa using World.ownsRow_nil _ _ _ _, Below.refl _ _⟩
  case round =>
    obtain ⟨i, hi, rfl, hown, hbw⟩ := hrel
    have hst : ∀ hj : i < l.length, (l.take (i + 1)).filter p = (l.take i).filter p ++ (if p l[i] = true then [l[i]] else []) := by
      intro hj
      rw [List.take_succ_eq_append_getElem hj, List.filter_append, List.filter_cons, List.filter_nil]
    have hol : ((l.take i).filter p).length ≤ 400 := by
      have := List.length_filter_le p (l.take i)
      rw [List.length_take] at this
      omega
    have hfin : ¬ i < l.length → (l.take i).filter p = V := fun h => by rw [HV.out, List.take_of_length_le (by omega)]
    obtain ⟨O, hO⟩ : ∃ O, O = (l.take i).filter p := ⟨_, rfl⟩
    rw [← hO] at hown hst hol hfin
    clear hO
    obtain ⟨A8, c8, rfl⟩ := own_formS hown
    have hB := Below.step' HB2.out hbw
    have HOWN := hid hown
    have HBW := hid hbw
    have HBB := hid hB
    have HFIN := hid hfin
    have HXU2 := hid (HXU.out.step hbw)
    clear hown hbw hB hfin
    by_cases hlt : i < l.length
    · obtain ⟨b, off, hA, hb, e0, e1, e2, e3, e4⟩ := (RB.out wr HBB.out).cel hlt
      subst hA
      have HST := hid (hst hlt)
      have hp := HS.out l[i]
      clear hst
      generalize l[i] = x at *
      obtain ⟨⟨d0, d1⟩, ky, co, vl⟩ := x
      simp only at e0 e1 e2 e3 e4
      have hneb : (b = wr.heap.size) = False := by simp; omega
      have hsw := HBW.out.size
      have hh := fun w1 hb => HH.out w1 hb (d0, d1)
      have hcc := fun w1 hb => HC.out w1 hb ⟨(d0, d1), ky, co, vl⟩
      simp only [celv, dval] at hcc hh
      obtain ⟨cHXU2, fHXU2, sHXU2, nHXU2⟩ := HXU2.out.all
      try simp only [cbox] at cHXU2
      cases hhas : hasB ⟨f0, f1, f2, f3, fl⟩ (d0, d1)
      · have HQ := hid (show p ⟨(d0, d1), ky, co, vl⟩ = true by rw [hp]; simp [hhas])
        rw [hhas] at hh
        have HHH := hid hh
        clear hh hcc hp hhas
        go_wp2_with fail
        refine (HHH.out _ (HBB.out.alloc HBB.out.size _)).mono ?_
        rintro e w5 ⟨rfl, hb5⟩
        have hB5 : Below wr.heap.size wr w5 := (by refine Below.step' ?_ hb5; (repeat' (first | (with_reducible exact Below.refl _ _) | (with_reducible assumption) | (with_reducible refine below_drewN ?_ _) | (with_reducible refine Below.drew ?_) | (with_reducible refine Below.alloc ?_ ?_ _) | (with_reducible refine Below.setCell ?_ ?_ _) | (refine Below.trans ?_ (Below.mono (by assumption) ?_)) | go_size)))
        have HOWN5 := hid (own_laterS HOWN.out hB5)
        have HB5 := hid (Below.step' HBW.out hB5)
        have hs5 := (Below.step' HBW.out hB5).size
        have HX5 := hid (Blk.step (Blk.new wr #[.int .i64 d0, .int .i64 d1, .int .i64 ky, .int .i64 co, .int .i64 vl] 59) hb5)
        clear cHXU2 fHXU2 sHXU2 nHXU2
        clear hb5 hB5 e0 e1 e2 e3 e4 hneb hb
        obtain ⟨cHX5, fHX5, sHX5, nHX5⟩ := HX5.out.all
        try simp only [cbox] at cHX5
        go_wp2_with (at_builtin; refine wpList_append_own _ rfl _ _ 26 rfl W2.heap.size 59 i0 _ 5 40 Tryz.underlying26 hi0 hz0 hz1 hz2 rfl (by decide) _ _ _ rfl (HOWN5.out.alloc _) ⟨w5.heap.size, 0, none⟩ 1 1 (tcells [⟨(d0, d1), ky, co, vl⟩]) rfl rfl (newsT w5 ⟨(d0, d1), ky, co, vl⟩ _ _ rfl) (tcells_one _) ?_ ?_ ?_ ?_; rotate_right; intro v6 w6 hown6 hg6 hif6; clear hif6; rotate_left; (simp only [maxLen]; omega); (omega); (simp; omega))
        go_roundw
        case rel =>
          refine ⟨i + 1, by omega, by go_num, ?_, (HB5.out.alloc (by omega) _).grown hg6 (by simp; omega) (fun g e => (HOWN5.out.lt g e).1)⟩
          rw [HST.out, HQ.out, if_pos rfl, tcells_snoc]
          simpa using hown6
        case measure => simp [intOf]; omega
      · rw [hhas] at hh
        have HHH := hid hh
        have HP : Hid (p ⟨(d0, d1), ky, co, vl⟩ = decide ((⟨(d0, d1), ky, co, vl⟩ : Cel) ∈ l')) := hid (by rw [hp]; simp [hhas])
        clear hh hp hhas
        by_cases hq : (⟨(d0, d1), ky, co, vl⟩ : Cel) ∈ l'
        · have HQ := hid (show p ⟨(d0, d1), ky, co, vl⟩ = true by rw [HP.out, decide_eq_true hq])
          rw [decide_eq_true hq] at hcc
          have HCC := hid hcc
          clear hcc hq HP
          go_wp2_with fail
          refine (HHH.out _ (HBB.out.alloc HBB.out.size _)).mono ?_
          rintro e w5 ⟨rfl, hb5⟩
          have hB5 : Below wr.heap.size wr w5 := (by refine Below.step' ?_ hb5; (repeat' (first | (with_reducible exact Below.refl _ _) | (with_reducible assumption) | (with_reducible refine below_drewN ?_ _) | (with_reducible refine Below.drew ?_) | (with_reducible refine Below.alloc ?_ ?_ _) | (with_reducible refine Below.setCell ?_ ?_ _) | (refine Below.trans ?_ (Below.mono (by assumption) ?_)) | go_size)))
          have HOWN5 := hid (own_laterS HOWN.out hB5)
          have HB5 := hid (Below.step' HBW.out hB5)
          have hs5 := (Below.step' HBW.out hB5).size
          have HX5 := hid (Blk.step (Blk.new wr #[.int .i64 d0, .int .i64 d1, .int .i64 ky, .int .i64 co, .int .i64 vl] 59) hb5)
          clear cHXU2 fHXU2 sHXU2 nHXU2
          replace HXU2 := hid (HXU2.out.step hB5)
          have HBB5 := hid (Below.step' HBB.out hB5)
          clear hb5 hB5 e0 e1 e2 e3 e4 hneb hb
          obtain ⟨cHX5, fHX5, sHX5, nHX5⟩ := HX5.out.all
          try simp only [cbox] at cHX5
          obtain ⟨cHXU2, fHXU2, sHXU2, nHXU2⟩ := HXU2.out.all
          try simp only [cbox] at cHXU2
          go_wp2_with fail
          refine (HCC.out _ HBB5.out).mono ?_
          rintro e w7 ⟨rfl, hb7⟩
          have HOWN7 := hid (own_laterS HOWN5.out hb7)
          have HB7 := hid (Below.step' HB5.out hb7)
          have hs7 := (Below.step' HB5.out hb7).size
          clear cHX5 fHX5 sHX5 nHX5
          clear cHXU2 fHXU2 sHXU2 nHXU2
          replace HX5 := hid (HX5.out.step hb7)
          clear hb7
          obtain ⟨cHX5, fHX5, sHX5, nHX5⟩ := HX5.out.all
          try simp only [cbox] at cHX5
          go_wp2_with (at_builtin; refine wpList_append_own _ rfl _ _ 26 rfl W2.heap.size 59 i0 _ 5 40 Tryz.underlying26 hi0 hz0 hz1 hz2 rfl (by decide) _ _ _ rfl (HOWN7.out.alloc _) ⟨w7.heap.size, 0, none⟩ 1 1 (tcells [⟨(d0, d1), ky, co, vl⟩]) rfl rfl (newsT w7 ⟨(d0, d1), ky, co, vl⟩ _ _ rfl) (tcells_one _) ?_ ?_ ?_ ?_; rotate_right; intro v6 w6 hown6 hg6 hif6; clear hif6; rotate_left; (simp only [maxLen]; omega); (omega); (simp; omega))
          go_roundw
          case rel =>
            refine ⟨i + 1, by omega, by go_num, ?_, (HB7.out.alloc (by omega) _).grown hg6 (by simp; omega) (fun g e => (HOWN7.out.lt g e).1)⟩
            rw [HST.out, HQ.out, if_pos rfl, tcells_snoc]
            simpa using hown6
          case measure => simp [intOf]; omega
        · have HQ := hid (show p ⟨(d0, d1), ky, co, vl⟩ = false by rw [HP.out, decide_eq_false hq])
          rw [decide_eq_false hq] at hcc
          have HCC := hid hcc
          clear hcc hq HP
          go_wp2_with fail
          refine (HHH.out _ (HBB.out.alloc HBB.out.size _)).mono ?_
          rintro e w5 ⟨rfl, hb5⟩
          have hB5 : Below wr.heap.size wr w5 := (by refine Below.step' ?_ hb5; (repeat' (first | (with_reducible exact Below.refl _ _) | (with_reducible assumption) | (with_reducible refine below_drewN ?_ _) | (with_reducible refine Below.drew ?_) | (with_reducible refine Below.alloc ?_ ?_ _) | (with_reducible refine Below.setCell ?_ ?_ _) | (refine Below.trans ?_ (Below.mono (by assumption) ?_)) | go_size)))
          have HOWN5 := hid (own_laterS HOWN.out hB5)
          have HB5 := hid (Below.step' HBW.out hB5)
          have hs5 := (Below.step' HBW.out hB5).size
          have HX5 := hid (Blk.step (Blk.new wr #[.int .i64 d0, .int .i64 d1, .int .i64 ky, .int .i64 co, .int .i64 vl] 59) hb5)
          clear cHXU2 fHXU2 sHXU2 nHXU2
          replace HXU2 := hid (HXU2.out.step hB5)
          have HBB5 := hid (Below.step' HBB.out hB5)
          clear hb5 hB5 e0 e1 e2 e3 e4 hneb hb
          obtain ⟨cHX5, fHX5, sHX5, nHX5⟩ := HX5.out.all
          try simp only [cbox] at cHX5
          obtain ⟨cHXU2, fHXU2, sHXU2, nHXU2⟩ := HXU2.out.all
          try simp only [cbox] at cHXU2
          go_wp2_with fail
          refine (HCC.out _ HBB5.out).mono ?_
          rintro e w7 ⟨rfl, hb7⟩
          have HOWN7 := hid (own_laterS HOWN5.out hb7)
          have HB7 := hid (Below.step' HB5.out hb7)
          clear cHX5 fHX5 sHX5 nHX5
          clear cHXU2 fHXU2 sHXU2 nHXU2
          clear hb7
          go_wp2
          go_roundw
          case rel => exact ⟨i + 1, by omega, by go_num, by rw [HST.out, HQ.out, if_neg (by simp), List.append_nil]; exact HOWN7.out, HB7.out⟩
          case measure => simp [intOf]; omega
    · have hfin := HFIN.out hlt
      rw [hfin] at HOWN ⊢
      clear hst
      go_wp2
      go_ret
      exact ⟨_, rfl, own_baseS HOWN.out hs2, HBB.out⟩
end Go.Proofs.YtmcdaibdpeeefaaGreat
/- slices.SortFunc at Cell, over a row that the call owns. The words are general: rows of whatever things. -/
namespace Go.Proofs.YtmcdaibdpeeefaaGreat
set_option linter.unusedVariables false
open Go.ChangeShapes Go.WideShapes Go.ChangeAt Go.RowKit
open Go.Shelf Go.Lib
open Go.Sort (grow SWO PermIn SortedIn alloc_eq_grow grow_grow drew_grow HoldsK flatK putRow putCells mapBlock Holds)

section
variable {α : Type} [Inhabited α] {f : α → List Value} {s : Nat}

theorem flat_flatK (hf : ∀ x, (f x).length = s) (hs : 0 < s) (l : List α) : (l.flatMap f).toArray = flatK f s l.toArray := by
  have hlen := flat_len hf l
  apply Array.ext
  · rw [List.size_toArray, hlen, Sort.size_flatK]; simp
  · intro i h1 h2
    have hi' : i < (l.flatMap f).length := by rw [List.size_toArray] at h1; exact h1
    have hi : i < l.length * s := by rw [hlen] at hi'; exact hi'
    have hk : i / s < l.length := Nat.div_lt_of_lt_mul (by rw [Nat.mul_comm]; exact hi)
    have hm : i % s < s := Nat.mod_lt _ hs
    have g := flat_get hf l (i / s) hk (i % s) hm
    rw [Nat.div_add_mod' i s] at g
    have e := Sort.get_flatK f s l.toArray i (by simpa using hi)
    rw [getElem!_pos _ i h2] at e
    rw [e]
    have hl : l.toArray[i / s]! = l[i / s] := by simp [hk]
    rw [hl, List.getElem_toArray]
    have hm' : i % s < (f l[i / s]).length := by rw [hf]; exact hm
    rw [getElem!_pos (f l[i / s]) (i % s) hm']
    rw [List.getElem?_eq_getElem hi', List.getElem?_eq_getElem hm'] at g
    injection g

theorem holdsK_ownS (hf : ∀ x, (f x).length = s) (hs : 0 < s) {w : World} {g : Nat} {l : List α} {cur : Array Value} {T : TypeId} (hg : w.heap[g]? = some (.cells cur T (0, 0))) (hc : cur.toList.take (l.length * s) = l.flatMap f) : HoldsK f s w g 0 l.toArray := by
  intro j hj
  rw [← flat_flatK hf hs] at hj ⊢
  have hj' : j < (l.flatMap f).length := by simpa using hj
  have e := take_eq_get hc hj'
  have e2 : (l.flatMap f).toArray[j]! = (l.flatMap f)[j] := by
    rw [getElem!_pos _ j hj]; simp
  rw [e2]
  constructor
  · rw [Nat.zero_add, cell_of_row w g j cur T (0, 0) hg, e, List.getElem?_eq_getElem hj']; rfl
  · simp [World.frozen?, hg]

theorem sorted_worldS (hf : ∀ x, (f x).length = s) (hs0 : 0 < s) {w : World} {B cap g n : Nat} {l l' : List α} {cur : Array Value} {T : TypeId} {os : Array Obj} (hb : B ≤ g) (hg : w.heap[g]? = some (.cells cur T (0, 0))) (hcap : l.length ≤ cap) (hm : cap ≤ maxLen) (hs : cur.size = cap * s)
    (hlen : l'.length = l.length) :
    (sortWorldK f s w g 0 n l'.toArray os).ownsRow B T s (.slice (some ⟨g, 0, none⟩) l.length cap) l.length (l'.flatMap f) ∧ w.grownBy (sortWorldK f s w g 0 n l'.toArray os) (some g) := by
  have hlt : g < w.heap.size := by
    rcases Nat.lt_or_ge g w.heap.size with h | h
    · exact h
    · rw [Array.getElem?_eq_none h] at hg; cases hg
  have hfl := flat_len hf l'
  have hnew : (sortWorldK f s w g 0 n l'.toArray os).heap[g]? = some (.cells (putCells id 0 (flatK f s l'.toArray) cur) T (0, 0)) := by
    unfold sortWorldK grow Sort.putRowK putRow mapBlock Sort.ahead
    simp only [Array.getElem?_append, Array.size_modify, hlt, if_true, Array.getElem?_modify, hg, Option.map_some]
    rfl
  have hcs : l.length * s ≤ cap * s := Nat.mul_le_mul_right s hcap
  refine ⟨⟨by rw [hfl, hlen], .inr ⟨g, cap, _, rfl, hb, hnew, hcap, hm, by simp [putCells, hs], ?_⟩⟩, ?_⟩
  · rw [← flat_flatK hf hs0]
    apply List.ext_getElem?
    intro j
    by_cases hj : j < (l'.flatMap f).length
    · have hj2 : j < l.length * s := by rw [hfl, hlen] at hj; exact hj
      have hjc : j < cur.size := by rw [hs]; omega
      rw [List.getElem?_take_of_lt hj2]
      simp only [putCells, Array.toList_mapIdx, List.getElem?_mapIdx]
      have : cur.toList[j]? = some cur.toList[j] := List.getElem?_eq_getElem (by simpa using hjc)
      rw [this]
      simp only [Option.map_some, Nat.zero_le, Nat.zero_add, List.size_toArray, hj, and_self, if_true, Nat.sub_zero, id]
      rw [getElem!_pos _ j (by simpa using hj), List.getElem?_eq_getElem hj]
      simp
    · rw [List.getElem?_eq_none (Nat.le_of_not_lt hj), List.getElem?_eq_none]
      rw [List.length_take]
      rw [hfl, hlen] at hj
      omega
  · refine ⟨rfl, rfl, rfl, ?_, ?_⟩
    · unfold sortWorldK grow Sort.putRowK putRow mapBlock Sort.ahead
      simp
    · intro k hk hne
      have hne' : g ≠ k := fun e => hne (by rw [e])
      unfold sortWorldK grow Sort.putRowK putRow mapBlock Sort.ahead
      simp [Array.getElem?_append, hk, Array.getElem_modify, hne']

theorem perm_of_permIn {d d' : Array α} (h : PermIn 0 d.size d d') : d'.toList.Perm d.toList := by
  obtain ⟨h1, -, h3⟩ := h
  have e1 : d'.extract 0 d.size = d' := by rw [← h1]; simp
  have e2 : d.extract 0 d.size = d := by simp
  rwa [e1, e2] at h3
theorem pair_of_sortedIn {lt : α → α → Bool} {d : Array α} (h : SortedIn lt 0 d.size d) : d.toList.Pairwise (fun x y => lt y x = false) := by
  rw [List.pairwise_iff_getElem]
  intro i j hi hj hij
  have := h i j (Nat.zero_le _) hij (by simpa using hj)
  simp only [Array.length_toList] at hi hj
  rw [getElem!_pos _ i hi, getElem!_pos _ j hj] at this
  simpa using this
end

instance : Inhabited Cel := ⟨⟨(0, 0), 0, 0, 0⟩⟩
def celLt (x y : Cel) : Bool := before x.d y.d
/-- What a function that compares cells must do: less than nothing where the first comes before. -/
structure CmpCel (g : Nat) where
  cf : Cel → Cel → Int
  lt : ∀ x y, ltOf cf x y = celLt x y
  run : ∀ x y w, Calls Tryz.prog g #[celv x, celv y] w fun e w' => e = .returned (.int .i64 (cf x y)) ∧ ∃ q os', w' = grow (w.drewN q) os'
  enters : ∀ args w, (callFunc g args).run Tryz.prog w = .ok (.enter g args) w
theorem CmpCel.swo {g : Nat} (C : CmpCel g) : SWO (ltOf C.cf) where
  irrefl x := by rw [C.lt]; simp [celLt, before]
  trans x y z h1 h2 := by rw [C.lt] at *; simp [celLt, before] at *; omega
  ntrans x y z h1 h2 := by rw [C.lt] at *; simp [celLt, before] at *; omega

theorem sortC_own {g : Nat} (C : CmpCel g) {B : Nat} {v : Value} (l : List Cel) (w : World) (hown : w.ownsRow B 59 5 v l.length (tcells l)) (hl : l.length ≤ 140737488355328) :
    Calls Tryz.prog 37 #[v, .func (.func g) #[] #[]] w fun e w' => e = .returned (.tuple #[]) ∧ ∃ l', l'.Perm l ∧ l'.Pairwise (fun x y => celLt y x = false) ∧ w'.ownsRow B 59 5 v l'.length (tcells l') ∧ w.grownBy w' v.ownBlock := by
  rcases hown.2 with ⟨rfl, h0⟩ | ⟨b, cap, cur, rfl, hb, hg, hcap, hm, hs, ht⟩
  · have hl0 : l = [] := List.eq_nil_of_length_eq_zero h0
    subst hl0
    refine (AnyF.slices_SortFunc_none Tryz.sortCell none 0 _ w).mono fun e w' ⟨he, hw⟩ => ?_
    subst hw
    exact ⟨he, [], List.Perm.refl _, List.Pairwise.nil, hown, ⟨rfl, rfl, rfl, Nat.le_refl _, fun _ _ _ => rfl⟩⟩
  · have hlt : b < w.heap.size := by
      rcases Nat.lt_or_ge b w.heap.size with h | h
      · exact h
      · rw [Array.getElem?_eq_none h] at hg; cases hg
    have H := AnyQ.slices_SortFunc Tryz.sortCell 5 Tryz.isAgg59 Tryz.sizeOf59 Cel.cells Cel.len (fun x v hv => tcells_one [x] v (by simpa using hv)) C.cf C.swo g #[] b 0 cap l.toArray w C.enters
      (fun m os dk _ x y => C.run x y _) (holdsK_ownS Cel.len (by decide) hg ht) hlt (by simp; omega)
    have e0 : l.toArray.size = l.length := by simp
    rw [e0] at H
    refine H.mono fun e w' ⟨he, d', n, os, hp, hso, hw⟩ => ?_
    subst hw
    rw [← e0] at hp hso
    have hsz : d'.size = l.length := by rw [hp.1, e0]
    have hp' := perm_of_permIn hp
    rw [show l.toArray.size = d'.size by rw [hsz, e0]] at hso
    have hso' := pair_of_sortedIn hso
    have hll : d'.toList.length = l.length := by simpa using hsz
    have := sorted_worldS (f := Cel.cells) Cel.len (by decide) (l' := d'.toList) (os := os) (n := n) hb hg hcap hm hs hll
    rw [Array.toArray_toList] at this
    refine ⟨he, d'.toList, by simpa using hp', hso'.imp fun h => by rw [C.lt] at h; exact h, by rw [hll]; exact this.1, this.2⟩
end Go.Proofs.YtmcdaibdpeeefaaGreat
/- Runs of equal neighbours, each once: lists of whatever; words for slices.Compact at Cell over a row that the call owns. -/
namespace Go.Proofs.YtmcdaibdpeeefaaGreat
set_option linter.unusedVariables false
open Go.ChangeShapes Go.WideShapes Go.ChangeAt Go.RowKit

section
variable {α : Type} [DecidableEq α]
def cptG : List α → List α
  | [] => []
  | [a] => [a]
  | a :: b :: r => if a = b then cptG (b :: r) else a :: cptG (b :: r)
theorem cptG_snoc (x : α) : ∀ l : List α, cptG (l ++ [x]) = if l.getLast? = some x then cptG l else cptG l ++ [x]
  | [] => by simp [cptG]
  | [a] => by
    by_cases h : a = x <;> simp [cptG, h]
  | a :: b :: r => by
    have ih := cptG_snoc x (b :: r)
    simp only [List.cons_append] at ih ⊢
    simp only [cptG, List.getLast?_cons_cons]
    rw [ih]
    by_cases h : a = b <;> by_cases h2 : (b :: r).getLast? = some x <;> simp [h, h2]
theorem cptG_same : ∀ l : List α, (∀ j (h : j + 1 < l.length), l[j + 1] ≠ l[j]) → cptG l = l
  | [], _ => rfl
  | [a], _ => rfl
  | a :: b :: r, h => by
    have h0 := h 0 (by simp)
    simp at h0
    rw [cptG, if_neg (fun e => h0 e.symm), cptG_same (b :: r) (fun j hj => by have := h (j + 1) (by simp at hj ⊢; omega); simpa using this)]
structure GInv (l : List α) (m kk : Nat) (ds : List α) : Prop where
  len : ds.length = l.length
  lt : kk + 1 ≤ m
  low : ds.take kk = cptG (l.take m)
  high : ∀ j (h : j < l.length) (h' : j < ds.length), m ≤ j + 1 → ds[j] = l[j]
theorem GInv.skip {l ds : List α} {m kk : Nat} (h : GInv l m kk ds) (hm : m < l.length) (hm0 : 0 < m) (he : l[m] = l[m - 1]) : GInv l (m + 1) kk ds := by
  refine ⟨h.len, by have := h.lt; omega, ?_, fun j hj hj' hm' => h.high j hj hj' (by omega)⟩
  rw [List.take_succ_eq_append_getElem hm, cptG_snoc, if_pos, h.low]
  rw [List.getLast?_eq_getElem?, List.length_take, Nat.min_eq_left (by omega), List.getElem?_take_of_lt (by omega), List.getElem?_eq_getElem (by omega), he]
theorem GInv.keep {l ds : List α} {m kk : Nat} (h : GInv l m kk ds) (hm : m < l.length) (hm0 : 0 < m) (he : l[m] ≠ l[m - 1]) : GInv l (m + 1) (kk + 1) (ds.set kk l[m]) := by
  have hlt := h.lt
  have hlen := h.len
  refine ⟨by simpa using hlen, by omega, ?_, fun j hj hj' hm' => ?_⟩
  · rw [List.take_succ_eq_append_getElem hm, cptG_snoc, if_neg, ← h.low, List.take_succ_eq_append_getElem (by simp; omega)]
    · simp [List.take_set_of_le]
    · rw [List.getLast?_eq_getElem?, List.length_take, Nat.min_eq_left (by omega), List.getElem?_take_of_lt (by omega), List.getElem?_eq_getElem (by omega)]
      intro e
      injection e with e
      exact he e.symm
  · rw [List.getElem_set_ne (by omega)]
    exact h.high j hj (by simpa using hj') (by omega)
theorem GInv.start {l : List α} {k : Nat} (hk : k < l.length) (hk0 : 0 < k) (hall : ∀ j (h : j + 1 < l.length), j + 1 < k → l[j + 1] ≠ l[j]) (he : l[k] = l[k - 1]) : GInv l (k + 1) k l := by
  refine ⟨rfl, Nat.le_refl _, ?_, fun _ _ _ _ => rfl⟩
  rw [List.take_succ_eq_append_getElem hk, cptG_snoc, if_pos]
  · rw [cptG_same]
    intro j hj
    simp at hj
    simp only [List.getElem_take]
    exact hall j (by omega) (by omega)
  · rw [List.getLast?_eq_getElem?, List.length_take, Nat.min_eq_left (by omega), List.getElem?_take_of_lt (by omega), List.getElem?_eq_getElem (by omega), he]
end

theorem own_cel {w : World} {B n cap g : Nat} {T : TypeId} {l : List Cel} (h : w.ownsRow B T 5 (.slice (some ⟨g, 0, none⟩) n cap) n (tcells l)) {k : Nat} (hk : k < l.length) :
    w.cell? ⟨g, k * 5, none⟩ = some (.int .i64 l[k].d.1) ∧ w.cell? ⟨g, k * 5 + 1, none⟩ = some (.int .i64 l[k].d.2) ∧ w.cell? ⟨g, k * 5 + 2, none⟩ = some (.int .i64 l[k].key) ∧ w.cell? ⟨g, k * 5 + 3, none⟩ = some (.int .i64 l[k].col) ∧ w.cell? ⟨g, k * 5 + 4, none⟩ = some (.int .i64 l[k].val) := by
  have H : ∀ j u, j < 5 → (Cel.cells l[k])[j]? = some u → w.cell? ⟨g, k * 5 + j, none⟩ = some u := fun j u hj hu => by
    have := h.cells (g := g) rfl (k * 5 + j) u (by rw [flat_get Cel.len l k hk j hj]; exact hu)
    rwa [add_none, Nat.zero_add] at this
  exact ⟨H 0 _ (by decide) rfl, H 1 _ (by decide) rfl, H 2 _ (by decide) rfl, H 3 _ (by decide) rfl, H 4 _ (by decide) rfl⟩
theorem own_shortS {w : World} {B n cap g k s : Nat} {T : TypeId} {xs : List Value} (h : w.ownsRow B T s (.slice (some ⟨g, 0, none⟩) n cap) n xs) (hk : k ≤ n) :
    w.ownsRow B T s (.slice (some ⟨g, 0, none⟩) k cap) k (xs.take (k * s)) := by
  have hks : k * s ≤ n * s := Nat.mul_le_mul_right s hk
  rcases h.2 with ⟨h', _⟩ | ⟨g', cap', cur, h', hb, hg, hnc, hcm, hcs, htake⟩
  · cases h'
  · simp only [Value.slice.injEq, Option.some.injEq, Addr.mk.injEq, and_true, true_and] at h'
    obtain ⟨rfl, rfl⟩ := h'
    refine ⟨by rw [List.length_take, h.1]; omega, .inr ⟨g, cap, cur, rfl, hb, hg, by omega, hcm, hcs, ?_⟩⟩
    rw [← htake, List.take_take, Nat.min_eq_left (by omega)]
theorem own_beyondS {B n cap g s : Nat} {T : TypeId} {xs : List Value} : ∀ (vs : List Value) (w : World) (off : Nat), w.ownsRow B T s (.slice (some ⟨g, 0, none⟩) n cap) n xs → n * s ≤ off →
    (w.setCells g off vs).ownsRow B T s (.slice (some ⟨g, 0, none⟩) n cap) n xs ∧ w.grownBy (w.setCells g off vs) (some g)
  | [], w, off, h, _ => ⟨h, ⟨rfl, rfl, rfl, Nat.le_refl _, fun _ _ _ => rfl⟩⟩
  | v :: vs, w, off, h, ho => by
    have hs := h.stored off v
    have e : xs.set off v = xs := List.set_eq_of_length_le (by rw [h.1]; exact ho)
    rw [e] at hs
    obtain ⟨h1, h2⟩ := own_beyondS vs _ (off + 1) hs.1 (by omega)
    rw [World.setCells]
    exact ⟨h1, ⟨h2.os.trans hs.2.os, h2.tape.trans hs.2.tape, h2.output.trans hs.2.output, Nat.le_trans hs.2.size h2.size, fun k hk hne => (h2.block k (Nat.lt_of_lt_of_le hk hs.2.size) hne).trans (hs.2.block k hk hne)⟩⟩
theorem tcells_set : ∀ (l : List Cel) (k : Nat) (x : Cel), (((((tcells l).set (k * 5) (.int .i64 x.d.1)).set (k * 5 + 1) (.int .i64 x.d.2)).set (k * 5 + 2) (.int .i64 x.key)).set (k * 5 + 3) (.int .i64 x.col)).set (k * 5 + 4) (.int .i64 x.val) = tcells (l.set k x)
  | [], k, x => by simp
  | a :: l, 0, x => by simp [List.flatMap_cons]
  | a :: l, k + 1, x => by
    have ih := tcells_set l k x
    have e0 : (k + 1) * 5 = k * 5 + 1 + 1 + 1 + 1 + 1 := by omega
    have e1 : (k + 1) * 5 + 1 = (k * 5 + 1) + 1 + 1 + 1 + 1 + 1 := by omega
    have e2 : (k + 1) * 5 + 2 = (k * 5 + 2) + 1 + 1 + 1 + 1 + 1 := by omega
    have e3 : (k + 1) * 5 + 3 = (k * 5 + 3) + 1 + 1 + 1 + 1 + 1 := by omega
    have e4 : (k + 1) * 5 + 4 = (k * 5 + 4) + 1 + 1 + 1 + 1 + 1 := by omega
    rw [e1, e2, e3, e4, e0]
    simp only [tcells, List.flatMap_cons, Cel.cells, List.cons_append, List.nil_append, List.set_cons_succ] at ih ⊢
    rw [ih]
theorem own_storeC {w : World} {B n cap g : Nat} {T : TypeId} {l : List Cel} (h : w.ownsRow B T 5 (.slice (some ⟨g, 0, none⟩) n cap) n (tcells l)) (k : Nat) (x : Cel) :
    (((((w.setCell ⟨g, k * 5, none⟩ (.int .i64 x.d.1)).setCell ⟨g, k * 5 + 1, none⟩ (.int .i64 x.d.2)).setCell ⟨g, k * 5 + 2, none⟩ (.int .i64 x.key)).setCell ⟨g, k * 5 + 3, none⟩ (.int .i64 x.col)).setCell ⟨g, k * 5 + 4, none⟩ (.int .i64 x.val)).ownsRow B T 5 (.slice (some ⟨g, 0, none⟩) n cap) n (tcells (l.set k x)) ∧
      w.grownBy (((((w.setCell ⟨g, k * 5, none⟩ (.int .i64 x.d.1)).setCell ⟨g, k * 5 + 1, none⟩ (.int .i64 x.d.2)).setCell ⟨g, k * 5 + 2, none⟩ (.int .i64 x.key)).setCell ⟨g, k * 5 + 3, none⟩ (.int .i64 x.col)).setCell ⟨g, k * 5 + 4, none⟩ (.int .i64 x.val)) (some g) := by
  have h1 := h.stored (k * 5) (.int .i64 x.d.1)
  have h2 := h1.1.stored (k * 5 + 1) (.int .i64 x.d.2)
  have h3 := h2.1.stored (k * 5 + 2) (.int .i64 x.key)
  have h4 := h3.1.stored (k * 5 + 3) (.int .i64 x.col)
  have h5 := h4.1.stored (k * 5 + 4) (.int .i64 x.val)
  rw [tcells_set] at h5
  exact ⟨h5.1, grown_trans h1.2 (grown_trans h2.2 (grown_trans h3.2 (grown_trans h4.2 h5.2)))⟩

abbrev zCel : Value := .agg #[.int .i64 0, .int .i64 0, .int .i64 0, .int .i64 0, .int .i64 0]
theorem zeros_cel (n : Nat) : (Builtin.zeroCells zCel.cells n).toList.length = n * 5 ∧ ∀ u ∈ (Builtin.zeroCells zCel.cells n).toList, u.oneCell' = true := by
  constructor
  · simp [Builtin.zeroCells, Value.cells]
  · intro u hu
    simp [Builtin.zeroCells, Value.cells] at hu
    obtain ⟨k, hk, rfl⟩ := hu
    have h5 : k % 5 < 5 := Nat.mod_lt _ (by decide)
    rcases (by omega : k % 5 = 0 ∨ k % 5 = 1 ∨ k % 5 = 2 ∨ k % 5 = 3 ∨ k % 5 = 4) with h | h | h | h | h <;> simp [h] <;> rfl
theorem run_clear_cel (w : World) (ty : TypeId) (b o n c : Nat) (hn : 0 < n)
    (hc : ∀ j, j < n * 5 → (w.cell? ⟨b, o + j, none⟩).isSome = true) (hf : ∀ j, j < n * 5 → w.frozen? ⟨b, o + j, none⟩ = false) :
    (Builtin.clear_ #[26] ty #[.slice (some ⟨b, o, none⟩) n c]).run Tryz.prog w = .ok (.tuple #[]) (w.setCells b o (Builtin.zeroCells zCel.cells n).toList) := by
  have hv : ∀ w, (zeroValue 59).run Tryz.prog w = .ok zCel w := Tryz.zeroValue59
  obtain ⟨hz1, hz2⟩ := zeros_cel n
  generalize hvs : (Builtin.zeroCells zCel.cells n).toList = vs at *
  have hst := run_storeCells_cells (P := Tryz.prog) b o vs 0 w (by rw [hz1]; simpa using hc) (by rw [hz1]; simpa using hf) hz2
  simp only [Nat.add_zero] at hst
  obtain ⟨m, rfl⟩ : ∃ m, n = m + 1 := ⟨n - 1, by omega⟩
  simp [Builtin.clear_, run_underlying Tryz.underlying26, hv, hvs, hst]
theorem GInv.cell {l ds : List Cel} {m kk B g n cap : Nat} {w : World} {T : TypeId} (hI : GInv l m kk ds) (how : w.ownsRow B T 5 (.slice (some ⟨g, 0, none⟩) n cap) n (tcells ds)) (j a : Nat) (hj : j < l.length) (hm : m ≤ j + 1) (ha : a = j * 5) :
    ∃ r : Cel, l[j] = r ∧ w.cell? ⟨g, a, none⟩ = some (.int .i64 r.d.1) ∧ w.cell? ⟨g, a + 1, none⟩ = some (.int .i64 r.d.2) ∧ w.cell? ⟨g, a + 2, none⟩ = some (.int .i64 r.key) ∧ w.cell? ⟨g, a + 3, none⟩ = some (.int .i64 r.col) ∧ w.cell? ⟨g, a + 4, none⟩ = some (.int .i64 r.val) := by
  subst ha
  have hj2 : j < ds.length := by rw [hI.len]; exact hj
  have e := hI.high j hj hj2 hm
  have := own_cel how hj2
  rw [e] at this
  exact ⟨l[j], rfl, this⟩
end Go.Proofs.YtmcdaibdpeeefaaGreat
