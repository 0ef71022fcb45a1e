/- Base, Mem, App, Gen, DotA, DotB, DotC, DotD -/
import Derived.WalkKit
import Derived.ProofKit
import Derived.OpenShut
import Derived.Handy
import Derived.Deep.Quiet
import Derived.Deep.QuietTactic
import Derived.BigQuiet
import Derived.StillTailTactics
import Derived.Deep.AppendLies
import Derived.Maps.AppendAt
import Derived.Deep.RegionHeld3
import Derived.OwnWalk
import Derived.Test.YtldlmkfigjicgaaGreatDoorRows
import Derived.Outline
import Derived.StillTail
import Derived.StillTactics
/- Words of my own for memory: a slice that reads as a list of cells, what is kept below a block, one lexical walk of a region that draws its order over the class 'Below'. No program in sight. -/
namespace Go.Proofs.YtldlmkfigjicgaaGreatDoor
set_option linter.unusedVariables false
open Go.RowKit

theorem hid {p : Prop} (h : p) : Hid p := h

/-- The slice address 'A' leads to the cells 'xs', all below block 'B'. -/
def Row (w : World) (B : Nat) (A : Option Addr) (xs : List Value) : Prop :=
  xs = [] ∨ ∃ b off, A = some ⟨b, off, none⟩ ∧ b < B ∧ ∀ j u, xs[j]? = some u → w.cell? ⟨b, off + j, none⟩ = some u

theorem Row.nil {w : World} {B : Nat} {A : Option Addr} : Row w B A [] := .inl rfl
theorem Row.below {w w' : World} {B C : Nat} {A : Option Addr} {xs : List Value} (h : Row w B A xs) (hb : Below C w w') (hB : B ≤ C) : Row w' B A xs := by
  rcases h with h | ⟨b, off, h1, h2, h3⟩
  · exact .inl h
  · exact .inr ⟨b, off, h1, h2, fun j u hu => (hb.cell (p := ⟨b, off + j, none⟩) (by simp; omega)).trans (h3 j u hu)⟩
theorem Row.more {w : World} {B C : Nat} {A : Option Addr} {xs : List Value} (h : Row w B A xs) (hB : B ≤ C) : Row w C A xs := by
  rcases h with h | ⟨b, off, h1, h2, h3⟩
  · exact .inl h
  · exact .inr ⟨b, off, h1, by omega, h3⟩
theorem Row.at_ {w : World} {B : Nat} {A : Option Addr} {xs : List Value} (h : Row w B A xs) {k : Nat} (hk : k < xs.length) :
    ∃ b off, A = some ⟨b, off, none⟩ ∧ b < B ∧ ∀ j u, xs[j]? = some u → w.cell? ⟨b, off + j, none⟩ = some u := by
  rcases h with h | h
  · subst h; simp at hk
  · exact h

/-- What was there when the call began is there in a later world that kept all that was there after one new block more. -/
theorem Row.later {w wr : World} {A : Option Addr} {xs : List Value} {o : Obj} (h : Row w w.heap.size A xs) (hb : Below (w.heap.size + 1) (w.alloc o) wr) : Row wr w.heap.size A xs :=
  (h.below (Below.alloc (Below.refl _ _) (Nat.le_refl _) _) (Nat.le_refl _)).below (hb.mono (Nat.le_succ _)) (Nat.le_refl _)
theorem size_later {w wr : World} {o : Obj} (hb : Below (w.heap.size + 1) (w.alloc o) wr) : w.heap.size < wr.heap.size := by
  have := hb.size
  simp at this
  omega

theorem bcell {B : Nat} {W w1 : World} (hb : Below B W w1) :
    (∀ b o, b < B → w1.cell? ⟨b, o, none⟩ = W.cell? ⟨b, o, none⟩) ∧ (∀ b o, b < B → w1.frozen? ⟨b, o, none⟩ = W.frozen? ⟨b, o, none⟩) :=
  ⟨fun b o h => hb.cell (p := ⟨b, o, none⟩) h, fun b o h => hb.frozen (p := ⟨b, o, none⟩) h⟩

/-- A world that is 'W' below 'B'. -/
structure Ext (B : Nat) (W : World) where
  w : World
  below : Below B W w

theorem ext_below {B : Nat} {W w' : World} (h : ∃ x : Ext B W, w' = x.w) : Below B W w' := by
  obtain ⟨x, rfl⟩ := h
  exact x.below

instance (B : Nat) (W : World) : Nonempty (Ext B W) := ⟨⟨W, Below.refl _ _⟩⟩

/-- A region that draws its order, its operations quiet in the class of the worlds that are as this one below its own size: the order of the text serves. -/
theorem region_ext {P : Program} {id : Nat} {Q : Exit → Act → World → Prop} {a : Act} {w : World} {l : List Oper}
    (hm : P.follows .mixedOrders = true) (hB : Region.lexB .any l.toArray = true)
    (h : (∀ (x : Ext w.heap.size w) b o, b < w.heap.size → x.w.cell? ⟨b, o, none⟩ = w.cell? ⟨b, o, none⟩) →
      wpQuiet P l.toArray (fun w' => ∃ x : Ext w.heap.size w, w' = x.w) (fun a' => ∀ w', (∃ x : Ext w.heap.size w, w' = x.w) → Q .normal a' w') l a) : (Code.region id l.toArray true).wp P Q a w :=
  wp_region_quiet (C := fun w' => ∃ x : Ext w.heap.size w, w' = x.w) hm hB ⟨⟨w.drew, (Below.refl _ _).drew⟩, rfl⟩ (by simpa using h fun x b o hb => x.below.cell (p := ⟨b, o, none⟩) hb)

theorem ext_call {P : Program} {f : FuncId} {args : Array Value} {B : Nat} {W : World} {v : Value} (x : Ext B W) (hB : B ≤ W.heap.size)
    (h : Calls P f args x.w fun e w' => e = .returned v ∧ Below x.w.heap.size x.w w') : Calls P f args x.w fun e w'' => e = .returned v ∧ ∃ y : Ext B W, w'' = y.w :=
  h.mono fun _ w' ⟨he, hb⟩ => ⟨he, ⟨w', x.below.trans (hb.mono (Nat.le_trans hB x.below.size))⟩, rfl⟩

theorem ext_call_same {P : Program} {f : FuncId} {args : Array Value} {B : Nat} {W : World} {v : Value} (x : Ext B W)
    (h : Calls P f args x.w fun e w' => e = .returned v ∧ x.w = w') : Calls P f args x.w fun e w'' => e = .returned v ∧ ∃ y : Ext B W, w'' = y.w :=
  h.mono fun _ w' ⟨he, hb⟩ => ⟨he, x, hb.symm⟩

theorem ret_bool {a b : Bool} (h : a = b) : Ending.returned (.bool a) = .returned (.bool b) := by rw [h]
theorem ret_int {k : IntKind} {a b : Int} (h : a = b) : Ending.returned (.int k a) = .returned (.int k b) := by rw [h]

theorem below_drewN {B : Nat} {W w : World} (h : Below B W w) (n : Nat) : Below B W (w.drewN n) := ⟨h.os, h.tape, h.output, h.size, h.block⟩

/-- A region whose first n operations leave the world alone, and whose others follow one by one. -/
theorem region_tail {P : Program} {id : Nat} {Q : Exit → Act → World → Prop} {a : Act} {w : World} {l : List Oper} (n : Nat) (hm : P.follows .mixedOrders = true) (hB : Region.lexTailB .any l.toArray n = true)
    (h : wpStill P l.toArray w.drew (fun a' => wpList P l.toArray Q (l.drop n) a' w.drew) (l.take n) a) : (Code.region id l.toArray true).wp P Q a w :=
  wp_region_still_tail n hm hB h
end Go.Proofs.YtldlmkfigjicgaaGreatDoor
/- Words for memory, the second: a block known whole ('Blk'), facts of an anchor world carried to a later one. No program in sight. -/
namespace Go.Proofs.YtldlmkfigjicgaaGreatDoor
set_option linter.unusedVariables false
open Go.RowKit

/-- Block b of w is cs, of type T, and may be written. -/
def Blk (w : World) (b : Nat) (cs : Array Value) (T : TypeId) : Prop := w.heap[b]? = some (.cells cs T (0, 0))

theorem Blk.lt {w : World} {b : Nat} {cs : Array Value} {T : TypeId} (h : Blk w b cs T) : b < w.heap.size := by
  rcases Nat.lt_or_ge b w.heap.size with h1 | h1
  · exact h1
  · unfold Blk at h; rw [Array.getElem?_eq_none h1] at h; cases h
theorem Blk.cells {w : World} {b : Nat} {cs : Array Value} {T : TypeId} (h : Blk w b cs T) : (∀ j, w.cell? ⟨b, j, none⟩ = cs[j]?) ∧ (∀ j, w.frozen? ⟨b, j, none⟩ = false) :=
  ⟨fun j => cell_of_row w b j _ _ _ h, fun j => frozen_of_row w b j _ _ h⟩
theorem Blk.thru {B : Nat} {w w' : World} {b : Nat} {cs : Array Value} {T : TypeId} (h : Blk w b cs T) (hb : Below B w w') (hlt : b < B) : Blk w' b cs T := (hb.block b hlt).trans h
theorem Blk.step {w w' : World} {b : Nat} {cs : Array Value} {T : TypeId} (h : Blk w b cs T) (hb : Below w.heap.size w w') : Blk w' b cs T := h.thru hb h.lt
theorem Blk.alloc {w : World} {b : Nat} {cs : Array Value} {T : TypeId} (h : Blk w b cs T) (o : Obj) : Blk (w.alloc o) b cs T := (Below.heap_alloc w o b h.lt).trans h
theorem Blk.drew {w : World} {b : Nat} {cs : Array Value} {T : TypeId} (h : Blk w b cs T) : Blk w.drew b cs T := h
theorem Blk.drewN {w : World} {b : Nat} {cs : Array Value} {T : TypeId} (h : Blk w b cs T) (n : Nat) : Blk (w.drewN n) b cs T := h
theorem Blk.new (w : World) (cs : Array Value) (T : TypeId) : Blk (w.alloc (.cells cs T)) w.heap.size cs T := heap_alloc_new w _
theorem Blk.new' (w : World) (cs : Array Value) (T : TypeId) {b : Nat} (h : b = w.heap.size) : Blk (w.alloc (.cells cs T)) b cs T := by subst h; exact heap_alloc_new w _
theorem Blk.set {w : World} {b : Nat} {cs : Array Value} {T : TypeId} (h : Blk w b cs T) (i : Nat) (v : Value) : Blk (w.setCell ⟨b, i, none⟩ v) b (cs.setIfInBounds i v) T := heap_setCell_same w b i cs T v h
theorem Blk.other {w : World} {b : Nat} {cs : Array Value} {T : TypeId} (h : Blk w b cs T) {a : Addr} (hne : b ≠ a.block) (v : Value) : Blk (w.setCell a v) b cs T := (Below.heap_setCell w a v b hne).trans h
theorem Blk.grown {w w' : World} {b : Nat} {cs : Array Value} {T : TypeId} {row : Option Nat} (h : Blk w b cs T) (hg : w.grownBy w' row) (hne : some b ≠ row) : Blk w' b cs T := (hg.block b h.lt hne).trans h
theorem Blk.eq {w : World} {b : Nat} {cs ds : Array Value} {T : TypeId} (h : Blk w b cs T) (e : cs = ds) : Blk w b ds T := e ▸ h

/-- All that the walk wants of a block that it knows whole. -/
theorem Blk.all {w : World} {b : Nat} {cs : Array Value} {T : TypeId} (h : Blk w b cs T) : (∀ j, w.cell? ⟨b, j, none⟩ = cs[j]?) ∧ (∀ j, w.frozen? ⟨b, j, none⟩ = false) ∧ b < w.heap.size ∧ ((b = w.heap.size) = False) :=
  ⟨h.cells.1, h.cells.2, h.lt, eq_false (Nat.ne_of_lt h.lt)⟩

theorem Below.step {B : Nat} {a b c : World} (h : Below B a b) (hB : B ≤ b.heap.size) (k : Below b.heap.size b c) : Below B a c := h.trans (k.mono hB)
theorem Below.step' {a b c : World} (h : Below a.heap.size a b) (k : Below b.heap.size b c) : Below a.heap.size a c := h.trans (k.mono h.size)
theorem Row.step {w w' : World} {A : Option Addr} {xs : List Value} (h : Row w w.heap.size A xs) (hb : Below w.heap.size w w') : Row w' w'.heap.size A xs := (h.below hb (Nat.le_refl _)).more hb.size
theorem NewAt.less {lo lo' : Nat} {A : Option Addr} (h : ∀ b off q, A = some ⟨b, off, q⟩ → lo ≤ b) (hl : lo' ≤ lo) : ∀ b off q, A = some ⟨b, off, q⟩ → lo' ≤ b := fun b off q e => Nat.le_trans hl (h b off q e)
/-- One rule for all that an anchor world knows. -/
theorem anchor {W w' : World} (hb : Below W.heap.size W w') : (∀ b o, b < W.heap.size → w'.cell? ⟨b, o, none⟩ = W.cell? ⟨b, o, none⟩) ∧ (∀ b o, b < W.heap.size → w'.frozen? ⟨b, o, none⟩ = W.frozen? ⟨b, o, none⟩) ∧ W.heap.size ≤ w'.heap.size := ⟨(bcell hb).1, (bcell hb).2, hb.size⟩
end Go.Proofs.YtldlmkfigjicgaaGreatDoor
/- append onto an owned row from whatever row, nil or not: one law for plain regions, one for regions that draw. No program in sight. -/
namespace Go.Proofs.YtldlmkfigjicgaaGreatDoor
set_option linter.unusedVariables false
open Go.RowKit

/-- What the table says of a slice type's elements. -/
structure Elem (P : Program) (t e : TypeId) (size bytes : Nat) : Prop where
  ht : P.underlying t = some (.slice e)
  hi : ∃ i z, P.info? e = some i ∧ i.zero = some z ∧ i.size = size ∧ i.bytes = bytes ∧ z.cells.size = size
  pos : 0 < size

theorem addr_add (b off j : Nat) : (⟨b, off, none⟩ : Addr).add j = ⟨b, off + j, none⟩ := by
  by_cases h : j = 0 <;> simp [Addr.add, h]

theorem Row.new (w : World) (cs : Array Value) (T : TypeId) {B : Nat} (hB : w.heap.size < B) : Row (w.alloc (.cells cs T)) B (some ⟨w.heap.size, 0, none⟩) cs.toList :=
  .inr ⟨w.heap.size, 0, rfl, hB, fun j u hu => by
    have h := (Blk.new w cs T).cells.1 j
    rw [Nat.zero_add, h]
    simpa using hu⟩
theorem Row.new' (w : World) (cs : Array Value) (T : TypeId) {h B : Nat} {xs : List Value} (e : w.heap.size = h) (hx : xs = cs.toList) (hB : h < B) : Row (w.alloc (.cells cs T)) B (some ⟨h, 0, none⟩) xs := by
  subst e hx; exact Row.new w cs T hB
theorem Row.drew {w : World} {B : Nat} {A : Option Addr} {xs : List Value} (h : Row w B A xs) : Row w.drew B A xs := h
theorem Row.drewN {w : World} {B : Nat} {A : Option Addr} {xs : List Value} (h : Row w B A xs) (n : Nat) : Row (w.drewN n) B A xs := h
theorem Row.alloc {w : World} {A : Option Addr} {xs : List Value} (h : Row w w.heap.size A xs) (o : Obj) : Row (w.alloc o) (w.alloc o).heap.size A xs := h.step ((Below.refl _ _).alloc (Nat.le_refl _) o)
theorem Row.grown {w w' : World} {B : Nat} {A : Option Addr} {xs : List Value} {row : Option Nat} (h : Row w B A xs) (hB : B ≤ w.heap.size) (hg : w.grownBy w' row) (hr : ∀ k, row = some k → B ≤ k) : Row w' B A xs :=
  h.below (C := B) ⟨hg.os, hg.tape, hg.output, hg.size, fun k hk => hg.block k (by omega) (fun e => by have := hr k e.symm; omega)⟩ (Nat.le_refl _)

theorem run_append_zero {P : Program} (w : World) (base : Nat) (t ty e : TypeId) (i : TypeInfo) (size : Nat) (ht : P.underlying t = some (.slice e)) (hi : P.info? e = some i)
    (v : Value) (n : Nat) (xs : List Value) (hown : w.ownsRow base e size v n xs) (A : Option Addr) (c : Nat) :
    (Builtin.append_ #[t, t] ty #[v, .slice A 0 c]).run P w = .ok v w := by
  cases A with
  | none =>
    rcases hown.2 with ⟨rfl, rfl⟩ | ⟨g, cap, cur, rfl, _, _, hnc, _⟩
    · simp [Builtin.append_, run_underlying ht, sizeOf, typeInfo, hi, Builtin.lenOf, Builtin.firstCells]
    · simp [Builtin.append_, run_underlying ht, sizeOf, typeInfo, hi, Builtin.lenOf, Builtin.firstCells, hnc, storeCells]
  | some a =>
    rcases hown.2 with ⟨rfl, rfl⟩ | ⟨g, cap, cur, rfl, _, _, hnc, _⟩
    · simp [Builtin.append_, run_underlying ht, sizeOf, typeInfo, hi, Builtin.lenOf, Builtin.firstCells, loadCells, loadCellsFrom]
    · simp [Builtin.append_, run_underlying ht, sizeOf, typeInfo, hi, Builtin.lenOf, Builtin.firstCells, hnc, storeCells, loadCells, loadCellsFrom]

theorem run_append_row {P : Program} (w : World) (base : Nat) (t ty e : TypeId) {size bytes : Nat} (El : Elem P t e size bytes)
    (v : Value) (n : Nat) (xs : List Value) (hown : w.ownsRow base e size v n xs)
    (A : Option Addr) (m c B : Nat) (news : List Value) (hl : news.length = m * size) (hnews : Row w B A news) (h1 : ∀ u ∈ news, u.oneCell' = true)
    (h63 : n + m ≤ maxLen) (hbytes : (n + m) * bytes ≤ 140737488355328) (hbase : base ≤ w.heap.size) :
    ∃ v' w', (Builtin.append_ #[t, t] ty #[v, .slice A m c]).run P w = .ok v' w' ∧ w'.ownsRow base e size v' (n + m) (xs ++ news) ∧ w.grownBy w' v.ownBlock ∧ (v'.ownBlock = v.ownBlock ∨ v'.ownBlock = some w.heap.size) := by
  obtain ⟨i, z, hi, hz, hsize, hby, hzs⟩ := El.hi
  rcases hnews with rfl | ⟨b, off, rfl, hb, hc⟩
  · have hm : m = 0 := by
      have hp := El.pos
      simp only [List.length_nil] at hl
      rcases Nat.mul_eq_zero.1 hl.symm with h | h <;> omega
    subst hm
    exact ⟨v, w, run_append_zero w base t ty e i size El.ht hi v n xs hown A c, by simpa using hown, ⟨rfl, rfl, rfl, Nat.le_refl _, fun _ _ _ => rfl⟩, .inl rfl⟩
  · obtain ⟨v', w', hr, h2, h3, h4, h5⟩ := run_append_own_at (P := P) w base t ty e i z size bytes El.ht hi hz hsize hby hzs El.pos v n xs hown ⟨b, off, none⟩ m c news hl (fun j u hu => by
      rw [addr_add]
      exact hc j u hu) h1 h63 hbytes hbase
    exact ⟨v', w', hr, h2, h3, h5⟩

theorem wp_append_row {P : Program} {w : World} {o : Oper} {a : Act} {K : Act → World → Prop} {Q : Exit → Act → World → Prop} {t e : TypeId} {size bytes : Nat} (El : Elem P t e size bytes) (s x : Operand)
    (ho : o.op = .call { callee := .builtin .append, args := #[s, x], argTypes := #[t, t] })
    (base : Nat) (v : Value) (n : Nat) (xs : List Value) (hs : a.eval s = v) (hown : w.ownsRow base e size v n xs)
    (A : Option Addr) (m c B : Nat) (news : List Value) (hx : a.eval x = .slice A m c) (hl : news.length = m * size) (hnews : Row w B A news) (h1 : ∀ u ∈ news, u.oneCell' = true)
    (h63 : n + m ≤ maxLen) (hbytes : (n + m) * bytes ≤ 140737488355328) (hbase : base ≤ w.heap.size)
    (h : ∀ v' w', w'.ownsRow base e size v' (n + m) (xs ++ news) → w.grownBy w' v.ownBlock → (v'.ownBlock = v.ownBlock ∨ v'.ownBlock = some w.heap.size) → K (a.put o.dst v') w') : o.wp P a w K Q := by
  obtain ⟨v', w', hr, h2, h3, h4⟩ := run_append_row (P := P) w base t o.type e El v n xs hown A m c B news hl hnews h1 h63 hbytes hbase
  unfold Oper.wp execOp
  simp only [ho, resolve, invoke, builtin, Sem.run_bind, Sem.run_pure, Result.andThen_ok, List.map_toArray, List.map_cons, List.map_nil, hs, hx, hr]
  exact h v' w' h2 h3 h4

theorem wpList_append_row {P : Program} {w : World} {ops : Array Oper} {rest : List Oper} {o : Oper} {a : Act} {Q : Exit → Act → World → Prop} {t e : TypeId} {size bytes : Nat} (El : Elem P t e size bytes) (hgd : o.guard = none) (s x : Operand)
    (ho : o.op = .call { callee := .builtin .append, args := #[s, x], argTypes := #[t, t] })
    (base : Nat) (v : Value) (n : Nat) (xs : List Value) (hs : a.eval s = v) (hown : w.ownsRow base e size v n xs)
    (A : Option Addr) (m c B : Nat) (news : List Value) (hx : a.eval x = .slice A m c) (hl : news.length = m * size) (hnews : Row w B A news) (h1 : ∀ u ∈ news, u.oneCell' = true)
    (h63 : n + m ≤ maxLen) (hbytes : (n + m) * bytes ≤ 140737488355328) (hbase : base ≤ w.heap.size)
    (h : ∀ v' w', w'.ownsRow base e size v' (n + m) (xs ++ news) → w.grownBy w' v.ownBlock → (v'.ownBlock = v.ownBlock ∨ v'.ownBlock = some w.heap.size) → wpList P ops Q rest (a.put o.dst v') w') :
    wpList P ops Q (o :: rest) a w :=
  wpList_plain hgd fun K hK => wp_append_row El s x ho base v n xs hs hown A m c B news hx hl hnews h1 h63 hbytes hbase fun v' w' a1 a2 a3 => hK _ _ (h v' w' a1 a2 a3)

theorem step_append_row {P : Program} {w : World} {ops : Array Oper} {o : Oper} {a : Act} {K : Act → World → Prop} {Q : Exit → Act → World → Prop} {E : Prop} {t e : TypeId} {size bytes : Nat} (El : Elem P t e size bytes) (hgd : o.guard = none) (s x : Operand)
    (ho : o.op = .call { callee := .builtin .append, args := #[s, x], argTypes := #[t, t] })
    (base : Nat) (v : Value) (n : Nat) (xs : List Value) (hs : a.eval s = v) (hown : w.ownsRow base e size v n xs)
    (A : Option Addr) (m c B : Nat) (news : List Value) (hx : a.eval x = .slice A m c) (hl : news.length = m * size) (hnews : Row w B A news) (h1 : ∀ u ∈ news, u.oneCell' = true)
    (h63 : n + m ≤ maxLen) (hbytes : (n + m) * bytes ≤ 140737488355328) (hbase : base ≤ w.heap.size)
    (h : ∀ v' w', w'.ownsRow base e size v' (n + m) (xs ++ news) → w.grownBy w' v.ownBlock → (v'.ownBlock = v.ownBlock ∨ v'.ownBlock = some w.heap.size) → K (a.put o.dst v') w') :
    if Region.wanted o (yielded ops a.tmps) = true then Oper.wp P o a w K Q else E := by
  have hw : Region.wanted o (yielded ops a.tmps) = true := by simp [Region.wanted, hgd]
  rw [if_pos hw]
  exact wp_append_row El s x ho base v n xs hs hown A m c B news hx hl hnews h1 h63 hbytes hbase h

/-- What is in the anchor world stands in a later one: for 'go_region_held3'. -/
theorem keepS {W w' : World} (h : Below W.heap.size W w') : (∀ b o, b < W.heap.size → w'.cell? ⟨b, o, none⟩ = W.cell? ⟨b, o, none⟩) ∧ Below W.heap.size W w' := ⟨(bcell h).1, h⟩
theorem own_ne_lo {w : World} {B n size : Nat} {T : TypeId} {v : Value} {xs : List Value} (h : w.ownsRow B T size v n xs) : ∀ b, b < B → (some b = v.ownBlock) = False :=
  fun b hb => eq_false fun e => Nat.lt_irrefl _ (Nat.lt_of_lt_of_le hb (h.lt b e.symm).1)
theorem own_ne_hi {w : World} {B n size : Nat} {T : TypeId} {v : Value} {xs : List Value} (h : w.ownsRow B T size v n xs) : ∀ b, w.heap.size ≤ b → (some b = v.ownBlock) = False :=
  fun b hb => eq_false fun e => Nat.lt_irrefl _ (Nat.lt_of_le_of_lt hb (h.lt b e.symm).2)
theorem cellsGrown {w w' : World} {row : Option Nat} (hg : w.grownBy w' row) :
    (∀ b o, b < w.heap.size → (some b = row) = False → w'.cell? ⟨b, o, none⟩ = w.cell? ⟨b, o, none⟩) ∧ (∀ b o, b < w.heap.size → (some b = row) = False → w'.frozen? ⟨b, o, none⟩ = w.frozen? ⟨b, o, none⟩) ∧ w.heap.size ≤ w'.heap.size :=
  ⟨fun b o hb hn => World.cell?_of_block (w := w) (hg.block b hb (fun e => by rw [hn] at e; exact e)), fun b o hb hn => World.frozen?_of_block (w := w) (hg.block b hb (fun e => by rw [hn] at e; exact e)), hg.size⟩
theorem below_grown {W w w' : World} {B n size : Nat} {T : TypeId} {v : Value} {xs : List Value} (h : Below W.heap.size W w) (hg : w.grownBy w' v.ownBlock) {w0 : World} (ho : w0.ownsRow B T size v n xs) (hB : W.heap.size ≤ B) : Below W.heap.size W w' :=
  h.grown hg h.size (fun g e => Nat.le_trans hB (ho.lt g e).1)
theorem Blk.grown' {w w' : World} {b : Nat} {cs : Array Value} {T : TypeId} {row : Option Nat} (h : Blk w b cs T) (hg : w.grownBy w' row) (hne : (some b = row) = False) : Blk w' b cs T := h.grown hg (fun e => by rw [hne] at e; exact e)
theorem lt_alloc (w : World) (o : Obj) : w.heap.size < (w.alloc o).heap.size := by simp
theorem Blk.five {w : World} {b : Nat} {x0 x1 x2 x3 x4 : Value} {T : TypeId} (h : Blk w b #[x0, x1, x2, x3, x4] T) :
    (w.cell? ⟨b, 0, none⟩ = some x0 ∧ w.cell? ⟨b, 1, none⟩ = some x1 ∧ w.cell? ⟨b, 2, none⟩ = some x2 ∧ w.cell? ⟨b, 3, none⟩ = some x3 ∧ w.cell? ⟨b, 4, none⟩ = some x4) ∧
    (w.frozen? ⟨b, 0, none⟩ = false ∧ w.frozen? ⟨b, 1, none⟩ = false ∧ w.frozen? ⟨b, 2, none⟩ = false ∧ w.frozen? ⟨b, 3, none⟩ = false ∧ w.frozen? ⟨b, 4, none⟩ = false) :=
  ⟨⟨h.cells.1 0, h.cells.1 1, h.cells.1 2, h.cells.1 3, h.cells.1 4⟩, h.cells.2 0, h.cells.2 1, h.cells.2 2, h.cells.2 3, h.cells.2 4⟩
theorem below_grown_nil {W w w' : World} (h : Below W.heap.size W w) (hg : w.grownBy w' (Value.slice none 0 0).ownBlock) : Below W.heap.size W w' :=
  h.grown hg h.size (fun g e => by simp [Value.ownBlock] at e)
theorem alloc_below {W w : World} (h : Below W.heap.size W w) (o : Obj) : Below W.heap.size W (w.alloc o) := h.alloc h.size o
theorem le_alloc (w : World) (o : Obj) : w.heap.size ≤ (w.alloc o).heap.size := by simp
end Go.Proofs.YtldlmkfigjicgaaGreatDoor
/- Words for memory that every seat wants: rows of things of more than one cell, owned rows of whatever size. No program in sight. -/
namespace Go.Proofs.YtldlmkfigjicgaaGreatDoor
set_option linter.unusedVariables false
open Go.RowKit

theorem flat_len {α β : Type} {f : α → List β} {n : Nat} (hf : ∀ x, (f x).length = n) : ∀ (L : List α), (L.flatMap f).length = L.length * n
  | [] => by simp
  | x :: L => by rw [List.flatMap_cons, List.length_append, hf, flat_len hf L, List.length_cons, Nat.succ_mul, Nat.add_comm]
theorem flat_get {α β : Type} {f : α → List β} {n : Nat} (hf : ∀ x, (f x).length = n) : ∀ (L : List α) (k : Nat) (h : k < L.length) (j : Nat), j < n → (L.flatMap f)[k * n + j]? = (f L[k])[j]?
  | x :: L, 0, _, j, hj => by
    rw [List.flatMap_cons, Nat.zero_mul, Nat.zero_add, List.getElem?_append_left (by rw [hf]; exact hj)]; rfl
  | x :: L, k + 1, h, j, hj => by
    rw [List.flatMap_cons, List.getElem?_append_right (by rw [hf, Nat.succ_mul]; omega), hf, show (k + 1) * n + j - n = k * n + j by rw [Nat.succ_mul]; omega]
    exact flat_get hf L k (by simpa using h) j hj
theorem flat_take {α β : Type} {f : α → List β} {n : Nat} (hf : ∀ x, (f x).length = n) : ∀ (L : List α) (k : Nat), (L.flatMap f).take (k * n) = (L.take k).flatMap f
  | [], k => by simp
  | x :: L, 0 => by simp
  | x :: L, k + 1 => by
    rw [List.flatMap_cons, List.take_succ_cons, List.flatMap_cons, Nat.succ_mul, Nat.add_comm, ← flat_take hf L k]
    rw [List.take_append, hf, List.take_of_length_le (by rw [hf]; omega), Nat.add_sub_cancel_left]

/-- What lies at the k-th thing of a row. -/
theorem Row.flat {α : Type} {f : α → List Value} {n : Nat} (hf : ∀ x, (f x).length = n) {w : World} {B : Nat} {A : Option Addr} {L : List α} (h : Row w B A (L.flatMap f)) (hn : 0 < n) {k : Nat} (hk : k < L.length) :
    ∃ b off, A = some ⟨b, off, none⟩ ∧ b < B ∧ ∀ j u, (f L[k])[j]? = some u → w.cell? ⟨b, off + k * n + j, none⟩ = some u := by
  have hlen : 0 < (L.flatMap f).length := by rw [flat_len hf]; exact Nat.mul_pos (by omega) hn
  obtain ⟨b, off, h1, h2, h3⟩ := h.at_ hlen
  refine ⟨b, off, h1, h2, fun j u hu => ?_⟩
  have hj : j < n := by
    rcases Nat.lt_or_ge j n with h | h
    · exact h
    · rw [List.getElem?_eq_none (by rw [hf]; exact h)] at hu; cases hu
  have := h3 (k * n + j) u (by rw [flat_get hf L k hk j hj]; exact hu)
  rw [← Nat.add_assoc] at this
  exact this

/-- A row from its cells, one thing at a time. -/
theorem Row.of_each {α : Type} {f : α → List Value} {s : Nat} (hf : ∀ x, (f x).length = s) {w : World} {b off n : Nat} (hb : b < w.heap.size) {Q : α → Prop}
    (h : ∀ i, i < n → ∃ x : α, Q x ∧ ∀ j u, (f x)[j]? = some u → w.cell? ⟨b, off + (i * s + j), none⟩ = some u) :
    ∃ l : List α, l.length = n ∧ (∀ x ∈ l, Q x) ∧ Row w w.heap.size (some ⟨b, off, none⟩) (l.flatMap f) := by
  have h' : ∀ m, m ≤ n → ∃ l : List α, l.length = m ∧ (∀ x ∈ l, Q x) ∧ ∀ j u, (l.flatMap f)[j]? = some u → w.cell? ⟨b, off + j, none⟩ = some u := by
    intro m
    induction m with
    | zero => exact fun _ => ⟨[], rfl, by simp, fun j u hu => by simp at hu⟩
    | succ m ih =>
      intro hm
      obtain ⟨l, hl, hq, hc⟩ := ih (by omega)
      obtain ⟨x, hqx, hx⟩ := h m (by omega)
      refine ⟨l ++ [x], by simp [hl], fun y hy => ?_, fun j u hu => ?_⟩
      · rcases List.mem_append.1 hy with h1 | h1
        · exact hq y h1
        · simp only [List.mem_singleton] at h1; rw [h1]; exact hqx
      · have e : (l ++ [x]).flatMap f = l.flatMap f ++ f x := by simp
        rw [e] at hu
        have hlen := flat_len hf l
        by_cases hj : j < (l.flatMap f).length
        · rw [List.getElem?_append_left hj] at hu
          exact hc j u hu
        · rw [List.getElem?_append_right (by omega)] at hu
          have := hx _ u hu
          rw [hlen, hl, show m * s + (j - m * s) = j by rw [hlen, hl] at hj; omega] at this
          exact this
  obtain ⟨l, hl, hq, hc⟩ := h' n (Nat.le_refl _)
  exact ⟨l, hl, hq, .inr ⟨b, off, rfl, hb, hc⟩⟩

theorem add_none (b off j : Nat) : (⟨b, off, none⟩ : Addr).add j = ⟨b, off + j, none⟩ := by
  unfold Addr.add
  split
  · subst_vars; rfl
  · rfl
/-- A slice's block is none that was there ahead. -/
def NewAt (lo : Nat) (A : Option Addr) : Prop := ∀ b off q, A = some ⟨b, off, q⟩ → lo ≤ b
theorem newAt_none (lo : Nat) : NewAt lo none := fun _ _ _ h => by cases h
theorem newAt_some {lo b off : Nat} {q} (h : lo ≤ b) : NewAt lo (some ⟨b, off, q⟩) := fun _ _ _ e => by injection e with e; injection e with e1; omega
theorem newAt_le {lo lo' : Nat} {A : Option Addr} (h : NewAt lo A) (hl : lo' ≤ lo) : NewAt lo' A := fun b off q e => Nat.le_trans hl (h b off q e)
theorem grown_of_below {w w' : World} (h : Below w.heap.size w w') : w.grownBy w' none := ⟨h.os, h.tape, h.output, h.size, fun k hk _ => h.block k hk⟩
theorem Row.of_ownS {w : World} {B n c s : Nat} {T : TypeId} {A : Option Addr} {xs : List Value} (h : w.ownsRow B T s (.slice A n c) n xs) : Row w w.heap.size A xs := by
  rcases h.2 with ⟨h', h0⟩ | ⟨g, cap, cur, h', hb, hg, hnc, hcm, hcs, htake⟩
  · have : xs = [] := List.eq_nil_of_length_eq_zero (by rw [h.1, h0, Nat.zero_mul])
    exact .inl this
  · injection h' with h1 h2 h3
    subst h1
    have hlt : g < w.heap.size := by
      rcases Nat.lt_or_ge g w.heap.size with h | h
      · exact h
      · rw [Array.getElem?_eq_none h] at hg; cases hg
    refine .inr ⟨g, 0, rfl, hlt, fun j u hu => ?_⟩
    have := h.cells (g := g) rfl j u hu
    rwa [add_none] at this
theorem own_formS {w : World} {B n s : Nat} {T : TypeId} {v : Value} {xs : List Value} (h : w.ownsRow B T s v n xs) : ∃ A c, v = .slice A n c := by
  rcases h.2 with ⟨rfl, rfl⟩ | ⟨g, cap, cur, rfl, _⟩
  · exact ⟨none, 0, rfl⟩
  · exact ⟨_, _, rfl⟩
theorem own_laterS {w w' : World} {B n s : Nat} {T : TypeId} {v : Value} {xs : List Value} (h : w.ownsRow B T s v n xs) (hb : Below w.heap.size w w') : w'.ownsRow B T s v n xs :=
  h.kept (grown_of_below hb) (by cases hv : v.ownBlock <;> simp)
theorem own_baseS {w : World} {B B' n s : Nat} {T : TypeId} {v : Value} {xs : List Value} (h : w.ownsRow B T s v n xs) (hB : B' ≤ B) : w.ownsRow B' T s v n xs := by
  refine ⟨h.1, ?_⟩
  rcases h.2 with h2 | ⟨g, cap, cur, h1, h2, h3⟩
  · exact .inl h2
  · exact .inr ⟨g, cap, cur, h1, Nat.le_trans hB h2, h3⟩
theorem own_newS {w : World} {B B' n c s : Nat} {T : TypeId} {A : Option Addr} {xs : List Value} (h : w.ownsRow B T s (.slice A n c) n xs) (hB : B' ≤ B) : NewAt B' A := by
  intro b off q e
  subst e
  exact Nat.le_trans hB (h.lt b (by
    rcases h.2 with ⟨h', _⟩ | ⟨g, cap, cur, h', _⟩
    · cases h'
    · injection h' with h1; injection h1 with h1; injection h1 with h1 h2 h3; subst h1 h2 h3; rfl)).1
theorem own_inS {w : World} {B n c s : Nat} {T : TypeId} {A : Option Addr} {xs : List Value} (h : w.ownsRow B T s (.slice A n c) n xs) : ∀ b off q, A = some ⟨b, off, q⟩ → b < w.heap.size := by
  intro b off q e
  subst e
  exact (h.lt b (by
    rcases h.2 with ⟨h', _⟩ | ⟨g, cap, cur, h', _⟩
    · cases h'
    · injection h' with h1; injection h1 with h1; injection h1 with h1 h2 h3; subst h1 h2 h3; rfl)).2
theorem own_setS {w : World} {B n s : Nat} {T : TypeId} {v : Value} {xs : List Value} (h : w.ownsRow B T s v n xs) {b : Nat} (hb : b < B) (i : Nat) (u : Value) : (w.setCell ⟨b, i, none⟩ u).ownsRow B T s v n xs :=
  ownsRow_setCell_below h (a := ⟨b, i, none⟩) hb u

/-- What a new block holds, as append reads it. -/
theorem news_at (w : World) (cs : List Value) (T : TypeId) (H : Nat) (hH : w.heap.size = H) : ∀ j u, cs[j]? = some u → (w.alloc (.cells cs.toArray T)).cell? ((⟨H, 0, none⟩ : Addr).add j) = some u := by
  intro j u hu
  subst hH
  rw [add_none, Nat.zero_add, cell_of_row _ _ j _ _ _ (heap_alloc_new w _)]
  simpa using hu
end Go.Proofs.YtldlmkfigjicgaaGreatDoor
/- Contracts of the small functions of the packages cmp and dot. -/
namespace Go.Proofs.YtldlmkfigjicgaaGreatDoor
set_option linter.unusedVariables false
open Go.ChangeShapes Go.WideShapes Go.ChangeAt Go.RowKit

def inB (n lo hi : Int) : Bool := decide (lo ≤ n) && decide (n ≤ hi)

theorem in_any (n lo hi : Int) (w : World) :
    Calls Tryz.prog 38 #[.int .i64 n, .int .i64 lo, .int .i64 hi] w fun e w' => e = .returned (.bool (inB n lo hi)) ∧ w = w' := by
  go_enter Tryz.func38, Tryz.ntmps38
  go_wp2
  all_goals go_ret
  all_goals (refine ⟨?_, rfl⟩; first | (simp [inB, *]; done) | (simp [inB, *]; omega) | (simp [inB]; omega))

def rightB (n s : Int) : Bool := decide (0 ≤ n) && decide (n < 4) && decide (1 ≤ s) && decide (s ≤ 1099511627776)

theorem right_any (n s : Int) (w : World) :
    Calls Tryz.prog 94 #[.agg #[.int .i64 n, .int .i64 s]] w fun e w' => e = .returned (.bool (rightB n s)) ∧ Below w.heap.size w w' := by
  go_enter Tryz.func94, Tryz.ntmps94
  go_wp2
  all_goals go_ret
  all_goals (refine ⟨?_, by go_grown⟩; first | (simp [rightB, *]; done) | (simp [rightB, *]; omega) | (simp [rightB]; omega))

theorem isNaN_any (n : Int) (w : World) :
    Calls Tryz.prog 103 #[.int .i64 n] w fun e w' => e = .returned (.bool false) ∧ w = w' := by
  go_enter Tryz.func103, Tryz.ntmps103
  go_wp2
  all_goals go_ret
  all_goals exact ⟨by simp, rfl⟩

def cmpI (x y : Int) : Int := if x < y then -1 else if y < x then 1 else 0

theorem compare_any (x y : Int) (w : World) :
    Calls Tryz.prog 82 #[.int .i64 x, .int .i64 y] w fun e w' => e = .returned (.int .i64 (cmpI x y)) ∧ w = w' := by
  go_enter Tryz.func82, Tryz.ntmps82
  go_wp2_with (go_at_call 103; refine (isNaN_any _ _).mono ?_; rintro e w' ⟨rfl, rfl⟩)
  all_goals go_ret
  all_goals (refine ⟨?_, rfl⟩; first | (simp [cmpI, *]; done) | (simp [cmpI, *]; omega) | (simp [cmpI]; omega))

def or2 (x y : Int) : Int := if x = 0 then y else x

theorem or_any (b : Nat) (x y : Int) (w : World) (h0 : w.cell? ⟨b, 0, none⟩ = some (.int .i64 x)) (h1 : w.cell? ⟨b, 1, none⟩ = some (.int .i64 y)) :
    Calls Tryz.prog 100 #[.slice (some ⟨b, 0, none⟩) 2 2] w fun e w' => e = .returned (.int .i64 (or2 x y)) ∧ w = w' := by
  go_enter Tryz.func100, Tryz.ntmps100
  go_wp2
  go_rounds 3
  all_goals go_ret
  all_goals (refine ⟨?_, rfl⟩; simp_all [or2])

def dotCmp (a b : Int × Int) : Int := or2 (cmpI a.1 b.1) (cmpI a.2 b.2)

set_option maxRecDepth 100000 in
theorem order_ints (a0 a1 b0 b1 : Int) (w : World) :
    Calls Tryz.prog 78 #[.agg #[.int .i64 a0, .int .i64 a1], .agg #[.int .i64 b0, .int .i64 b1]] w fun e w' => e = .returned (.int .i64 (or2 (cmpI a0 b0) (cmpI a1 b1))) ∧ Below w.heap.size w w' := by
  go_enter Tryz.func78, Tryz.ntmps78
  go_wp2
  refine region_tail 10 (by kernel_rfl) (by kernel_rfl) ?_
  simp only [List.take_succ_cons, List.take_zero, List.drop_succ_cons, List.drop_zero]
  repeat (first | still_step | still_call ((compare_any _ _ _).mono fun _ _ ⟨h1, h2⟩ => ⟨h1, h2.symm⟩))
  refine wpStill_nil ?_
  go_wp2_with (go_at_call 100; refine (or_any _ (cmpI a0 b0) (cmpI a1 b1) _ (by simp [go_sem]) (by simp [go_sem])).mono ?_; rintro e w' ⟨rfl, rfl⟩)
  go_ret
  exact ⟨rfl, by go_grown⟩
end Go.Proofs.YtldlmkfigjicgaaGreatDoor
/- Contracts: slices.Index, slices.Contains at Dot; dot.Has, viewref.Has. -/
namespace Go.Proofs.YtldlmkfigjicgaaGreatDoor
set_option linter.unusedVariables false
open Go.ChangeShapes Go.WideShapes Go.ChangeAt Go.RowKit

abbrev dcells (l : List (Int × Int)) : List Value := l.flatMap fun d => [.int .i64 d.1, .int .i64 d.2]

theorem dcells_get : ∀ (l : List (Int × Int)) (k : Nat) (h : k < l.length), (dcells l)[k * 2]? = some (.int .i64 l[k].1) ∧ (dcells l)[k * 2 + 1]? = some (.int .i64 l[k].2)
  | d :: l, 0, _ => by simp
  | d :: l, k + 1, h => by
    have := dcells_get l k (by simpa using h)
    simpa [Nat.add_mul, List.flatMap_cons, List.getElem?_append] using this

theorem dcells_len (l : List (Int × Int)) : (dcells l).length = 2 * l.length := by
  induction l with
  | nil => rfl
  | cons d l ih => simp [List.flatMap_cons] at *; omega

theorem Row.dot {w : World} {B : Nat} {A : Option Addr} {l : List (Int × Int)} (h : Row w B A (dcells l)) {k : Nat} (hk : k < l.length) :
    ∃ b off, A = some ⟨b, off, none⟩ ∧ b < B ∧ w.cell? ⟨b, off + k * 2, none⟩ = some (.int .i64 l[k].1) ∧ w.cell? ⟨b, off + k * 2 + 1, none⟩ = some (.int .i64 l[k].2) := by
  obtain ⟨b, off, h1, h2, h3⟩ := h.at_ (k := 0) (by rw [dcells_len]; omega)
  have := dcells_get l k hk
  exact ⟨b, off, h1, h2, h3 _ _ this.1, by rw [Nat.add_assoc]; exact h3 _ _ this.2⟩

theorem under_dot : Tryz.prog.underlying 78 = some (.struct (Tryz.prog.fieldsOf 78)) := by kernel_rfl
theorem stood_dot : Tryz.prog.stoodInHeld 78 = false := by kernel_rfl
theorem guard_dot : Tryz.prog.eqGuardType Tryz.prog.depth 78 = false := by kernel_rfl
theorem eql_dot (a b c d : Int) (w : World) : (binOp .eql 78 (.agg #[.int .i64 a, .int .i64 b]) (.agg #[.int .i64 c, .int .i64 d])).run Tryz.prog w = .ok (.bool (a == c && b == d)) w := by
  have h1 := under_dot
  have h2 := stood_dot
  simp only [run_eql_struct, run_equalIn_agg _ _ _ _ _ h1 h2]
  simp [go_sem]
  by_cases ha : a = c <;> by_cases hb : b = d <;> simp [ha, hb, go_sem]

def IdxPost (p : Prop) (w : World) (e : Ending) (w' : World) : Prop := ∃ i : Int, e = .returned (.int .i64 i) ∧ (0 ≤ i ↔ p) ∧ Below w.heap.size w w'

set_option maxRecDepth 100000 in
theorem index_any (l : List (Int × Int)) (v0 v1 : Int) (A : Option Addr) (c : Nat) (w : World) (hr : Row w w.heap.size A (dcells l)) (hl : l.length ≤ 9223372036854775807) :
    Calls Tryz.prog 118 #[.slice A l.length c, .agg #[.int .i64 v0, .int .i64 v1]] w (IdxPost ((v0, v1) ∈ l) w) := by
  go_enter Tryz.func118, Tryz.ntmps118
  go_wp2
  go_loopw [8] (fun i wr => (∃ k : Nat, k ≤ l.length ∧ i = .int .i64 k ∧ ∀ j (h : j < l.length), j < k → l[j] ≠ (v0, v1)) ∧ Below (w.heap.size + 1) (w.alloc (.cells #[.int .i64 v0, .int .i64 v1] 78)) wr) (fun i _ => l.length - (intOf i).toNat)
  case atStart => exact ⟨⟨0, by omega, rfl, fun j _ h => absurd h (by omega)⟩, Below.refl _ _⟩
  case round =>
    obtain ⟨⟨k, hk, rfl, hno⟩, hbw⟩ := hrel
    by_cases hlt : k < l.length
    · have hr1 := (hr.below (Below.alloc (Below.refl _ _) (Nat.le_refl _) _) (Nat.le_refl _)).below (hbw.mono (Nat.le_succ _)) (Nat.le_refl _)
      obtain ⟨b, off, rfl, hb, h0, h1⟩ := hr1.dot hlt
      have d0 : wr.cell? ⟨w.heap.size, 0, none⟩ = some (.int .i64 v0) := by rw [(bcell hbw).1 _ _ (by omega)]; simp [go_sem]
      have d1 : wr.cell? ⟨w.heap.size, 1, none⟩ = some (.int .i64 v1) := by rw [(bcell hbw).1 _ _ (by omega)]; simp [go_sem]
      have HN := hid hno
      have HB := hid hbw
      clear hno hr hr1 hbw
      go_wp2
      have g1 := guard_dot
      have g2 := eql_dot
      go_quiet (fail)
      go_wp2
      · have ht : (v0 == l[k].1) = true ∧ (v1 == l[k].2) = true := by assumption
        go_ret
        refine ⟨k, rfl, iff_of_true (by omega) ?_, ((Below.refl _ _).alloc (Nat.le_refl _) _).trans (below_drewN (HB.out.mono (Nat.le_succ _)) _)⟩
        have e : (v0, v1) = l[k] := by ext <;> simp_all
        rw [e]; exact List.getElem_mem _
      · have ht : (v0 == l[k].1) = false ∨ (v1 == l[k].2) = false := by assumption
        go_roundw
        case rel =>
          refine ⟨⟨k + 1, by omega, by go_num, fun j h hj => ?_⟩, below_drewN HB.out _⟩
          by_cases e : j = k
          · subst e; intro h2; rw [h2] at ht; simp at ht
          · exact HN.out j h (by omega)
        case measure => simp [intOf]; omega
    · go_wp2
      go_ret
      refine ⟨-1, rfl, iff_of_false (by omega) ?_, ((Below.refl _ _).alloc (Nat.le_refl _) _).trans (hbw.mono (Nat.le_succ _))⟩
      intro hm
      obtain ⟨j, hj, e⟩ := List.getElem_of_mem hm
      exact hno j hj (by omega) e

theorem contains_any (l : List (Int × Int)) (v0 v1 : Int) (A : Option Addr) (c : Nat) (w : World) (hr : Row w w.heap.size A (dcells l)) (hl : l.length ≤ 9223372036854775807) :
    Calls Tryz.prog 98 #[.slice A l.length c, .agg #[.int .i64 v0, .int .i64 v1]] w fun e w' => e = .returned (.bool (decide ((v0, v1) ∈ l))) ∧ Below w.heap.size w w' := by
  have H := index_any l v0 v1 A c (w.alloc (.cells #[.int .i64 v0, .int .i64 v1] 78)) ((hr.below (Below.alloc (Below.refl _ _) (Nat.le_refl _) _) (Nat.le_refl _)).more (by simp)) hl
  have HR := hid hr
  clear hr
  go_enter Tryz.func98, Tryz.ntmps98
  go_wp2_with (go_at_call 118; refine H.mono ?_; rintro e w' ⟨i, rfl, hi, hb⟩)
  go_ret
  refine ⟨?_, ((Below.refl _ _).alloc (Nat.le_refl _) _).trans (hb.mono (by simp))⟩
  by_cases h : (v0, v1) ∈ l <;> simp_all

end Go.Proofs.YtldlmkfigjicgaaGreatDoor
/- Contracts of dot.Has and viewref.Has. -/
namespace Go.Proofs.YtldlmkfigjicgaaGreatDoor
set_option linter.unusedVariables false
open Go.ChangeShapes Go.WideShapes Go.ChangeAt Go.RowKit

structure Ctx where
  c0 : Int
  c1 : Int
  c2 : Int
  c3 : Int
  cloud : List (Int × Int)

def Ctx.at_ (c : Ctx) (n : Int) : Int := if n = 0 then c.c0 else if n = 1 then c.c1 else if n = 2 then c.c2 else c.c3
def Ctx.has (c : Ctx) (d : Int × Int) : Prop := (0 ≤ d.1 ∧ d.1 < 4 ∧ 1 ≤ d.2 ∧ d.2 ≤ c.at_ d.1) ∨ d ∈ c.cloud
instance (c : Ctx) (d : Int × Int) : Decidable (c.has d) := by unfold Ctx.has; infer_instance
def hasB (c : Ctx) (d : Int × Int) : Bool := decide (c.has d)

abbrev cval (c : Ctx) (A : Option Addr) (k : Nat) : Value := .agg #[.int .i64 c.c0, .int .i64 c.c1, .int .i64 c.c2, .int .i64 c.c3, .slice A c.cloud.length k]
abbrev dval (d : Int × Int) : Value := .agg #[.int .i64 d.1, .int .i64 d.2]

theorem four (n : Int) : (n < 0 ∨ 4 ≤ n) ∨ n = 0 ∨ n = 1 ∨ n = 2 ∨ n = 3 := by omega

theorem hasB_yes {c : Ctx} {n s : Int} (h0 : 0 ≤ n) (h1 : n < 4) (h2 : 1 ≤ s) (h3 : s ≤ c.at_ n) : hasB c (n, s) = true := by simp [hasB, Ctx.has, *]
theorem hasB_no {c : Ctx} {n s : Int} (h : 0 ≤ n → n < 4 → 1 ≤ s → c.at_ n < s) : hasB c (n, s) = decide ((n, s) ∈ c.cloud) := by
  have e : ¬ (0 ≤ n ∧ n < 4 ∧ 1 ≤ s ∧ s ≤ c.at_ n) := fun ⟨a, b, d, f⟩ => by have := h a b d; omega
  simp [hasB, Ctx.has, e]

def HasC (l : List (Int × Int)) (n s : Int) (A : Option Addr) (k : Nat) (w : World) : Prop :=
  ∀ w1, Below w.heap.size w w1 → Calls Tryz.prog 98 #[.slice A l.length k, .agg #[.int .i64 n, .int .i64 s]] w1 fun e w' => e = .returned (.bool (decide ((n, s) ∈ l))) ∧ Below w1.heap.size w1 w'
theorem hasC (l : List (Int × Int)) (n s : Int) (A : Option Addr) (k : Nat) (w : World) (hr : Row w w.heap.size A (dcells l)) (hl : l.length ≤ 9223372036854775807) : HasC l n s A k w :=
  fun w1 hb => contains_any l n s A k w1 ((hr.below hb (Nat.le_refl _)).more hb.size) hl

set_option maxHeartbeats 400000 in
set_option maxRecDepth 100000 in
theorem has_in (c0 c1 c2 c3 : Int) (l : List (Int × Int)) (n s : Int) (A : Option Addr) (k : Nat) (w : World) (HC : HasC l n s A k w) (hn0 : 0 ≤ n) (hn4 : n < 4) :
    Calls Tryz.prog 75 #[.agg #[.int .i64 c0, .int .i64 c1, .int .i64 c2, .int .i64 c3, .slice A l.length k], .agg #[.int .i64 n, .int .i64 s]] w fun e w' => e = .returned (.bool (hasB ⟨c0, c1, c2, c3, l⟩ (n, s))) ∧ Below w.heap.size w w' := by
  have hcl : ((w.alloc (.cells #[.int .i64 c0, .int .i64 c1, .int .i64 c2, .int .i64 c3, .slice A l.length k] 26)).alloc (.cells #[.int .i64 n, .int .i64 s] 78)).cell? ⟨w.heap.size, n.toNat, none⟩ = some (.int .i64 (Ctx.at_ ⟨c0, c1, c2, c3, l⟩ n)) := by
    rcases (by omega : n = 0 ∨ n = 1 ∨ n = 2 ∨ n = 3) with h | h | h | h <;> subst h <;> simp [go_sem, Ctx.at_]
  go_enter Tryz.func75, Tryz.ntmps75
  go_wp2
  refine wp_region_quiet_lit (by kernel_rfl) (by kernel_rfl) ?_
  repeat (any_goals ((with_reducible refine wpQuiet_step (fun K hK => ?_)); go_simp; first | (with_reducible refine hK _ ?_; clear hK K) | ((with_reducible apply Exists.intro); (with_reducible refine ⟨fun _ => ?_, hK _ ?_⟩); (fail); clear hK K) | ((with_reducible refine (if_neg ?_).mpr (hK _ ?_)); (decide); clear hK K) | (split <;> (with_reducible refine hK _ ?_; clear hK K))))
  all_goals ((with_reducible refine wpQuiet_nil ?_); intro _ hw'; obtain ⟨nq, hw''⟩ := hw'; subst hw'')
  all_goals go_wp2_with (go_at_call 98; refine (HC _ ?_).mono ?_; rotate_left; ((repeat' (first | (with_reducible exact Below.refl _ _) | (with_reducible assumption) | (with_reducible refine below_drewN ?_ _) | (with_reducible refine Below.drew ?_) | (with_reducible refine Below.alloc ?_ ?_ _) | (with_reducible refine Below.setCell ?_ ?_ _) | (refine Below.trans ?_ (Below.mono (by assumption) ?_)) | go_size))); rintro e w' ⟨rfl, hb⟩)
  all_goals go_ret
  · exact ⟨ret_bool (hasB_yes hn0 hn4 (by assumption) (by assumption)).symm, by (repeat' (first | (with_reducible exact Below.refl _ _) | (with_reducible assumption) | (with_reducible refine below_drewN ?_ _) | (with_reducible refine Below.drew ?_) | (with_reducible refine Below.alloc ?_ ?_ _) | (with_reducible refine Below.setCell ?_ ?_ _) | (refine Below.trans ?_ (Below.mono (by assumption) ?_)) | go_size))⟩
  · exact ⟨ret_bool (hasB_no (c := ⟨c0, c1, c2, c3, l⟩) (n := n) (s := s) (fun _ _ _ => by first | assumption | omega)).symm, by (repeat' (first | (with_reducible exact Below.refl _ _) | (with_reducible assumption) | (with_reducible refine below_drewN ?_ _) | (with_reducible refine Below.drew ?_) | (with_reducible refine Below.alloc ?_ ?_ _) | (with_reducible refine Below.setCell ?_ ?_ _) | (refine Below.trans ?_ (Below.mono (by assumption) ?_)) | go_size))⟩
  · exact ⟨ret_bool (hasB_no (c := ⟨c0, c1, c2, c3, l⟩) (n := n) (s := s) (fun _ _ _ => by first | assumption | omega)).symm, by (repeat' (first | (with_reducible exact Below.refl _ _) | (with_reducible assumption) | (with_reducible refine below_drewN ?_ _) | (with_reducible refine Below.drew ?_) | (with_reducible refine Below.alloc ?_ ?_ _) | (with_reducible refine Below.setCell ?_ ?_ _) | (refine Below.trans ?_ (Below.mono (by assumption) ?_)) | go_size))⟩

set_option maxHeartbeats 400000 in
set_option maxRecDepth 100000 in
theorem has_low (c0 c1 c2 c3 : Int) (l : List (Int × Int)) (n s : Int) (A : Option Addr) (k : Nat) (w : World) (HC : HasC l n s A k w) (hn : n < 0) :
    Calls Tryz.prog 75 #[.agg #[.int .i64 c0, .int .i64 c1, .int .i64 c2, .int .i64 c3, .slice A l.length k], .agg #[.int .i64 n, .int .i64 s]] w fun e w' => e = .returned (.bool (hasB ⟨c0, c1, c2, c3, l⟩ (n, s))) ∧ Below w.heap.size w w' := by
  have hd : decide (0 ≤ n) = false := by simp; omega
  go_enter Tryz.func75, Tryz.ntmps75
  go_wp2
  refine wp_region_quiet_lit (by kernel_rfl) (by kernel_rfl) ?_
  repeat (any_goals ((with_reducible refine wpQuiet_step (fun K hK => ?_)); go_simp; first | (with_reducible refine hK _ ?_; clear hK K) | ((with_reducible apply Exists.intro); (with_reducible refine ⟨fun _ => ?_, hK _ ?_⟩); (fail); clear hK K) | ((with_reducible refine (if_neg ?_).mpr (hK _ ?_)); (decide); clear hK K) | (split <;> (with_reducible refine hK _ ?_; clear hK K))))
  all_goals ((with_reducible refine wpQuiet_nil ?_); intro _ hw'; obtain ⟨nq, hw''⟩ := hw'; subst hw'')
  go_wp2_with (go_at_call 98; refine (HC _ ?_).mono ?_; rotate_left; ((repeat' (first | (with_reducible exact Below.refl _ _) | (with_reducible assumption) | (with_reducible refine below_drewN ?_ _) | (with_reducible refine Below.drew ?_) | (with_reducible refine Below.alloc ?_ ?_ _) | (with_reducible refine Below.setCell ?_ ?_ _) | (refine Below.trans ?_ (Below.mono (by assumption) ?_)) | go_size))); rintro e w' ⟨rfl, hb⟩)
  go_ret
  exact ⟨ret_bool (hasB_no (c := ⟨c0, c1, c2, c3, l⟩) (n := n) (s := s) (fun _ _ _ => by omega)).symm, by (repeat' (first | (with_reducible exact Below.refl _ _) | (with_reducible assumption) | (with_reducible refine below_drewN ?_ _) | (with_reducible refine Below.drew ?_) | (with_reducible refine Below.alloc ?_ ?_ _) | (with_reducible refine Below.setCell ?_ ?_ _) | (refine Below.trans ?_ (Below.mono (by assumption) ?_)) | go_size))⟩

set_option maxHeartbeats 400000 in
set_option maxRecDepth 100000 in
theorem has_high (c0 c1 c2 c3 : Int) (l : List (Int × Int)) (n s : Int) (A : Option Addr) (k : Nat) (w : World) (HC : HasC l n s A k w) (hn0 : 0 ≤ n) (hn4 : 4 ≤ n) :
    Calls Tryz.prog 75 #[.agg #[.int .i64 c0, .int .i64 c1, .int .i64 c2, .int .i64 c3, .slice A l.length k], .agg #[.int .i64 n, .int .i64 s]] w fun e w' => e = .returned (.bool (hasB ⟨c0, c1, c2, c3, l⟩ (n, s))) ∧ Below w.heap.size w w' := by
  have hd : decide (n < 4) = false := by simp; omega
  go_enter Tryz.func75, Tryz.ntmps75
  go_wp2
  refine wp_region_quiet_lit (by kernel_rfl) (by kernel_rfl) ?_
  repeat (any_goals ((with_reducible refine wpQuiet_step (fun K hK => ?_)); go_simp; first | (with_reducible refine hK _ ?_; clear hK K) | ((with_reducible apply Exists.intro); (with_reducible refine ⟨fun _ => ?_, hK _ ?_⟩); (fail); clear hK K) | ((with_reducible refine (if_neg ?_).mpr (hK _ ?_)); (decide); clear hK K) | (split <;> (with_reducible refine hK _ ?_; clear hK K))))
  all_goals ((with_reducible refine wpQuiet_nil ?_); intro _ hw'; obtain ⟨nq, hw''⟩ := hw'; subst hw'')
  go_wp2_with (go_at_call 98; refine (HC _ ?_).mono ?_; rotate_left; ((repeat' (first | (with_reducible exact Below.refl _ _) | (with_reducible assumption) | (with_reducible refine below_drewN ?_ _) | (with_reducible refine Below.drew ?_) | (with_reducible refine Below.alloc ?_ ?_ _) | (with_reducible refine Below.setCell ?_ ?_ _) | (refine Below.trans ?_ (Below.mono (by assumption) ?_)) | go_size))); rintro e w' ⟨rfl, hb⟩)
  go_ret
  exact ⟨ret_bool (hasB_no (c := ⟨c0, c1, c2, c3, l⟩) (n := n) (s := s) (fun _ _ _ => by omega)).symm, by (repeat' (first | (with_reducible exact Below.refl _ _) | (with_reducible assumption) | (with_reducible refine below_drewN ?_ _) | (with_reducible refine Below.drew ?_) | (with_reducible refine Below.alloc ?_ ?_ _) | (with_reducible refine Below.setCell ?_ ?_ _) | (refine Below.trans ?_ (Below.mono (by assumption) ?_)) | go_size))⟩

theorem has_any (c : Ctx) (d : Int × Int) (A : Option Addr) (k : Nat) (w : World) (hr : Row w w.heap.size A (dcells c.cloud)) (hl : c.cloud.length ≤ 9223372036854775807) :
    Calls Tryz.prog 75 #[cval c A k, dval d] w fun e w' => e = .returned (.bool (hasB c d)) ∧ Below w.heap.size w w' := by
  have HC := hasC c.cloud d.1 d.2 A k w hr hl
  by_cases h0 : 0 ≤ d.1
  · by_cases h4 : d.1 < 4
    · exact has_in c.c0 c.c1 c.c2 c.c3 c.cloud d.1 d.2 A k w HC h0 h4
    · exact has_high c.c0 c.c1 c.c2 c.c3 c.cloud d.1 d.2 A k w HC h0 (by omega)
  · exact has_low c.c0 c.c1 c.c2 c.c3 c.cloud d.1 d.2 A k w HC (by omega)
end Go.Proofs.YtldlmkfigjicgaaGreatDoor
/- Contract of dot.Check. -/
namespace Go.Proofs.YtldlmkfigjicgaaGreatDoor
set_option linter.unusedVariables false
open Go.ChangeShapes Go.WideShapes Go.ChangeAt Go.RowKit

def before (a b : Int × Int) : Bool := decide (a.1 < b.1) || (decide (a.1 = b.1) && decide (a.2 < b.2))
theorem cmp_before (a b : Int × Int) : (0 ≤ or2 (cmpI a.1 b.1) (cmpI a.2 b.2)) ↔ before a b = false := by
  unfold or2 cmpI before
  rcases Int.lt_trichotomy a.1 b.1 with h | h | h <;> rcases Int.lt_trichotomy a.2 b.2 with h' | h' | h' <;> simp <;> split <;> omega

def clkOk (n : Int) : Bool := decide (0 ≤ n) && decide (n ≤ 1099511627776)
def badAt (c : Ctx) (i : Nat) : Bool :=
  !rightB (c.cloud.getD i (0, 0)).1 (c.cloud.getD i (0, 0)).2 || (decide (0 < i) && !before (c.cloud.getD (i - 1) (0, 0)) (c.cloud.getD i (0, 0))) ||
    decide ((c.cloud.getD i (0, 0)).2 ≤ c.at_ (c.cloud.getD i (0, 0)).1 + 1)
def checkI (c : Ctx) : Int :=
  if (clkOk c.c0 && clkOk c.c1 && clkOk c.c2 && clkOk c.c3) = false then 1 else if 400 < c.cloud.length then 2
  else if (List.range c.cloud.length).any (badAt c) = true then 5 else 0

theorem checkI_arg {c : Ctx} (h : (clkOk c.c0 && clkOk c.c1 && clkOk c.c2 && clkOk c.c3) = false) : checkI c = 1 := by simp only [checkI, h, if_true]
theorem checkI_large {c : Ctx} (h : (clkOk c.c0 && clkOk c.c1 && clkOk c.c2 && clkOk c.c3) = true) (h2 : 400 < c.cloud.length) : checkI c = 2 := by
  rw [checkI, if_neg (by simp [h]), if_pos h2]
theorem checkI_form {c : Ctx} (h : (clkOk c.c0 && clkOk c.c1 && clkOk c.c2 && clkOk c.c3) = true) (h2 : c.cloud.length ≤ 400) {i : Nat} (hi : i < c.cloud.length) (hb : badAt c i = true) : checkI c = 5 := by
  rw [checkI, if_neg (by simp [h]), if_neg (by omega), if_pos (List.any_eq_true.2 ⟨i, List.mem_range.2 hi, hb⟩)]
theorem checkI_ok {c : Ctx} (h : (clkOk c.c0 && clkOk c.c1 && clkOk c.c2 && clkOk c.c3) = true) (h2 : c.cloud.length ≤ 400) (hg : ∀ i, i < c.cloud.length → badAt c i = false) : checkI c = 0 := by
  rw [checkI, if_neg (by simp [h]), if_neg (by omega), if_neg]
  intro ha
  obtain ⟨i, hi, hb⟩ := List.any_eq_true.1 ha
  rw [hg i (List.mem_range.1 hi)] at hb
  cases hb

abbrev clkv (c0 c1 c2 c3 : Int) : Value := .agg #[.int .i64 c0, .int .i64 c1, .int .i64 c2, .int .i64 c3]
theorem clk0 (c0 c1 c2 c3 : Int) (w : World) : (Instr.index 23 (clkv c0 c1 c2 c3) (.int .i64 0)).run Tryz.prog w = .ok (.int .i64 c0) w := by kernel_rfl
theorem clk1 (c0 c1 c2 c3 : Int) (w : World) : (Instr.index 23 (clkv c0 c1 c2 c3) (.int .i64 1)).run Tryz.prog w = .ok (.int .i64 c1) w := by kernel_rfl
theorem clk2 (c0 c1 c2 c3 : Int) (w : World) : (Instr.index 23 (clkv c0 c1 c2 c3) (.int .i64 2)).run Tryz.prog w = .ok (.int .i64 c2) w := by kernel_rfl
theorem clk3 (c0 c1 c2 c3 : Int) (w : World) : (Instr.index 23 (clkv c0 c1 c2 c3) (.int .i64 3)).run Tryz.prog w = .ok (.int .i64 c3) w := by kernel_rfl

set_option maxHeartbeats 1000000 in
set_option maxRecDepth 100000 in
theorem check_any (c : Ctx) (A : Option Addr) (k0 : Nat) (w : World) (hr : Row w w.heap.size A (dcells c.cloud)) (hl : c.cloud.length ≤ 9223372036854775807) :
    Calls Tryz.prog 73 #[cval c A k0] w fun e w' => e = .returned (.int .i64 (checkI c)) ∧ Below w.heap.size w w' := by
  obtain ⟨c0, c1, c2, c3, l⟩ := c
  have HR := hid hr
  clear hr
  simp only [cval] at *
  have i0 := clk0 c0 c1 c2 c3
  have i1 := clk1 c0 c1 c2 c3
  have i2 := clk2 c0 c1 c2 c3
  have i3 := clk3 c0 c1 c2 c3
  go_enter Tryz.func73, Tryz.ntmps73
  go_wp2
  go_rounds 5
  all_goals first
    | (go_ret; exact ⟨ret_int (checkI_arg (c := ⟨c0, c1, c2, c3, l⟩) (by simp only [clkOk, Bool.and_eq_false_iff, decide_eq_false_iff_not]; omega)).symm, by (repeat' (first | (with_reducible exact Below.refl _ _) | (with_reducible assumption) | (with_reducible refine below_drewN ?_ _) | (with_reducible refine Below.drew ?_) | (with_reducible refine Below.alloc ?_ ?_ _) | (with_reducible refine Below.setCell ?_ ?_ _) | (refine Below.trans ?_ (Below.mono (by assumption) ?_)) | go_size))⟩)
    | (go_ret; exact ⟨ret_int (checkI_large (c := ⟨c0, c1, c2, c3, l⟩) (by simp only [clkOk, Bool.and_eq_true, decide_eq_true_eq]; omega) (by simp only; omega)).symm, by (repeat' (first | (with_reducible exact Below.refl _ _) | (with_reducible assumption) | (with_reducible refine below_drewN ?_ _) | (with_reducible refine Below.drew ?_) | (with_reducible refine Below.alloc ?_ ?_ _) | (with_reducible refine Below.setCell ?_ ?_ _) | (refine Below.trans ?_ (Below.mono (by assumption) ?_)) | go_size))⟩)
    | skip
  have hc : (clkOk c0 && clkOk c1 && clkOk c2 && clkOk c3) = true := by simp only [clkOk, Bool.and_eq_true, decide_eq_true_eq]; omega
  have h4 : l.length ≤ 400 := by omega
  go_loopw [26] (fun i wr => (∃ k : Nat, k ≤ l.length ∧ i = .int .i64 k ∧ ∀ j, j < k → badAt ⟨c0, c1, c2, c3, l⟩ j = false) ∧ Below (w.heap.size + 1) (w.alloc (.cells #[.int .i64 c0, .int .i64 c1, .int .i64 c2, .int .i64 c3, .slice A l.length k0] 26)) wr) (fun i _ => l.length - (intOf i).toNat)
  case atStart => exact ⟨⟨0, by omega, rfl, fun j h => absurd h (by omega)⟩, by (repeat' (first | (with_reducible exact Below.refl _ _) | (with_reducible assumption) | (with_reducible refine below_drewN ?_ _) | (with_reducible refine Below.drew ?_) | (with_reducible refine Below.alloc ?_ ?_ _) | (with_reducible refine Below.setCell ?_ ?_ _) | (refine Below.trans ?_ (Below.mono (by assumption) ?_)) | go_size))⟩
  case round =>
    obtain ⟨⟨k, hk, rfl, hno⟩, hbw⟩ := hrel
    by_cases hlt : k < l.length
    · have hr1 := HR.out.later hbw
      have hsz := size_later hbw
      obtain ⟨b, off, rfl, hb, h0, h1⟩ := hr1.dot hlt
      have hp : 0 < k → ∃ p : Int × Int, l.getD (k - 1) (0, 0) = p ∧ wr.cell? ⟨b, off + (k - 1) * 2, none⟩ = some (.int .i64 p.1) ∧ wr.cell? ⟨b, off + (k - 1) * 2 + 1, none⟩ = some (.int .i64 p.2) := by
        intro hm
        obtain ⟨b', off', he, hb', h0', h1'⟩ := hr1.dot (k := k - 1) (by omega)
        injection he with he
        injection he with he1 he2
        subst he1 he2
        exact ⟨l[k - 1], by simp [List.getD, show k - 1 < l.length by omega], h0', h1'⟩
      have hB := (bcell hbw).1
      have e0 : wr.cell? ⟨w.heap.size, 4, none⟩ = some (.slice (some ⟨b, off, none⟩) l.length k0) := by rw [hB _ _ (by omega)]; simp [go_sem]
      have ec : 0 ≤ (l[k]).1 → (l[k]).1 < 4 → wr.cell? ⟨w.heap.size, (l[k]).1.toNat, none⟩ = some (.int .i64 (Ctx.at_ ⟨c0, c1, c2, c3, l⟩ (l[k]).1)) := by
        intro q0 q4
        rw [hB _ _ (by omega)]
        rcases (by omega : (l[k]).1 = 0 ∨ (l[k]).1 = 1 ∨ (l[k]).1 = 2 ∨ (l[k]).1 = 3) with h | h | h | h <;> simp [h, go_sem, Ctx.at_]
      have hgd : l.getD k (0, 0) = l[k] := by simp [List.getD, hlt]
      have hbad : badAt ⟨c0, c1, c2, c3, l⟩ k = (!rightB (l[k]).1 (l[k]).2 || (decide (0 < k) && !before (l.getD (k - 1) (0, 0)) l[k]) || decide ((l[k]).2 ≤ Ctx.at_ ⟨c0, c1, c2, c3, l⟩ (l[k]).1 + 1)) := by
        simp only [badAt, hgd]
      have HBAD := hid hbad
      have HN := hid hno
      have HB := hid hbw
      clear hgd hbad hno hbw hr1 hB
      generalize l[k] = d at *
      obtain ⟨d0, d1⟩ := d
      simp only at *
      have hne : (b = wr.heap.size) = False := by simp; omega
      have hne2 : (w.heap.size = wr.heap.size) = False := by simp; omega
      have hb1 : b < wr.heap.size + 1 := by omega
      have hb2 : b < wr.heap.size := by omega
      have hw1 : w.heap.size < wr.heap.size + 1 := by omega
      cases hright : rightB d0 d1
      · clear hp
        go_wp2
        refine region_ext (by kernel_rfl) (by kernel_rfl) (fun hext => ?_)
        repeat (any_goals ((with_reducible refine wpQuiet_step (fun K hK => ?_)); go_simp; first | (with_reducible refine hK _ ?_; clear hK K) | ((with_reducible apply Exists.intro); (with_reducible refine ⟨fun _ => ?_, hK _ ?_⟩); (first | (go_at_call 94; exact ext_call _ (by simp) (right_any _ _ _)) | (go_at_call 78; exact ext_call _ (by simp) (order_ints _ _ _ _ _))); clear hK K) | ((with_reducible refine (if_neg ?_).mpr (hK _ ?_)); (decide); clear hK K) | (split <;> (with_reducible refine hK _ ?_; clear hK K))))
        all_goals ((with_reducible refine wpQuiet_nil ?_); clear hext; intro w1 hx1; have hb1 := ext_below hx1; clear hx1)
        go_wp2
        go_ret
        refine ⟨ret_int (checkI_form (c := ⟨c0, c1, c2, c3, l⟩) hc h4 hlt (by rw [HBAD.out]; simp [hright])).symm, ?_⟩
        have hbw := HB.out
        (repeat' (first | (with_reducible exact Below.refl _ _) | (with_reducible assumption) | (with_reducible refine below_drewN ?_ _) | (with_reducible refine Below.drew ?_) | (with_reducible refine Below.alloc ?_ ?_ _) | (with_reducible refine Below.setCell ?_ ?_ _) | (refine Below.trans ?_ (Below.mono (by assumption) ?_)) | go_size))
      · have hR : 0 ≤ d0 ∧ d0 < 4 ∧ 1 ≤ d1 ∧ d1 ≤ 1099511627776 := by simpa [rightB, and_assoc] using hright
        obtain ⟨r0, r4, s0, s1⟩ := hR
        have ec1 := ec r0 r4
        have hat : 0 ≤ Ctx.at_ ⟨c0, c1, c2, c3, l⟩ d0 ∧ Ctx.at_ ⟨c0, c1, c2, c3, l⟩ d0 ≤ 1099511627776 := by simp only [Ctx.at_]; split <;> (try split) <;> (try split) <;> omega
        obtain ⟨hat0, hat1⟩ := hat
        clear ec
        generalize hA : Ctx.at_ ⟨c0, c1, c2, c3, l⟩ d0 = at0 at *
        clear hA
        have zw : IntKind.i64.wrap (at0 + 1) = at0 + 1 := IntWalk.i64_in _ (by omega)
        by_cases hk0 : 0 < k
        · obtain ⟨⟨p0, p1⟩, hpe, g0, g1⟩ := hp hk0
          have hd : decide ((0 : Int) < (k : Int)) = true := by simp; omega
          simp only at g0 g1
          clear hp
          have z1 : IntKind.i64.wrap ((k : Int) - 1) = (k : Int) - 1 := IntWalk.i64_in _ (by omega)
          have z2 : (1 : Int) ≤ (k : Int) := by omega
          have z3 : (k : Int) - 1 < (l.length : Int) := by omega
          have z4 : ((k : Int) - 1).toNat = k - 1 := by omega
          have HPE := hid hpe
          clear hpe
          cases hbf : decide (0 ≤ or2 (cmpI p0 d0) (cmpI p1 d1))
          · have hbe : before (p0, p1) (d0, d1) = true := by
              have := cmp_before (p0, p1) (d0, d1)
              cases hq : before (p0, p1) (d0, d1)
              · rw [hq] at this; simp only [iff_true] at this; rw [decide_eq_false_iff_not] at hbf; exact absurd this hbf
              · rfl
            have HBE := hid hbe
            clear hbe
            go_wp2
            refine region_ext (by kernel_rfl) (by kernel_rfl) (fun hext => ?_)
            repeat (any_goals ((with_reducible refine wpQuiet_step (fun K hK => ?_)); go_simp; first | (with_reducible refine hK _ ?_; clear hK K) | ((with_reducible apply Exists.intro); (with_reducible refine ⟨fun _ => ?_, hK _ ?_⟩); (first | (go_at_call 94; exact ext_call _ (by simp) (right_any _ _ _)) | (go_at_call 78; exact ext_call _ (by simp) (order_ints _ _ _ _ _))); clear hK K) | ((with_reducible refine (if_neg ?_).mpr (hK _ ?_)); (decide); clear hK K) | (split <;> (with_reducible refine hK _ ?_; clear hK K))))
            all_goals ((with_reducible refine wpQuiet_nil ?_); clear hext; intro w1 hx1; have hb1 := ext_below hx1; clear hx1)
            go_wp2
            · have ht : d1 ≤ at0 + 1 := by omega
              go_ret
              refine ⟨ret_int (checkI_form (c := ⟨c0, c1, c2, c3, l⟩) hc h4 hlt (by rw [HBAD.out]; simp [ht])).symm, ?_⟩
              have hbw := HB.out
              (repeat' (first | (with_reducible exact Below.refl _ _) | (with_reducible assumption) | (with_reducible refine below_drewN ?_ _) | (with_reducible refine Below.drew ?_) | (with_reducible refine Below.alloc ?_ ?_ _) | (with_reducible refine Below.setCell ?_ ?_ _) | (refine Below.trans ?_ (Below.mono (by assumption) ?_)) | go_size))
            · have ht : at0 + 1 < d1 := by omega
              go_roundw
              case rel =>
                refine ⟨⟨k + 1, by omega, by go_num, fun j hj => ?_⟩, ?_⟩
                · by_cases e : j = k
                  · subst e; rw [HBAD.out, HPE.out, HBE.out, hright]; simp; omega
                  · exact HN.out j (by omega)
                · have hbw := HB.out
                  (repeat' (first | (with_reducible exact Below.refl _ _) | (with_reducible assumption) | (with_reducible refine below_drewN ?_ _) | (with_reducible refine Below.drew ?_) | (with_reducible refine Below.alloc ?_ ?_ _) | (with_reducible refine Below.setCell ?_ ?_ _) | (refine Below.trans ?_ (Below.mono (by assumption) ?_)) | go_size))
              case measure => simp [intOf]; omega
          · have hbe : before (p0, p1) (d0, d1) = false := (cmp_before (p0, p1) (d0, d1)).1 (by simpa using hbf)
            have HBE := hid hbe
            clear hbe
            go_wp2
            refine region_ext (by kernel_rfl) (by kernel_rfl) (fun hext => ?_)
            repeat (any_goals ((with_reducible refine wpQuiet_step (fun K hK => ?_)); go_simp; first | (with_reducible refine hK _ ?_; clear hK K) | ((with_reducible apply Exists.intro); (with_reducible refine ⟨fun _ => ?_, hK _ ?_⟩); (first | (go_at_call 94; exact ext_call _ (by simp) (right_any _ _ _)) | (go_at_call 78; exact ext_call _ (by simp) (order_ints _ _ _ _ _))); clear hK K) | ((with_reducible refine (if_neg ?_).mpr (hK _ ?_)); (decide); clear hK K) | (split <;> (with_reducible refine hK _ ?_; clear hK K))))
            all_goals ((with_reducible refine wpQuiet_nil ?_); clear hext; intro w1 hx1; have hb1 := ext_below hx1; clear hx1)
            go_wp2
            go_ret
            refine ⟨ret_int (checkI_form (c := ⟨c0, c1, c2, c3, l⟩) hc h4 hlt (by rw [HBAD.out, HPE.out, HBE.out]; simp [hk0])).symm, ?_⟩
            have hbw := HB.out
            (repeat' (first | (with_reducible exact Below.refl _ _) | (with_reducible assumption) | (with_reducible refine below_drewN ?_ _) | (with_reducible refine Below.drew ?_) | (with_reducible refine Below.alloc ?_ ?_ _) | (with_reducible refine Below.setCell ?_ ?_ _) | (refine Below.trans ?_ (Below.mono (by assumption) ?_)) | go_size))
        · have hd : decide ((0 : Int) < (k : Int)) = false := by simp; omega
          have hd2 : decide (0 < k) = false := by simp; omega
          rw [hd2] at HBAD
          clear hp hd2
          go_wp2
          refine region_ext (by kernel_rfl) (by kernel_rfl) (fun hext => ?_)
          repeat (any_goals ((with_reducible refine wpQuiet_step (fun K hK => ?_)); go_simp; first | (with_reducible refine hK _ ?_; clear hK K) | ((with_reducible apply Exists.intro); (with_reducible refine ⟨fun _ => ?_, hK _ ?_⟩); (first | (go_at_call 94; exact ext_call _ (by simp) (right_any _ _ _)) | (go_at_call 78; exact ext_call _ (by simp) (order_ints _ _ _ _ _))); clear hK K) | ((with_reducible refine (if_neg ?_).mpr (hK _ ?_)); (decide); clear hK K) | (split <;> (with_reducible refine hK _ ?_; clear hK K))))
          all_goals ((with_reducible refine wpQuiet_nil ?_); clear hext; intro w1 hx1; have hb1 := ext_below hx1; clear hx1)
          go_wp2
          · have ht : d1 ≤ at0 + 1 := by omega
            go_ret
            refine ⟨ret_int (checkI_form (c := ⟨c0, c1, c2, c3, l⟩) hc h4 hlt (by rw [HBAD.out]; simp [ht])).symm, ?_⟩
            have hbw := HB.out
            (repeat' (first | (with_reducible exact Below.refl _ _) | (with_reducible assumption) | (with_reducible refine below_drewN ?_ _) | (with_reducible refine Below.drew ?_) | (with_reducible refine Below.alloc ?_ ?_ _) | (with_reducible refine Below.setCell ?_ ?_ _) | (refine Below.trans ?_ (Below.mono (by assumption) ?_)) | go_size))
          · have ht : at0 + 1 < d1 := by omega
            go_roundw
            case rel =>
              refine ⟨⟨k + 1, by omega, by go_num, fun j hj => ?_⟩, ?_⟩
              · by_cases e : j = k
                · subst e; rw [HBAD.out, hright]; simp; omega
                · exact HN.out j (by omega)
              · have hbw := HB.out
                (repeat' (first | (with_reducible exact Below.refl _ _) | (with_reducible assumption) | (with_reducible refine below_drewN ?_ _) | (with_reducible refine Below.drew ?_) | (with_reducible refine Below.alloc ?_ ?_ _) | (with_reducible refine Below.setCell ?_ ?_ _) | (refine Below.trans ?_ (Below.mono (by assumption) ?_)) | go_size))
            case measure => simp [intOf]; omega
    · go_wp2
      go_ret
      exact ⟨ret_int (checkI_ok (c := ⟨c0, c1, c2, c3, l⟩) hc h4 (fun i hi => hno i (by simp only at hi; omega))).symm, Below.trans (b := w.alloc _) (by (repeat' (first | (with_reducible exact Below.refl _ _) | (with_reducible assumption) | (with_reducible refine below_drewN ?_ _) | (with_reducible refine Below.drew ?_) | (with_reducible refine Below.alloc ?_ ?_ _) | (with_reducible refine Below.setCell ?_ ?_ _) | (refine Below.trans ?_ (Below.mono (by assumption) ?_)) | go_size))) (hbw.mono (Nat.le_succ _))⟩
end Go.Proofs.YtldlmkfigjicgaaGreatDoor
