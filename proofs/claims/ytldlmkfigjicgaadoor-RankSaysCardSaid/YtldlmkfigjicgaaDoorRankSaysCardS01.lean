/- Frame, FrameL, Base, Mem, App, Gen, StbP, ZsP, Itm, OpenB, OpenI, OpenJ -/
import Derived.Test.YtldlmkfigjicgaaDoorRows
import Derived.Below
import Derived.ChangeSame
import Derived.Carry
import Derived.WalkKit
import Derived.ProofKit
import Derived.OpenShut
import Derived.LaidMore
import Derived.Stop.Joined
import Derived.LaidLaws
import Derived.Handed
import Derived.Lib.LaidTab
import Derived.Stop.LaidErr
import Derived.Lib.ItoaNum
import Derived.Handy
import Derived.Deep.Quiet
import Derived.Deep.QuietTactic
import Derived.BigQuiet
import Derived.StillTailTactics
import Derived.Deep.AppendLies
import Derived.Maps.AppendAt
import Derived.Deep.RegionHeld3
import Derived.OwnWalk
import Derived.Sort.LotA
import Derived.IntWalk
import Derived.Shelf.SlSortCmp.KitK
import Derived.Deep.Slices
import Derived.JoinedCond
/- The frame that the laws of this seat share: a call that answers true and turns nothing below the heap's size fits the row. No law in sight. -/
namespace Go.Proofs.YtldlmkfigjicgaaDoor
set_option linter.unusedVariables false
open Go.ChangeShapes Go.WideShapes Go.ChangeAt Go.RowKit

section
variable {H : Type} {enc : TypeId × Value → H} {P : Program}

theorem trodAll_stays (hl : laidOutB P = true) {W W' : World} (hb : Below W.heap.size W W') {sp : Nat → Bool} :
    ∀ {ts : List TypeId} {vs : List Value} {ds : List (DataW H)} {ps : List MemPlace}, (∀ t ∈ ts, P.readableRec t = true ∧ t < P.types.size) →
      DataW.TrodAll enc P W 0 (fun _ => true) true ts vs ds ps → (∀ x ∈ ps, x.block < W.heap.size) → (∀ x ∈ ps, sp x.block = true) → DataW.TrodAll enc P W' 0 sp true ts vs ds ps
  | [], _, _, _, _, h, _, _ => by
    obtain ⟨rfl, rfl, rfl⟩ := trodAll_nil h
    exact trodAll_mk0
  | t :: ts, _, _, _, ht, h, hlt, hs => by
    obtain ⟨v, vs, d, ds, p, q, rfl, rfl, rfl, h1, h2⟩ := trodAll_cons h
    have ht0 := ht t (by simp)
    exact ⟨p, q, WideElems.Trod_stays hl ht0.1 ht0.2 h1 (fun x hx => hb.same (hlt x (by simp [hx]))) (fun x hx => hs x (by simp [hx])),
      trodAll_stays hl hb (fun u hu => ht u (by simp [hu])) h2 (fun x hx => hlt x (by simp [hx])) (fun x hx => hs x (by simp [hx])), rfl⟩

theorem trodAll_len {W : World} {sp : Nat → Bool} {hd : Bool} {b : Nat} : ∀ {ts : List TypeId} {vs : List Value} {ds : List (DataW H)} {ps : List MemPlace}, DataW.TrodAll enc P W b sp hd ts vs ds ps → ds.length = ts.length
  | [], _, _, _, h => by
    obtain ⟨rfl, rfl, rfl⟩ := trodAll_nil h
    rfl
  | t :: ts, _, _, _, h => by
    obtain ⟨v, vs, d, ds, p, q, rfl, rfl, rfl, h1, h2⟩ := trodAll_cons h
    simp [trodAll_len h2]

theorem law_post {f : Func} {s : ChangeSpec} {W W' : World} {args : Array Value} {ds gs : List (DataW H)} {before : List MemPlace} {tb : TypeId} (hl : laidOutB P = true)
    (hts : ∀ t ∈ f.params.toList, P.readableRec t = true ∧ t < P.types.size) (hres : f.resultTypes = #[tb]) (hbool : P.underlying tb = some .bool) (hvars : s.vars = [])
    (hspec : ∀ es : List (DataW H), es.length = f.params.toList.length → s.fn H es = { results := [.lit (.bool true)], args := es })
    (hW : DataW.Whole enc P f.params.toList s.vars false W args.toList ds gs before) (hb : Below W.heap.size W W') : s.post enc P f false true false false W args (.bool true) W' := by
  have hlt := hW.lt
  have hold : ∀ x ∈ before, (fun b => decide (b < W.heap.size)) x.block = true := fun x hx => by simpa using hlt x hx
  have hW0 := hW
  obtain ⟨p, q, hA, hV, rfl, hz, hn⟩ := hW
  rw [hvars] at hV
  obtain ⟨rfl, rfl⟩ := trodVars_none hV
  have hsp := hspec ds (trodAll_len hA)
  have hargs : ∀ sp : Nat → Bool, (∀ x ∈ p, sp x.block = true) → DataW.TrodAll enc P W' 0 sp true f.params.toList args.toList ds p := fun sp h =>
    trodAll_stays hl hb hts hA (fun x hx => hlt x (by simp [hx])) h
  have hr : ∀ (b : Nat) (sp : Nat → Bool) (hd : Bool), DataW.TrodAll enc P W' b sp hd f.resultTypes.toList ((Value.bool true).resultList f.resultTypes.size) [.lit (.bool true)] [] := by
    intro b sp hd
    rw [hres]
    exact trodAll_cons_mk (shut_bool hbool _) trodAll_mk0
  refine ⟨ds, [], p ++ [], [], p, [], hW0, ?_, ?_, ?_, World.keptBut_mono (fun x hx => ⟨hx, .inr (by simpa using hx)⟩) (hb.frame (· ∈ p ++ [])), fun _ => ?_⟩
  · rw [List.append_nil, hsp]; exact hr _ _ _
  · rw [List.append_nil, hsp]; exact hargs _ (fun x hx => by simpa using hlt x (by simp [hx]))
  · rw [List.append_nil, hsp, hvars]; rfl
  · refine ⟨ok_one hres rfl (okWide_bool_mk hbool _), [.lit (.bool true)] ++ ds, [], p ++ [], ⟨p, [], ?_, by rw [hvars]; rfl, rfl, ?_, fun h => by cases h⟩, fun x hx _ => by simpa using hx⟩
    · have h := trodAll_append (hargs (fun _ => true) (fun _ _ => rfl)) (hr 0 (fun _ => true) true)
      simpa using h
    · intro b off hx
      rw [hb.frozen (hlt _ hx)]
      exact hz b off hx
end

end Go.Proofs.YtldlmkfigjicgaaDoor
/- The frame of a law whose row lists the library's tables. No law in sight. -/
namespace Go.Proofs.YtldlmkfigjicgaaDoor
set_option linter.unusedVariables false
open Go.ChangeShapes Go.WideShapes Go.ChangeAt Go.RowKit

/-- The tables that the rows of this seat list. -/
abbrev listed : List (String × DataW Unit) := [("math/bits.deBruijn32tab", Rows.laid_math_bits_deBruijn32tab), ("math/bits.deBruijn64tab", Rows.laid_math_bits_deBruijn64tab), ("internal/strconv.uint64pow10", Rows.laid_internal_strconv_uint64pow10)]
theorem pow_data : (Rows.laid_internal_strconv_uint64pow10 : DataW Unit) = Lib.tabData .u64 Lib.pow10Tab := by kernel_rfl
theorem pow_named : Tryd.prog.globalNamed "internal/strconv.uint64pow10" = some 0 := by kernel_rfl
theorem pow_type : (Tryd.prog.globals[0]?).map (·.type) = some 160 := by kernel_rfl
theorem pow_of_laid {W : World} (h : laidMetH Tryd.prog listed W) : Lib.TabIs Tryd.prog W "internal/strconv.uint64pow10" .u64 Lib.pow10Tab := by
  rw [MakeChecks.laidMetH_plain _ _ _ (by kernel_rfl)] at h
  have h2 := h.tail.tail
  rw [pow_data] at h2
  exact Lib.tabIs_of_head pow_named pow_type Tryd.underlying160 Tryd.underlying118 (by kernel_rfl) (by kernel_rfl) h2
theorem door_met (os : Os) (args : Array Value) : laidMetH Tryd.prog listed ((World.doorLaid Tryd.prog 24 os).forCall (fun _ _ => 0) ⟨#[], args, []⟩).memory :=
  laidMetH_of_parts3 (fuel := 8) (laidMet_of_run' 8 (by kernel_rfl) (by kernel_rfl)) (by kernel_rfl) (by kernel_rfl)
section
variable {H : Type} {enc : TypeId × Value → H}
theorem law_lifted_laid {C : Checked} {os : Os} {f : FuncId} {fn : Func} {s : ChangeSpec} {L : List (String × DataW Unit)} {tb : TypeId}
    (own : ownKnob C.prog.godebug = none) (started : os.Started) (noInit : C.prog.inits.idxOf? f = none) (hfn : C.prog.funcs[f]? = some fn)
    (witness : ∃ (w : World) (tape : Tape) (i : Input), w.os = os ∧ (w.forCall tape i).Shaped C.prog ∧ i.vars = [] ∧ Input.okWide C.prog (w.forCall tape i) .any w.heap.size f i ∧
      ((s.pre enc C.prog fn [] false (w.forCall tape i).memory i.args ∧ laidMetH C.prog L (w.forCall tape i).memory) ∧ sizedMet enc C.prog fn (OpenSpec.ofChange s) false (w.forCall tape i).memory i.args) ∧ ({} : Assume).holds C.prog (lone (Frame.enter C.prog f i.args .normal) [] (w.forCall tape i)))
    (hl : laidOutB C.prog = true) (hts : ∀ t ∈ fn.params.toList, C.prog.readableRec t = true ∧ t < C.prog.types.size) (hres : fn.resultTypes = #[tb]) (hbool : C.prog.underlying tb = some .bool) (hvars : s.vars = [])
    (hspec : ∀ es : List (DataW H), es.length = fn.params.toList.length → s.fn H es = { results := [.lit (.bool true)], args := es })
    (walk : ∀ (W : World) (base : Nat) (args : Array Value) (ds : List (DataW H)) (ps : List MemPlace),
      (∀ (j : Nat) t v, fn.params[j]? = some t → args[j]? = some v → Value.okWide C.prog W .any base t v) → DataW.TrodAll enc C.prog W 0 (fun _ => true) true fn.params.toList args.toList ds ps → laidMetH C.prog L W →
      Calls C.prog f args W fun e W' => e = .returned (.bool true) ∧ Below W.heap.size W W') :
    ReturnsInHanded {} C os f .any (fun w args => (s.pre enc C.prog fn [] false w args ∧ laidMetH C.prog L w) ∧ sizedMet enc C.prog fn (OpenSpec.ofChange s) false w args) (s.post enc C.prog fn false true false false) := by
  refine returnsInHanded_of_change_and (C := C) (X := fun w _ => laidMetH C.prog L w) (fun _ _ _ hh h => laidMetH.of_heap hh h) own started noInit hfn witness ?_
  intro W base args ds gs before hval hW _ _ hL _
  have hW' := hW
  obtain ⟨p, q, hA, _⟩ := hW
  refine (walk W base args ds p hval hA hL).mono fun e W' ⟨he, hb⟩ => ?_
  exact ⟨_, he, law_post hl hts hres hbool hvars hspec hW' hb⟩
end
end Go.Proofs.YtldlmkfigjicgaaDoor
/- Words of my own for memory: a slice that reads as a list of cells, what is kept below a block, one lexical walk of a region that draws its order over the class 'Below'. No program in sight. -/
namespace Go.Proofs.YtldlmkfigjicgaaDoor
set_option linter.unusedVariables false
open Go.RowKit

theorem hid {p : Prop} (h : p) : Hid p := h

/-- The slice address 'A' leads to the cells 'xs', all below block 'B'. -/
def Row (w : World) (B : Nat) (A : Option Addr) (xs : List Value) : Prop :=
  xs = [] ∨ ∃ b off, A = some ⟨b, off, none⟩ ∧ b < B ∧ ∀ j u, xs[j]? = some u → w.cell? ⟨b, off + j, none⟩ = some u

theorem Row.nil {w : World} {B : Nat} {A : Option Addr} : Row w B A [] := .inl rfl
theorem Row.below {w w' : World} {B C : Nat} {A : Option Addr} {xs : List Value} (h : Row w B A xs) (hb : Below C w w') (hB : B ≤ C) : Row w' B A xs := by
  rcases h with h | ⟨b, off, h1, h2, h3⟩
  · exact .inl h
  · exact .inr ⟨b, off, h1, h2, fun j u hu => (hb.cell (p := ⟨b, off + j, none⟩) (by simp; omega)).trans (h3 j u hu)⟩
theorem Row.more {w : World} {B C : Nat} {A : Option Addr} {xs : List Value} (h : Row w B A xs) (hB : B ≤ C) : Row w C A xs := by
  rcases h with h | ⟨b, off, h1, h2, h3⟩
  · exact .inl h
  · exact .inr ⟨b, off, h1, by omega, h3⟩
theorem Row.at_ {w : World} {B : Nat} {A : Option Addr} {xs : List Value} (h : Row w B A xs) {k : Nat} (hk : k < xs.length) :
    ∃ b off, A = some ⟨b, off, none⟩ ∧ b < B ∧ ∀ j u, xs[j]? = some u → w.cell? ⟨b, off + j, none⟩ = some u := by
  rcases h with h | h
  · subst h; simp at hk
  · exact h

/-- What was there when the call began is there in a later world that kept all that was there after one new block more. -/
theorem Row.later {w wr : World} {A : Option Addr} {xs : List Value} {o : Obj} (h : Row w w.heap.size A xs) (hb : Below (w.heap.size + 1) (w.alloc o) wr) : Row wr w.heap.size A xs :=
  (h.below (Below.alloc (Below.refl _ _) (Nat.le_refl _) _) (Nat.le_refl _)).below (hb.mono (Nat.le_succ _)) (Nat.le_refl _)
theorem bcell {B : Nat} {W w1 : World} (hb : Below B W w1) :
    (∀ b o, b < B → w1.cell? ⟨b, o, none⟩ = W.cell? ⟨b, o, none⟩) ∧ (∀ b o, b < B → w1.frozen? ⟨b, o, none⟩ = W.frozen? ⟨b, o, none⟩) :=
  ⟨fun b o h => hb.cell (p := ⟨b, o, none⟩) h, fun b o h => hb.frozen (p := ⟨b, o, none⟩) h⟩

/-- A world that is 'W' below 'B'. -/
structure Ext (B : Nat) (W : World) where
  w : World
  below : Below B W w

theorem ext_below {B : Nat} {W w' : World} (h : ∃ x : Ext B W, w' = x.w) : Below B W w' := by
  obtain ⟨x, rfl⟩ := h
  exact x.below

instance (B : Nat) (W : World) : Nonempty (Ext B W) := ⟨⟨W, Below.refl _ _⟩⟩

/-- A region that draws its order, its operations quiet in the class of the worlds that are as this one below its own size: the order of the text serves. -/
theorem region_ext {P : Program} {id : Nat} {Q : Exit → Act → World → Prop} {a : Act} {w : World} {l : List Oper}
    (hm : P.follows .mixedOrders = true) (hB : Region.lexB .any l.toArray = true)
    (h : (∀ (x : Ext w.heap.size w) b o, b < w.heap.size → x.w.cell? ⟨b, o, none⟩ = w.cell? ⟨b, o, none⟩) →
      wpQuiet P l.toArray (fun w' => ∃ x : Ext w.heap.size w, w' = x.w) (fun a' => ∀ w', (∃ x : Ext w.heap.size w, w' = x.w) → Q .normal a' w') l a) : (Code.region id l.toArray true).wp P Q a w :=
  wp_region_quiet (C := fun w' => ∃ x : Ext w.heap.size w, w' = x.w) hm hB ⟨⟨w.drew, (Below.refl _ _).drew⟩, rfl⟩ (by simpa using h fun x b o hb => x.below.cell (p := ⟨b, o, none⟩) hb)

theorem ext_call {P : Program} {f : FuncId} {args : Array Value} {B : Nat} {W : World} {v : Value} (x : Ext B W) (hB : B ≤ W.heap.size)
    (h : Calls P f args x.w fun e w' => e = .returned v ∧ Below x.w.heap.size x.w w') : Calls P f args x.w fun e w'' => e = .returned v ∧ ∃ y : Ext B W, w'' = y.w :=
  h.mono fun _ w' ⟨he, hb⟩ => ⟨he, ⟨w', x.below.trans (hb.mono (Nat.le_trans hB x.below.size))⟩, rfl⟩

theorem ext_call_same {P : Program} {f : FuncId} {args : Array Value} {B : Nat} {W : World} {v : Value} (x : Ext B W)
    (h : Calls P f args x.w fun e w' => e = .returned v ∧ x.w = w') : Calls P f args x.w fun e w'' => e = .returned v ∧ ∃ y : Ext B W, w'' = y.w :=
  h.mono fun _ w' ⟨he, hb⟩ => ⟨he, x, hb.symm⟩

theorem ret_bool {a b : Bool} (h : a = b) : Ending.returned (.bool a) = .returned (.bool b) := by rw [h]
theorem ret_int {k : IntKind} {a b : Int} (h : a = b) : Ending.returned (.int k a) = .returned (.int k b) := by rw [h]

theorem below_drewN {B : Nat} {W w : World} (h : Below B W w) (n : Nat) : Below B W (w.drewN n) := ⟨h.os, h.tape, h.output, h.size, h.block⟩

end Go.Proofs.YtldlmkfigjicgaaDoor
/- Words for memory, the second: a block known whole ('Blk'), facts of an anchor world carried to a later one. No program in sight. -/
namespace Go.Proofs.YtldlmkfigjicgaaDoor
set_option linter.unusedVariables false
open Go.RowKit

/-- Block b of w is cs, of type T, and may be written. -/
def Blk (w : World) (b : Nat) (cs : Array Value) (T : TypeId) : Prop := w.heap[b]? = some (.cells cs T (0, 0))

theorem Blk.lt {w : World} {b : Nat} {cs : Array Value} {T : TypeId} (h : Blk w b cs T) : b < w.heap.size := by
  rcases Nat.lt_or_ge b w.heap.size with h1 | h1
  · exact h1
  · unfold Blk at h; rw [Array.getElem?_eq_none h1] at h; cases h
theorem Blk.cells {w : World} {b : Nat} {cs : Array Value} {T : TypeId} (h : Blk w b cs T) : (∀ j, w.cell? ⟨b, j, none⟩ = cs[j]?) ∧ (∀ j, w.frozen? ⟨b, j, none⟩ = false) :=
  ⟨fun j => cell_of_row w b j _ _ _ h, fun j => frozen_of_row w b j _ _ h⟩
theorem Blk.thru {B : Nat} {w w' : World} {b : Nat} {cs : Array Value} {T : TypeId} (h : Blk w b cs T) (hb : Below B w w') (hlt : b < B) : Blk w' b cs T := (hb.block b hlt).trans h
theorem Blk.step {w w' : World} {b : Nat} {cs : Array Value} {T : TypeId} (h : Blk w b cs T) (hb : Below w.heap.size w w') : Blk w' b cs T := h.thru hb h.lt
theorem Blk.alloc {w : World} {b : Nat} {cs : Array Value} {T : TypeId} (h : Blk w b cs T) (o : Obj) : Blk (w.alloc o) b cs T := (Below.heap_alloc w o b h.lt).trans h
theorem Blk.drew {w : World} {b : Nat} {cs : Array Value} {T : TypeId} (h : Blk w b cs T) : Blk w.drew b cs T := h
theorem Blk.drewN {w : World} {b : Nat} {cs : Array Value} {T : TypeId} (h : Blk w b cs T) (n : Nat) : Blk (w.drewN n) b cs T := h
theorem Blk.new (w : World) (cs : Array Value) (T : TypeId) : Blk (w.alloc (.cells cs T)) w.heap.size cs T := heap_alloc_new w _
theorem Blk.new' (w : World) (cs : Array Value) (T : TypeId) {b : Nat} (h : b = w.heap.size) : Blk (w.alloc (.cells cs T)) b cs T := by subst h; exact heap_alloc_new w _
theorem Blk.grown {w w' : World} {b : Nat} {cs : Array Value} {T : TypeId} {row : Option Nat} (h : Blk w b cs T) (hg : w.grownBy w' row) (hne : some b ≠ row) : Blk w' b cs T := (hg.block b h.lt hne).trans h
/-- All that the walk wants of a block that it knows whole. -/
theorem Blk.all {w : World} {b : Nat} {cs : Array Value} {T : TypeId} (h : Blk w b cs T) : (∀ j, w.cell? ⟨b, j, none⟩ = cs[j]?) ∧ (∀ j, w.frozen? ⟨b, j, none⟩ = false) ∧ b < w.heap.size ∧ ((b = w.heap.size) = False) :=
  ⟨h.cells.1, h.cells.2, h.lt, eq_false (Nat.ne_of_lt h.lt)⟩

theorem Below.step {B : Nat} {a b c : World} (h : Below B a b) (hB : B ≤ b.heap.size) (k : Below b.heap.size b c) : Below B a c := h.trans (k.mono hB)
theorem Below.step' {a b c : World} (h : Below a.heap.size a b) (k : Below b.heap.size b c) : Below a.heap.size a c := h.trans (k.mono h.size)
theorem Row.step {w w' : World} {A : Option Addr} {xs : List Value} (h : Row w w.heap.size A xs) (hb : Below w.heap.size w w') : Row w' w'.heap.size A xs := (h.below hb (Nat.le_refl _)).more hb.size
end Go.Proofs.YtldlmkfigjicgaaDoor
/- append onto an owned row from whatever row, nil or not: one law for plain regions, one for regions that draw. No program in sight. -/
namespace Go.Proofs.YtldlmkfigjicgaaDoor
set_option linter.unusedVariables false
open Go.RowKit

/-- What the table says of a slice type's elements. -/
structure Elem (P : Program) (t e : TypeId) (size bytes : Nat) : Prop where
  ht : P.underlying t = some (.slice e)
  hi : ∃ i z, P.info? e = some i ∧ i.zero = some z ∧ i.size = size ∧ i.bytes = bytes ∧ z.cells.size = size
  pos : 0 < size

theorem addr_add (b off j : Nat) : (⟨b, off, none⟩ : Addr).add j = ⟨b, off + j, none⟩ := by
  by_cases h : j = 0 <;> simp [Addr.add, h]

theorem Row.new (w : World) (cs : Array Value) (T : TypeId) {B : Nat} (hB : w.heap.size < B) : Row (w.alloc (.cells cs T)) B (some ⟨w.heap.size, 0, none⟩) cs.toList :=
  .inr ⟨w.heap.size, 0, rfl, hB, fun j u hu => by
    have h := (Blk.new w cs T).cells.1 j
    rw [Nat.zero_add, h]
    simpa using hu⟩
theorem Row.new' (w : World) (cs : Array Value) (T : TypeId) {h B : Nat} {xs : List Value} (e : w.heap.size = h) (hx : xs = cs.toList) (hB : h < B) : Row (w.alloc (.cells cs T)) B (some ⟨h, 0, none⟩) xs := by
  subst e hx; exact Row.new w cs T hB
theorem Row.drew {w : World} {B : Nat} {A : Option Addr} {xs : List Value} (h : Row w B A xs) : Row w.drew B A xs := h
theorem Row.drewN {w : World} {B : Nat} {A : Option Addr} {xs : List Value} (h : Row w B A xs) (n : Nat) : Row (w.drewN n) B A xs := h
theorem Row.alloc {w : World} {A : Option Addr} {xs : List Value} (h : Row w w.heap.size A xs) (o : Obj) : Row (w.alloc o) (w.alloc o).heap.size A xs := h.step ((Below.refl _ _).alloc (Nat.le_refl _) o)
theorem Row.grown {w w' : World} {B : Nat} {A : Option Addr} {xs : List Value} {row : Option Nat} (h : Row w B A xs) (hB : B ≤ w.heap.size) (hg : w.grownBy w' row) (hr : ∀ k, row = some k → B ≤ k) : Row w' B A xs :=
  h.below (C := B) ⟨hg.os, hg.tape, hg.output, hg.size, fun k hk => hg.block k (by omega) (fun e => by have := hr k e.symm; omega)⟩ (Nat.le_refl _)

theorem run_append_zero {P : Program} (w : World) (base : Nat) (t ty e : TypeId) (i : TypeInfo) (size : Nat) (ht : P.underlying t = some (.slice e)) (hi : P.info? e = some i)
    (v : Value) (n : Nat) (xs : List Value) (hown : w.ownsRow base e size v n xs) (A : Option Addr) (c : Nat) :
    (Builtin.append_ #[t, t] ty #[v, .slice A 0 c]).run P w = .ok v w := by
  cases A with
  | none =>
    rcases hown.2 with ⟨rfl, rfl⟩ | ⟨g, cap, cur, rfl, _, _, hnc, _⟩
    · simp [Builtin.append_, run_underlying ht, sizeOf, typeInfo, hi, Builtin.lenOf, Builtin.firstCells]
    · simp [Builtin.append_, run_underlying ht, sizeOf, typeInfo, hi, Builtin.lenOf, Builtin.firstCells, hnc, storeCells]
  | some a =>
    rcases hown.2 with ⟨rfl, rfl⟩ | ⟨g, cap, cur, rfl, _, _, hnc, _⟩
    · simp [Builtin.append_, run_underlying ht, sizeOf, typeInfo, hi, Builtin.lenOf, Builtin.firstCells, loadCells, loadCellsFrom]
    · simp [Builtin.append_, run_underlying ht, sizeOf, typeInfo, hi, Builtin.lenOf, Builtin.firstCells, hnc, storeCells, loadCells, loadCellsFrom]

theorem run_append_row {P : Program} (w : World) (base : Nat) (t ty e : TypeId) {size bytes : Nat} (El : Elem P t e size bytes)
    (v : Value) (n : Nat) (xs : List Value) (hown : w.ownsRow base e size v n xs)
    (A : Option Addr) (m c B : Nat) (news : List Value) (hl : news.length = m * size) (hnews : Row w B A news) (h1 : ∀ u ∈ news, u.oneCell' = true)
    (h63 : n + m ≤ maxLen) (hbytes : (n + m) * bytes ≤ 140737488355328) (hbase : base ≤ w.heap.size) :
    ∃ v' w', (Builtin.append_ #[t, t] ty #[v, .slice A m c]).run P w = .ok v' w' ∧ w'.ownsRow base e size v' (n + m) (xs ++ news) ∧ w.grownBy w' v.ownBlock ∧ (v'.ownBlock = v.ownBlock ∨ v'.ownBlock = some w.heap.size) := by
  obtain ⟨i, z, hi, hz, hsize, hby, hzs⟩ := El.hi
  rcases hnews with rfl | ⟨b, off, rfl, hb, hc⟩
  · have hm : m = 0 := by
      have hp := El.pos
      simp only [List.length_nil] at hl
      rcases Nat.mul_eq_zero.1 hl.symm with h | h <;> omega
    subst hm
    exact ⟨v, w, run_append_zero w base t ty e i size El.ht hi v n xs hown A c, by simpa using hown, ⟨rfl, rfl, rfl, Nat.le_refl _, fun _ _ _ => rfl⟩, .inl rfl⟩
  · obtain ⟨v', w', hr, h2, h3, h4, h5⟩ := run_append_own_at (P := P) w base t ty e i z size bytes El.ht hi hz hsize hby hzs El.pos v n xs hown ⟨b, off, none⟩ m c news hl (fun j u hu => by
      rw [addr_add]
      exact hc j u hu) h1 h63 hbytes hbase
    exact ⟨v', w', hr, h2, h3, h5⟩

theorem wp_append_row {P : Program} {w : World} {o : Oper} {a : Act} {K : Act → World → Prop} {Q : Exit → Act → World → Prop} {t e : TypeId} {size bytes : Nat} (El : Elem P t e size bytes) (s x : Operand)
    (ho : o.op = .call { callee := .builtin .append, args := #[s, x], argTypes := #[t, t] })
    (base : Nat) (v : Value) (n : Nat) (xs : List Value) (hs : a.eval s = v) (hown : w.ownsRow base e size v n xs)
    (A : Option Addr) (m c B : Nat) (news : List Value) (hx : a.eval x = .slice A m c) (hl : news.length = m * size) (hnews : Row w B A news) (h1 : ∀ u ∈ news, u.oneCell' = true)
    (h63 : n + m ≤ maxLen) (hbytes : (n + m) * bytes ≤ 140737488355328) (hbase : base ≤ w.heap.size)
    (h : ∀ v' w', w'.ownsRow base e size v' (n + m) (xs ++ news) → w.grownBy w' v.ownBlock → (v'.ownBlock = v.ownBlock ∨ v'.ownBlock = some w.heap.size) → K (a.put o.dst v') w') : o.wp P a w K Q := by
  obtain ⟨v', w', hr, h2, h3, h4⟩ := run_append_row (P := P) w base t o.type e El v n xs hown A m c B news hl hnews h1 h63 hbytes hbase
  unfold Oper.wp execOp
  simp only [ho, resolve, invoke, builtin, Sem.run_bind, Sem.run_pure, Result.andThen_ok, List.map_toArray, List.map_cons, List.map_nil, hs, hx, hr]
  exact h v' w' h2 h3 h4

theorem wpList_append_row {P : Program} {w : World} {ops : Array Oper} {rest : List Oper} {o : Oper} {a : Act} {Q : Exit → Act → World → Prop} {t e : TypeId} {size bytes : Nat} (El : Elem P t e size bytes) (hgd : o.guard = none) (s x : Operand)
    (ho : o.op = .call { callee := .builtin .append, args := #[s, x], argTypes := #[t, t] })
    (base : Nat) (v : Value) (n : Nat) (xs : List Value) (hs : a.eval s = v) (hown : w.ownsRow base e size v n xs)
    (A : Option Addr) (m c B : Nat) (news : List Value) (hx : a.eval x = .slice A m c) (hl : news.length = m * size) (hnews : Row w B A news) (h1 : ∀ u ∈ news, u.oneCell' = true)
    (h63 : n + m ≤ maxLen) (hbytes : (n + m) * bytes ≤ 140737488355328) (hbase : base ≤ w.heap.size)
    (h : ∀ v' w', w'.ownsRow base e size v' (n + m) (xs ++ news) → w.grownBy w' v.ownBlock → (v'.ownBlock = v.ownBlock ∨ v'.ownBlock = some w.heap.size) → wpList P ops Q rest (a.put o.dst v') w') :
    wpList P ops Q (o :: rest) a w :=
  wpList_plain hgd fun K hK => wp_append_row El s x ho base v n xs hs hown A m c B news hx hl hnews h1 h63 hbytes hbase fun v' w' a1 a2 a3 => hK _ _ (h v' w' a1 a2 a3)

theorem alloc_below {W w : World} (h : Below W.heap.size W w) (o : Obj) : Below W.heap.size W (w.alloc o) := h.alloc h.size o
end Go.Proofs.YtldlmkfigjicgaaDoor
/- Words for memory that every seat wants: rows of things of more than one cell, owned rows of whatever size. No program in sight. -/
namespace Go.Proofs.YtldlmkfigjicgaaDoor
set_option linter.unusedVariables false
open Go.RowKit

theorem flat_len {α β : Type} {f : α → List β} {n : Nat} (hf : ∀ x, (f x).length = n) : ∀ (L : List α), (L.flatMap f).length = L.length * n
  | [] => by simp
  | x :: L => by rw [List.flatMap_cons, List.length_append, hf, flat_len hf L, List.length_cons, Nat.succ_mul, Nat.add_comm]
theorem flat_get {α β : Type} {f : α → List β} {n : Nat} (hf : ∀ x, (f x).length = n) : ∀ (L : List α) (k : Nat) (h : k < L.length) (j : Nat), j < n → (L.flatMap f)[k * n + j]? = (f L[k])[j]?
  | x :: L, 0, _, j, hj => by
    rw [List.flatMap_cons, Nat.zero_mul, Nat.zero_add, List.getElem?_append_left (by rw [hf]; exact hj)]; rfl
  | x :: L, k + 1, h, j, hj => by
    rw [List.flatMap_cons, List.getElem?_append_right (by rw [hf, Nat.succ_mul]; omega), hf, show (k + 1) * n + j - n = k * n + j by rw [Nat.succ_mul]; omega]
    exact flat_get hf L k (by simpa using h) j hj
theorem flat_take {α β : Type} {f : α → List β} {n : Nat} (hf : ∀ x, (f x).length = n) : ∀ (L : List α) (k : Nat), (L.flatMap f).take (k * n) = (L.take k).flatMap f
  | [], k => by simp
  | x :: L, 0 => by simp
  | x :: L, k + 1 => by
    rw [List.flatMap_cons, List.take_succ_cons, List.flatMap_cons, Nat.succ_mul, Nat.add_comm, ← flat_take hf L k]
    rw [List.take_append, hf, List.take_of_length_le (by rw [hf]; omega), Nat.add_sub_cancel_left]

/-- What lies at the k-th thing of a row. -/
theorem Row.flat {α : Type} {f : α → List Value} {n : Nat} (hf : ∀ x, (f x).length = n) {w : World} {B : Nat} {A : Option Addr} {L : List α} (h : Row w B A (L.flatMap f)) (hn : 0 < n) {k : Nat} (hk : k < L.length) :
    ∃ b off, A = some ⟨b, off, none⟩ ∧ b < B ∧ ∀ j u, (f L[k])[j]? = some u → w.cell? ⟨b, off + k * n + j, none⟩ = some u := by
  have hlen : 0 < (L.flatMap f).length := by rw [flat_len hf]; exact Nat.mul_pos (by omega) hn
  obtain ⟨b, off, h1, h2, h3⟩ := h.at_ hlen
  refine ⟨b, off, h1, h2, fun j u hu => ?_⟩
  have hj : j < n := by
    rcases Nat.lt_or_ge j n with h | h
    · exact h
    · rw [List.getElem?_eq_none (by rw [hf]; exact h)] at hu; cases hu
  have := h3 (k * n + j) u (by rw [flat_get hf L k hk j hj]; exact hu)
  rw [← Nat.add_assoc] at this
  exact this

/-- A row from its cells, one thing at a time. -/
theorem Row.of_each {α : Type} {f : α → List Value} {s : Nat} (hf : ∀ x, (f x).length = s) {w : World} {b off n : Nat} (hb : b < w.heap.size) {Q : α → Prop}
    (h : ∀ i, i < n → ∃ x : α, Q x ∧ ∀ j u, (f x)[j]? = some u → w.cell? ⟨b, off + (i * s + j), none⟩ = some u) :
    ∃ l : List α, l.length = n ∧ (∀ x ∈ l, Q x) ∧ Row w w.heap.size (some ⟨b, off, none⟩) (l.flatMap f) := by
  have h' : ∀ m, m ≤ n → ∃ l : List α, l.length = m ∧ (∀ x ∈ l, Q x) ∧ ∀ j u, (l.flatMap f)[j]? = some u → w.cell? ⟨b, off + j, none⟩ = some u := by
    intro m
    induction m with
    | zero => exact fun _ => ⟨[], rfl, by simp, fun j u hu => by simp at hu⟩
    | succ m ih =>
      intro hm
      obtain ⟨l, hl, hq, hc⟩ := ih (by omega)
      obtain ⟨x, hqx, hx⟩ := h m (by omega)
      refine ⟨l ++ [x], by simp [hl], fun y hy => ?_, fun j u hu => ?_⟩
      · rcases List.mem_append.1 hy with h1 | h1
        · exact hq y h1
        · simp only [List.mem_singleton] at h1; rw [h1]; exact hqx
      · have e : (l ++ [x]).flatMap f = l.flatMap f ++ f x := by simp
        rw [e] at hu
        have hlen := flat_len hf l
        by_cases hj : j < (l.flatMap f).length
        · rw [List.getElem?_append_left hj] at hu
          exact hc j u hu
        · rw [List.getElem?_append_right (by omega)] at hu
          have := hx _ u hu
          rw [hlen, hl, show m * s + (j - m * s) = j by rw [hlen, hl] at hj; omega] at this
          exact this
  obtain ⟨l, hl, hq, hc⟩ := h' n (Nat.le_refl _)
  exact ⟨l, hl, hq, .inr ⟨b, off, rfl, hb, hc⟩⟩

theorem add_none (b off j : Nat) : (⟨b, off, none⟩ : Addr).add j = ⟨b, off + j, none⟩ := by
  unfold Addr.add
  split
  · subst_vars; rfl
  · rfl
/-- A slice's block is none that was there ahead. -/
def NewAt (lo : Nat) (A : Option Addr) : Prop := ∀ b off q, A = some ⟨b, off, q⟩ → lo ≤ b
theorem newAt_none (lo : Nat) : NewAt lo none := fun _ _ _ h => by cases h
theorem newAt_le {lo lo' : Nat} {A : Option Addr} (h : NewAt lo A) (hl : lo' ≤ lo) : NewAt lo' A := fun b off q e => Nat.le_trans hl (h b off q e)
theorem grown_of_below {w w' : World} (h : Below w.heap.size w w') : w.grownBy w' none := ⟨h.os, h.tape, h.output, h.size, fun k hk _ => h.block k hk⟩
theorem Row.of_ownS {w : World} {B n c s : Nat} {T : TypeId} {A : Option Addr} {xs : List Value} (h : w.ownsRow B T s (.slice A n c) n xs) : Row w w.heap.size A xs := by
  rcases h.2 with ⟨h', h0⟩ | ⟨g, cap, cur, h', hb, hg, hnc, hcm, hcs, htake⟩
  · have : xs = [] := List.eq_nil_of_length_eq_zero (by rw [h.1, h0, Nat.zero_mul])
    exact .inl this
  · injection h' with h1 h2 h3
    subst h1
    have hlt : g < w.heap.size := by
      rcases Nat.lt_or_ge g w.heap.size with h | h
      · exact h
      · rw [Array.getElem?_eq_none h] at hg; cases hg
    refine .inr ⟨g, 0, rfl, hlt, fun j u hu => ?_⟩
    have := h.cells (g := g) rfl j u hu
    rwa [add_none] at this
theorem own_formS {w : World} {B n s : Nat} {T : TypeId} {v : Value} {xs : List Value} (h : w.ownsRow B T s v n xs) : ∃ A c, v = .slice A n c := by
  rcases h.2 with ⟨rfl, rfl⟩ | ⟨g, cap, cur, rfl, _⟩
  · exact ⟨none, 0, rfl⟩
  · exact ⟨_, _, rfl⟩
theorem own_laterS {w w' : World} {B n s : Nat} {T : TypeId} {v : Value} {xs : List Value} (h : w.ownsRow B T s v n xs) (hb : Below w.heap.size w w') : w'.ownsRow B T s v n xs :=
  h.kept (grown_of_below hb) (by cases hv : v.ownBlock <;> simp)
theorem own_baseS {w : World} {B B' n s : Nat} {T : TypeId} {v : Value} {xs : List Value} (h : w.ownsRow B T s v n xs) (hB : B' ≤ B) : w.ownsRow B' T s v n xs := by
  refine ⟨h.1, ?_⟩
  rcases h.2 with h2 | ⟨g, cap, cur, h1, h2, h3⟩
  · exact .inl h2
  · exact .inr ⟨g, cap, cur, h1, Nat.le_trans hB h2, h3⟩
theorem own_newS {w : World} {B B' n c s : Nat} {T : TypeId} {A : Option Addr} {xs : List Value} (h : w.ownsRow B T s (.slice A n c) n xs) (hB : B' ≤ B) : NewAt B' A := by
  intro b off q e
  subst e
  exact Nat.le_trans hB (h.lt b (by
    rcases h.2 with ⟨h', _⟩ | ⟨g, cap, cur, h', _⟩
    · cases h'
    · injection h' with h1; injection h1 with h1; injection h1 with h1 h2 h3; subst h1 h2 h3; rfl)).1
theorem own_inS {w : World} {B n c s : Nat} {T : TypeId} {A : Option Addr} {xs : List Value} (h : w.ownsRow B T s (.slice A n c) n xs) : ∀ b off q, A = some ⟨b, off, q⟩ → b < w.heap.size := by
  intro b off q e
  subst e
  exact (h.lt b (by
    rcases h.2 with ⟨h', _⟩ | ⟨g, cap, cur, h', _⟩
    · cases h'
    · injection h' with h1; injection h1 with h1; injection h1 with h1 h2 h3; subst h1 h2 h3; rfl)).2
end Go.Proofs.YtldlmkfigjicgaaDoor
/- slices.SortStableFunc: what its loops do to an array (plain: no program in sight). -/
namespace Go.Proofs.YtldlmkfigjicgaaDoor
set_option linter.unusedVariables false
set_option linter.unusedSectionVars false
open Go.Sort
variable {α : Type} [Inhabited α] {lt : α → α → Bool}

theorem swo_le (hS : SWO lt) {x y z : α} (h1 : lt y x = false) (h2 : lt z y = false) : lt z x = false := hS.ntrans z y x h2 h1
theorem swo_lt_le (hS : SWO lt) {x y : α} (h : lt x y = true) : lt y x = false := by
  cases hq : lt y x
  · rfl
  · have := hS.trans x y x h hq; rw [hS.irrefl] at this; cases this

/-! swapRange -/
/-! rotate -/
/-! one element moved on, or back -/
/-! merging -/
/-! blocks -/
end Go.Proofs.YtldlmkfigjicgaaDoor
/- Sets with weights: the plain law of zset.Sum (grouping what is sorted), by weights. No program in sight. -/
namespace Go.Proofs.YtldlmkfigjicgaaDoor
set_option linter.unusedVariables false
set_option linter.unusedSectionVars false
open Go.Sort

/-! rows in order -/
def cmpL : List Int → List Int → Int
  | [], [] => 0
  | [], _ :: _ => -1
  | _ :: _, [] => 1
  | a :: x, b :: y => if a < b then -1 else if b < a then 1 else cmpL x y
theorem cmpL_range : ∀ a b, cmpL a b = -1 ∨ cmpL a b = 0 ∨ cmpL a b = 1
  | [], [] => .inr (.inl rfl)
  | [], _ :: _ => .inl rfl
  | _ :: _, [] => .inr (.inr rfl)
  | a :: x, b :: y => by
    unfold cmpL
    split
    · exact .inl rfl
    · split
      · exact .inr (.inr rfl)
      · exact cmpL_range x y
theorem cmpL_self : ∀ a, cmpL a a = 0
  | [] => rfl
  | a :: x => by unfold cmpL; rw [if_neg (by omega), if_neg (by omega)]; exact cmpL_self x
theorem cmpL_eq : ∀ a b, cmpL a b = 0 → a = b
  | [], [], _ => rfl
  | [], _ :: _, h => by simp [cmpL] at h
  | _ :: _, [], h => by simp [cmpL] at h
  | a :: x, b :: y, h => by
    unfold cmpL at h
    split at h
    · omega
    · split at h
      · omega
      · rw [cmpL_eq x y h, show a = b by omega]
theorem cmpL_neg : ∀ a b, cmpL b a = - cmpL a b
  | [], [] => rfl
  | [], _ :: _ => rfl
  | _ :: _, [] => rfl
  | a :: x, b :: y => by
    unfold cmpL
    by_cases h1 : a < b
    · rw [if_neg (by omega), if_pos h1, if_pos h1]; rfl
    · by_cases h2 : b < a
      · rw [if_pos h2, if_neg h1, if_pos h2]
      · rw [if_neg h2, if_neg h1, if_neg h1, if_neg h2]; exact cmpL_neg x y
theorem cmpL_trans : ∀ a b c, cmpL a b ≤ 0 → cmpL b c ≤ 0 → cmpL a c ≤ 0 ∧ (cmpL a c = 0 → cmpL a b = 0 ∧ cmpL b c = 0)
  | [], [], c, h1, h2 => ⟨h2, fun h => ⟨rfl, h⟩⟩
  | [], b :: y, [], h1, h2 => by simp [cmpL] at h2
  | [], b :: y, c :: z, h1, h2 => ⟨by simp [cmpL], fun h => by simp [cmpL] at h⟩
  | a :: x, [], c, h1, h2 => by simp [cmpL] at h1
  | a :: x, b :: y, [], h1, h2 => by simp [cmpL] at h2
  | a :: x, b :: y, c :: z, h1, h2 => by
    unfold cmpL at h1 h2 ⊢
    by_cases e1 : a < b
    · by_cases e2 : b < c
      · rw [if_pos (by omega)]; exact ⟨by omega, fun h => by omega⟩
      · by_cases e3 : c < b
        · rw [if_neg e2, if_pos e3] at h2; omega
        · rw [if_pos (by omega)]; exact ⟨by omega, fun h => by omega⟩
    · by_cases e1' : b < a
      · rw [if_neg e1, if_pos e1'] at h1; omega
      · rw [if_neg e1, if_neg e1'] at h1
        have : a = b := by omega
        subst this
        by_cases e2 : a < c
        · rw [if_pos e2]; exact ⟨by omega, fun h => by omega⟩
        · by_cases e3 : c < a
          · rw [if_neg e2, if_pos e3] at h2; omega
          · rw [if_neg e2, if_neg e3] at h2
            rw [if_neg e2, if_neg e3, if_neg (by omega), if_neg (by omega)]
            have := cmpL_trans x y z h1 h2
            rw [if_neg e2, if_neg e3]
            exact this
theorem cmpL_lt_le {a b c : List Int} (h1 : cmpL a b < 0) (h2 : cmpL b c ≤ 0) : cmpL a c < 0 := by
  have := cmpL_trans a b c (by omega) h2
  omega
/-- An item: its row, how many times. -/
abbrev It := List Int × Int
abbrev itLt (x y : It) : Bool := decide (cmpL x.1 y.1 < 0)
theorem swo_it : SWO itLt where
  irrefl x := by simp [itLt, cmpL_self]
  trans x y z h1 h2 := by
    simp only [itLt, decide_eq_true_eq] at *
    exact cmpL_lt_le h1 (by omega)
  ntrans x y z h1 h2 := by
    simp only [itLt, decide_eq_false_iff_not] at *
    have a1 := cmpL_neg x.1 y.1
    have a2 := cmpL_neg y.1 z.1
    have a3 := cmpL_neg x.1 z.1
    have := (cmpL_trans z.1 y.1 x.1 (by omega) (by omega)).1
    omega

/-! weights -/
abbrev wrp (n : Int) : Int := IntKind.i64.wrap n
theorem wrp_add (a b : Int) : wrp (wrp a + b) = wrp (a + b) := by simp only [wrp, IntKind.wrap_i64]; omega
theorem wrp_wrp (a : Int) : wrp (wrp a) = wrp a := by simp only [wrp, IntKind.wrap_i64]; omega
theorem wrp_id {a : Int} (h : -9223372036854775808 ≤ a ∧ a ≤ 9223372036854775807) : wrp a = a := IntWalk.i64_in a h
/-- How many times a row is in a list, in all. -/
def tot (r : List Int) : List It → Int
  | [] => 0
  | x :: l => (if x.1 = r then x.2 else 0) + tot r l
abbrev wt (l : List It) (r : List Int) : Int := wrp (tot r l)
theorem tot_app (r : List Int) : ∀ a b, tot r (a ++ b) = tot r a + tot r b
  | [], b => by simp [tot]
  | x :: a, b => by simp only [List.cons_append, tot, tot_app r a b]; omega
theorem tot_perm {r : List Int} {a b : List It} (h : a.Perm b) : tot r a = tot r b := by
  induction h with
  | nil => rfl
  | cons x _ ih => simp only [tot, ih]
  | swap x y l => simp only [tot]; omega
  | trans _ _ h1 h2 => exact h1.trans h2
theorem tot_none {r : List Int} : ∀ {l : List It}, (∀ x ∈ l, x.1 ≠ r) → tot r l = 0
  | [], _ => rfl
  | x :: l, h => by
    rw [tot, if_neg (h x (by simp)), tot_none fun y hy => h y (by simp [hy])]; omega
/-- Rising rows, no weight of 0, each in its bounds. -/
def Strict : List It → Prop
  | [] => True
  | x :: l => x.2 ≠ 0 ∧ wrp x.2 = x.2 ∧ (∀ y ∈ l, cmpL x.1 y.1 < 0) ∧ Strict l
theorem Strict.tail {x : It} {l : List It} (h : Strict (x :: l)) : Strict l := h.2.2.2
theorem strict_wt {x : It} {l : List It} (h : Strict (x :: l)) : wt (x :: l) x.1 = x.2 := by
  have e : tot x.1 l = 0 := tot_none fun y hy e => by
    have := h.2.2.1 y hy
    rw [e, cmpL_self] at this; omega
  unfold wt
  rw [tot, if_pos rfl, e, Int.add_zero]
  exact h.2.1
theorem strict_wt_lt {l : List It} {r : List Int} (h : ∀ y ∈ l, cmpL r y.1 < 0) : wt l r = 0 := by
  unfold wt
  rw [tot_none fun y hy e => by
    have := h y hy
    rw [e, cmpL_self] at this; omega]
  rfl
theorem strict_wt_tail {x : It} {l : List It} (h : Strict (x :: l)) {r : List Int} : wt l r = if r = x.1 then 0 else wt (x :: l) r := by
  by_cases e : r = x.1
  · rw [if_pos e, e]
    exact strict_wt_lt h.2.2.1
  · rw [if_neg e]
    unfold wt
    rw [tot, if_neg (Ne.symm e), Int.zero_add]
/-- Lists that are rising, with the same weights, are the same. -/
theorem strict_ext : ∀ {a b : List It}, Strict a → Strict b → (∀ r, wt a r = wt b r) → a = b
  | [], [], _, _, _ => rfl
  | [], y :: b, _, hb, h => by
    have := h y.1
    rw [strict_wt hb] at this
    exact absurd this.symm hb.1
  | x :: a, [], ha, _, h => by
    have := h x.1
    rw [strict_wt ha] at this
    exact absurd this ha.1
  | x :: a, y :: b, ha, hb, h => by
    have hxy : cmpL x.1 y.1 = 0 := by
      rcases cmpL_range x.1 y.1 with e | e | e
      · have h1 := h x.1
        rw [strict_wt ha, strict_wt_lt (fun z hz => by
          rcases List.mem_cons.1 hz with e1 | e1
          · rw [e1]; omega
          · exact cmpL_lt_le (by omega) (Int.le_of_lt (hb.2.2.1 z e1)))] at h1
        exact absurd h1 ha.1
      · exact e
      · have h1 := h y.1
        have := cmpL_neg x.1 y.1
        rw [strict_wt hb, strict_wt_lt (fun z hz => by
          rcases List.mem_cons.1 hz with e1 | e1
          · rw [e1]; omega
          · exact cmpL_lt_le (by omega) (Int.le_of_lt (ha.2.2.1 z e1)))] at h1
        exact absurd h1.symm hb.1
    have e1 := cmpL_eq _ _ hxy
    have e2 : x.2 = y.2 := by
      have := h x.1
      rw [strict_wt ha, e1, strict_wt hb] at this
      exact this
    have e3 : x = y := Prod.ext e1 e2
    subst e3
    rw [strict_ext ha.tail hb.tail fun r => by rw [strict_wt_tail ha, strict_wt_tail hb, h r]]
/-! The one list: what zset.Sum tells. -/
def grpL : Nat → List It → List It
  | 0, _ => []
  | _ + 1, [] => []
  | n + 1, x :: l => let r := x.1; let m := wt (x :: l) r; let rest := grpL n (l.filter (fun y => decide (y.1 ≠ r))); if m = 0 then rest else (r, m) :: rest
/-- Of a list: each row with its weight, in order. -/
def sumL (l : List It) : List It := grpL (l.length + 1) (l.mergeSort (fun x y => !itLt y x))
theorem tot_filter {r q : List Int} (h : q ≠ r) : ∀ l : List It, tot q (l.filter (fun y => decide (y.1 ≠ r))) = tot q l
  | [] => rfl
  | x :: l => by
    rw [List.filter_cons]
    by_cases e : x.1 = r
    · rw [if_neg (by simp [e]), tot_filter h l, tot, if_neg (by rw [e]; exact Ne.symm h)]; omega
    · rw [if_pos (by simp [e]), tot, tot, tot_filter h l]
theorem grpL_mem : ∀ n (l : List It) (z : It), z ∈ grpL n l → ∃ y ∈ l, y.1 = z.1
  | 0, l, z, h => by simp [grpL] at h
  | n + 1, [], z, h => by simp [grpL] at h
  | n + 1, x :: l, z, h => by
    simp only [grpL] at h
    have rest : z ∈ grpL n (l.filter (fun y => decide (y.1 ≠ x.1))) → ∃ y ∈ x :: l, y.1 = z.1 := fun h => by
      obtain ⟨y, hy, e⟩ := grpL_mem n _ z h
      exact ⟨y, by simp [(List.mem_filter.1 hy).1], e⟩
    split at h
    · exact rest h
    · rcases List.mem_cons.1 h with e | e
      · exact ⟨x, by simp, by rw [e]⟩
      · exact rest e
theorem grpL_law : ∀ n (l : List It), l.length < n → l.Pairwise (fun x y => cmpL x.1 y.1 ≤ 0) → Strict (grpL n l) ∧ ∀ r, wt (grpL n l) r = wt l r
  | 0, l, h, _ => by omega
  | n + 1, [], _, _ => ⟨trivial, fun r => rfl⟩
  | n + 1, x :: l, h, hp => by
    have hlen := List.length_filter_le (fun y : It => decide (y.1 ≠ x.1)) l
    simp only [List.length_cons] at h
    obtain ⟨i1, i2⟩ := grpL_law n (l.filter (fun y => decide (y.1 ≠ x.1))) (by omega) ((List.pairwise_cons.1 hp).2.filter _)
    have hlt : ∀ y ∈ grpL n (l.filter (fun y => decide (y.1 ≠ x.1))), cmpL x.1 y.1 < 0 := fun y hy => by
      obtain ⟨z, hz, e⟩ := grpL_mem _ _ _ hy
      obtain ⟨hz1, hz2⟩ := List.mem_filter.1 hz
      have h1 := (List.pairwise_cons.1 hp).1 z hz1
      have h2 : cmpL x.1 z.1 ≠ 0 := fun e => (by simpa using hz2 : z.1 ≠ x.1) (cmpL_eq _ _ e).symm
      rw [← e]; omega
    have hx : ∀ r, r ≠ x.1 → wt (l.filter (fun y => decide (y.1 ≠ x.1))) r = wt (x :: l) r := fun r hr => by
      unfold wt; rw [tot_filter hr, tot, if_neg (Ne.symm hr), Int.zero_add]
    simp only [grpL]
    by_cases e : wt (x :: l) x.1 = 0
    · rw [if_pos e]
      refine ⟨i1, fun r => ?_⟩
      by_cases hr : r = x.1
      · rw [hr, e]; exact strict_wt_lt hlt
      · rw [i2 r, hx r hr]
    · rw [if_neg e]
      refine ⟨⟨e, wrp_wrp _, hlt, i1⟩, fun r => ?_⟩
      by_cases hr : r = x.1
      · rw [hr]; exact strict_wt ⟨e, wrp_wrp _, hlt, i1⟩
      · rw [← hx r hr, ← i2 r]
        unfold wt
        rw [tot, if_neg (Ne.symm hr), Int.zero_add]
theorem sumL_law (l : List It) : Strict (sumL l) ∧ ∀ r, wt (sumL l) r = wt l r := by
  have hs := List.pairwise_mergeSort (le := fun x y : It => !itLt y x) (fun a b c h1 h2 => by
      simp only [Bool.not_eq_true', itLt] at *
      exact swo_le swo_it (x := a) (y := b) (z := c) h1 h2) (fun a b => by
      cases h : itLt b a
      · simp
      · simp [swo_lt_le swo_it h]) l
  obtain ⟨h1, h2⟩ := grpL_law (l.length + 1) (l.mergeSort (fun x y => !itLt y x)) (by simp) (hs.imp fun {a b} h => by
    simp only [Bool.not_eq_true', itLt, decide_eq_false_iff_not] at h
    have := cmpL_neg a.1 b.1
    omega)
  exact ⟨h1, fun r => by unfold sumL; rw [h2 r]; unfold wt; rw [tot_perm (List.mergeSort_perm _ _)]⟩
theorem sumL_eq {l S : List It} (h : Strict S) (hw : ∀ r, wt S r = wt l r) : S = sumL l := strict_ext h (sumL_law l).1 fun r => by rw [hw r, (sumL_law l).2 r]
theorem sumL_wt {a b : List It} (h : ∀ r, wt a r = wt b r) : sumL a = sumL b := sumL_eq (sumL_law a).1 fun r => by rw [(sumL_law a).2 r, h r]
theorem sumL_app_sumL (a b : List It) : sumL (sumL a ++ b) = sumL (a ++ b) := sumL_wt fun r => by
  unfold wt; rw [tot_app, tot_app, ← wrp_add, ← wrp_add (tot r a)]
  have := (sumL_law a).2 r
  unfold wt at this
  rw [this]
theorem sumL_comm (a b : List It) : sumL (a ++ b) = sumL (b ++ a) := sumL_wt fun r => by unfold wt; rw [tot_app, tot_app, Int.add_comm]
end Go.Proofs.YtldlmkfigjicgaaDoor
/- Items of sets in memory: a row and how many times; lists of ints. -/
namespace Go.Proofs.YtldlmkfigjicgaaDoor
set_option linter.unusedVariables false
open Go.RowKit

/-- An item, and where its row lies. -/
structure IR where
  row : List Int
  A : Option Addr
  k : Nat
  n : Int
instance : Inhabited IR := ⟨⟨[], none, 0, 0⟩⟩
abbrev IR.it (x : IR) : It := (x.row, x.n)
abbrev IR.cells (x : IR) : List Value := [.slice x.A x.row.length x.k, .int .i64 x.n]
abbrev its (L : List IR) : List It := L.map IR.it
abbrev rcells (L : List IR) : List Value := L.flatMap IR.cells
theorem IR.len (x : IR) : x.cells.length = 2 := rfl
theorem rcells_len (L : List IR) : (rcells L).length = L.length * 2 := flat_len IR.len L
theorem rcells_one (L : List IR) : ∀ u ∈ rcells L, u.oneCell' = true := by
  intro u hu
  obtain ⟨x, -, hx⟩ := List.mem_flatMap.1 hu
  simp only [IR.cells, List.mem_cons, List.not_mem_nil, or_false] at hx
  rcases hx with rfl | rfl <;> rfl
abbrev icells' (l : List Int) : List Value := l.map (Value.int .i64)
/-- The rows of the items lie below B. -/
def RowsAt (w : World) (B : Nat) (L : List IR) : Prop := ∀ x ∈ L, Row w B x.A (icells' x.row) ∧ x.row.length ≤ 9223372036854775807
/-- A list of items lies at A, their rows too. -/
def RowI (w : World) (B : Nat) (A : Option Addr) (L : List IR) : Prop := Row w B A (rcells L) ∧ RowsAt w B L
theorem RowsAt.below {w w' : World} {B C : Nat} {L : List IR} (h : RowsAt w B L) (hb : Below C w w') (hB : B ≤ C) : RowsAt w' B L := fun x hx => ⟨(h x hx).1.below hb hB, (h x hx).2⟩
theorem RowsAt.more {w : World} {B C : Nat} {L : List IR} (h : RowsAt w B L) (hB : B ≤ C) : RowsAt w C L := fun x hx => ⟨(h x hx).1.more hB, (h x hx).2⟩
theorem RowsAt.step {w w' : World} {L : List IR} (h : RowsAt w w.heap.size L) (hb : Below w.heap.size w w') : RowsAt w' w'.heap.size L := (h.below hb (Nat.le_refl _)).more hb.size
theorem RowsAt.sub {w : World} {B : Nat} {L M : List IR} (h : RowsAt w B L) (hs : ∀ x ∈ M, x ∈ L) : RowsAt w B M := fun x hx => h x (hs x hx)
theorem RowI.step {w w' : World} {A : Option Addr} {L : List IR} (h : RowI w w.heap.size A L) (hb : Below w.heap.size w w') : RowI w' w'.heap.size A L := ⟨h.1.step hb, h.2.step hb⟩
theorem RowI.nil {w : World} {B : Nat} {A : Option Addr} : RowI w B A [] := ⟨Row.nil, fun x hx => by simp at hx⟩
theorem Row.it {w : World} {B : Nat} {A : Option Addr} {L : List IR} (h : Row w B A (rcells L)) {k : Nat} (hk : k < L.length) :
    ∃ b off, A = some ⟨b, off, none⟩ ∧ b < B ∧ w.cell? ⟨b, off + k * 2, none⟩ = some (.slice L[k].A L[k].row.length L[k].k) ∧ w.cell? ⟨b, off + k * 2 + 1, none⟩ = some (.int .i64 L[k].n) := by
  obtain ⟨b, off, h1, h2, h3⟩ := Row.flat IR.len h (by omega) hk
  exact ⟨b, off, h1, h2, h3 0 _ rfl, h3 1 _ rfl⟩
theorem Row.int' {w : World} {B : Nat} {A : Option Addr} {l : List Int} (h : Row w B A (icells' l)) {k : Nat} (hk : k < l.length) :
    ∃ b off, A = some ⟨b, off, none⟩ ∧ b < B ∧ w.cell? ⟨b, off + k, none⟩ = some (.int .i64 l[k]) := by
  obtain ⟨b, off, h1, h2, h3⟩ := h.at_ (show 0 < (icells' l).length by simp; omega)
  exact ⟨b, off, h1, h2, h3 k _ (by simp [hk])⟩
end Go.Proofs.YtldlmkfigjicgaaDoor
/- Slices as a claim reads them; what the second form's bound gives. -/
namespace Go.Proofs.YtldlmkfigjicgaaDoor
set_option linter.unusedVariables false
open Go.ChangeShapes Go.WideShapes Go.ChangeAt Go.RowKit Go.Deep

theorem bulk_one {H : Type} (d : DataW H) : 1 ≤ Rows.uptoBulk d := by
  cases d with
  | lit l => cases l <;> simp [Rows.uptoBulk]
  | nil => simp [Rows.uptoBulk]
  | ptr d => simp [Rows.uptoBulk]
  | slice elems spare => simp [Rows.uptoBulk]
  | agg parts => simp [Rows.uptoBulk]
  | iface t d => simp [Rows.uptoBulk]
  | map entries => simp [Rows.uptoBulk]
  | held h => simp [Rows.uptoBulk]
theorem bulk_len {H : Type} (l : List (DataW H)) : l.length ≤ Rows.uptoBulkAll l := by
  induction l with
  | nil => simp [Rows.uptoBulkAll]
  | cons x r ih => have := bulk_one x; simp only [Rows.uptoBulkAll, List.length_cons]; omega
theorem bulk_slice {H : Type} (elems spare : List (DataW H)) : elems.length + 1 ≤ Rows.uptoBulk (.slice elems spare) := by
  have h1 := bulk_len elems
  simp only [Rows.uptoBulk]
  omega
/-- A slice of things of s cells each, as the claim reads it. -/
theorem open_each {α H : Type} {f : α → List Value} {s : Nat} (hf : ∀ x, (f x).length = s) (hs : 0 < s) {Q : α → Prop} {enc : TypeId × Value → H} {w : World} {base n : Nat} {spare : Nat → Bool} {held : Bool} {cs : List Value} {x : DataW H × List MemPlace} {t e : TypeId}
    (ht : Tryd.prog.underlying t = some (.slice e)) (hc : Tryd.prog.cellsOf e = s)
    (ho : ∀ n cs y, DataW.trod enc Tryd.prog w base spare held n e cs = some y → ∃ z : α, Q z ∧ cs = f z)
    (h : DataW.trod enc Tryd.prog w base spare held n t cs = some x) :
    ∃ (A : Option Addr) (k : Nat) (l : List α), cs = [.slice A l.length k] ∧ Row w w.heap.size A (l.flatMap f) ∧ (∀ z ∈ l, Q z) ∧ l.length ≤ 9223372036854775807 ∧ l.length ≤ Rows.uptoBulk x.1 := by
  rcases open_slice ht h with ⟨rfl, hx⟩ | ⟨a, len, cap, m, n', D, Pl, rfl, hb, hl, hm, hmm, hx, hi⟩
  · exact ⟨none, 0, [], rfl, Row.nil, by simp, by simp, by simp⟩
  · by_cases h0 : len = 0
    · subst h0
      exact ⟨some a, cap, [], rfl, Row.nil, by simp, by simp, by simp⟩
    · have hlm : len ≤ m := by rw [hmm]; split <;> omega
      have hd : ∀ i, i < len → ∃ z : α, Q z ∧ ∀ j u, (f z)[j]? = some u → w.cell? ((a.add (i * s)).add j) = some u := by
        intro i hil
        obtain ⟨cs', hc', ht'⟩ := hi i (by omega)
        obtain ⟨z, hq, rfl⟩ := ho _ _ _ ht'
        rw [hc] at hc'
        obtain ⟨_, _, hat⟩ := World.cells?_some hc'
        refine ⟨z, hq, fun j u hu => ?_⟩
        have hj : j < s := by
          rcases Nat.lt_or_ge j s with q | q
          · exact q
          · rw [List.getElem?_eq_none (by rw [hf]; exact q)] at hu; cases hu
        rw [hat j hj]; exact hu
      obtain ⟨b, off, spot⟩ := a
      obtain ⟨z0, _, hz0⟩ := hd 0 (by omega)
      have hu0 : (f z0)[0]? = some ((f z0)[0]'(by rw [hf]; exact hs)) := List.getElem?_eq_getElem _
      have hx0 := hz0 0 _ hu0
      have hspot : spot = none := by simpa [Addr.add] using World.cell?_spot hx0
      subst hspot
      have hblk : b < w.heap.size := World.block_lt_of_cell? _ _ (by simpa [Addr.add] using hx0)
      obtain ⟨l, hll, hql, hr⟩ := Row.of_each hf (w := w) (b := b) (off := off) (n := len) hblk (Q := Q) (fun i hil => by
        obtain ⟨z, hq, hz⟩ := hd i hil
        refine ⟨z, hq, fun j u hu => ?_⟩
        have := hz j u hu
        rw [add_none, add_none, Nat.add_assoc] at this
        exact this)
      subst hll
      refine ⟨some ⟨b, off, none⟩, cap, l, rfl, hr, hql, ?_, ?_⟩
      · simp only [maxLen] at hm
        omega
      · rw [hx]
        have := bulk_slice ((List.range l.length).map D) ((List.range (m - l.length)).map fun j => D (l.length + j))
        simp only [List.length_map, List.length_range] at this
        simp only
        omega
end Go.Proofs.YtldlmkfigjicgaaDoor
/- Arguments that are lists of items, or of ints, as a claim reads them. -/
namespace Go.Proofs.YtldlmkfigjicgaaDoor
set_option linter.unusedVariables false
open Go.ChangeShapes Go.WideShapes Go.ChangeAt Go.RowKit Go.Deep

set_option maxRecDepth 100000 in
theorem open_ints_cells {H : Type} {enc : TypeId × Value → H} {w : World} {base n : Nat} {spare : Nat → Bool} {held : Bool} {cs : List Value} {x : DataW H × List MemPlace}
    (h : DataW.trod enc Tryd.prog w base spare held n 23 cs = some x) : ∃ (A : Option Addr) (k : Nat) (l : List Int), cs = [.slice A l.length k] ∧ Row w w.heap.size A (icells' l) ∧ l.length ≤ 9223372036854775807 ∧ l.length ≤ Rows.uptoBulk x.1 := by
  obtain ⟨A, k, l, e, hr, hq, hl, hb⟩ := open_each (f := fun z : Int => [.int .i64 z]) (s := 1) (Q := fun _ => True) (fun _ => rfl) (by decide) Tryd.underlying23 (by kernel_rfl) (fun n cs y hy => by
    obtain ⟨z, hz, -⟩ := DataW.trod_int Tryd.underlying3 hy
    exact ⟨z, trivial, hz⟩) h
  exact ⟨A, k, l, e, by rw [show icells' l = l.flatMap (fun z => [Value.int .i64 z]) from List.map_eq_flatMap]; exact hr, hl, hb⟩
set_option maxRecDepth 100000 in
theorem open_item {H : Type} {enc : TypeId × Value → H} {w : World} {base n : Nat} {spare : Nat → Bool} {held : Bool} {cs : List Value} {x : DataW H × List MemPlace}
    (h : DataW.trod enc Tryd.prog w base spare held n 51 cs = some x) : ∃ z : IR, (Row w w.heap.size z.A (icells' z.row) ∧ z.row.length ≤ 9223372036854775807) ∧ cs = z.cells := by
  obtain ⟨xs, n', _, hx, hlen, hxl, hf⟩ := DataW.trod_struct Tryd.underlying51 h
  have c2 : Tryd.prog.cellsOf 51 = 2 := by kernel_rfl
  have c1 : Tryd.prog.cellsOf 23 = 1 := by kernel_rfl
  have c1' : Tryd.prog.cellsOf 3 = 1 := by kernel_rfl
  rw [c2] at hlen
  match cs, hlen with
  | [u0, u1], _ =>
    match xs, hxl with
    | [y0, y1], _ =>
      have h0 := hf 0 _ rfl
      have h1 := hf 1 _ rfl
      simp only [List.getElem_toArray, List.getElem_cons_zero, List.getElem_cons_succ, List.getElem?_cons_zero, List.getElem?_cons_succ] at h0 h1
      simp only [c1, c1', List.drop_zero, List.take_succ_cons, List.take_zero, List.drop_succ_cons] at h0 h1
      obtain ⟨A, k, l, e0, r0, l0, -⟩ := open_ints_cells h0
      obtain ⟨z, e1, _⟩ := DataW.trod_int Tryd.underlying3 h1
      injection e0 with e0
      injection e1 with e1
      subst e0 e1
      exact ⟨⟨l, A, k, z⟩, ⟨r0, l0⟩, rfl⟩
set_option maxRecDepth 100000 in
theorem arg_items {H : Type} {enc : TypeId × Value → H} {w : World} {r : Reach} {b0 base : Nat} {spare : Nat → Bool} {held : Bool} {v : Value} {d : DataW H} {p : List MemPlace}
    (hv : Value.okWide Tryd.prog w r b0 22 v) (h : DataW.Trod enc Tryd.prog w base spare held 22 v d p) :
    ∃ (A : Option Addr) (k : Nat) (M : List IR), v = .slice A M.length k ∧ RowI w w.heap.size A M ∧ M.length ≤ 9223372036854775807 := by
  obtain ⟨a, n, c, rfl⟩ := okWide_slice Tryd.underlying22 hv
  obtain ⟨m, hm⟩ := h
  obtain ⟨A, k, M, e, hr, hq, hl, -⟩ := open_each (f := IR.cells) (Q := fun z : IR => Row w w.heap.size z.A (icells' z.row) ∧ z.row.length ≤ 9223372036854775807) IR.len (by decide) Tryd.underlying22 (by kernel_rfl) (fun n cs y hy => open_item hy) hm
  simp only [Value.cells, List.cons.injEq, and_true] at e
  exact ⟨A, k, M, e, ⟨hr, hq⟩, hl⟩
end Go.Proofs.YtldlmkfigjicgaaDoor
/- Arguments that are lists of ints, or ints, as a claim reads them. -/
namespace Go.Proofs.YtldlmkfigjicgaaDoor
set_option linter.unusedVariables false
open Go.ChangeShapes Go.WideShapes Go.ChangeAt Go.RowKit Go.Deep

set_option maxRecDepth 100000 in
theorem arg_ints {H : Type} {enc : TypeId × Value → H} {w : World} {r : Reach} {b0 base : Nat} {spare : Nat → Bool} {held : Bool} {v : Value} {d : DataW H} {p : List MemPlace}
    (hv : Value.okWide Tryd.prog w r b0 23 v) (h : DataW.Trod enc Tryd.prog w base spare held 23 v d p) :
    ∃ (A : Option Addr) (k : Nat) (l : List Int), v = .slice A l.length k ∧ Row w w.heap.size A (icells' l) ∧ l.length ≤ 9223372036854775807 := by
  obtain ⟨a, n, c, rfl⟩ := okWide_slice Tryd.underlying23 hv
  obtain ⟨m, hm⟩ := h
  obtain ⟨A, k, l, e, hr, hl, -⟩ := open_ints_cells hm
  simp only [Value.cells, List.cons.injEq, and_true] at e
  exact ⟨A, k, l, e, hr, hl⟩
set_option maxRecDepth 100000 in
theorem arg_intJ {H : Type} {enc : TypeId × Value → H} {w : World} {r : Reach} {b0 base : Nat} {spare : Nat → Bool} {held : Bool} {v : Value} {d : DataW H} {p : List MemPlace}
    (hv : Value.okWide Tryd.prog w r b0 3 v) (h : DataW.Trod enc Tryd.prog w base spare held 3 v d p) : ∃ n : Int, v = .int .i64 n ∧ (Lit.int .i64 n).wf = true := by
  obtain ⟨n, rfl, _, _, hw⟩ := open_int Tryd.underlying3 hv h
  exact ⟨n, rfl, hw⟩
end Go.Proofs.YtldlmkfigjicgaaDoor
