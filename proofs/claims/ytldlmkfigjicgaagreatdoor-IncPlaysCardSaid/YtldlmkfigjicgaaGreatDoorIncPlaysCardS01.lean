/- Frame, FrameL, Base, Mem, App, Gen, StbP -/
import Derived.Test.YtldlmkfigjicgaaGreatDoorRows
import Derived.Below
import Derived.ChangeSame
import Derived.Carry
import Derived.WalkKit
import Derived.ProofKit
import Derived.OpenShut
import Derived.LaidMore
import Derived.Stop.Joined
import Derived.LaidLaws
import Derived.Handed
import Derived.Lib.LaidTab
import Derived.Stop.LaidErr
import Derived.Lib.ItoaNum
import Derived.Handy
import Derived.Deep.Quiet
import Derived.Deep.QuietTactic
import Derived.BigQuiet
import Derived.StillTailTactics
import Derived.Deep.AppendLies
import Derived.Maps.AppendAt
import Derived.Deep.RegionHeld3
import Derived.OwnWalk
import Derived.Sort.LotA
/- The frame that the laws of this seat share: a call that answers true and turns nothing below the heap's size fits the row. No law in sight. -/
namespace Go.Proofs.YtldlmkfigjicgaaGreatDoor
set_option linter.unusedVariables false
open Go.ChangeShapes Go.WideShapes Go.ChangeAt Go.RowKit

section
variable {H : Type} {enc : TypeId × Value → H} {P : Program}

theorem trodAll_stays (hl : laidOutB P = true) {W W' : World} (hb : Below W.heap.size W W') {sp : Nat → Bool} :
    ∀ {ts : List TypeId} {vs : List Value} {ds : List (DataW H)} {ps : List MemPlace}, (∀ t ∈ ts, P.readableRec t = true ∧ t < P.types.size) →
      DataW.TrodAll enc P W 0 (fun _ => true) true ts vs ds ps → (∀ x ∈ ps, x.block < W.heap.size) → (∀ x ∈ ps, sp x.block = true) → DataW.TrodAll enc P W' 0 sp true ts vs ds ps
  | [], _, _, _, _, h, _, _ => by
    obtain ⟨rfl, rfl, rfl⟩ := trodAll_nil h
    exact trodAll_mk0
  | t :: ts, _, _, _, ht, h, hlt, hs => by
    obtain ⟨v, vs, d, ds, p, q, rfl, rfl, rfl, h1, h2⟩ := trodAll_cons h
    have ht0 := ht t (by simp)
    exact ⟨p, q, WideElems.Trod_stays hl ht0.1 ht0.2 h1 (fun x hx => hb.same (hlt x (by simp [hx]))) (fun x hx => hs x (by simp [hx])),
      trodAll_stays hl hb (fun u hu => ht u (by simp [hu])) h2 (fun x hx => hlt x (by simp [hx])) (fun x hx => hs x (by simp [hx])), rfl⟩

theorem trodAll_len {W : World} {sp : Nat → Bool} {hd : Bool} {b : Nat} : ∀ {ts : List TypeId} {vs : List Value} {ds : List (DataW H)} {ps : List MemPlace}, DataW.TrodAll enc P W b sp hd ts vs ds ps → ds.length = ts.length
  | [], _, _, _, h => by
    obtain ⟨rfl, rfl, rfl⟩ := trodAll_nil h
    rfl
  | t :: ts, _, _, _, h => by
    obtain ⟨v, vs, d, ds, p, q, rfl, rfl, rfl, h1, h2⟩ := trodAll_cons h
    simp [trodAll_len h2]

theorem law_post {f : Func} {s : ChangeSpec} {W W' : World} {args : Array Value} {ds gs : List (DataW H)} {before : List MemPlace} {tb : TypeId} (hl : laidOutB P = true)
    (hts : ∀ t ∈ f.params.toList, P.readableRec t = true ∧ t < P.types.size) (hres : f.resultTypes = #[tb]) (hbool : P.underlying tb = some .bool) (hvars : s.vars = [])
    (hspec : ∀ es : List (DataW H), es.length = f.params.toList.length → s.fn H es = { results := [.lit (.bool true)], args := es })
    (hW : DataW.Whole enc P f.params.toList s.vars false W args.toList ds gs before) (hb : Below W.heap.size W W') : s.post enc P f false true false false W args (.bool true) W' := by
  have hlt := hW.lt
  have hold : ∀ x ∈ before, (fun b => decide (b < W.heap.size)) x.block = true := fun x hx => by simpa using hlt x hx
  have hW0 := hW
  obtain ⟨p, q, hA, hV, rfl, hz, hn⟩ := hW
  rw [hvars] at hV
  obtain ⟨rfl, rfl⟩ := trodVars_none hV
  have hsp := hspec ds (trodAll_len hA)
  have hargs : ∀ sp : Nat → Bool, (∀ x ∈ p, sp x.block = true) → DataW.TrodAll enc P W' 0 sp true f.params.toList args.toList ds p := fun sp h =>
    trodAll_stays hl hb hts hA (fun x hx => hlt x (by simp [hx])) h
  have hr : ∀ (b : Nat) (sp : Nat → Bool) (hd : Bool), DataW.TrodAll enc P W' b sp hd f.resultTypes.toList ((Value.bool true).resultList f.resultTypes.size) [.lit (.bool true)] [] := by
    intro b sp hd
    rw [hres]
    exact trodAll_cons_mk (shut_bool hbool _) trodAll_mk0
  refine ⟨ds, [], p ++ [], [], p, [], hW0, ?_, ?_, ?_, World.keptBut_mono (fun x hx => ⟨hx, .inr (by simpa using hx)⟩) (hb.frame (· ∈ p ++ [])), fun _ => ?_⟩
  · rw [List.append_nil, hsp]; exact hr _ _ _
  · rw [List.append_nil, hsp]; exact hargs _ (fun x hx => by simpa using hlt x (by simp [hx]))
  · rw [List.append_nil, hsp, hvars]; rfl
  · refine ⟨ok_one hres rfl (okWide_bool_mk hbool _), [.lit (.bool true)] ++ ds, [], p ++ [], ⟨p, [], ?_, by rw [hvars]; rfl, rfl, ?_, fun h => by cases h⟩, fun x hx _ => by simpa using hx⟩
    · have h := trodAll_append (hargs (fun _ => true) (fun _ _ => rfl)) (hr 0 (fun _ => true) true)
      simpa using h
    · intro b off hx
      rw [hb.frozen (hlt _ hx)]
      exact hz b off hx
end

end Go.Proofs.YtldlmkfigjicgaaGreatDoor
/- The frame of a law whose row lists the library's tables. No law in sight. -/
namespace Go.Proofs.YtldlmkfigjicgaaGreatDoor
set_option linter.unusedVariables false
open Go.ChangeShapes Go.WideShapes Go.ChangeAt Go.RowKit

/-- The tables that the rows of this seat list. -/
abbrev listed : List (String × DataW Unit) := [("math/bits.deBruijn32tab", Rows.laid_math_bits_deBruijn32tab), ("math/bits.deBruijn64tab", Rows.laid_math_bits_deBruijn64tab), ("internal/strconv.uint64pow10", Rows.laid_internal_strconv_uint64pow10)]
theorem pow_data : (Rows.laid_internal_strconv_uint64pow10 : DataW Unit) = Lib.tabData .u64 Lib.pow10Tab := by kernel_rfl
theorem pow_named : Tryz.prog.globalNamed "internal/strconv.uint64pow10" = some 0 := by kernel_rfl
theorem pow_type : (Tryz.prog.globals[0]?).map (·.type) = some 203 := by kernel_rfl
theorem pow_of_laid {W : World} (h : laidMetH Tryz.prog listed W) : Lib.TabIs Tryz.prog W "internal/strconv.uint64pow10" .u64 Lib.pow10Tab := by
  rw [MakeChecks.laidMetH_plain _ _ _ (by kernel_rfl)] at h
  have h2 := h.tail.tail
  rw [pow_data] at h2
  exact Lib.tabIs_of_head pow_named pow_type Tryz.underlying203 Tryz.underlying165 (by kernel_rfl) (by kernel_rfl) h2
theorem door_met (os : Os) (args : Array Value) : laidMetH Tryz.prog listed ((World.doorLaid Tryz.prog 24 os).forCall (fun _ _ => 0) ⟨#[], args, []⟩).memory :=
  laidMetH_of_parts3 (fuel := 8) (laidMet_of_run' 8 (by kernel_rfl) (by kernel_rfl)) (by kernel_rfl) (by kernel_rfl)
section
variable {H : Type} {enc : TypeId × Value → H}
theorem law_lifted_laid {C : Checked} {os : Os} {f : FuncId} {fn : Func} {s : ChangeSpec} {L : List (String × DataW Unit)} {tb : TypeId}
    (own : ownKnob C.prog.godebug = none) (started : os.Started) (noInit : C.prog.inits.idxOf? f = none) (hfn : C.prog.funcs[f]? = some fn)
    (witness : ∃ (w : World) (tape : Tape) (i : Input), w.os = os ∧ (w.forCall tape i).Shaped C.prog ∧ i.vars = [] ∧ Input.okWide C.prog (w.forCall tape i) .any w.heap.size f i ∧
      ((s.pre enc C.prog fn [] false (w.forCall tape i).memory i.args ∧ laidMetH C.prog L (w.forCall tape i).memory) ∧ sizedMet enc C.prog fn (OpenSpec.ofChange s) false (w.forCall tape i).memory i.args) ∧ ({} : Assume).holds C.prog (lone (Frame.enter C.prog f i.args .normal) [] (w.forCall tape i)))
    (hl : laidOutB C.prog = true) (hts : ∀ t ∈ fn.params.toList, C.prog.readableRec t = true ∧ t < C.prog.types.size) (hres : fn.resultTypes = #[tb]) (hbool : C.prog.underlying tb = some .bool) (hvars : s.vars = [])
    (hspec : ∀ es : List (DataW H), es.length = fn.params.toList.length → s.fn H es = { results := [.lit (.bool true)], args := es })
    (walk : ∀ (W : World) (base : Nat) (args : Array Value) (ds : List (DataW H)) (ps : List MemPlace),
      (∀ (j : Nat) t v, fn.params[j]? = some t → args[j]? = some v → Value.okWide C.prog W .any base t v) → DataW.TrodAll enc C.prog W 0 (fun _ => true) true fn.params.toList args.toList ds ps → laidMetH C.prog L W →
      Calls C.prog f args W fun e W' => e = .returned (.bool true) ∧ Below W.heap.size W W') :
    ReturnsInHanded {} C os f .any (fun w args => (s.pre enc C.prog fn [] false w args ∧ laidMetH C.prog L w) ∧ sizedMet enc C.prog fn (OpenSpec.ofChange s) false w args) (s.post enc C.prog fn false true false false) := by
  refine returnsInHanded_of_change_and (C := C) (X := fun w _ => laidMetH C.prog L w) (fun _ _ _ hh h => laidMetH.of_heap hh h) own started noInit hfn witness ?_
  intro W base args ds gs before hval hW _ _ hL _
  have hW' := hW
  obtain ⟨p, q, hA, _⟩ := hW
  refine (walk W base args ds p hval hA hL).mono fun e W' ⟨he, hb⟩ => ?_
  exact ⟨_, he, law_post hl hts hres hbool hvars hspec hW' hb⟩
end
end Go.Proofs.YtldlmkfigjicgaaGreatDoor
/- Words of my own for memory: a slice that reads as a list of cells, what is kept below a block, one lexical walk of a region that draws its order over the class 'Below'. No program in sight. -/
namespace Go.Proofs.YtldlmkfigjicgaaGreatDoor
set_option linter.unusedVariables false
open Go.RowKit

theorem hid {p : Prop} (h : p) : Hid p := h

/-- The slice address 'A' leads to the cells 'xs', all below block 'B'. -/
def Row (w : World) (B : Nat) (A : Option Addr) (xs : List Value) : Prop :=
  xs = [] ∨ ∃ b off, A = some ⟨b, off, none⟩ ∧ b < B ∧ ∀ j u, xs[j]? = some u → w.cell? ⟨b, off + j, none⟩ = some u

theorem Row.nil {w : World} {B : Nat} {A : Option Addr} : Row w B A [] := .inl rfl
theorem Row.below {w w' : World} {B C : Nat} {A : Option Addr} {xs : List Value} (h : Row w B A xs) (hb : Below C w w') (hB : B ≤ C) : Row w' B A xs := by
  rcases h with h | ⟨b, off, h1, h2, h3⟩
  · exact .inl h
  · exact .inr ⟨b, off, h1, h2, fun j u hu => (hb.cell (p := ⟨b, off + j, none⟩) (by simp; omega)).trans (h3 j u hu)⟩
theorem Row.more {w : World} {B C : Nat} {A : Option Addr} {xs : List Value} (h : Row w B A xs) (hB : B ≤ C) : Row w C A xs := by
  rcases h with h | ⟨b, off, h1, h2, h3⟩
  · exact .inl h
  · exact .inr ⟨b, off, h1, by omega, h3⟩
theorem Row.at_ {w : World} {B : Nat} {A : Option Addr} {xs : List Value} (h : Row w B A xs) {k : Nat} (hk : k < xs.length) :
    ∃ b off, A = some ⟨b, off, none⟩ ∧ b < B ∧ ∀ j u, xs[j]? = some u → w.cell? ⟨b, off + j, none⟩ = some u := by
  rcases h with h | h
  · subst h; simp at hk
  · exact h

/-- What was there when the call began is there in a later world that kept all that was there after one new block more. -/
theorem Row.later {w wr : World} {A : Option Addr} {xs : List Value} {o : Obj} (h : Row w w.heap.size A xs) (hb : Below (w.heap.size + 1) (w.alloc o) wr) : Row wr w.heap.size A xs :=
  (h.below (Below.alloc (Below.refl _ _) (Nat.le_refl _) _) (Nat.le_refl _)).below (hb.mono (Nat.le_succ _)) (Nat.le_refl _)
theorem bcell {B : Nat} {W w1 : World} (hb : Below B W w1) :
    (∀ b o, b < B → w1.cell? ⟨b, o, none⟩ = W.cell? ⟨b, o, none⟩) ∧ (∀ b o, b < B → w1.frozen? ⟨b, o, none⟩ = W.frozen? ⟨b, o, none⟩) :=
  ⟨fun b o h => hb.cell (p := ⟨b, o, none⟩) h, fun b o h => hb.frozen (p := ⟨b, o, none⟩) h⟩

/-- A world that is 'W' below 'B'. -/
structure Ext (B : Nat) (W : World) where
  w : World
  below : Below B W w

theorem ext_below {B : Nat} {W w' : World} (h : ∃ x : Ext B W, w' = x.w) : Below B W w' := by
  obtain ⟨x, rfl⟩ := h
  exact x.below

instance (B : Nat) (W : World) : Nonempty (Ext B W) := ⟨⟨W, Below.refl _ _⟩⟩

/-- A region that draws its order, its operations quiet in the class of the worlds that are as this one below its own size: the order of the text serves. -/
theorem region_ext {P : Program} {id : Nat} {Q : Exit → Act → World → Prop} {a : Act} {w : World} {l : List Oper}
    (hm : P.follows .mixedOrders = true) (hB : Region.lexB .any l.toArray = true)
    (h : (∀ (x : Ext w.heap.size w) b o, b < w.heap.size → x.w.cell? ⟨b, o, none⟩ = w.cell? ⟨b, o, none⟩) →
      wpQuiet P l.toArray (fun w' => ∃ x : Ext w.heap.size w, w' = x.w) (fun a' => ∀ w', (∃ x : Ext w.heap.size w, w' = x.w) → Q .normal a' w') l a) : (Code.region id l.toArray true).wp P Q a w :=
  wp_region_quiet (C := fun w' => ∃ x : Ext w.heap.size w, w' = x.w) hm hB ⟨⟨w.drew, (Below.refl _ _).drew⟩, rfl⟩ (by simpa using h fun x b o hb => x.below.cell (p := ⟨b, o, none⟩) hb)

theorem ext_call {P : Program} {f : FuncId} {args : Array Value} {B : Nat} {W : World} {v : Value} (x : Ext B W) (hB : B ≤ W.heap.size)
    (h : Calls P f args x.w fun e w' => e = .returned v ∧ Below x.w.heap.size x.w w') : Calls P f args x.w fun e w'' => e = .returned v ∧ ∃ y : Ext B W, w'' = y.w :=
  h.mono fun _ w' ⟨he, hb⟩ => ⟨he, ⟨w', x.below.trans (hb.mono (Nat.le_trans hB x.below.size))⟩, rfl⟩

theorem ext_call_same {P : Program} {f : FuncId} {args : Array Value} {B : Nat} {W : World} {v : Value} (x : Ext B W)
    (h : Calls P f args x.w fun e w' => e = .returned v ∧ x.w = w') : Calls P f args x.w fun e w'' => e = .returned v ∧ ∃ y : Ext B W, w'' = y.w :=
  h.mono fun _ w' ⟨he, hb⟩ => ⟨he, x, hb.symm⟩

theorem ret_bool {a b : Bool} (h : a = b) : Ending.returned (.bool a) = .returned (.bool b) := by rw [h]
theorem ret_int {k : IntKind} {a b : Int} (h : a = b) : Ending.returned (.int k a) = .returned (.int k b) := by rw [h]

theorem below_drewN {B : Nat} {W w : World} (h : Below B W w) (n : Nat) : Below B W (w.drewN n) := ⟨h.os, h.tape, h.output, h.size, h.block⟩

/-- A region whose first n operations leave the world alone, and whose others follow one by one. -/
theorem region_tail {P : Program} {id : Nat} {Q : Exit → Act → World → Prop} {a : Act} {w : World} {l : List Oper} (n : Nat) (hm : P.follows .mixedOrders = true) (hB : Region.lexTailB .any l.toArray n = true)
    (h : wpStill P l.toArray w.drew (fun a' => wpList P l.toArray Q (l.drop n) a' w.drew) (l.take n) a) : (Code.region id l.toArray true).wp P Q a w :=
  wp_region_still_tail n hm hB h
end Go.Proofs.YtldlmkfigjicgaaGreatDoor
/- Words for memory, the second: a block known whole ('Blk'), facts of an anchor world carried to a later one. No program in sight. -/
namespace Go.Proofs.YtldlmkfigjicgaaGreatDoor
set_option linter.unusedVariables false
open Go.RowKit

/-- Block b of w is cs, of type T, and may be written. -/
def Blk (w : World) (b : Nat) (cs : Array Value) (T : TypeId) : Prop := w.heap[b]? = some (.cells cs T (0, 0))

theorem Blk.lt {w : World} {b : Nat} {cs : Array Value} {T : TypeId} (h : Blk w b cs T) : b < w.heap.size := by
  rcases Nat.lt_or_ge b w.heap.size with h1 | h1
  · exact h1
  · unfold Blk at h; rw [Array.getElem?_eq_none h1] at h; cases h
theorem Blk.cells {w : World} {b : Nat} {cs : Array Value} {T : TypeId} (h : Blk w b cs T) : (∀ j, w.cell? ⟨b, j, none⟩ = cs[j]?) ∧ (∀ j, w.frozen? ⟨b, j, none⟩ = false) :=
  ⟨fun j => cell_of_row w b j _ _ _ h, fun j => frozen_of_row w b j _ _ h⟩
theorem Blk.thru {B : Nat} {w w' : World} {b : Nat} {cs : Array Value} {T : TypeId} (h : Blk w b cs T) (hb : Below B w w') (hlt : b < B) : Blk w' b cs T := (hb.block b hlt).trans h
theorem Blk.step {w w' : World} {b : Nat} {cs : Array Value} {T : TypeId} (h : Blk w b cs T) (hb : Below w.heap.size w w') : Blk w' b cs T := h.thru hb h.lt
theorem Blk.alloc {w : World} {b : Nat} {cs : Array Value} {T : TypeId} (h : Blk w b cs T) (o : Obj) : Blk (w.alloc o) b cs T := (Below.heap_alloc w o b h.lt).trans h
theorem Blk.drew {w : World} {b : Nat} {cs : Array Value} {T : TypeId} (h : Blk w b cs T) : Blk w.drew b cs T := h
theorem Blk.drewN {w : World} {b : Nat} {cs : Array Value} {T : TypeId} (h : Blk w b cs T) (n : Nat) : Blk (w.drewN n) b cs T := h
theorem Blk.new (w : World) (cs : Array Value) (T : TypeId) : Blk (w.alloc (.cells cs T)) w.heap.size cs T := heap_alloc_new w _
theorem Blk.new' (w : World) (cs : Array Value) (T : TypeId) {b : Nat} (h : b = w.heap.size) : Blk (w.alloc (.cells cs T)) b cs T := by subst h; exact heap_alloc_new w _
theorem Blk.set {w : World} {b : Nat} {cs : Array Value} {T : TypeId} (h : Blk w b cs T) (i : Nat) (v : Value) : Blk (w.setCell ⟨b, i, none⟩ v) b (cs.setIfInBounds i v) T := heap_setCell_same w b i cs T v h
theorem Blk.other {w : World} {b : Nat} {cs : Array Value} {T : TypeId} (h : Blk w b cs T) {a : Addr} (hne : b ≠ a.block) (v : Value) : Blk (w.setCell a v) b cs T := (Below.heap_setCell w a v b hne).trans h
theorem Blk.grown {w w' : World} {b : Nat} {cs : Array Value} {T : TypeId} {row : Option Nat} (h : Blk w b cs T) (hg : w.grownBy w' row) (hne : some b ≠ row) : Blk w' b cs T := (hg.block b h.lt hne).trans h
theorem Blk.eq {w : World} {b : Nat} {cs ds : Array Value} {T : TypeId} (h : Blk w b cs T) (e : cs = ds) : Blk w b ds T := e ▸ h

/-- All that the walk wants of a block that it knows whole. -/
theorem Blk.all {w : World} {b : Nat} {cs : Array Value} {T : TypeId} (h : Blk w b cs T) : (∀ j, w.cell? ⟨b, j, none⟩ = cs[j]?) ∧ (∀ j, w.frozen? ⟨b, j, none⟩ = false) ∧ b < w.heap.size ∧ ((b = w.heap.size) = False) :=
  ⟨h.cells.1, h.cells.2, h.lt, eq_false (Nat.ne_of_lt h.lt)⟩

theorem Below.step {B : Nat} {a b c : World} (h : Below B a b) (hB : B ≤ b.heap.size) (k : Below b.heap.size b c) : Below B a c := h.trans (k.mono hB)
theorem Below.step' {a b c : World} (h : Below a.heap.size a b) (k : Below b.heap.size b c) : Below a.heap.size a c := h.trans (k.mono h.size)
theorem Row.step {w w' : World} {A : Option Addr} {xs : List Value} (h : Row w w.heap.size A xs) (hb : Below w.heap.size w w') : Row w' w'.heap.size A xs := (h.below hb (Nat.le_refl _)).more hb.size
end Go.Proofs.YtldlmkfigjicgaaGreatDoor
/- append onto an owned row from whatever row, nil or not: one law for plain regions, one for regions that draw. No program in sight. -/
namespace Go.Proofs.YtldlmkfigjicgaaGreatDoor
set_option linter.unusedVariables false
open Go.RowKit

/-- What the table says of a slice type's elements. -/
structure Elem (P : Program) (t e : TypeId) (size bytes : Nat) : Prop where
  ht : P.underlying t = some (.slice e)
  hi : ∃ i z, P.info? e = some i ∧ i.zero = some z ∧ i.size = size ∧ i.bytes = bytes ∧ z.cells.size = size
  pos : 0 < size

theorem addr_add (b off j : Nat) : (⟨b, off, none⟩ : Addr).add j = ⟨b, off + j, none⟩ := by
  by_cases h : j = 0 <;> simp [Addr.add, h]

theorem Row.new (w : World) (cs : Array Value) (T : TypeId) {B : Nat} (hB : w.heap.size < B) : Row (w.alloc (.cells cs T)) B (some ⟨w.heap.size, 0, none⟩) cs.toList :=
  .inr ⟨w.heap.size, 0, rfl, hB, fun j u hu => by
    have h := (Blk.new w cs T).cells.1 j
    rw [Nat.zero_add, h]
    simpa using hu⟩
theorem Row.new' (w : World) (cs : Array Value) (T : TypeId) {h B : Nat} {xs : List Value} (e : w.heap.size = h) (hx : xs = cs.toList) (hB : h < B) : Row (w.alloc (.cells cs T)) B (some ⟨h, 0, none⟩) xs := by
  subst e hx; exact Row.new w cs T hB
theorem Row.drew {w : World} {B : Nat} {A : Option Addr} {xs : List Value} (h : Row w B A xs) : Row w.drew B A xs := h
theorem Row.drewN {w : World} {B : Nat} {A : Option Addr} {xs : List Value} (h : Row w B A xs) (n : Nat) : Row (w.drewN n) B A xs := h
theorem Row.alloc {w : World} {A : Option Addr} {xs : List Value} (h : Row w w.heap.size A xs) (o : Obj) : Row (w.alloc o) (w.alloc o).heap.size A xs := h.step ((Below.refl _ _).alloc (Nat.le_refl _) o)
theorem Row.grown {w w' : World} {B : Nat} {A : Option Addr} {xs : List Value} {row : Option Nat} (h : Row w B A xs) (hB : B ≤ w.heap.size) (hg : w.grownBy w' row) (hr : ∀ k, row = some k → B ≤ k) : Row w' B A xs :=
  h.below (C := B) ⟨hg.os, hg.tape, hg.output, hg.size, fun k hk => hg.block k (by omega) (fun e => by have := hr k e.symm; omega)⟩ (Nat.le_refl _)

theorem run_append_zero {P : Program} (w : World) (base : Nat) (t ty e : TypeId) (i : TypeInfo) (size : Nat) (ht : P.underlying t = some (.slice e)) (hi : P.info? e = some i)
    (v : Value) (n : Nat) (xs : List Value) (hown : w.ownsRow base e size v n xs) (A : Option Addr) (c : Nat) :
    (Builtin.append_ #[t, t] ty #[v, .slice A 0 c]).run P w = .ok v w := by
  cases A with
  | none =>
    rcases hown.2 with ⟨rfl, rfl⟩ | ⟨g, cap, cur, rfl, _, _, hnc, _⟩
    · simp [Builtin.append_, run_underlying ht, sizeOf, typeInfo, hi, Builtin.lenOf, Builtin.firstCells]
    · simp [Builtin.append_, run_underlying ht, sizeOf, typeInfo, hi, Builtin.lenOf, Builtin.firstCells, hnc, storeCells]
  | some a =>
    rcases hown.2 with ⟨rfl, rfl⟩ | ⟨g, cap, cur, rfl, _, _, hnc, _⟩
    · simp [Builtin.append_, run_underlying ht, sizeOf, typeInfo, hi, Builtin.lenOf, Builtin.firstCells, loadCells, loadCellsFrom]
    · simp [Builtin.append_, run_underlying ht, sizeOf, typeInfo, hi, Builtin.lenOf, Builtin.firstCells, hnc, storeCells, loadCells, loadCellsFrom]

theorem run_append_row {P : Program} (w : World) (base : Nat) (t ty e : TypeId) {size bytes : Nat} (El : Elem P t e size bytes)
    (v : Value) (n : Nat) (xs : List Value) (hown : w.ownsRow base e size v n xs)
    (A : Option Addr) (m c B : Nat) (news : List Value) (hl : news.length = m * size) (hnews : Row w B A news) (h1 : ∀ u ∈ news, u.oneCell' = true)
    (h63 : n + m ≤ maxLen) (hbytes : (n + m) * bytes ≤ 140737488355328) (hbase : base ≤ w.heap.size) :
    ∃ v' w', (Builtin.append_ #[t, t] ty #[v, .slice A m c]).run P w = .ok v' w' ∧ w'.ownsRow base e size v' (n + m) (xs ++ news) ∧ w.grownBy w' v.ownBlock ∧ (v'.ownBlock = v.ownBlock ∨ v'.ownBlock = some w.heap.size) := by
  obtain ⟨i, z, hi, hz, hsize, hby, hzs⟩ := El.hi
  rcases hnews with rfl | ⟨b, off, rfl, hb, hc⟩
  · have hm : m = 0 := by
      have hp := El.pos
      simp only [List.length_nil] at hl
      rcases Nat.mul_eq_zero.1 hl.symm with h | h <;> omega
    subst hm
    exact ⟨v, w, run_append_zero w base t ty e i size El.ht hi v n xs hown A c, by simpa using hown, ⟨rfl, rfl, rfl, Nat.le_refl _, fun _ _ _ => rfl⟩, .inl rfl⟩
  · obtain ⟨v', w', hr, h2, h3, h4, h5⟩ := run_append_own_at (P := P) w base t ty e i z size bytes El.ht hi hz hsize hby hzs El.pos v n xs hown ⟨b, off, none⟩ m c news hl (fun j u hu => by
      rw [addr_add]
      exact hc j u hu) h1 h63 hbytes hbase
    exact ⟨v', w', hr, h2, h3, h5⟩

theorem wp_append_row {P : Program} {w : World} {o : Oper} {a : Act} {K : Act → World → Prop} {Q : Exit → Act → World → Prop} {t e : TypeId} {size bytes : Nat} (El : Elem P t e size bytes) (s x : Operand)
    (ho : o.op = .call { callee := .builtin .append, args := #[s, x], argTypes := #[t, t] })
    (base : Nat) (v : Value) (n : Nat) (xs : List Value) (hs : a.eval s = v) (hown : w.ownsRow base e size v n xs)
    (A : Option Addr) (m c B : Nat) (news : List Value) (hx : a.eval x = .slice A m c) (hl : news.length = m * size) (hnews : Row w B A news) (h1 : ∀ u ∈ news, u.oneCell' = true)
    (h63 : n + m ≤ maxLen) (hbytes : (n + m) * bytes ≤ 140737488355328) (hbase : base ≤ w.heap.size)
    (h : ∀ v' w', w'.ownsRow base e size v' (n + m) (xs ++ news) → w.grownBy w' v.ownBlock → (v'.ownBlock = v.ownBlock ∨ v'.ownBlock = some w.heap.size) → K (a.put o.dst v') w') : o.wp P a w K Q := by
  obtain ⟨v', w', hr, h2, h3, h4⟩ := run_append_row (P := P) w base t o.type e El v n xs hown A m c B news hl hnews h1 h63 hbytes hbase
  unfold Oper.wp execOp
  simp only [ho, resolve, invoke, builtin, Sem.run_bind, Sem.run_pure, Result.andThen_ok, List.map_toArray, List.map_cons, List.map_nil, hs, hx, hr]
  exact h v' w' h2 h3 h4

theorem wpList_append_row {P : Program} {w : World} {ops : Array Oper} {rest : List Oper} {o : Oper} {a : Act} {Q : Exit → Act → World → Prop} {t e : TypeId} {size bytes : Nat} (El : Elem P t e size bytes) (hgd : o.guard = none) (s x : Operand)
    (ho : o.op = .call { callee := .builtin .append, args := #[s, x], argTypes := #[t, t] })
    (base : Nat) (v : Value) (n : Nat) (xs : List Value) (hs : a.eval s = v) (hown : w.ownsRow base e size v n xs)
    (A : Option Addr) (m c B : Nat) (news : List Value) (hx : a.eval x = .slice A m c) (hl : news.length = m * size) (hnews : Row w B A news) (h1 : ∀ u ∈ news, u.oneCell' = true)
    (h63 : n + m ≤ maxLen) (hbytes : (n + m) * bytes ≤ 140737488355328) (hbase : base ≤ w.heap.size)
    (h : ∀ v' w', w'.ownsRow base e size v' (n + m) (xs ++ news) → w.grownBy w' v.ownBlock → (v'.ownBlock = v.ownBlock ∨ v'.ownBlock = some w.heap.size) → wpList P ops Q rest (a.put o.dst v') w') :
    wpList P ops Q (o :: rest) a w :=
  wpList_plain hgd fun K hK => wp_append_row El s x ho base v n xs hs hown A m c B news hx hl hnews h1 h63 hbytes hbase fun v' w' a1 a2 a3 => hK _ _ (h v' w' a1 a2 a3)

theorem step_append_row {P : Program} {w : World} {ops : Array Oper} {o : Oper} {a : Act} {K : Act → World → Prop} {Q : Exit → Act → World → Prop} {E : Prop} {t e : TypeId} {size bytes : Nat} (El : Elem P t e size bytes) (hgd : o.guard = none) (s x : Operand)
    (ho : o.op = .call { callee := .builtin .append, args := #[s, x], argTypes := #[t, t] })
    (base : Nat) (v : Value) (n : Nat) (xs : List Value) (hs : a.eval s = v) (hown : w.ownsRow base e size v n xs)
    (A : Option Addr) (m c B : Nat) (news : List Value) (hx : a.eval x = .slice A m c) (hl : news.length = m * size) (hnews : Row w B A news) (h1 : ∀ u ∈ news, u.oneCell' = true)
    (h63 : n + m ≤ maxLen) (hbytes : (n + m) * bytes ≤ 140737488355328) (hbase : base ≤ w.heap.size)
    (h : ∀ v' w', w'.ownsRow base e size v' (n + m) (xs ++ news) → w.grownBy w' v.ownBlock → (v'.ownBlock = v.ownBlock ∨ v'.ownBlock = some w.heap.size) → K (a.put o.dst v') w') :
    if Region.wanted o (yielded ops a.tmps) = true then Oper.wp P o a w K Q else E := by
  have hw : Region.wanted o (yielded ops a.tmps) = true := by simp [Region.wanted, hgd]
  rw [if_pos hw]
  exact wp_append_row El s x ho base v n xs hs hown A m c B news hx hl hnews h1 h63 hbytes hbase h

/-- What is in the anchor world stands in a later one: for 'go_region_held3'. -/
theorem keepS {W w' : World} (h : Below W.heap.size W w') : (∀ b o, b < W.heap.size → w'.cell? ⟨b, o, none⟩ = W.cell? ⟨b, o, none⟩) ∧ Below W.heap.size W w' := ⟨(bcell h).1, h⟩
theorem lt_alloc (w : World) (o : Obj) : w.heap.size < (w.alloc o).heap.size := by simp
theorem below_grown_nil {W w w' : World} (h : Below W.heap.size W w) (hg : w.grownBy w' (Value.slice none 0 0).ownBlock) : Below W.heap.size W w' :=
  h.grown hg h.size (fun g e => by simp [Value.ownBlock] at e)
theorem alloc_below {W w : World} (h : Below W.heap.size W w) (o : Obj) : Below W.heap.size W (w.alloc o) := h.alloc h.size o
theorem le_alloc (w : World) (o : Obj) : w.heap.size ≤ (w.alloc o).heap.size := by simp
end Go.Proofs.YtldlmkfigjicgaaGreatDoor
/- Words for memory that every seat wants: rows of things of more than one cell, owned rows of whatever size. No program in sight. -/
namespace Go.Proofs.YtldlmkfigjicgaaGreatDoor
set_option linter.unusedVariables false
open Go.RowKit

theorem flat_len {α β : Type} {f : α → List β} {n : Nat} (hf : ∀ x, (f x).length = n) : ∀ (L : List α), (L.flatMap f).length = L.length * n
  | [] => by simp
  | x :: L => by rw [List.flatMap_cons, List.length_append, hf, flat_len hf L, List.length_cons, Nat.succ_mul, Nat.add_comm]
theorem flat_get {α β : Type} {f : α → List β} {n : Nat} (hf : ∀ x, (f x).length = n) : ∀ (L : List α) (k : Nat) (h : k < L.length) (j : Nat), j < n → (L.flatMap f)[k * n + j]? = (f L[k])[j]?
  | x :: L, 0, _, j, hj => by
    rw [List.flatMap_cons, Nat.zero_mul, Nat.zero_add, List.getElem?_append_left (by rw [hf]; exact hj)]; rfl
  | x :: L, k + 1, h, j, hj => by
    rw [List.flatMap_cons, List.getElem?_append_right (by rw [hf, Nat.succ_mul]; omega), hf, show (k + 1) * n + j - n = k * n + j by rw [Nat.succ_mul]; omega]
    exact flat_get hf L k (by simpa using h) j hj
/-- What lies at the k-th thing of a row. -/
theorem Row.flat {α : Type} {f : α → List Value} {n : Nat} (hf : ∀ x, (f x).length = n) {w : World} {B : Nat} {A : Option Addr} {L : List α} (h : Row w B A (L.flatMap f)) (hn : 0 < n) {k : Nat} (hk : k < L.length) :
    ∃ b off, A = some ⟨b, off, none⟩ ∧ b < B ∧ ∀ j u, (f L[k])[j]? = some u → w.cell? ⟨b, off + k * n + j, none⟩ = some u := by
  have hlen : 0 < (L.flatMap f).length := by rw [flat_len hf]; exact Nat.mul_pos (by omega) hn
  obtain ⟨b, off, h1, h2, h3⟩ := h.at_ hlen
  refine ⟨b, off, h1, h2, fun j u hu => ?_⟩
  have hj : j < n := by
    rcases Nat.lt_or_ge j n with h | h
    · exact h
    · rw [List.getElem?_eq_none (by rw [hf]; exact h)] at hu; cases hu
  have := h3 (k * n + j) u (by rw [flat_get hf L k hk j hj]; exact hu)
  rw [← Nat.add_assoc] at this
  exact this

/-- A row from its cells, one thing at a time. -/
theorem Row.of_each {α : Type} {f : α → List Value} {s : Nat} (hf : ∀ x, (f x).length = s) {w : World} {b off n : Nat} (hb : b < w.heap.size) {Q : α → Prop}
    (h : ∀ i, i < n → ∃ x : α, Q x ∧ ∀ j u, (f x)[j]? = some u → w.cell? ⟨b, off + (i * s + j), none⟩ = some u) :
    ∃ l : List α, l.length = n ∧ (∀ x ∈ l, Q x) ∧ Row w w.heap.size (some ⟨b, off, none⟩) (l.flatMap f) := by
  have h' : ∀ m, m ≤ n → ∃ l : List α, l.length = m ∧ (∀ x ∈ l, Q x) ∧ ∀ j u, (l.flatMap f)[j]? = some u → w.cell? ⟨b, off + j, none⟩ = some u := by
    intro m
    induction m with
    | zero => exact fun _ => ⟨[], rfl, by simp, fun j u hu => by simp at hu⟩
    | succ m ih =>
      intro hm
      obtain ⟨l, hl, hq, hc⟩ := ih (by omega)
      obtain ⟨x, hqx, hx⟩ := h m (by omega)
      refine ⟨l ++ [x], by simp [hl], fun y hy => ?_, fun j u hu => ?_⟩
      · rcases List.mem_append.1 hy with h1 | h1
        · exact hq y h1
        · simp only [List.mem_singleton] at h1; rw [h1]; exact hqx
      · have e : (l ++ [x]).flatMap f = l.flatMap f ++ f x := by simp
        rw [e] at hu
        have hlen := flat_len hf l
        by_cases hj : j < (l.flatMap f).length
        · rw [List.getElem?_append_left hj] at hu
          exact hc j u hu
        · rw [List.getElem?_append_right (by omega)] at hu
          have := hx _ u hu
          rw [hlen, hl, show m * s + (j - m * s) = j by rw [hlen, hl] at hj; omega] at this
          exact this
  obtain ⟨l, hl, hq, hc⟩ := h' n (Nat.le_refl _)
  exact ⟨l, hl, hq, .inr ⟨b, off, rfl, hb, hc⟩⟩

theorem add_none (b off j : Nat) : (⟨b, off, none⟩ : Addr).add j = ⟨b, off + j, none⟩ := by
  unfold Addr.add
  split
  · subst_vars; rfl
  · rfl
/-- A slice's block is none that was there ahead. -/
def NewAt (lo : Nat) (A : Option Addr) : Prop := ∀ b off q, A = some ⟨b, off, q⟩ → lo ≤ b
theorem newAt_none (lo : Nat) : NewAt lo none := fun _ _ _ h => by cases h
theorem newAt_some {lo b off : Nat} {q} (h : lo ≤ b) : NewAt lo (some ⟨b, off, q⟩) := fun _ _ _ e => by injection e with e; injection e with e1; omega
theorem newAt_le {lo lo' : Nat} {A : Option Addr} (h : NewAt lo A) (hl : lo' ≤ lo) : NewAt lo' A := fun b off q e => Nat.le_trans hl (h b off q e)
theorem grown_of_below {w w' : World} (h : Below w.heap.size w w') : w.grownBy w' none := ⟨h.os, h.tape, h.output, h.size, fun k hk _ => h.block k hk⟩
theorem Row.of_ownS {w : World} {B n c s : Nat} {T : TypeId} {A : Option Addr} {xs : List Value} (h : w.ownsRow B T s (.slice A n c) n xs) : Row w w.heap.size A xs := by
  rcases h.2 with ⟨h', h0⟩ | ⟨g, cap, cur, h', hb, hg, hnc, hcm, hcs, htake⟩
  · have : xs = [] := List.eq_nil_of_length_eq_zero (by rw [h.1, h0, Nat.zero_mul])
    exact .inl this
  · injection h' with h1 h2 h3
    subst h1
    have hlt : g < w.heap.size := by
      rcases Nat.lt_or_ge g w.heap.size with h | h
      · exact h
      · rw [Array.getElem?_eq_none h] at hg; cases hg
    refine .inr ⟨g, 0, rfl, hlt, fun j u hu => ?_⟩
    have := h.cells (g := g) rfl j u hu
    rwa [add_none] at this
theorem own_formS {w : World} {B n s : Nat} {T : TypeId} {v : Value} {xs : List Value} (h : w.ownsRow B T s v n xs) : ∃ A c, v = .slice A n c := by
  rcases h.2 with ⟨rfl, rfl⟩ | ⟨g, cap, cur, rfl, _⟩
  · exact ⟨none, 0, rfl⟩
  · exact ⟨_, _, rfl⟩
theorem own_laterS {w w' : World} {B n s : Nat} {T : TypeId} {v : Value} {xs : List Value} (h : w.ownsRow B T s v n xs) (hb : Below w.heap.size w w') : w'.ownsRow B T s v n xs :=
  h.kept (grown_of_below hb) (by cases hv : v.ownBlock <;> simp)
theorem own_baseS {w : World} {B B' n s : Nat} {T : TypeId} {v : Value} {xs : List Value} (h : w.ownsRow B T s v n xs) (hB : B' ≤ B) : w.ownsRow B' T s v n xs := by
  refine ⟨h.1, ?_⟩
  rcases h.2 with h2 | ⟨g, cap, cur, h1, h2, h3⟩
  · exact .inl h2
  · exact .inr ⟨g, cap, cur, h1, Nat.le_trans hB h2, h3⟩
theorem own_newS {w : World} {B B' n c s : Nat} {T : TypeId} {A : Option Addr} {xs : List Value} (h : w.ownsRow B T s (.slice A n c) n xs) (hB : B' ≤ B) : NewAt B' A := by
  intro b off q e
  subst e
  exact Nat.le_trans hB (h.lt b (by
    rcases h.2 with ⟨h', _⟩ | ⟨g, cap, cur, h', _⟩
    · cases h'
    · injection h' with h1; injection h1 with h1; injection h1 with h1 h2 h3; subst h1 h2 h3; rfl)).1
theorem own_inS {w : World} {B n c s : Nat} {T : TypeId} {A : Option Addr} {xs : List Value} (h : w.ownsRow B T s (.slice A n c) n xs) : ∀ b off q, A = some ⟨b, off, q⟩ → b < w.heap.size := by
  intro b off q e
  subst e
  exact (h.lt b (by
    rcases h.2 with ⟨h', _⟩ | ⟨g, cap, cur, h', _⟩
    · cases h'
    · injection h' with h1; injection h1 with h1; injection h1 with h1 h2 h3; subst h1 h2 h3; rfl)).2
/-- What a new block holds, as append reads it. -/
theorem news_at (w : World) (cs : List Value) (T : TypeId) (H : Nat) (hH : w.heap.size = H) : ∀ j u, cs[j]? = some u → (w.alloc (.cells cs.toArray T)).cell? ((⟨H, 0, none⟩ : Addr).add j) = some u := by
  intro j u hu
  subst hH
  rw [add_none, Nat.zero_add, cell_of_row _ _ j _ _ _ (heap_alloc_new w _)]
  simpa using hu
end Go.Proofs.YtldlmkfigjicgaaGreatDoor
/- slices.SortStableFunc: what its loops do to an array (plain: no program in sight). -/
namespace Go.Proofs.YtldlmkfigjicgaaGreatDoor
set_option linter.unusedVariables false
set_option linter.unusedSectionVars false
open Go.Sort
variable {α : Type} [Inhabited α] {lt : α → α → Bool}

theorem perm_refl (d : Array α) (a b : Nat) : PermIn a b d d := permIn_refl d a b
theorem perm_trans {d d' d'' : Array α} {a b : Nat} (h : PermIn a b d d') (h' : PermIn a b d' d'') : PermIn a b d d'' := permIn_trans d d' d'' a b h h'
theorem perm_mono {d d' : Array α} {a b a' b' : Nat} (ha : a' ≤ a) (hb : b ≤ b') (hs : b' ≤ d.size) (h : PermIn a b d d') : PermIn a' b' d d' := permIn_mono d d' a b a' b' ha hb hs h
theorem perm_swp {d : Array α} {a b i j : Nat} (hai : a ≤ i) (hib : i < b) (haj : a ≤ j) (hjb : j < b) (hb : b ≤ d.size) : PermIn a b d (swp d i j) := swp_permIn d a b i j hai hib haj hjb hb
theorem sorted_congr {a b : Nat} {d d' : Array α} (hs : SortedIn lt a b d) (h : ∀ i, a ≤ i → i < b → d'[i]! = d[i]!) : SortedIn lt a b d' := fun i j hi hij hj => by
  rw [h i hi (by omega), h j (by omega) hj]; exact hs i j hi hij hj
theorem swo_le (hS : SWO lt) {x y z : α} (h1 : lt y x = false) (h2 : lt z y = false) : lt z x = false := hS.ntrans z y x h2 h1
theorem swo_lt_le (hS : SWO lt) {x y : α} (h : lt x y = true) : lt y x = false := by
  cases hq : lt y x
  · rfl
  · have := hS.trans x y x h hq; rw [hS.irrefl] at this; cases this

/-! swapRange -/
def swapRange (a b : Nat) : Nat → Array α → Array α
  | 0, d => d
  | n + 1, d => swp (swapRange a b n d) (a + n) (b + n)
theorem swapRange_size (a b : Nat) (d : Array α) : ∀ n, (swapRange a b n d).size = d.size
  | 0 => rfl
  | n + 1 => by rw [swapRange, size_swp, swapRange_size a b d n]
theorem swapRange_perm {a b lo hi : Nat} {d : Array α} : ∀ n, lo ≤ a → a + n ≤ hi → lo ≤ b → b + n ≤ hi → hi ≤ d.size → PermIn lo hi d (swapRange a b n d)
  | 0, _, _, _, _, _ => perm_refl d lo hi
  | n + 1, h1, h2, h3, h4, h5 => perm_trans (swapRange_perm n h1 (by omega) h3 (by omega) h5) (perm_swp (by omega) (by omega) (by omega) (by omega) (by rw [swapRange_size]; exact h5))
theorem swapRange_at {a b : Nat} {d : Array α} : ∀ n, a + n ≤ b → b + n ≤ d.size → ∀ x, (swapRange a b n d)[x]! = if a ≤ x ∧ x < a + n then d[x - a + b]! else if b ≤ x ∧ x < b + n then d[x - b + a]! else d[x]!
  | 0, _, _, x => by rw [if_neg (by omega), if_neg (by omega)]; rfl
  | n + 1, h1, h2, x => by
    have ih := swapRange_at n (by omega) (by omega) (a := a) (b := b) (d := d)
    have hs := swapRange_size a b d n
    rw [swapRange]
    by_cases e1 : x = a + n
    · subst e1
      rw [swp_left _ _ _ (by omega) (by omega), ih]
      (repeat' split) <;> first | rfl | omega | (congr 1; omega)
    · by_cases e2 : x = b + n
      · subst e2
        rw [swp_right _ _ _ (by omega), ih]
        (repeat' split) <;> first | rfl | omega | (congr 1; omega)
      · rw [swp_other _ _ _ _ e1 e2, ih]
        (repeat' split) <;> first | rfl | omega | (congr 1; omega)

/-! rotate -/
/-- d' is d with what lies in [lo, m) behind what lies in [m, hi). -/
def Rot (d : Array α) (lo m hi : Nat) (d' : Array α) : Prop :=
  d'.size = d.size ∧ ∀ x, d'[x]! = if lo ≤ x ∧ x < hi then (if x < lo + (hi - m) then d[x + (m - lo)]! else d[x - (hi - m)]!) else d[x]!
theorem rot_none {d : Array α} {lo m hi : Nat} (h1 : lo ≤ m) (h2 : m ≤ hi) (h : lo = m ∨ m = hi) : Rot d lo m hi d := by
  refine ⟨rfl, fun x => ?_⟩
  (repeat' split) <;> first | rfl | omega | (congr 1; omega)
theorem rot_end {d : Array α} {m i : Nat} (h1 : i ≤ m) (h2 : m + i ≤ d.size) : Rot d (m - i) m (m + i) (swapRange (m - i) m i d) := by
  refine ⟨swapRange_size _ _ _ _, fun x => ?_⟩
  rw [swapRange_at i (by omega) h2]
  (repeat' split) <;> first | rfl | omega | (congr 1; omega)
theorem rot_left {d d' : Array α} {m i j : Nat} (h0 : j < i) (h1 : i ≤ m) (h2 : m + j ≤ d.size) (h : Rot (swapRange (m - i) m j d) (m - (i - j)) m (m + j) d') : Rot d (m - i) m (m + j) d' := by
  refine ⟨h.1.trans (swapRange_size _ _ _ _), fun x => ?_⟩
  have hA := swapRange_at (a := m - i) (b := m) (d := d) j (by omega) h2
  rw [h.2 x, hA, hA, hA]
  (repeat' split) <;> first | rfl | omega | (congr 1; omega)
theorem rot_right {d d' : Array α} {m i j : Nat} (h0 : i < j) (h1 : i ≤ m) (h2 : m + j ≤ d.size) (h : Rot (swapRange (m - i) (m + j - i) i d) (m - i) m (m + (j - i)) d') : Rot d (m - i) m (m + j) d' := by
  refine ⟨h.1.trans (swapRange_size _ _ _ _), fun x => ?_⟩
  have hA := swapRange_at (a := m - i) (b := m + j - i) (d := d) i (by omega) (by omega)
  rw [h.2 x, hA, hA, hA]
  (repeat' split) <;> first | rfl | omega | (congr 1; omega)

/-! one element moved on, or back -/
def upTo (a : Nat) : Nat → Array α → Array α
  | 0, d => d
  | t + 1, d => swp (upTo a t d) (a + t) (a + t + 1)
theorem upTo_size (a : Nat) (d : Array α) : ∀ n, (upTo a n d).size = d.size
  | 0 => rfl
  | n + 1 => by rw [upTo, size_swp, upTo_size a d n]
theorem upTo_perm {a lo hi : Nat} {d : Array α} : ∀ n, lo ≤ a → a + n < hi → hi ≤ d.size → PermIn lo hi d (upTo a n d)
  | 0, _, _, _ => perm_refl d lo hi
  | n + 1, h1, h2, h3 => perm_trans (upTo_perm n h1 (by omega) h3) (perm_swp (by omega) (by omega) (by omega) (by omega) (by rw [upTo_size]; exact h3))
theorem upTo_at {a : Nat} {d : Array α} : ∀ n, a + n < d.size → ∀ x, (upTo a n d)[x]! = if a ≤ x ∧ x < a + n then d[x + 1]! else if x = a + n then d[a]! else d[x]!
  | 0, _, x => by
    rw [if_neg (by omega)]
    by_cases e : x = a
    · subst e; simp [upTo]
    · rw [if_neg (by omega)]; rfl
  | n + 1, h, x => by
    have ih := upTo_at n (by omega) (a := a) (d := d)
    have hs := upTo_size a d n
    rw [upTo]
    by_cases e1 : x = a + n
    · subst e1
      rw [swp_left _ _ _ (by omega) (by omega), ih]
      (repeat' split) <;> first | rfl | omega | (congr 1; omega)
    · by_cases e2 : x = a + n + 1
      · subst e2
        rw [swp_right _ _ _ (by omega), ih]
        (repeat' split) <;> first | rfl | omega | (congr 1; omega)
      · rw [swp_other _ _ _ _ e1 e2, ih]
        (repeat' split) <;> first | rfl | omega | (congr 1; omega)
def downTo (m : Nat) : Nat → Array α → Array α
  | 0, d => d
  | t + 1, d => swp (downTo m t d) (m - t) (m - t - 1)
theorem downTo_size (a : Nat) (d : Array α) : ∀ n, (downTo a n d).size = d.size
  | 0 => rfl
  | n + 1 => by rw [downTo, size_swp, downTo_size a d n]
theorem downTo_perm {m lo hi : Nat} {d : Array α} : ∀ n, lo + n ≤ m → m < hi → hi ≤ d.size → PermIn lo hi d (downTo m n d)
  | 0, _, _, _ => perm_refl d lo hi
  | n + 1, h1, h2, h3 => perm_trans (downTo_perm n (by omega) h2 h3) (perm_swp (by omega) (by omega) (by omega) (by omega) (by rw [downTo_size]; exact h3))
theorem downTo_at {m : Nat} {d : Array α} : ∀ n, n ≤ m → m < d.size → ∀ x, (downTo m n d)[x]! = if m - n < x ∧ x ≤ m then d[x - 1]! else if x = m - n then d[m]! else d[x]!
  | 0, _, _, x => by
    rw [if_neg (by omega)]
    by_cases e : x = m
    · subst e; simp [downTo]
    · rw [if_neg (by omega)]; rfl
  | n + 1, h, hm, x => by
    have ih := downTo_at n (by omega) hm (m := m) (d := d)
    have hs := downTo_size m d n
    rw [downTo]
    by_cases e1 : x = m - n
    · subst e1
      rw [swp_left _ _ _ (by omega) (by omega), ih]
      (repeat' split) <;> first | rfl | omega | (congr 1; omega)
    · by_cases e2 : x = m - n - 1
      · subst e2
        rw [swp_right _ _ _ (by omega), ih]
        (repeat' split) <;> first | rfl | omega | (congr 1; omega)
      · rw [swp_other _ _ _ _ e1 e2, ih]
        (repeat' split) <;> first | rfl | omega | (congr 1; omega)

/-! merging -/
theorem merge_up (hS : SWO lt) {d : Array α} {a b i : Nat} (h1 : a + 1 ≤ i) (h2 : i ≤ b) (hb : b ≤ d.size) (hs : SortedIn lt (a + 1) b d) (hl : i = a + 1 ∨ lt d[i - 1]! d[a]! = true) (hr : i = b ∨ lt d[i]! d[a]! = false) :
    PermIn a b d (upTo a (i - 1 - a) d) ∧ SortedIn lt a b (upTo a (i - 1 - a) d) := by
  refine ⟨upTo_perm _ (Nat.le_refl _) (by omega) hb, fun x y hx hxy hy => ?_⟩
  have hA := upTo_at (a := a) (d := d) (i - 1 - a) (by omega)
  rw [hA x, hA y]
  have lo : ∀ z, a + 1 ≤ z → z < i → lt d[a]! d[z]! = false := fun z hz hz2 => by
    have h3 : lt d[i - 1]! d[a]! = true := by rcases hl with h | h; omega; exact h
    by_cases e : z = i - 1
    · subst e; exact swo_lt_le hS h3
    · exact swo_le hS (hs z (i - 1) hz (by omega) (by omega)) (swo_lt_le hS h3)
  have hi : ∀ z, i ≤ z → z < b → lt d[z]! d[a]! = false := fun z hz hz2 => by
    have h3 : lt d[i]! d[a]! = false := by rcases hr with h | h; omega; exact h
    by_cases e : z = i
    · subst e; exact h3
    · exact swo_le hS h3 (hs i z (by omega) (by omega) (by omega))
  by_cases c1 : a ≤ x ∧ x < a + (i - 1 - a)
  · rw [if_pos c1]
    by_cases c2 : a ≤ y ∧ y < a + (i - 1 - a)
    · rw [if_pos c2]; exact hs _ _ (by omega) (by omega) (by omega)
    · rw [if_neg c2]
      by_cases c3 : y = a + (i - 1 - a)
      · rw [if_pos c3]; exact lo _ (by omega) (by omega)
      · rw [if_neg c3]; exact hs _ _ (by omega) (by omega) (by omega)
  · rw [if_neg c1, if_neg (by omega), if_neg (by omega)]
    by_cases c3 : x = a + (i - 1 - a)
    · rw [if_pos c3]; exact hi _ (by omega) (by omega)
    · rw [if_neg c3]; exact hs _ _ (by omega) (by omega) (by omega)
theorem merge_down (hS : SWO lt) {d : Array α} {a m i : Nat} (h1 : a ≤ i) (h2 : i ≤ m) (hb : m + 1 ≤ d.size) (hs : SortedIn lt a m d) (hl : i = a ∨ lt d[m]! d[i - 1]! = false) (hr : i = m ∨ lt d[m]! d[i]! = true) :
    PermIn a (m + 1) d (downTo m (m - i) d) ∧ SortedIn lt a (m + 1) (downTo m (m - i) d) := by
  refine ⟨downTo_perm _ (by omega) (by omega) hb, fun x y hx hxy hy => ?_⟩
  have hA := downTo_at (m := m) (d := d) (m - i) (by omega) (by omega)
  rw [hA x, hA y]
  have lo : ∀ z, a ≤ z → z < i → lt d[m]! d[z]! = false := fun z hz hz2 => by
    have h3 : lt d[m]! d[i - 1]! = false := by rcases hl with h | h; omega; exact h
    by_cases e : z = i - 1
    · subst e; exact h3
    · exact swo_le hS (hs z (i - 1) hz (by omega) (by omega)) h3
  have hi : ∀ z, i ≤ z → z < m → lt d[z]! d[m]! = false := fun z hz hz2 => by
    have h3 : lt d[m]! d[i]! = true := by rcases hr with h | h; omega; exact h
    by_cases e : z = i
    · subst e; exact swo_lt_le hS h3
    · exact swo_le hS (swo_lt_le hS h3) (hs i z (by omega) (by omega) (by omega))
  by_cases c1 : m - (m - i) < x ∧ x ≤ m
  · rw [if_pos c1, if_pos (by omega)]; exact hs _ _ (by omega) (by omega) (by omega)
  · rw [if_neg c1]
    by_cases c3 : x = m - (m - i)
    · rw [if_pos c3]
      by_cases c2 : m - (m - i) < y ∧ y ≤ m
      · rw [if_pos c2]; exact hi _ (by omega) (by omega)
      · omega
    · rw [if_neg c3]
      by_cases c2 : m - (m - i) < y ∧ y ≤ m
      · rw [if_pos c2]; exact hs _ _ (by omega) (by omega) (by omega)
      · rw [if_neg c2]
        by_cases c4 : y = m - (m - i)
        · rw [if_pos c4]; exact lo _ (by omega) (by omega)
        · rw [if_neg c4]; exact hs _ _ (by omega) (by omega) (by omega)
theorem sorted_two (hS : SWO lt) {d : Array α} {a m b : Nat} (hl : SortedIn lt a m d) (hr : SortedIn lt m b d) (hc : ∀ x y, a ≤ x → x < m → m ≤ y → y < b → lt d[y]! d[x]! = false) : SortedIn lt a b d := fun x y hx hxy hy => by
  by_cases h1 : y < m
  · exact hl x y hx hxy h1
  · by_cases h2 : m ≤ x
    · exact hr x y h2 hxy hy
    · exact hc x y hx (by omega) (by omega) hy
/-- Behind the rotation each half is two sorted parts, and nothing of the first half is more than what is in the second. -/
theorem merge_rot (hS : SWO lt) {d d1 : Array α} {a s m e b mid : Nat} (h1 : a ≤ s) (h2 : s ≤ m) (h3 : m ≤ e) (h4 : e ≤ b) (hm : s + e = mid + m) (hb : b ≤ d.size)
    (hl : SortedIn lt a m d) (hr : SortedIn lt m b d) (hR : Rot d s m e d1)
    (c1 : s = a ∨ e = b ∨ lt d[e]! d[s - 1]! = false) (c2 : s = m ∨ e = m ∨ lt d[e - 1]! d[s]! = true) :
    SortedIn lt a s d1 ∧ SortedIn lt s mid d1 ∧ SortedIn lt mid e d1 ∧ SortedIn lt e b d1 ∧ ∀ x y, a ≤ x → x < mid → mid ≤ y → y < b → lt d1[y]! d1[x]! = false := by
  have g := hR.2
  have a1 : ∀ x, x < s → d1[x]! = d[x]! := fun x hx => by rw [g, if_neg (by omega)]
  have a2 : ∀ x, s ≤ x → x < mid → d1[x]! = d[x + (m - s)]! := fun x hx hx2 => by rw [g, if_pos (by omega), if_pos (by omega)]
  have a3 : ∀ x, mid ≤ x → x < e → d1[x]! = d[x - (e - m)]! := fun x hx hx2 => by rw [g, if_pos (by omega), if_neg (by omega)]
  have a4 : ∀ x, e ≤ x → d1[x]! = d[x]! := fun x hx => by rw [g, if_neg (by omega)]
  have le_l : ∀ x y, a ≤ x → x ≤ y → y < m → lt d[y]! d[x]! = false := fun x y hx hxy hy => by
    by_cases e : x = y
    · subst e; exact hS.irrefl _
    · exact hl x y hx (by omega) hy
  have le_r : ∀ x y, m ≤ x → x ≤ y → y < b → lt d[y]! d[x]! = false := fun x y hx hxy hy => by
    by_cases e : x = y
    · subst e; exact hS.irrefl _
    · exact hr x y hx (by omega) hy
  refine ⟨fun x y hx hxy hy => ?_, fun x y hx hxy hy => ?_, fun x y hx hxy hy => ?_, fun x y hx hxy hy => ?_, fun x y hx hxm hmy hy => ?_⟩
  · rw [a1 x (by omega), a1 y hy]; exact hl _ _ hx hxy (by omega)
  · rw [a2 x hx (by omega), a2 y (by omega) hy]; exact hr _ _ (by omega) (by omega) (by omega)
  · rw [a3 x hx (by omega), a3 y (by omega) hy]; exact hl _ _ (by omega) (by omega) (by omega)
  · rw [a4 x hx, a4 y (by omega)]; exact hr _ _ (by omega) (by omega) hy
  · by_cases cx : x < s
    · rw [a1 x cx]
      by_cases cy : y < e
      · rw [a3 y hmy cy]; exact le_l _ _ hx (by omega) (by omega)
      · rw [a4 y (by omega)]
        have h5 : lt d[e]! d[s - 1]! = false := by rcases c1 with h | h | h; omega; omega; exact h
        exact swo_le hS (swo_le hS (le_l x (s - 1) hx (by omega) (by omega)) h5) (le_r e y (by omega) (by omega) hy)
    · rw [a2 x (by omega) hxm]
      by_cases cy : y < e
      · rw [a3 y hmy cy]
        have h5 : lt d[e - 1]! d[s]! = true := by rcases c2 with h | h | h; omega; omega; exact h
        exact swo_le hS (swo_le hS (le_r (x + (m - s)) (e - 1) (by omega) (by omega) (by omega)) (swo_lt_le hS h5)) (le_l s (y - (e - m)) (by omega) (by omega) (by omega))
      · rw [a4 y (by omega)]; exact le_r _ _ (by omega) (by omega) hy
/-- Both halves merged. -/
theorem merge_end (hS : SWO lt) {d1 d2 d3 : Array α} {a b mid : Nat} (h1 : a ≤ mid) (h2 : mid ≤ b) (hb : b ≤ d1.size) (hc : ∀ x y, a ≤ x → x < mid → mid ≤ y → y < b → lt d1[y]! d1[x]! = false)
    (hp : PermIn a mid d1 d2) (hs : SortedIn lt a mid d2) (hq : PermIn mid b d2 d3) (ht : SortedIn lt mid b d3) : PermIn a b d1 d3 ∧ SortedIn lt a b d3 := by
  have hz : d2.size = d1.size := hp.1
  refine ⟨perm_trans (perm_mono (Nat.le_refl _) h2 hb hp) (perm_mono h1 (Nat.le_refl _) (by omega) hq), sorted_two hS (sorted_congr hs fun i _ hi => hq.2.1 i (.inl hi)) ht fun x y hx hxm hmy hy => ?_⟩
  rw [hq.2.1 x (.inl hxm)]
  have k1 : ∀ j, mid ≤ j → j < b → ∀ i, a ≤ i → i < mid → lt d1[j]! d2[i]! = false := fun j hj hj2 i hi him =>
    permIn_all d1 d2 a mid (fun v => lt d1[j]! v = false) (by omega) hp (fun i hi him => hc i j hi him hj hj2) i hi him
  exact permIn_all d2 d3 mid b (fun v => lt v d2[x]! = false) (by omega) hq (fun j hj hj2 => by rw [hp.2.1 j (.inr hj)]; exact k1 j hj hj2 x hx hxm) y hmy hy

/-! blocks -/
/-- Each block of k elements of [0, a) is sorted (a: a multiple of k). -/
def Blocks (lt : α → α → Bool) (k a : Nat) (d : Array α) : Prop := ∀ q, (q + 1) * k ≤ a → SortedIn lt (q * k) ((q + 1) * k) d
/-- Each block of k elements of [0, n) is sorted, the last one too. -/
def BlocksTo (lt : α → α → Bool) (k n : Nat) (d : Array α) : Prop := ∀ q, SortedIn lt (q * k) (min ((q + 1) * k) n) d
theorem sorted_part {d : Array α} {a b a' b' : Nat} (h : SortedIn lt a b d) (ha : a ≤ a') (hb : b' ≤ b) : SortedIn lt a' b' d := fun i j hi hij hj => h i j (by omega) hij (by omega)
theorem sorted_perm {d d' : Array α} {a b lo hi : Nat} (h : SortedIn lt a b d) (hp : PermIn lo hi d d') (ho : b ≤ lo ∨ hi ≤ a) : SortedIn lt a b d' := sorted_congr h fun i h1 h2 => hp.2.1 i (by omega)
theorem blocks_more {d d' : Array α} {k t : Nat} (h : Blocks lt k (t * k) d) (hp : PermIn (t * k) (t * k + k) d d') (hs : SortedIn lt (t * k) (t * k + k) d') : Blocks lt k (t * k + k) d' := fun q hq => by
  by_cases e : q = t
  · subst e; rw [Nat.succ_mul]; exact hs
  · have hqt : (q + 1) * k ≤ t * k := by
      by_cases hk : k = 0
      · subst hk; simp
      · have : (q + 1) * k ≤ (t + 1) * k := by rw [Nat.succ_mul t k]; exact hq
        have := Nat.le_of_mul_le_mul_right this (by omega)
        exact Nat.mul_le_mul_right k (by omega)
    exact sorted_perm (h q hqt) hp (.inl hqt)
theorem blocks_end {d d' : Array α} {k t n : Nat} (hk : 0 < k) (h : Blocks lt k (t * k) d) (h1 : t * k ≤ n) (h2 : n < t * k + k) (hp : PermIn (t * k) n d d') (hs : SortedIn lt (t * k) n d') : BlocksTo lt k n d' := fun q => by
  by_cases e : q < t
  · have hqt : (q + 1) * k ≤ t * k := Nat.mul_le_mul_right k (by omega)
    exact sorted_part (sorted_perm (h q hqt) hp (.inl hqt)) (Nat.le_refl _) (Nat.min_le_left _ _)
  · have : t * k ≤ q * k := Nat.mul_le_mul_right k (by omega)
    exact sorted_part hs this (Nat.min_le_right _ _)
/-- What a pass of merges keeps: blocks of 2k in [0, a), blocks of k behind. -/
def Pass (lt : α → α → Bool) (k t n : Nat) (d : Array α) : Prop := Blocks lt (2 * k) (t * (2 * k)) d ∧ ∀ q, t * (2 * k) ≤ q * k → SortedIn lt (q * k) (min ((q + 1) * k) n) d
theorem pass_start {d : Array α} {k n : Nat} (h : BlocksTo lt k n d) (hk : 0 < k) : Pass lt k 0 n d := ⟨fun q hq => by
  exfalso; rw [Nat.succ_mul] at hq; omega, fun q _ => h q⟩
theorem pass_parts {d : Array α} {k t n : Nat} (h : Pass lt k t n d) (hn : t * (2 * k) + 2 * k ≤ n) : SortedIn lt (t * (2 * k)) (t * (2 * k) + k) d ∧ SortedIn lt (t * (2 * k) + k) (t * (2 * k) + 2 * k) d := by
  have e1 : 2 * t * k = t * (2 * k) := by rw [Nat.mul_comm 2 t, Nat.mul_assoc]
  have e2 : (2 * t + 1) * k = t * (2 * k) + k := by rw [Nat.succ_mul, e1]
  have e3 : (2 * t + 1 + 1) * k = t * (2 * k) + 2 * k := by rw [Nat.succ_mul, e2]; omega
  have p := h.2 (2 * t) (by omega)
  have q := h.2 (2 * t + 1) (by omega)
  rw [e1, e2, Nat.min_eq_left (by omega)] at p
  rw [e2, e3, Nat.min_eq_left (by omega)] at q
  exact ⟨p, q⟩
theorem pass_last {d : Array α} {k t n : Nat} (h : Pass lt k t n d) (hn : t * (2 * k) + k < n) (hn2 : n < t * (2 * k) + 2 * k) : SortedIn lt (t * (2 * k)) (t * (2 * k) + k) d ∧ SortedIn lt (t * (2 * k) + k) n d := by
  have e1 : 2 * t * k = t * (2 * k) := by rw [Nat.mul_comm 2 t, Nat.mul_assoc]
  have e2 : (2 * t + 1) * k = t * (2 * k) + k := by rw [Nat.succ_mul, e1]
  have e3 : (2 * t + 1 + 1) * k = t * (2 * k) + 2 * k := by rw [Nat.succ_mul, e2]; omega
  have p := h.2 (2 * t) (by omega)
  have q := h.2 (2 * t + 1) (by omega)
  rw [e1, e2, Nat.min_eq_left (by omega)] at p
  rw [e2, e3, Nat.min_eq_right (by omega)] at q
  exact ⟨p, q⟩
theorem pass_short {d : Array α} {k t n : Nat} (h : Pass lt k t n d) (hn : n ≤ t * (2 * k) + k) : SortedIn lt (t * (2 * k)) n d := by
  have e1 : 2 * t * k = t * (2 * k) := by rw [Nat.mul_comm 2 t, Nat.mul_assoc]
  have e2 : (2 * t + 1) * k = t * (2 * k) + k := by rw [Nat.succ_mul, e1]
  have p := h.2 (2 * t) (by omega)
  rw [e1, e2, Nat.min_eq_right (by omega)] at p
  exact p
theorem pass_more {d d' : Array α} {k t n : Nat} (h : Pass lt k t n d) (hp : PermIn (t * (2 * k)) (t * (2 * k) + 2 * k) d d') (hs : SortedIn lt (t * (2 * k)) (t * (2 * k) + 2 * k) d') : Pass lt k (t + 1) n d' := by
  have e : (t + 1) * (2 * k) = t * (2 * k) + 2 * k := Nat.succ_mul t (2 * k)
  refine ⟨by rw [e]; exact blocks_more h.1 hp hs, fun q hq => ?_⟩
  rw [e] at hq
  exact sorted_perm (h.2 q (by omega)) hp (.inr hq)
theorem pass_end {d d' : Array α} {k t n : Nat} (hk : 0 < k) (h : Pass lt k t n d) (h1 : t * (2 * k) ≤ n) (h2 : n < t * (2 * k) + 2 * k) (hp : PermIn (t * (2 * k)) n d d') (hs : SortedIn lt (t * (2 * k)) n d') : BlocksTo lt (2 * k) n d' :=
  blocks_end (by omega) h.1 h1 h2 hp hs
theorem blocks_all {d : Array α} {k n : Nat} (h : BlocksTo lt k n d) (hn : n ≤ k) : SortedIn lt 0 n d := by
  have := h 0
  rw [Nat.zero_mul, Nat.zero_add, Nat.one_mul, Nat.min_eq_right hn] at this
  exact this
end Go.Proofs.YtldlmkfigjicgaaGreatDoor
