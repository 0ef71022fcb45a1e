/- Itm, Frame, OpenI, SetP, RkP, ZsR, ZsO, ZsW, ZsE -/
import Derived.Test.YtldlmkfigjicgaaDoorRows
import Derived.Test.YtldlmkfigjicgaaDoorCk01
import Derived.Shelf.SlSortCmp.KitK
import Derived.Below
import Derived.ChangeSame
import Derived.Carry
import Derived.WalkKit
import Derived.ProofKit
import Derived.OpenShut
import Derived.Deep.Slices
import Derived.JoinedCond
import Derived.Deep.CutBlock
import Derived.Deep.CutRange
/- Items of sets in memory: a row and how many times; lists of ints. -/
namespace Go.Proofs.YtldlmkfigjicgaaDoor
set_option linter.unusedVariables false
open Go.RowKit

/-- An item, and where its row lies. -/
structure IR where
  row : List Int
  A : Option Addr
  k : Nat
  n : Int
instance : Inhabited IR := ⟨⟨[], none, 0, 0⟩⟩
abbrev IR.it (x : IR) : It := (x.row, x.n)
abbrev IR.cells (x : IR) : List Value := [.slice x.A x.row.length x.k, .int .i64 x.n]
abbrev its (L : List IR) : List It := L.map IR.it
abbrev rcells (L : List IR) : List Value := L.flatMap IR.cells
theorem IR.len (x : IR) : x.cells.length = 2 := rfl
theorem rcells_len (L : List IR) : (rcells L).length = L.length * 2 := flat_len IR.len L
theorem rcells_one (L : List IR) : ∀ u ∈ rcells L, u.oneCell' = true := by
  intro u hu
  obtain ⟨x, -, hx⟩ := List.mem_flatMap.1 hu
  simp only [IR.cells, List.mem_cons, List.not_mem_nil, or_false] at hx
  rcases hx with rfl | rfl <;> rfl
abbrev icells' (l : List Int) : List Value := l.map (Value.int .i64)
/-- The rows of the items lie below B. -/
def RowsAt (w : World) (B : Nat) (L : List IR) : Prop := ∀ x ∈ L, Row w B x.A (icells' x.row) ∧ x.row.length ≤ 9223372036854775807
/-- A list of items lies at A, their rows too. -/
def RowI (w : World) (B : Nat) (A : Option Addr) (L : List IR) : Prop := Row w B A (rcells L) ∧ RowsAt w B L
theorem RowsAt.below {w w' : World} {B C : Nat} {L : List IR} (h : RowsAt w B L) (hb : Below C w w') (hB : B ≤ C) : RowsAt w' B L := fun x hx => ⟨(h x hx).1.below hb hB, (h x hx).2⟩
theorem RowsAt.more {w : World} {B C : Nat} {L : List IR} (h : RowsAt w B L) (hB : B ≤ C) : RowsAt w C L := fun x hx => ⟨(h x hx).1.more hB, (h x hx).2⟩
theorem RowsAt.step {w w' : World} {L : List IR} (h : RowsAt w w.heap.size L) (hb : Below w.heap.size w w') : RowsAt w' w'.heap.size L := (h.below hb (Nat.le_refl _)).more hb.size
theorem RowsAt.app {w : World} {B : Nat} {L M : List IR} (h : RowsAt w B L) (h' : RowsAt w B M) : RowsAt w B (L ++ M) := fun x hx => by
  rcases List.mem_append.1 hx with e | e
  · exact h x e
  · exact h' x e
theorem RowsAt.sub {w : World} {B : Nat} {L M : List IR} (h : RowsAt w B L) (hs : ∀ x ∈ M, x ∈ L) : RowsAt w B M := fun x hx => h x (hs x hx)
theorem RowI.step {w w' : World} {A : Option Addr} {L : List IR} (h : RowI w w.heap.size A L) (hb : Below w.heap.size w w') : RowI w' w'.heap.size A L := ⟨h.1.step hb, h.2.step hb⟩
theorem RowI.nil {w : World} {B : Nat} {A : Option Addr} : RowI w B A [] := ⟨Row.nil, fun x hx => by simp at hx⟩
theorem Row.it {w : World} {B : Nat} {A : Option Addr} {L : List IR} (h : Row w B A (rcells L)) {k : Nat} (hk : k < L.length) :
    ∃ b off, A = some ⟨b, off, none⟩ ∧ b < B ∧ w.cell? ⟨b, off + k * 2, none⟩ = some (.slice L[k].A L[k].row.length L[k].k) ∧ w.cell? ⟨b, off + k * 2 + 1, none⟩ = some (.int .i64 L[k].n) := by
  obtain ⟨b, off, h1, h2, h3⟩ := Row.flat IR.len h (by omega) hk
  exact ⟨b, off, h1, h2, h3 0 _ rfl, h3 1 _ rfl⟩
theorem Row.int' {w : World} {B : Nat} {A : Option Addr} {l : List Int} (h : Row w B A (icells' l)) {k : Nat} (hk : k < l.length) :
    ∃ b off, A = some ⟨b, off, none⟩ ∧ b < B ∧ w.cell? ⟨b, off + k, none⟩ = some (.int .i64 l[k]) := by
  obtain ⟨b, off, h1, h2, h3⟩ := h.at_ (show 0 < (icells' l).length by simp; omega)
  exact ⟨b, off, h1, h2, h3 k _ (by simp [hk])⟩
end Go.Proofs.YtldlmkfigjicgaaDoor
/- The frame that the laws of this seat share: a call that answers true and turns nothing below the heap's size fits the row. No law in sight. -/
namespace Go.Proofs.YtldlmkfigjicgaaDoor
set_option linter.unusedVariables false
open Go.ChangeShapes Go.WideShapes Go.ChangeAt Go.RowKit

section
variable {H : Type} {enc : TypeId × Value → H} {P : Program}

theorem trodAll_stays (hl : laidOutB P = true) {W W' : World} (hb : Below W.heap.size W W') {sp : Nat → Bool} :
    ∀ {ts : List TypeId} {vs : List Value} {ds : List (DataW H)} {ps : List MemPlace}, (∀ t ∈ ts, P.readableRec t = true ∧ t < P.types.size) →
      DataW.TrodAll enc P W 0 (fun _ => true) true ts vs ds ps → (∀ x ∈ ps, x.block < W.heap.size) → (∀ x ∈ ps, sp x.block = true) → DataW.TrodAll enc P W' 0 sp true ts vs ds ps
  | [], _, _, _, _, h, _, _ => by
    obtain ⟨rfl, rfl, rfl⟩ := trodAll_nil h
    exact trodAll_mk0
  | t :: ts, _, _, _, ht, h, hlt, hs => by
    obtain ⟨v, vs, d, ds, p, q, rfl, rfl, rfl, h1, h2⟩ := trodAll_cons h
    have ht0 := ht t (by simp)
    exact ⟨p, q, WideElems.Trod_stays hl ht0.1 ht0.2 h1 (fun x hx => hb.same (hlt x (by simp [hx]))) (fun x hx => hs x (by simp [hx])),
      trodAll_stays hl hb (fun u hu => ht u (by simp [hu])) h2 (fun x hx => hlt x (by simp [hx])) (fun x hx => hs x (by simp [hx])), rfl⟩

theorem trodAll_len {W : World} {sp : Nat → Bool} {hd : Bool} {b : Nat} : ∀ {ts : List TypeId} {vs : List Value} {ds : List (DataW H)} {ps : List MemPlace}, DataW.TrodAll enc P W b sp hd ts vs ds ps → ds.length = ts.length
  | [], _, _, _, h => by
    obtain ⟨rfl, rfl, rfl⟩ := trodAll_nil h
    rfl
  | t :: ts, _, _, _, h => by
    obtain ⟨v, vs, d, ds, p, q, rfl, rfl, rfl, h1, h2⟩ := trodAll_cons h
    simp [trodAll_len h2]

theorem law_post {f : Func} {s : ChangeSpec} {W W' : World} {args : Array Value} {ds gs : List (DataW H)} {before : List MemPlace} {tb : TypeId} (hl : laidOutB P = true)
    (hts : ∀ t ∈ f.params.toList, P.readableRec t = true ∧ t < P.types.size) (hres : f.resultTypes = #[tb]) (hbool : P.underlying tb = some .bool) (hvars : s.vars = [])
    (hspec : ∀ es : List (DataW H), es.length = f.params.toList.length → s.fn H es = { results := [.lit (.bool true)], args := es })
    (hW : DataW.Whole enc P f.params.toList s.vars false W args.toList ds gs before) (hb : Below W.heap.size W W') : s.post enc P f false true false false W args (.bool true) W' := by
  have hlt := hW.lt
  have hold : ∀ x ∈ before, (fun b => decide (b < W.heap.size)) x.block = true := fun x hx => by simpa using hlt x hx
  have hW0 := hW
  obtain ⟨p, q, hA, hV, rfl, hz, hn⟩ := hW
  rw [hvars] at hV
  obtain ⟨rfl, rfl⟩ := trodVars_none hV
  have hsp := hspec ds (trodAll_len hA)
  have hargs : ∀ sp : Nat → Bool, (∀ x ∈ p, sp x.block = true) → DataW.TrodAll enc P W' 0 sp true f.params.toList args.toList ds p := fun sp h =>
    trodAll_stays hl hb hts hA (fun x hx => hlt x (by simp [hx])) h
  have hr : ∀ (b : Nat) (sp : Nat → Bool) (hd : Bool), DataW.TrodAll enc P W' b sp hd f.resultTypes.toList ((Value.bool true).resultList f.resultTypes.size) [.lit (.bool true)] [] := by
    intro b sp hd
    rw [hres]
    exact trodAll_cons_mk (shut_bool hbool _) trodAll_mk0
  refine ⟨ds, [], p ++ [], [], p, [], hW0, ?_, ?_, ?_, World.keptBut_mono (fun x hx => ⟨hx, .inr (by simpa using hx)⟩) (hb.frame (· ∈ p ++ [])), fun _ => ?_⟩
  · rw [List.append_nil, hsp]; exact hr _ _ _
  · rw [List.append_nil, hsp]; exact hargs _ (fun x hx => by simpa using hlt x (by simp [hx]))
  · rw [List.append_nil, hsp, hvars]; rfl
  · refine ⟨ok_one hres rfl (okWide_bool_mk hbool _), [.lit (.bool true)] ++ ds, [], p ++ [], ⟨p, [], ?_, by rw [hvars]; rfl, rfl, ?_, fun h => by cases h⟩, fun x hx _ => by simpa using hx⟩
    · have h := trodAll_append (hargs (fun _ => true) (fun _ _ => rfl)) (hr 0 (fun _ => true) true)
      simpa using h
    · intro b off hx
      rw [hb.frozen (hlt _ hx)]
      exact hz b off hx
end

/-- The row's step of a law: its walk, from the arguments as they are read, is all that is left. -/
theorem law_lifted {C : Checked} {os : Os} {f : FuncId} {fn : Func} {s : ChangeSpec} {conds : List PathCond} {H : Type} {enc : TypeId × Value → H} {tb : TypeId}
    (own : ownKnob C.prog.godebug = none) (started : os.Started) (noInit : C.prog.inits.idxOf? f = none) (hfn : C.prog.funcs[f]? = some fn)
    (witness : ∃ (w : World) (tape : Tape) (i : Input), w.os = os ∧ (w.forCall tape i).Shaped C.prog ∧ i.vars = [] ∧ Input.okWide C.prog (w.forCall tape i) .any w.heap.size f i ∧
      s.pre6 enc C.prog fn conds false (w.forCall tape i).memory i.args ∧ ({} : Assume).holds C.prog (lone (Frame.enter C.prog f i.args .normal) [] (w.forCall tape i)))
    (hl : laidOutB C.prog = true) (hts : ∀ t ∈ fn.params.toList, C.prog.readableRec t = true ∧ t < C.prog.types.size) (hres : fn.resultTypes = #[tb]) (hbool : C.prog.underlying tb = some .bool) (hvars : s.vars = [])
    (hspec : ∀ es : List (DataW H), es.length = fn.params.toList.length → s.fn H es = { results := [.lit (.bool true)], args := es })
    (walk : ∀ (W : World) (base : Nat) (args : Array Value) (ds : List (DataW H)) (ps : List MemPlace),
      (∀ (j : Nat) t v, fn.params[j]? = some t → args[j]? = some v → Value.okWide C.prog W .any base t v) → DataW.TrodAll enc C.prog W 0 (fun _ => true) true fn.params.toList args.toList ds ps →
      Calls C.prog f args W fun e W' => e = .returned (.bool true) ∧ Below W.heap.size W W') :
    ReturnsInHanded {} C os f .any (s.pre6 enc C.prog fn conds false) (s.post enc C.prog fn false true false false) := by
  refine returnsInHanded_of_change (C := C) own started noInit hfn witness ?_
  intro W base args ds gs before hval hW hcnd _
  have hW' := hW
  obtain ⟨p, q, hA, _⟩ := hW
  refine (walk W base args ds p hval hA).mono fun e W' ⟨he, hb⟩ => ?_
  exact ⟨_, he, law_post hl hts hres hbool hvars hspec hW' hb⟩
end Go.Proofs.YtldlmkfigjicgaaDoor
/- Arguments that are lists of items, or of ints, as a claim reads them. -/
namespace Go.Proofs.YtldlmkfigjicgaaDoor
set_option linter.unusedVariables false
open Go.ChangeShapes Go.WideShapes Go.ChangeAt Go.RowKit Go.Deep

theorem bulk_one {H : Type} (d : DataW H) : 1 ≤ Rows.uptoBulk d := by
  cases d with
  | lit l => cases l <;> simp [Rows.uptoBulk]
  | nil => simp [Rows.uptoBulk]
  | ptr d => simp [Rows.uptoBulk]
  | slice elems spare => simp [Rows.uptoBulk]
  | agg parts => simp [Rows.uptoBulk]
  | iface t d => simp [Rows.uptoBulk]
  | map entries => simp [Rows.uptoBulk]
  | held h => simp [Rows.uptoBulk]
theorem bulk_len {H : Type} (l : List (DataW H)) : l.length ≤ Rows.uptoBulkAll l := by
  induction l with
  | nil => simp [Rows.uptoBulkAll]
  | cons x r ih => have := bulk_one x; simp only [Rows.uptoBulkAll, List.length_cons]; omega
theorem bulk_slice {H : Type} (elems spare : List (DataW H)) : elems.length + 1 ≤ Rows.uptoBulk (.slice elems spare) := by
  have h1 := bulk_len elems
  simp only [Rows.uptoBulk]
  omega
theorem bulk_part {H : Type} {d : DataW H} {l : List (DataW H)} (h : d ∈ l) : Rows.uptoBulk d ≤ Rows.uptoBulkAll l := by
  induction l with
  | nil => cases h
  | cons x r ih =>
    simp only [Rows.uptoBulkAll]
    cases List.mem_cons.1 h with
    | inl e => subst e; omega
    | inr e => have := ih e; omega

/-- A slice of things of s cells each, as the claim reads it. -/
theorem open_each {α H : Type} {f : α → List Value} {s : Nat} (hf : ∀ x, (f x).length = s) (hs : 0 < s) {Q : α → Prop} {enc : TypeId × Value → H} {w : World} {base n : Nat} {spare : Nat → Bool} {held : Bool} {cs : List Value} {x : DataW H × List MemPlace} {t e : TypeId}
    (ht : Tryd.prog.underlying t = some (.slice e)) (hc : Tryd.prog.cellsOf e = s)
    (ho : ∀ n cs y, DataW.trod enc Tryd.prog w base spare held n e cs = some y → ∃ z : α, Q z ∧ cs = f z)
    (h : DataW.trod enc Tryd.prog w base spare held n t cs = some x) :
    ∃ (A : Option Addr) (k : Nat) (l : List α), cs = [.slice A l.length k] ∧ Row w w.heap.size A (l.flatMap f) ∧ (∀ z ∈ l, Q z) ∧ l.length ≤ 9223372036854775807 ∧ l.length ≤ Rows.uptoBulk x.1 := by
  rcases open_slice ht h with ⟨rfl, hx⟩ | ⟨a, len, cap, m, n', D, Pl, rfl, hb, hl, hm, hmm, hx, hi⟩
  · exact ⟨none, 0, [], rfl, Row.nil, by simp, by simp, by simp⟩
  · by_cases h0 : len = 0
    · subst h0
      exact ⟨some a, cap, [], rfl, Row.nil, by simp, by simp, by simp⟩
    · have hlm : len ≤ m := by rw [hmm]; split <;> omega
      have hd : ∀ i, i < len → ∃ z : α, Q z ∧ ∀ j u, (f z)[j]? = some u → w.cell? ((a.add (i * s)).add j) = some u := by
        intro i hil
        obtain ⟨cs', hc', ht'⟩ := hi i (by omega)
        obtain ⟨z, hq, rfl⟩ := ho _ _ _ ht'
        rw [hc] at hc'
        obtain ⟨_, _, hat⟩ := World.cells?_some hc'
        refine ⟨z, hq, fun j u hu => ?_⟩
        have hj : j < s := by
          rcases Nat.lt_or_ge j s with q | q
          · exact q
          · rw [List.getElem?_eq_none (by rw [hf]; exact q)] at hu; cases hu
        rw [hat j hj]; exact hu
      obtain ⟨b, off, spot⟩ := a
      obtain ⟨z0, _, hz0⟩ := hd 0 (by omega)
      have hu0 : (f z0)[0]? = some ((f z0)[0]'(by rw [hf]; exact hs)) := List.getElem?_eq_getElem _
      have hx0 := hz0 0 _ hu0
      have hspot : spot = none := by simpa [Addr.add] using World.cell?_spot hx0
      subst hspot
      have hblk : b < w.heap.size := World.block_lt_of_cell? _ _ (by simpa [Addr.add] using hx0)
      obtain ⟨l, hll, hql, hr⟩ := Row.of_each hf (w := w) (b := b) (off := off) (n := len) hblk (Q := Q) (fun i hil => by
        obtain ⟨z, hq, hz⟩ := hd i hil
        refine ⟨z, hq, fun j u hu => ?_⟩
        have := hz j u hu
        rw [add_none, add_none, Nat.add_assoc] at this
        exact this)
      subst hll
      refine ⟨some ⟨b, off, none⟩, cap, l, rfl, hr, hql, ?_, ?_⟩
      · simp only [maxLen] at hm
        omega
      · rw [hx]
        have := bulk_slice ((List.range l.length).map D) ((List.range (m - l.length)).map fun j => D (l.length + j))
        simp only [List.length_map, List.length_range] at this
        simp only
        omega


set_option maxRecDepth 100000 in
theorem open_ints_cells {H : Type} {enc : TypeId × Value → H} {w : World} {base n : Nat} {spare : Nat → Bool} {held : Bool} {cs : List Value} {x : DataW H × List MemPlace}
    (h : DataW.trod enc Tryd.prog w base spare held n 23 cs = some x) : ∃ (A : Option Addr) (k : Nat) (l : List Int), cs = [.slice A l.length k] ∧ Row w w.heap.size A (icells' l) ∧ l.length ≤ 9223372036854775807 ∧ l.length ≤ Rows.uptoBulk x.1 := by
  obtain ⟨A, k, l, e, hr, hq, hl, hb⟩ := open_each (f := fun z : Int => [.int .i64 z]) (s := 1) (Q := fun _ => True) (fun _ => rfl) (by decide) Tryd.underlying23 (by kernel_rfl) (fun n cs y hy => by
    obtain ⟨z, hz, -⟩ := DataW.trod_int Tryd.underlying3 hy
    exact ⟨z, trivial, hz⟩) h
  exact ⟨A, k, l, e, by rw [show icells' l = l.flatMap (fun z => [Value.int .i64 z]) from List.map_eq_flatMap]; exact hr, hl, hb⟩
set_option maxRecDepth 100000 in
theorem open_item {H : Type} {enc : TypeId × Value → H} {w : World} {base n : Nat} {spare : Nat → Bool} {held : Bool} {cs : List Value} {x : DataW H × List MemPlace}
    (h : DataW.trod enc Tryd.prog w base spare held n 51 cs = some x) : ∃ z : IR, (Row w w.heap.size z.A (icells' z.row) ∧ z.row.length ≤ 9223372036854775807) ∧ cs = z.cells := by
  obtain ⟨xs, n', _, hx, hlen, hxl, hf⟩ := DataW.trod_struct Tryd.underlying51 h
  have c2 : Tryd.prog.cellsOf 51 = 2 := by kernel_rfl
  have c1 : Tryd.prog.cellsOf 23 = 1 := by kernel_rfl
  have c1' : Tryd.prog.cellsOf 3 = 1 := by kernel_rfl
  rw [c2] at hlen
  match cs, hlen with
  | [u0, u1], _ =>
    match xs, hxl with
    | [y0, y1], _ =>
      have h0 := hf 0 _ rfl
      have h1 := hf 1 _ rfl
      simp only [List.getElem_toArray, List.getElem_cons_zero, List.getElem_cons_succ, List.getElem?_cons_zero, List.getElem?_cons_succ] at h0 h1
      simp only [c1, c1', List.drop_zero, List.take_succ_cons, List.take_zero, List.drop_succ_cons] at h0 h1
      obtain ⟨A, k, l, e0, r0, l0, -⟩ := open_ints_cells h0
      obtain ⟨z, e1, _⟩ := DataW.trod_int Tryd.underlying3 h1
      injection e0 with e0
      injection e1 with e1
      subst e0 e1
      exact ⟨⟨l, A, k, z⟩, ⟨r0, l0⟩, rfl⟩
set_option maxRecDepth 100000 in
theorem arg_items {H : Type} {enc : TypeId × Value → H} {w : World} {r : Reach} {b0 base : Nat} {spare : Nat → Bool} {held : Bool} {v : Value} {d : DataW H} {p : List MemPlace}
    (hv : Value.okWide Tryd.prog w r b0 22 v) (h : DataW.Trod enc Tryd.prog w base spare held 22 v d p) :
    ∃ (A : Option Addr) (k : Nat) (M : List IR), v = .slice A M.length k ∧ RowI w w.heap.size A M ∧ M.length ≤ 9223372036854775807 := by
  obtain ⟨a, n, c, rfl⟩ := okWide_slice Tryd.underlying22 hv
  obtain ⟨m, hm⟩ := h
  obtain ⟨A, k, M, e, hr, hq, hl, -⟩ := open_each (f := IR.cells) (Q := fun z : IR => Row w w.heap.size z.A (icells' z.row) ∧ z.row.length ≤ 9223372036854775807) IR.len (by decide) Tryd.underlying22 (by kernel_rfl) (fun n cs y hy => open_item hy) hm
  simp only [Value.cells, List.cons.injEq, and_true] at e
  exact ⟨A, k, M, e, ⟨hr, hq⟩, hl⟩
end Go.Proofs.YtldlmkfigjicgaaDoor
/- Sets with weights: what a right set is; what Norm, Add, Neg tell. No program in sight. -/
namespace Go.Proofs.YtldlmkfigjicgaaDoor
set_option linter.unusedVariables false

def farB (n : Int) : Bool := decide (n < -1048576) || decide (1048576 < n)
def outB (n : Int) : Bool := decide (n < -1073741824) || decide (1073741824 < n)
def rowB (r : List Int) : Bool := decide (r.length ≤ 8) && !r.any outB
def badB (x : It) : Bool := !rowB x.1 || farB x.2
/-- Is the i-th item of a list wrong? -/
def zbadAt (L : List It) : Nat → Bool
  | 0 => match L[0]? with | none => false | some x => badB x || decide (x.2 = 0)
  | k + 1 => match L[k]?, L[k + 1]? with | some y, some x => (badB x || decide (x.2 = 0)) || decide (0 ≤ cmpL y.1 x.1) | _, _ => false
def setI (L : List It) : Int := if 400 < L.length then 2 else if (List.range L.length).any (zbadAt L) = true then 5 else 0
theorem badAt_zero {L : List It} (h : 0 < L.length) : zbadAt L 0 = (badB L[0] || decide (L[0].2 = 0)) := by
  rw [zbadAt, List.getElem?_eq_getElem h]
theorem badAt_succ {L : List It} {k : Nat} (h : k + 1 < L.length) : zbadAt L (k + 1) = ((badB L[k + 1] || decide (L[k + 1].2 = 0)) || decide (0 ≤ cmpL L[k].1 L[k + 1].1)) := by
  rw [zbadAt, List.getElem?_eq_getElem h, List.getElem?_eq_getElem (show k < L.length by omega)]

theorem badB_false {x : It} (h : badB x = false) : x.1.length ≤ 8 ∧ -1048576 ≤ x.2 ∧ x.2 ≤ 1048576 := by
  unfold badB rowB farB at h
  simp only [Bool.or_eq_false_iff, Bool.not_eq_false', Bool.and_eq_true, decide_eq_true_eq, decide_eq_false_iff_not] at h
  omega
theorem rise_trans {L : List It} (h : ∀ k, (hk : k + 1 < L.length) → cmpL L[k].1 L[k + 1].1 < 0) : ∀ (d i : Nat) (hd : i + d + 1 < L.length), cmpL L[i].1 L[i + d + 1].1 < 0
  | 0, i, hd => h i hd
  | d + 1, i, hd => cmpL_lt_le (rise_trans h d i (by omega)) (Int.le_of_lt (h (i + d + 1) hd))
theorem strict_of : ∀ {L : List It}, (∀ x ∈ L, x.2 ≠ 0 ∧ wrp x.2 = x.2) → L.Pairwise (fun x y => cmpL x.1 y.1 < 0) → Strict L
  | [], _, _ => trivial
  | x :: L, h, hp => ⟨(h x (by simp)).1, (h x (by simp)).2, fun y hy => (List.pairwise_cons.1 hp).1 y hy, strict_of (fun y hy => h y (by simp [hy])) (List.pairwise_cons.1 hp).2⟩
theorem strict_pair : ∀ {L : List It}, Strict L → L.Pairwise (fun x y => cmpL x.1 y.1 < 0)
  | [], _ => List.Pairwise.nil
  | x :: L, h => List.pairwise_cons.2 ⟨fun y hy => h.2.2.1 y hy, strict_pair h.2.2.2⟩
theorem strict_ne : ∀ {L : List It}, Strict L → ∀ x ∈ L, x.2 ≠ 0
  | x :: L, h, y, hy => by
    rcases List.mem_cons.1 hy with e | e
    · rw [e]; exact h.1
    · exact strict_ne h.2.2.2 y e
/-- A right set. -/
theorem setI_zero {L : List It} : setI L = 0 ↔ L.length ≤ 400 ∧ (∀ x ∈ L, badB x = false) ∧ Strict L := by
  unfold setI
  constructor
  · intro h
    by_cases h4 : 400 < L.length
    · rw [if_pos h4] at h; omega
    · rw [if_neg h4] at h
      by_cases hb : (List.range L.length).any (zbadAt L) = true
      · rw [if_pos hb] at h; omega
      · have hno : ∀ i, i < L.length → zbadAt L i = false := fun i hi => by
          cases hq : zbadAt L i
          · rfl
          · exact absurd (List.any_eq_true.2 ⟨i, List.mem_range.2 hi, hq⟩) hb
        have hx : ∀ i, (hi : i < L.length) → badB L[i] = false ∧ L[i].2 ≠ 0 := fun i hi => by
          have := hno i hi
          cases i with
          | zero => rw [badAt_zero hi] at this; simpa using this
          | succ k => rw [badAt_succ hi] at this; simp at this; exact ⟨this.1.1, this.1.2⟩
        have hr : ∀ k, (hk : k + 1 < L.length) → cmpL L[k].1 L[k + 1].1 < 0 := fun k hk => by
          have := hno (k + 1) hk
          rw [badAt_succ hk] at this; simp at this; exact this.2
        have hb' : ∀ x ∈ L, badB x = false := fun x hxm => by
          obtain ⟨i, hi, rfl⟩ := List.getElem_of_mem hxm
          exact (hx i hi).1
        refine ⟨by omega, hb', strict_of (fun x hxm => ?_) (List.pairwise_iff_getElem.2 fun i j hi hj hij => ?_)⟩
        · obtain ⟨i, hi, rfl⟩ := List.getElem_of_mem hxm
          refine ⟨(hx i hi).2, wrp_id ?_⟩
          have := badB_false (hx i hi).1
          omega
        · have := rise_trans hr (j - i - 1) i (by omega)
          simpa [show i + (j - i - 1) + 1 = j by omega] using this
  · rintro ⟨h1, h2, h3⟩
    rw [if_neg (by omega), if_neg]
    intro hb
    obtain ⟨i, hi, e⟩ := List.any_eq_true.1 hb
    have hi' := List.mem_range.1 hi
    have hp := strict_pair h3
    cases i with
    | zero => rw [badAt_zero hi', h2 _ (List.getElem_mem hi')] at e; simp at e; exact strict_ne h3 _ (List.getElem_mem hi') e
    | succ k =>
      rw [badAt_succ hi', h2 _ (List.getElem_mem hi')] at e
      have hq := List.pairwise_iff_getElem.1 hp k (k + 1) (by omega) hi' (by omega)
      simp at e
      rcases e with e | e
      · exact strict_ne h3 _ (List.getElem_mem hi') e
      · omega
/-- What is wrong with a sum. -/
def doneE (S : List It) : Int := if S.any badB = true then 5 else if 400 < S.length then 2 else 0
def doneX (S : List It) : List It := if doneE S = 0 then S else []
theorem doneE_zero {S : List It} : doneE S = 0 ↔ S.length ≤ 400 ∧ ∀ x ∈ S, badB x = false := by
  unfold doneE
  constructor
  · intro h
    by_cases hb : S.any badB = true
    · rw [if_pos hb] at h; omega
    · rw [if_neg hb] at h
      by_cases h4 : 400 < S.length
      · rw [if_pos h4] at h; omega
      · refine ⟨by omega, fun x hx => ?_⟩
        cases hq : badB x
        · rfl
        · exact absurd (List.any_eq_true.2 ⟨x, hx, hq⟩) hb
  · rintro ⟨h1, h2⟩
    rw [if_neg, if_neg (by omega)]
    intro hb
    obtain ⟨x, hx, e⟩ := List.any_eq_true.1 hb
    rw [h2 x hx] at e; cases e
/-- A sum that is done is a right set. -/
theorem done_set {l : List It} (h : doneE (sumL l) = 0) : setI (sumL l) = 0 := by
  obtain ⟨h1, h2⟩ := doneE_zero.1 h
  exact setI_zero.2 ⟨h1, h2, (sumL_law l).1⟩
def normE (l : List It) : Int := if 400 < l.length then 2 else if l.any badB = true then 5 else doneE (sumL l)
def normX (l : List It) : List It := if normE l = 0 then sumL l else []
def addE (a b : List It) : Int := if setI a ≠ 0 then setI a else if setI b ≠ 0 then setI b else doneE (sumL (a ++ b))
def addX (a b : List It) : List It := if addE a b = 0 then sumL (a ++ b) else []
def negL (l : List It) : List It := l.map (fun x => (x.1, -x.2))
def negX (l : List It) : List It := if setI l = 0 then negL l else []
end Go.Proofs.YtldlmkfigjicgaaDoor
/- Rows in an order: the plain law (rank.Rows, RankSorts). -/
namespace Go.Proofs.YtldlmkfigjicgaaDoor
set_option linter.unusedVariables false
set_option linter.unusedSimpArgs false

/-- A row's column by a number of an order: turned, if the number is below nothing. -/
def colv (n : Int) (r : List Int) : Int := if n < 0 then -(r.getD (-n - 1).toNat 0) else r.getD (n - 1).toNat 0
def byKey (bs : List Int) (r : List Int) : List Int := bs.map (fun n => colv n r) ++ r
def cmpBy (bs : List Int) (a b : List Int) : Int := cmpL (byKey bs a) (byKey bs b)
theorem cmpBy_nil (a b : List Int) : cmpBy [] a b = cmpL a b := rfl
theorem cmpBy_cons (n : Int) (bs a b : List Int) : cmpBy (n :: bs) a b = if colv n a < colv n b then -1 else if colv n b < colv n a then 1 else cmpBy bs a b := by
  show cmpL (colv n a :: byKey bs a) (colv n b :: byKey bs b) = _
  rw [cmpL]; rfl
theorem cmpBy_range (bs a b : List Int) : cmpBy bs a b = -1 ∨ cmpBy bs a b = 0 ∨ cmpBy bs a b = 1 := cmpL_range _ _
theorem cmpBy_self (bs a : List Int) : cmpBy bs a a = 0 := cmpL_self _
theorem cmpBy_eq (bs a b : List Int) (h : cmpBy bs a b = 0) : a = b := by
  have := cmpL_eq _ _ h
  unfold byKey at this
  exact (List.append_inj this (by simp)).2
theorem cmpBy_neg (bs a b : List Int) : cmpBy bs b a = - cmpBy bs a b := cmpL_neg _ _
def byLt (bs : List Int) (x y : It) : Bool := decide (cmpBy bs x.1 y.1 < 0)
def byLe (bs : List Int) (x y : It) : Bool := decide (cmpBy bs x.1 y.1 ≤ 0)

def widI (l : List It) : Int := match l with
  | [] => 8
  | x :: _ => if l.any (fun y => decide (y.1.length ≠ x.1.length)) = true then -1 else (x.1.length : Int)
def manyB (x : It) : Bool := decide (x.2 < 0) || decide (400 < x.2)
def wrongB (n k : Int) : Bool := decide (k = 0) || decide (k < -n) || decide (n < k)
def rankE (l : List It) (bs : List Int) (most : Int) : Int :=
  if setI l ≠ 0 then setI l else if (decide (widI l < 0) || l.any manyB) = true then 5 else if (decide (8 < bs.length) || bs.any (wrongB (widI l)) || decide (most < 0) || decide (400 < most)) = true then 1 else 0
def expd (L : List It) : List (List Int) := L.flatMap (fun x => List.replicate x.2.toNat x.1)
def rankX (l : List It) (bs : List Int) (most : Int) : List (List Int) := if rankE l bs most = 0 then (expd (l.mergeSort (byLe bs))).take most.toNat else []
theorem rankE_zero {l : List It} {bs : List Int} {most : Int} (h : rankE l bs most = 0) : setI l = 0 ∧ 0 ≤ widI l ∧ (∀ x ∈ l, 0 ≤ x.2 ∧ x.2 ≤ 400) ∧ bs.length ≤ 8 ∧ (∀ k ∈ bs, k ≠ 0 ∧ -widI l ≤ k ∧ k ≤ widI l) ∧ 0 ≤ most ∧ most ≤ 400 := by
  unfold rankE at h
  by_cases h1 : setI l = 0
  · rw [if_neg (by simp [h1])] at h
    by_cases h2 : (decide (widI l < 0) || l.any manyB) = true
    · rw [if_pos h2] at h; omega
    · rw [if_neg h2] at h
      by_cases h3 : (decide (8 < bs.length) || bs.any (wrongB (widI l)) || decide (most < 0) || decide (400 < most)) = true
      · rw [if_pos h3] at h; omega
      · simp only [Bool.or_eq_true, decide_eq_true_eq, not_or, List.any_eq_true, not_exists, not_and] at h2 h3
        refine ⟨h1, by omega, fun x hx => ?_, by omega, fun k hk => ?_, by omega, by omega⟩
        · have := h2.2 x hx
          unfold manyB at this
          simp only [Bool.or_eq_true, decide_eq_true_eq, not_or] at this
          omega
        · have := h3.1.1.2 k hk
          unfold wrongB at this
          simp only [Bool.or_eq_true, decide_eq_true_eq, not_or] at this
          omega
  · rw [if_pos h1] at h; exact absurd h h1
theorem wid_rows {l : List It} (h : 0 ≤ widI l) : ∀ x ∈ l, (x.1.length : Int) = widI l := by
  cases l with
  | nil => intro x hx; simp at hx
  | cons y l =>
    unfold widI at h ⊢
    simp only at h ⊢
    by_cases q : (y :: l).any (fun z => decide (z.1.length ≠ y.1.length)) = true
    · rw [if_pos q] at h; omega
    · intro x hx
      rw [if_neg q]
      rw [List.any_eq_true, not_exists] at q
      have := q x
      simp only [not_and, decide_eq_true_eq, ne_eq, Decidable.not_not] at this
      rw [this hx]
theorem rankX_len (l : List It) (bs : List Int) (most : Int) : (rankX l bs most).length ≤ most.toNat := by
  unfold rankX
  split
  · exact List.length_take_le _ _
  · exact Nat.zero_le _

/-- The items in their order, however they were sorted. -/
theorem sorted_one {l l' : List It} {bs : List Int} (hs : Strict l) (hp : l'.Perm l) (hso : l'.Pairwise (fun x y => byLt bs y x = false)) : l' = l.mergeSort (byLe bs) := by
  have hm : (l.mergeSort (byLe bs)).Pairwise (fun x y => byLe bs x y = true) := List.pairwise_mergeSort (fun a b c h1 h2 => by
    unfold byLe cmpBy at *
    simp only [decide_eq_true_eq] at *
    exact (cmpL_trans _ _ _ h1 h2).1) (fun a b => by
    unfold byLe
    have := cmpBy_neg bs a.1 b.1
    simp only [Bool.or_eq_true, decide_eq_true_eq]
    omega) l
  have hd : ∀ x ∈ l, ∀ y ∈ l, x.1 = y.1 → x = y := by
    intro x hx y hy e
    by_cases q : x = y
    · exact q
    · exfalso
      have hpw := strict_pair hs
      have key : ∀ {L : List It}, L.Pairwise (fun x y => cmpL x.1 y.1 < 0) → x ∈ L → y ∈ L → False := by
        intro L hL
        induction L with
        | nil => intro h; simp at h
        | cons z L ih =>
          obtain ⟨p1, p2⟩ := List.pairwise_cons.1 hL
          intro h1 h2
          rcases List.mem_cons.1 h1 with e1 | e1 <;> rcases List.mem_cons.1 h2 with e2 | e2
          · exact q (e1.trans e2.symm)
          · have := p1 y e2; rw [← e1, e, cmpL_self] at this; omega
          · have := p1 x e1; rw [← e2, ← e, cmpL_self] at this; omega
          · exact ih p2 e1 e2
      exact key hpw hx hy
  refine List.Perm.eq_of_pairwise (le := fun x y => byLe bs x y = true) ?_ (hso.imp fun {x y} h => ?_) hm (hp.trans (List.mergeSort_perm _ _).symm)
  · intro x y hx hy h1 h2
    refine hd x (hp.subset hx) y ((List.mergeSort_perm _ _).subset hy) (cmpBy_eq bs _ _ ?_)
    unfold byLe at h1 h2
    have := cmpBy_neg bs x.1 y.1
    simp only [decide_eq_true_eq] at h1 h2
    omega
  · unfold byLt at h
    unfold byLe
    have := cmpBy_neg bs x.1 y.1
    simp only [decide_eq_false_iff_not, decide_eq_true_eq] at h ⊢
    omega

def sumN (l : List It) : Int := (l.map (·.2)).sum
theorem expd_len : ∀ {l : List It}, (∀ x ∈ l, 0 ≤ x.2) → ((expd l).length : Int) = sumN l
  | [], _ => rfl
  | x :: l, h => by
    have ih := expd_len (l := l) fun y hy => h y (by simp [hy])
    have h1 := h x (by simp)
    unfold expd sumN at *
    rw [List.flatMap_cons, List.length_append, List.length_replicate, List.map_cons, List.sum_cons]
    omega
theorem sumN_perm {l m : List It} (h : l.Perm m) : sumN l = sumN m := by
  induction h with
  | nil => rfl
  | cons x _ ih => unfold sumN at *; rw [List.map_cons, List.map_cons, List.sum_cons, List.sum_cons, ih]
  | swap x y l => unfold sumN; simp only [List.map_cons, List.sum_cons]; omega
  | trans _ _ h1 h2 => exact h1.trans h2
theorem expd_pair {bs : List Int} : ∀ {L : List It}, L.Pairwise (fun x y => byLe bs x y = true) → (expd L).Pairwise (fun a b => cmpBy bs a b ≤ 0)
  | [], _ => List.Pairwise.nil
  | x :: L, h => by
    obtain ⟨h1, h2⟩ := List.pairwise_cons.1 h
    have ih := expd_pair h2
    unfold expd at *
    rw [List.flatMap_cons]
    refine List.pairwise_append.2 ⟨?_, ih, fun a ha b hb => ?_⟩
    · refine List.pairwise_replicate.2 (.inr ?_)
      rw [cmpBy_self]; omega
    · rw [(List.mem_replicate.1 ha).2]
      obtain ⟨y, hy, hb⟩ := List.mem_flatMap.1 hb
      rw [(List.mem_replicate.1 hb).2]
      exact of_decide_eq_true (h1 y hy)
/-- What the law asks of both answers. -/
theorem rank_law {l : List It} {bs : List Int} {most : Int} (h1 : rankE l bs 400 = 0) (h2 : rankE l bs most = 0) :
    ((rankX l bs 400).length : Int) = min (sumN l) 400 ∧ ((rankX l bs most).length : Int) = min (sumN l) most ∧ (rankX l bs 400).take (rankX l bs most).length = rankX l bs most ∧ (rankX l bs 400).Pairwise (fun a b => cmpBy bs a b ≤ 0) ∧ (∀ a ∈ rankX l bs 400, (a.length : Int) = widI l) ∧ 0 ≤ sumN l ∧ sumN l ≤ 400 * l.length := by
  obtain ⟨s1, s2, s3, -, -, -, -⟩ := rankE_zero h1
  obtain ⟨-, -, -, -, -, m1, m2⟩ := rankE_zero h2
  have hT : ((expd (l.mergeSort (byLe bs))).length : Int) = sumN l := by
    rw [expd_len fun x hx => (s3 x ((List.mergeSort_perm _ _).subset hx)).1]
    exact sumN_perm (List.mergeSort_perm _ _)
  have hP : (expd (l.mergeSort (byLe bs))).Pairwise (fun a b => cmpBy bs a b ≤ 0) := expd_pair (List.pairwise_mergeSort (fun a b c h1 h2 => by
    unfold byLe cmpBy at *
    simp only [decide_eq_true_eq] at *
    exact (cmpL_trans _ _ _ h1 h2).1) (fun a b => by
    unfold byLe
    have := cmpBy_neg bs a.1 b.1
    simp only [Bool.or_eq_true, decide_eq_true_eq]
    omega) l)
  have hM : ∀ a ∈ expd (l.mergeSort (byLe bs)), (a.length : Int) = widI l := by
    intro a ha
    obtain ⟨y, hy, hb⟩ := List.mem_flatMap.1 ha
    rw [(List.mem_replicate.1 hb).2]
    exact wid_rows s2 y ((List.mergeSort_perm _ _).subset hy)
  have hN : 0 ≤ sumN l ∧ sumN l ≤ 400 * l.length := by
    clear hT hP hM h1 h2 s1 s2
    induction l with
    | nil => simp [sumN]
    | cons x l ih =>
      have := ih fun y hy => s3 y (by simp [hy])
      have h := s3 x (by simp)
      unfold sumN at *
      rw [List.map_cons, List.sum_cons, List.length_cons]
      omega
  unfold rankX
  rw [if_pos h1, if_pos h2]
  generalize expd (l.mergeSort (byLe bs)) = T at *
  refine ⟨?_, ?_, ?_, ?_, ?_, hN⟩
  · rw [List.length_take]; omega
  · rw [List.length_take]; omega
  · rw [List.take_take, List.length_take]
    have : min (min most.toNat T.length) (Int.toNat 400) = min most.toNat T.length := by omega
    rw [this]
    by_cases q : most.toNat ≤ T.length
    · rw [Nat.min_eq_left q]
    · rw [Nat.min_eq_right (by omega), List.take_length, List.take_of_length_le (by omega)]
  · exact List.Pairwise.sublist (List.take_sublist _ _) hP
  · exact fun a ha => hM a (List.mem_of_mem_take ha)
theorem rank_const : rankE [([1, 5], 2), ([2, 3], 1)] [2] 2 = 0 ∧ rankX [([1, 5], 2), ([2, 3], 1)] [2] 2 = [[2, 3], [1, 5]] := by
  have e : rankE [([1, 5], 2), ([2, 3], 1)] [2] 2 = 0 := by decide
  refine ⟨e, ?_⟩
  unfold rankX
  rw [if_pos e]
  have e2 : ([([1, 5], 2), ([2, 3], 1)] : List It).mergeSort (byLe [2]) = [([2, 3], 1), ([1, 5], 2)] := by
    simp [List.mergeSort, byLe, cmpBy, byKey, colv, cmpL]
  rw [e2]
  rfl
end Go.Proofs.YtldlmkfigjicgaaDoor
/- Sets with weights: which rows and weights may be; slices.IndexFunc, ContainsFunc at int. -/
namespace Go.Proofs.YtldlmkfigjicgaaDoor
set_option linter.unusedVariables false
set_option linter.unusedSimpArgs false
open Go.ChangeShapes Go.WideShapes Go.ChangeAt Go.RowKit

/-- An index that IndexFunc tells: at least 0 just if there is one. -/
def FoundAt (p : Prop) (w : World) (e : Ending) (w' : World) : Prop := ∃ i : Int, e = .returned (.int .i64 i) ∧ (0 ≤ i ↔ p) ∧ Below w.heap.size w w'
/-- What is asked of a function value: handed an element of the list, in whatever later world, it answers p, and leaves what was there. -/
def PredNt (g : Nat) (caps : Array Value) (p : Int → Bool) (L : List Int) (w : World) : Prop :=
  ∀ w', Below w.heap.size w w' → ∀ x ∈ L, Calls Tryd.prog g (#[.int .i64 x] ++ caps) w' fun e w'' => e = .returned (.bool (p x)) ∧ Below w'.heap.size w' w''
set_option maxHeartbeats 400000 in
set_option maxRecDepth 100000 in
theorem indexNt_any (g : Nat) (caps : Array Value) (p : Int → Bool) (L : List Int) (A : Option Addr) (c : Nat) (w : World) (hr : Row w w.heap.size A (icells' L)) (hl : L.length ≤ 9223372036854775807)
    (eg : ∀ args w, (callFunc g args).run Tryd.prog w = .ok (.enter g args) w) (hp : PredNt g caps p L w) :
    Calls Tryd.prog 53 #[.slice A L.length c, .func (.func g) #[] caps] w (FoundAt (L.any p = true) w) := by
  have HR := hid hr
  clear hr
  go_enter Tryd.func53, Tryd.ntmps53
  go_wp2
  go_loopw [8] (fun i wr => (∃ k : Nat, k ≤ L.length ∧ i = .int .i64 k ∧ ∀ j (h : j < L.length), j < k → p L[j] = false) ∧ Below w.heap.size w wr) (fun i _ => L.length - (intOf i).toNat)
  case atStart => exact ⟨⟨0, by omega, rfl, fun j _ h => absurd h (by omega)⟩, Below.refl _ _⟩
  case round =>
    obtain ⟨⟨k, hk, rfl, hno⟩, hbw⟩ := hrel
    by_cases hlt : k < L.length
    · obtain ⟨b, off, rfl, hb, h0⟩ := (HR.out.below hbw (Nat.le_refl _)).int' hlt
      have hc := hp wr hbw L[k] (List.getElem_mem _)
      have HN := hid hno
      have HB := hid hbw
      have HC := hid hc
      clear hno hbw hc
      generalize hd : L[k] = d at *
      have HD := hid hd
      clear hd
      (try simp only [IR.cells] at h0 HC)
      obtain ⟨pd, hpd⟩ : ∃ b, b = p d := ⟨_, rfl⟩
      rw [← hpd] at HC
      have HP := hid hpd
      clear hpd
      cases pd
      all_goals
        go_wp2_with (refine (HC.out).mono ?_; rintro e w1 ⟨rfl, hb1⟩)
      · go_roundw
        case rel =>
          refine ⟨⟨k + 1, by omega, by go_num, fun j h hj => ?_⟩, HB.out.trans (hb1.mono HB.out.size)⟩
          by_cases e : j = k
          · subst e; rw [HD.out]; exact HP.out.symm
          · exact HN.out j h (by omega)
        case measure => simp [intOf]; omega
      · go_ret
        refine ⟨k, rfl, iff_of_true (by omega) (List.any_eq_true.2 ⟨L[k], List.getElem_mem _, by rw [HD.out]; exact HP.out.symm⟩), HB.out.trans (hb1.mono HB.out.size)⟩
    · go_wp2
      go_ret
      refine ⟨-1, rfl, iff_of_false (by omega) ?_, hbw⟩
      intro hm
      obtain ⟨d, hd, e⟩ := List.any_eq_true.1 hm
      obtain ⟨j, hj, rfl⟩ := List.getElem_of_mem hd
      rw [hno j hj (by omega)] at e
      cases e
theorem containsNt_any (g : Nat) (caps : Array Value) (p : Int → Bool) (L : List Int) (A : Option Addr) (c : Nat) (w : World) (hr : Row w w.heap.size A (icells' L)) (hl : L.length ≤ 9223372036854775807)
    (eg : ∀ args w, (callFunc g args).run Tryd.prog w = .ok (.enter g args) w) (hp : PredNt g caps p L w) :
    Calls Tryd.prog 25 #[.slice A L.length c, .func (.func g) #[] caps] w fun e w' => e = .returned (.bool (L.any p)) ∧ Below w.heap.size w w' := by
  have H := indexNt_any g caps p L A c w hr hl eg hp
  have HR := hid hr
  have HP := hid hp
  clear hr eg hp
  go_enter Tryd.func25, Tryd.ntmps25
  go_wp2_with (go_at_call 53; refine H.mono ?_; rintro e w' ⟨i, rfl, hi, hb⟩)
  go_ret
  refine ⟨ret_bool ?_, hb⟩
  first
    | (rw [Bool.eq_iff_iff, decide_eq_true_eq]; exact hi)
    | (rw [Bool.eq_iff_iff, decide_eq_true_eq, List.any_eq_true])

theorem far_any (n : Int) (w : World) : Calls Tryd.prog 49 #[.int .i64 n] w fun e w' => e = .returned (.bool (farB n)) ∧ w = w' := by
  obtain ⟨R, hR⟩ : ∃ R, R = farB n := ⟨_, rfl⟩
  rw [← hR]
  have HR := hid hR
  clear hR
  by_cases h1 : n < -1048576
  · go_enter Tryd.func49, Tryd.ntmps49
    go_wp2
    go_ret
    exact ⟨ret_bool (by rw [HR.out]; unfold farB; rw [decide_eq_true h1]; rfl), rfl⟩
  · by_cases h2 : 1048576 < n
    · go_enter Tryd.func49, Tryd.ntmps49
      go_wp2
      go_ret
      exact ⟨ret_bool (by rw [HR.out]; unfold farB; rw [decide_eq_true h2]; simp), rfl⟩
    · go_enter Tryd.func49, Tryd.ntmps49
      go_wp2
      go_ret
      exact ⟨ret_bool (by rw [HR.out]; unfold farB; rw [decide_eq_false (by omega), decide_eq_false (by omega)]; rfl), rfl⟩
theorem row1_any (n : Int) (w : World) : Calls Tryd.prog 70 #[.int .i64 n] w fun e w' => e = .returned (.bool (outB n)) ∧ w = w' := by
  obtain ⟨R, hR⟩ : ∃ R, R = outB n := ⟨_, rfl⟩
  rw [← hR]
  have HR := hid hR
  clear hR
  by_cases h1 : n < -1073741824
  · go_enter Tryd.func70, Tryd.ntmps70
    go_wp2
    go_ret
    exact ⟨ret_bool (by rw [HR.out]; unfold outB; rw [decide_eq_true h1]; rfl), rfl⟩
  · by_cases h2 : 1073741824 < n
    · go_enter Tryd.func70, Tryd.ntmps70
      go_wp2
      go_ret
      exact ⟨ret_bool (by rw [HR.out]; unfold outB; rw [decide_eq_true h2]; simp), rfl⟩
    · go_enter Tryd.func70, Tryd.ntmps70
      go_wp2
      go_ret
      exact ⟨ret_bool (by rw [HR.out]; unfold outB; rw [decide_eq_false (by omega), decide_eq_false (by omega)]; rfl), rfl⟩
theorem enters_row1 : ∀ args w, (callFunc 70 args).run Tryd.prog w = .ok (.enter 70 args) w := enters_of Tryd.func70 (by kernel_rfl) rfl

set_option maxHeartbeats 400000 in
set_option maxRecDepth 100000 in
theorem row_any (r : List Int) (A : Option Addr) (c : Nat) (w : World) (hr : Row w w.heap.size A (icells' r)) (hl : r.length ≤ 9223372036854775807) :
    Calls Tryd.prog 48 #[.slice A r.length c] w fun e w' => e = .returned (.bool (rowB r)) ∧ Below w.heap.size w w' := by
  have HC := hid (containsNt_any 70 #[] outB r A c w hr hl enters_row1 (fun w' hb x hx => (row1_any x w').mono fun e w2 ⟨h1, h2⟩ => ⟨h1, h2 ▸ Below.refl _ _⟩))
  clear hr
  obtain ⟨R, hR⟩ : ∃ R, R = rowB r := ⟨_, rfl⟩
  rw [← hR]
  have HR := hid hR
  clear hR
  obtain ⟨B, hB⟩ : ∃ B, B = r.any outB := ⟨_, rfl⟩
  rw [← hB] at HC
  have HB := hid hB
  clear hB
  by_cases h8 : r.length ≤ 8
  · have h8' : (r.length : Int) ≤ 8 := by omega
    go_enter Tryd.func48, Tryd.ntmps48
    go_wp2_with (go_at_call 25; refine HC.out.mono ?_; rintro e w' ⟨rfl, hb⟩)
    go_ret
    exact ⟨ret_bool (by rw [HR.out]; unfold rowB; rw [decide_eq_true h8, ← HB.out]; rfl), hb⟩
  · have h8' : (8 : Int) < (r.length : Int) := by omega
    go_enter Tryd.func48, Tryd.ntmps48
    go_wp2
    go_ret
    exact ⟨ret_bool (by rw [HR.out]; unfold rowB; rw [decide_eq_false h8]; rfl), Below.refl _ _⟩
end Go.Proofs.YtldlmkfigjicgaaDoor
/- slices.Compare at int, zset.Order. -/
namespace Go.Proofs.YtldlmkfigjicgaaDoor
set_option linter.unusedVariables false
set_option linter.unusedSimpArgs false
open Go.ChangeShapes Go.WideShapes Go.ChangeAt Go.RowKit

theorem isNaN_int (x : Int) (w : World) : Calls Tryd.prog 82 #[.int .i64 x] w fun e w' => e = .returned (.bool false) ∧ w = w' := by
  go_enter Tryd.func82, Tryd.ntmps82
  go_wp2
  go_ret
  simp
def cmpZ (x y : Int) : Int := if x < y then -1 else if y < x then 1 else 0
theorem compareZ_any (x y : Int) (w : World) :
    Calls Tryd.prog 57 #[.int .i64 x, .int .i64 y] w fun e w' => e = .returned (.int .i64 (cmpZ x y)) ∧ w = w' := by
  go_enter Tryd.func57, Tryd.ntmps57
  go_wp2_with (go_at_call 82; refine (isNaN_int _ _).mono ?_; rintro e w' ⟨rfl, rfl⟩)
  all_goals go_ret
  all_goals (refine ⟨?_, rfl⟩; first | (simp [cmpZ, *]; done) | (simp [cmpZ, *]; omega) | (simp [cmpZ]; omega))
theorem cmpL_cons (x y : Int) (l m : List Int) : cmpL (x :: l) (y :: m) = if cmpZ x y = 0 then cmpL l m else cmpZ x y := by
  unfold cmpZ
  rw [cmpL]
  by_cases h1 : x < y
  · rw [if_pos h1, if_pos h1, if_neg (by decide)]
  · rw [if_neg h1, if_neg h1]
    by_cases h2 : y < x
    · rw [if_pos h2, if_pos h2, if_neg (by decide)]
    · rw [if_neg h2, if_neg h2, if_pos rfl]

set_option maxHeartbeats 1000000 in
set_option maxRecDepth 100000 in
theorem compareL_any (l m : List Int) (A B : Option Addr) (c e : Nat) (w : World) (hr : Row w w.heap.size A (icells' l)) (hs : Row w w.heap.size B (icells' m)) (hl : l.length ≤ 9223372036854775807) (hm : m.length ≤ 9223372036854775807) :
    Calls Tryd.prog 71 #[.slice A l.length c, .slice B m.length e] w fun e w' => e = .returned (.int .i64 (cmpL l m)) ∧ w = w' := by
  have HR := hid hr
  have HS := hid hs
  clear hr hs
  obtain ⟨R, hR⟩ : ∃ R, R = cmpL l m := ⟨_, rfl⟩
  rw [← hR]
  have HRR := hid hR
  clear hR
  go_enter Tryd.func71, Tryd.ntmps71
  go_wp2
  go_loop [11] (fun i => ∃ k : Nat, k ≤ l.length ∧ k ≤ m.length ∧ i = .int .i64 k ∧ Hid (R = cmpL (l.drop k) (m.drop k))) (fun i => l.length - (intOf i).toNat)
  case atStart => exact ⟨0, by omega, by omega, rfl, HRR⟩
  case round =>
    clear HRR
    obtain ⟨k, hk, hk2, rfl, HK⟩ := hrel
    by_cases hlt : k < l.length
    · obtain ⟨b, off, rfl, hb, h0⟩ := HR.out.int' hlt
      have HD := hid (List.drop_eq_getElem_cons hlt)
      by_cases hlt2 : k < m.length
      · obtain ⟨b', off', rfl, hb', h0'⟩ := HS.out.int' hlt2
        have HD' := hid (List.drop_eq_getElem_cons hlt2)
        have HC : Hid (R = if cmpZ l[k] m[k] = 0 then cmpL (l.drop (k + 1)) (m.drop (k + 1)) else cmpZ l[k] m[k]) := hid (by rw [HK.out, HD.out, HD'.out, cmpL_cons])
        clear HK HD HD'
        generalize l[k] = x at *
        generalize m[k] = y at *
        have hc := compareZ_any x y w
        obtain ⟨cv, hcv⟩ : ∃ cv, cv = cmpZ x y := ⟨_, rfl⟩
        rw [← hcv] at hc HC
        have HCC := hid hc
        clear hc hcv
        by_cases hz : cv = 0
        · have t1 : (cv != 0) = false := by simp [hz]
          have HZ := hid hz
          clear hz
          go_wp2_with (go_at_call 57; refine HCC.out.mono ?_; rintro e w' ⟨rfl, rfl⟩)
          go_round
          case rel => exact ⟨k + 1, by omega, by omega, by go_num, hid (by rw [HC.out, if_pos HZ.out])⟩
          case measure => simp [intOf]; omega
        · have t1 : (cv != 0) = true := by simp [hz]
          have HZ := hid hz
          clear hz
          go_wp2_with (go_at_call 57; refine HCC.out.mono ?_; rintro e w' ⟨rfl, rfl⟩)
          go_ret
          exact ⟨ret_int (by rw [HC.out, if_neg HZ.out]), rfl⟩
      · have he : Hid (R = 1) := hid (by rw [HK.out, HD.out, show m.drop k = [] from List.drop_eq_nil_of_le (by omega)]; rfl)
        have hkm : (m.length : Int) ≤ (k : Int) := by omega
        clear HK HD
        go_wp2
        go_ret
        exact ⟨ret_int he.out.symm, rfl⟩
    · have hkl : k = l.length := by omega
      by_cases hlt2 : l.length < m.length
      · have he : Hid (R = -1) := hid (by rw [HK.out, show l.drop k = [] from List.drop_eq_nil_of_le (by omega), List.drop_eq_getElem_cons (show k < m.length by omega)]; rfl)
        clear HK hkl
        go_wp2
        go_ret
        exact ⟨ret_int he.out.symm, rfl⟩
      · have he : Hid (R = 0) := hid (by rw [HK.out, show l.drop k = [] from List.drop_eq_nil_of_le (by omega), show m.drop k = [] from List.drop_eq_nil_of_le (by omega)]; rfl)
        clear HK hkl
        go_wp2
        go_ret
        exact ⟨ret_int he.out.symm, rfl⟩

set_option maxRecDepth 100000 in
theorem orderL_any (l m : List Int) (A B : Option Addr) (c e : Nat) (w : World) (hr : Row w w.heap.size A (icells' l)) (hs : Row w w.heap.size B (icells' m)) (hl : l.length ≤ 9223372036854775807) (hm : m.length ≤ 9223372036854775807) :
    Calls Tryd.prog 50 #[.slice A l.length c, .slice B m.length e] w fun e w' => e = .returned (.int .i64 (cmpL l m)) ∧ w = w' := by
  have HC := hid (compareL_any l m A B c e w hr hs hl hm)
  clear hr hs
  go_enter Tryd.func50, Tryd.ntmps50
  go_wp2_with (go_at_call 71; refine HC.out.mono ?_; rintro e w' ⟨rfl, rfl⟩)
  go_ret
  exact ⟨rfl, rfl⟩
end Go.Proofs.YtldlmkfigjicgaaDoor
/- Words for items of a call's own making. -/
namespace Go.Proofs.YtldlmkfigjicgaaDoor
set_option linter.unusedVariables false
set_option linter.unusedSimpArgs false
open Go.ChangeShapes Go.WideShapes Go.ChangeAt Go.RowKit

theorem Row.grown_ne {w w' : World} {B : Nat} {A : Option Addr} {xs : List Value} {r : Option Nat} (h : Row w B A xs) (hB : B ≤ w.heap.size) (hg : w.grownBy w' r) (hr : ∀ b off q, A = some ⟨b, off, q⟩ → some b ≠ r) : Row w' B A xs := by
  rcases h with h | ⟨b, off, h1, h2, h3⟩
  · exact .inl h
  · refine .inr ⟨b, off, h1, h2, fun j u hu => ?_⟩
    rw [World.cell?_of_block (w := w) (hg.block b (by omega) (hr b off none h1))]
    exact h3 j u hu
/-- A row of ints in a block of its own: it lies there, and its room is known. -/
structure RowOwn (w : World) (A : Option Addr) (l : List Int) (k : Nat) : Prop where
  row : Row w w.heap.size A (icells' l)
  own : w.ownsRow 0 3 1 (.slice A l.length k) l.length (icells' l)
theorem RowOwn.of_own {w : World} {B n k : Nat} {A : Option Addr} {l : List Int} (h : w.ownsRow B 3 1 (.slice A n k) n (icells' l)) (hn : n = l.length) : RowOwn w A l k := by
  subst hn; exact ⟨Row.of_ownS h, own_baseS h (Nat.zero_le _)⟩
theorem RowOwn.step {w w' : World} {A : Option Addr} {l : List Int} {k : Nat} (h : RowOwn w A l k) (hb : Below w.heap.size w w') : RowOwn w' A l k := ⟨h.row.step hb, own_laterS h.own hb⟩
theorem RowOwn.grown_ne {w w' : World} {B : Nat} {A : Option Addr} {l : List Int} {k : Nat} {r : Option Nat} (h : RowOwn w A l k) (_ : B ≤ w.heap.size) (hg : w.grownBy w' r) (hr : ∀ b off q, A = some ⟨b, off, q⟩ → some b ≠ r) : RowOwn w' A l k := by
  refine ⟨(h.row.grown_ne (Nat.le_refl _) hg hr).more hg.size, ?_⟩
  obtain ⟨h1, h2⟩ := h.own
  refine ⟨h1, ?_⟩
  rcases h2 with h2 | ⟨b, cap, cur, e, hb, hgt, h3⟩
  · exact .inl h2
  · have hlt : b < w.heap.size := by
      rcases Nat.lt_or_ge b w.heap.size with h | h
      · exact h
      · rw [Array.getElem?_eq_none h] at hgt; cases hgt
    refine .inr ⟨b, cap, cur, e, hb, (hg.block b hlt ?_).trans hgt, h3⟩
    injection e with e
    exact hr b 0 none e
theorem RowOwn.more {w : World} {A : Option Addr} {l : List Int} {k B C : Nat} (h : RowOwn w A l k) (_ : B ≤ C) : RowOwn w A l k := h
/-- The rows of items that a call has made: in blocks of their own. -/
def RowsNew (w : World) (lo : Nat) (v : Value) (M : List IR) : Prop := ∀ x ∈ M, RowOwn w x.A x.row x.k ∧ NewAt lo x.A ∧ (∀ b off q, x.A = some ⟨b, off, q⟩ → some b ≠ v.ownBlock ∧ b < w.heap.size) ∧ x.row.length ≤ 1048576
theorem RowsNew.nil (w : World) (lo : Nat) (v : Value) : RowsNew w lo v [] := fun x hx => by simp at hx
theorem RowsNew.step {w w' : World} {lo : Nat} {v : Value} {M : List IR} (h : RowsNew w lo v M) (hb : Below w.heap.size w w') : RowsNew w' lo v M := fun x hx => by
  obtain ⟨h1, h2, h3, h4⟩ := h x hx
  exact ⟨h1.step hb, h2, fun b off q e => ⟨(h3 b off q e).1, Nat.lt_of_lt_of_le (h3 b off q e).2 hb.size⟩, h4⟩
theorem RowsNew.grown {w w' : World} {lo : Nat} {v v' : Value} {M : List IR} (h : RowsNew w lo v M) (hg : w.grownBy w' v.ownBlock) (hv : v'.ownBlock = v.ownBlock ∨ v'.ownBlock = some w.heap.size) : RowsNew w' lo v' M := fun x hx => by
  obtain ⟨h1, h2, h3, h4⟩ := h x hx
  refine ⟨h1.grown_ne (Nat.le_refl _) hg (fun b off q e => (h3 b off q e).1), h2, fun b off q e => ⟨?_, Nat.lt_of_lt_of_le (h3 b off q e).2 hg.size⟩, h4⟩
  rcases hv with hv | hv
  · rw [hv]; exact (h3 b off q e).1
  · rw [hv]; intro e2; injection e2 with e2; have := (h3 b off q e).2; omega
theorem RowsNew.snoc {w : World} {lo : Nat} {v : Value} {M : List IR} (h : RowsNew w lo v M) {x : IR} (h1 : RowOwn w x.A x.row x.k) (h2 : NewAt lo x.A) (h3 : ∀ b off q, x.A = some ⟨b, off, q⟩ → some b ≠ v.ownBlock ∧ b < w.heap.size) (h4 : x.row.length ≤ 1048576) : RowsNew w lo v (M ++ [x]) := fun y hy => by
  rcases List.mem_append.1 hy with e | e
  · exact h y e
  · rw [List.mem_singleton.1 e]; exact ⟨h1, h2, h3, h4⟩
theorem RowsNew.rows {w : World} {lo : Nat} {v : Value} {M : List IR} (h : RowsNew w lo v M) : RowsAt w w.heap.size M := fun x hx => ⟨(h x hx).1.row, Nat.le_trans (h x hx).2.2.2 (by decide)⟩
theorem Row.lt_of {w : World} {A : Option Addr} {xs : List Value} {b off q} (h : Row w w.heap.size A xs) (e : A = some ⟨b, off, q⟩) (hx : xs ≠ []) : b < w.heap.size := by
  rcases h with h | ⟨b', off', h1, h2, -⟩
  · exact absurd h hx
  · rw [e] at h1; injection h1 with h1; injection h1 with h1; omega

theorem elem_item : Elem Tryd.prog 22 51 2 32 := ⟨Tryd.underlying22, by
  obtain ⟨i, hi, hz, hs, hb⟩ := info_parts (P := Tryd.prog) (e := 51) (z := .agg #[.slice none 0 0, .int .i64 0]) (size := 2) (bytes := 32) (by kernel_rfl)
  exact ⟨i, _, hi, hz, hs, hb, rfl⟩, by decide⟩

/-- A list of items of a call's own making. -/
def ItsPost (S : List It) (w : World) (e : Ending) (w' : World) : Prop :=
  ∃ (A : Option Addr) (k : Nat) (M : List IR), e = .returned (.slice A M.length k) ∧ its M = S ∧ w'.ownsRow w.heap.size 51 2 (.slice A M.length k) M.length (rcells M) ∧ RowsNew w' w.heap.size (.slice A M.length k) M ∧ Below w.heap.size w w'
/-- A list of items of a call's own making, and an error. -/
def ItsErr (S : List It) (x : Int) (w : World) (e : Ending) (w' : World) : Prop :=
  ∃ (A : Option Addr) (k : Nat) (M : List IR), e = .returned (.tuple #[.slice A M.length k, .int .i64 x]) ∧ its M = S ∧ w'.ownsRow w.heap.size 51 2 (.slice A M.length k) M.length (rcells M) ∧ RowsNew w' w.heap.size (.slice A M.length k) M ∧ Below w.heap.size w w'
theorem itsErr_nil {w w' : World} {x : Int} (hb : Below w.heap.size w w') : ItsErr [] x w (.returned (.tuple #[.slice none 0 0, .int .i64 x])) w' :=
  ⟨none, 0, [], rfl, rfl, World.ownsRow_nil _ _ _ _, RowsNew.nil _ _ _, hb⟩
theorem itsErr_nil' {S : List It} {w w' : World} {x y : Int} (hS : S = []) (hx : y = x) (hb : Below w.heap.size w w') : ItsErr S y w (.returned (.tuple #[.slice none 0 0, .int .i64 x])) w' := by
  subst hS hx; exact itsErr_nil hb
theorem its_len (M : List IR) : (its M).length = M.length := List.length_map ..
theorem rcells_snoc (M : List IR) (x : IR) : rcells (M ++ [x]) = rcells M ++ x.cells := by rw [rcells, List.flatMap_append]; simp
end Go.Proofs.YtldlmkfigjicgaaDoor
/- zset.Check. -/
namespace Go.Proofs.YtldlmkfigjicgaaDoor
set_option linter.unusedVariables false
set_option linter.unusedSimpArgs false
open Go.ChangeShapes Go.WideShapes Go.ChangeAt Go.RowKit

set_option maxHeartbeats 2000000 in
set_option maxRecDepth 100000 in
theorem zcheck_any (M : List IR) (A : Option Addr) (c : Nat) (w : World) (hr : RowI w w.heap.size A M) (hl : M.length ≤ 9223372036854775807) :
    Calls Tryd.prog 20 #[.slice A M.length c] w fun e w' => e = .returned (.int .i64 (setI (its M))) ∧ Below w.heap.size w w' := by
  have HR := hid hr
  clear hr
  have HE := hid (show setI (its M) = if 400 < (its M).length then 2 else if (List.range (its M).length).any (zbadAt (its M)) = true then 5 else 0 from rfl)
  obtain ⟨E, hE⟩ : ∃ E, E = setI (its M) := ⟨_, rfl⟩
  rw [← hE] at HE ⊢
  rw [its_len] at HE
  clear hE
  by_cases h4 : 400 < M.length
  · have h4' : (400 : Int) < (M.length : Int) := by omega
    have HD : Hid (E = 2) := hid (by rw [HE.out, if_pos h4])
    go_enter Tryd.func20, Tryd.ntmps20
    go_wp2
    go_ret
    exact ⟨ret_int (by rw [HD.out]), Below.refl _ _⟩
  · have h4' : (M.length : Int) ≤ 400 := by omega
    have h4n : M.length ≤ 400 := by omega
    replace HE : Hid (E = if (List.range M.length).any (zbadAt (its M)) = true then 5 else 0) := hid (by rw [HE.out, if_neg h4])
    clear h4
    go_enter Tryd.func20, Tryd.ntmps20
    go_wp2_with fail
    go_loopw [10] (fun s10 wr => ∃ i : Nat, i ≤ M.length ∧ s10 = .int .i64 i ∧ Hid (∀ j, j < i → zbadAt (its M) j = false) ∧ Hid (Below w.heap.size w wr)) (fun s10 _ => M.length - (intOf s10).toNat)
    case atStart => exact ⟨0, by omega, rfl, hid (fun j h => by omega), hid (Below.refl _ _)⟩
    case round =>
      obtain ⟨i, hi, rfl, HNO, HB⟩ := hrel
      by_cases hlt : i < M.length
      · have HRR := hid (HR.out.step HB.out)
        obtain ⟨b, off, rfl, hb, h0, h1⟩ := HRR.out.1.it hlt
        have hmem := List.getElem_mem hlt
        have hrw := HRR.out.2 _ hmem
        have HBA : Hid (zbadAt (its M) i = ((badB M[i].it || decide (M[i].n = 0)) || (if h : 0 < i then decide (0 ≤ cmpL M[i - 1].row M[i].row) else false))) := hid (by
          cases i with
          | zero => rw [badAt_zero (by rw [its_len]; exact hlt)]; simp [its]
          | succ k => rw [badAt_succ (by rw [its_len]; exact hlt)]; simp [its])
        have hprev : ∀ h : 0 < i, ∃ (y : List Int) (yA : Option Addr) (yk : Nat), wr.cell? ⟨b, off + (i - 1) * 2, none⟩ = some (.slice yA y.length yk) ∧ Row wr wr.heap.size yA (icells' y) ∧ y.length ≤ 9223372036854775807 ∧ y = M[i - 1].row := fun h => by
          obtain ⟨b2, off2, hA2, hb2, g0, g1⟩ := HRR.out.1.it (show i - 1 < M.length by omega)
          injection hA2 with hA2
          injection hA2 with q1 q2
          subst q1 q2
          exact ⟨_, _, _, g0, (HRR.out.2 _ (List.getElem_mem _)).1, (HRR.out.2 _ (List.getElem_mem _)).2, rfl⟩
        obtain ⟨bad, hbad⟩ : ∃ bad, bad = zbadAt (its M) i := ⟨_, rfl⟩
        have HBD := hid hbad
        rw [← hbad] at HBA
        clear hbad hmem
        generalize M[i] = x at *
        obtain ⟨xr, xA, xk, xn⟩ := x
        simp only at h0 h1 hrw
        simp only [IR.it] at HBA
        obtain ⟨hrw1, hrw2⟩ := hrw
        obtain ⟨W, hW⟩ : ∃ W : World, W = wr.alloc (.cells #[.slice xA xr.length xk, .int .i64 xn] 51) := ⟨_, rfl⟩
        have hWB : Below wr.heap.size wr W := by rw [hW]; exact alloc_below (Below.refl _ _) _
        have HWX := hid (show Blk W wr.heap.size #[.slice xA xr.length xk, .int .i64 xn] 51 by rw [hW]; exact Blk.new _ _ _)
        have HROW := hid (fun w1 (hb : Below W.heap.size W w1) => row_any xr xA xk w1 (hrw1.step (Below.step' hWB hb)) hrw2)
        have HFAR := hid (fun w1 => far_any xn w1)
        have HXR := hid hrw1
        have hbr := hb
        have HBW := hid (Below.step' HB.out hWB)
        have HB2 := hid hWB
        have hW2 := hWB.size
        clear hWB
        obtain ⟨rb, hrb⟩ : ∃ q, q = rowB xr := ⟨_, rfl⟩
        obtain ⟨fb, hfb⟩ : ∃ q, q = farB xn := ⟨_, rfl⟩
        rw [← hrb] at HROW
        rw [← hfb] at HFAR
        replace HBA : Hid (bad = (((!rb || fb) || decide (xn = 0)) || (if h : 0 < i then decide (0 ≤ cmpL M[i - 1].row xr) else false))) := hid (by rw [HBA.out, badB, ← hrb, ← hfb])
        clear hrb hfb
        have hb0 : b < W.heap.size := by omega
        have HPRE := hid hprev
        clear hprev
        have HW := hid hW
        go_wp2_with fail
        -- STOP-a
        rw [← hW]
        clear hW h0 h1 hb hrw1
        go_cut [44] from 15 to 44 (fun s wx => s = .bool bad ∧ Hid (Below W.heap.size W wx))
        case first =>
          obtain ⟨cx, fx, sx, nx⟩ := HWX.out.all
          cases rb
          · go_wp2
            refine region_ext (by kernel_rfl) (by kernel_rfl) (fun hext => ?_)
            repeat (any_goals ((with_reducible refine wpQuiet_step (fun K hK => ?_)); go_simp; first | (with_reducible refine hK _ ?_; clear hK K) | ((with_reducible apply Exists.intro); (with_reducible refine ⟨fun _ => ?_, hK _ ?_⟩); ((first | (go_at_call 48; exact ext_call _ (Nat.le_refl _) (HROW.out _ (Ext.below _))) | (go_at_call 49; exact ext_call_same _ (HFAR.out _)) | (go_at_call 50; exact ext_call_same _ (HORD.out _ (Ext.below _))))); clear hK K) | ((with_reducible refine (if_neg ?_).mpr (hK _ ?_)); (decide); clear hK K) | (split <;> (with_reducible refine hK _ ?_; clear hK K))))
            all_goals ((with_reducible refine wpQuiet_nil ?_); clear hext; intro w1 hx1; have hb1 := ext_below hx1; clear hx1)
            go_wp2
            all_goals
              go_meet
              case rel => exact ⟨by rw [HBA.out]; rfl, hid hb1⟩
          · by_cases hn : xn = 0
            · have t1 : (xn == 0) = true := by simp [hn]
              have HN := hid hn
              clear hn
              go_wp2
              refine region_ext (by kernel_rfl) (by kernel_rfl) (fun hext => ?_)
              repeat (any_goals ((with_reducible refine wpQuiet_step (fun K hK => ?_)); go_simp; first | (with_reducible refine hK _ ?_; clear hK K) | ((with_reducible apply Exists.intro); (with_reducible refine ⟨fun _ => ?_, hK _ ?_⟩); ((first | (go_at_call 48; exact ext_call _ (Nat.le_refl _) (HROW.out _ (Ext.below _))) | (go_at_call 49; exact ext_call_same _ (HFAR.out _)) | (go_at_call 50; exact ext_call_same _ (HORD.out _ (Ext.below _))))); clear hK K) | ((with_reducible refine (if_neg ?_).mpr (hK _ ?_)); (decide); clear hK K) | (split <;> (with_reducible refine hK _ ?_; clear hK K))))
              all_goals ((with_reducible refine wpQuiet_nil ?_); clear hext; intro w1 hx1; have hb1 := ext_below hx1; clear hx1)
              go_wp2
              all_goals
                go_meet
                case rel => exact ⟨by rw [HBA.out, decide_eq_true HN.out]; simp, hid hb1⟩
            · have t1 : (xn == 0) = false := by simp [hn]
              have HN := hid hn
              clear hn
              cases fb
              · by_cases hi0 : 0 < i
                · obtain ⟨y, yA, yk, g0, g1, g2, g3⟩ := HPRE.out hi0
                  have g0' : W.cell? ⟨b, off + (i - 1) * 2, none⟩ = some (.slice yA y.length yk) := by rw [(bcell HB2.out).1 _ _ (by omega)]; exact g0
                  have HORD := hid (fun w1 (hb : Below W.heap.size W w1) => orderL_any y xr yA xA yk xk w1 (g1.step (Below.step' HB2.out hb)) (HXR.out.step (Below.step' HB2.out hb)) g2 hrw2)
                  obtain ⟨cv, hcv⟩ : ∃ q, q = cmpL y xr := ⟨_, rfl⟩
                  rw [← hcv] at HORD
                  have HBB : Hid (bad = decide (0 ≤ cv)) := hid (by rw [HBA.out, dif_pos hi0, ← g3, ← hcv, decide_eq_false HN.out]; simp)
                  have hi1 : (0 : Int) < (i : Int) := by omega
                  have hw1 : IntKind.i64.wrap ((i : Int) - 1) = (i : Int) - 1 := IntWalk.i64_in _ (by omega)
                  have hi2 : ((i : Int) - 1).toNat = i - 1 := by omega
                  have hi3 : (0 : Int) ≤ (i : Int) - 1 := by omega
                  have hi4 : (1 : Int) ≤ (i : Int) := by omega
                  have hi5 : (i : Int) - 1 < (M.length : Int) := by omega
                  clear hcv g0 g1 g3
                  by_cases hc : 0 ≤ cv
                  · have HC := hid hc
                    have hcd : decide (0 ≤ cv) = true := decide_eq_true hc
                    go_wp2
                    refine region_ext (by kernel_rfl) (by kernel_rfl) (fun hext => ?_)
                    repeat (any_goals ((with_reducible refine wpQuiet_step (fun K hK => ?_)); go_simp; first | (with_reducible refine hK _ ?_; clear hK K) | ((with_reducible apply Exists.intro); (with_reducible refine ⟨fun _ => ?_, hK _ ?_⟩); ((first | (go_at_call 48; exact ext_call _ (Nat.le_refl _) (HROW.out _ (Ext.below _))) | (go_at_call 49; exact ext_call_same _ (HFAR.out _)) | (go_at_call 50; exact ext_call_same _ (HORD.out _ (Ext.below _))))); clear hK K) | ((with_reducible refine (if_neg ?_).mpr (hK _ ?_)); (decide); clear hK K) | (split <;> (with_reducible refine hK _ ?_; clear hK K))))
                    all_goals ((with_reducible refine wpQuiet_nil ?_); clear hext; intro w1 hx1; have hb1 := ext_below hx1; clear hx1)
                    go_wp2
                    all_goals
                      go_meet
                      case rel => exact ⟨by rw [HBB.out, decide_eq_true HC.out], hid hb1⟩
                  · have HC := hid hc
                    have hcd : decide (0 ≤ cv) = false := decide_eq_false hc
                    go_wp2
                    refine region_ext (by kernel_rfl) (by kernel_rfl) (fun hext => ?_)
                    repeat (any_goals ((with_reducible refine wpQuiet_step (fun K hK => ?_)); go_simp; first | (with_reducible refine hK _ ?_; clear hK K) | ((with_reducible apply Exists.intro); (with_reducible refine ⟨fun _ => ?_, hK _ ?_⟩); ((first | (go_at_call 48; exact ext_call _ (Nat.le_refl _) (HROW.out _ (Ext.below _))) | (go_at_call 49; exact ext_call_same _ (HFAR.out _)) | (go_at_call 50; exact ext_call_same _ (HORD.out _ (Ext.below _))))); clear hK K) | ((with_reducible refine (if_neg ?_).mpr (hK _ ?_)); (decide); clear hK K) | (split <;> (with_reducible refine hK _ ?_; clear hK K))))
                    all_goals ((with_reducible refine wpQuiet_nil ?_); clear hext; intro w1 hx1; have hb1 := ext_below hx1; clear hx1)
                    go_wp2
                    all_goals
                      go_meet
                      case rel => exact ⟨by rw [HBB.out, decide_eq_false (by have := HC.out; omega)], hid hb1⟩
                · have HBB : Hid (bad = false) := hid (by rw [HBA.out, dif_neg hi0, decide_eq_false HN.out]; simp)
                  have hi1 : decide ((0 : Int) < (i : Int)) = false := decide_eq_false (by omega)
                  have hi2 : ¬ (0 : Int) < (i : Int) := by omega
                  go_wp2
                  refine region_ext (by kernel_rfl) (by kernel_rfl) (fun hext => ?_)
                  repeat (any_goals ((with_reducible refine wpQuiet_step (fun K hK => ?_)); go_simp; first | (with_reducible refine hK _ ?_; clear hK K) | ((with_reducible apply Exists.intro); (with_reducible refine ⟨fun _ => ?_, hK _ ?_⟩); ((first | (go_at_call 48; exact ext_call _ (Nat.le_refl _) (HROW.out _ (Ext.below _))) | (go_at_call 49; exact ext_call_same _ (HFAR.out _)) | (go_at_call 50; exact ext_call_same _ (HORD.out _ (Ext.below _))))); clear hK K) | ((with_reducible refine (if_neg ?_).mpr (hK _ ?_)); (decide); clear hK K) | (split <;> (with_reducible refine hK _ ?_; clear hK K))))
                  all_goals ((with_reducible refine wpQuiet_nil ?_); clear hext; intro w1 hx1; have hb1 := ext_below hx1; clear hx1)
                  go_wp2
                  all_goals
                    go_meet
                    case rel => exact ⟨by rw [HBB.out], hid hb1⟩
              · go_wp2
                refine region_ext (by kernel_rfl) (by kernel_rfl) (fun hext => ?_)
                repeat (any_goals ((with_reducible refine wpQuiet_step (fun K hK => ?_)); go_simp; first | (with_reducible refine hK _ ?_; clear hK K) | ((with_reducible apply Exists.intro); (with_reducible refine ⟨fun _ => ?_, hK _ ?_⟩); ((first | (go_at_call 48; exact ext_call _ (Nat.le_refl _) (HROW.out _ (Ext.below _))) | (go_at_call 49; exact ext_call_same _ (HFAR.out _)) | (go_at_call 50; exact ext_call_same _ (HORD.out _ (Ext.below _))))); clear hK K) | ((with_reducible refine (if_neg ?_).mpr (hK _ ?_)); (decide); clear hK K) | (split <;> (with_reducible refine hK _ ?_; clear hK K))))
                all_goals ((with_reducible refine wpQuiet_nil ?_); clear hext; intro w1 hx1; have hb1 := ext_below hx1; clear hx1)
                go_wp2
                all_goals
                  go_meet
                  case rel => exact ⟨by rw [HBA.out]; simp, hid hb1⟩
        case rest =>
          obtain ⟨rfl, HB4⟩ := hcut
          have HB5 := hid (Below.step' HBW.out HB4.out)
          cases bad
          · go_wp2_with fail
            go_roundw
            case rel =>
              refine ⟨i + 1, by omega, by go_num, hid (fun j hj => ?_), HB5⟩
              by_cases e : j = i
              · rw [e]; exact HBD.out.symm
              · exact HNO.out j (by omega)
            case measure => simp [intOf]; omega
          · have HD : Hid (E = 5) := hid (by rw [HE.out, if_pos (List.any_eq_true.2 ⟨i, List.mem_range.2 hlt, HBD.out.symm⟩)])
            go_wp2
            go_ret
            exact ⟨ret_int (by rw [HD.out]), HB5.out⟩
      · have HD : Hid (E = 0) := hid (by
          rw [HE.out, if_neg]
          intro h
          obtain ⟨j, hj, e⟩ := List.any_eq_true.1 h
          rw [HNO.out j (by have := List.mem_range.1 hj; omega)] at e
          cases e)
        go_wp2
        go_ret
        exact ⟨ret_int (by rw [HD.out]), HB.out⟩
end Go.Proofs.YtldlmkfigjicgaaDoor
