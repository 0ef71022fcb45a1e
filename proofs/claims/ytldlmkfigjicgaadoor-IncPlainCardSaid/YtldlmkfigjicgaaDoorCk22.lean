/- InL, OpenL, FrameL -/
import Derived.Test.YtldlmkfigjicgaaDoorCk17
import Derived.Test.YtldlmkfigjicgaaDoorCk07
import Derived.Test.YtldlmkfigjicgaaDoorCk02
import Derived.LaidMore
import Derived.Stop.Joined
import Derived.LaidLaws
import Derived.Handed
import Derived.Lib.LaidTab
import Derived.Stop.LaidErr
import Derived.Lib.ItoaNum
/- What a view tells is what its query tells of all that it was fed: plain. -/
namespace Go.Proofs.YtldlmkfigjicgaaDoor
set_option linter.unusedVariables false
set_option linter.unusedSimpArgs false

theorem VS.ok.tells {v : VS} (h : v.ok) : allE v.q v.T0 v.T1 = 0 ∧ evalX v.q v.T0 v.T1 = v.told := by
  have hb : basesE v.q v.T0 v.T1 = 0 := basesE_zero.2 ⟨h.qe, h.s0, h.s1, h.w0, h.w1⟩
  have ha : allE v.q v.T0 v.T1 = 0 := by unfold allE; rw [if_neg (by simp [hb]), h.gs]
  refine ⟨ha, ?_⟩
  unfold evalX allX VS.told
  rw [if_pos ha, h.gs]
theorem sumL_told {A B : List It} (hB : Strict B) : sumL (A ++ subL A B) = B := by
  have h := (subL_more A B).add
  rw [h, sumL_strict hB]
/-- A meal that is taken. -/
theorem VS.ok.eats {v : VS} (h : v.ok) {a b : List It} (he : v.feedE a b = 0) :
    addE v.T0 a = 0 ∧ addE v.T1 b = 0 ∧ addX v.T0 a = (v.fed a b).T0 ∧ addX v.T1 b = (v.fed a b).T1 ∧ sumL (v.told ++ v.more a b) = (v.fed a b).told := by
  obtain ⟨h1, h2, h3, h4⟩ := VS.feed_parts he
  refine ⟨h2, h3, ?_, ?_, ?_⟩
  · unfold addX; rw [if_pos h2, VS.fed_eq he]
  · unfold addX; rw [if_pos h3, VS.fed_eq he]
  · unfold VS.more
    rw [if_pos he, sumL_told (setI_zero.1 (VS.told_set (h.fed a b))).2.2]
theorem VS.fed_bad {v : VS} {a b : List It} (he : v.feedE a b ≠ 0) : v.fed a b = v ∧ v.more a b = [] := by
  unfold VS.fed VS.more
  rw [if_neg he, if_neg he]
  exact ⟨rfl, rfl⟩
/-- What is told and what is more may be totalled. -/
theorem VS.ok.more_small {v : VS} (h : v.ok) (a b : List It) : (v.told ++ v.more a b).length ≤ 1200 ∧ ∀ x ∈ v.told ++ v.more a b, x.1.length ≤ 8 ∧ ∀ n ∈ x.1, -1073741824 ≤ n ∧ n ≤ 1073741824 := by
  have hs := VS.told_set h
  obtain ⟨l1, l2, l3⟩ := setI_zero.1 hs
  have hbad : ∀ x ∈ v.told, x.1.length ≤ 8 ∧ ∀ n ∈ x.1, -1073741824 ≤ n ∧ n ≤ 1073741824 := fun x hx => by
    have hb := l2 x hx
    refine ⟨(badB_false hb).1, fun n hn => ?_⟩
    unfold badB at hb
    have h1 : rowB x.1 = true := by
      cases h : rowB x.1
      · rw [h] at hb; simp at hb
      · rfl
    unfold rowB at h1
    rw [Bool.and_eq_true] at h1
    have h2 := h1.2
    rw [Bool.not_eq_true', List.any_eq_false] at h2
    have h3 := h2 n hn
    unfold outB at h3
    rw [Bool.not_eq_true, Bool.or_eq_false_iff] at h3
    have e1 := of_decide_eq_false h3.1
    have e2 := of_decide_eq_false h3.2
    omega
  unfold VS.more
  split
  · have hf := VS.told_set (h.fed a b)
    obtain ⟨m1, m2⟩ := subL_bound hs hf
    refine ⟨by rw [List.length_append]; omega, fun x hx => ?_⟩
    rcases List.mem_append.1 hx with q | q
    · exact hbad x q
    · exact ⟨(m2 x q).2.1, (m2 x q).2.2.1⟩
  · rw [List.append_nil]
    exact ⟨by omega, hbad⟩
end Go.Proofs.YtldlmkfigjicgaaDoor
/- Arguments that are lists of meals of a view, as a claim reads them. -/
namespace Go.Proofs.YtldlmkfigjicgaaDoor
set_option linter.unusedVariables false
set_option linter.unusedSimpArgs false
open Go.ChangeShapes Go.WideShapes Go.ChangeAt Go.RowKit Go.Deep

/-- A meal: two lists. -/
structure FR where
  X : LR
  Y : LR
abbrev FR.cells (x : FR) : List Value := [.slice x.X.A x.X.L.length x.X.k, .slice x.Y.A x.Y.L.length x.Y.k]
theorem FR.len (x : FR) : x.cells.length = 2 := rfl
def FR.at_ (x : FR) (w : World) : Prop := (RowI w w.heap.size x.X.A x.X.L ∧ x.X.L.length ≤ 9223372036854775807) ∧ RowI w w.heap.size x.Y.A x.Y.L ∧ x.Y.L.length ≤ 9223372036854775807
theorem FR.at_.step {x : FR} {w w' : World} (h : x.at_ w) (hb : Below w.heap.size w w') : x.at_ w' := ⟨⟨h.1.1.step hb, h.1.2⟩, h.2.1.step hb, h.2.2⟩
theorem Row.fr {w : World} {B : Nat} {A : Option Addr} {l : List FR} (h : Row w B A (l.flatMap FR.cells)) {k : Nat} (hk : k < l.length) :
    ∃ b off, A = some ⟨b, off, none⟩ ∧ b < B ∧ w.cell? ⟨b, off + k * 2, none⟩ = some (.slice l[k].X.A l[k].X.L.length l[k].X.k) ∧ w.cell? ⟨b, off + k * 2 + 1, none⟩ = some (.slice l[k].Y.A l[k].Y.L.length l[k].Y.k) := by
  obtain ⟨b, off, h1, h2, h3⟩ := Row.flat FR.len h (by omega) hk
  exact ⟨b, off, h1, h2, h3 0 _ rfl, by rw [Nat.add_assoc]; exact h3 1 _ rfl⟩
set_option maxRecDepth 100000 in
theorem arg_foods {H : Type} {enc : TypeId × Value → H} {w : World} {r : Reach} {b0 base : Nat} {spare : Nat → Bool} {held : Bool} {v : Value} {d : DataW H} {p : List MemPlace}
    (hv : Value.okWide Tryd.prog w r b0 33 v) (h : DataW.Trod enc Tryd.prog w base spare held 33 v d p) :
    ∃ (A : Option Addr) (k : Nat) (l : List FR), v = .slice A l.length k ∧ Row w w.heap.size A (l.flatMap FR.cells) ∧ (∀ z ∈ l, z.at_ w) ∧ l.length ≤ 9223372036854775807 := by
  obtain ⟨a, n, c, rfl⟩ := okWide_slice Tryd.underlying33 hv
  obtain ⟨m, hm⟩ := h
  obtain ⟨A, k, M, e, hr, hq, hl, -⟩ := open_each (f := FR.cells) (Q := fun z : FR => z.at_ w) FR.len (by decide) Tryd.underlying33 (by kernel_rfl) (fun n cs y hy => by
    obtain ⟨a, b, e, ha, hb⟩ := open_food hy
    exact ⟨⟨a, b⟩, ⟨ha, hb⟩, e⟩) hm
  simp only [Value.cells, List.cons.injEq, and_true] at e
  exact ⟨A, k, M, e, hr, hq, hl⟩
end Go.Proofs.YtldlmkfigjicgaaDoor
/- The frame of a law whose row lists the library's tables. No law in sight. -/
namespace Go.Proofs.YtldlmkfigjicgaaDoor
set_option linter.unusedVariables false
open Go.ChangeShapes Go.WideShapes Go.ChangeAt Go.RowKit

/-- The tables that the rows of this seat list. -/
abbrev listed : List (String × DataW Unit) := [("math/bits.deBruijn32tab", Rows.laid_math_bits_deBruijn32tab), ("math/bits.deBruijn64tab", Rows.laid_math_bits_deBruijn64tab), ("internal/strconv.uint64pow10", Rows.laid_internal_strconv_uint64pow10)]
theorem pow_data : (Rows.laid_internal_strconv_uint64pow10 : DataW Unit) = Lib.tabData .u64 Lib.pow10Tab := by kernel_rfl
theorem pow_named : Tryd.prog.globalNamed "internal/strconv.uint64pow10" = some 0 := by kernel_rfl
theorem pow_type : (Tryd.prog.globals[0]?).map (·.type) = some 160 := by kernel_rfl
theorem pow_of_laid {W : World} (h : laidMetH Tryd.prog listed W) : Lib.TabIs Tryd.prog W "internal/strconv.uint64pow10" .u64 Lib.pow10Tab := by
  rw [MakeChecks.laidMetH_plain _ _ _ (by kernel_rfl)] at h
  have h2 := h.tail.tail
  rw [pow_data] at h2
  exact Lib.tabIs_of_head pow_named pow_type Tryd.underlying160 Tryd.underlying118 (by kernel_rfl) (by kernel_rfl) h2
theorem door_met (os : Os) (args : Array Value) : laidMetH Tryd.prog listed ((World.doorLaid Tryd.prog 24 os).forCall (fun _ _ => 0) ⟨#[], args, []⟩).memory :=
  laidMetH_of_parts3 (fuel := 8) (laidMet_of_run' 8 (by kernel_rfl) (by kernel_rfl)) (by kernel_rfl) (by kernel_rfl)
section
variable {H : Type} {enc : TypeId × Value → H}
theorem law_lifted_laid {C : Checked} {os : Os} {f : FuncId} {fn : Func} {s : ChangeSpec} {L : List (String × DataW Unit)} {tb : TypeId}
    (own : ownKnob C.prog.godebug = none) (started : os.Started) (noInit : C.prog.inits.idxOf? f = none) (hfn : C.prog.funcs[f]? = some fn)
    (witness : ∃ (w : World) (tape : Tape) (i : Input), w.os = os ∧ (w.forCall tape i).Shaped C.prog ∧ i.vars = [] ∧ Input.okWide C.prog (w.forCall tape i) .any w.heap.size f i ∧
      ((s.pre enc C.prog fn [] false (w.forCall tape i).memory i.args ∧ laidMetH C.prog L (w.forCall tape i).memory) ∧ sizedMet enc C.prog fn (OpenSpec.ofChange s) false (w.forCall tape i).memory i.args) ∧ ({} : Assume).holds C.prog (lone (Frame.enter C.prog f i.args .normal) [] (w.forCall tape i)))
    (hl : laidOutB C.prog = true) (hts : ∀ t ∈ fn.params.toList, C.prog.readableRec t = true ∧ t < C.prog.types.size) (hres : fn.resultTypes = #[tb]) (hbool : C.prog.underlying tb = some .bool) (hvars : s.vars = [])
    (hspec : ∀ es : List (DataW H), es.length = fn.params.toList.length → s.fn H es = { results := [.lit (.bool true)], args := es })
    (walk : ∀ (W : World) (base : Nat) (args : Array Value) (ds : List (DataW H)) (ps : List MemPlace),
      (∀ (j : Nat) t v, fn.params[j]? = some t → args[j]? = some v → Value.okWide C.prog W .any base t v) → DataW.TrodAll enc C.prog W 0 (fun _ => true) true fn.params.toList args.toList ds ps → laidMetH C.prog L W →
      Calls C.prog f args W fun e W' => e = .returned (.bool true) ∧ Below W.heap.size W W') :
    ReturnsInHanded {} C os f .any (fun w args => (s.pre enc C.prog fn [] false w args ∧ laidMetH C.prog L w) ∧ sizedMet enc C.prog fn (OpenSpec.ofChange s) false w args) (s.post enc C.prog fn false true false false) := by
  refine returnsInHanded_of_change_and (C := C) (X := fun w _ => laidMetH C.prog L w) (fun _ _ _ hh h => laidMetH.of_heap hh h) own started noInit hfn witness ?_
  intro W base args ds gs before hval hW _ _ hL _
  have hW' := hW
  obtain ⟨p, q, hA, _⟩ := hW
  refine (walk W base args ds p hval hA hL).mono fun e W' ⟨he, hb⟩ => ?_
  exact ⟨_, he, law_post hl hts hres hbool hvars hspec hW' hb⟩
end
end Go.Proofs.YtldlmkfigjicgaaDoor
