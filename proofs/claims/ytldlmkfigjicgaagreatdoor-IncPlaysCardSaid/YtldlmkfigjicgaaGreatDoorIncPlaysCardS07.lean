/- OpenS, OpenK, OpenL, ZgP, PlQ, PlR, IncP -/
import Derived.Test.YtldlmkfigjicgaaGreatDoorIncPlaysCardS06
/- Arguments that are queries, as a claim reads them. -/
namespace Go.Proofs.YtldlmkfigjicgaaGreatDoor
set_option linter.unusedVariables false
set_option linter.unusedSimpArgs false
open Go.ChangeShapes Go.WideShapes Go.ChangeAt Go.RowKit Go.Deep

set_option maxRecDepth 100000 in
theorem open_step {H : Type} {enc : TypeId × Value → H} {w : World} {base n : Nat} {spare : Nat → Bool} {held : Bool} {cs : List Value} {x : DataW H × List MemPlace}
    (h : DataW.trod enc Tryz.prog w base spare held n 89 cs = some x) : ∃ z : SR, (Row w w.heap.size z.A (icells' z.st.list) ∧ z.st.list.length ≤ 9223372036854775807) ∧ cs = z.cells := by
  obtain ⟨xs, n', _, hx, hlen, hxl, hf⟩ := DataW.trod_struct Tryz.underlying89 h
  have c2 : Tryz.prog.cellsOf 89 = 7 := by kernel_rfl
  have c1 : Tryz.prog.cellsOf 30 = 1 := by kernel_rfl
  have c1' : Tryz.prog.cellsOf 3 = 1 := by kernel_rfl
  rw [c2] at hlen
  match cs, hlen with
  | [u0, u1, u2, u3, u4, u5, u6], _ =>
    match xs, hxl with
    | [y0, y1, y2, y3, y4, y5, y6], _ =>
      have h0 := hf 0 _ rfl
      have h1 := hf 1 _ rfl
      have h2 := hf 2 _ rfl
      have h3 := hf 3 _ rfl
      have h4 := hf 4 _ rfl
      have h5 := hf 5 _ rfl
      have h6 := hf 6 _ rfl
      simp only [List.getElem_toArray, List.getElem_cons_zero, List.getElem_cons_succ, List.getElem?_cons_zero, List.getElem?_cons_succ] at h0 h1 h2 h3 h4 h5 h6
      simp only [c1, c1', List.drop_zero, List.take_succ_cons, List.take_zero, List.drop_succ_cons] at h0 h1 h2 h3 h4 h5 h6
      obtain ⟨z0, e0, _⟩ := DataW.trod_int Tryz.underlying3 h0
      obtain ⟨z1, e1, _⟩ := DataW.trod_int Tryz.underlying3 h1
      obtain ⟨z2, e2, _⟩ := DataW.trod_int Tryz.underlying3 h2
      obtain ⟨z3, e3, _⟩ := DataW.trod_int Tryz.underlying3 h3
      obtain ⟨z4, e4, _⟩ := DataW.trod_int Tryz.underlying3 h4
      obtain ⟨z5, e5, _⟩ := DataW.trod_int Tryz.underlying3 h5
      obtain ⟨A, k, l, e6, r0, l0, -⟩ := open_ints_cells h6
      injection e0 with e0
      injection e1 with e1
      injection e2 with e2
      injection e3 with e3
      injection e4 with e4
      injection e5 with e5
      injection e6 with e6
      subst e0 e1 e2 e3 e4 e5 e6
      exact ⟨⟨⟨z0, z1, z2, z3, z4, z5, l⟩, A, k⟩, ⟨r0, l0⟩, rfl⟩
set_option maxRecDepth 100000 in
theorem arg_steps {H : Type} {enc : TypeId × Value → H} {w : World} {r : Reach} {b0 base : Nat} {spare : Nat → Bool} {held : Bool} {v : Value} {d : DataW H} {p : List MemPlace}
    (hv : Value.okWide Tryz.prog w r b0 43 v) (h : DataW.Trod enc Tryz.prog w base spare held 43 v d p) :
    ∃ (A : Option Addr) (k : Nat) (L : List SR), v = .slice A L.length k ∧ RowS w w.heap.size A L ∧ L.length ≤ 9223372036854775807 := by
  obtain ⟨a, n, c, rfl⟩ := okWide_slice Tryz.underlying43 hv
  obtain ⟨m, hm⟩ := h
  obtain ⟨A, k, L, e, hr, hq, hl, -⟩ := open_each (f := SR.cells) (Q := fun z : SR => Row w w.heap.size z.A (icells' z.st.list) ∧ z.st.list.length ≤ 9223372036854775807) SR.len (by decide) Tryz.underlying43 (by kernel_rfl) (fun n cs y hy => open_step hy) hm
  simp only [Value.cells, List.cons.injEq, and_true] at e
  exact ⟨A, k, L, e, ⟨hr, hq⟩, hl⟩
end Go.Proofs.YtldlmkfigjicgaaGreatDoor
/- Arguments that are meals of a view, as a claim reads them. -/
namespace Go.Proofs.YtldlmkfigjicgaaGreatDoor
set_option linter.unusedVariables false
set_option linter.unusedSimpArgs false
open Go.ChangeShapes Go.WideShapes Go.ChangeAt Go.RowKit Go.Deep

set_option maxRecDepth 100000 in
theorem open_its {H : Type} {enc : TypeId × Value → H} {w : World} {base n : Nat} {spare : Nat → Bool} {held : Bool} {cs : List Value} {x : DataW H × List MemPlace}
    (h : DataW.trod enc Tryz.prog w base spare held n 22 cs = some x) : ∃ y : LR, cs = y.cells ∧ RowI w w.heap.size y.A y.L ∧ y.L.length ≤ 9223372036854775807 := by
  obtain ⟨A, k, M, e, hr, hq, hl, -⟩ := open_each (f := IR.cells) (Q := fun z : IR => Row w w.heap.size z.A (icells' z.row) ∧ z.row.length ≤ 9223372036854775807) IR.len (by decide) Tryz.underlying22 (by kernel_rfl) (fun n cs y hy => open_item hy) h
  exact ⟨⟨M, A, k⟩, e, ⟨hr, hq⟩, hl⟩
set_option maxRecDepth 100000 in
theorem open_food {H : Type} {enc : TypeId × Value → H} {w : World} {base n : Nat} {spare : Nat → Bool} {held : Bool} {cs : List Value} {x : DataW H × List MemPlace}
    (h : DataW.trod enc Tryz.prog w base spare held n 60 cs = some x) :
    ∃ a b : LR, cs = [.slice a.A a.L.length a.k, .slice b.A b.L.length b.k] ∧ (RowI w w.heap.size a.A a.L ∧ a.L.length ≤ 9223372036854775807) ∧ RowI w w.heap.size b.A b.L ∧ b.L.length ≤ 9223372036854775807 := by
  obtain ⟨xs, n', _, hx, hlen, hxl, hf⟩ := DataW.trod_struct Tryz.underlying60 h
  have c2 : Tryz.prog.cellsOf 60 = 2 := by kernel_rfl
  have c1 : Tryz.prog.cellsOf 22 = 1 := by kernel_rfl
  rw [c2] at hlen
  match cs, hlen with
  | [u0, u1], _ =>
    match xs, hxl with
    | [y0, y1], _ =>
      have h0 := hf 0 _ rfl
      have h1 := hf 1 _ rfl
      simp only [List.getElem_toArray, List.getElem_cons_zero, List.getElem_cons_succ, List.getElem?_cons_zero, List.getElem?_cons_succ] at h0 h1
      simp only [c1, List.drop_zero, List.take_succ_cons, List.take_zero, List.drop_succ_cons] at h0 h1
      obtain ⟨a, ea, ra, la⟩ := open_its h0
      obtain ⟨b, eb, rb, lb⟩ := open_its h1
      simp only [LR.cells, List.cons.injEq, and_true] at ea eb
      subst ea
      subst eb
      exact ⟨a, b, rfl, ⟨ra, la⟩, rb, lb⟩
end Go.Proofs.YtldlmkfigjicgaaGreatDoor
/- Arguments that are lists of meals of a view, as a claim reads them. -/
namespace Go.Proofs.YtldlmkfigjicgaaGreatDoor
set_option linter.unusedVariables false
set_option linter.unusedSimpArgs false
open Go.ChangeShapes Go.WideShapes Go.ChangeAt Go.RowKit Go.Deep

/-- A meal: two lists. -/
structure FR where
  X : LR
  Y : LR
abbrev FR.cells (x : FR) : List Value := [.slice x.X.A x.X.L.length x.X.k, .slice x.Y.A x.Y.L.length x.Y.k]
theorem FR.len (x : FR) : x.cells.length = 2 := rfl
def FR.at_ (x : FR) (w : World) : Prop := (RowI w w.heap.size x.X.A x.X.L ∧ x.X.L.length ≤ 9223372036854775807) ∧ RowI w w.heap.size x.Y.A x.Y.L ∧ x.Y.L.length ≤ 9223372036854775807
theorem FR.at_.step {x : FR} {w w' : World} (h : x.at_ w) (hb : Below w.heap.size w w') : x.at_ w' := ⟨⟨h.1.1.step hb, h.1.2⟩, h.2.1.step hb, h.2.2⟩
theorem Row.fr {w : World} {B : Nat} {A : Option Addr} {l : List FR} (h : Row w B A (l.flatMap FR.cells)) {k : Nat} (hk : k < l.length) :
    ∃ b off, A = some ⟨b, off, none⟩ ∧ b < B ∧ w.cell? ⟨b, off + k * 2, none⟩ = some (.slice l[k].X.A l[k].X.L.length l[k].X.k) ∧ w.cell? ⟨b, off + k * 2 + 1, none⟩ = some (.slice l[k].Y.A l[k].Y.L.length l[k].Y.k) := by
  obtain ⟨b, off, h1, h2, h3⟩ := Row.flat FR.len h (by omega) hk
  exact ⟨b, off, h1, h2, h3 0 _ rfl, by rw [Nat.add_assoc]; exact h3 1 _ rfl⟩
set_option maxRecDepth 100000 in
theorem arg_foods {H : Type} {enc : TypeId × Value → H} {w : World} {r : Reach} {b0 base : Nat} {spare : Nat → Bool} {held : Bool} {v : Value} {d : DataW H} {p : List MemPlace}
    (hv : Value.okWide Tryz.prog w r b0 50 v) (h : DataW.Trod enc Tryz.prog w base spare held 50 v d p) :
    ∃ (A : Option Addr) (k : Nat) (l : List FR), v = .slice A l.length k ∧ Row w w.heap.size A (l.flatMap FR.cells) ∧ (∀ z ∈ l, z.at_ w) ∧ l.length ≤ 9223372036854775807 := by
  obtain ⟨a, n, c, rfl⟩ := okWide_slice Tryz.underlying50 hv
  obtain ⟨m, hm⟩ := h
  obtain ⟨A, k, M, e, hr, hq, hl, -⟩ := open_each (f := FR.cells) (Q := fun z : FR => z.at_ w) FR.len (by decide) Tryz.underlying50 (by kernel_rfl) (fun n cs y hy => by
    obtain ⟨a, b, e, ha, hb⟩ := open_food hy
    exact ⟨⟨a, b⟩, ⟨ha, hb⟩, e⟩) hm
  simp only [Value.cells, List.cons.injEq, and_true] at e
  exact ⟨A, k, M, e, hr, hq, hl⟩
end Go.Proofs.YtldlmkfigjicgaaGreatDoor
/- Sets with weights are a group: the plain law. -/
namespace Go.Proofs.YtldlmkfigjicgaaGreatDoor
set_option linter.unusedVariables false
set_option linter.unusedSimpArgs false

theorem addE_sets {a b : List It} (h1 : setI a = 0) (h2 : setI b = 0) : addE a b = doneE (sumL (a ++ b)) := by
  unfold addE; rw [if_neg (by simp [h1]), if_neg (by simp [h2])]
theorem add_comm {a b : List It} (h1 : setI a = 0) (h2 : setI b = 0) : addE a b = addE b a ∧ addX a b = addX b a := by
  have e : addE a b = addE b a := by rw [addE_sets h1 h2, addE_sets h2 h1, sumL_comm]
  exact ⟨e, by unfold addX; rw [e, sumL_comm]⟩
theorem add_set {a b : List It} (h1 : setI a = 0) (h2 : setI b = 0) (h : addE a b = 0) : setI (addX a b) = 0 ∧ addX a b = sumL (a ++ b) := by
  have e : addX a b = sumL (a ++ b) := by unfold addX; rw [if_pos h]
  rw [addE_sets h1 h2] at h
  exact ⟨by rw [e]; exact done_set h, e⟩
theorem add_assoc {a b c : List It} (h1 : setI a = 0) (h2 : setI b = 0) (h3 : setI c = 0) (h4 : addE a b = 0) (h5 : addE b c = 0) : addE (addX a b) c = addE a (addX b c) ∧ addX (addX a b) c = addX a (addX b c) := by
  obtain ⟨s1, e1⟩ := add_set h1 h2 h4
  obtain ⟨s2, e2⟩ := add_set h2 h3 h5
  have k : sumL (addX a b ++ c) = sumL (a ++ addX b c) := by
    rw [e1, e2, sumL_app_sumL, sumL_comm a (sumL (b ++ c)), sumL_app_sumL, sumL_comm (b ++ c) a, List.append_assoc]
  have e : addE (addX a b) c = addE a (addX b c) := by rw [addE_sets s1 h3, addE_sets h1 s2, k]
  exact ⟨e, by unfold addX at k ⊢; rw [show addX a b = if addE a b = 0 then sumL (a ++ b) else [] from rfl, show addX b c = if addE b c = 0 then sumL (b ++ c) else [] from rfl] at e; rw [e, k]⟩
end Go.Proofs.YtldlmkfigjicgaaGreatDoor
/- Queries over sets with weights: the plain laws of PlainParts and PlainLinear. No program in sight. -/
namespace Go.Proofs.YtldlmkfigjicgaaGreatDoor
set_option linter.unusedVariables false
set_option linter.unusedSimpArgs false

def wv (s : St) (W : List Int) : Int := if s.kind = 1 then 4 else if s.kind = 3 then (s.list.length : Int) else if s.kind = 4 then W.getD s.a.toNat 0 + W.getD s.b.toNat 0 else if s.kind = 8 ∨ s.kind = 9 then 2 else W.getD s.a.toNat 0
theorem stW_val {s : St} {W : List Int} (h : stW s W ≠ 0) : stW s W = wv s W := by
  unfold stW at h ⊢
  unfold wv
  by_cases h1 : s.kind = 1
  · rw [if_pos h1] at h ⊢
    rw [if_pos h1]
    split at h
    · rename_i e; rw [if_pos e]
    · exact absurd rfl h
  · rw [if_neg h1] at h ⊢
    rw [if_neg h1]
    split at h
    · exact absurd rfl h
    · rename_i e
      rw [if_neg e]
      unfold ofW at h ⊢
      generalize W.getD s.a.toNat 0 = x at *
      generalize W.getD s.b.toNat 0 = y at *
      by_cases k2 : s.kind = 2
      · rw [if_pos k2] at h ⊢
        split at h
        · rename_i e; rw [if_pos e, if_neg (show ¬ s.kind = 3 by omega), if_neg (show ¬ s.kind = 4 by omega), if_neg (show ¬ (s.kind = 8 ∨ s.kind = 9) by omega)]
        · exact absurd rfl h
      · rw [if_neg k2] at h ⊢
        by_cases k3 : s.kind = 3
        · rw [if_pos k3] at h ⊢
          split at h
          · rename_i e; rw [if_pos e, if_pos k3]
          · exact absurd rfl h
        · rw [if_neg k3] at h ⊢
          by_cases k4 : s.kind = 4
          · rw [if_pos k4] at h ⊢
            split at h
            · rename_i e; rw [if_pos e, if_neg (show ¬ s.kind = 3 by omega), if_pos k4]
            · exact absurd rfl h
          · rw [if_neg k4] at h ⊢
            by_cases k5 : s.kind = 5 ∨ s.kind = 6
            · rw [if_pos k5] at h ⊢
              split at h
              · rename_i e; rw [if_pos e, if_neg (show ¬ s.kind = 3 by omega), if_neg (show ¬ s.kind = 4 by omega), if_neg (show ¬ (s.kind = 8 ∨ s.kind = 9) by omega)]
              · exact absurd rfl h
            · rw [if_neg k5] at h ⊢
              by_cases k7 : s.kind = 7
              · rw [if_pos k7] at h ⊢
                split at h
                · rename_i e; rw [if_pos e, if_neg (show ¬ s.kind = 3 by omega), if_neg (show ¬ s.kind = 4 by omega), if_neg (show ¬ (s.kind = 8 ∨ s.kind = 9) by omega)]
                · exact absurd rfl h
              · rw [if_neg k7] at h ⊢
                by_cases k8 : s.kind = 8
                · rw [if_pos k8] at h ⊢
                  split at h
                  · rename_i e; rw [if_pos e, if_neg (show ¬ s.kind = 3 by omega), if_neg (show ¬ s.kind = 4 by omega), if_pos (show s.kind = 8 ∨ s.kind = 9 by omega)]
                  · exact absurd rfl h
                · rw [if_neg k8] at h ⊢
                  by_cases k9 : s.kind = 9
                  · rw [if_pos k9] at h ⊢
                    split at h
                    · rename_i e; rw [if_pos e, if_neg (show ¬ s.kind = 3 by omega), if_neg (show ¬ s.kind = 4 by omega), if_pos (show s.kind = 8 ∨ s.kind = 9 by omega)]
                    · exact absurd rfl h
                  · rw [if_neg k9] at h; exact absurd rfl h
/-- Right sets, of given widths. -/
def OkOut (out : List (List It)) (W : List Int) : Prop := out.length = W.length ∧ ∀ j, j < out.length → setI (out.getD j []) = 0 ∧ ∀ x ∈ out.getD j [], (x.1.length : Int) = W.getD j 0
theorem okOut_nil : OkOut [] [] := ⟨rfl, fun j h => by simp at h⟩
theorem OkOut.snoc {out : List (List It)} {W : List Int} (h : OkOut out W) {S : List It} {v : Int} (h1 : setI S = 0) (h2 : ∀ x ∈ S, (x.1.length : Int) = v) : OkOut (out ++ [S]) (W ++ [v]) := by
  obtain ⟨h3, h4⟩ := h
  refine ⟨by simp [h3], fun j hj => ?_⟩
  by_cases q : j < out.length
  · have e1 : (out ++ [S]).getD j [] = out.getD j [] := by simp [List.getD, List.getElem?_append_left q]
    have e2 : (W ++ [v]).getD j 0 = W.getD j 0 := by simp [List.getD, List.getElem?_append_left (h3 ▸ q : j < W.length)]
    rw [e1, e2]
    exact h4 j q
  · have e : j = out.length := by simp at hj; omega
    subst e
    have e1 : (out ++ [S]).getD out.length [] = S := by simp [List.getD]
    have e2 : (W ++ [v]).getD out.length 0 = v := by rw [h3]; simp [List.getD]
    rw [e1, e2]
    exact ⟨h1, h2⟩
theorem OkOut.get {out : List (List It)} {W : List Int} (h : OkOut out W) {i : Int} (h0 : 0 ≤ i) (h1 : i < W.length) : setI (out.getD i.toNat []) = 0 ∧ ∀ x ∈ out.getD i.toNat [], (x.1.length : Int) = W.getD i.toNat 0 := h.2 i.toNat (by rw [h.1]; omega)
theorem atL_wide {s : St} {W : List Int} {out : List (List It)} {ta tb : List It} (h : stW s W ≠ 0) (ho : OkOut out W) (ha : ∀ x ∈ ta, x.1.length = 4) (hb : ∀ x ∈ tb, x.1.length = 4) : ∀ x ∈ atL ta tb s out, (x.1.length : Int) = stW s W := by
  rw [stW_val h]
  intro x hx
  unfold atL at hx
  unfold wv
  rcases stW_ok h with ⟨k1, ka⟩ | ⟨a0, a1, b0, b1, hk⟩
  · rw [if_pos k1] at hx ⊢
    split at hx
    · have := ha x hx; omega
    · have := hb x hx; omega
  · obtain ⟨-, hA⟩ := ho.get a0 a1
    obtain ⟨-, hB⟩ := ho.get b0 b1
    have n1 : s.kind ≠ 1 := by omega
    rw [if_neg n1] at hx ⊢
    generalize out.getD s.a.toNat [] = A at *
    generalize out.getD s.b.toNat [] = B at *
    generalize W.getD s.a.toNat 0 = u at *
    generalize W.getD s.b.toNat 0 = v at *
    unfold stL linB linL at hx
    rcases hk with ⟨k, -⟩ | ⟨k, -⟩ | ⟨k, -⟩ | ⟨k, e⟩ | k | ⟨k, -⟩ | ⟨k, -⟩
    · rw [if_pos (by simp [k]), if_pos k] at hx
      rw [if_neg (by omega), if_neg (by omega), if_neg (by omega)]
      exact hA x (List.mem_filter.1 hx).1
    · rw [if_pos (by simp [k]), if_neg (by omega), if_pos k] at hx
      rw [if_pos k]
      obtain ⟨y, hy, rfl⟩ := List.mem_map.1 hx
      simp [pickR]
    · rw [if_neg (by simp [k]), if_pos k] at hx
      rw [if_neg (by omega), if_pos k]
      obtain ⟨y, hy, hx⟩ := List.mem_flatMap.1 hx
      obtain ⟨z, hz, rfl⟩ := List.mem_map.1 hx
      have := hA y hy
      have := hB z (List.mem_filter.1 hz).1
      simp only [List.length_append]
      omega
    · rw [if_pos (by rcases k with k | k <;> simp [k]), if_neg (by omega), if_neg (by omega)] at hx
      rw [if_neg (by omega), if_neg (by omega), if_neg (by omega)]
      have key : x ∈ A ∨ ∃ y ∈ B, y.1 = x.1 := by
        rcases k with k | k
        · rw [if_pos k] at hx
          rcases List.mem_append.1 hx with q | q
          · exact .inl q
          · exact .inr ⟨x, q, rfl⟩
        · rw [if_neg (by omega), if_pos k] at hx
          rcases List.mem_append.1 hx with q | q
          · exact .inl q
          · obtain ⟨y, hy, rfl⟩ := List.mem_map.1 q
            exact .inr ⟨y, hy, rfl⟩
      rcases key with q | ⟨y, hy, e2⟩
      · exact hA x q
      · rw [← e2, e]; exact hB y hy
    · rw [if_neg (by simp [k]), if_neg (by omega), if_pos k] at hx
      rw [if_neg (by omega), if_neg (by omega), if_neg (by omega)]
      obtain ⟨y, hy, rfl⟩ := List.mem_map.1 hx
      exact hA y (List.mem_filter.1 hy).1
    · rw [if_neg (by simp [k]), if_neg (by omega), if_neg (by omega), if_pos (by omega)] at hx
      rw [if_neg (by omega), if_neg (by omega), if_pos (by omega)]
      obtain ⟨y, hy, hx⟩ := List.mem_flatMap.1 hx
      unfold toldL at hx
      split at hx
      · simp at hx
      · rw [List.mem_singleton.1 hx]; rfl
    · rw [if_neg (by simp [k]), if_neg (by omega), if_neg (by omega), if_pos (by omega)] at hx
      rw [if_neg (by omega), if_neg (by omega), if_pos (by omega)]
      obtain ⟨y, hy, hx⟩ := List.mem_flatMap.1 hx
      unfold toldL at hx
      split at hx
      · simp at hx
      · rw [List.mem_singleton.1 hx]; rfl
theorem setsG_ok {ta tb : List It} (ha : ∀ x ∈ ta, x.1.length = 4) (hb : ∀ x ∈ tb, x.1.length = 4) : ∀ {q : List St} {out : List (List It)} {W V : List Int}, widsL q W = some V → OkOut out W → (setsG ta tb q out).1 = 0 → OkOut (setsG ta tb q out).2 V
  | [], out, W, V, h, ho, _ => by
    rw [widsL] at h; injection h with h; subst h; exact ho
  | s :: q, out, W, V, h, ho, h0 => by
    rw [widsL] at h
    rw [setsG] at h0 ⊢
    by_cases e : stW s W = 0
    · rw [if_pos e] at h; cases h
    · rw [if_neg e] at h
      by_cases d : doneE (sumL (atL ta tb s out)) ≠ 0
      · rw [if_pos d] at h0; exact absurd h0 d
      · rw [if_neg d] at h0 ⊢
        refine setsG_ok ha hb h (ho.snoc (done_set (by omega)) fun x hx => ?_) h0
        obtain ⟨y, hy, e2⟩ := sumL_mem hx
        rw [← e2]
        exact atL_wide e ho ha hb y hy
theorem allE_zero {q : List St} {a b : List It} : allE q a b = 0 ↔ basesE q a b = 0 ∧ (setsG a b q []).1 = 0 := by
  unfold allE
  constructor
  · intro h
    by_cases e : basesE q a b ≠ 0
    · rw [if_pos e] at h; exact absurd h e
    · rw [if_neg e] at h; exact ⟨by omega, h⟩
  · rintro ⟨h1, h2⟩
    rw [if_neg (by simp [h1]), h2]
theorem allX_zero {q : List St} {a b : List It} (h : allE q a b = 0) : allX q a b = (setsG a b q []).2 := by unfold allX; rw [if_pos h]
theorem all_ok {q : List St} {a b : List It} (h : allE q a b = 0) : ∃ W, widsL q [] = some W ∧ OkOut (allX q a b) W ∧ (allX q a b).length = q.length ∧ 0 < q.length := by
  obtain ⟨h1, h2⟩ := allE_zero.1 h
  obtain ⟨b1, b2, b3, b4, b5⟩ := basesE_zero.1 h1
  obtain ⟨q1, q2, W, q3⟩ := queryE_zero.1 b1
  rw [allX_zero h]
  refine ⟨W, q3, setsG_ok b4 b5 q3 okOut_nil h2, ?_, q1⟩
  rw [(setsG_len a b q [] h2).1]; simp
/-! the first steps alone -/
theorem getD_last {α : Type} (l : List α) (d : α) (h : 0 < l.length) : l.getD (l.length - 1) d = l.getLastD d := by
  rw [List.getLastD_eq_getLast?, List.getLast?_eq_getElem?]; rfl
/-! what is linear -/
def Lin3 (X Y Z : List (List It)) : Prop := X.length = Z.length ∧ Y.length = Z.length ∧ ∀ j r, wt (Z.getD j []) r = wt (X.getD j [] ++ Y.getD j []) r
theorem wt_trans {a b c : List It} (h1 : ∀ r, wt a r = wt b r) (h2 : ∀ r, wt b r = wt c r) : ∀ r, wt a r = wt c r := fun r => (h1 r).trans (h2 r)
theorem Lin3.snoc {X Y Z : List (List It)} (h : Lin3 X Y Z) {x y z : List It} (hw : ∀ r, wt z r = wt (x ++ y) r) : Lin3 (X ++ [sumL x]) (Y ++ [sumL y]) (Z ++ [sumL z]) := by
  obtain ⟨h1, h2, h3⟩ := h
  refine ⟨by simp [h1], by simp [h2], fun j r => ?_⟩
  by_cases q : j < Z.length
  · have e1 : (X ++ [sumL x]).getD j [] = X.getD j [] := by simp [List.getD, List.getElem?_append_left (show j < X.length by omega)]
    have e2 : (Y ++ [sumL y]).getD j [] = Y.getD j [] := by simp [List.getD, List.getElem?_append_left (show j < Y.length by omega)]
    have e3 : (Z ++ [sumL z]).getD j [] = Z.getD j [] := by simp [List.getD, List.getElem?_append_left q]
    rw [e1, e2, e3]
    exact h3 j r
  · by_cases e : j = Z.length
    · subst e
      have e1 : (X ++ [sumL x]).getD Z.length [] = sumL x := by rw [← h1]; simp [List.getD]
      have e2 : (Y ++ [sumL y]).getD Z.length [] = sumL y := by rw [← h2]; simp [List.getD]
      have e3 : (Z ++ [sumL z]).getD Z.length [] = sumL z := by simp [List.getD]
      rw [e1, e2, e3]
      exact wt_trans (wt_sumL z) (wt_trans hw fun r => (wt_app (wt_sumL x) (wt_sumL y) r).symm) r
    · have e1 : (X ++ [sumL x]).getD j [] = [] := by rw [List.getD_eq_getElem?_getD, List.getElem?_eq_none (by simp; omega)]; rfl
      have e2 : (Y ++ [sumL y]).getD j [] = [] := by rw [List.getD_eq_getElem?_getD, List.getElem?_eq_none (by simp; omega)]; rfl
      have e3 : (Z ++ [sumL z]).getD j [] = [] := by rw [List.getD_eq_getElem?_getD, List.getElem?_eq_none (by simp; omega)]; rfl
      rw [e1, e2, e3]; rfl
end Go.Proofs.YtldlmkfigjicgaaGreatDoor
/- Queries over sets with weights: bounds of a step's list. No program in sight. -/
namespace Go.Proofs.YtldlmkfigjicgaaGreatDoor
set_option linter.unusedVariables false
set_option linter.unusedSimpArgs false

theorem badB_bound {x : It} (h : badB x = false) : x.1.length ≤ 8 ∧ (∀ z ∈ x.1, -1073741824 ≤ z ∧ z ≤ 1073741824) ∧ -1048576 ≤ x.2 ∧ x.2 ≤ 1048576 := by
  obtain ⟨h1, h2⟩ := badB_false h
  refine ⟨h1, fun z hz => ?_, h2⟩
  unfold badB rowB at h
  simp only [Bool.or_eq_false_iff, Bool.not_eq_false', Bool.and_eq_true, List.any_eq_false, Bool.not_eq_true'] at h
  have := h.1.2
  have h3 := this z hz
  unfold outB at h3
  simp only [Bool.or_eq_true, decide_eq_true_eq, not_or] at h3
  omega
theorem widsL_cons {s : St} {q : List St} {V W : List Int} (h : widsL (s :: q) V = some W) : stW s V ≠ 0 ∧ widsL q (V ++ [stW s V]) = some W := by
  rw [widsL] at h
  by_cases e : stW s V = 0
  · rw [if_pos e] at h; cases h
  · rw [if_neg e] at h; exact ⟨e, h⟩
theorem flat_le {α β : Type} (f : α → List β) (n : Nat) : ∀ (l : List α), (∀ x ∈ l, (f x).length ≤ n) → (l.flatMap f).length ≤ l.length * n
  | [], _ => by simp
  | x :: l, h => by
    rw [List.flatMap_cons, List.length_append, List.length_cons, Nat.succ_mul]
    have := h x (List.mem_cons_self ..)
    have := flat_le f n l fun y hy => h y (List.mem_cons_of_mem _ hy)
    omega
theorem stL_len (s : St) {A B : List It} (ha : A.length ≤ 400) (hb : B.length ≤ 400) : (stL s A B).length ≤ 160000 := by
  unfold stL
  split
  · unfold linL
    split
    · exact Nat.le_trans (List.length_filter_le _ _) (by omega)
    · split
      · unfold pickL; rw [List.length_map]; omega
      · split
        · rw [List.length_append]; omega
        · split
          · rw [List.length_append, negL, List.length_map]; omega
          · simp
  · split
    · have := flat_le (fun x : It => (B.filter (fun y => decide (colD y.1 s.val = colD x.1 s.col))).map (fun y => (x.1 ++ y.1, wrp (x.2 * y.2)))) 400 A fun x _ => by
        rw [List.length_map]; exact Nat.le_trans (List.length_filter_le _ _) hb
      have h2 := Nat.mul_le_mul_right 400 ha
      unfold joinL
      omega
    · split
      · unfold distL; rw [List.length_map]; exact Nat.le_trans (List.length_filter_le _ _) (by omega)
      · split
        · have := flat_le (fun k => toldL s k (grpN s A k) (grpS s A k)) 1 (keysG s A) fun x _ => by
            unfold toldL; split <;> simp
          have h2 := dedupI_len (A.map (fun x => colD x.1 s.col))
          rw [List.length_map] at h2
          unfold groupL
          unfold keysG at this ⊢
          omega
        · simp
theorem set_len {A : List It} (h : setI A = 0) : A.length ≤ 400 := (setI_zero.1 h).1
end Go.Proofs.YtldlmkfigjicgaaGreatDoor
/- Views: what is told more of a step's list, by what its inputs have more. No program in sight. -/
namespace Go.Proofs.YtldlmkfigjicgaaGreatDoor
set_option linter.unusedVariables false
set_option linter.unusedSimpArgs false

/-- a is what there is more in A' than in A. -/
abbrev More (a A A' : List It) : Prop := ∀ r, wt a r = wt (A' ++ negL A) r
theorem more_dvd {a A A' : List It} : More a A A' ↔ ∀ r, M64 ∣ tot r a - (tot r A' - tot r A) := by
  refine forall_congr' fun r => ?_
  show wrp _ = wrp _ ↔ _
  rw [wrp_dvd, tot_app, negL, tot_neg', ← Int.sub_eq_add_neg]
theorem more_totF {a A A' : List It} (h : More a A A') (f : List Int → Int) : M64 ∣ totF f a - (totF f A' - totF f A) := by
  have := totF_wt h f
  rwa [totF_app, negL, totF_neg, ← Int.sub_eq_add_neg] at this
theorem dvd_add2 {a b c d : Int} (h1 : M64 ∣ a - b) (h2 : M64 ∣ c - d) : M64 ∣ (a + c) - (b + d) := by
  have : (a + c) - (b + d) = (a - b) + (c - d) := by omega
  rw [this]; exact Int.dvd_add h1 h2
theorem dvd_of_eq {a b c : Int} (h : M64 ∣ a - b) (e : b = c) : M64 ∣ a - c := by rw [← e]; exact h
theorem dvd_tr {a b c : Int} (h1 : M64 ∣ a - b) (h2 : M64 ∣ b - c) : M64 ∣ a - c := by
  have : a - c = (a - b) + (b - c) := by omega
  rw [this]; exact Int.dvd_add h1 h2
theorem dvd_wrp (a : Int) : M64 ∣ wrp a - a := wrp_dvd.1 (wrp_wrp a)
/-! what is linear -/
theorem linL_more {s : St} {A B A' B' a b : List It} (hA : More a A A') (hB : More b B B') : More (linL s a b) (linL s A B) (linL s A' B') := by
  unfold linL
  by_cases k2 : s.kind = 2
  · rw [if_pos k2, if_pos k2, if_pos k2]
    refine more_dvd.2 fun r => ?_
    unfold whereL
    rw [tot_where (fun x => stHolds s.op (colD x s.col) s.val), tot_where (fun x => stHolds s.op (colD x s.col) s.val), tot_where (fun x => stHolds s.op (colD x s.col) s.val)]
    exact more_totF hA _
  rw [if_neg k2, if_neg k2, if_neg k2]
  by_cases k3 : s.kind = 3
  · rw [if_pos k3, if_pos k3, if_pos k3]
    refine more_dvd.2 fun r => ?_
    unfold pickL
    rw [tot_pick, tot_pick, tot_pick]
    exact more_totF hA _
  rw [if_neg k3, if_neg k3, if_neg k3]
  have h1 := more_dvd.1 hA
  have h2 := more_dvd.1 hB
  by_cases k5 : s.kind = 5
  · rw [if_pos k5, if_pos k5, if_pos k5]
    refine more_dvd.2 fun r => ?_
    rw [tot_app, tot_app, tot_app]
    exact dvd_of_eq (dvd_add2 (h1 r) (h2 r)) (by omega)
  rw [if_neg k5, if_neg k5, if_neg k5]
  by_cases k6 : s.kind = 6
  · rw [if_pos k6, if_pos k6, if_pos k6]
    refine more_dvd.2 fun r => ?_
    unfold negL
    rw [tot_app, tot_app, tot_app, tot_neg', tot_neg', tot_neg']
    have : M64 ∣ -tot r b - -(tot r B' - tot r B) := by
      have e : -tot r b - -(tot r B' - tot r B) = -(tot r b - (tot r B' - tot r B)) := by omega
      rw [e]; exact Int.dvd_neg.2 (h2 r)
    exact dvd_of_eq (dvd_add2 (h1 r) this) (by omega)
  rw [if_neg k6, if_neg k6, if_neg k6]
  exact more_dvd.2 fun r => ⟨0, rfl⟩
/-! what is joined -/
/-- How many times x's row, joined, is the row r. -/
def jF (s : St) (r : List Int) (B : List It) (x : List Int) : Int := totF (fun y => if colD y s.val = colD x s.col ∧ x ++ y = r then 1 else 0) B
theorem tot_pair (s : St) (r x : List Int) (n : Int) : ∀ B : List It, M64 ∣ tot r ((B.filter (fun y => decide (colD y.1 s.val = colD x s.col))).map (fun y => (x ++ y.1, wrp (n * y.2)))) - n * jF s r B x
  | [] => ⟨0, by simp [tot, jF, totF]⟩
  | y :: B => by
    have ih := tot_pair s r x n B
    by_cases h : colD y.1 s.val = colD x s.col
    · rw [List.filter_cons_of_pos (by simpa using h), List.map_cons, tot, jF, totF, Int.mul_add]
      refine dvd_add2 ?_ ih
      by_cases e : x ++ y.1 = r
      · rw [if_pos e, if_pos ⟨h, e⟩, Int.one_mul]; exact dvd_wrp _
      · rw [if_neg e, if_neg (fun q => e q.2)]; exact ⟨0, by simp⟩
    · rw [List.filter_cons_of_neg (by simpa using h), jF, totF, if_neg (fun q => h q.1), Int.zero_mul, Int.zero_add]
      exact ih
theorem tot_joinL (s : St) (r : List Int) (B : List It) : ∀ A : List It, M64 ∣ tot r (joinL s A B) - totF (jF s r B) A
  | [] => ⟨0, rfl⟩
  | x :: A => by
    rw [joinL, List.flatMap_cons, tot_app, totF]
    refine dvd_add2 ?_ (tot_joinL s r B A)
    have := tot_pair s r x.1 x.2 B
    rwa [Int.mul_comm] at this
theorem totF_cong {f g : List Int → Int} (h : ∀ x, M64 ∣ f x - g x) : ∀ A : List It, M64 ∣ totF f A - totF g A
  | [] => ⟨0, rfl⟩
  | x :: A => by
    rw [totF, totF]
    refine dvd_add2 ?_ (totF_cong h A)
    rw [← Int.sub_mul]
    exact Int.dvd_mul_of_dvd_left (h x.1)
theorem totF_subF (f g : List Int → Int) : ∀ A : List It, totF (fun x => f x - g x) A = totF f A - totF g A
  | [] => rfl
  | x :: A => by rw [totF, totF, totF, totF_subF f g A, Int.sub_mul]; omega
theorem joinL_more {s : St} {A B A' B' a b : List It} (hA : More a A A') (hB : More b B B') : More (joinL s a B ++ joinL s A b ++ joinL s a b) (joinL s A B) (joinL s A' B') := by
  refine more_dvd.2 fun r => ?_
  rw [tot_app, tot_app]
  have e1 := tot_joinL s r B a
  have e2 := tot_joinL s r b A
  have e3 := tot_joinL s r b a
  have e4 := tot_joinL s r B' A'
  have e5 := tot_joinL s r B A
  have hb : ∀ x, M64 ∣ jF s r b x - (jF s r B' x - jF s r B x) := fun x => more_totF hB _
  have f2 := totF_cong hb A
  have f3 := dvd_tr (more_totF hA (jF s r b)) (dvd_of_eq (b := totF (jF s r b) A' + -totF (jF s r b) A) (by rw [← Int.sub_eq_add_neg]; exact ⟨0, by omega⟩) rfl)
  have f1 := more_totF hA (jF s r B)
  have g1 := totF_cong hb A'
  rw [totF_subF] at f2 g1
  simp only [M64] at *
  omega
/-! what is distinct -/
theorem wt_distL : ∀ {A : List It}, Strict A → ∀ r, tot r (distL A) = if 0 < wt A r then 1 else 0
  | [], _, r => rfl
  | x :: A, h, r => by
    have ih := wt_distL h.tail r
    have ht := strict_wt_tail h (r := r)
    by_cases e : r = x.1
    · rw [if_pos e] at ht
      rw [ht] at ih
      have hw := strict_wt h
      rw [e, hw]
      rw [e] at ih
      unfold distL at ih ⊢
      by_cases q : 0 < x.2
      · rw [List.filter_cons_of_pos (by simpa using q), List.map_cons, tot, if_pos rfl, ih, if_pos q]; rfl
      · rw [List.filter_cons_of_neg (by simpa using q), ih, if_neg q]; rfl
    · rw [if_neg e] at ht
      rw [ht] at ih
      rw [← ih]
      unfold distL
      by_cases q : 0 < x.2
      · rw [List.filter_cons_of_pos (by simpa using q), List.map_cons, tot, if_neg (Ne.symm e)]; simp
      · rw [List.filter_cons_of_neg (by simpa using q)]
/-- Once, if it is there. -/
def onceN (n : Int) : Int := if 0 < n then 1 else 0
theorem onceN_eq (n : Int) : onceN n = min (max n 0) 1 := by unfold onceN; split <;> omega
/-- What is there more once. -/
def distD (A a : List It) : List It := (a.filter (fun x => decide (onceN (wrp (wt A x.1 + x.2)) - onceN (wt A x.1) ≠ 0))).map (fun x => (x.1, onceN (wrp (wt A x.1 + x.2)) - onceN (wt A x.1)))
theorem tot_distD (A : List It) : ∀ {a : List It}, Strict a → ∀ r, tot r (distD A a) = if wt a r = 0 then 0 else onceN (wrp (wt A r + wt a r)) - onceN (wt A r)
  | [], _, r => rfl
  | x :: a, h, r => by
    have ih := tot_distD A h.tail r
    have ht := strict_wt_tail h (r := r)
    by_cases e : r = x.1
    · rw [if_pos e] at ht
      rw [ht, if_pos rfl] at ih
      have hw := strict_wt h
      rw [e, hw, if_neg h.1]
      rw [e] at ih
      unfold distD at ih ⊢
      by_cases q : onceN (wrp (wt A x.1 + x.2)) - onceN (wt A x.1) ≠ 0
      · rw [List.filter_cons_of_pos (by simpa using q), List.map_cons, tot, if_pos rfl, ih]; omega
      · rw [List.filter_cons_of_neg (by simpa using q), ih]; omega
    · rw [if_neg e] at ht
      rw [ht] at ih
      rw [← ih]
      unfold distD
      by_cases q : onceN (wrp (wt A x.1 + x.2)) - onceN (wt A x.1) ≠ 0
      · rw [List.filter_cons_of_pos (by simpa using q), List.map_cons, tot, if_neg (Ne.symm e)]; simp
      · rw [List.filter_cons_of_neg (by simpa using q)]
theorem more_wt {a A A' : List It} (h : More a A A') (r : List Int) : wrp (wt A r + wt a r) = wt A' r := by
  have h1 := more_dvd.1 h r
  unfold wt
  rw [wrp_add, wrp_add', wrp_dvd]
  have : tot r A + tot r a - tot r A' = tot r a - (tot r A' - tot r A) := by omega
  rw [this]; exact h1
theorem distD_more {A A' a : List It} (hA : Strict A) (hA' : Strict A') (ha : Strict a) (h : More a A A') : More (distD A a) (distL A) (distL A') := by
  refine more_dvd.2 fun r => ?_
  rw [tot_distD A ha, wt_distL hA, wt_distL hA', more_wt h r]
  by_cases e : wt a r = 0
  · rw [if_pos e]
    have := more_wt h r
    rw [e, Int.add_zero] at this
    have e2 : wrp (wt A r) = wt A r := wrp_wrp _
    rw [e2] at this
    rw [this]; exact ⟨0, by omega⟩
  · rw [if_neg e]; exact ⟨0, by unfold onceN; omega⟩
/-! groups -/
theorem tot_keys (r : List Int) (f : Int → List It) (hf : ∀ k, ∀ x ∈ f k, x.1.head? = some k) : ∀ (K : List Int), K.Nodup → tot r (K.flatMap f) = match r.head? with | none => 0 | some k => if k ∈ K then tot r (f k) else 0
  | [], _ => by cases r.head? <;> rfl
  | k :: K, h => by
    have ih := tot_keys r f hf K (List.nodup_cons.1 h).2
    rw [List.flatMap_cons, tot_app, ih]
    cases e : r.head? with
    | none =>
      simp only
      rw [tot_none (fun x hx q => by have := hf k x hx; rw [q, e] at this; cases this)]; rfl
    | some j =>
      simp only
      by_cases q : j = k
      · subst q
        rw [if_neg (List.nodup_cons.1 h).1, if_pos (by simp)]; omega
      · rw [tot_none (fun x hx q2 => by have := hf k x hx; rw [q2, e] at this; injection this with this; exact q this)]
        by_cases q3 : j ∈ K
        · rw [if_pos q3, if_pos (by simp [q3])]; omega
        · rw [if_neg q3, if_neg (by simp [q3, q])]; rfl
theorem toldL_head (s : St) (k n m : Int) : ∀ x ∈ toldL s k n m, x.1.head? = some k := fun x hx => by
  unfold toldL at hx
  split at hx
  · simp at hx
  · rw [List.mem_singleton.1 hx]; rfl
theorem grp_out {s : St} {A : List It} {k : Int} (h : k ∉ keysG s A) : grpN s A k = 0 ∧ grpS s A k = 0 := by
  have hf : ∀ (v : List Int → Int), totF (fun r => if colD r s.col = k then v r else 0) A = 0 := fun v => by
    have : ∀ B : List It, (∀ x ∈ B, colD x.1 s.col ≠ k) → totF (fun r => if colD r s.col = k then v r else 0) B = 0 := fun B => by
      induction B with
      | nil => intro _; rfl
      | cons x B ih =>
        intro hB
        rw [totF, if_neg (hB x (by simp)), ih (fun y hy => hB y (by simp [hy]))]; omega
    refine this A fun x hx e => h ?_
    rw [keysG, dedupI_mem]
    exact List.mem_map.2 ⟨x, hx, e⟩
  refine ⟨?_, ?_⟩
  · unfold grpN; rw [hf]; rfl
  · unfold grpS; rw [hf]; split <;> rfl
theorem tot_groupL (s : St) (A : List It) (r : List Int) : tot r (groupL s A) = match r.head? with | none => 0 | some k => tot r (toldL s k (grpN s A k) (grpS s A k)) := by
  unfold groupL
  have hn : (keysG s A).Nodup := dedupI_nodup _
  rw [tot_keys r _ (fun k => toldL_head s k _ _) _ hn]
  cases e : r.head? with
  | none => rfl
  | some k =>
    simp only
    by_cases h : k ∈ keysG s A
    · rw [if_pos h]
    · rw [if_neg h, (grp_out h).1]; rfl
/-- What is told more of groups, by the rows that there are more. -/
def grpMore (s : St) (A a : List It) : List It := (keysG s a).flatMap (fun k => negL (toldL s k (grpN s A k) (grpS s A k)) ++ toldL s k (wrp (grpN s A k + grpN s a k)) (wrp (grpS s A k + grpS s a k)))
theorem grp_more {s : St} {A A' a : List It} (h : More a A A') (k : Int) : wrp (grpN s A k + grpN s a k) = grpN s A' k ∧ wrp (grpS s A k + grpS s a k) = grpS s A' k := by
  have key : ∀ f, wrp (wrp (totF f A) + wrp (totF f a)) = wrp (totF f A') := fun f => by
    rw [wrp_add, wrp_add', wrp_dvd]
    have h1 := more_totF h f
    have : totF f A + totF f a - totF f A' = totF f a - (totF f A' - totF f A) := by omega
    rw [this]; exact h1
  refine ⟨key _, ?_⟩
  unfold grpS
  by_cases h9 : s.kind = 9
  · rw [if_pos h9, if_pos h9, if_pos h9]; exact key _
  · rw [if_neg h9, if_neg h9, if_neg h9]; rfl
theorem grpMore_more {s : St} {A A' a : List It} (h : More a A A') : More (grpMore s A a) (groupL s A) (groupL s A') := by
  refine more_dvd.2 fun r => ?_
  rw [tot_groupL, tot_groupL]
  unfold grpMore
  have hn : (keysG s a).Nodup := dedupI_nodup _
  rw [tot_keys r _ (fun k x hx => by
    rcases List.mem_append.1 hx with e | e
    · obtain ⟨y, hy, rfl⟩ := List.mem_map.1 e
      exact toldL_head _ _ _ _ y hy
    · exact toldL_head _ _ _ _ x e) _ hn]
  cases e : r.head? with
  | none => exact ⟨0, rfl⟩
  | some k =>
    simp only
    rw [(grp_more h k).1, (grp_more h k).2]
    by_cases hk : k ∈ keysG s a
    · rw [if_pos hk, tot_app, negL, tot_neg']
      exact ⟨0, by omega⟩
    · rw [if_neg hk]
      have h1 := grp_more (s := s) h k
      rw [(grp_out hk).1, (grp_out hk).2, Int.add_zero, Int.add_zero] at h1
      have e1 : wrp (grpN s A k) = grpN s A k := wrp_wrp _
      have e2 : wrp (grpS s A k) = grpS s A k := by
        unfold grpS; split
        · exact wrp_wrp _
        · rfl
      rw [← h1.1, ← h1.2, e1, e2]
      exact ⟨0, by omega⟩
/-! a step -/
/-- What a step's list has more. -/
def moreL (s : St) (A B a b : List It) : List It :=
  if linB s = true then linL s a b else if s.kind = 4 then joinL s a B ++ joinL s A b ++ joinL s a b else if s.kind = 7 then distD A a else if s.kind = 8 ∨ s.kind = 9 then grpMore s A a else []
theorem moreL_more {s : St} {A B A' B' a b : List It} (sA : Strict A) (sA' : Strict A') (sa : Strict a) (hA : More a A A') (hB : More b B B') : More (moreL s A B a b) (stL s A B) (stL s A' B') := by
  unfold moreL stL
  by_cases k1 : linB s = true
  · rw [if_pos k1, if_pos k1, if_pos k1]; exact linL_more hA hB
  rw [if_neg k1, if_neg k1, if_neg k1]
  by_cases k4 : s.kind = 4
  · rw [if_pos k4, if_pos k4, if_pos k4]; exact joinL_more hA hB
  rw [if_neg k4, if_neg k4, if_neg k4]
  by_cases k7 : s.kind = 7
  · rw [if_pos k7, if_pos k7, if_pos k7]; exact distD_more sA sA' sa hA
  rw [if_neg k7, if_neg k7, if_neg k7]
  by_cases k8 : s.kind = 8 ∨ s.kind = 9
  · rw [if_pos k8, if_pos k8, if_pos k8]; exact grpMore_more hA
  rw [if_neg k8, if_neg k8, if_neg k8]
  exact fun r => rfl
end Go.Proofs.YtldlmkfigjicgaaGreatDoor
