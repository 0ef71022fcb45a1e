/- OpenS, OpenJ, QtA, QtX -/
import Derived.Test.YtamlaeocojcgdaaDoorQuerySaysCardS03
/- Arguments that are queries, as a claim reads them. -/
namespace Go.Proofs.YtamlaeocojcgdaaDoor
set_option linter.unusedVariables false
set_option linter.unusedSimpArgs false
open Go.ChangeShapes Go.WideShapes Go.ChangeAt Go.RowKit Go.Deep

set_option maxRecDepth 100000 in
theorem open_step {H : Type} {enc : TypeId × Value → H} {w : World} {base n : Nat} {spare : Nat → Bool} {held : Bool} {cs : List Value} {x : DataW H × List MemPlace}
    (h : DataW.trod enc Tryd.prog w base spare held n 40 cs = some x) : ∃ z : SR, (Row w w.heap.size z.A (icells' z.st.list) ∧ z.st.list.length ≤ 9223372036854775807) ∧ cs = z.cells := by
  obtain ⟨xs, n', _, hx, hlen, hxl, hf⟩ := DataW.trod_struct Tryd.underlying40 h
  have c2 : Tryd.prog.cellsOf 40 = 7 := by kernel_rfl
  have c1 : Tryd.prog.cellsOf 26 = 1 := by kernel_rfl
  have c1' : Tryd.prog.cellsOf 3 = 1 := by kernel_rfl
  rw [c2] at hlen
  match cs, hlen with
  | [u0, u1, u2, u3, u4, u5, u6], _ =>
    match xs, hxl with
    | [y0, y1, y2, y3, y4, y5, y6], _ =>
      have h0 := hf 0 _ rfl
      have h1 := hf 1 _ rfl
      have h2 := hf 2 _ rfl
      have h3 := hf 3 _ rfl
      have h4 := hf 4 _ rfl
      have h5 := hf 5 _ rfl
      have h6 := hf 6 _ rfl
      simp only [List.getElem_toArray, List.getElem_cons_zero, List.getElem_cons_succ, List.getElem?_cons_zero, List.getElem?_cons_succ] at h0 h1 h2 h3 h4 h5 h6
      simp only [c1, c1', List.drop_zero, List.take_succ_cons, List.take_zero, List.drop_succ_cons] at h0 h1 h2 h3 h4 h5 h6
      obtain ⟨z0, e0, _⟩ := DataW.trod_int Tryd.underlying3 h0
      obtain ⟨z1, e1, _⟩ := DataW.trod_int Tryd.underlying3 h1
      obtain ⟨z2, e2, _⟩ := DataW.trod_int Tryd.underlying3 h2
      obtain ⟨z3, e3, _⟩ := DataW.trod_int Tryd.underlying3 h3
      obtain ⟨z4, e4, _⟩ := DataW.trod_int Tryd.underlying3 h4
      obtain ⟨z5, e5, _⟩ := DataW.trod_int Tryd.underlying3 h5
      obtain ⟨A, k, l, e6, r0, l0, -⟩ := open_ints_cells h6
      injection e0 with e0
      injection e1 with e1
      injection e2 with e2
      injection e3 with e3
      injection e4 with e4
      injection e5 with e5
      injection e6 with e6
      subst e0 e1 e2 e3 e4 e5 e6
      exact ⟨⟨⟨z0, z1, z2, z3, z4, z5, l⟩, A, k⟩, ⟨r0, l0⟩, rfl⟩
set_option maxRecDepth 100000 in
theorem arg_steps {H : Type} {enc : TypeId × Value → H} {w : World} {r : Reach} {b0 base : Nat} {spare : Nat → Bool} {held : Bool} {v : Value} {d : DataW H} {p : List MemPlace}
    (hv : Value.okWide Tryd.prog w r b0 22 v) (h : DataW.Trod enc Tryd.prog w base spare held 22 v d p) :
    ∃ (A : Option Addr) (k : Nat) (L : List SR), v = .slice A L.length k ∧ RowS w w.heap.size A L ∧ L.length ≤ 9223372036854775807 := by
  obtain ⟨a, n, c, rfl⟩ := okWide_slice Tryd.underlying22 hv
  obtain ⟨m, hm⟩ := h
  obtain ⟨A, k, L, e, hr, hq, hl, -⟩ := open_each (f := SR.cells) (Q := fun z : SR => Row w w.heap.size z.A (icells' z.st.list) ∧ z.st.list.length ≤ 9223372036854775807) SR.len (by decide) Tryd.underlying22 (by kernel_rfl) (fun n cs y hy => open_step hy) hm
  simp only [Value.cells, List.cons.injEq, and_true] at e
  exact ⟨A, k, L, e, ⟨hr, hq⟩, hl⟩
end Go.Proofs.YtamlaeocojcgdaaDoor
/- Arguments that are lists of ints, or ints, as a claim reads them. -/
namespace Go.Proofs.YtamlaeocojcgdaaDoor
set_option linter.unusedVariables false
open Go.ChangeShapes Go.WideShapes Go.ChangeAt Go.RowKit Go.Deep

set_option maxRecDepth 100000 in
theorem arg_intJ {H : Type} {enc : TypeId × Value → H} {w : World} {r : Reach} {b0 base : Nat} {spare : Nat → Bool} {held : Bool} {v : Value} {d : DataW H} {p : List MemPlace}
    (hv : Value.okWide Tryd.prog w r b0 3 v) (h : DataW.Trod enc Tryd.prog w base spare held 3 v d p) : ∃ n : Int, v = .int .i64 n ∧ (Lit.int .i64 n).wf = true := by
  obtain ⟨n, rfl, _, _, hw⟩ := open_int Tryd.underlying3 hv h
  exact ⟨n, rfl, hw⟩
end Go.Proofs.YtamlaeocojcgdaaDoor
/- query.line, query.sign. -/
namespace Go.Proofs.YtamlaeocojcgdaaDoor
set_option linter.unusedVariables false
set_option linter.unusedSimpArgs false
open Go.ChangeShapes Go.WideShapes Go.ChangeAt Go.RowKit

/-- Numbers, each with a space ahead. -/
def numsT (l : List Int) : List UInt8 := l.flatMap numT
theorem numsT_snoc (l : List Int) (n : Int) : numsT (l ++ [n]) = numsT l ++ (32 :: Lib.itoa n) := by unfold numsT numT; rw [List.flatMap_append]; simp
def Small (l : List Int) : Prop := ∀ n ∈ l, -1073741824 ≤ n ∧ n ≤ 1073741824
theorem numsT_len {l : List Int} (h : Small l) : (numsT l).length ≤ 22 * l.length := by
  induction l with
  | nil => simp [numsT]
  | cons n l ih =>
    have h1 := numT_len (h n (by simp))
    have h2 := ih fun m hm => h m (by simp [hm])
    unfold numsT at h2 ⊢
    rw [List.flatMap_cons, List.length_append, List.length_cons]
    omega
set_option maxHeartbeats 1000000 in
set_option maxRecDepth 100000 in
theorem line_any (W0 : List UInt8) (l : List Int) (A : Option Addr) (c : Nat) (w : World) (hW : W0.length ≤ 100000) (hr : Row w w.heap.size A (icells' l)) (hl : l.length ≤ 100) (hs : Small l) (ht : Pow w) :
    Calls Tryd.prog 28 #[.string (bstr W0), .slice A l.length c] w fun e w' => e = .returned (.string (bstr (W0 ++ (numsT l ++ [10])))) ∧ Below w.heap.size w w' := by
  have HR := hid hr
  have HT := hid ht
  have hsz := bstr_size
  have hap := bstr_app
  clear hr ht
  go_enter Tryd.func28, Tryd.ntmps28
  go_wp2_with fail
  -- STOP-a
  go_loopw [0, 9] (fun s0 s9 wr => ∃ i : Nat, i ≤ l.length ∧ s9 = .int .i64 i ∧ s0 = .string (bstr (W0 ++ numsT (l.take i))) ∧ Hid (Below w.heap.size w wr)) (fun _ s9 _ => l.length - (intOf s9).toNat)
  case atStart => exact ⟨0, by omega, rfl, by simp [numsT], hid (Below.refl _ _)⟩
  case round =>
    obtain ⟨i, hi, rfl, rfl, HB⟩ := hrel
    by_cases hlt : i < l.length
    · have t1 : ((i : Int) < (l.length : Int)) = True := eq_true (by omega)
      have HN := hid (show W0 ++ numsT (l.take (i + 1)) = (W0 ++ numsT (l.take i)) ++ (32 :: Lib.itoa l[i]) by rw [List.take_succ_eq_append_getElem hlt, numsT_snoc, List.append_assoc])
      have hnl : (W0 ++ numsT (l.take i)).length ≤ 102200 := by
        have h1 := numsT_len (l := l.take i) (fun n hn => hs n (List.mem_of_mem_take hn))
        have h2 : (l.take i).length ≤ 100 := by rw [List.length_take]; omega
        rw [List.length_append]
        omega
      obtain ⟨b, off, rfl, hb, c0⟩ := (HR.out.step HB.out).int' hlt
      have h64 := hs _ (List.getElem_mem hlt)
      have hil := itoa21 h64
      generalize l[i] = x at *
      obtain ⟨S, hS⟩ : ∃ S, S = W0 ++ numsT (l.take i) := ⟨_, rfl⟩
      rw [← hS] at HN hnl ⊢
      clear hS
      have HC := hid (itoaN_any x h64 wr (Pow.step HT.out HB.out))
      obtain ⟨I, hI⟩ : ∃ I, I = Lib.itoa x := ⟨_, rfl⟩
      rw [← hI] at HC HN hil
      clear hI
      go_wp2_with fail
      -- STOP-b
      refine HC.out.mono ?_
      rintro e w2 ⟨rfl, hb2⟩
      have HB2 := hid (Below.step' HB.out hb2)
      have e32 : (⟨#[32]⟩ : ByteArray) = bstr [32] := rfl
      have hz1 : (bstr I).size = I.length := rfl
      clear hb2 HC
      go_wp2_with fail
      -- STOP-c
      go_roundw
      case rel => exact ⟨i + 1, by omega, by go_num, by rw [HN.out], HB2⟩
      case measure => simp [intOf]; omega
    · have t1 : ((i : Int) < (l.length : Int)) = False := eq_false (by omega)
      have hil : l.take i = l := List.take_of_length_le (by omega)
      rw [hil]
      have hnl : (W0 ++ numsT l).length ≤ 102200 := by
        have h1 := numsT_len hs
        rw [List.length_append]
        omega
      obtain ⟨S, hS⟩ : ∃ S, S = W0 ++ numsT l := ⟨_, rfl⟩
      have HE := hid (show W0 ++ (numsT l ++ [10]) = S ++ [10] by rw [hS, List.append_assoc])
      rw [← hS] at hnl ⊢
      clear hS
      have e10 : (⟨#[10]⟩ : ByteArray) = bstr [10] := rfl
      go_wp2_with fail
      -- STOP-d
      go_ret
      exact ⟨by rw [HE.out]; rfl, HB.out⟩
set_option maxHeartbeats 1000000 in
set_option maxRecDepth 100000 in
theorem sign_any (n : Int) (h : 0 ≤ n ∧ n ≤ 3) (w : World) :
    Calls Tryd.prog 29 #[.int .i64 n] w fun e w' => e = .returned (.string (bstr (signB n))) ∧ w = w' := by
  have hix : (Instr.index 68 (.agg #[.string ⟨#[]⟩, .string ⟨#[60]⟩, .string ⟨#[61]⟩, .string ⟨#[62]⟩]) (.int .i64 n)).run Tryd.prog w = .ok (.string (bstr (signB n))) w := by
    have hn : n = 0 ∨ n = 1 ∨ n = 2 ∨ n = 3 := by omega
    rcases hn with rfl | rfl | rfl | rfl
    all_goals first | rfl | kernel_rfl
  obtain ⟨S, hS⟩ : ∃ S, S = bstr (signB n) := ⟨_, rfl⟩
  rw [← hS] at hix ⊢
  clear hS
  go_enter Tryd.func29, Tryd.ntmps29
  go_wp2_with (simp only [hix])
  -- STOP-e
  go_ret
  exact ⟨rfl, rfl⟩
end Go.Proofs.YtamlaeocojcgdaaDoor
/- A call of a function value, as a step of a region that draws its order. No program in sight. -/
namespace Go.Proofs.YtamlaeocojcgdaaDoor
set_option linter.unusedVariables false
set_option linter.unusedSimpArgs false
open Go.RowKit

theorem step_call_value {P : Program} {w : World} {ops : Array Oper} {o : Oper} {a : Act} {K : Act → World → Prop} {Q : Exit → Act → World → Prop} {E : Prop} (hgd : o.guard = none) (c x : Operand) (t : TypeId)
    (ho : o.op = .call { callee := .value c, args := #[x], argTypes := #[t] }) (f : FuncId) (hc : a.eval c = .func (.func f) #[] #[]) (v : Value) (hx : a.eval x = v)
    (hen : ∀ args w, (callFunc f args).run P w = .ok (.enter f args) w) (r : Value)
    (h : Calls P f #[v] w fun e w' => e = .returned r ∧ K (a.put o.dst r) w') :
    if Region.wanted o (yielded ops a.tmps) = true then Oper.wp P o a w K Q else E := by
  have hw : Region.wanted o (yielded ops a.tmps) = true := by simp [Region.wanted, hgd]
  rw [if_pos hw]
  unfold Oper.wp execOp
  simp only [ho, resolve, invoke, Sem.run_bind, Sem.run_pure, Result.andThen_ok, List.map_toArray, List.map_cons, List.map_nil, hc, hx, Deferred.ofValue, Array.append_empty, Array.empty_append, hen]
  refine h.mono ?_
  rintro e w' ⟨rfl, hk⟩
  exact hk
/-- Another condition on the world, from here on. -/
theorem wpAnyH_turn {P : Program} {md : Region.Mode} {ops : Array Oper} {Q : Exit → Act → World → Prop} {S S' : World → Prop} (hi : ∀ w, S' w → S w) :
    ∀ (fuel : Nat) (listed : Array Bool) (a : Act) (w : World), wpAnyH P md ops Q S' fuel listed a w → wpAnyH P md ops Q S fuel listed a w
  | 0, _, _, _, h => h
  | fuel + 1, _, _, _, h => ⟨h.1, fun i hr => wpOp_mono (fun a' w' h' => ⟨hi _ h'.1, wpAnyH_turn hi fuel _ a' w' h'.2⟩) (h.2 i hr)⟩
theorem held_take {P : Program} {md : Region.Mode} {ops : Array Oper} {Q : Exit → Act → World → Prop} {S : World → Prop} {i : Nat} {oi : Oper} {v : Value} {fuel : Nat} {listed : Array Bool} {a : Act} {w : World} (hi : ops[i]? = some oi)
    (hs : Region.noSelect ops = true) (hf : Region.free md ops listed i = true) (hr : (Region.ready md ops listed).contains i = true)
    (hQ : ∀ c a w, Q (.panic c) (a.put oi.dst v) w → Q (.panic c) a w) (hg : oi.guard = none) (hy : ∀ w, S w → (execOp a.eval oi).run P w = .ok (.value v) w) (hS : S w)
    (h : wpAnyH P md ops Q S fuel (listed.setIfInBounds i true) (a.put oi.dst v) w) : wpAnyH P md ops Q S (fuel + 1) listed a w :=
  wpAnyH_take hi hs hf hr hQ (.inl ⟨by simp [Region.wanted, hg], hy⟩) hS h
end Go.Proofs.YtamlaeocojcgdaaDoor
