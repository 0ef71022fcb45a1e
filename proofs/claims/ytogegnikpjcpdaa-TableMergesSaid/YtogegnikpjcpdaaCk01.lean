/- Base, DotA, DotB, DotC, DotD, DotE, DotF -/
import Derived.WalkKit
import Derived.ProofKit
import Derived.OpenShut
import Derived.Handy
import Derived.Deep.Quiet
import Derived.Deep.QuietTactic
import Derived.BigQuiet
import Derived.StillTailTactics
import Derived.Test.YtogegnikpjcpdaaRows
import Derived.Outline
import Derived.StillTail
import Derived.StillTactics
/- Words of my own for memory: a slice that reads as a list of cells, what is kept below a block, one lexical walk of a region that draws its order over the class 'Below'. No program in sight. -/
namespace Go.Proofs.Ytogegnikpjcpdaa
set_option linter.unusedVariables false
open Go.RowKit

theorem hid {p : Prop} (h : p) : Hid p := h

/-- The slice address 'A' leads to the cells 'xs', all below block 'B'. -/
def Row (w : World) (B : Nat) (A : Option Addr) (xs : List Value) : Prop :=
  xs = [] ∨ ∃ b off, A = some ⟨b, off, none⟩ ∧ b < B ∧ ∀ j u, xs[j]? = some u → w.cell? ⟨b, off + j, none⟩ = some u

theorem Row.nil {w : World} {B : Nat} {A : Option Addr} : Row w B A [] := .inl rfl
theorem Row.below {w w' : World} {B C : Nat} {A : Option Addr} {xs : List Value} (h : Row w B A xs) (hb : Below C w w') (hB : B ≤ C) : Row w' B A xs := by
  rcases h with h | ⟨b, off, h1, h2, h3⟩
  · exact .inl h
  · exact .inr ⟨b, off, h1, h2, fun j u hu => (hb.cell (p := ⟨b, off + j, none⟩) (by simp; omega)).trans (h3 j u hu)⟩
theorem Row.more {w : World} {B C : Nat} {A : Option Addr} {xs : List Value} (h : Row w B A xs) (hB : B ≤ C) : Row w C A xs := by
  rcases h with h | ⟨b, off, h1, h2, h3⟩
  · exact .inl h
  · exact .inr ⟨b, off, h1, by omega, h3⟩
theorem Row.at_ {w : World} {B : Nat} {A : Option Addr} {xs : List Value} (h : Row w B A xs) {k : Nat} (hk : k < xs.length) :
    ∃ b off, A = some ⟨b, off, none⟩ ∧ b < B ∧ ∀ j u, xs[j]? = some u → w.cell? ⟨b, off + j, none⟩ = some u := by
  rcases h with h | h
  · subst h; simp at hk
  · exact h

/-- What was there when the call began is there in a later world that kept all that was there after one new block more. -/
theorem Row.later {w wr : World} {A : Option Addr} {xs : List Value} {o : Obj} (h : Row w w.heap.size A xs) (hb : Below (w.heap.size + 1) (w.alloc o) wr) : Row wr w.heap.size A xs :=
  (h.below (Below.alloc (Below.refl _ _) (Nat.le_refl _) _) (Nat.le_refl _)).below (hb.mono (Nat.le_succ _)) (Nat.le_refl _)
theorem size_later {w wr : World} {o : Obj} (hb : Below (w.heap.size + 1) (w.alloc o) wr) : w.heap.size < wr.heap.size := by
  have := hb.size
  simp at this
  omega

theorem bcell {B : Nat} {W w1 : World} (hb : Below B W w1) :
    (∀ b o, b < B → w1.cell? ⟨b, o, none⟩ = W.cell? ⟨b, o, none⟩) ∧ (∀ b o, b < B → w1.frozen? ⟨b, o, none⟩ = W.frozen? ⟨b, o, none⟩) :=
  ⟨fun b o h => hb.cell (p := ⟨b, o, none⟩) h, fun b o h => hb.frozen (p := ⟨b, o, none⟩) h⟩

/-- A world that is 'W' below 'B'. -/
structure Ext (B : Nat) (W : World) where
  w : World
  below : Below B W w

theorem ext_below {B : Nat} {W w' : World} (h : ∃ x : Ext B W, w' = x.w) : Below B W w' := by
  obtain ⟨x, rfl⟩ := h
  exact x.below

instance (B : Nat) (W : World) : Nonempty (Ext B W) := ⟨⟨W, Below.refl _ _⟩⟩

/-- A region that draws its order, its operations quiet in the class of the worlds that are as this one below its own size: the order of the text serves. -/
theorem region_ext {P : Program} {id : Nat} {Q : Exit → Act → World → Prop} {a : Act} {w : World} {l : List Oper}
    (hm : P.follows .mixedOrders = true) (hB : Region.lexB .any l.toArray = true)
    (h : (∀ (x : Ext w.heap.size w) b o, b < w.heap.size → x.w.cell? ⟨b, o, none⟩ = w.cell? ⟨b, o, none⟩) →
      wpQuiet P l.toArray (fun w' => ∃ x : Ext w.heap.size w, w' = x.w) (fun a' => ∀ w', (∃ x : Ext w.heap.size w, w' = x.w) → Q .normal a' w') l a) : (Code.region id l.toArray true).wp P Q a w :=
  wp_region_quiet (C := fun w' => ∃ x : Ext w.heap.size w, w' = x.w) hm hB ⟨⟨w.drew, (Below.refl _ _).drew⟩, rfl⟩ (by simpa using h fun x b o hb => x.below.cell (p := ⟨b, o, none⟩) hb)

theorem ext_call {P : Program} {f : FuncId} {args : Array Value} {B : Nat} {W : World} {v : Value} (x : Ext B W) (hB : B ≤ W.heap.size)
    (h : Calls P f args x.w fun e w' => e = .returned v ∧ Below x.w.heap.size x.w w') : Calls P f args x.w fun e w'' => e = .returned v ∧ ∃ y : Ext B W, w'' = y.w :=
  h.mono fun _ w' ⟨he, hb⟩ => ⟨he, ⟨w', x.below.trans (hb.mono (Nat.le_trans hB x.below.size))⟩, rfl⟩

theorem ext_call_same {P : Program} {f : FuncId} {args : Array Value} {B : Nat} {W : World} {v : Value} (x : Ext B W)
    (h : Calls P f args x.w fun e w' => e = .returned v ∧ x.w = w') : Calls P f args x.w fun e w'' => e = .returned v ∧ ∃ y : Ext B W, w'' = y.w :=
  h.mono fun _ w' ⟨he, hb⟩ => ⟨he, x, hb.symm⟩

theorem ret_bool {a b : Bool} (h : a = b) : Ending.returned (.bool a) = .returned (.bool b) := by rw [h]
theorem ret_int {k : IntKind} {a b : Int} (h : a = b) : Ending.returned (.int k a) = .returned (.int k b) := by rw [h]

theorem below_drewN {B : Nat} {W w : World} (h : Below B W w) (n : Nat) : Below B W (w.drewN n) := ⟨h.os, h.tape, h.output, h.size, h.block⟩

/-- A region whose first n operations leave the world alone, and whose others follow one by one. -/
theorem region_tail {P : Program} {id : Nat} {Q : Exit → Act → World → Prop} {a : Act} {w : World} {l : List Oper} (n : Nat) (hm : P.follows .mixedOrders = true) (hB : Region.lexTailB .any l.toArray n = true)
    (h : wpStill P l.toArray w.drew (fun a' => wpList P l.toArray Q (l.drop n) a' w.drew) (l.take n) a) : (Code.region id l.toArray true).wp P Q a w :=
  wp_region_still_tail n hm hB h
end Go.Proofs.Ytogegnikpjcpdaa
/- Contracts of the small functions of the packages cmp and dot. -/
namespace Go.Proofs.Ytogegnikpjcpdaa
set_option linter.unusedVariables false
open Go.ChangeShapes Go.WideShapes Go.ChangeAt Go.RowKit

def inB (n lo hi : Int) : Bool := decide (lo ≤ n) && decide (n ≤ hi)

theorem in_any (n lo hi : Int) (w : World) :
    Calls Try.prog 21 #[.int .i64 n, .int .i64 lo, .int .i64 hi] w fun e w' => e = .returned (.bool (inB n lo hi)) ∧ w = w' := by
  go_enter Try.func21, Try.ntmps21
  go_wp2
  all_goals go_ret
  all_goals (refine ⟨?_, rfl⟩; first | (simp [inB, *]; done) | (simp [inB, *]; omega) | (simp [inB]; omega))

def rightB (n s : Int) : Bool := decide (0 ≤ n) && decide (n < 4) && decide (1 ≤ s) && decide (s ≤ 1099511627776)

theorem right_any (n s : Int) (w : World) :
    Calls Try.prog 63 #[.agg #[.int .i64 n, .int .i64 s]] w fun e w' => e = .returned (.bool (rightB n s)) ∧ Below w.heap.size w w' := by
  go_enter Try.func63, Try.ntmps63
  go_wp2
  all_goals go_ret
  all_goals (refine ⟨?_, by go_grown⟩; first | (simp [rightB, *]; done) | (simp [rightB, *]; omega) | (simp [rightB]; omega))

theorem isNaN_any (n : Int) (w : World) :
    Calls Try.prog 104 #[.int .i64 n] w fun e w' => e = .returned (.bool false) ∧ w = w' := by
  go_enter Try.func104, Try.ntmps104
  go_wp2
  all_goals go_ret
  all_goals exact ⟨by simp, rfl⟩

def cmpI (x y : Int) : Int := if x < y then -1 else if y < x then 1 else 0

theorem compare_any (x y : Int) (w : World) :
    Calls Try.prog 96 #[.int .i64 x, .int .i64 y] w fun e w' => e = .returned (.int .i64 (cmpI x y)) ∧ w = w' := by
  go_enter Try.func96, Try.ntmps96
  go_wp2_with (go_at_call 104; refine (isNaN_any _ _).mono ?_; rintro e w' ⟨rfl, rfl⟩)
  all_goals go_ret
  all_goals (refine ⟨?_, rfl⟩; first | (simp [cmpI, *]; done) | (simp [cmpI, *]; omega) | (simp [cmpI]; omega))

def or2 (x y : Int) : Int := if x = 0 then y else x

theorem or_any (b : Nat) (x y : Int) (w : World) (h0 : w.cell? ⟨b, 0, none⟩ = some (.int .i64 x)) (h1 : w.cell? ⟨b, 1, none⟩ = some (.int .i64 y)) :
    Calls Try.prog 95 #[.slice (some ⟨b, 0, none⟩) 2 2] w fun e w' => e = .returned (.int .i64 (or2 x y)) ∧ w = w' := by
  go_enter Try.func95, Try.ntmps95
  go_wp2
  go_rounds 3
  all_goals go_ret
  all_goals (refine ⟨?_, rfl⟩; simp_all [or2])

def dotCmp (a b : Int × Int) : Int := or2 (cmpI a.1 b.1) (cmpI a.2 b.2)

set_option maxRecDepth 100000 in
theorem order_ints (a0 a1 b0 b1 : Int) (w : World) :
    Calls Try.prog 66 #[.agg #[.int .i64 a0, .int .i64 a1], .agg #[.int .i64 b0, .int .i64 b1]] w fun e w' => e = .returned (.int .i64 (or2 (cmpI a0 b0) (cmpI a1 b1))) ∧ Below w.heap.size w w' := by
  go_enter Try.func66, Try.ntmps66
  go_wp2
  refine region_tail 10 (by kernel_rfl) (by kernel_rfl) ?_
  simp only [List.take_succ_cons, List.take_zero, List.drop_succ_cons, List.drop_zero]
  repeat (first | still_step | still_call ((compare_any _ _ _).mono fun _ _ ⟨h1, h2⟩ => ⟨h1, h2.symm⟩))
  refine wpStill_nil ?_
  go_wp2_with (go_at_call 95; refine (or_any _ (cmpI a0 b0) (cmpI a1 b1) _ (by simp [go_sem]) (by simp [go_sem])).mono ?_; rintro e w' ⟨rfl, rfl⟩)
  go_ret
  exact ⟨rfl, by go_grown⟩
end Go.Proofs.Ytogegnikpjcpdaa
/- Contracts: slices.Index, slices.Contains at Dot; dot.Has, viewref.Has. -/
namespace Go.Proofs.Ytogegnikpjcpdaa
set_option linter.unusedVariables false
open Go.ChangeShapes Go.WideShapes Go.ChangeAt Go.RowKit

abbrev dcells (l : List (Int × Int)) : List Value := l.flatMap fun d => [.int .i64 d.1, .int .i64 d.2]

theorem dcells_get : ∀ (l : List (Int × Int)) (k : Nat) (h : k < l.length), (dcells l)[k * 2]? = some (.int .i64 l[k].1) ∧ (dcells l)[k * 2 + 1]? = some (.int .i64 l[k].2)
  | d :: l, 0, _ => by simp
  | d :: l, k + 1, h => by
    have := dcells_get l k (by simpa using h)
    simpa [Nat.add_mul, List.flatMap_cons, List.getElem?_append] using this

theorem dcells_len (l : List (Int × Int)) : (dcells l).length = 2 * l.length := by
  induction l with
  | nil => rfl
  | cons d l ih => simp [List.flatMap_cons] at *; omega

theorem Row.dot {w : World} {B : Nat} {A : Option Addr} {l : List (Int × Int)} (h : Row w B A (dcells l)) {k : Nat} (hk : k < l.length) :
    ∃ b off, A = some ⟨b, off, none⟩ ∧ b < B ∧ w.cell? ⟨b, off + k * 2, none⟩ = some (.int .i64 l[k].1) ∧ w.cell? ⟨b, off + k * 2 + 1, none⟩ = some (.int .i64 l[k].2) := by
  obtain ⟨b, off, h1, h2, h3⟩ := h.at_ (k := 0) (by rw [dcells_len]; omega)
  have := dcells_get l k hk
  exact ⟨b, off, h1, h2, h3 _ _ this.1, by rw [Nat.add_assoc]; exact h3 _ _ this.2⟩

theorem under_dot : Try.prog.underlying 27 = some (.struct (Try.prog.fieldsOf 27)) := by kernel_rfl
theorem stood_dot : Try.prog.stoodInHeld 27 = false := by kernel_rfl
theorem guard_dot : Try.prog.eqGuardType Try.prog.depth 27 = false := by kernel_rfl
theorem eql_dot (a b c d : Int) (w : World) : (binOp .eql 27 (.agg #[.int .i64 a, .int .i64 b]) (.agg #[.int .i64 c, .int .i64 d])).run Try.prog w = .ok (.bool (a == c && b == d)) w := by
  have h1 := under_dot
  have h2 := stood_dot
  simp only [run_eql_struct, run_equalIn_agg _ _ _ _ _ h1 h2]
  simp [go_sem]
  by_cases ha : a = c <;> by_cases hb : b = d <;> simp [ha, hb, go_sem]

def IdxPost (p : Prop) (w : World) (e : Ending) (w' : World) : Prop := ∃ i : Int, e = .returned (.int .i64 i) ∧ (0 ≤ i ↔ p) ∧ Below w.heap.size w w'

set_option maxRecDepth 100000 in
theorem index_any (l : List (Int × Int)) (v0 v1 : Int) (A : Option Addr) (c : Nat) (w : World) (hr : Row w w.heap.size A (dcells l)) (hl : l.length ≤ 9223372036854775807) :
    Calls Try.prog 97 #[.slice A l.length c, .agg #[.int .i64 v0, .int .i64 v1]] w (IdxPost ((v0, v1) ∈ l) w) := by
  go_enter Try.func97, Try.ntmps97
  go_wp2
  go_loopw [8] (fun i wr => (∃ k : Nat, k ≤ l.length ∧ i = .int .i64 k ∧ ∀ j (h : j < l.length), j < k → l[j] ≠ (v0, v1)) ∧ Below (w.heap.size + 1) (w.alloc (.cells #[.int .i64 v0, .int .i64 v1] 27)) wr) (fun i _ => l.length - (intOf i).toNat)
  case atStart => exact ⟨⟨0, by omega, rfl, fun j _ h => absurd h (by omega)⟩, Below.refl _ _⟩
  case round =>
    obtain ⟨⟨k, hk, rfl, hno⟩, hbw⟩ := hrel
    by_cases hlt : k < l.length
    · have hr1 := (hr.below (Below.alloc (Below.refl _ _) (Nat.le_refl _) _) (Nat.le_refl _)).below (hbw.mono (Nat.le_succ _)) (Nat.le_refl _)
      obtain ⟨b, off, rfl, hb, h0, h1⟩ := hr1.dot hlt
      have d0 : wr.cell? ⟨w.heap.size, 0, none⟩ = some (.int .i64 v0) := by rw [(bcell hbw).1 _ _ (by omega)]; simp [go_sem]
      have d1 : wr.cell? ⟨w.heap.size, 1, none⟩ = some (.int .i64 v1) := by rw [(bcell hbw).1 _ _ (by omega)]; simp [go_sem]
      have HN := hid hno
      have HB := hid hbw
      clear hno hr hr1 hbw
      go_wp2
      have g1 := guard_dot
      have g2 := eql_dot
      go_quiet (fail)
      go_wp2
      · have ht : (v0 == l[k].1) = true ∧ (v1 == l[k].2) = true := by assumption
        go_ret
        refine ⟨k, rfl, iff_of_true (by omega) ?_, ((Below.refl _ _).alloc (Nat.le_refl _) _).trans (below_drewN (HB.out.mono (Nat.le_succ _)) _)⟩
        have e : (v0, v1) = l[k] := by ext <;> simp_all
        rw [e]; exact List.getElem_mem _
      · have ht : (v0 == l[k].1) = false ∨ (v1 == l[k].2) = false := by assumption
        go_roundw
        case rel =>
          refine ⟨⟨k + 1, by omega, by go_num, fun j h hj => ?_⟩, below_drewN HB.out _⟩
          by_cases e : j = k
          · subst e; intro h2; rw [h2] at ht; simp at ht
          · exact HN.out j h (by omega)
        case measure => simp [intOf]; omega
    · go_wp2
      go_ret
      refine ⟨-1, rfl, iff_of_false (by omega) ?_, ((Below.refl _ _).alloc (Nat.le_refl _) _).trans (hbw.mono (Nat.le_succ _))⟩
      intro hm
      obtain ⟨j, hj, e⟩ := List.getElem_of_mem hm
      exact hno j hj (by omega) e

theorem contains_any (l : List (Int × Int)) (v0 v1 : Int) (A : Option Addr) (c : Nat) (w : World) (hr : Row w w.heap.size A (dcells l)) (hl : l.length ≤ 9223372036854775807) :
    Calls Try.prog 67 #[.slice A l.length c, .agg #[.int .i64 v0, .int .i64 v1]] w fun e w' => e = .returned (.bool (decide ((v0, v1) ∈ l))) ∧ Below w.heap.size w w' := by
  have H := index_any l v0 v1 A c (w.alloc (.cells #[.int .i64 v0, .int .i64 v1] 27)) ((hr.below (Below.alloc (Below.refl _ _) (Nat.le_refl _) _) (Nat.le_refl _)).more (by simp)) hl
  have HR := hid hr
  clear hr
  go_enter Try.func67, Try.ntmps67
  go_wp2_with (go_at_call 97; refine H.mono ?_; rintro e w' ⟨i, rfl, hi, hb⟩)
  go_ret
  refine ⟨?_, ((Below.refl _ _).alloc (Nat.le_refl _) _).trans (hb.mono (by simp))⟩
  by_cases h : (v0, v1) ∈ l <;> simp_all

end Go.Proofs.Ytogegnikpjcpdaa
/- Contracts of dot.Has and viewref.Has. -/
namespace Go.Proofs.Ytogegnikpjcpdaa
set_option linter.unusedVariables false
open Go.ChangeShapes Go.WideShapes Go.ChangeAt Go.RowKit

structure Ctx where
  c0 : Int
  c1 : Int
  c2 : Int
  c3 : Int
  cloud : List (Int × Int)

def Ctx.at_ (c : Ctx) (n : Int) : Int := if n = 0 then c.c0 else if n = 1 then c.c1 else if n = 2 then c.c2 else c.c3
def Ctx.has (c : Ctx) (d : Int × Int) : Prop := (0 ≤ d.1 ∧ d.1 < 4 ∧ 1 ≤ d.2 ∧ d.2 ≤ c.at_ d.1) ∨ d ∈ c.cloud
instance (c : Ctx) (d : Int × Int) : Decidable (c.has d) := by unfold Ctx.has; infer_instance
def hasB (c : Ctx) (d : Int × Int) : Bool := decide (c.has d)

abbrev cval (c : Ctx) (A : Option Addr) (k : Nat) : Value := .agg #[.int .i64 c.c0, .int .i64 c.c1, .int .i64 c.c2, .int .i64 c.c3, .slice A c.cloud.length k]
abbrev dval (d : Int × Int) : Value := .agg #[.int .i64 d.1, .int .i64 d.2]

theorem four (n : Int) : (n < 0 ∨ 4 ≤ n) ∨ n = 0 ∨ n = 1 ∨ n = 2 ∨ n = 3 := by omega

theorem hasB_yes {c : Ctx} {n s : Int} (h0 : 0 ≤ n) (h1 : n < 4) (h2 : 1 ≤ s) (h3 : s ≤ c.at_ n) : hasB c (n, s) = true := by simp [hasB, Ctx.has, *]
theorem hasB_no {c : Ctx} {n s : Int} (h : 0 ≤ n → n < 4 → 1 ≤ s → c.at_ n < s) : hasB c (n, s) = decide ((n, s) ∈ c.cloud) := by
  have e : ¬ (0 ≤ n ∧ n < 4 ∧ 1 ≤ s ∧ s ≤ c.at_ n) := fun ⟨a, b, d, f⟩ => by have := h a b d; omega
  simp [hasB, Ctx.has, e]

def HasC (l : List (Int × Int)) (n s : Int) (A : Option Addr) (k : Nat) (w : World) : Prop :=
  ∀ w1, Below w.heap.size w w1 → Calls Try.prog 67 #[.slice A l.length k, .agg #[.int .i64 n, .int .i64 s]] w1 fun e w' => e = .returned (.bool (decide ((n, s) ∈ l))) ∧ Below w1.heap.size w1 w'
theorem hasC (l : List (Int × Int)) (n s : Int) (A : Option Addr) (k : Nat) (w : World) (hr : Row w w.heap.size A (dcells l)) (hl : l.length ≤ 9223372036854775807) : HasC l n s A k w :=
  fun w1 hb => contains_any l n s A k w1 ((hr.below hb (Nat.le_refl _)).more hb.size) hl

set_option maxHeartbeats 400000 in
set_option maxRecDepth 100000 in
theorem has_in (c0 c1 c2 c3 : Int) (l : List (Int × Int)) (n s : Int) (A : Option Addr) (k : Nat) (w : World) (HC : HasC l n s A k w) (hn0 : 0 ≤ n) (hn4 : n < 4) :
    Calls Try.prog 25 #[.agg #[.int .i64 c0, .int .i64 c1, .int .i64 c2, .int .i64 c3, .slice A l.length k], .agg #[.int .i64 n, .int .i64 s]] w fun e w' => e = .returned (.bool (hasB ⟨c0, c1, c2, c3, l⟩ (n, s))) ∧ Below w.heap.size w w' := by
  have hcl : ((w.alloc (.cells #[.int .i64 c0, .int .i64 c1, .int .i64 c2, .int .i64 c3, .slice A l.length k] 25)).alloc (.cells #[.int .i64 n, .int .i64 s] 27)).cell? ⟨w.heap.size, n.toNat, none⟩ = some (.int .i64 (Ctx.at_ ⟨c0, c1, c2, c3, l⟩ n)) := by
    rcases (by omega : n = 0 ∨ n = 1 ∨ n = 2 ∨ n = 3) with h | h | h | h <;> subst h <;> simp [go_sem, Ctx.at_]
  go_enter Try.func25, Try.ntmps25
  go_wp2
  refine wp_region_quiet_lit (by kernel_rfl) (by kernel_rfl) ?_
  repeat (any_goals ((with_reducible refine wpQuiet_step (fun K hK => ?_)); go_simp; first | (with_reducible refine hK _ ?_; clear hK K) | ((with_reducible apply Exists.intro); (with_reducible refine ⟨fun _ => ?_, hK _ ?_⟩); (fail); clear hK K) | ((with_reducible refine (if_neg ?_).mpr (hK _ ?_)); (decide); clear hK K) | (split <;> (with_reducible refine hK _ ?_; clear hK K))))
  all_goals ((with_reducible refine wpQuiet_nil ?_); intro _ hw'; obtain ⟨nq, hw''⟩ := hw'; subst hw'')
  all_goals go_wp2_with (go_at_call 67; refine (HC _ ?_).mono ?_; rotate_left; ((repeat' (first | (with_reducible exact Below.refl _ _) | (with_reducible assumption) | (with_reducible refine below_drewN ?_ _) | (with_reducible refine Below.drew ?_) | (with_reducible refine Below.alloc ?_ ?_ _) | (with_reducible refine Below.setCell ?_ ?_ _) | (refine Below.trans ?_ (Below.mono (by assumption) ?_)) | go_size))); rintro e w' ⟨rfl, hb⟩)
  all_goals go_ret
  · exact ⟨ret_bool (hasB_yes hn0 hn4 (by assumption) (by assumption)).symm, by (repeat' (first | (with_reducible exact Below.refl _ _) | (with_reducible assumption) | (with_reducible refine below_drewN ?_ _) | (with_reducible refine Below.drew ?_) | (with_reducible refine Below.alloc ?_ ?_ _) | (with_reducible refine Below.setCell ?_ ?_ _) | (refine Below.trans ?_ (Below.mono (by assumption) ?_)) | go_size))⟩
  · exact ⟨ret_bool (hasB_no (c := ⟨c0, c1, c2, c3, l⟩) (n := n) (s := s) (fun _ _ _ => by first | assumption | omega)).symm, by (repeat' (first | (with_reducible exact Below.refl _ _) | (with_reducible assumption) | (with_reducible refine below_drewN ?_ _) | (with_reducible refine Below.drew ?_) | (with_reducible refine Below.alloc ?_ ?_ _) | (with_reducible refine Below.setCell ?_ ?_ _) | (refine Below.trans ?_ (Below.mono (by assumption) ?_)) | go_size))⟩
  · exact ⟨ret_bool (hasB_no (c := ⟨c0, c1, c2, c3, l⟩) (n := n) (s := s) (fun _ _ _ => by first | assumption | omega)).symm, by (repeat' (first | (with_reducible exact Below.refl _ _) | (with_reducible assumption) | (with_reducible refine below_drewN ?_ _) | (with_reducible refine Below.drew ?_) | (with_reducible refine Below.alloc ?_ ?_ _) | (with_reducible refine Below.setCell ?_ ?_ _) | (refine Below.trans ?_ (Below.mono (by assumption) ?_)) | go_size))⟩

set_option maxHeartbeats 400000 in
set_option maxRecDepth 100000 in
theorem has_low (c0 c1 c2 c3 : Int) (l : List (Int × Int)) (n s : Int) (A : Option Addr) (k : Nat) (w : World) (HC : HasC l n s A k w) (hn : n < 0) :
    Calls Try.prog 25 #[.agg #[.int .i64 c0, .int .i64 c1, .int .i64 c2, .int .i64 c3, .slice A l.length k], .agg #[.int .i64 n, .int .i64 s]] w fun e w' => e = .returned (.bool (hasB ⟨c0, c1, c2, c3, l⟩ (n, s))) ∧ Below w.heap.size w w' := by
  have hd : decide (0 ≤ n) = false := by simp; omega
  go_enter Try.func25, Try.ntmps25
  go_wp2
  refine wp_region_quiet_lit (by kernel_rfl) (by kernel_rfl) ?_
  repeat (any_goals ((with_reducible refine wpQuiet_step (fun K hK => ?_)); go_simp; first | (with_reducible refine hK _ ?_; clear hK K) | ((with_reducible apply Exists.intro); (with_reducible refine ⟨fun _ => ?_, hK _ ?_⟩); (fail); clear hK K) | ((with_reducible refine (if_neg ?_).mpr (hK _ ?_)); (decide); clear hK K) | (split <;> (with_reducible refine hK _ ?_; clear hK K))))
  all_goals ((with_reducible refine wpQuiet_nil ?_); intro _ hw'; obtain ⟨nq, hw''⟩ := hw'; subst hw'')
  go_wp2_with (go_at_call 67; refine (HC _ ?_).mono ?_; rotate_left; ((repeat' (first | (with_reducible exact Below.refl _ _) | (with_reducible assumption) | (with_reducible refine below_drewN ?_ _) | (with_reducible refine Below.drew ?_) | (with_reducible refine Below.alloc ?_ ?_ _) | (with_reducible refine Below.setCell ?_ ?_ _) | (refine Below.trans ?_ (Below.mono (by assumption) ?_)) | go_size))); rintro e w' ⟨rfl, hb⟩)
  go_ret
  exact ⟨ret_bool (hasB_no (c := ⟨c0, c1, c2, c3, l⟩) (n := n) (s := s) (fun _ _ _ => by omega)).symm, by (repeat' (first | (with_reducible exact Below.refl _ _) | (with_reducible assumption) | (with_reducible refine below_drewN ?_ _) | (with_reducible refine Below.drew ?_) | (with_reducible refine Below.alloc ?_ ?_ _) | (with_reducible refine Below.setCell ?_ ?_ _) | (refine Below.trans ?_ (Below.mono (by assumption) ?_)) | go_size))⟩

set_option maxHeartbeats 400000 in
set_option maxRecDepth 100000 in
theorem has_high (c0 c1 c2 c3 : Int) (l : List (Int × Int)) (n s : Int) (A : Option Addr) (k : Nat) (w : World) (HC : HasC l n s A k w) (hn0 : 0 ≤ n) (hn4 : 4 ≤ n) :
    Calls Try.prog 25 #[.agg #[.int .i64 c0, .int .i64 c1, .int .i64 c2, .int .i64 c3, .slice A l.length k], .agg #[.int .i64 n, .int .i64 s]] w fun e w' => e = .returned (.bool (hasB ⟨c0, c1, c2, c3, l⟩ (n, s))) ∧ Below w.heap.size w w' := by
  have hd : decide (n < 4) = false := by simp; omega
  go_enter Try.func25, Try.ntmps25
  go_wp2
  refine wp_region_quiet_lit (by kernel_rfl) (by kernel_rfl) ?_
  repeat (any_goals ((with_reducible refine wpQuiet_step (fun K hK => ?_)); go_simp; first | (with_reducible refine hK _ ?_; clear hK K) | ((with_reducible apply Exists.intro); (with_reducible refine ⟨fun _ => ?_, hK _ ?_⟩); (fail); clear hK K) | ((with_reducible refine (if_neg ?_).mpr (hK _ ?_)); (decide); clear hK K) | (split <;> (with_reducible refine hK _ ?_; clear hK K))))
  all_goals ((with_reducible refine wpQuiet_nil ?_); intro _ hw'; obtain ⟨nq, hw''⟩ := hw'; subst hw'')
  go_wp2_with (go_at_call 67; refine (HC _ ?_).mono ?_; rotate_left; ((repeat' (first | (with_reducible exact Below.refl _ _) | (with_reducible assumption) | (with_reducible refine below_drewN ?_ _) | (with_reducible refine Below.drew ?_) | (with_reducible refine Below.alloc ?_ ?_ _) | (with_reducible refine Below.setCell ?_ ?_ _) | (refine Below.trans ?_ (Below.mono (by assumption) ?_)) | go_size))); rintro e w' ⟨rfl, hb⟩)
  go_ret
  exact ⟨ret_bool (hasB_no (c := ⟨c0, c1, c2, c3, l⟩) (n := n) (s := s) (fun _ _ _ => by omega)).symm, by (repeat' (first | (with_reducible exact Below.refl _ _) | (with_reducible assumption) | (with_reducible refine below_drewN ?_ _) | (with_reducible refine Below.drew ?_) | (with_reducible refine Below.alloc ?_ ?_ _) | (with_reducible refine Below.setCell ?_ ?_ _) | (refine Below.trans ?_ (Below.mono (by assumption) ?_)) | go_size))⟩

theorem has_any (c : Ctx) (d : Int × Int) (A : Option Addr) (k : Nat) (w : World) (hr : Row w w.heap.size A (dcells c.cloud)) (hl : c.cloud.length ≤ 9223372036854775807) :
    Calls Try.prog 25 #[cval c A k, dval d] w fun e w' => e = .returned (.bool (hasB c d)) ∧ Below w.heap.size w w' := by
  have HC := hasC c.cloud d.1 d.2 A k w hr hl
  by_cases h0 : 0 ≤ d.1
  · by_cases h4 : d.1 < 4
    · exact has_in c.c0 c.c1 c.c2 c.c3 c.cloud d.1 d.2 A k w HC h0 h4
    · exact has_high c.c0 c.c1 c.c2 c.c3 c.cloud d.1 d.2 A k w HC h0 (by omega)
  · exact has_low c.c0 c.c1 c.c2 c.c3 c.cloud d.1 d.2 A k w HC (by omega)
end Go.Proofs.Ytogegnikpjcpdaa
/- Contract of dot.Check. -/
namespace Go.Proofs.Ytogegnikpjcpdaa
set_option linter.unusedVariables false
open Go.ChangeShapes Go.WideShapes Go.ChangeAt Go.RowKit

def before (a b : Int × Int) : Bool := decide (a.1 < b.1) || (decide (a.1 = b.1) && decide (a.2 < b.2))
theorem cmp_before (a b : Int × Int) : (0 ≤ or2 (cmpI a.1 b.1) (cmpI a.2 b.2)) ↔ before a b = false := by
  unfold or2 cmpI before
  rcases Int.lt_trichotomy a.1 b.1 with h | h | h <;> rcases Int.lt_trichotomy a.2 b.2 with h' | h' | h' <;> simp <;> split <;> omega

def clkOk (n : Int) : Bool := decide (0 ≤ n) && decide (n ≤ 1099511627776)
def badAt (c : Ctx) (i : Nat) : Bool :=
  !rightB (c.cloud.getD i (0, 0)).1 (c.cloud.getD i (0, 0)).2 || (decide (0 < i) && !before (c.cloud.getD (i - 1) (0, 0)) (c.cloud.getD i (0, 0))) ||
    decide ((c.cloud.getD i (0, 0)).2 ≤ c.at_ (c.cloud.getD i (0, 0)).1 + 1)
def checkI (c : Ctx) : Int :=
  if (clkOk c.c0 && clkOk c.c1 && clkOk c.c2 && clkOk c.c3) = false then 1 else if 400 < c.cloud.length then 2
  else if (List.range c.cloud.length).any (badAt c) = true then 5 else 0

theorem checkI_arg {c : Ctx} (h : (clkOk c.c0 && clkOk c.c1 && clkOk c.c2 && clkOk c.c3) = false) : checkI c = 1 := by simp only [checkI, h, if_true]
theorem checkI_large {c : Ctx} (h : (clkOk c.c0 && clkOk c.c1 && clkOk c.c2 && clkOk c.c3) = true) (h2 : 400 < c.cloud.length) : checkI c = 2 := by
  rw [checkI, if_neg (by simp [h]), if_pos h2]
theorem checkI_form {c : Ctx} (h : (clkOk c.c0 && clkOk c.c1 && clkOk c.c2 && clkOk c.c3) = true) (h2 : c.cloud.length ≤ 400) {i : Nat} (hi : i < c.cloud.length) (hb : badAt c i = true) : checkI c = 5 := by
  rw [checkI, if_neg (by simp [h]), if_neg (by omega), if_pos (List.any_eq_true.2 ⟨i, List.mem_range.2 hi, hb⟩)]
theorem checkI_ok {c : Ctx} (h : (clkOk c.c0 && clkOk c.c1 && clkOk c.c2 && clkOk c.c3) = true) (h2 : c.cloud.length ≤ 400) (hg : ∀ i, i < c.cloud.length → badAt c i = false) : checkI c = 0 := by
  rw [checkI, if_neg (by simp [h]), if_neg (by omega), if_neg]
  intro ha
  obtain ⟨i, hi, hb⟩ := List.any_eq_true.1 ha
  rw [hg i (List.mem_range.1 hi)] at hb
  cases hb

abbrev clkv (c0 c1 c2 c3 : Int) : Value := .agg #[.int .i64 c0, .int .i64 c1, .int .i64 c2, .int .i64 c3]
theorem clk0 (c0 c1 c2 c3 : Int) (w : World) : (Instr.index 22 (clkv c0 c1 c2 c3) (.int .i64 0)).run Try.prog w = .ok (.int .i64 c0) w := by kernel_rfl
theorem clk1 (c0 c1 c2 c3 : Int) (w : World) : (Instr.index 22 (clkv c0 c1 c2 c3) (.int .i64 1)).run Try.prog w = .ok (.int .i64 c1) w := by kernel_rfl
theorem clk2 (c0 c1 c2 c3 : Int) (w : World) : (Instr.index 22 (clkv c0 c1 c2 c3) (.int .i64 2)).run Try.prog w = .ok (.int .i64 c2) w := by kernel_rfl
theorem clk3 (c0 c1 c2 c3 : Int) (w : World) : (Instr.index 22 (clkv c0 c1 c2 c3) (.int .i64 3)).run Try.prog w = .ok (.int .i64 c3) w := by kernel_rfl

set_option maxHeartbeats 1000000 in
set_option maxRecDepth 100000 in
theorem check_any (c : Ctx) (A : Option Addr) (k0 : Nat) (w : World) (hr : Row w w.heap.size A (dcells c.cloud)) (hl : c.cloud.length ≤ 9223372036854775807) :
    Calls Try.prog 24 #[cval c A k0] w fun e w' => e = .returned (.int .i64 (checkI c)) ∧ Below w.heap.size w w' := by
  obtain ⟨c0, c1, c2, c3, l⟩ := c
  have HR := hid hr
  clear hr
  simp only [cval] at *
  have i0 := clk0 c0 c1 c2 c3
  have i1 := clk1 c0 c1 c2 c3
  have i2 := clk2 c0 c1 c2 c3
  have i3 := clk3 c0 c1 c2 c3
  go_enter Try.func24, Try.ntmps24
  go_wp2
  go_rounds 5
  all_goals first
    | (go_ret; exact ⟨ret_int (checkI_arg (c := ⟨c0, c1, c2, c3, l⟩) (by simp only [clkOk, Bool.and_eq_false_iff, decide_eq_false_iff_not]; omega)).symm, by (repeat' (first | (with_reducible exact Below.refl _ _) | (with_reducible assumption) | (with_reducible refine below_drewN ?_ _) | (with_reducible refine Below.drew ?_) | (with_reducible refine Below.alloc ?_ ?_ _) | (with_reducible refine Below.setCell ?_ ?_ _) | (refine Below.trans ?_ (Below.mono (by assumption) ?_)) | go_size))⟩)
    | (go_ret; exact ⟨ret_int (checkI_large (c := ⟨c0, c1, c2, c3, l⟩) (by simp only [clkOk, Bool.and_eq_true, decide_eq_true_eq]; omega) (by simp only; omega)).symm, by (repeat' (first | (with_reducible exact Below.refl _ _) | (with_reducible assumption) | (with_reducible refine below_drewN ?_ _) | (with_reducible refine Below.drew ?_) | (with_reducible refine Below.alloc ?_ ?_ _) | (with_reducible refine Below.setCell ?_ ?_ _) | (refine Below.trans ?_ (Below.mono (by assumption) ?_)) | go_size))⟩)
    | skip
  have hc : (clkOk c0 && clkOk c1 && clkOk c2 && clkOk c3) = true := by simp only [clkOk, Bool.and_eq_true, decide_eq_true_eq]; omega
  have h4 : l.length ≤ 400 := by omega
  go_loopw [26] (fun i wr => (∃ k : Nat, k ≤ l.length ∧ i = .int .i64 k ∧ ∀ j, j < k → badAt ⟨c0, c1, c2, c3, l⟩ j = false) ∧ Below (w.heap.size + 1) (w.alloc (.cells #[.int .i64 c0, .int .i64 c1, .int .i64 c2, .int .i64 c3, .slice A l.length k0] 25)) wr) (fun i _ => l.length - (intOf i).toNat)
  case atStart => exact ⟨⟨0, by omega, rfl, fun j h => absurd h (by omega)⟩, by (repeat' (first | (with_reducible exact Below.refl _ _) | (with_reducible assumption) | (with_reducible refine below_drewN ?_ _) | (with_reducible refine Below.drew ?_) | (with_reducible refine Below.alloc ?_ ?_ _) | (with_reducible refine Below.setCell ?_ ?_ _) | (refine Below.trans ?_ (Below.mono (by assumption) ?_)) | go_size))⟩
  case round =>
    obtain ⟨⟨k, hk, rfl, hno⟩, hbw⟩ := hrel
    by_cases hlt : k < l.length
    · have hr1 := HR.out.later hbw
      have hsz := size_later hbw
      obtain ⟨b, off, rfl, hb, h0, h1⟩ := hr1.dot hlt
      have hp : 0 < k → ∃ p : Int × Int, l.getD (k - 1) (0, 0) = p ∧ wr.cell? ⟨b, off + (k - 1) * 2, none⟩ = some (.int .i64 p.1) ∧ wr.cell? ⟨b, off + (k - 1) * 2 + 1, none⟩ = some (.int .i64 p.2) := by
        intro hm
        obtain ⟨b', off', he, hb', h0', h1'⟩ := hr1.dot (k := k - 1) (by omega)
        injection he with he
        injection he with he1 he2
        subst he1 he2
        exact ⟨l[k - 1], by simp [List.getD, show k - 1 < l.length by omega], h0', h1'⟩
      have hB := (bcell hbw).1
      have e0 : wr.cell? ⟨w.heap.size, 4, none⟩ = some (.slice (some ⟨b, off, none⟩) l.length k0) := by rw [hB _ _ (by omega)]; simp [go_sem]
      have ec : 0 ≤ (l[k]).1 → (l[k]).1 < 4 → wr.cell? ⟨w.heap.size, (l[k]).1.toNat, none⟩ = some (.int .i64 (Ctx.at_ ⟨c0, c1, c2, c3, l⟩ (l[k]).1)) := by
        intro q0 q4
        rw [hB _ _ (by omega)]
        rcases (by omega : (l[k]).1 = 0 ∨ (l[k]).1 = 1 ∨ (l[k]).1 = 2 ∨ (l[k]).1 = 3) with h | h | h | h <;> simp [h, go_sem, Ctx.at_]
      have hgd : l.getD k (0, 0) = l[k] := by simp [List.getD, hlt]
      have hbad : badAt ⟨c0, c1, c2, c3, l⟩ k = (!rightB (l[k]).1 (l[k]).2 || (decide (0 < k) && !before (l.getD (k - 1) (0, 0)) l[k]) || decide ((l[k]).2 ≤ Ctx.at_ ⟨c0, c1, c2, c3, l⟩ (l[k]).1 + 1)) := by
        simp only [badAt, hgd]
      have HBAD := hid hbad
      have HN := hid hno
      have HB := hid hbw
      clear hgd hbad hno hbw hr1 hB
      generalize l[k] = d at *
      obtain ⟨d0, d1⟩ := d
      simp only at *
      have hne : (b = wr.heap.size) = False := by simp; omega
      have hne2 : (w.heap.size = wr.heap.size) = False := by simp; omega
      have hb1 : b < wr.heap.size + 1 := by omega
      have hb2 : b < wr.heap.size := by omega
      have hw1 : w.heap.size < wr.heap.size + 1 := by omega
      cases hright : rightB d0 d1
      · clear hp
        go_wp2
        refine region_ext (by kernel_rfl) (by kernel_rfl) (fun hext => ?_)
        repeat (any_goals ((with_reducible refine wpQuiet_step (fun K hK => ?_)); go_simp; first | (with_reducible refine hK _ ?_; clear hK K) | ((with_reducible apply Exists.intro); (with_reducible refine ⟨fun _ => ?_, hK _ ?_⟩); (first | (go_at_call 63; exact ext_call _ (by simp) (right_any _ _ _)) | (go_at_call 66; exact ext_call _ (by simp) (order_ints _ _ _ _ _))); clear hK K) | ((with_reducible refine (if_neg ?_).mpr (hK _ ?_)); (decide); clear hK K) | (split <;> (with_reducible refine hK _ ?_; clear hK K))))
        all_goals ((with_reducible refine wpQuiet_nil ?_); clear hext; intro w1 hx1; have hb1 := ext_below hx1; clear hx1)
        go_wp2
        go_ret
        refine ⟨ret_int (checkI_form (c := ⟨c0, c1, c2, c3, l⟩) hc h4 hlt (by rw [HBAD.out]; simp [hright])).symm, ?_⟩
        have hbw := HB.out
        (repeat' (first | (with_reducible exact Below.refl _ _) | (with_reducible assumption) | (with_reducible refine below_drewN ?_ _) | (with_reducible refine Below.drew ?_) | (with_reducible refine Below.alloc ?_ ?_ _) | (with_reducible refine Below.setCell ?_ ?_ _) | (refine Below.trans ?_ (Below.mono (by assumption) ?_)) | go_size))
      · have hR : 0 ≤ d0 ∧ d0 < 4 ∧ 1 ≤ d1 ∧ d1 ≤ 1099511627776 := by simpa [rightB, and_assoc] using hright
        obtain ⟨r0, r4, s0, s1⟩ := hR
        have ec1 := ec r0 r4
        have hat : 0 ≤ Ctx.at_ ⟨c0, c1, c2, c3, l⟩ d0 ∧ Ctx.at_ ⟨c0, c1, c2, c3, l⟩ d0 ≤ 1099511627776 := by simp only [Ctx.at_]; split <;> (try split) <;> (try split) <;> omega
        obtain ⟨hat0, hat1⟩ := hat
        clear ec
        generalize hA : Ctx.at_ ⟨c0, c1, c2, c3, l⟩ d0 = at0 at *
        clear hA
        have zw : IntKind.i64.wrap (at0 + 1) = at0 + 1 := IntWalk.i64_in _ (by omega)
        by_cases hk0 : 0 < k
        · obtain ⟨⟨p0, p1⟩, hpe, g0, g1⟩ := hp hk0
          have hd : decide ((0 : Int) < (k : Int)) = true := by simp; omega
          simp only at g0 g1
          clear hp
          have z1 : IntKind.i64.wrap ((k : Int) - 1) = (k : Int) - 1 := IntWalk.i64_in _ (by omega)
          have z2 : (1 : Int) ≤ (k : Int) := by omega
          have z3 : (k : Int) - 1 < (l.length : Int) := by omega
          have z4 : ((k : Int) - 1).toNat = k - 1 := by omega
          have HPE := hid hpe
          clear hpe
          cases hbf : decide (0 ≤ or2 (cmpI p0 d0) (cmpI p1 d1))
          · have hbe : before (p0, p1) (d0, d1) = true := by
              have := cmp_before (p0, p1) (d0, d1)
              cases hq : before (p0, p1) (d0, d1)
              · rw [hq] at this; simp only [iff_true] at this; rw [decide_eq_false_iff_not] at hbf; exact absurd this hbf
              · rfl
            have HBE := hid hbe
            clear hbe
            go_wp2
            refine region_ext (by kernel_rfl) (by kernel_rfl) (fun hext => ?_)
            repeat (any_goals ((with_reducible refine wpQuiet_step (fun K hK => ?_)); go_simp; first | (with_reducible refine hK _ ?_; clear hK K) | ((with_reducible apply Exists.intro); (with_reducible refine ⟨fun _ => ?_, hK _ ?_⟩); (first | (go_at_call 63; exact ext_call _ (by simp) (right_any _ _ _)) | (go_at_call 66; exact ext_call _ (by simp) (order_ints _ _ _ _ _))); clear hK K) | ((with_reducible refine (if_neg ?_).mpr (hK _ ?_)); (decide); clear hK K) | (split <;> (with_reducible refine hK _ ?_; clear hK K))))
            all_goals ((with_reducible refine wpQuiet_nil ?_); clear hext; intro w1 hx1; have hb1 := ext_below hx1; clear hx1)
            go_wp2
            · have ht : d1 ≤ at0 + 1 := by omega
              go_ret
              refine ⟨ret_int (checkI_form (c := ⟨c0, c1, c2, c3, l⟩) hc h4 hlt (by rw [HBAD.out]; simp [ht])).symm, ?_⟩
              have hbw := HB.out
              (repeat' (first | (with_reducible exact Below.refl _ _) | (with_reducible assumption) | (with_reducible refine below_drewN ?_ _) | (with_reducible refine Below.drew ?_) | (with_reducible refine Below.alloc ?_ ?_ _) | (with_reducible refine Below.setCell ?_ ?_ _) | (refine Below.trans ?_ (Below.mono (by assumption) ?_)) | go_size))
            · have ht : at0 + 1 < d1 := by omega
              go_roundw
              case rel =>
                refine ⟨⟨k + 1, by omega, by go_num, fun j hj => ?_⟩, ?_⟩
                · by_cases e : j = k
                  · subst e; rw [HBAD.out, HPE.out, HBE.out, hright]; simp; omega
                  · exact HN.out j (by omega)
                · have hbw := HB.out
                  (repeat' (first | (with_reducible exact Below.refl _ _) | (with_reducible assumption) | (with_reducible refine below_drewN ?_ _) | (with_reducible refine Below.drew ?_) | (with_reducible refine Below.alloc ?_ ?_ _) | (with_reducible refine Below.setCell ?_ ?_ _) | (refine Below.trans ?_ (Below.mono (by assumption) ?_)) | go_size))
              case measure => simp [intOf]; omega
          · have hbe : before (p0, p1) (d0, d1) = false := (cmp_before (p0, p1) (d0, d1)).1 (by simpa using hbf)
            have HBE := hid hbe
            clear hbe
            go_wp2
            refine region_ext (by kernel_rfl) (by kernel_rfl) (fun hext => ?_)
            repeat (any_goals ((with_reducible refine wpQuiet_step (fun K hK => ?_)); go_simp; first | (with_reducible refine hK _ ?_; clear hK K) | ((with_reducible apply Exists.intro); (with_reducible refine ⟨fun _ => ?_, hK _ ?_⟩); (first | (go_at_call 63; exact ext_call _ (by simp) (right_any _ _ _)) | (go_at_call 66; exact ext_call _ (by simp) (order_ints _ _ _ _ _))); clear hK K) | ((with_reducible refine (if_neg ?_).mpr (hK _ ?_)); (decide); clear hK K) | (split <;> (with_reducible refine hK _ ?_; clear hK K))))
            all_goals ((with_reducible refine wpQuiet_nil ?_); clear hext; intro w1 hx1; have hb1 := ext_below hx1; clear hx1)
            go_wp2
            go_ret
            refine ⟨ret_int (checkI_form (c := ⟨c0, c1, c2, c3, l⟩) hc h4 hlt (by rw [HBAD.out, HPE.out, HBE.out]; simp [hk0])).symm, ?_⟩
            have hbw := HB.out
            (repeat' (first | (with_reducible exact Below.refl _ _) | (with_reducible assumption) | (with_reducible refine below_drewN ?_ _) | (with_reducible refine Below.drew ?_) | (with_reducible refine Below.alloc ?_ ?_ _) | (with_reducible refine Below.setCell ?_ ?_ _) | (refine Below.trans ?_ (Below.mono (by assumption) ?_)) | go_size))
        · have hd : decide ((0 : Int) < (k : Int)) = false := by simp; omega
          have hd2 : decide (0 < k) = false := by simp; omega
          rw [hd2] at HBAD
          clear hp hd2
          go_wp2
          refine region_ext (by kernel_rfl) (by kernel_rfl) (fun hext => ?_)
          repeat (any_goals ((with_reducible refine wpQuiet_step (fun K hK => ?_)); go_simp; first | (with_reducible refine hK _ ?_; clear hK K) | ((with_reducible apply Exists.intro); (with_reducible refine ⟨fun _ => ?_, hK _ ?_⟩); (first | (go_at_call 63; exact ext_call _ (by simp) (right_any _ _ _)) | (go_at_call 66; exact ext_call _ (by simp) (order_ints _ _ _ _ _))); clear hK K) | ((with_reducible refine (if_neg ?_).mpr (hK _ ?_)); (decide); clear hK K) | (split <;> (with_reducible refine hK _ ?_; clear hK K))))
          all_goals ((with_reducible refine wpQuiet_nil ?_); clear hext; intro w1 hx1; have hb1 := ext_below hx1; clear hx1)
          go_wp2
          · have ht : d1 ≤ at0 + 1 := by omega
            go_ret
            refine ⟨ret_int (checkI_form (c := ⟨c0, c1, c2, c3, l⟩) hc h4 hlt (by rw [HBAD.out]; simp [ht])).symm, ?_⟩
            have hbw := HB.out
            (repeat' (first | (with_reducible exact Below.refl _ _) | (with_reducible assumption) | (with_reducible refine below_drewN ?_ _) | (with_reducible refine Below.drew ?_) | (with_reducible refine Below.alloc ?_ ?_ _) | (with_reducible refine Below.setCell ?_ ?_ _) | (refine Below.trans ?_ (Below.mono (by assumption) ?_)) | go_size))
          · have ht : at0 + 1 < d1 := by omega
            go_roundw
            case rel =>
              refine ⟨⟨k + 1, by omega, by go_num, fun j hj => ?_⟩, ?_⟩
              · by_cases e : j = k
                · subst e; rw [HBAD.out, hright]; simp; omega
                · exact HN.out j (by omega)
              · have hbw := HB.out
                (repeat' (first | (with_reducible exact Below.refl _ _) | (with_reducible assumption) | (with_reducible refine below_drewN ?_ _) | (with_reducible refine Below.drew ?_) | (with_reducible refine Below.alloc ?_ ?_ _) | (with_reducible refine Below.setCell ?_ ?_ _) | (refine Below.trans ?_ (Below.mono (by assumption) ?_)) | go_size))
            case measure => simp [intOf]; omega
    · go_wp2
      go_ret
      exact ⟨ret_int (checkI_ok (c := ⟨c0, c1, c2, c3, l⟩) hc h4 (fun i hi => hno i (by simp only at hi; omega))).symm, Below.trans (b := w.alloc _) (by (repeat' (first | (with_reducible exact Below.refl _ _) | (with_reducible assumption) | (with_reducible refine below_drewN ?_ _) | (with_reducible refine Below.drew ?_) | (with_reducible refine Below.alloc ?_ ?_ _) | (with_reducible refine Below.setCell ?_ ?_ _) | (refine Below.trans ?_ (Below.mono (by assumption) ?_)) | go_size))) (hbw.mono (Nat.le_succ _))⟩
end Go.Proofs.Ytogegnikpjcpdaa
/- Contracts of viewref.Right, viewref.Before, viewref.Context. -/
namespace Go.Proofs.Ytogegnikpjcpdaa
set_option linter.unusedVariables false
open Go.ChangeShapes Go.WideShapes Go.ChangeAt Go.RowKit

theorem rightB_in (n s : Int) : rightB n s = (inB n 0 3 && inB s 1 1099511627776) := by
  unfold rightB inB
  rw [Bool.eq_iff_iff]
  simp
  omega

theorem clkOk_in (n : Int) : clkOk n = inB n 0 1099511627776 := rfl

theorem clk_bad {c0 c1 c2 c3 : Int} (h : (!inB c0 0 1099511627776) = true ∨ (!inB c1 0 1099511627776) = true ∨ (!inB c2 0 1099511627776) = true ∨ (!inB c3 0 1099511627776) = true) :
    (clkOk c0 && clkOk c1 && clkOk c2 && clkOk c3) = false := by
  simp only [clkOk_in]
  simp only [Bool.not_eq_true'] at h
  rcases h with h | h | h | h <;> simp [h]
theorem clk_good {c0 c1 c2 c3 : Int} (h0 : (!inB c0 0 1099511627776) = false) (h1 : (!inB c1 0 1099511627776) = false) (h2 : (!inB c2 0 1099511627776) = false) (h3 : (!inB c3 0 1099511627776) = false) :
    (clkOk c0 && clkOk c1 && clkOk c2 && clkOk c3) = true := by
  simp only [clkOk_in]
  simp only [Bool.not_eq_false'] at h0 h1 h2 h3
  simp [h0, h1, h2, h3]
theorem inB_of {n lo hi : Int} (h : (!inB n lo hi) = false) : lo ≤ n ∧ n ≤ hi := by simpa [inB] using h

theorem Rright_any (n s : Int) (w : World) :
    Calls Try.prog 19 #[.agg #[.int .i64 n, .int .i64 s]] w fun e w' => e = .returned (.bool (rightB n s)) ∧ Below w.heap.size w w' := by
  have H := rightB_in n s
  have HR := hid H
  clear H
  cases h1 : inB n 0 3
  all_goals
    go_enter Try.func19, Try.ntmps19
    go_wp2_with (go_at_call 21; refine (in_any _ _ _ _).mono ?_; rintro e w' ⟨rfl, rfl⟩)
    go_ret
    exact ⟨ret_bool (by rw [HR.out, h1]; simp), by (repeat' (first | (with_reducible exact Below.refl _ _) | (with_reducible assumption) | (with_reducible refine below_drewN ?_ _) | (with_reducible refine Below.drew ?_) | (with_reducible refine Below.alloc ?_ ?_ _) | (with_reducible refine Below.setCell ?_ ?_ _) | (refine Below.trans ?_ (Below.mono (by assumption) ?_)) | go_size))⟩

theorem before_any (a0 a1 b0 b1 : Int) (w : World) :
    Calls Try.prog 61 #[.agg #[.int .i64 a0, .int .i64 a1], .agg #[.int .i64 b0, .int .i64 b1]] w fun e w' => e = .returned (.bool (before (a0, a1) (b0, b1))) ∧ Below w.heap.size w w' := by
  go_enter Try.func61, Try.ntmps61
  go_wp2
  all_goals go_ret
  all_goals (refine ⟨ret_bool ?_, by (repeat' (first | (with_reducible exact Below.refl _ _) | (with_reducible assumption) | (with_reducible refine below_drewN ?_ _) | (with_reducible refine Below.drew ?_) | (with_reducible refine Below.alloc ?_ ?_ _) | (with_reducible refine Below.setCell ?_ ?_ _) | (refine Below.trans ?_ (Below.mono (by assumption) ?_)) | go_size))⟩; unfold before; first | (simp [*]; done) | (simp [*]; omega) | (simp; omega))

set_option maxHeartbeats 1000000 in
set_option maxRecDepth 100000 in
theorem context_any (c : Ctx) (A : Option Addr) (k0 : Nat) (w : World) (hr : Row w w.heap.size A (dcells c.cloud)) (hl : c.cloud.length ≤ 9223372036854775807) :
    Calls Try.prog 15 #[cval c A k0] w fun e w' => e = .returned (.int .i64 (checkI c)) ∧ Below w.heap.size w w' := by
  obtain ⟨c0, c1, c2, c3, l⟩ := c
  have HR := hid hr
  clear hr
  simp only [cval] at *
  go_enter Try.func15, Try.ntmps15
  go_wp2
  refine wp_loop_rounds 5 ?_
  repeat any_goals (rw [rounds_succ]; go_wp2_with (go_at_call 21; refine (in_any _ _ _ _).mono ?_; rintro e w' ⟨rfl, rfl⟩))
  all_goals first
    | (have h := ‹(!inB c0 0 1099511627776) = true›; go_ret; refine ⟨ret_int (checkI_arg (c := ⟨c0, c1, c2, c3, l⟩) (clk_bad (.inl h))).symm, ?_⟩; (repeat' (first | (with_reducible exact Below.refl _ _) | (with_reducible assumption) | (with_reducible refine below_drewN ?_ _) | (with_reducible refine Below.drew ?_) | (with_reducible refine Below.alloc ?_ ?_ _) | (with_reducible refine Below.setCell ?_ ?_ _) | (refine Below.trans ?_ (Below.mono (by assumption) ?_)) | go_size)))
    | (have h := ‹(!inB c1 0 1099511627776) = true›; go_ret; refine ⟨ret_int (checkI_arg (c := ⟨c0, c1, c2, c3, l⟩) (clk_bad (.inr (.inl h)))).symm, ?_⟩; (repeat' (first | (with_reducible exact Below.refl _ _) | (with_reducible assumption) | (with_reducible refine below_drewN ?_ _) | (with_reducible refine Below.drew ?_) | (with_reducible refine Below.alloc ?_ ?_ _) | (with_reducible refine Below.setCell ?_ ?_ _) | (refine Below.trans ?_ (Below.mono (by assumption) ?_)) | go_size)))
    | (have h := ‹(!inB c2 0 1099511627776) = true›; go_ret; refine ⟨ret_int (checkI_arg (c := ⟨c0, c1, c2, c3, l⟩) (clk_bad (.inr (.inr (.inl h))))).symm, ?_⟩; (repeat' (first | (with_reducible exact Below.refl _ _) | (with_reducible assumption) | (with_reducible refine below_drewN ?_ _) | (with_reducible refine Below.drew ?_) | (with_reducible refine Below.alloc ?_ ?_ _) | (with_reducible refine Below.setCell ?_ ?_ _) | (refine Below.trans ?_ (Below.mono (by assumption) ?_)) | go_size)))
    | (have h := ‹(!inB c3 0 1099511627776) = true›; go_ret; refine ⟨ret_int (checkI_arg (c := ⟨c0, c1, c2, c3, l⟩) (clk_bad (.inr (.inr (.inr h))))).symm, ?_⟩; (repeat' (first | (with_reducible exact Below.refl _ _) | (with_reducible assumption) | (with_reducible refine below_drewN ?_ _) | (with_reducible refine Below.drew ?_) | (with_reducible refine Below.alloc ?_ ?_ _) | (with_reducible refine Below.setCell ?_ ?_ _) | (refine Below.trans ?_ (Below.mono (by assumption) ?_)) | go_size)))
    | (go_ret; refine ⟨ret_int (checkI_large (c := ⟨c0, c1, c2, c3, l⟩) (clk_good ‹_› ‹_› ‹_› ‹_›) ?_).symm, ?_⟩; (simp only; omega); (repeat' (first | (with_reducible exact Below.refl _ _) | (with_reducible assumption) | (with_reducible refine below_drewN ?_ _) | (with_reducible refine Below.drew ?_) | (with_reducible refine Below.alloc ?_ ?_ _) | (with_reducible refine Below.setCell ?_ ?_ _) | (refine Below.trans ?_ (Below.mono (by assumption) ?_)) | go_size)))
    | skip
  have hc : (clkOk c0 && clkOk c1 && clkOk c2 && clkOk c3) = true := clk_good ‹_› ‹_› ‹_› ‹_›
  have q0 := inB_of ‹(!inB c0 0 1099511627776) = false›
  have q1 := inB_of ‹(!inB c1 0 1099511627776) = false›
  have q2 := inB_of ‹(!inB c2 0 1099511627776) = false›
  have q3 := inB_of ‹(!inB c3 0 1099511627776) = false›
  have h4 : l.length ≤ 400 := by omega
  rw [‹(!inB c3 0 1099511627776) = false›]
  go_loopw [4] (fun i wr => (∃ k : Nat, k ≤ l.length ∧ i = .int .i64 k ∧ ∀ j, j < k → badAt ⟨c0, c1, c2, c3, l⟩ j = false) ∧ Below (w.heap.size + 1) (w.alloc (.cells #[.int .i64 c0, .int .i64 c1, .int .i64 c2, .int .i64 c3, .slice A l.length k0] 25)) wr) (fun i _ => l.length - (intOf i).toNat)
  case atStart => exact ⟨⟨0, by omega, rfl, fun j h => absurd h (by omega)⟩, by (repeat' (first | (with_reducible exact Below.refl _ _) | (with_reducible assumption) | (with_reducible refine below_drewN ?_ _) | (with_reducible refine Below.drew ?_) | (with_reducible refine Below.alloc ?_ ?_ _) | (with_reducible refine Below.setCell ?_ ?_ _) | (refine Below.trans ?_ (Below.mono (by assumption) ?_)) | go_size))⟩
  case round =>
    obtain ⟨⟨k, hk, rfl, hno⟩, hbw⟩ := hrel
    by_cases hlt : k < l.length
    · have hr1 := HR.out.later hbw
      have hsz := size_later hbw
      obtain ⟨b, off, rfl, hb, h0, h1⟩ := hr1.dot hlt
      have hp : 0 < k → ∃ p : Int × Int, l.getD (k - 1) (0, 0) = p ∧ wr.cell? ⟨b, off + (k - 1) * 2, none⟩ = some (.int .i64 p.1) ∧ wr.cell? ⟨b, off + (k - 1) * 2 + 1, none⟩ = some (.int .i64 p.2) := by
        intro hm
        obtain ⟨b', off', he, hb', h0', h1'⟩ := hr1.dot (k := k - 1) (by omega)
        injection he with he
        injection he with he1 he2
        subst he1 he2
        exact ⟨l[k - 1], by simp [List.getD, show k - 1 < l.length by omega], h0', h1'⟩
      have hB := (bcell hbw).1
      have e0 : wr.cell? ⟨w.heap.size, 4, none⟩ = some (.slice (some ⟨b, off, none⟩) l.length k0) := by rw [hB _ _ (by omega)]; simp [go_sem]
      have ec : 0 ≤ (l[k]).1 → (l[k]).1 < 4 → wr.cell? ⟨w.heap.size, (l[k]).1.toNat, none⟩ = some (.int .i64 (Ctx.at_ ⟨c0, c1, c2, c3, l⟩ (l[k]).1)) := by
        intro q0 q4
        rw [hB _ _ (by omega)]
        rcases (by omega : (l[k]).1 = 0 ∨ (l[k]).1 = 1 ∨ (l[k]).1 = 2 ∨ (l[k]).1 = 3) with h | h | h | h <;> simp [h, go_sem, Ctx.at_]
      have hgd : l.getD k (0, 0) = l[k] := by simp [List.getD, hlt]
      have hbad : badAt ⟨c0, c1, c2, c3, l⟩ k = (!rightB (l[k]).1 (l[k]).2 || (decide (0 < k) && !before (l.getD (k - 1) (0, 0)) l[k]) || decide ((l[k]).2 ≤ Ctx.at_ ⟨c0, c1, c2, c3, l⟩ (l[k]).1 + 1)) := by
        simp only [badAt, hgd]
      have HBAD := hid hbad
      have HN := hid hno
      have HB := hid hbw
      clear hgd hbad hno hbw hr1 hB
      generalize l[k] = d at *
      obtain ⟨d0, d1⟩ := d
      simp only at *
      have hne : (b = wr.heap.size) = False := by simp; omega
      have hne2 : (w.heap.size = wr.heap.size) = False := by simp; omega
      have hb1 : b < wr.heap.size + 1 := by omega
      have hb2 : b < wr.heap.size := by omega
      have hw1 : w.heap.size < wr.heap.size + 1 := by omega
      cases hright : rightB d0 d1
      · clear hp
        go_wp2
        refine region_ext (by kernel_rfl) (by kernel_rfl) (fun hext => ?_)
        repeat (any_goals ((with_reducible refine wpQuiet_step (fun K hK => ?_)); go_simp; first | (with_reducible refine hK _ ?_; clear hK K) | ((with_reducible apply Exists.intro); (with_reducible refine ⟨fun _ => ?_, hK _ ?_⟩); (first | (go_at_call 19; exact ext_call _ (by simp) (Rright_any _ _ _)) | (go_at_call 61; exact ext_call _ (by simp) (before_any _ _ _ _ _))); clear hK K) | ((with_reducible refine (if_neg ?_).mpr (hK _ ?_)); (decide); clear hK K) | (split <;> (with_reducible refine hK _ ?_; clear hK K))))
        all_goals ((with_reducible refine wpQuiet_nil ?_); clear hext; intro w1 hx1; have hb1 := ext_below hx1; clear hx1)
        go_wp2
        go_ret
        refine ⟨ret_int (checkI_form (c := ⟨c0, c1, c2, c3, l⟩) hc h4 hlt (by rw [HBAD.out]; simp [hright])).symm, ?_⟩
        have hbw := HB.out
        (repeat' (first | (with_reducible exact Below.refl _ _) | (with_reducible assumption) | (with_reducible refine below_drewN ?_ _) | (with_reducible refine Below.drew ?_) | (with_reducible refine Below.alloc ?_ ?_ _) | (with_reducible refine Below.setCell ?_ ?_ _) | (refine Below.trans ?_ (Below.mono (by assumption) ?_)) | go_size))
      · have hR : 0 ≤ d0 ∧ d0 < 4 ∧ 1 ≤ d1 ∧ d1 ≤ 1099511627776 := by simpa [rightB, and_assoc] using hright
        obtain ⟨r0, r4, s0, s1⟩ := hR
        have ec1 := ec r0 r4
        have hat : 0 ≤ Ctx.at_ ⟨c0, c1, c2, c3, l⟩ d0 ∧ Ctx.at_ ⟨c0, c1, c2, c3, l⟩ d0 ≤ 1099511627776 := by simp only [Ctx.at_]; split <;> (try split) <;> (try split) <;> omega
        obtain ⟨hat0, hat1⟩ := hat
        clear ec
        generalize hA : Ctx.at_ ⟨c0, c1, c2, c3, l⟩ d0 = at0 at *
        clear hA
        have zw : IntKind.i64.wrap (at0 + 2) = at0 + 2 := IntWalk.i64_in _ (by omega)
        by_cases hk0 : 0 < k
        · obtain ⟨⟨p0, p1⟩, hpe, g0, g1⟩ := hp hk0
          have hd : decide ((0 : Int) < (k : Int)) = true := by simp; omega
          simp only at g0 g1
          clear hp
          have z1 : IntKind.i64.wrap ((k : Int) - 1) = (k : Int) - 1 := IntWalk.i64_in _ (by omega)
          have z2 : (1 : Int) ≤ (k : Int) := by omega
          have z3 : (k : Int) - 1 < (l.length : Int) := by omega
          have z4 : ((k : Int) - 1).toNat = k - 1 := by omega
          have HPE := hid hpe
          clear hpe
          cases hbf : before (p0, p1) (d0, d1)
          rotate_left
          · have HBE := hid hbf
            go_wp2
            refine region_ext (by kernel_rfl) (by kernel_rfl) (fun hext => ?_)
            repeat (any_goals ((with_reducible refine wpQuiet_step (fun K hK => ?_)); go_simp; first | (with_reducible refine hK _ ?_; clear hK K) | ((with_reducible apply Exists.intro); (with_reducible refine ⟨fun _ => ?_, hK _ ?_⟩); (first | (go_at_call 19; exact ext_call _ (by simp) (Rright_any _ _ _)) | (go_at_call 61; exact ext_call _ (by simp) (before_any _ _ _ _ _))); clear hK K) | ((with_reducible refine (if_neg ?_).mpr (hK _ ?_)); (decide); clear hK K) | (split <;> (with_reducible refine hK _ ?_; clear hK K))))
            all_goals ((with_reducible refine wpQuiet_nil ?_); clear hext; intro w1 hx1; have hb1 := ext_below hx1; clear hx1)
            go_wp2
            · have ht : d1 ≤ at0 + 1 := by omega
              go_ret
              refine ⟨ret_int (checkI_form (c := ⟨c0, c1, c2, c3, l⟩) hc h4 hlt (by rw [HBAD.out]; simp [ht])).symm, ?_⟩
              have hbw := HB.out
              (repeat' (first | (with_reducible exact Below.refl _ _) | (with_reducible assumption) | (with_reducible refine below_drewN ?_ _) | (with_reducible refine Below.drew ?_) | (with_reducible refine Below.alloc ?_ ?_ _) | (with_reducible refine Below.setCell ?_ ?_ _) | (refine Below.trans ?_ (Below.mono (by assumption) ?_)) | go_size))
            · have ht : at0 + 1 < d1 := by omega
              go_roundw
              case rel =>
                refine ⟨⟨k + 1, by omega, by go_num, fun j hj => ?_⟩, ?_⟩
                · by_cases e : j = k
                  · subst e; rw [HBAD.out, HPE.out, HBE.out, hright]; simp; omega
                  · exact HN.out j (by omega)
                · have hbw := HB.out
                  (repeat' (first | (with_reducible exact Below.refl _ _) | (with_reducible assumption) | (with_reducible refine below_drewN ?_ _) | (with_reducible refine Below.drew ?_) | (with_reducible refine Below.alloc ?_ ?_ _) | (with_reducible refine Below.setCell ?_ ?_ _) | (refine Below.trans ?_ (Below.mono (by assumption) ?_)) | go_size))
              case measure => simp [intOf]; omega
          · have HBE := hid hbf
            go_wp2
            refine region_ext (by kernel_rfl) (by kernel_rfl) (fun hext => ?_)
            repeat (any_goals ((with_reducible refine wpQuiet_step (fun K hK => ?_)); go_simp; first | (with_reducible refine hK _ ?_; clear hK K) | ((with_reducible apply Exists.intro); (with_reducible refine ⟨fun _ => ?_, hK _ ?_⟩); (first | (go_at_call 19; exact ext_call _ (by simp) (Rright_any _ _ _)) | (go_at_call 61; exact ext_call _ (by simp) (before_any _ _ _ _ _))); clear hK K) | ((with_reducible refine (if_neg ?_).mpr (hK _ ?_)); (decide); clear hK K) | (split <;> (with_reducible refine hK _ ?_; clear hK K))))
            all_goals ((with_reducible refine wpQuiet_nil ?_); clear hext; intro w1 hx1; have hb1 := ext_below hx1; clear hx1)
            go_wp2
            go_ret
            refine ⟨ret_int (checkI_form (c := ⟨c0, c1, c2, c3, l⟩) hc h4 hlt (by rw [HBAD.out, HPE.out, HBE.out]; simp [hk0])).symm, ?_⟩
            have hbw := HB.out
            (repeat' (first | (with_reducible exact Below.refl _ _) | (with_reducible assumption) | (with_reducible refine below_drewN ?_ _) | (with_reducible refine Below.drew ?_) | (with_reducible refine Below.alloc ?_ ?_ _) | (with_reducible refine Below.setCell ?_ ?_ _) | (refine Below.trans ?_ (Below.mono (by assumption) ?_)) | go_size))
        · have hd : decide ((0 : Int) < (k : Int)) = false := by simp; omega
          have hd2 : decide (0 < k) = false := by simp; omega
          rw [hd2] at HBAD
          clear hp hd2
          go_wp2
          refine region_ext (by kernel_rfl) (by kernel_rfl) (fun hext => ?_)
          repeat (any_goals ((with_reducible refine wpQuiet_step (fun K hK => ?_)); go_simp; first | (with_reducible refine hK _ ?_; clear hK K) | ((with_reducible apply Exists.intro); (with_reducible refine ⟨fun _ => ?_, hK _ ?_⟩); (first | (go_at_call 19; exact ext_call _ (by simp) (Rright_any _ _ _)) | (go_at_call 61; exact ext_call _ (by simp) (before_any _ _ _ _ _))); clear hK K) | ((with_reducible refine (if_neg ?_).mpr (hK _ ?_)); (decide); clear hK K) | (split <;> (with_reducible refine hK _ ?_; clear hK K))))
          all_goals ((with_reducible refine wpQuiet_nil ?_); clear hext; intro w1 hx1; have hb1 := ext_below hx1; clear hx1)
          go_wp2
          · have ht : d1 ≤ at0 + 1 := by omega
            go_ret
            refine ⟨ret_int (checkI_form (c := ⟨c0, c1, c2, c3, l⟩) hc h4 hlt (by rw [HBAD.out]; simp [ht])).symm, ?_⟩
            have hbw := HB.out
            (repeat' (first | (with_reducible exact Below.refl _ _) | (with_reducible assumption) | (with_reducible refine below_drewN ?_ _) | (with_reducible refine Below.drew ?_) | (with_reducible refine Below.alloc ?_ ?_ _) | (with_reducible refine Below.setCell ?_ ?_ _) | (refine Below.trans ?_ (Below.mono (by assumption) ?_)) | go_size))
          · have ht : at0 + 1 < d1 := by omega
            go_roundw
            case rel =>
              refine ⟨⟨k + 1, by omega, by go_num, fun j hj => ?_⟩, ?_⟩
              · by_cases e : j = k
                · subst e; rw [HBAD.out, hright]; simp; omega
                · exact HN.out j (by omega)
              · have hbw := HB.out
                (repeat' (first | (with_reducible exact Below.refl _ _) | (with_reducible assumption) | (with_reducible refine below_drewN ?_ _) | (with_reducible refine Below.drew ?_) | (with_reducible refine Below.alloc ?_ ?_ _) | (with_reducible refine Below.setCell ?_ ?_ _) | (refine Below.trans ?_ (Below.mono (by assumption) ?_)) | go_size))
            case measure => simp [intOf]; omega
    · have e0 : wr.cell? ⟨w.heap.size, 4, none⟩ = some (.slice A l.length k0) := by rw [(bcell hbw).1 _ _ (by omega)]; simp [go_sem]
      have HB := hid hbw
      have HN := hid hno
      clear hbw hno
      go_wp2
      go_ret
      exact ⟨ret_int (checkI_ok (c := ⟨c0, c1, c2, c3, l⟩) hc h4 (fun i hi => HN.out i (by simp only at hi; omega))).symm, Below.trans (b := w.alloc _) (by (repeat' (first | (with_reducible exact Below.refl _ _) | (with_reducible assumption) | (with_reducible refine below_drewN ?_ _) | (with_reducible refine Below.drew ?_) | (with_reducible refine Below.alloc ?_ ?_ _) | (with_reducible refine Below.setCell ?_ ?_ _) | (refine Below.trans ?_ (Below.mono (by assumption) ?_)) | go_size))) (HB.out.mono (Nat.le_succ _))⟩
end Go.Proofs.Ytogegnikpjcpdaa
/- Contract of viewref.Has. -/
namespace Go.Proofs.Ytogegnikpjcpdaa
set_option linter.unusedVariables false
open Go.ChangeShapes Go.WideShapes Go.ChangeAt Go.RowKit

theorem hasB_mem {c : Ctx} {n s : Int} (h : (n, s) ∈ c.cloud) : hasB c (n, s) = true := by simp [hasB, Ctx.has, h]
theorem hasB_notin {c : Ctx} {n s : Int} (h : (n, s) ∉ c.cloud) : hasB c (n, s) = (inB n 0 3 && decide (1 ≤ s) && decide (s ≤ c.at_ n)) := by
  rw [Bool.eq_iff_iff]
  simp [hasB, Ctx.has, h, inB]
  omega

set_option maxHeartbeats 1000000 in
set_option maxRecDepth 100000 in
theorem Rhas_ints (c0 c1 c2 c3 : Int) (l : List (Int × Int)) (n s : Int) (A : Option Addr) (k0 : Nat) (w : World) (hr : Row w w.heap.size A (dcells l)) (hl : l.length ≤ 9223372036854775807) :
    Calls Try.prog 26 #[.agg #[.int .i64 c0, .int .i64 c1, .int .i64 c2, .int .i64 c3, .slice A l.length k0], .agg #[.int .i64 n, .int .i64 s]] w fun e w' => e = .returned (.bool (hasB ⟨c0, c1, c2, c3, l⟩ (n, s))) ∧ Below w.heap.size w w' := by
  have HR := hid hr
  clear hr
  go_enter Try.func26, Try.ntmps26
  go_wp2
  go_loopw [5] (fun i wr => (∃ k : Nat, k ≤ l.length ∧ i = .int .i64 k ∧ ∀ j (h : j < l.length), j < k → l[j] ≠ (n, s)) ∧ Below (w.heap.size + 1 + 1) ((w.alloc (.cells #[.int .i64 c0, .int .i64 c1, .int .i64 c2, .int .i64 c3, .slice A l.length k0] 25)).alloc (.cells #[.int .i64 n, .int .i64 s] 27)) wr) (fun i _ => l.length - (intOf i).toNat)
  case atStart => exact ⟨⟨0, by omega, rfl, fun j _ h => absurd h (by omega)⟩, by (repeat' (first | (with_reducible exact Below.refl _ _) | (with_reducible assumption) | (with_reducible refine below_drewN ?_ _) | (with_reducible refine Below.drew ?_) | (with_reducible refine Below.alloc ?_ ?_ _) | (with_reducible refine Below.setCell ?_ ?_ _) | (refine Below.trans ?_ (Below.mono (by assumption) ?_)) | go_size))⟩
  case round =>
    obtain ⟨⟨k, hk, rfl, hno⟩, hbw⟩ := hrel
    have hB := (bcell hbw).1
    have e0 : wr.cell? ⟨w.heap.size, 4, none⟩ = some (.slice A l.length k0) := by rw [hB _ _ (by omega)]; simp [go_sem]
    have e1 : wr.cell? ⟨w.heap.size + 1, 0, none⟩ = some (.int .i64 n) := by rw [hB _ _ (by omega)]; simp [go_sem]
    have e2 : wr.cell? ⟨w.heap.size + 1, 1, none⟩ = some (.int .i64 s) := by rw [hB _ _ (by omega)]; simp [go_sem]
    have hW : Below w.heap.size w wr := Below.trans (b := (w.alloc _).alloc _) (by (repeat' (first | (with_reducible exact Below.refl _ _) | (with_reducible assumption) | (with_reducible refine below_drewN ?_ _) | (with_reducible refine Below.drew ?_) | (with_reducible refine Below.alloc ?_ ?_ _) | (with_reducible refine Below.setCell ?_ ?_ _) | (refine Below.trans ?_ (Below.mono (by assumption) ?_)) | go_size))) (hbw.mono (by omega))
    have ec : 0 ≤ n → n < 4 → wr.cell? ⟨w.heap.size, n.toNat, none⟩ = some (.int .i64 (Ctx.at_ ⟨c0, c1, c2, c3, l⟩ n)) := by
      intro q0 q4
      rw [hB _ _ (by omega)]
      rcases (by omega : n = 0 ∨ n = 1 ∨ n = 2 ∨ n = 3) with h | h | h | h <;> subst h <;> simp [go_sem, Ctx.at_]
    have hs1 : w.heap.size + 1 < wr.heap.size := by have := hbw.size; simp at this; omega
    have hs0 : w.heap.size < wr.heap.size := by omega
    have HB := hid hbw
    have HN := hid hno
    have HW := hid hW
    clear hB hbw hno
    have g1 := guard_dot
    have g2 := eql_dot
    by_cases hlt : k < l.length
    · obtain ⟨b, off, rfl, hb, h0, h1⟩ := (HR.out.below hW (Nat.le_refl _)).dot hlt
      clear hW ec
      generalize hd : l[k] = d at *
      obtain ⟨d0, d1⟩ := d
      have HD := hid hd
      clear hd
      simp only at h0 h1
      go_wp2
      refine wp_region_quiet_lit (by kernel_rfl) (by kernel_rfl) ?_
      repeat (any_goals ((with_reducible refine wpQuiet_step (fun K hK => ?_)); go_simp; first | (with_reducible refine hK _ ?_; clear hK K) | ((with_reducible apply Exists.intro); (with_reducible refine ⟨fun _ => ?_, hK _ ?_⟩); (fail); clear hK K) | ((with_reducible refine (if_neg ?_).mpr (hK _ ?_)); (decide); clear hK K) | (split <;> (with_reducible refine hK _ ?_; clear hK K))))
      all_goals ((with_reducible refine wpQuiet_nil ?_); intro _ hw'; obtain ⟨nq, hw''⟩ := hw'; subst hw'')
      go_wp2
      · have ht : (d0 == n) = true ∧ (d1 == s) = true := by assumption
        go_ret
        have e : (n, s) = l[k] := by rw [HD.out]; ext <;> simp_all
        refine ⟨ret_bool (hasB_mem (c := ⟨c0, c1, c2, c3, l⟩) (by rw [e]; exact List.getElem_mem _)).symm, ?_⟩
        have hW := HW.out
        (repeat' (first | (with_reducible exact Below.refl _ _) | (with_reducible assumption) | (with_reducible refine below_drewN ?_ _) | (with_reducible refine Below.drew ?_) | (with_reducible refine Below.alloc ?_ ?_ _) | (with_reducible refine Below.setCell ?_ ?_ _) | (refine Below.trans ?_ (Below.mono (by assumption) ?_)) | go_size))
      · have ht : (d0 == n) = false ∨ (d1 == s) = false := by assumption
        go_roundw
        case rel =>
          refine ⟨⟨k + 1, by omega, by go_num, fun j h hj => ?_⟩, below_drewN HB.out _⟩
          by_cases e : j = k
          · subst e; intro h2; rw [HD.out] at h2; injection h2 with h3 h4; subst h3 h4; simp at ht
          · exact HN.out j h (by omega)
        case measure => simp [intOf]; omega
    · clear hW
      by_cases hi : inB n 0 3 = true
      · have hn : 0 ≤ n ∧ n ≤ 3 := by simpa [inB] using hi
        obtain ⟨hn0, hn3⟩ := hn
        have ec1 := ec hn0 (by omega)
        have m1 : (if (3 : Int) < n then 3 else n) = n := if_neg (by omega)
        have m2 : (if (0 : Int) < n then n else 0) = n := by split <;> omega
        have m3 : n < 4 := by omega
        clear ec
        go_wp2
        refine region_ext (by kernel_rfl) (by kernel_rfl) (fun hext => ?_)
        repeat (any_goals ((with_reducible refine wpQuiet_step (fun K hK => ?_)); go_simp; first | (with_reducible refine hK _ ?_; clear hK K) | ((with_reducible apply Exists.intro); (with_reducible refine ⟨fun _ => ?_, hK _ ?_⟩); (first | (go_at_call 21; exact ext_call_same _ (in_any _ _ _ _))); clear hK K) | ((with_reducible refine (if_neg ?_).mpr (hK _ ?_)); (decide); clear hK K) | (split <;> (with_reducible refine hK _ ?_; clear hK K))))
        all_goals ((with_reducible refine wpQuiet_nil ?_); clear hext; intro w1 hx1; have hb1 := ext_below hx1; clear hx1)
        go_wp2
        all_goals go_ret
        all_goals
          have hni : (n, s) ∉ l := by
            intro hm
            obtain ⟨j, hj, e⟩ := List.getElem_of_mem hm
            exact HN.out j hj (by omega) e
          have hW := HW.out
        · have h1s : 1 ≤ s := by omega
          exact ⟨ret_bool (by rw [hasB_notin (c := ⟨c0, c1, c2, c3, l⟩) hni, hi]; simp [h1s]), by (repeat' (first | (with_reducible exact Below.refl _ _) | (with_reducible assumption) | (with_reducible refine below_drewN ?_ _) | (with_reducible refine Below.drew ?_) | (with_reducible refine Below.alloc ?_ ?_ _) | (with_reducible refine Below.setCell ?_ ?_ _) | (refine Below.trans ?_ (Below.mono (by assumption) ?_)) | go_size))⟩
        · have h1s : ¬ 1 ≤ s := by omega
          exact ⟨ret_bool (by rw [hasB_notin (c := ⟨c0, c1, c2, c3, l⟩) hni, hi]; simp [h1s]), by (repeat' (first | (with_reducible exact Below.refl _ _) | (with_reducible assumption) | (with_reducible refine below_drewN ?_ _) | (with_reducible refine Below.drew ?_) | (with_reducible refine Below.alloc ?_ ?_ _) | (with_reducible refine Below.setCell ?_ ?_ _) | (refine Below.trans ?_ (Below.mono (by assumption) ?_)) | go_size))⟩
      · have hi' : inB n 0 3 = false := by simpa using hi
        clear ec hi
        go_wp2
        refine region_ext (by kernel_rfl) (by kernel_rfl) (fun hext => ?_)
        repeat (any_goals ((with_reducible refine wpQuiet_step (fun K hK => ?_)); go_simp; first | (with_reducible refine hK _ ?_; clear hK K) | ((with_reducible apply Exists.intro); (with_reducible refine ⟨fun _ => ?_, hK _ ?_⟩); (first | (go_at_call 21; exact ext_call_same _ (in_any _ _ _ _))); clear hK K) | ((with_reducible refine (if_neg ?_).mpr (hK _ ?_)); (decide); clear hK K) | (split <;> (with_reducible refine hK _ ?_; clear hK K))))
        all_goals ((with_reducible refine wpQuiet_nil ?_); clear hext; intro w1 hx1; have hb1 := ext_below hx1; clear hx1)
        go_wp2
        go_ret
        have hni : (n, s) ∉ l := by
          intro hm
          obtain ⟨j, hj, e⟩ := List.getElem_of_mem hm
          exact HN.out j hj (by omega) e
        refine ⟨ret_bool (by rw [hasB_notin (c := ⟨c0, c1, c2, c3, l⟩) hni, hi']; simp), ?_⟩
        have hW := HW.out
        (repeat' (first | (with_reducible exact Below.refl _ _) | (with_reducible assumption) | (with_reducible refine below_drewN ?_ _) | (with_reducible refine Below.drew ?_) | (with_reducible refine Below.alloc ?_ ?_ _) | (with_reducible refine Below.setCell ?_ ?_ _) | (refine Below.trans ?_ (Below.mono (by assumption) ?_)) | go_size))

theorem Rhas_any (c : Ctx) (d : Int × Int) (A : Option Addr) (k : Nat) (w : World) (hr : Row w w.heap.size A (dcells c.cloud)) (hl : c.cloud.length ≤ 9223372036854775807) :
    Calls Try.prog 26 #[cval c A k, dval d] w fun e w' => e = .returned (.bool (hasB c d)) ∧ Below w.heap.size w w' :=
  Rhas_ints c.c0 c.c1 c.c2 c.c3 c.cloud d.1 d.2 A k w hr hl
end Go.Proofs.Ytogegnikpjcpdaa
