/- DotG, DotH, Mem, Two, Shelf, DotI, DotJ, DotK, DotL, DotM, DotN -/
import Derived.Test.YtogegnikpjcpdaaCk01
import Derived.Shelf.Abstract
import Derived.Deep.AppendLies
import Derived.Shelf.SlSortCmp.WholeK
import Derived.Test.YtogegnikpjcpdaaRows
import Derived.Shelf.SlSortCmp.NoneTotal
import Derived.WalkSpells
import Derived.Maps.AppendAt
import Derived.Shelf.Slices.CompactI
/- Contracts of slices.IndexFunc, ContainsFunc at Dot, and of the predicates handed to them. -/
namespace Go.Proofs.Ytogegnikpjcpdaa
set_option linter.unusedVariables false
open Go.ChangeShapes Go.WideShapes Go.ChangeAt Go.RowKit

/-- What is asked of a function value: handed a dot of the list, in whatever later world, it answers p, and leaves what was there. -/
def PredD (g : Nat) (caps : Array Value) (p : Int × Int → Bool) (l : List (Int × Int)) (w : World) : Prop :=
  ∀ w', Below w.heap.size w w' → ∀ d ∈ l, Calls Try.prog g (#[dval d] ++ caps) w' fun e w'' => e = .returned (.bool (p d)) ∧ Below w'.heap.size w' w''

set_option maxHeartbeats 400000 in
set_option maxRecDepth 100000 in
theorem indexFunc_any (g : Nat) (caps : Array Value) (p : Int × Int → Bool) (l : List (Int × Int)) (A : Option Addr) (c : Nat) (w : World) (hr : Row w w.heap.size A (dcells l)) (hl : l.length ≤ 9223372036854775807)
    (eg : ∀ args w, (callFunc g args).run Try.prog w = .ok (.enter g args) w) (hp : PredD g caps p l w) :
    Calls Try.prog 65 #[.slice A l.length c, .func (.func g) #[] caps] w (IdxPost (l.any p = true) w) := by
  have HR := hid hr
  clear hr
  go_enter Try.func65, Try.ntmps65
  go_wp2
  go_loopw [8] (fun i wr => (∃ k : Nat, k ≤ l.length ∧ i = .int .i64 k ∧ ∀ j (h : j < l.length), j < k → p l[j] = false) ∧ Below w.heap.size w wr) (fun i _ => l.length - (intOf i).toNat)
  case atStart => exact ⟨⟨0, by omega, rfl, fun j _ h => absurd h (by omega)⟩, Below.refl _ _⟩
  case round =>
    obtain ⟨⟨k, hk, rfl, hno⟩, hbw⟩ := hrel
    by_cases hlt : k < l.length
    · obtain ⟨b, off, rfl, hb, h0, h1⟩ := (HR.out.below hbw (Nat.le_refl _)).dot hlt
      have hc := hp wr hbw l[k] (List.getElem_mem _)
      have HN := hid hno
      have HB := hid hbw
      have HC := hid hc
      clear hno hbw hc
      generalize hd : l[k] = d at *
      obtain ⟨d0, d1⟩ := d
      have HD := hid hd
      clear hd
      simp only at h0 h1
      cases hpd : p (d0, d1)
      all_goals
        rw [hpd] at HC
        have HP := hid hpd
        clear hpd
        go_wp2_with (refine (HC.out).mono ?_; rintro e w1 ⟨rfl, hb1⟩)
      · go_roundw
        case rel =>
          refine ⟨⟨k + 1, by omega, by go_num, fun j h hj => ?_⟩, HB.out.trans (hb1.mono HB.out.size)⟩
          by_cases e : j = k
          · subst e; rw [HD.out]; exact HP.out
          · exact HN.out j h (by omega)
        case measure => simp [intOf]; omega
      · go_ret
        refine ⟨k, rfl, iff_of_true (by omega) (List.any_eq_true.2 ⟨l[k], List.getElem_mem _, by rw [HD.out]; exact HP.out⟩), HB.out.trans (hb1.mono HB.out.size)⟩
    · go_wp2
      go_ret
      refine ⟨-1, rfl, iff_of_false (by omega) ?_, hbw⟩
      intro hm
      obtain ⟨d, hd, e⟩ := List.any_eq_true.1 hm
      obtain ⟨j, hj, rfl⟩ := List.getElem_of_mem hd
      rw [hno j hj (by omega)] at e
      cases e

theorem containsFunc_any (g : Nat) (caps : Array Value) (p : Int × Int → Bool) (l : List (Int × Int)) (A : Option Addr) (c : Nat) (w : World) (hr : Row w w.heap.size A (dcells l)) (hl : l.length ≤ 9223372036854775807)
    (eg : ∀ args w, (callFunc g args).run Try.prog w = .ok (.enter g args) w) (hp : PredD g caps p l w) :
    Calls Try.prog 17 #[.slice A l.length c, .func (.func g) #[] caps] w fun e w' => e = .returned (.bool (l.any p)) ∧ Below w.heap.size w w' := by
  have H := indexFunc_any g caps p l A c w hr hl eg hp
  have HR := hid hr
  have HP := hid hp
  clear hr eg hp
  go_enter Try.func17, Try.ntmps17
  go_wp2_with (go_at_call 65; refine H.mono ?_; rintro e w' ⟨i, rfl, hi, hb⟩)
  go_ret
  refine ⟨ret_bool ?_, hb⟩
  cases h : l.any p
  · rw [h] at hi; simpa using hi
  · rw [h] at hi; simpa using hi

theorem notRight_any (d : Int × Int) (w : World) :
    Calls Try.prog 62 #[dval d] w fun e w' => e = .returned (.bool (!rightB d.1 d.2)) ∧ Below w.heap.size w w' := by
  obtain ⟨n, s⟩ := d
  simp only [dval]
  go_enter Try.func62, Try.ntmps62
  go_wp2_with (go_at_call 63; refine (right_any _ _ _).mono ?_; rintro e w' ⟨rfl, hb⟩)
  go_ret
  exact ⟨rfl, by (repeat' (first | (with_reducible exact Below.refl _ _) | (with_reducible assumption) | (with_reducible refine below_drewN ?_ _) | (with_reducible refine Below.drew ?_) | (with_reducible refine Below.alloc ?_ ?_ _) | (with_reducible refine Below.setCell ?_ ?_ _) | (refine Below.trans ?_ (Below.mono (by assumption) ?_)) | go_size))⟩

theorem enters_makeF : ∀ args w, (callFunc 62 args).run Try.prog w = .ok (.enter 62 args) w := enters_of Try.func62 (by kernel_rfl) rfl
theorem predMake (l : List (Int × Int)) (w : World) : PredD 62 #[] (fun d => !rightB d.1 d.2) l w := fun w' _ d _ => notRight_any d w'
end Go.Proofs.Ytogegnikpjcpdaa
/- Contracts of slices.Equal at Dot, viewref.SameContext. -/
namespace Go.Proofs.Ytogegnikpjcpdaa
set_option linter.unusedVariables false
open Go.ChangeShapes Go.WideShapes Go.ChangeAt Go.RowKit

theorem neq_dot (a b c d : Int) (w : World) : (binOp .neq 27 (.agg #[.int .i64 a, .int .i64 b]) (.agg #[.int .i64 c, .int .i64 d])).run Try.prog w = .ok (.bool (!(a == c && b == d))) w := by
  have h1 := under_dot
  have h2 := stood_dot
  simp only [run_neq_struct, run_equalIn_agg _ _ _ _ _ h1 h2]
  simp [go_sem]
  by_cases ha : a = c <;> by_cases hb : b = d <;> simp [ha, hb, go_sem]

set_option maxHeartbeats 400000 in
set_option maxRecDepth 100000 in
theorem equal_any (l m : List (Int × Int)) (A B : Option Addr) (c e : Nat) (w : World) (hr : Row w w.heap.size A (dcells l)) (hs : Row w w.heap.size B (dcells m)) (hl : l.length ≤ 9223372036854775807) (hm : m.length ≤ 9223372036854775807) :
    Calls Try.prog 34 #[.slice A l.length c, .slice B m.length e] w fun e w' => e = .returned (.bool (decide (l = m))) ∧ Below w.heap.size w w' := by
  have HR := hid hr
  have HS := hid hs
  clear hr hs
  by_cases hlen : l.length = m.length
  · have hne : ((l.length : Int) != (m.length : Int)) = false := by simp [hlen]
    have HL := hid hlen
    clear hlen
    go_enter Try.func34, Try.ntmps34
    go_wp2
    go_loopw [13] (fun i wr => (∃ k : Nat, k ≤ l.length ∧ i = .int .i64 k ∧ ∀ j (h : j < l.length) (h' : j < m.length), j < k → l[j] = m[j]) ∧ Below w.heap.size w wr) (fun i _ => l.length - (intOf i).toNat)
    case atStart => exact ⟨⟨0, by omega, rfl, fun j _ _ h => absurd h (by omega)⟩, Below.refl _ _⟩
    case round =>
      obtain ⟨⟨k, hk, rfl, hno⟩, hbw⟩ := hrel
      by_cases hlt : k < l.length
      · have hlt' : k < m.length := by have := HL.out; omega
        obtain ⟨b, off, rfl, hb, h0, h1⟩ := (HR.out.below hbw (Nat.le_refl _)).dot hlt
        obtain ⟨b', off', rfl, hb', h0', h1'⟩ := (HS.out.below hbw (Nat.le_refl _)).dot hlt'
        have HN := hid hno
        have HB := hid hbw
        clear hno hbw
        generalize hd : l[k] = d at *
        generalize hd' : m[k] = d' at *
        obtain ⟨d0, d1⟩ := d
        obtain ⟨f0, f1⟩ := d'
        have HD := hid hd
        have HD' := hid hd'
        clear hd hd'
        simp only at h0 h1 h0' h1'
        have g1 := guard_dot
        have g2 := neq_dot
        go_wp2
        refine wp_region_quiet_lit (by kernel_rfl) (by kernel_rfl) ?_
        repeat (any_goals ((with_reducible refine wpQuiet_step (fun K hK => ?_)); go_simp; first | (with_reducible refine hK _ ?_; clear hK K) | ((with_reducible apply Exists.intro); (with_reducible refine ⟨fun _ => ?_, hK _ ?_⟩); (fail); clear hK K) | ((with_reducible refine (if_neg ?_).mpr (hK _ ?_)); (decide); clear hK K) | (split <;> (with_reducible refine hK _ ?_; clear hK K))))
        all_goals ((with_reducible refine wpQuiet_nil ?_); intro _ hw'; obtain ⟨nq, hw''⟩ := hw'; subst hw'')
        go_wp2
        · have ht : (!d0 == f0) = true ∨ (!d1 == f1) = true := by assumption
          go_ret
          refine ⟨ret_bool ?_, below_drewN HB.out _⟩
          symm
          rw [decide_eq_false_iff_not]
          rintro rfl
          have e := HD.out.symm.trans HD'.out
          injection e with e0 e1
          subst e0 e1
          simp at ht
        · have ht : (!d0 == f0) = false ∧ (!d1 == f1) = false := by assumption
          go_roundw
          case rel =>
            refine ⟨⟨k + 1, by omega, by go_num, fun j h h' hj => ?_⟩, below_drewN HB.out _⟩
            by_cases e : j = k
            · subst e; rw [HD.out, HD'.out]; ext <;> simp_all
            · exact HN.out j h h' (by omega)
          case measure => simp [intOf]; omega
      · go_wp2
        go_ret
        refine ⟨ret_bool ?_, hbw⟩
        have : l = m := List.ext_getElem HL.out fun j h h' => hno j h h' (by omega)
        simp [this]
  · have hne : ((l.length : Int) != (m.length : Int)) = true := by simp; omega
    go_enter Try.func34, Try.ntmps34
    go_wp2
    go_ret
    exact ⟨ret_bool (by symm; simp; rintro rfl; exact hlen rfl), Below.refl _ _⟩

set_option maxRecDepth 100000 in
theorem equalIn_clk (a b c d a' b' c' d' : Int) (w : World) : (Op.equalIn 10000 22 (.agg #[.int .i64 a, .int .i64 b, .int .i64 c, .int .i64 d]) (.agg #[.int .i64 a', .int .i64 b', .int .i64 c', .int .i64 d'])).run Try.prog w = .ok (a == a' && b == b' && c == c' && d == d') w := by
  rw [show (10000 : Nat) = 9998 + 1 + 1 from rfl, Op.equalIn.eq_2]
  have hu := Try.underlying22
  have hs : ∀ w, (Go.sizeOf 3).run Try.prog w = .ok 1 w := fun _ => by kernel_rfl
  simp [run_underlying hu, hs]
  have hp : ∀ (x0 x1 x2 x3 : Int) w, (part 3 #[.int .i64 x0, .int .i64 x1, .int .i64 x2, .int .i64 x3] 0).run Try.prog w = .ok (.int .i64 x0) w ∧ (part 3 #[.int .i64 x0, .int .i64 x1, .int .i64 x2, .int .i64 x3] 1).run Try.prog w = .ok (.int .i64 x1) w ∧
      (part 3 #[.int .i64 x0, .int .i64 x1, .int .i64 x2, .int .i64 x3] 2).run Try.prog w = .ok (.int .i64 x2) w ∧ (part 3 #[.int .i64 x0, .int .i64 x1, .int .i64 x2, .int .i64 x3] 3).run Try.prog w = .ok (.int .i64 x3) w := fun _ _ _ _ _ => ⟨by kernel_rfl, by kernel_rfl, by kernel_rfl, by kernel_rfl⟩
  have he : ∀ (x y : Int) w, (Op.equalIn 9999 3 (.int .i64 x) (.int .i64 y)).run Try.prog w = .ok (x == y) w := fun x y w => run_equalIn_int w 9998 3 .i64 .i64 x y Try.underlying3
  simp only [List.range', List.forIn_cons, List.forIn_nil, Sem.run_bind, hp, he, Result.andThen_ok]
  by_cases ha : a = a' <;> by_cases hb : b = b' <;> by_cases hc : c = c' <;> by_cases hd : d = d' <;> simp [ha, hb, hc, hd, hp, he, Sem.run_bind]

theorem eql_clk (a b c d a' b' c' d' : Int) (w : World) : (binOp .eql 22 (.agg #[.int .i64 a, .int .i64 b, .int .i64 c, .int .i64 d]) (.agg #[.int .i64 a', .int .i64 b', .int .i64 c', .int .i64 d'])).run Try.prog w = .ok (.bool (a == a' && b == b' && c == c' && d == d')) w := by
  simp only [run_eql_struct, equalIn_clk, Result.andThen_ok]
theorem guard_clk : Try.prog.eqGuardType Try.prog.depth 22 = false := by kernel_rfl

def sameB (a b : Ctx) : Bool := (a.c0 == b.c0 && a.c1 == b.c1 && a.c2 == b.c2 && a.c3 == b.c3) && decide (a.cloud = b.cloud)
theorem sameB_iff (a b : Ctx) : sameB a b = true ↔ a = b := by
  cases a; cases b; simp [sameB, and_assoc]

set_option maxHeartbeats 400000 in
set_option maxRecDepth 100000 in
theorem same_ints (a0 a1 a2 a3 b0 b1 b2 b3 : Int) (l m : List (Int × Int)) (A B : Option Addr) (c e : Nat) (w : World) (hr : Row w w.heap.size A (dcells l)) (hs : Row w w.heap.size B (dcells m)) (hl : l.length ≤ 9223372036854775807) (hm : m.length ≤ 9223372036854775807) :
    Calls Try.prog 27 #[.agg #[.int .i64 a0, .int .i64 a1, .int .i64 a2, .int .i64 a3, .slice A l.length c], .agg #[.int .i64 b0, .int .i64 b1, .int .i64 b2, .int .i64 b3, .slice B m.length e]] w
      fun e w' => e = .returned (.bool (sameB ⟨a0, a1, a2, a3, l⟩ ⟨b0, b1, b2, b3, m⟩)) ∧ Below w.heap.size w w' := by
  have H : ∀ w1, Below w.heap.size w w1 → Calls Try.prog 34 #[.slice A l.length c, .slice B m.length e] w1 fun e w' => e = .returned (.bool (decide (l = m))) ∧ Below w1.heap.size w1 w' :=
    fun w1 hb => equal_any l m A B c e w1 ((hr.below hb (Nat.le_refl _)).more hb.size) ((hs.below hb (Nat.le_refl _)).more hb.size) hl hm
  have HC := hid H
  clear H hr hs
  have g1 := guard_clk
  have g2 := eql_clk
  cases hc : (a0 == b0 && a1 == b1 && a2 == b2 && a3 == b3)
  all_goals
    go_enter Try.func27, Try.ntmps27
    go_wp2_with (go_at_call 34; refine (HC.out _ ?_).mono ?_; rotate_left; ((repeat' (first | (with_reducible exact Below.refl _ _) | (with_reducible assumption) | (with_reducible refine below_drewN ?_ _) | (with_reducible refine Below.drew ?_) | (with_reducible refine Below.alloc ?_ ?_ _) | (with_reducible refine Below.setCell ?_ ?_ _) | (refine Below.trans ?_ (Below.mono (by assumption) ?_)) | go_size))); rintro e w' ⟨rfl, hb⟩)
    all_goals go_ret
    all_goals exact ⟨ret_bool (by simp only [sameB, hc, Bool.false_and, Bool.true_and]), by (repeat' (first | (with_reducible exact Below.refl _ _) | (with_reducible assumption) | (with_reducible refine below_drewN ?_ _) | (with_reducible refine Below.drew ?_) | (with_reducible refine Below.alloc ?_ ?_ _) | (with_reducible refine Below.setCell ?_ ?_ _) | (refine Below.trans ?_ (Below.mono (by assumption) ?_)) | go_size))⟩
end Go.Proofs.Ytogegnikpjcpdaa
/- Words for memory, the second: a block known whole ('Blk'), facts of an anchor world carried to a later one. No program in sight. -/
namespace Go.Proofs.Ytogegnikpjcpdaa
set_option linter.unusedVariables false
open Go.RowKit

/-- Block b of w is cs, of type T, and may be written. -/
def Blk (w : World) (b : Nat) (cs : Array Value) (T : TypeId) : Prop := w.heap[b]? = some (.cells cs T (0, 0))

theorem Blk.lt {w : World} {b : Nat} {cs : Array Value} {T : TypeId} (h : Blk w b cs T) : b < w.heap.size := by
  rcases Nat.lt_or_ge b w.heap.size with h1 | h1
  · exact h1
  · unfold Blk at h; rw [Array.getElem?_eq_none h1] at h; cases h
theorem Blk.cells {w : World} {b : Nat} {cs : Array Value} {T : TypeId} (h : Blk w b cs T) : (∀ j, w.cell? ⟨b, j, none⟩ = cs[j]?) ∧ (∀ j, w.frozen? ⟨b, j, none⟩ = false) :=
  ⟨fun j => cell_of_row w b j _ _ _ h, fun j => frozen_of_row w b j _ _ h⟩
theorem Blk.thru {B : Nat} {w w' : World} {b : Nat} {cs : Array Value} {T : TypeId} (h : Blk w b cs T) (hb : Below B w w') (hlt : b < B) : Blk w' b cs T := (hb.block b hlt).trans h
theorem Blk.step {w w' : World} {b : Nat} {cs : Array Value} {T : TypeId} (h : Blk w b cs T) (hb : Below w.heap.size w w') : Blk w' b cs T := h.thru hb h.lt
theorem Blk.alloc {w : World} {b : Nat} {cs : Array Value} {T : TypeId} (h : Blk w b cs T) (o : Obj) : Blk (w.alloc o) b cs T := (Below.heap_alloc w o b h.lt).trans h
theorem Blk.drew {w : World} {b : Nat} {cs : Array Value} {T : TypeId} (h : Blk w b cs T) : Blk w.drew b cs T := h
theorem Blk.drewN {w : World} {b : Nat} {cs : Array Value} {T : TypeId} (h : Blk w b cs T) (n : Nat) : Blk (w.drewN n) b cs T := h
theorem Blk.new (w : World) (cs : Array Value) (T : TypeId) : Blk (w.alloc (.cells cs T)) w.heap.size cs T := heap_alloc_new w _
theorem Blk.new' (w : World) (cs : Array Value) (T : TypeId) {b : Nat} (h : b = w.heap.size) : Blk (w.alloc (.cells cs T)) b cs T := by subst h; exact heap_alloc_new w _
theorem Blk.set {w : World} {b : Nat} {cs : Array Value} {T : TypeId} (h : Blk w b cs T) (i : Nat) (v : Value) : Blk (w.setCell ⟨b, i, none⟩ v) b (cs.setIfInBounds i v) T := heap_setCell_same w b i cs T v h
theorem Blk.other {w : World} {b : Nat} {cs : Array Value} {T : TypeId} (h : Blk w b cs T) {a : Addr} (hne : b ≠ a.block) (v : Value) : Blk (w.setCell a v) b cs T := (Below.heap_setCell w a v b hne).trans h
theorem Blk.grown {w w' : World} {b : Nat} {cs : Array Value} {T : TypeId} {row : Option Nat} (h : Blk w b cs T) (hg : w.grownBy w' row) (hne : some b ≠ row) : Blk w' b cs T := (hg.block b h.lt hne).trans h
theorem Blk.eq {w : World} {b : Nat} {cs ds : Array Value} {T : TypeId} (h : Blk w b cs T) (e : cs = ds) : Blk w b ds T := e ▸ h

/-- All that the walk wants of a block that it knows whole. -/
theorem Blk.all {w : World} {b : Nat} {cs : Array Value} {T : TypeId} (h : Blk w b cs T) : (∀ j, w.cell? ⟨b, j, none⟩ = cs[j]?) ∧ (∀ j, w.frozen? ⟨b, j, none⟩ = false) ∧ b < w.heap.size ∧ ((b = w.heap.size) = False) :=
  ⟨h.cells.1, h.cells.2, h.lt, eq_false (Nat.ne_of_lt h.lt)⟩

theorem Below.step {B : Nat} {a b c : World} (h : Below B a b) (hB : B ≤ b.heap.size) (k : Below b.heap.size b c) : Below B a c := h.trans (k.mono hB)
theorem Below.step' {a b c : World} (h : Below a.heap.size a b) (k : Below b.heap.size b c) : Below a.heap.size a c := h.trans (k.mono h.size)
theorem Row.step {w w' : World} {A : Option Addr} {xs : List Value} (h : Row w w.heap.size A xs) (hb : Below w.heap.size w w') : Row w' w'.heap.size A xs := (h.below hb (Nat.le_refl _)).more hb.size
theorem NewAt.less {lo lo' : Nat} {A : Option Addr} (h : ∀ b off q, A = some ⟨b, off, q⟩ → lo ≤ b) (hl : lo' ≤ lo) : ∀ b off q, A = some ⟨b, off, q⟩ → lo' ≤ b := fun b off q e => Nat.le_trans hl (h b off q e)
/-- One rule for all that an anchor world knows. -/
theorem anchor {W w' : World} (hb : Below W.heap.size W w') : (∀ b o, b < W.heap.size → w'.cell? ⟨b, o, none⟩ = W.cell? ⟨b, o, none⟩) ∧ (∀ b o, b < W.heap.size → w'.frozen? ⟨b, o, none⟩ = W.frozen? ⟨b, o, none⟩) ∧ W.heap.size ≤ w'.heap.size := ⟨(bcell hb).1, (bcell hb).2, hb.size⟩
end Go.Proofs.Ytogegnikpjcpdaa
/- dot.both, viewref.Two. -/
namespace Go.Proofs.Ytogegnikpjcpdaa
set_option linter.unusedVariables false
open Go.ChangeShapes Go.WideShapes Go.ChangeAt Go.RowKit

def twoI (a b : Ctx) : Int := if checkI a ≠ 0 then checkI a else checkI b

set_option maxRecDepth 100000 in
theorem both_any (a b : Ctx) (A B : Option Addr) (k m : Nat) (w : World) (ra : Row w w.heap.size A (dcells a.cloud)) (la : a.cloud.length ≤ 9223372036854775807)
    (rb : Row w w.heap.size B (dcells b.cloud)) (lb : b.cloud.length ≤ 9223372036854775807) :
    Calls Try.prog 68 #[cval a A k, cval b B m] w fun e w' => e = .returned (.int .i64 (twoI a b)) ∧ Below w.heap.size w w' := by
  have HA := hid (fun w1 (hb : Below w.heap.size w w1) => check_any a A k w1 (ra.step hb) la)
  have HB := hid (fun w1 (hb : Below w.heap.size w w1) => check_any b B m w1 (rb.step hb) lb)
  have HI := hid (show twoI a b = if checkI a ≠ 0 then checkI a else checkI b from rfl)
  generalize twoI a b = I at *
  clear ra rb la lb
  obtain ⟨a0, a1, a2, a3, al⟩ := a
  obtain ⟨b0, b1, b2, b3, bl⟩ := b
  simp only [cval] at *
  by_cases q : checkI ⟨a0, a1, a2, a3, al⟩ = 0
  · have hI : I = checkI ⟨b0, b1, b2, b3, bl⟩ := by rw [HI.out, if_neg (by simp [q])]
    rw [q] at HA
    have HE := hid hI
    clear hI q HI
    go_enter Try.func68, Try.ntmps68
    go_wp2_with fail
    refine (HA.out _ (by (repeat' (first | (with_reducible exact Below.refl _ _) | (with_reducible assumption) | (with_reducible refine below_drewN ?_ _) | (with_reducible refine Below.drew ?_) | (with_reducible refine Below.alloc ?_ ?_ _) | (with_reducible refine Below.setCell ?_ ?_ _) | (refine Below.trans ?_ (Below.mono (by assumption) ?_)) | go_size)))).mono ?_
    rintro e w1 ⟨rfl, hb1⟩
    have c1 := (anchor hb1).1
    simp only [World.size_alloc] at c1
    go_wp2_with fail
    refine (HB.out _ ?_).mono ?_
    · exact (by refine Below.step' ?_ hb1; (repeat' (first | (with_reducible exact Below.refl _ _) | (with_reducible assumption) | (with_reducible refine below_drewN ?_ _) | (with_reducible refine Below.drew ?_) | (with_reducible refine Below.alloc ?_ ?_ _) | (with_reducible refine Below.setCell ?_ ?_ _) | (refine Below.trans ?_ (Below.mono (by assumption) ?_)) | go_size)))
    rintro e w2 ⟨rfl, hb2⟩
    go_wp2
    go_ret
    exact ⟨ret_int HE.out.symm, Below.step' ((by refine Below.step' ?_ hb1; (repeat' (first | (with_reducible exact Below.refl _ _) | (with_reducible assumption) | (with_reducible refine below_drewN ?_ _) | (with_reducible refine Below.drew ?_) | (with_reducible refine Below.alloc ?_ ?_ _) | (with_reducible refine Below.setCell ?_ ?_ _) | (refine Below.trans ?_ (Below.mono (by assumption) ?_)) | go_size))) : Below w.heap.size w w1) hb2⟩
  · have hI : I = checkI ⟨a0, a1, a2, a3, al⟩ := by rw [HI.out, if_pos q]
    have q2 : (checkI ⟨a0, a1, a2, a3, al⟩ == 0) = false := by simpa using q
    have HE := hid hI
    clear hI HI
    generalize checkI ⟨a0, a1, a2, a3, al⟩ = I1 at *
    go_enter Try.func68, Try.ntmps68
    go_wp2_with fail
    refine (HA.out _ (by (repeat' (first | (with_reducible exact Below.refl _ _) | (with_reducible assumption) | (with_reducible refine below_drewN ?_ _) | (with_reducible refine Below.drew ?_) | (with_reducible refine Below.alloc ?_ ?_ _) | (with_reducible refine Below.setCell ?_ ?_ _) | (refine Below.trans ?_ (Below.mono (by assumption) ?_)) | go_size)))).mono ?_
    rintro e w1 ⟨rfl, hb1⟩
    go_wp2
    go_ret
    exact ⟨ret_int HE.out.symm, (by refine Below.step' ?_ hb1; (repeat' (first | (with_reducible exact Below.refl _ _) | (with_reducible assumption) | (with_reducible refine below_drewN ?_ _) | (with_reducible refine Below.drew ?_) | (with_reducible refine Below.alloc ?_ ?_ _) | (with_reducible refine Below.setCell ?_ ?_ _) | (refine Below.trans ?_ (Below.mono (by assumption) ?_)) | go_size)))⟩

set_option maxRecDepth 100000 in
theorem two_any (a b : Ctx) (A B : Option Addr) (k m : Nat) (w : World) (ra : Row w w.heap.size A (dcells a.cloud)) (la : a.cloud.length ≤ 9223372036854775807)
    (rb : Row w w.heap.size B (dcells b.cloud)) (lb : b.cloud.length ≤ 9223372036854775807) :
    Calls Try.prog 28 #[cval a A k, cval b B m] w fun e w' => e = .returned (.int .i64 (twoI a b)) ∧ Below w.heap.size w w' := by
  have HA := hid (fun w1 (hb : Below w.heap.size w w1) => context_any a A k w1 (ra.step hb) la)
  have HB := hid (fun w1 (hb : Below w.heap.size w w1) => context_any b B m w1 (rb.step hb) lb)
  have HI := hid (show twoI a b = if checkI a ≠ 0 then checkI a else checkI b from rfl)
  generalize twoI a b = I at *
  clear ra rb la lb
  obtain ⟨a0, a1, a2, a3, al⟩ := a
  obtain ⟨b0, b1, b2, b3, bl⟩ := b
  simp only [cval] at *
  by_cases q : checkI ⟨a0, a1, a2, a3, al⟩ = 0
  · have hI : I = checkI ⟨b0, b1, b2, b3, bl⟩ := by rw [HI.out, if_neg (by simp [q])]
    rw [q] at HA
    have HE := hid hI
    clear hI q HI
    go_enter Try.func28, Try.ntmps28
    go_wp2_with fail
    refine (HA.out _ (by (repeat' (first | (with_reducible exact Below.refl _ _) | (with_reducible assumption) | (with_reducible refine below_drewN ?_ _) | (with_reducible refine Below.drew ?_) | (with_reducible refine Below.alloc ?_ ?_ _) | (with_reducible refine Below.setCell ?_ ?_ _) | (refine Below.trans ?_ (Below.mono (by assumption) ?_)) | go_size)))).mono ?_
    rintro e w1 ⟨rfl, hb1⟩
    have c1 := (anchor hb1).1
    simp only [World.size_alloc] at c1
    go_wp2_with fail
    refine (HB.out _ ?_).mono ?_
    · exact (by refine Below.step' ?_ hb1; (repeat' (first | (with_reducible exact Below.refl _ _) | (with_reducible assumption) | (with_reducible refine below_drewN ?_ _) | (with_reducible refine Below.drew ?_) | (with_reducible refine Below.alloc ?_ ?_ _) | (with_reducible refine Below.setCell ?_ ?_ _) | (refine Below.trans ?_ (Below.mono (by assumption) ?_)) | go_size)))
    rintro e w2 ⟨rfl, hb2⟩
    go_wp2
    go_ret
    exact ⟨ret_int HE.out.symm, Below.step' ((by refine Below.step' ?_ hb1; (repeat' (first | (with_reducible exact Below.refl _ _) | (with_reducible assumption) | (with_reducible refine below_drewN ?_ _) | (with_reducible refine Below.drew ?_) | (with_reducible refine Below.alloc ?_ ?_ _) | (with_reducible refine Below.setCell ?_ ?_ _) | (refine Below.trans ?_ (Below.mono (by assumption) ?_)) | go_size))) : Below w.heap.size w w1) hb2⟩
  · have hI : I = checkI ⟨a0, a1, a2, a3, al⟩ := by rw [HI.out, if_pos q]
    have q2 : (checkI ⟨a0, a1, a2, a3, al⟩ == 0) = false := by simpa using q
    have HE := hid hI
    clear hI HI
    generalize checkI ⟨a0, a1, a2, a3, al⟩ = I1 at *
    go_enter Try.func28, Try.ntmps28
    go_wp2_with fail
    refine (HA.out _ (by (repeat' (first | (with_reducible exact Below.refl _ _) | (with_reducible assumption) | (with_reducible refine below_drewN ?_ _) | (with_reducible refine Below.drew ?_) | (with_reducible refine Below.alloc ?_ ?_ _) | (with_reducible refine Below.setCell ?_ ?_ _) | (refine Below.trans ?_ (Below.mono (by assumption) ?_)) | go_size)))).mono ?_
    rintro e w1 ⟨rfl, hb1⟩
    go_wp2
    go_ret
    exact ⟨ret_int HE.out.symm, (by refine Below.step' ?_ hb1; (repeat' (first | (with_reducible exact Below.refl _ _) | (with_reducible assumption) | (with_reducible refine below_drewN ?_ _) | (with_reducible refine Below.drew ?_) | (with_reducible refine Below.alloc ?_ ?_ _) | (with_reducible refine Below.setCell ?_ ?_ _) | (refine Below.trans ?_ (Below.mono (by assumption) ?_)) | go_size)))⟩
end Go.Proofs.Ytogegnikpjcpdaa
/-
  DERIVED: THE SHELF's CONTRACTS AT THIS DUMP, IN PLAIN WORDS (tools/lay-plain.mjs out of 'TryShelf.lean', which tools/lay-shelf.mjs wrote): THE SAME DECLARATIONS UNDER THE SAME NAMES: 'import', 'namespace', 'open', 'def', 'theorem' AND NOTHING ELSE: no command of the shelf's: FOR A HAND-IN. Each laying: the table of numbers ('.._ren') and one theorem, a field a fact of the dump's own or the kernel's comparison; each contract: ONE APPLICATION.
-/
namespace Go.Proofs
open Go.Shelf
def Try.sortDot_ren : Go.Shelf.Ren := ⟨fun | 6 => 71 | 15 => 99 | 14 => 98 | 28 => 113 | 29 => 114 | 20 => 105 | 21 => 106 | 22 => 107 | 23 => 108 | 24 => 109 | 25 => 110 | 26 => 111 | 27 => 112 | 46 => 133 | 47 => 134 | 48 => 135 | 49 => 136 | 50 => 137 | 57 => 144 | n => n, fun | 22 => 23 | 24 => 27 | 25 => 87 | 3 => 3 | 39 => 115 | 0 => 0 | 53 => 129 | 55 => 131 | 4 => 4 | 46 => 122 | 45 => 121 | 50 => 126 | 5 => 5 | 9 => 9 | 66 => 143 | 70 => 147 | 76 => 153 | 77 => 154 | n => n, fun | n => n⟩
theorem Try.sortDot : Go.Proofs.SlLaysF0.n6 Try.prog Try.sortDot_ren := {
  mixed := by kernel_rfl
  f6 := ⟨Try.f71.name, by decide, Try.func71.trans (congrArg some (by kernel_rfl))⟩
  f14 := ⟨Try.f98.name, by decide, Try.func98.trans (congrArg some (by kernel_rfl))⟩
  f15 := Try.func99.trans (congrArg some (by kernel_rfl))
  f20 := ⟨Try.f105.name, by decide, Try.func105.trans (congrArg some (by kernel_rfl))⟩
  f21 := ⟨Try.f106.name, by decide, Try.func106.trans (congrArg some (by kernel_rfl))⟩
  f22 := ⟨Try.f107.name, by decide, Try.func107.trans (congrArg some (by kernel_rfl))⟩
  f23 := ⟨Try.f108.name, by decide, Try.func108.trans (congrArg some (by kernel_rfl))⟩
  f24 := ⟨Try.f109.name, by decide, Try.func109.trans (congrArg some (by kernel_rfl))⟩
  f25 := ⟨Try.f110.name, by decide, Try.func110.trans (congrArg some (by kernel_rfl))⟩
  f26 := ⟨Try.f111.name, by decide, Try.func111.trans (congrArg some (by kernel_rfl))⟩
  f27 := ⟨Try.f112.name, by decide, Try.func112.trans (congrArg some (by kernel_rfl))⟩
  f28 := Try.func113.trans (congrArg some (by kernel_rfl))
  f29 := Try.func114.trans (congrArg some (by kernel_rfl))
  f46 := ⟨Try.f133.name, by decide, Try.func133.trans (congrArg some (by kernel_rfl))⟩
  f47 := Try.func134.trans (congrArg some (by kernel_rfl))
  f48 := Try.func135.trans (congrArg some (by kernel_rfl))
  f49 := ⟨Try.f136.name, by decide, Try.func136.trans (congrArg some (by kernel_rfl))⟩
  f50 := ⟨Try.f137.name, by decide, Try.func137.trans (congrArg some (by kernel_rfl))⟩
  f57 := ⟨Try.f144.name, by decide, Try.func144.trans (congrArg some (by kernel_rfl))⟩
  t0 := Try.underlying0
  a0 := Try.isAgg0
  z0 := Try.sizeOf0
  v0 := Try.zeroValue0
  t3 := Try.underlying3
  a3 := Try.isAgg3
  z3 := Try.sizeOf3
  v3 := Try.zeroValue3
  t4 := Try.underlying4
  a4 := Try.isAgg4
  z4 := Try.sizeOf4
  v4 := Try.zeroValue4
  t5 := Try.underlying5
  a5 := Try.isAgg5
  z5 := Try.sizeOf5
  v5 := Try.zeroValue5
  t9 := Try.underlying9
  a9 := Try.isAgg9
  z9 := Try.sizeOf9
  v9 := Try.zeroValue9
  t22 := Try.underlying23
  a22 := Try.isAgg23
  z22 := Try.sizeOf23
  v22 := Try.zeroValue23
  t25 := Try.underlying87
  a25 := Try.isAgg87
  z25 := Try.sizeOf87
  v25 := Try.zeroValue87
  t39 := Try.underlying115
  a39 := Try.isAgg115
  z39 := Try.sizeOf115
  v39 := Try.zeroValue115
  t45 := Try.underlying121
  a45 := Try.isAgg121
  z45 := Try.sizeOf121
  v45 := Try.zeroValue121
  t46 := Try.underlying122
  a46 := Try.isAgg122
  z46 := Try.sizeOf122
  v46 := Try.zeroValue122
  t50 := Try.underlying126
  a50 := Try.isAgg126
  z50 := Try.sizeOf126
  v50 := Try.zeroValue126
  t53 := Try.underlying129
  a53 := Try.isAgg129
  z53 := Try.sizeOf129
  v53 := Try.zeroValue129
  t55 := Try.underlying131
  a55 := Try.isAgg131
  z55 := Try.sizeOf131
  v55 := Try.zeroValue131
  t66 := Try.underlying143
  a66 := Try.isAgg143
  z66 := Try.sizeOf143
  v66 := Try.zeroValue143
  t70 := Try.underlying147
  a70 := Try.isAgg147
  z70 := Try.sizeOf147
  v70 := Try.zeroValue147
  t76 := Try.underlying153
  a76 := Try.isAgg153
  z76 := Try.sizeOf153
  v76 := Try.zeroValue153
  t77 := Try.underlying154
  a77 := Try.isAgg154
  z77 := Try.sizeOf154
  v77 := Try.zeroValue154 }
def Try.sortCell_ren : Go.Shelf.Ren := ⟨fun | 6 => 87 | 15 => 99 | 14 => 103 | 28 => 113 | 29 => 114 | 20 => 125 | 21 => 126 | 22 => 127 | 23 => 128 | 24 => 129 | 25 => 130 | 26 => 131 | 27 => 132 | 46 => 141 | 47 => 134 | 48 => 135 | 49 => 142 | 50 => 143 | 57 => 146 | n => n, fun | 22 => 57 | 24 => 62 | 25 => 102 | 3 => 3 | 39 => 115 | 0 => 0 | 53 => 129 | 55 => 131 | 4 => 4 | 46 => 122 | 45 => 121 | 50 => 126 | 5 => 5 | 9 => 9 | 66 => 143 | 70 => 147 | 76 => 153 | 77 => 154 | n => n, fun | n => n⟩
theorem Try.sortCell : Go.Proofs.SlLaysF0.n6 Try.prog Try.sortCell_ren := {
  mixed := by kernel_rfl
  f6 := ⟨Try.f87.name, by decide, Try.func87.trans (congrArg some (by kernel_rfl))⟩
  f14 := ⟨Try.f103.name, by decide, Try.func103.trans (congrArg some (by kernel_rfl))⟩
  f15 := Try.func99.trans (congrArg some (by kernel_rfl))
  f20 := ⟨Try.f125.name, by decide, Try.func125.trans (congrArg some (by kernel_rfl))⟩
  f21 := ⟨Try.f126.name, by decide, Try.func126.trans (congrArg some (by kernel_rfl))⟩
  f22 := ⟨Try.f127.name, by decide, Try.func127.trans (congrArg some (by kernel_rfl))⟩
  f23 := ⟨Try.f128.name, by decide, Try.func128.trans (congrArg some (by kernel_rfl))⟩
  f24 := ⟨Try.f129.name, by decide, Try.func129.trans (congrArg some (by kernel_rfl))⟩
  f25 := ⟨Try.f130.name, by decide, Try.func130.trans (congrArg some (by kernel_rfl))⟩
  f26 := ⟨Try.f131.name, by decide, Try.func131.trans (congrArg some (by kernel_rfl))⟩
  f27 := ⟨Try.f132.name, by decide, Try.func132.trans (congrArg some (by kernel_rfl))⟩
  f28 := Try.func113.trans (congrArg some (by kernel_rfl))
  f29 := Try.func114.trans (congrArg some (by kernel_rfl))
  f46 := ⟨Try.f141.name, by decide, Try.func141.trans (congrArg some (by kernel_rfl))⟩
  f47 := Try.func134.trans (congrArg some (by kernel_rfl))
  f48 := Try.func135.trans (congrArg some (by kernel_rfl))
  f49 := ⟨Try.f142.name, by decide, Try.func142.trans (congrArg some (by kernel_rfl))⟩
  f50 := ⟨Try.f143.name, by decide, Try.func143.trans (congrArg some (by kernel_rfl))⟩
  f57 := ⟨Try.f146.name, by decide, Try.func146.trans (congrArg some (by kernel_rfl))⟩
  t0 := Try.underlying0
  a0 := Try.isAgg0
  z0 := Try.sizeOf0
  v0 := Try.zeroValue0
  t3 := Try.underlying3
  a3 := Try.isAgg3
  z3 := Try.sizeOf3
  v3 := Try.zeroValue3
  t4 := Try.underlying4
  a4 := Try.isAgg4
  z4 := Try.sizeOf4
  v4 := Try.zeroValue4
  t5 := Try.underlying5
  a5 := Try.isAgg5
  z5 := Try.sizeOf5
  v5 := Try.zeroValue5
  t9 := Try.underlying9
  a9 := Try.isAgg9
  z9 := Try.sizeOf9
  v9 := Try.zeroValue9
  t22 := Try.underlying57
  a22 := Try.isAgg57
  z22 := Try.sizeOf57
  v22 := Try.zeroValue57
  t25 := Try.underlying102
  a25 := Try.isAgg102
  z25 := Try.sizeOf102
  v25 := Try.zeroValue102
  t39 := Try.underlying115
  a39 := Try.isAgg115
  z39 := Try.sizeOf115
  v39 := Try.zeroValue115
  t45 := Try.underlying121
  a45 := Try.isAgg121
  z45 := Try.sizeOf121
  v45 := Try.zeroValue121
  t46 := Try.underlying122
  a46 := Try.isAgg122
  z46 := Try.sizeOf122
  v46 := Try.zeroValue122
  t50 := Try.underlying126
  a50 := Try.isAgg126
  z50 := Try.sizeOf126
  v50 := Try.zeroValue126
  t53 := Try.underlying129
  a53 := Try.isAgg129
  z53 := Try.sizeOf129
  v53 := Try.zeroValue129
  t55 := Try.underlying131
  a55 := Try.isAgg131
  z55 := Try.sizeOf131
  v55 := Try.zeroValue131
  t66 := Try.underlying143
  a66 := Try.isAgg143
  z66 := Try.sizeOf143
  v66 := Try.zeroValue143
  t70 := Try.underlying147
  a70 := Try.isAgg147
  z70 := Try.sizeOf147
  v70 := Try.zeroValue147
  t76 := Try.underlying153
  a76 := Try.isAgg153
  z76 := Try.sizeOf153
  v76 := Try.zeroValue153
  t77 := Try.underlying154
  a77 := Try.isAgg154
  z77 := Try.sizeOf154
  v77 := Try.zeroValue154 }
end Go.Proofs
/- dot.Order as slices.SortFunc asks it; the sort's contract over a row of dots that the call owns. -/
namespace Go.Proofs.Ytogegnikpjcpdaa
set_option linter.unusedVariables false
open Go.ChangeShapes Go.WideShapes Go.ChangeAt Go.RowKit
open Go.Shelf Go.Lib
open Go.Sort (grow SWO PermIn SortedIn alloc_eq_grow grow_grow drew_grow HoldsK)

set_option maxHeartbeats 400000 in
set_option maxRecDepth 100000 in
theorem order_grow (a0 a1 b0 b1 : Int) (w : World) :
    Calls Try.prog 66 #[.agg #[.int .i64 a0, .int .i64 a1], .agg #[.int .i64 b0, .int .i64 b1]] w fun e w' => e = .returned (.int .i64 (or2 (cmpI a0 b0) (cmpI a1 b1))) ∧ ∃ q os', w' = grow (w.drewN q) os' := by
  go_enter Try.func66, Try.ntmps66
  go_wp2
  refine region_tail 10 (by kernel_rfl) (by kernel_rfl) ?_
  simp only [List.take_succ_cons, List.take_zero, List.drop_succ_cons, List.drop_zero]
  repeat (first | still_step | still_call ((compare_any _ _ _).mono fun _ _ ⟨h1, h2⟩ => ⟨h1, h2.symm⟩))
  refine wpStill_nil ?_
  go_wp2_with (go_at_call 95; refine (or_any _ (cmpI a0 b0) (cmpI a1 b1) _ (by simp [go_sem]) (by simp [go_sem])).mono ?_; rintro e w' ⟨rfl, rfl⟩)
  go_ret
  exact ⟨rfl, 1, _, by rw [alloc_eq_grow, alloc_eq_grow, alloc_eq_grow, grow_grow, grow_grow, drew_grow]; rfl⟩

def dotCf (x y : Int × Int) : Int := or2 (cmpI x.1 y.1) (cmpI x.2 y.2)
abbrev encD (x : Int × Int) : List Value := [.int .i64 x.1, .int .i64 x.2]

theorem ltOf_dot (x y : Int × Int) : ltOf dotCf x y = before x y := by
  have := cmp_before x y
  unfold ltOf dotCf
  cases h : before x y
  · rw [h] at this; simp at this; simp; omega
  · rw [h] at this; simp at this; simp; omega

theorem swo_dot : SWO (ltOf dotCf) where
  irrefl x := by rw [ltOf_dot]; simp [before]
  trans x y z h1 h2 := by rw [ltOf_dot] at *; simp [before] at *; omega
  ntrans x y z h1 h2 := by rw [ltOf_dot] at *; simp [before] at *; omega

theorem cmpLays_dot (blk off size : Nat) (w : World) : CmpLays Try.prog 66 #[] encD 2 dotCf blk off size w :=
  fun _ _ _ _ x y => order_grow x.1 x.2 y.1 y.2 _

theorem enters_order : ∀ args w, (callFunc 66 args).run Try.prog w = .ok (.enter 66 args) w := enters_of Try.func66 (by kernel_rfl) rfl

theorem sort_raw (blk off cap : Nat) (d : Array (Int × Int)) (w : World) (hH : HoldsK encD 2 w blk off d) (hblk : blk < w.heap.size) (hsz : d.size < 4611686018427387904) :
    Calls Try.prog 71 #[.slice (some ⟨blk, off, none⟩) d.size cap, .func (.func 66) #[] #[]] w fun e w' => e = .returned (.tuple #[]) ∧ ∃ d' n os, PermIn 0 d.size d d' ∧ SortedIn (ltOf dotCf) 0 d.size d' ∧ w' = sortWorldK encD 2 w blk off n d' os :=
  AnyQ.slices_SortFunc Try.sortDot 2 Try.isAgg27 Try.sizeOf27 encD (fun _ => rfl) (fun x v hv => by simp [encD] at hv; rcases hv with rfl | rfl <;> rfl) dotCf swo_dot 66 #[] blk off cap d w enters_order (cmpLays_dot blk off d.size w) hH hblk hsz
end Go.Proofs.Ytogegnikpjcpdaa
/- The sort over a row of dots that the call owns: the row holds a permutation, in order; all else stands. -/
namespace Go.Proofs.Ytogegnikpjcpdaa
set_option linter.unusedVariables false
open Go.ChangeShapes Go.WideShapes Go.ChangeAt Go.RowKit
open Go.Shelf Go.Lib
open Go.Sort (grow SWO PermIn SortedIn alloc_eq_grow grow_grow drew_grow HoldsK flatK putRow putCells mapBlock Holds)

theorem dcells_flat (l : List (Int × Int)) : (dcells l).toArray = flatK encD 2 l.toArray := by
  apply Array.ext
  · rw [List.size_toArray, dcells_len, Sort.size_flatK]; simp; omega
  · intro i h1 h2
    have hi' : i < (dcells l).length := by rw [List.size_toArray] at h1; exact h1
    have hi : i < 2 * l.length := by rw [dcells_len] at hi'; exact hi'
    have hk : i / 2 < l.length := by omega
    obtain ⟨g0, g1⟩ := dcells_get l (i / 2) hk
    have e := Sort.get_flatK encD 2 l.toArray i (by simp; omega)
    rw [getElem!_pos _ i h2] at e
    rw [e]
    have hl : l.toArray[i / 2]! = l[i / 2] := by simp [hk]
    rw [hl]
    rcases Nat.mod_two_eq_zero_or_one i with h | h
    · rw [h]
      have hi2 : i / 2 * 2 = i := by omega
      rw [hi2] at g0
      have : (dcells l)[i]? = some ((dcells l)[i]'hi') := List.getElem?_eq_getElem _
      rw [this] at g0
      injection g0
    · rw [h]
      have hi2 : i / 2 * 2 + 1 = i := by omega
      rw [hi2] at g1
      have : (dcells l)[i]? = some ((dcells l)[i]'hi') := List.getElem?_eq_getElem _
      rw [this] at g1
      injection g1

def dotLe (x y : Int × Int) : Bool := !before y x
theorem dotLe_eq : (fun x y : Int × Int => !(ltOf dotCf) y x) = dotLe := by
  funext x y
  rw [ltOf_dot, dotLe]

theorem sort_total (blk off cap : Nat) (l : List (Int × Int)) (w : World) (hH : HoldsK encD 2 w blk off l.toArray) (hblk : blk < w.heap.size) (hsz : l.length < 4611686018427387904) :
    Calls Try.prog 71 #[.slice (some ⟨blk, off, none⟩) l.length cap, .func (.func 66) #[] #[]] w fun e w' => e = .returned (.tuple #[]) ∧ ∃ n os, w' = sortWorldK encD 2 w blk off n (l.mergeSort dotLe).toArray os := by
  have H := AnyQ.slices_SortFunc_total Try.sortDot 2 Try.isAgg27 Try.sizeOf27 encD (fun _ => rfl) (fun x v hv => by simp [encD] at hv; rcases hv with rfl | rfl <;> rfl) dotCf swo_dot 66 #[] blk off cap l.toArray w enters_order (cmpLays_dot blk off l.toArray.size w) hH hblk (by simpa using hsz) (fun x y h1 h2 => by
    rw [ltOf_dot] at h1 h2
    ext <;> (simp [before] at h1 h2; omega))
  rw [dotLe_eq] at H
  simp at H
  exact H

theorem take_eq_get {cur : Array Value} {n : Nat} {xs : List Value} (h : cur.toList.take n = xs) {j : Nat} (hj : j < xs.length) : cur[j]? = xs[j]? := by
  subst h
  rw [List.getElem?_take_of_lt (by simp at hj; omega)]
  simp

theorem holdsK_own {w : World} {B n cap g : Nat} {l : List (Int × Int)} {cur : Array Value} {T : TypeId} (hg : w.heap[g]? = some (.cells cur T (0, 0))) (hc : cur.toList.take (l.length * 2) = dcells l) : HoldsK encD 2 w g 0 l.toArray := by
  intro j hj
  rw [← dcells_flat] at hj ⊢
  have hj' : j < (dcells l).length := by simpa using hj
  have e := take_eq_get hc hj'
  have e2 : (dcells l).toArray[j]! = (dcells l)[j] := by
    rw [getElem!_pos _ j hj]; simp
  rw [e2]
  constructor
  · rw [Nat.zero_add, cell_of_row w g j cur T (0, 0) hg, e, List.getElem?_eq_getElem hj']; rfl
  · simp [World.frozen?, hg]

theorem sorted_world {w : World} {B cap g n : Nat} {l l' : List (Int × Int)} {cur : Array Value} {T : TypeId} {os : Array Obj} (hb : B ≤ g) (hg : w.heap[g]? = some (.cells cur T (0, 0))) (hcap : l.length ≤ cap) (hm : cap ≤ maxLen) (hs : cur.size = cap * 2)
    (hlen : l'.length = l.length) :
    (sortWorldK encD 2 w g 0 n l'.toArray os).ownsRow B T 2 (.slice (some ⟨g, 0, none⟩) l.length cap) l.length (dcells l') ∧ w.grownBy (sortWorldK encD 2 w g 0 n l'.toArray os) (some g) := by
  have hlt : g < w.heap.size := by
    rcases Nat.lt_or_ge g w.heap.size with h | h
    · exact h
    · rw [Array.getElem?_eq_none h] at hg; cases hg
  have hnew : (sortWorldK encD 2 w g 0 n l'.toArray os).heap[g]? = some (.cells (putCells id 0 (flatK encD 2 l'.toArray) cur) T (0, 0)) := by
    unfold sortWorldK grow Sort.putRowK putRow mapBlock Sort.ahead
    simp only [Array.getElem?_append, Array.size_modify, hlt, if_true, Array.getElem?_modify, hg, Option.map_some]
    rfl
  refine ⟨⟨by rw [dcells_len]; omega, .inr ⟨g, cap, _, rfl, hb, hnew, hcap, hm, by simp [putCells, hs], ?_⟩⟩, ?_⟩
  · rw [← dcells_flat]
    apply List.ext_getElem?
    intro j
    by_cases hj : j < (dcells l').length
    · have hj2 : j < l.length * 2 := by rw [dcells_len] at hj; omega
      have hjc : j < cur.size := by rw [hs]; omega
      rw [List.getElem?_take_of_lt hj2]
      simp only [putCells, Array.toList_mapIdx, List.getElem?_mapIdx]
      have : cur.toList[j]? = some cur.toList[j] := List.getElem?_eq_getElem (by simpa using hjc)
      rw [this]
      simp only [Option.map_some, Nat.zero_le, Nat.zero_add, List.size_toArray, hj, and_self, if_true, Nat.sub_zero, id]
      rw [getElem!_pos _ j (by simpa using hj), List.getElem?_eq_getElem hj]
      simp
    · rw [List.getElem?_eq_none (Nat.le_of_not_lt hj), List.getElem?_eq_none]
      rw [List.length_take]
      rw [dcells_len] at hj
      omega
  · refine ⟨rfl, rfl, rfl, ?_, ?_⟩
    · unfold sortWorldK grow Sort.putRowK putRow mapBlock Sort.ahead
      simp
    · intro k hk hne
      have hne' : g ≠ k := fun e => hne (by rw [e])
      unfold sortWorldK grow Sort.putRowK putRow mapBlock Sort.ahead
      simp [Array.getElem?_append, hk, Array.getElem_modify, hne']

/-- The sort over a row that the call owns (nil too). -/
theorem sort_own {B : Nat} {v : Value} (l : List (Int × Int)) (w : World) (hown : w.ownsRow B 27 2 v l.length (dcells l)) (hl : l.length ≤ 140737488355328) :
    Calls Try.prog 71 #[v, .func (.func 66) #[] #[]] w fun e w' => e = .returned (.tuple #[]) ∧ w'.ownsRow B 27 2 v l.length (dcells (l.mergeSort dotLe)) ∧ w.grownBy w' v.ownBlock := by
  rcases hown.2 with ⟨rfl, h0⟩ | ⟨g, cap, cur, rfl, hb, hg, hcap, hm, hs, ht⟩
  · have hl0 : l = [] := List.eq_nil_of_length_eq_zero h0
    subst hl0
    refine (AnyF.slices_SortFunc_none Try.sortDot none 0 _ w).mono fun e w' ⟨he, hw⟩ => ?_
    subst hw
    refine ⟨he, by simpa using hown, ⟨rfl, rfl, rfl, Nat.le_refl _, fun _ _ _ => rfl⟩⟩
  · have hlt : g < w.heap.size := by
      rcases Nat.lt_or_ge g w.heap.size with h | h
      · exact h
      · rw [Array.getElem?_eq_none h] at hg; cases hg
    refine (sort_total g 0 cap l w (holdsK_own (B := B) (n := 0) (cap := cap) hg ht) hlt (by omega)).mono fun e w' ⟨he, n, os, hw⟩ => ?_
    subst hw
    have := sorted_world (l' := l.mergeSort dotLe) (os := os) (n := n) hb hg hcap hm hs (by simp)
    exact ⟨he, this.1, this.2⟩
end Go.Proofs.Ytogegnikpjcpdaa
/- slices.Clone at Dot. -/
namespace Go.Proofs.Ytogegnikpjcpdaa
set_option linter.unusedVariables false
open Go.ChangeShapes Go.WideShapes Go.ChangeAt Go.RowKit

theorem add_none (b off j : Nat) : (⟨b, off, none⟩ : Addr).add j = ⟨b, off + j, none⟩ := by
  unfold Addr.add
  split
  · subst_vars; rfl
  · rfl

theorem info_dot : (Try.prog.info? 27).map (fun i => (i.zero, i.size, i.bytes)) = some (some (.agg #[.int .i64 0, .int .i64 0]), 2, 16) := by kernel_rfl

theorem dcells_one (l : List (Int × Int)) : ∀ u ∈ dcells l, u.oneCell' = true := by
  intro u hu
  obtain ⟨d, _, h⟩ := List.mem_flatMap.1 hu
  simp at h
  rcases h with rfl | rfl <;> rfl

theorem Row.news {w : World} {B : Nat} {ad : Addr} {xs : List Value} (h : Row w B (some ad) xs) : ∀ j u, xs[j]? = some u → w.cell? (ad.add j) = some u := by
  intro j u hu
  rcases h with h | ⟨b, off, h1, _, h3⟩
  · subst h; simp at hu
  · injection h1 with h1
    subst h1
    rw [add_none]
    exact h3 j u hu

set_option maxHeartbeats 400000 in
set_option maxRecDepth 100000 in
theorem clone_any (l : List (Int × Int)) (A : Option Addr) (c : Nat) (w : World) (hr : Row w w.heap.size A (dcells l)) (hl : l.length ≤ 1048576) :
    Calls Try.prog 69 #[.slice A l.length c] w fun e w' => ∃ v, e = .returned v ∧ w'.ownsRow w.heap.size 27 2 v l.length (dcells l) ∧ Below w.heap.size w w' := by
  obtain ⟨i0, hi0, hz0, hz1, hz2⟩ := info_parts info_dot
  rcases A with _ | ad
  · have he : l = [] := by
      rcases hr with h | ⟨b, off, h, _⟩
      · have := congrArg List.length h
        rw [dcells_len] at this
        exact List.eq_nil_of_length_eq_zero (by simp at this; omega)
      · cases h
    subst he
    have hnil := fun (w : World) => Lib.run_eql_slice_nil w (P := Try.prog) (t := 23) (e := 27) none 0 c 0 0 Try.underlying23
    go_enter Try.func69, Try.ntmps69
    go_wp2
    go_ret
    exact ⟨_, rfl, World.ownsRow_nil _ _ _ _, Below.refl _ _⟩
  · have hnil := fun (w : World) => Lib.run_eql_slice_nil w (P := Try.prog) (t := 23) (e := 27) (some ad) l.length c 0 0 Try.underlying23
    have HR := hid hr
    clear hr
    go_enter Try.func69, Try.ntmps69
    go_wp2_with (at_builtin; refine wpList_append_own_at _ rfl _ _ 23 rfl w.heap.size 27 i0 _ 2 16 Try.underlying23 hi0 hz0 hz1 hz2 rfl (by decide) (.slice (some ⟨w.heap.size, 0, none⟩) 0 0) 0 [] rfl (World.ownsRow_made w #[] 0 (Nat.le_refl _) (by decide) rfl) ad l.length c (dcells l) rfl (by rw [dcells_len]; omega) (HR.out.below (Below.alloc (Below.refl _ _) (Nat.le_refl _) _) (Nat.le_refl _)).news (dcells_one l) ?_ ?_ ?_ ?_; rotate_right; intro v1 w1 hown1 hg1 _ hat1; rotate_left; (simp only [maxLen]; omega); (omega); (simp))
    go_ret
    refine ⟨v1, rfl, by simpa using hown1, ((Below.refl _ _).alloc (Nat.le_refl _) _).grown hg1 (by simp) (fun k hk => ?_)⟩
    simp [Value.ownBlock] at hk
    omega
end Go.Proofs.Ytogegnikpjcpdaa
/- slices.Compact at Dot, over a row that the call owns. -/
namespace Go.Proofs.Ytogegnikpjcpdaa
set_option linter.unusedVariables false
open Go.ChangeShapes Go.WideShapes Go.ChangeAt Go.RowKit

/-- Runs of equal neighbours, each once. -/
def cpt : List (Int × Int) → List (Int × Int)
  | [] => []
  | [a] => [a]
  | a :: b :: r => if a = b then cpt (b :: r) else a :: cpt (b :: r)

theorem cpt_snoc (x : Int × Int) : ∀ l : List (Int × Int), cpt (l ++ [x]) = if l.getLast? = some x then cpt l else cpt l ++ [x]
  | [] => by simp [cpt]
  | [a] => by
    by_cases h : a = x <;> simp [cpt, h]
  | a :: b :: r => by
    have ih := cpt_snoc x (b :: r)
    simp only [List.cons_append] at ih ⊢
    simp only [cpt, List.getLast?_cons_cons]
    rw [ih]
    by_cases h : a = b <;> by_cases h2 : (b :: r).getLast? = some x <;> simp [h, h2]

theorem cpt_same : ∀ l : List (Int × Int), (∀ j (h : j + 1 < l.length), l[j + 1] ≠ l[j]) → cpt l = l
  | [], _ => rfl
  | [a], _ => rfl
  | a :: b :: r, h => by
    have h0 := h 0 (by simp)
    simp at h0
    rw [cpt, if_neg (fun e => h0 e.symm), cpt_same (b :: r) (fun j hj => by have := h (j + 1) (by simp at hj ⊢; omega); simpa using this)]

theorem own_dot {w : World} {B n cap g : Nat} {T : TypeId} {l : List (Int × Int)} (h : w.ownsRow B T 2 (.slice (some ⟨g, 0, none⟩) n cap) n (dcells l)) {k : Nat} (hk : k < l.length) :
    w.cell? ⟨g, k * 2, none⟩ = some (.int .i64 l[k].1) ∧ w.cell? ⟨g, k * 2 + 1, none⟩ = some (.int .i64 l[k].2) := by
  obtain ⟨g0, g1⟩ := dcells_get l k hk
  have h0 := h.cells (g := g) rfl _ _ g0
  have h1 := h.cells (g := g) rfl _ _ g1
  rw [add_none, Nat.zero_add] at h0 h1
  exact ⟨h0, h1⟩

theorem own_short {w : World} {B n cap g k : Nat} {T : TypeId} {xs : List Value} (h : w.ownsRow B T 2 (.slice (some ⟨g, 0, none⟩) n cap) n xs) (hk : k ≤ n) :
    w.ownsRow B T 2 (.slice (some ⟨g, 0, none⟩) k cap) k (xs.take (k * 2)) := by
  rcases h.2 with ⟨h', _⟩ | ⟨g', cap', cur, h', hb, hg, hnc, hcm, hcs, htake⟩
  · cases h'
  · simp only [Value.slice.injEq, Option.some.injEq, Addr.mk.injEq, and_true, true_and] at h'
    obtain ⟨rfl, rfl⟩ := h'
    refine ⟨by rw [List.length_take, h.1]; omega, .inr ⟨g, cap, cur, rfl, hb, hg, by omega, hcm, hcs, ?_⟩⟩
    rw [← htake, List.take_take, Nat.min_eq_left (by omega)]

theorem own_beyond {B n cap g : Nat} {T : TypeId} {xs : List Value} : ∀ (vs : List Value) (w : World) (off : Nat), w.ownsRow B T 2 (.slice (some ⟨g, 0, none⟩) n cap) n xs → n * 2 ≤ off →
    (w.setCells g off vs).ownsRow B T 2 (.slice (some ⟨g, 0, none⟩) n cap) n xs ∧ w.grownBy (w.setCells g off vs) (some g)
  | [], w, off, h, _ => ⟨h, ⟨rfl, rfl, rfl, Nat.le_refl _, fun _ _ _ => rfl⟩⟩
  | v :: vs, w, off, h, ho => by
    have hs := h.stored off v
    have e : xs.set off v = xs := List.set_eq_of_length_le (by rw [h.1]; exact ho)
    rw [e] at hs
    obtain ⟨h1, h2⟩ := own_beyond vs _ (off + 1) hs.1 (by omega)
    rw [World.setCells]
    exact ⟨h1, ⟨h2.os.trans hs.2.os, h2.tape.trans hs.2.tape, h2.output.trans hs.2.output, Nat.le_trans hs.2.size h2.size, fun k hk hne => (h2.block k (Nat.lt_of_lt_of_le hk hs.2.size) hne).trans (hs.2.block k hk hne)⟩⟩

theorem grown_trans {w w1 w2 : World} {row : Option Nat} (h1 : w.grownBy w1 row) (h2 : w1.grownBy w2 row) : w.grownBy w2 row :=
  ⟨h2.os.trans h1.os, h2.tape.trans h1.tape, h2.output.trans h1.output, Nat.le_trans h1.size h2.size, fun k hk hne => (h2.block k (Nat.lt_of_lt_of_le hk h1.size) hne).trans (h1.block k hk hne)⟩
theorem grown_drewN {w w1 : World} {row : Option Nat} (h1 : w.grownBy w1 row) (n : Nat) : w.grownBy (w1.drewN n) row := ⟨h1.os, h1.tape, h1.output, h1.size, h1.block⟩
theorem grown_refl (w : World) (row : Option Nat) : w.grownBy w row := ⟨rfl, rfl, rfl, Nat.le_refl _, fun _ _ _ => rfl⟩

theorem dcells_set : ∀ (l : List (Int × Int)) (k : Nat) (d : Int × Int), ((dcells l).set (k * 2) (.int .i64 d.1)).set (k * 2 + 1) (.int .i64 d.2) = dcells (l.set k d)
  | [], k, d => by simp
  | a :: l, 0, d => by simp [List.flatMap_cons]
  | a :: l, k + 1, d => by
    have ih := dcells_set l k d
    have e : (k + 1) * 2 = k * 2 + 1 + 1 := by omega
    simp only [dcells, List.flatMap_cons, List.set_cons_succ, e] at ih ⊢
    simpa using ih

theorem own_store {w : World} {B n cap g : Nat} {T : TypeId} {l : List (Int × Int)} (h : w.ownsRow B T 2 (.slice (some ⟨g, 0, none⟩) n cap) n (dcells l)) (k : Nat) (d : Int × Int) :
    ((w.setCell ⟨g, k * 2, none⟩ (.int .i64 d.1)).setCell ⟨g, k * 2 + 1, none⟩ (.int .i64 d.2)).ownsRow B T 2 (.slice (some ⟨g, 0, none⟩) n cap) n (dcells (l.set k d)) ∧
      w.grownBy ((w.setCell ⟨g, k * 2, none⟩ (.int .i64 d.1)).setCell ⟨g, k * 2 + 1, none⟩ (.int .i64 d.2)) (some g) := by
  have h1 := h.stored (k * 2) (.int .i64 d.1)
  have h2 := h1.1.stored (k * 2 + 1) (.int .i64 d.2)
  rw [dcells_set] at h2
  exact ⟨h2.1, grown_trans h1.2 h2.2⟩

/-- Within the inner loop: of the first m places the runs stand in the first kk; from m - 1 on all is as it was. -/
structure CInv (l : List (Int × Int)) (m kk : Nat) (ds : List (Int × Int)) : Prop where
  len : ds.length = l.length
  lt : kk + 1 ≤ m
  low : ds.take kk = cpt (l.take m)
  high : ∀ j (h : j < l.length) (h' : j < ds.length), m ≤ j + 1 → ds[j] = l[j]

theorem CInv.skip {l ds : List (Int × Int)} {m kk : Nat} (h : CInv l m kk ds) (hm : m < l.length) (hm0 : 0 < m) (he : l[m] = l[m - 1]) : CInv l (m + 1) kk ds := by
  refine ⟨h.len, by have := h.lt; omega, ?_, fun j hj hj' hm' => h.high j hj hj' (by omega)⟩
  rw [List.take_succ_eq_append_getElem hm, cpt_snoc, if_pos, h.low]
  rw [List.getLast?_eq_getElem?, List.length_take, Nat.min_eq_left (by omega), List.getElem?_take_of_lt (by omega), List.getElem?_eq_getElem (by omega), he]

theorem CInv.keep {l ds : List (Int × Int)} {m kk : Nat} (h : CInv l m kk ds) (hm : m < l.length) (hm0 : 0 < m) (he : l[m] ≠ l[m - 1]) : CInv l (m + 1) (kk + 1) (ds.set kk l[m]) := by
  have hlt := h.lt
  have hlen := h.len
  refine ⟨by simpa using hlen, by omega, ?_, fun j hj hj' hm' => ?_⟩
  · rw [List.take_succ_eq_append_getElem hm, cpt_snoc, if_neg, ← h.low, List.take_succ_eq_append_getElem (by simp; omega)]
    · simp [List.take_set_of_le]
    · rw [List.getLast?_eq_getElem?, List.length_take, Nat.min_eq_left (by omega), List.getElem?_take_of_lt (by omega), List.getElem?_eq_getElem (by omega)]
      intro e
      injection e with e
      exact he e.symm
  · rw [List.getElem_set_ne (by omega)]
    exact h.high j hj (by simpa using hj') (by omega)

theorem CInv.start {l : List (Int × Int)} {k : Nat} (hk : k < l.length) (hk0 : 0 < k) (hall : ∀ j (h : j + 1 < l.length), j + 1 < k → l[j + 1] ≠ l[j]) (he : l[k] = l[k - 1]) : CInv l (k + 1) k l := by
  refine ⟨rfl, Nat.le_refl _, ?_, fun _ _ _ _ => rfl⟩
  rw [List.take_succ_eq_append_getElem hk, cpt_snoc, if_pos]
  · rw [cpt_same]
    intro j hj
    simp at hj
    simp only [List.getElem_take]
    exact hall j (by omega) (by omega)
  · rw [List.getLast?_eq_getElem?, List.length_take, Nat.min_eq_left (by omega), List.getElem?_take_of_lt (by omega), List.getElem?_eq_getElem (by omega), he]
end Go.Proofs.Ytogegnikpjcpdaa
/- slices.Compact at Dot: the walk. -/
namespace Go.Proofs.Ytogegnikpjcpdaa
set_option linter.unusedVariables false
open Go.ChangeShapes Go.WideShapes Go.ChangeAt Go.RowKit

theorem zeros_dot (n : Nat) : (Builtin.zeroCells (Value.agg #[.int .i64 0, .int .i64 0]).cells n).toList.length = n * 2 ∧ ∀ u ∈ (Builtin.zeroCells (Value.agg #[.int .i64 0, .int .i64 0]).cells n).toList, u.oneCell' = true := by
  constructor
  · simp [Builtin.zeroCells, Value.cells]
  · intro u hu
    simp [Builtin.zeroCells, Value.cells] at hu
    obtain ⟨k, hk, rfl⟩ := hu
    rcases Nat.mod_two_eq_zero_or_one k with h | h <;> simp [h] <;> rfl

theorem run_clear_dot (w : World) (ty : TypeId) (b o n c : Nat) (hn : 0 < n)
    (hc : ∀ j, j < n * 2 → (w.cell? ⟨b, o + j, none⟩).isSome = true) (hf : ∀ j, j < n * 2 → w.frozen? ⟨b, o + j, none⟩ = false) :
    (Builtin.clear_ #[23] ty #[.slice (some ⟨b, o, none⟩) n c]).run Try.prog w = .ok (.tuple #[]) (w.setCells b o (Builtin.zeroCells (Value.agg #[.int .i64 0, .int .i64 0]).cells n).toList) := by
  have hv : ∀ w, (zeroValue 27).run Try.prog w = .ok (.agg #[.int .i64 0, .int .i64 0]) w := Try.zeroValue27
  obtain ⟨hz1, hz2⟩ := zeros_dot n
  generalize hvs : (Builtin.zeroCells (Value.agg #[.int .i64 0, .int .i64 0]).cells n).toList = vs at *
  have hst := run_storeCells_cells (P := Try.prog) b o vs 0 w (by rw [hz1]; simpa using hc) (by rw [hz1]; simpa using hf) hz2
  simp only [Nat.add_zero] at hst
  obtain ⟨m, rfl⟩ : ∃ m, n = m + 1 := ⟨n - 1, by omega⟩
  simp [Builtin.clear_, run_underlying Try.underlying23, hv, hvs, hst]
end Go.Proofs.Ytogegnikpjcpdaa
/- slices.Compact at Dot over a row that the call owns: the contract. -/
namespace Go.Proofs.Ytogegnikpjcpdaa
set_option linter.unusedVariables false
open Go.ChangeShapes Go.WideShapes Go.ChangeAt Go.RowKit

def CompactPost (B : Nat) (v : Value) (l : List (Int × Int)) (w : World) (e : Ending) (w' : World) : Prop :=
  ∃ v', e = .returned v' ∧ w'.ownsRow B 27 2 v' (cpt l).length (dcells (cpt l)) ∧ w.grownBy w' v.ownBlock ∧ v'.ownBlock = v.ownBlock

theorem cpt_small (l : List (Int × Int)) (h : l.length < 2) : cpt l = l := cpt_same l fun j hj => absurd hj (by omega)

theorem dcells_take : ∀ (l : List (Int × Int)) (k : Nat), (dcells l).take (k * 2) = dcells (l.take k)
  | [], k => by simp
  | a :: l, 0 => by simp
  | a :: l, k + 1 => by
    have ih := dcells_take l k
    have e : (k + 1) * 2 = k * 2 + 1 + 1 := by omega
    simp only [dcells, List.flatMap_cons, List.take_succ_cons, e] at ih ⊢
    simpa using ih

theorem CInv.cell {l ds : List (Int × Int)} {m kk B g n cap : Nat} {w : World} {T : TypeId} (hI : CInv l m kk ds) (how : w.ownsRow B T 2 (.slice (some ⟨g, 0, none⟩) n cap) n (dcells ds)) (j a : Nat) (hj : j < l.length) (hm : m ≤ j + 1) (ha : a = j * 2) :
    ∃ r : Int × Int, l[j] = r ∧ w.cell? ⟨g, a, none⟩ = some (.int .i64 r.1) ∧ w.cell? ⟨g, a + 1, none⟩ = some (.int .i64 r.2) := by
  subst ha
  have hj2 : j < ds.length := by rw [hI.len]; exact hj
  obtain ⟨m0, m1⟩ := own_dot how hj2
  have e := hI.high j hj hj2 hm
  exact ⟨l[j], rfl, by rw [m0, e], by rw [m1, e]⟩

set_option maxHeartbeats 2000000 in
set_option maxRecDepth 100000 in
theorem compact_arr (B g cap : Nat) (l : List (Int × Int)) (w : World) (hown : w.ownsRow B 27 2 (.slice (some ⟨g, 0, none⟩) l.length cap) l.length (dcells l)) (hl : l.length ≤ 140737488355328) (hcap : l.length ≤ cap) (hcm : cap ≤ maxLen) (h2 : 2 ≤ l.length) :
    Calls Try.prog 73 #[.slice (some ⟨g, 0, none⟩) l.length cap] w (CompactPost B (.slice (some ⟨g, 0, none⟩) l.length cap) l w) := by
  unfold maxLen at hcm
  have HO := hid hown
  clear hown
  have d2 : decide ((l.length : Int) < 2) = false := by simp; omega
  have g1 := guard_dot
  have g2 := eql_dot
  have g3 := neq_dot
  go_enter Try.func73, Try.ntmps73
  go_wp2
  go_loopw [3] (fun s3 wr => ∃ k : Nat, 1 ≤ k ∧ k ≤ l.length ∧ s3 = .int .i64 k ∧ (∀ j (h : j + 1 < l.length), j + 1 < k → l[j + 1] ≠ l[j]) ∧ wr.ownsRow B 27 2 (.slice (some ⟨g, 0, none⟩) l.length cap) l.length (dcells l) ∧ w.grownBy wr (some g)) (fun s3 _ => l.length - (intOf s3).toNat)
  case atStart => exact ⟨1, Nat.le_refl _, by omega, rfl, fun j _ h => absurd h (by omega), HO.out, grown_refl _ _⟩
  case round =>
    obtain ⟨k, hk1, hk, rfl, hall, how, hgw⟩ := hrel
    have HA := hid hall
    have HW := hid how
    have HG := hid hgw
    by_cases hlt : k < l.length
    · obtain ⟨x0, x1⟩ := own_dot how hlt
      obtain ⟨y0, y1⟩ := own_dot how (k := k - 1) (by omega)
      clear hall how hgw
      have z1 : IntKind.i64.wrap ((k : Int) - 1) = (k : Int) - 1 := IntWalk.i64_in _ (by omega)
      have z2 : (1 : Int) ≤ (k : Int) := by omega
      have z3 : (k : Int) - 1 < (l.length : Int) := by omega
      have z4 : ((k : Int) - 1).toNat = k - 1 := by omega
      generalize hx : l[k] = x at *
      generalize hy : l[k - 1] = y at *
      have HX := hid hx
      have HY := hid hy
      clear hx hy
      obtain ⟨p0, p1⟩ := x
      obtain ⟨q0, q1⟩ := y
      simp only at x0 x1 y0 y1
      have hck : (cap = k) = False := by simp; omega
      have hck2 : (k : Int) ≤ (cap : Int) := by omega
      have hck3 : (k : Int) ≤ (l.length : Int) := by omega
      cases hd : (p0 == q0 && p1 == q1)
      · go_wp2_with fail
        refine wp_region_quiet_lit (by kernel_rfl) (by kernel_rfl) ?_
        repeat (any_goals ((with_reducible refine wpQuiet_step (fun K hK => ?_)); go_simp; first | (with_reducible refine hK _ ?_; clear hK K) | ((with_reducible apply Exists.intro); (with_reducible refine ⟨fun _ => ?_, hK _ ?_⟩); (fail); clear hK K) | ((with_reducible refine (if_neg ?_).mpr (hK _ ?_)); (decide); clear hK K) | (split <;> (with_reducible refine hK _ ?_; clear hK K))))
        all_goals ((with_reducible refine wpQuiet_nil ?_); intro _ hw'; obtain ⟨nq, hw''⟩ := hw'; subst hw'')
        go_wp2
        go_roundw
        case rel =>
          refine ⟨k + 1, by omega, by omega, by go_num, fun j h hj => ?_, HW.out, grown_drewN HG.out _⟩
          by_cases e : j + 1 = k
          · subst e
            rw [HX.out]
            intro e2
            have hy2 : l[j] = (q0, q1) := by have := HY.out; simpa using this
            rw [hy2] at e2
            injection e2 with e3 e4
            subst e3 e4
            simp at hd
          · exact HA.out j h (by omega)
        case measure => simp [intOf]; omega
      · have hxy : l[k] = l[k - 1] := by rw [HX.out, HY.out]; ext <;> simp_all
        have HXY := hid hxy
        clear hxy
        go_wp2_with fail
        refine wp_region_quiet_lit (by kernel_rfl) (by kernel_rfl) ?_
        repeat (any_goals ((with_reducible refine wpQuiet_step (fun K hK => ?_)); go_simp; first | (with_reducible refine hK _ ?_; clear hK K) | ((with_reducible apply Exists.intro); (with_reducible refine ⟨fun _ => ?_, hK _ ?_⟩); (fail); clear hK K) | ((with_reducible refine (if_neg ?_).mpr (hK _ ?_)); (decide); clear hK K) | (split <;> (with_reducible refine hK _ ?_; clear hK K))))
        all_goals ((with_reducible refine wpQuiet_nil ?_); intro _ hw'; obtain ⟨nq, hw''⟩ := hw'; subst hw'')
        go_wp2
        obtain ⟨wo, rfl⟩ : ∃ wo : World, wo = wr := ⟨_, rfl⟩
        go_loopw [3, 5] (fun s3 s5 wr => ∃ (kk k2 : Nat) (ds : List (Int × Int)), s3 = .int .i64 kk ∧ s5 = .int .i64 k2 ∧ 1 ≤ k2 ∧ k + k2 ≤ l.length ∧ CInv l (k + k2) kk ds ∧ wr.ownsRow B 27 2 (.slice (some ⟨g, 0, none⟩) l.length cap) l.length (dcells ds) ∧ w.grownBy wr (some g)) (fun _ s5 _ => l.length - (intOf s5).toNat)
        case atStart => exact ⟨k, 1, l, rfl, rfl, Nat.le_refl _, by omega, CInv.start hlt (by omega) (fun j h hj => HA.out j h hj) HXY.out, HW.out, grown_drewN HG.out _⟩
        case round =>
          obtain ⟨kk, k2, ds, rfl, rfl, h1, hle, hI, how, hgw⟩ := hrel
          have hlen := hI.len
          have hkk := hI.lt
          have HI := hid hI
          have HW2 := hid how
          have HG2 := hid hgw
          by_cases hlt2 : k + k2 < l.length
          · obtain ⟨⟨r0, r1⟩, hx2, m0, m1⟩ := hI.cell how (k + k2) (k * 2 + k2 * 2) hlt2 (by omega) (by omega)
            obtain ⟨⟨s0, s1⟩, hy2, n0, n1⟩ := hI.cell how (k + k2 - 1) (k * 2 + (k2 - 1) * 2) (by omega) (by omega) (by omega)
            have hko := own_dot how (k := kk) (by omega)
            obtain ⟨o0, o1, oc0, oc1⟩ : ∃ o0 o1 : Value, wr.cell? ⟨g, kk * 2, none⟩ = some o0 ∧ wr.cell? ⟨g, kk * 2 + 1, none⟩ = some o1 := ⟨_, _, hko.1, hko.2⟩
            have hfz := how.frozenAt (g := g)
            have f0 := hfz (kk * 2)
            have f1 := hfz (kk * 2 + 1)
            have HX2 := hid hx2
            have HY2 := hid hy2
            clear hx2 hy2 hko hfz hI how hgw
            simp only at m0 m1 n0 n1
            have z5 : IntKind.i64.wrap ((k2 : Int) - 1) = (k2 : Int) - 1 := IntWalk.i64_in _ (by omega)
            have z6 : (1 : Int) ≤ (k2 : Int) := by omega
            have z7 : (k2 : Int) < (l.length : Int) - (k : Int) := by omega
            have z9 : (k2 : Int) - 1 < ((l.length - k : Nat) : Int) := by omega
            have z10 : (k2 : Int) < ((l.length - k : Nat) : Int) := by omega
            have z8 : ((k2 : Int) - 1).toNat = k2 - 1 := by omega
            cases hd2 : (r0 == s0 && r1 == s1)
            · go_wp2_with fail
              refine wp_region_quiet_lit (by kernel_rfl) (by kernel_rfl) ?_
              repeat (any_goals ((with_reducible refine wpQuiet_step (fun K hK => ?_)); go_simp; first | (with_reducible refine hK _ ?_; clear hK K) | ((with_reducible apply Exists.intro); (with_reducible refine ⟨fun _ => ?_, hK _ ?_⟩); (fail); clear hK K) | ((with_reducible refine (if_neg ?_).mpr (hK _ ?_)); (decide); clear hK K) | (split <;> (with_reducible refine hK _ ?_; clear hK K))))
              all_goals ((with_reducible refine wpQuiet_nil ?_); intro _ hw'; obtain ⟨nq, hw''⟩ := hw'; subst hw'')
              go_wp2
              go_roundw
              case rel =>
                have hs := own_store (w := wr.drewN nq) HW2.out kk (r0, r1)
                have hne : l[k + k2] ≠ l[k + k2 - 1] := by rw [HX2.out, HY2.out]; intro e; injection e with e3 e4; subst e3 e4; simp at hd2
                have hk := HI.out.keep hlt2 (by omega) hne
                rw [HX2.out] at hk
                exact ⟨kk + 1, k2 + 1, ds.set kk (r0, r1), by go_num, by go_num, by omega, by omega, hk, hs.1, grown_trans (grown_drewN HG2.out nq) hs.2⟩
              case measure => simp [intOf]; omega
            · go_wp2_with fail
              refine wp_region_quiet_lit (by kernel_rfl) (by kernel_rfl) ?_
              repeat (any_goals ((with_reducible refine wpQuiet_step (fun K hK => ?_)); go_simp; first | (with_reducible refine hK _ ?_; clear hK K) | ((with_reducible apply Exists.intro); (with_reducible refine ⟨fun _ => ?_, hK _ ?_⟩); (fail); clear hK K) | ((with_reducible refine (if_neg ?_).mpr (hK _ ?_)); (decide); clear hK K) | (split <;> (with_reducible refine hK _ ?_; clear hK K))))
              all_goals ((with_reducible refine wpQuiet_nil ?_); intro _ hw'; obtain ⟨nq, hw''⟩ := hw'; subst hw'')
              go_wp2
              go_roundw
              case rel =>
                exact ⟨kk, k2 + 1, ds, rfl, by go_num, by omega, by omega, HI.out.skip hlt2 (by omega) (by rw [HX2.out, HY2.out]; ext <;> simp_all), HW2.out, grown_drewN HG2.out _⟩
              case measure => simp [intOf]; omega
          · have hend : k + k2 = l.length := by omega
            have hsh := own_short how (k := kk) (by omega)
            have hcl : ∀ ty, (Builtin.clear_ #[23] ty #[.slice (some ⟨g, kk * 2, none⟩) (l.length - kk) (cap - kk)]).run Try.prog wr = .ok (.tuple #[]) (wr.setCells g (kk * 2) (Builtin.zeroCells (Value.agg #[.int .i64 0, .int .i64 0]).cells (l.length - kk)).toList) := by
              intro ty
              refine run_clear_dot wr ty g (kk * 2) (l.length - kk) (cap - kk) (by omega) (fun j hj => ?_) (fun j _ => how.frozenAt _)
              have hj2 : kk * 2 + j < (dcells ds).length := by rw [dcells_len]; omega
              have := how.cells (g := g) rfl _ _ (List.getElem?_eq_getElem hj2)
              rw [add_none, Nat.zero_add] at this
              rw [this]; rfl
            have HE := hid hend
            have HS := hid hsh
            have HCL := hid hlen
            have kc1 : (cap = kk) = False := by simp; omega
            have kc2 : (kk : Int) ≤ (cap : Int) := by omega
            have kc3 : (kk : Int) ≤ (l.length : Int) := by omega
            clear hend hsh hI how hgw hlen
            go_wp2
            go_ret
            have hI := HI.out
            have hlow := hI.low
            rw [HE.out, List.take_length] at hlow
            have hlk : (cpt l).length = kk := by rw [← hlow, List.length_take, hI.len]; have := HE.out; omega
            have hb := own_beyond (Builtin.zeroCells (Value.agg #[.int .i64 0, .int .i64 0]).cells (l.length - kk)).toList wr (kk * 2) HS.out (Nat.le_refl _)
            rw [dcells_take, hlow] at hb
            exact ⟨_, rfl, by rw [hlk]; exact hb.1, grown_trans HG2.out hb.2, rfl⟩
    · have hkl : k = l.length := by omega
      have HK := hid hkl
      clear hkl hall how hgw
      go_wp2
      go_ret
      have e : cpt l = l := cpt_same l fun j h => HA.out j h (by have := HK.out; omega)
      exact ⟨_, rfl, by rw [e]; exact HW.out, HG.out, rfl⟩

/-- slices.Compact at Dot over a row that the call owns, nil too. -/
theorem compact_own {B : Nat} {v : Value} (l : List (Int × Int)) (w : World) (hown : w.ownsRow B 27 2 v l.length (dcells l)) (hl : l.length ≤ 140737488355328) :
    Calls Try.prog 73 #[v] w (CompactPost B v l w) := by
  by_cases h2 : 2 ≤ l.length
  · rcases hown.2 with ⟨rfl, h0⟩ | ⟨g, cap, cur, rfl, hb, hg, hcap, hm, hs, ht⟩
    · omega
    · exact compact_arr B g cap l w hown hl hcap hm h2
  · have d2 : decide ((l.length : Int) < 2) = true := by simp; omega
    have hv : ∃ A c, v = .slice A l.length c := by
      rcases hown.2 with ⟨rfl, h0⟩ | ⟨g, cap, cur, rfl, hb, hg, hcap, hm, hs, ht⟩
      · exact ⟨none, 0, by rw [h0]⟩
      · exact ⟨_, _, rfl⟩
    obtain ⟨A, c, rfl⟩ := hv
    have HO := hid hown
    clear hown
    go_enter Try.func73, Try.ntmps73
    go_wp2
    go_ret
    exact ⟨_, rfl, by rw [cpt_small l (by omega)]; exact HO.out, grown_refl _ _, rfl⟩
end Go.Proofs.Ytogegnikpjcpdaa
