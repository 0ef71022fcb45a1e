/- Frame, StbP, ZsP, SetP, LinP, PlP, QtP, Base, Mem -/
import Derived.Test.YtamlaeocojcgdaaDoorRows
import Derived.Below
import Derived.ChangeSame
import Derived.Carry
import Derived.WalkKit
import Derived.ProofKit
import Derived.OpenShut
import Derived.LaidMore
import Derived.Stop.Joined
import Derived.LaidLaws
import Derived.Handed
import Derived.Lib.LaidTab
import Derived.Stop.LaidErr
import Derived.Lib.ItoaNum
import Derived.Sort.LotA
import Derived.IntWalk
import Derived.Lib.ItoaLen
import Derived.Handy
import Derived.Deep.Quiet
import Derived.Deep.QuietTactic
import Derived.BigQuiet
import Derived.StillTailTactics
import Derived.Deep.AppendLies
/- The frame that the laws of this seat share: a call that answers true and turns nothing below the heap's size fits the row. No law in sight. -/
namespace Go.Proofs.YtamlaeocojcgdaaDoor
set_option linter.unusedVariables false
open Go.ChangeShapes Go.WideShapes Go.ChangeAt Go.RowKit

section
variable {H : Type} {enc : TypeId × Value → H} {P : Program}

theorem trodAll_stays (hl : laidOutB P = true) {W W' : World} (hb : Below W.heap.size W W') {sp : Nat → Bool} :
    ∀ {ts : List TypeId} {vs : List Value} {ds : List (DataW H)} {ps : List MemPlace}, (∀ t ∈ ts, P.readableRec t = true ∧ t < P.types.size) →
      DataW.TrodAll enc P W 0 (fun _ => true) true ts vs ds ps → (∀ x ∈ ps, x.block < W.heap.size) → (∀ x ∈ ps, sp x.block = true) → DataW.TrodAll enc P W' 0 sp true ts vs ds ps
  | [], _, _, _, _, h, _, _ => by
    obtain ⟨rfl, rfl, rfl⟩ := trodAll_nil h
    exact trodAll_mk0
  | t :: ts, _, _, _, ht, h, hlt, hs => by
    obtain ⟨v, vs, d, ds, p, q, rfl, rfl, rfl, h1, h2⟩ := trodAll_cons h
    have ht0 := ht t (by simp)
    exact ⟨p, q, WideElems.Trod_stays hl ht0.1 ht0.2 h1 (fun x hx => hb.same (hlt x (by simp [hx]))) (fun x hx => hs x (by simp [hx])),
      trodAll_stays hl hb (fun u hu => ht u (by simp [hu])) h2 (fun x hx => hlt x (by simp [hx])) (fun x hx => hs x (by simp [hx])), rfl⟩

theorem trodAll_len {W : World} {sp : Nat → Bool} {hd : Bool} {b : Nat} : ∀ {ts : List TypeId} {vs : List Value} {ds : List (DataW H)} {ps : List MemPlace}, DataW.TrodAll enc P W b sp hd ts vs ds ps → ds.length = ts.length
  | [], _, _, _, h => by
    obtain ⟨rfl, rfl, rfl⟩ := trodAll_nil h
    rfl
  | t :: ts, _, _, _, h => by
    obtain ⟨v, vs, d, ds, p, q, rfl, rfl, rfl, h1, h2⟩ := trodAll_cons h
    simp [trodAll_len h2]

theorem law_post {f : Func} {s : ChangeSpec} {W W' : World} {args : Array Value} {ds gs : List (DataW H)} {before : List MemPlace} {tb : TypeId} (hl : laidOutB P = true)
    (hts : ∀ t ∈ f.params.toList, P.readableRec t = true ∧ t < P.types.size) (hres : f.resultTypes = #[tb]) (hbool : P.underlying tb = some .bool) (hvars : s.vars = [])
    (hspec : ∀ es : List (DataW H), es.length = f.params.toList.length → s.fn H es = { results := [.lit (.bool true)], args := es })
    (hW : DataW.Whole enc P f.params.toList s.vars false W args.toList ds gs before) (hb : Below W.heap.size W W') : s.post enc P f false true false false W args (.bool true) W' := by
  have hlt := hW.lt
  have hold : ∀ x ∈ before, (fun b => decide (b < W.heap.size)) x.block = true := fun x hx => by simpa using hlt x hx
  have hW0 := hW
  obtain ⟨p, q, hA, hV, rfl, hz, hn⟩ := hW
  rw [hvars] at hV
  obtain ⟨rfl, rfl⟩ := trodVars_none hV
  have hsp := hspec ds (trodAll_len hA)
  have hargs : ∀ sp : Nat → Bool, (∀ x ∈ p, sp x.block = true) → DataW.TrodAll enc P W' 0 sp true f.params.toList args.toList ds p := fun sp h =>
    trodAll_stays hl hb hts hA (fun x hx => hlt x (by simp [hx])) h
  have hr : ∀ (b : Nat) (sp : Nat → Bool) (hd : Bool), DataW.TrodAll enc P W' b sp hd f.resultTypes.toList ((Value.bool true).resultList f.resultTypes.size) [.lit (.bool true)] [] := by
    intro b sp hd
    rw [hres]
    exact trodAll_cons_mk (shut_bool hbool _) trodAll_mk0
  refine ⟨ds, [], p ++ [], [], p, [], hW0, ?_, ?_, ?_, World.keptBut_mono (fun x hx => ⟨hx, .inr (by simpa using hx)⟩) (hb.frame (· ∈ p ++ [])), fun _ => ?_⟩
  · rw [List.append_nil, hsp]; exact hr _ _ _
  · rw [List.append_nil, hsp]; exact hargs _ (fun x hx => by simpa using hlt x (by simp [hx]))
  · rw [List.append_nil, hsp, hvars]; rfl
  · refine ⟨ok_one hres rfl (okWide_bool_mk hbool _), [.lit (.bool true)] ++ ds, [], p ++ [], ⟨p, [], ?_, by rw [hvars]; rfl, rfl, ?_, fun h => by cases h⟩, fun x hx _ => by simpa using hx⟩
    · have h := trodAll_append (hargs (fun _ => true) (fun _ _ => rfl)) (hr 0 (fun _ => true) true)
      simpa using h
    · intro b off hx
      rw [hb.frozen (hlt _ hx)]
      exact hz b off hx
end

end Go.Proofs.YtamlaeocojcgdaaDoor
/- slices.SortStableFunc: what its loops do to an array (plain: no program in sight). -/
namespace Go.Proofs.YtamlaeocojcgdaaDoor
set_option linter.unusedVariables false
set_option linter.unusedSectionVars false
open Go.Sort
variable {α : Type} [Inhabited α] {lt : α → α → Bool}

theorem swo_le (hS : SWO lt) {x y z : α} (h1 : lt y x = false) (h2 : lt z y = false) : lt z x = false := hS.ntrans z y x h2 h1
theorem swo_lt_le (hS : SWO lt) {x y : α} (h : lt x y = true) : lt y x = false := by
  cases hq : lt y x
  · rfl
  · have := hS.trans x y x h hq; rw [hS.irrefl] at this; cases this

/-! swapRange -/
/-! rotate -/
/-! one element moved on, or back -/
/-! merging -/
/-! blocks -/
end Go.Proofs.YtamlaeocojcgdaaDoor
/- Sets with weights: the plain law of zset.Sum (grouping what is sorted), by weights. No program in sight. -/
namespace Go.Proofs.YtamlaeocojcgdaaDoor
set_option linter.unusedVariables false
set_option linter.unusedSectionVars false
open Go.Sort

/-! rows in order -/
def cmpL : List Int → List Int → Int
  | [], [] => 0
  | [], _ :: _ => -1
  | _ :: _, [] => 1
  | a :: x, b :: y => if a < b then -1 else if b < a then 1 else cmpL x y
theorem cmpL_range : ∀ a b, cmpL a b = -1 ∨ cmpL a b = 0 ∨ cmpL a b = 1
  | [], [] => .inr (.inl rfl)
  | [], _ :: _ => .inl rfl
  | _ :: _, [] => .inr (.inr rfl)
  | a :: x, b :: y => by
    unfold cmpL
    split
    · exact .inl rfl
    · split
      · exact .inr (.inr rfl)
      · exact cmpL_range x y
theorem cmpL_self : ∀ a, cmpL a a = 0
  | [] => rfl
  | a :: x => by unfold cmpL; rw [if_neg (by omega), if_neg (by omega)]; exact cmpL_self x
theorem cmpL_eq : ∀ a b, cmpL a b = 0 → a = b
  | [], [], _ => rfl
  | [], _ :: _, h => by simp [cmpL] at h
  | _ :: _, [], h => by simp [cmpL] at h
  | a :: x, b :: y, h => by
    unfold cmpL at h
    split at h
    · omega
    · split at h
      · omega
      · rw [cmpL_eq x y h, show a = b by omega]
theorem cmpL_neg : ∀ a b, cmpL b a = - cmpL a b
  | [], [] => rfl
  | [], _ :: _ => rfl
  | _ :: _, [] => rfl
  | a :: x, b :: y => by
    unfold cmpL
    by_cases h1 : a < b
    · rw [if_neg (by omega), if_pos h1, if_pos h1]; rfl
    · by_cases h2 : b < a
      · rw [if_pos h2, if_neg h1, if_pos h2]
      · rw [if_neg h2, if_neg h1, if_neg h1, if_neg h2]; exact cmpL_neg x y
theorem cmpL_trans : ∀ a b c, cmpL a b ≤ 0 → cmpL b c ≤ 0 → cmpL a c ≤ 0 ∧ (cmpL a c = 0 → cmpL a b = 0 ∧ cmpL b c = 0)
  | [], [], c, h1, h2 => ⟨h2, fun h => ⟨rfl, h⟩⟩
  | [], b :: y, [], h1, h2 => by simp [cmpL] at h2
  | [], b :: y, c :: z, h1, h2 => ⟨by simp [cmpL], fun h => by simp [cmpL] at h⟩
  | a :: x, [], c, h1, h2 => by simp [cmpL] at h1
  | a :: x, b :: y, [], h1, h2 => by simp [cmpL] at h2
  | a :: x, b :: y, c :: z, h1, h2 => by
    unfold cmpL at h1 h2 ⊢
    by_cases e1 : a < b
    · by_cases e2 : b < c
      · rw [if_pos (by omega)]; exact ⟨by omega, fun h => by omega⟩
      · by_cases e3 : c < b
        · rw [if_neg e2, if_pos e3] at h2; omega
        · rw [if_pos (by omega)]; exact ⟨by omega, fun h => by omega⟩
    · by_cases e1' : b < a
      · rw [if_neg e1, if_pos e1'] at h1; omega
      · rw [if_neg e1, if_neg e1'] at h1
        have : a = b := by omega
        subst this
        by_cases e2 : a < c
        · rw [if_pos e2]; exact ⟨by omega, fun h => by omega⟩
        · by_cases e3 : c < a
          · rw [if_neg e2, if_pos e3] at h2; omega
          · rw [if_neg e2, if_neg e3] at h2
            rw [if_neg e2, if_neg e3, if_neg (by omega), if_neg (by omega)]
            have := cmpL_trans x y z h1 h2
            rw [if_neg e2, if_neg e3]
            exact this
theorem cmpL_lt_le {a b c : List Int} (h1 : cmpL a b < 0) (h2 : cmpL b c ≤ 0) : cmpL a c < 0 := by
  have := cmpL_trans a b c (by omega) h2
  omega
/-- An item: its row, how many times. -/
abbrev It := List Int × Int
abbrev itLt (x y : It) : Bool := decide (cmpL x.1 y.1 < 0)
theorem swo_it : SWO itLt where
  irrefl x := by simp [itLt, cmpL_self]
  trans x y z h1 h2 := by
    simp only [itLt, decide_eq_true_eq] at *
    exact cmpL_lt_le h1 (by omega)
  ntrans x y z h1 h2 := by
    simp only [itLt, decide_eq_false_iff_not] at *
    have a1 := cmpL_neg x.1 y.1
    have a2 := cmpL_neg y.1 z.1
    have a3 := cmpL_neg x.1 z.1
    have := (cmpL_trans z.1 y.1 x.1 (by omega) (by omega)).1
    omega

/-! weights -/
abbrev wrp (n : Int) : Int := IntKind.i64.wrap n
theorem wrp_add (a b : Int) : wrp (wrp a + b) = wrp (a + b) := by simp only [wrp, IntKind.wrap_i64]; omega
theorem wrp_wrp (a : Int) : wrp (wrp a) = wrp a := by simp only [wrp, IntKind.wrap_i64]; omega
theorem wrp_id {a : Int} (h : -9223372036854775808 ≤ a ∧ a ≤ 9223372036854775807) : wrp a = a := IntWalk.i64_in a h
/-- How many times a row is in a list, in all. -/
def tot (r : List Int) : List It → Int
  | [] => 0
  | x :: l => (if x.1 = r then x.2 else 0) + tot r l
abbrev wt (l : List It) (r : List Int) : Int := wrp (tot r l)
theorem tot_app (r : List Int) : ∀ a b, tot r (a ++ b) = tot r a + tot r b
  | [], b => by simp [tot]
  | x :: a, b => by simp only [List.cons_append, tot, tot_app r a b]; omega
theorem tot_perm {r : List Int} {a b : List It} (h : a.Perm b) : tot r a = tot r b := by
  induction h with
  | nil => rfl
  | cons x _ ih => simp only [tot, ih]
  | swap x y l => simp only [tot]; omega
  | trans _ _ h1 h2 => exact h1.trans h2
theorem tot_none {r : List Int} : ∀ {l : List It}, (∀ x ∈ l, x.1 ≠ r) → tot r l = 0
  | [], _ => rfl
  | x :: l, h => by
    rw [tot, if_neg (h x (by simp)), tot_none fun y hy => h y (by simp [hy])]; omega
/-- Rising rows, no weight of 0, each in its bounds. -/
def Strict : List It → Prop
  | [] => True
  | x :: l => x.2 ≠ 0 ∧ wrp x.2 = x.2 ∧ (∀ y ∈ l, cmpL x.1 y.1 < 0) ∧ Strict l
theorem Strict.tail {x : It} {l : List It} (h : Strict (x :: l)) : Strict l := h.2.2.2
theorem strict_wt {x : It} {l : List It} (h : Strict (x :: l)) : wt (x :: l) x.1 = x.2 := by
  have e : tot x.1 l = 0 := tot_none fun y hy e => by
    have := h.2.2.1 y hy
    rw [e, cmpL_self] at this; omega
  unfold wt
  rw [tot, if_pos rfl, e, Int.add_zero]
  exact h.2.1
theorem strict_wt_lt {l : List It} {r : List Int} (h : ∀ y ∈ l, cmpL r y.1 < 0) : wt l r = 0 := by
  unfold wt
  rw [tot_none fun y hy e => by
    have := h y hy
    rw [e, cmpL_self] at this; omega]
  rfl
theorem strict_wt_tail {x : It} {l : List It} (h : Strict (x :: l)) {r : List Int} : wt l r = if r = x.1 then 0 else wt (x :: l) r := by
  by_cases e : r = x.1
  · rw [if_pos e, e]
    exact strict_wt_lt h.2.2.1
  · rw [if_neg e]
    unfold wt
    rw [tot, if_neg (Ne.symm e), Int.zero_add]
/-- Lists that are rising, with the same weights, are the same. -/
theorem strict_ext : ∀ {a b : List It}, Strict a → Strict b → (∀ r, wt a r = wt b r) → a = b
  | [], [], _, _, _ => rfl
  | [], y :: b, _, hb, h => by
    have := h y.1
    rw [strict_wt hb] at this
    exact absurd this.symm hb.1
  | x :: a, [], ha, _, h => by
    have := h x.1
    rw [strict_wt ha] at this
    exact absurd this ha.1
  | x :: a, y :: b, ha, hb, h => by
    have hxy : cmpL x.1 y.1 = 0 := by
      rcases cmpL_range x.1 y.1 with e | e | e
      · have h1 := h x.1
        rw [strict_wt ha, strict_wt_lt (fun z hz => by
          rcases List.mem_cons.1 hz with e1 | e1
          · rw [e1]; omega
          · exact cmpL_lt_le (by omega) (Int.le_of_lt (hb.2.2.1 z e1)))] at h1
        exact absurd h1 ha.1
      · exact e
      · have h1 := h y.1
        have := cmpL_neg x.1 y.1
        rw [strict_wt hb, strict_wt_lt (fun z hz => by
          rcases List.mem_cons.1 hz with e1 | e1
          · rw [e1]; omega
          · exact cmpL_lt_le (by omega) (Int.le_of_lt (ha.2.2.1 z e1)))] at h1
        exact absurd h1.symm hb.1
    have e1 := cmpL_eq _ _ hxy
    have e2 : x.2 = y.2 := by
      have := h x.1
      rw [strict_wt ha, e1, strict_wt hb] at this
      exact this
    have e3 : x = y := Prod.ext e1 e2
    subst e3
    rw [strict_ext ha.tail hb.tail fun r => by rw [strict_wt_tail ha, strict_wt_tail hb, h r]]
/-! The one list: what zset.Sum tells. -/
def grpL : Nat → List It → List It
  | 0, _ => []
  | _ + 1, [] => []
  | n + 1, x :: l => let r := x.1; let m := wt (x :: l) r; let rest := grpL n (l.filter (fun y => decide (y.1 ≠ r))); if m = 0 then rest else (r, m) :: rest
/-- Of a list: each row with its weight, in order. -/
def sumL (l : List It) : List It := grpL (l.length + 1) (l.mergeSort (fun x y => !itLt y x))
theorem tot_filter {r q : List Int} (h : q ≠ r) : ∀ l : List It, tot q (l.filter (fun y => decide (y.1 ≠ r))) = tot q l
  | [] => rfl
  | x :: l => by
    rw [List.filter_cons]
    by_cases e : x.1 = r
    · rw [if_neg (by simp [e]), tot_filter h l, tot, if_neg (by rw [e]; exact Ne.symm h)]; omega
    · rw [if_pos (by simp [e]), tot, tot, tot_filter h l]
theorem grpL_mem : ∀ n (l : List It) (z : It), z ∈ grpL n l → ∃ y ∈ l, y.1 = z.1
  | 0, l, z, h => by simp [grpL] at h
  | n + 1, [], z, h => by simp [grpL] at h
  | n + 1, x :: l, z, h => by
    simp only [grpL] at h
    have rest : z ∈ grpL n (l.filter (fun y => decide (y.1 ≠ x.1))) → ∃ y ∈ x :: l, y.1 = z.1 := fun h => by
      obtain ⟨y, hy, e⟩ := grpL_mem n _ z h
      exact ⟨y, by simp [(List.mem_filter.1 hy).1], e⟩
    split at h
    · exact rest h
    · rcases List.mem_cons.1 h with e | e
      · exact ⟨x, by simp, by rw [e]⟩
      · exact rest e
theorem grpL_law : ∀ n (l : List It), l.length < n → l.Pairwise (fun x y => cmpL x.1 y.1 ≤ 0) → Strict (grpL n l) ∧ ∀ r, wt (grpL n l) r = wt l r
  | 0, l, h, _ => by omega
  | n + 1, [], _, _ => ⟨trivial, fun r => rfl⟩
  | n + 1, x :: l, h, hp => by
    have hlen := List.length_filter_le (fun y : It => decide (y.1 ≠ x.1)) l
    simp only [List.length_cons] at h
    obtain ⟨i1, i2⟩ := grpL_law n (l.filter (fun y => decide (y.1 ≠ x.1))) (by omega) ((List.pairwise_cons.1 hp).2.filter _)
    have hlt : ∀ y ∈ grpL n (l.filter (fun y => decide (y.1 ≠ x.1))), cmpL x.1 y.1 < 0 := fun y hy => by
      obtain ⟨z, hz, e⟩ := grpL_mem _ _ _ hy
      obtain ⟨hz1, hz2⟩ := List.mem_filter.1 hz
      have h1 := (List.pairwise_cons.1 hp).1 z hz1
      have h2 : cmpL x.1 z.1 ≠ 0 := fun e => (by simpa using hz2 : z.1 ≠ x.1) (cmpL_eq _ _ e).symm
      rw [← e]; omega
    have hx : ∀ r, r ≠ x.1 → wt (l.filter (fun y => decide (y.1 ≠ x.1))) r = wt (x :: l) r := fun r hr => by
      unfold wt; rw [tot_filter hr, tot, if_neg (Ne.symm hr), Int.zero_add]
    simp only [grpL]
    by_cases e : wt (x :: l) x.1 = 0
    · rw [if_pos e]
      refine ⟨i1, fun r => ?_⟩
      by_cases hr : r = x.1
      · rw [hr, e]; exact strict_wt_lt hlt
      · rw [i2 r, hx r hr]
    · rw [if_neg e]
      refine ⟨⟨e, wrp_wrp _, hlt, i1⟩, fun r => ?_⟩
      by_cases hr : r = x.1
      · rw [hr]; exact strict_wt ⟨e, wrp_wrp _, hlt, i1⟩
      · rw [← hx r hr, ← i2 r]
        unfold wt
        rw [tot, if_neg (Ne.symm hr), Int.zero_add]
theorem sumL_law (l : List It) : Strict (sumL l) ∧ ∀ r, wt (sumL l) r = wt l r := by
  have hs := List.pairwise_mergeSort (le := fun x y : It => !itLt y x) (fun a b c h1 h2 => by
      simp only [Bool.not_eq_true', itLt] at *
      exact swo_le swo_it (x := a) (y := b) (z := c) h1 h2) (fun a b => by
      cases h : itLt b a
      · simp
      · simp [swo_lt_le swo_it h]) l
  obtain ⟨h1, h2⟩ := grpL_law (l.length + 1) (l.mergeSort (fun x y => !itLt y x)) (by simp) (hs.imp fun {a b} h => by
    simp only [Bool.not_eq_true', itLt, decide_eq_false_iff_not] at h
    have := cmpL_neg a.1 b.1
    omega)
  exact ⟨h1, fun r => by unfold sumL; rw [h2 r]; unfold wt; rw [tot_perm (List.mergeSort_perm _ _)]⟩
theorem sumL_eq {l S : List It} (h : Strict S) (hw : ∀ r, wt S r = wt l r) : S = sumL l := strict_ext h (sumL_law l).1 fun r => by rw [hw r, (sumL_law l).2 r]
theorem sumL_wt {a b : List It} (h : ∀ r, wt a r = wt b r) : sumL a = sumL b := sumL_eq (sumL_law a).1 fun r => by rw [(sumL_law a).2 r, h r]
theorem sumL_app_sumL (a b : List It) : sumL (sumL a ++ b) = sumL (a ++ b) := sumL_wt fun r => by
  unfold wt; rw [tot_app, tot_app, ← wrp_add, ← wrp_add (tot r a)]
  have := (sumL_law a).2 r
  unfold wt at this
  rw [this]
theorem sumL_comm (a b : List It) : sumL (a ++ b) = sumL (b ++ a) := sumL_wt fun r => by unfold wt; rw [tot_app, tot_app, Int.add_comm]
end Go.Proofs.YtamlaeocojcgdaaDoor
/- Sets with weights: what a right set is; what Norm, Add, Neg tell. No program in sight. -/
namespace Go.Proofs.YtamlaeocojcgdaaDoor
set_option linter.unusedVariables false

def farB (n : Int) : Bool := decide (n < -1048576) || decide (1048576 < n)
def outB (n : Int) : Bool := decide (n < -1073741824) || decide (1073741824 < n)
def rowB (r : List Int) : Bool := decide (r.length ≤ 8) && !r.any outB
def badB (x : It) : Bool := !rowB x.1 || farB x.2
/-- Is the i-th item of a list wrong? -/
def zbadAt (L : List It) : Nat → Bool
  | 0 => match L[0]? with | none => false | some x => badB x || decide (x.2 = 0)
  | k + 1 => match L[k]?, L[k + 1]? with | some y, some x => (badB x || decide (x.2 = 0)) || decide (0 ≤ cmpL y.1 x.1) | _, _ => false
def setI (L : List It) : Int := if 400 < L.length then 2 else if (List.range L.length).any (zbadAt L) = true then 5 else 0
theorem badAt_zero {L : List It} (h : 0 < L.length) : zbadAt L 0 = (badB L[0] || decide (L[0].2 = 0)) := by
  rw [zbadAt, List.getElem?_eq_getElem h]
theorem badAt_succ {L : List It} {k : Nat} (h : k + 1 < L.length) : zbadAt L (k + 1) = ((badB L[k + 1] || decide (L[k + 1].2 = 0)) || decide (0 ≤ cmpL L[k].1 L[k + 1].1)) := by
  rw [zbadAt, List.getElem?_eq_getElem h, List.getElem?_eq_getElem (show k < L.length by omega)]

theorem badB_false {x : It} (h : badB x = false) : x.1.length ≤ 8 ∧ -1048576 ≤ x.2 ∧ x.2 ≤ 1048576 := by
  unfold badB rowB farB at h
  simp only [Bool.or_eq_false_iff, Bool.not_eq_false', Bool.and_eq_true, decide_eq_true_eq, decide_eq_false_iff_not] at h
  omega
theorem rise_trans {L : List It} (h : ∀ k, (hk : k + 1 < L.length) → cmpL L[k].1 L[k + 1].1 < 0) : ∀ (d i : Nat) (hd : i + d + 1 < L.length), cmpL L[i].1 L[i + d + 1].1 < 0
  | 0, i, hd => h i hd
  | d + 1, i, hd => cmpL_lt_le (rise_trans h d i (by omega)) (Int.le_of_lt (h (i + d + 1) hd))
theorem strict_of : ∀ {L : List It}, (∀ x ∈ L, x.2 ≠ 0 ∧ wrp x.2 = x.2) → L.Pairwise (fun x y => cmpL x.1 y.1 < 0) → Strict L
  | [], _, _ => trivial
  | x :: L, h, hp => ⟨(h x (by simp)).1, (h x (by simp)).2, fun y hy => (List.pairwise_cons.1 hp).1 y hy, strict_of (fun y hy => h y (by simp [hy])) (List.pairwise_cons.1 hp).2⟩
theorem strict_pair : ∀ {L : List It}, Strict L → L.Pairwise (fun x y => cmpL x.1 y.1 < 0)
  | [], _ => List.Pairwise.nil
  | x :: L, h => List.pairwise_cons.2 ⟨fun y hy => h.2.2.1 y hy, strict_pair h.2.2.2⟩
theorem strict_ne : ∀ {L : List It}, Strict L → ∀ x ∈ L, x.2 ≠ 0
  | x :: L, h, y, hy => by
    rcases List.mem_cons.1 hy with e | e
    · rw [e]; exact h.1
    · exact strict_ne h.2.2.2 y e
/-- A right set. -/
theorem setI_zero {L : List It} : setI L = 0 ↔ L.length ≤ 400 ∧ (∀ x ∈ L, badB x = false) ∧ Strict L := by
  unfold setI
  constructor
  · intro h
    by_cases h4 : 400 < L.length
    · rw [if_pos h4] at h; omega
    · rw [if_neg h4] at h
      by_cases hb : (List.range L.length).any (zbadAt L) = true
      · rw [if_pos hb] at h; omega
      · have hno : ∀ i, i < L.length → zbadAt L i = false := fun i hi => by
          cases hq : zbadAt L i
          · rfl
          · exact absurd (List.any_eq_true.2 ⟨i, List.mem_range.2 hi, hq⟩) hb
        have hx : ∀ i, (hi : i < L.length) → badB L[i] = false ∧ L[i].2 ≠ 0 := fun i hi => by
          have := hno i hi
          cases i with
          | zero => rw [badAt_zero hi] at this; simpa using this
          | succ k => rw [badAt_succ hi] at this; simp at this; exact ⟨this.1.1, this.1.2⟩
        have hr : ∀ k, (hk : k + 1 < L.length) → cmpL L[k].1 L[k + 1].1 < 0 := fun k hk => by
          have := hno (k + 1) hk
          rw [badAt_succ hk] at this; simp at this; exact this.2
        have hb' : ∀ x ∈ L, badB x = false := fun x hxm => by
          obtain ⟨i, hi, rfl⟩ := List.getElem_of_mem hxm
          exact (hx i hi).1
        refine ⟨by omega, hb', strict_of (fun x hxm => ?_) (List.pairwise_iff_getElem.2 fun i j hi hj hij => ?_)⟩
        · obtain ⟨i, hi, rfl⟩ := List.getElem_of_mem hxm
          refine ⟨(hx i hi).2, wrp_id ?_⟩
          have := badB_false (hx i hi).1
          omega
        · have := rise_trans hr (j - i - 1) i (by omega)
          simpa [show i + (j - i - 1) + 1 = j by omega] using this
  · rintro ⟨h1, h2, h3⟩
    rw [if_neg (by omega), if_neg]
    intro hb
    obtain ⟨i, hi, e⟩ := List.any_eq_true.1 hb
    have hi' := List.mem_range.1 hi
    have hp := strict_pair h3
    cases i with
    | zero => rw [badAt_zero hi', h2 _ (List.getElem_mem hi')] at e; simp at e; exact strict_ne h3 _ (List.getElem_mem hi') e
    | succ k =>
      rw [badAt_succ hi', h2 _ (List.getElem_mem hi')] at e
      have hq := List.pairwise_iff_getElem.1 hp k (k + 1) (by omega) hi' (by omega)
      simp at e
      rcases e with e | e
      · exact strict_ne h3 _ (List.getElem_mem hi') e
      · omega
/-- What is wrong with a sum. -/
def doneE (S : List It) : Int := if S.any badB = true then 5 else if 400 < S.length then 2 else 0
theorem doneE_zero {S : List It} : doneE S = 0 ↔ S.length ≤ 400 ∧ ∀ x ∈ S, badB x = false := by
  unfold doneE
  constructor
  · intro h
    by_cases hb : S.any badB = true
    · rw [if_pos hb] at h; omega
    · rw [if_neg hb] at h
      by_cases h4 : 400 < S.length
      · rw [if_pos h4] at h; omega
      · refine ⟨by omega, fun x hx => ?_⟩
        cases hq : badB x
        · rfl
        · exact absurd (List.any_eq_true.2 ⟨x, hx, hq⟩) hb
  · rintro ⟨h1, h2⟩
    rw [if_neg, if_neg (by omega)]
    intro hb
    obtain ⟨x, hx, e⟩ := List.any_eq_true.1 hb
    rw [h2 x hx] at e; cases e
/-- A sum that is done is a right set. -/
theorem done_set {l : List It} (h : doneE (sumL l) = 0) : setI (sumL l) = 0 := by
  obtain ⟨h1, h2⟩ := doneE_zero.1 h
  exact setI_zero.2 ⟨h1, h2, (sumL_law l).1⟩
def addE (a b : List It) : Int := if setI a ≠ 0 then setI a else if setI b ≠ 0 then setI b else doneE (sumL (a ++ b))
def addX (a b : List It) : List It := if addE a b = 0 then sumL (a ++ b) else []
end Go.Proofs.YtamlaeocojcgdaaDoor
/- Sets with weights: what is linear in them. No program in sight. -/
namespace Go.Proofs.YtamlaeocojcgdaaDoor
set_option linter.unusedVariables false
set_option linter.unusedSimpArgs false

abbrev M64 : Int := 18446744073709551616
theorem wrp_dvd {a b : Int} : wrp a = wrp b ↔ M64 ∣ a - b := by
  simp only [wrp, IntKind.wrap_i64, M64]
  omega
theorem wt_app {a b c d : List It} (h1 : ∀ r, wt a r = wt c r) (h2 : ∀ r, wt b r = wt d r) : ∀ r, wt (a ++ b) r = wt (c ++ d) r := fun r => by
  unfold wt at *
  rw [tot_app, tot_app, wrp_dvd]
  have e1 := wrp_dvd.1 (h1 r)
  have e2 := wrp_dvd.1 (h2 r)
  have : tot r a + tot r b - (tot r c + tot r d) = (tot r a - tot r c) + (tot r b - tot r d) := by omega
  rw [this]
  exact Int.dvd_add e1 e2
theorem wt_sumL (l : List It) : ∀ r, wt (sumL l) r = wt l r := (sumL_law l).2
end Go.Proofs.YtamlaeocojcgdaaDoor
/- Queries over sets with weights: what query.Check and plain.All tell. No program in sight. -/
namespace Go.Proofs.YtamlaeocojcgdaaDoor
set_option linter.unusedVariables false
set_option linter.unusedSimpArgs false

/-- A step of a query. -/
structure St where
  kind : Int
  a : Int
  b : Int
  col : Int
  op : Int
  val : Int
  list : List Int
instance : Inhabited St := ⟨⟨0, 0, 0, 0, 0, 0, []⟩⟩
def wiB (n lo hi : Int) : Bool := decide (lo ≤ n) && decide (n ≤ hi)
theorem wiB_iff {n lo hi : Int} : wiB n lo hi = true ↔ lo ≤ n ∧ n ≤ hi := by unfold wiB; simp
def twoB (s : St) : Bool := s.kind == 4 || (s.kind == 5 || s.kind == 6)
def noneB (s : St) : Bool := s.col == 0 && (s.op == 0 && s.val == 0)
def ofW (s : St) (a b : Int) : Int :=
  if s.kind = 2 then (if (wiB s.col 0 (a - 1) && (wiB s.op 1 3 && wiB s.val (-1073741824) 1073741824)) = true then a else 0)
  else if s.kind = 3 then (if (noneB s && (decide (s.list.length ≤ 8) && !s.list.any (fun n => !wiB n 0 (a - 1)))) = true then (s.list.length : Int) else 0)
  else if s.kind = 4 then (if (wiB s.col 0 (a - 1) && (s.op == 0 && (wiB s.val 0 (b - 1) && decide (a + b ≤ 8)))) = true then a + b else 0)
  else if s.kind = 5 ∨ s.kind = 6 then (if (noneB s && a == b) = true then a else 0)
  else if s.kind = 7 then (if noneB s = true then a else 0)
  else if s.kind = 8 then (if (wiB s.col 0 (a - 1) && (s.op == 0 && s.val == 0)) = true then 2 else 0)
  else if s.kind = 9 then (if (wiB s.col 0 (a - 1) && (s.op == 0 && wiB s.val 0 (a - 1))) = true then 2 else 0)
  else 0
def tblB (s : St) : Bool := wiB s.a 0 1 && (s.b == 0 && (s.col == 0 && (s.op == 0 && (s.val == 0 && s.list.length == 0))))
def badStep (s : St) (last : Int) : Bool := !wiB s.a 0 last || (twoB s && !wiB s.b 0 last || (!twoB s && s.b != 0 || (decide (0 < s.list.length) != (s.kind == 3))))
def stW (s : St) (W : List Int) : Int :=
  if s.kind = 1 then (if tblB s = true then 4 else 0)
  else if badStep s ((W.length : Int) - 1) = true then 0
  else ofW s (W.getD s.a.toNat 0) (W.getD s.b.toNat 0)
/-- Widths of all steps. -/
def widsL : List St → List Int → Option (List Int)
  | [], W => some W
  | s :: q, W => if stW s W = 0 then none else widsL q (W ++ [stW s W])
def queryE (q : List St) : Int := if q.length = 0 then 1 else if 8 < q.length then 2 else if widsL q [] = none then 1 else 0
def queryW (q : List St) : List Int := if queryE q = 0 then (widsL q []).getD [] else []
theorem queryE_zero {q : List St} : queryE q = 0 ↔ 0 < q.length ∧ q.length ≤ 8 ∧ ∃ W, widsL q [] = some W := by
  unfold queryE
  constructor
  · intro h
    by_cases h1 : q.length = 0
    · rw [if_pos h1] at h; omega
    · rw [if_neg h1] at h
      by_cases h2 : 8 < q.length
      · rw [if_pos h2] at h; omega
      · rw [if_neg h2] at h
        by_cases h3 : widsL q [] = none
        · rw [if_pos h3] at h; omega
        · exact ⟨by omega, by omega, Option.ne_none_iff_exists'.1 h3⟩
  · rintro ⟨h1, h2, W, h3⟩
    rw [if_neg (by omega), if_neg (by omega), if_neg (by rw [h3]; simp)]
/-- What a right step's numbers are. -/
def StOk (s : St) (W : List Int) : Prop :=
  (s.kind = 1 ∧ (s.a = 0 ∨ s.a = 1)) ∨
  (0 ≤ s.a ∧ s.a < W.length ∧ 0 ≤ s.b ∧ s.b < W.length ∧
    ((s.kind = 2 ∧ 0 ≤ s.col ∧ s.col < W.getD s.a.toNat 0) ∨
     (s.kind = 3 ∧ s.list.length ≤ 8 ∧ ∀ n ∈ s.list, 0 ≤ n ∧ n < W.getD s.a.toNat 0) ∨
     (s.kind = 4 ∧ 0 ≤ s.col ∧ s.col < W.getD s.a.toNat 0 ∧ 0 ≤ s.val ∧ s.val < W.getD s.b.toNat 0 ∧ W.getD s.a.toNat 0 + W.getD s.b.toNat 0 ≤ 8) ∨
     ((s.kind = 5 ∨ s.kind = 6) ∧ W.getD s.a.toNat 0 = W.getD s.b.toNat 0) ∨
     s.kind = 7 ∨
     (s.kind = 8 ∧ 0 ≤ s.col ∧ s.col < W.getD s.a.toNat 0) ∨
     (s.kind = 9 ∧ 0 ≤ s.col ∧ s.col < W.getD s.a.toNat 0 ∧ 0 ≤ s.val ∧ s.val < W.getD s.a.toNat 0)))
theorem stW_ok {s : St} {W : List Int} (h : stW s W ≠ 0) : StOk s W := by
  unfold stW at h
  unfold StOk
  by_cases h1 : s.kind = 1
  · rw [if_pos h1] at h
    by_cases h2 : tblB s = true
    · unfold tblB at h2
      simp only [Bool.and_eq_true, wiB_iff] at h2
      left; exact ⟨h1, by omega⟩
    · rw [if_neg h2] at h; exact absurd rfl h
  · rw [if_neg h1] at h
    by_cases h2 : badStep s ((W.length : Int) - 1) = true
    · rw [if_pos h2] at h; exact absurd rfl h
    · rw [if_neg h2] at h
      unfold badStep at h2
      simp only [Bool.or_eq_true, Bool.and_eq_true, Bool.not_eq_true', not_or, not_and, Bool.not_eq_false, Bool.not_eq_true, wiB_iff, bne_iff_ne, ne_eq, Decidable.not_not] at h2
      obtain ⟨q1, q2, q3, q4⟩ := h2
      right
      have hb : 0 ≤ s.b ∧ s.b < W.length := by
        cases e : twoB s
        · have := q3 e; omega
        · have := q2 e; omega
      refine ⟨by omega, by omega, hb.1, hb.2, ?_⟩
      unfold ofW noneB at h
      generalize W.getD s.a.toNat 0 = x at *
      generalize W.getD s.b.toNat 0 = y at *
      split at h
      · rename_i e
        left
        split at h
        · rename_i e2
          simp only [Bool.and_eq_true, wiB_iff] at e2
          exact ⟨e, by omega, by omega⟩
        · exact absurd rfl h
      · split at h
        · rename_i e
          right; left
          split at h
          · rename_i e2
            simp only [Bool.and_eq_true, decide_eq_true_eq, Bool.not_eq_true', List.any_eq_false, Bool.not_eq_false, wiB_iff] at e2
            exact ⟨e, e2.2.1, fun n hn => by have := e2.2.2 n hn; omega⟩
          · exact absurd rfl h
        · split at h
          · rename_i e
            right; right; left
            split at h
            · rename_i e2
              simp only [Bool.and_eq_true, decide_eq_true_eq, wiB_iff] at e2
              exact ⟨e, by omega, by omega, by omega, by omega, by omega⟩
            · exact absurd rfl h
          · split at h
            · rename_i e
              right; right; right; left
              split at h
              · rename_i e2
                simp only [Bool.and_eq_true, beq_iff_eq] at e2
                exact ⟨e, e2.2⟩
              · exact absurd rfl h
            · split at h
              · rename_i e
                exact .inr (.inr (.inr (.inr (.inl e))))
              · split at h
                · rename_i e
                  right; right; right; right; right; left
                  split at h
                  · rename_i e2
                    simp only [Bool.and_eq_true, wiB_iff] at e2
                    exact ⟨e, by omega, by omega⟩
                  · exact absurd rfl h
                · split at h
                  · rename_i e
                    right; right; right; right; right; right
                    split at h
                    · rename_i e2
                      simp only [Bool.and_eq_true, wiB_iff] at e2
                      exact ⟨e, by omega, by omega, by omega, by omega⟩
                    · exact absurd rfl h
                  · exact absurd rfl h

/-! what a step makes -/
end Go.Proofs.YtamlaeocojcgdaaDoor
/- Queries as texts: what query.Print and the document say. No program in sight. -/
namespace Go.Proofs.YtamlaeocojcgdaaDoor
set_option linter.unusedVariables false
set_option linter.unusedSimpArgs false

def numT (n : Int) : List UInt8 := 32 :: Go.Lib.itoa n
def signB (op : Int) : List UInt8 := if op = 1 then [60] else if op = 2 then [61] else if op = 3 then [62] else []
def verbB (k : Int) : List UInt8 :=
  if k = 1 then [116, 97, 98, 108, 101] else if k = 2 then [119, 104, 101, 114, 101] else if k = 3 then [112, 105, 99, 107] else if k = 4 then [106, 111, 105, 110]
  else if k = 5 then [117, 110, 105, 111, 110] else if k = 6 then [109, 105, 110, 117, 115] else if k = 7 then [100, 105, 115, 116, 105, 110, 99, 116] else if k = 8 then [99, 111, 117, 110, 116] else if k = 9 then [115, 117, 109] else []
/-- Numbers with commas between them. -/
def tailC : List Int → List UInt8
  | [] => []
  | n :: l => (44 :: Go.Lib.itoa n) ++ tailC l
def commaT : List Int → List UInt8
  | [] => []
  | n :: l => Go.Lib.itoa n ++ tailC l
def argsT (s : St) : List UInt8 :=
  if s.kind = 2 then numT s.col ++ ((32 :: signB s.op) ++ numT s.val) else if s.kind = 3 then (if s.list.length = 0 then [] else 32 :: commaT s.list) else if s.kind = 4 then numT s.b ++ (numT s.col ++ numT s.val)
  else if s.kind = 5 ∨ s.kind = 6 then numT s.b else if s.kind = 8 then numT s.col else if s.kind = 9 then numT s.col ++ numT s.val else []
def stepT (s : St) : List UInt8 := verbB s.kind ++ (numT s.a ++ (argsT s ++ [10]))
def queryT (q : List St) : List UInt8 := q.flatMap stepT
theorem queryT_snoc (q : List St) (s : St) : queryT (q ++ [s]) = queryT q ++ stepT s := by unfold queryT; rw [List.flatMap_append]; simp
/-- Numbers of a step as they may be printed. -/
structure StTx (s : St) : Prop where
  kind : 1 ≤ s.kind ∧ s.kind ≤ 9
  a : 0 ≤ s.a ∧ s.a ≤ 8
  b : 0 ≤ s.b ∧ s.b ≤ 8
  col : 0 ≤ s.col ∧ s.col ≤ 8
  op : 0 ≤ s.op ∧ s.op ≤ 3
  where_ : s.kind = 2 → 1 ≤ s.op
  val : -1073741824 ≤ s.val ∧ s.val ≤ 1073741824
  len : s.list.length ≤ 8
  pick : 0 < s.list.length ↔ s.kind = 3
  list : ∀ n ∈ s.list, 0 ≤ n ∧ n ≤ 8
theorem wiB_out {n lo hi : Int} (h : wiB n lo hi = true) : lo ≤ n ∧ n ≤ hi := wiB_iff.1 h
/-- A step that is right may be printed. -/
theorem stTx_of {s : St} {V : List Int} (hV : ∀ v ∈ V, 0 ≤ v ∧ v ≤ 8) (hl : V.length ≤ 8) (h : stW s V ≠ 0) : StTx s := by
  have hg : ∀ j, 0 ≤ V.getD j 0 ∧ V.getD j 0 ≤ 8 := fun j => by
    by_cases hj : j < V.length
    · rw [List.getD_eq_getElem?_getD, List.getElem?_eq_getElem hj]; exact hV _ (List.getElem_mem hj)
    · rw [List.getD_eq_getElem?_getD, List.getElem?_eq_none (by omega)]; simp
  unfold stW at h
  by_cases k1 : s.kind = 1
  · rw [if_pos k1] at h
    by_cases h2 : tblB s = true
    · unfold tblB at h2
      simp only [Bool.and_eq_true, beq_iff_eq] at h2
      obtain ⟨p1, p2, p3, p4, p5, p6⟩ := h2
      have := wiB_out p1
      have hnil : s.list = [] := List.length_eq_zero_iff.1 p6
      exact ⟨by omega, by omega, by omega, by omega, by omega, by omega, by omega, by omega, by omega, fun n hn => by rw [hnil] at hn; simp at hn⟩
    · rw [if_neg h2] at h; exact absurd rfl h
  · rw [if_neg k1] at h
    by_cases hb : badStep s ((V.length : Int) - 1) = true
    · rw [if_pos hb] at h; exact absurd rfl h
    · rw [if_neg hb] at h
      have ga := hg s.a.toNat
      have gb := hg s.b.toNat
      generalize V.getD s.a.toNat 0 = a at *
      generalize V.getD s.b.toNat 0 = b at *
      unfold badStep at hb
      simp only [Bool.or_eq_true, not_or, Bool.and_eq_true, not_and, Bool.not_eq_true', Bool.not_eq_true, bne_iff_ne, ne_eq, Bool.not_eq_false] at hb
      obtain ⟨b1, b2, b3, b4⟩ := hb
      have ha := wiB_out b1
      have hpk : 0 < s.list.length ↔ s.kind = 3 := by
        have : decide (0 < s.list.length) = (s.kind == 3) := by
          revert b4
          cases decide (0 < s.list.length) <;> cases (s.kind == 3) <;> simp
        constructor
        · intro q; have h9 : (s.kind == 3) = true := by rw [← this]; exact decide_eq_true q
          exact eq_of_beq h9
        · intro q; exact of_decide_eq_true (by rw [this]; simp [q])
      have hbb : 0 ≤ s.b ∧ s.b ≤ 8 := by
        by_cases t : twoB s = true
        · have := wiB_out (b2 t); omega
        · have := b3 (by simpa using t)
          omega
      unfold ofW at h
      by_cases k2 : s.kind = 2
      · rw [if_pos k2] at h
        split at h
        · next q =>
          simp only [Bool.and_eq_true] at q
          have q1 := wiB_out q.1; have q2 := wiB_out q.2.1; have q3 := wiB_out q.2.2
          have hnil : s.list.length = 0 := by omega
          exact ⟨by omega, by omega, hbb, by omega, by omega, fun _ => q2.1, q3, by omega, hpk, fun n hn => by rw [List.length_eq_zero_iff.1 hnil] at hn; simp at hn⟩
        · exact absurd rfl h
      rw [if_neg k2] at h
      by_cases k3 : s.kind = 3
      · rw [if_pos k3] at h
        split at h
        · next q =>
          simp only [Bool.and_eq_true, decide_eq_true_eq, Bool.not_eq_true', noneB, beq_iff_eq] at q
          obtain ⟨⟨z1, z2, z3⟩, z4, z5⟩ := q
          rw [List.any_eq_false] at z5
          exact ⟨by omega, by omega, hbb, by omega, by omega, fun e => by omega, by omega, z4, hpk, fun n hn => by
            have := z5 n hn
            simp only [Bool.not_eq_true, Bool.not_eq_false'] at this
            have := wiB_out this
            omega⟩
        · exact absurd rfl h
      rw [if_neg k3] at h
      have hnil : s.list.length = 0 := by omega
      have hlist : ∀ n ∈ s.list, 0 ≤ n ∧ n ≤ 8 := fun n hn => by rw [List.length_eq_zero_iff.1 hnil] at hn; simp at hn
      by_cases k4 : s.kind = 4
      · rw [if_pos k4] at h
        split at h
        · next q =>
          simp only [Bool.and_eq_true, decide_eq_true_eq, beq_iff_eq] at q
          have q1 := wiB_out q.1; have q3 := wiB_out q.2.2.1
          have q2 := q.2.1
          exact ⟨by omega, by omega, hbb, by omega, by omega, fun e => by omega, by omega, by omega, hpk, hlist⟩
        · exact absurd rfl h
      rw [if_neg k4] at h
      by_cases k5 : s.kind = 5 ∨ s.kind = 6
      · rw [if_pos k5] at h
        split at h
        · next q =>
          simp only [Bool.and_eq_true, decide_eq_true_eq, noneB, beq_iff_eq] at q
          obtain ⟨⟨z1, z2, z3⟩, -⟩ := q
          exact ⟨by omega, by omega, hbb, by omega, by omega, fun e => by omega, by omega, by omega, hpk, hlist⟩
        · exact absurd rfl h
      rw [if_neg k5] at h
      by_cases k7 : s.kind = 7
      · rw [if_pos k7] at h
        split at h
        · next q =>
          simp only [Bool.and_eq_true, decide_eq_true_eq, noneB, beq_iff_eq] at q
          obtain ⟨z1, z2, z3⟩ := q
          exact ⟨by omega, by omega, hbb, by omega, by omega, fun e => by omega, by omega, by omega, hpk, hlist⟩
        · exact absurd rfl h
      rw [if_neg k7] at h
      by_cases k8 : s.kind = 8
      · rw [if_pos k8] at h
        split at h
        · next q =>
          simp only [Bool.and_eq_true, decide_eq_true_eq, beq_iff_eq] at q
          have q1 := wiB_out q.1
          exact ⟨by omega, by omega, hbb, by omega, by omega, fun e => by omega, by omega, by omega, hpk, hlist⟩
        · exact absurd rfl h
      rw [if_neg k8] at h
      by_cases k9 : s.kind = 9
      · rw [if_pos k9] at h
        split at h
        · next q =>
          simp only [Bool.and_eq_true, decide_eq_true_eq, beq_iff_eq] at q
          have q1 := wiB_out q.1; have q3 := wiB_out q.2.2
          exact ⟨by omega, by omega, hbb, by omega, by omega, fun e => by omega, by omega, by omega, hpk, hlist⟩
        · exact absurd rfl h
      rw [if_neg k9] at h
      exact absurd rfl h
/-! lengths -/
theorem itoa21 {n : Int} (h : -1073741824 ≤ n ∧ n ≤ 1073741824) : (Go.Lib.itoa n).length ≤ 21 := Go.Lib.itoa_length_le n (by omega) (by omega)
theorem numT_len {n : Int} (h : -1073741824 ≤ n ∧ n ≤ 1073741824) : (numT n).length ≤ 22 := by
  have := itoa21 h
  unfold numT
  rw [List.length_cons]; omega
theorem tailC_len {l : List Int} (h : ∀ n ∈ l, 0 ≤ n ∧ n ≤ 8) : (tailC l).length ≤ 22 * l.length := by
  induction l with
  | nil => simp [tailC]
  | cons n l ih =>
    have h0 := h n (by simp)
    have h1 := itoa21 (n := n) (by omega)
    have h2 := ih fun m hm => h m (by simp [hm])
    simp only [tailC, List.length_append, List.length_cons]
    omega
theorem commaT_len {l : List Int} (h : ∀ n ∈ l, 0 ≤ n ∧ n ≤ 8) : (commaT l).length ≤ 22 * l.length := by
  cases l with
  | nil => simp [commaT]
  | cons n l =>
    have h0 := h n (by simp)
    have h1 := itoa21 (n := n) (by omega)
    have h2 := tailC_len (l := l) fun m hm => h m (by simp [hm])
    simp only [commaT, List.length_append, List.length_cons]
    omega
theorem verbB_len (k : Int) : (verbB k).length ≤ 8 := by
  unfold verbB
  repeat' split
  all_goals simp
theorem signB_len (k : Int) : (signB k).length ≤ 1 := by
  unfold signB
  repeat' split
  all_goals simp
theorem stepT_len {s : St} (h : StTx s) : (stepT s).length ≤ 240 := by
  have h1 := verbB_len s.kind
  have h2 := numT_len (n := s.a) (by have := h.a; omega)
  have h3 := numT_len (n := s.b) (by have := h.b; omega)
  have h4 := numT_len (n := s.col) (by have := h.col; omega)
  have h5 := numT_len h.val
  have h6 := signB_len s.op
  have h7 := commaT_len h.list
  have h8 := h.len
  have ha : (argsT s).length ≤ 200 := by
    unfold argsT
    repeat' split
    all_goals ((try simp only [List.length_append, List.length_cons, List.length_nil]); omega)
  unfold stepT
  simp only [List.length_append, List.length_cons, List.length_nil]
  omega
theorem queryT_len {q : List St} (h : ∀ s ∈ q, StTx s) : (queryT q).length ≤ 240 * q.length := by
  induction q with
  | nil => simp [queryT]
  | cons s q ih =>
    have h1 := stepT_len (h s (by simp))
    have h2 := ih fun x hx => h x (by simp [hx])
    unfold queryT at h2 ⊢
    rw [List.flatMap_cons, List.length_append, List.length_cons]
    omega
theorem stW_rng {s : St} {V : List Int} (hV : ∀ v ∈ V, 0 ≤ v ∧ v ≤ 8) : 0 ≤ stW s V ∧ stW s V ≤ 8 := by
  have hg : ∀ j, 0 ≤ V.getD j 0 ∧ V.getD j 0 ≤ 8 := fun j => by
    by_cases hj : j < V.length
    · rw [List.getD_eq_getElem?_getD, List.getElem?_eq_getElem hj]; exact hV _ (List.getElem_mem hj)
    · rw [List.getD_eq_getElem?_getD, List.getElem?_eq_none (by omega)]; simp
  have ga := hg s.a.toNat
  have gb := hg s.b.toNat
  unfold stW
  split
  · split <;> omega
  · split
    · omega
    · generalize V.getD s.a.toNat 0 = a at *
      generalize V.getD s.b.toNat 0 = b at *
      unfold ofW
      by_cases k2 : s.kind = 2
      · rw [if_pos k2]; split <;> omega
      rw [if_neg k2]
      by_cases k3 : s.kind = 3
      · rw [if_pos k3]
        split
        · next q =>
          simp only [Bool.and_eq_true, decide_eq_true_eq] at q
          have := q.2.1
          omega
        · omega
      rw [if_neg k3]
      by_cases k4 : s.kind = 4
      · rw [if_pos k4]
        split
        · next q =>
          simp only [Bool.and_eq_true, decide_eq_true_eq] at q
          have := q.2.2.2
          omega
        · omega
      rw [if_neg k4]
      repeat' split
      all_goals omega
theorem stTx_all : ∀ {q : List St} {V W : List Int}, widsL q V = some W → (∀ v ∈ V, 0 ≤ v ∧ v ≤ 8) → V.length + q.length ≤ 8 → ∀ s ∈ q, StTx s
  | [], _, _, _, _, _, s, hs => by simp at hs
  | t :: q, V, W, h, hV, hl, s, hs => by
    rw [widsL] at h
    by_cases e : stW t V = 0
    · rw [if_pos e] at h; cases h
    · rw [if_neg e] at h
      rw [List.length_cons] at hl
      rcases List.mem_cons.1 hs with q1 | q1
      · rw [q1]; exact stTx_of hV (by omega) e
      · refine stTx_all h (fun v hv => ?_) (by rw [List.length_append, List.length_singleton]; omega) s q1
        rcases List.mem_append.1 hv with h1 | h1
        · exact hV v h1
        · rw [List.mem_singleton.1 h1]; exact stW_rng hV
/-- The steps of a right query may be printed. -/
theorem stTx_query {q : List St} (h : queryE q = 0) : q.length ≤ 8 ∧ 0 < q.length ∧ ∀ s ∈ q, StTx s := by
  obtain ⟨h1, h2, W, hW⟩ := queryE_zero.1 h
  exact ⟨h2, h1, stTx_all hW (fun v hv => by simp at hv) (by simp; omega)⟩
end Go.Proofs.YtamlaeocojcgdaaDoor
/- Words of my own for memory: a slice that reads as a list of cells, what is kept below a block, one lexical walk of a region that draws its order over the class 'Below'. No program in sight. -/
namespace Go.Proofs.YtamlaeocojcgdaaDoor
set_option linter.unusedVariables false
open Go.RowKit

theorem hid {p : Prop} (h : p) : Hid p := h

/-- The slice address 'A' leads to the cells 'xs', all below block 'B'. -/
def Row (w : World) (B : Nat) (A : Option Addr) (xs : List Value) : Prop :=
  xs = [] ∨ ∃ b off, A = some ⟨b, off, none⟩ ∧ b < B ∧ ∀ j u, xs[j]? = some u → w.cell? ⟨b, off + j, none⟩ = some u

theorem Row.nil {w : World} {B : Nat} {A : Option Addr} : Row w B A [] := .inl rfl
theorem Row.below {w w' : World} {B C : Nat} {A : Option Addr} {xs : List Value} (h : Row w B A xs) (hb : Below C w w') (hB : B ≤ C) : Row w' B A xs := by
  rcases h with h | ⟨b, off, h1, h2, h3⟩
  · exact .inl h
  · exact .inr ⟨b, off, h1, h2, fun j u hu => (hb.cell (p := ⟨b, off + j, none⟩) (by simp; omega)).trans (h3 j u hu)⟩
theorem Row.more {w : World} {B C : Nat} {A : Option Addr} {xs : List Value} (h : Row w B A xs) (hB : B ≤ C) : Row w C A xs := by
  rcases h with h | ⟨b, off, h1, h2, h3⟩
  · exact .inl h
  · exact .inr ⟨b, off, h1, by omega, h3⟩
theorem Row.at_ {w : World} {B : Nat} {A : Option Addr} {xs : List Value} (h : Row w B A xs) {k : Nat} (hk : k < xs.length) :
    ∃ b off, A = some ⟨b, off, none⟩ ∧ b < B ∧ ∀ j u, xs[j]? = some u → w.cell? ⟨b, off + j, none⟩ = some u := by
  rcases h with h | h
  · subst h; simp at hk
  · exact h

/-- What was there when the call began is there in a later world that kept all that was there after one new block more. -/
theorem Row.later {w wr : World} {A : Option Addr} {xs : List Value} {o : Obj} (h : Row w w.heap.size A xs) (hb : Below (w.heap.size + 1) (w.alloc o) wr) : Row wr w.heap.size A xs :=
  (h.below (Below.alloc (Below.refl _ _) (Nat.le_refl _) _) (Nat.le_refl _)).below (hb.mono (Nat.le_succ _)) (Nat.le_refl _)
theorem bcell {B : Nat} {W w1 : World} (hb : Below B W w1) :
    (∀ b o, b < B → w1.cell? ⟨b, o, none⟩ = W.cell? ⟨b, o, none⟩) ∧ (∀ b o, b < B → w1.frozen? ⟨b, o, none⟩ = W.frozen? ⟨b, o, none⟩) :=
  ⟨fun b o h => hb.cell (p := ⟨b, o, none⟩) h, fun b o h => hb.frozen (p := ⟨b, o, none⟩) h⟩

/-- A world that is 'W' below 'B'. -/
structure Ext (B : Nat) (W : World) where
  w : World
  below : Below B W w

theorem ext_below {B : Nat} {W w' : World} (h : ∃ x : Ext B W, w' = x.w) : Below B W w' := by
  obtain ⟨x, rfl⟩ := h
  exact x.below

instance (B : Nat) (W : World) : Nonempty (Ext B W) := ⟨⟨W, Below.refl _ _⟩⟩

/-- A region that draws its order, its operations quiet in the class of the worlds that are as this one below its own size: the order of the text serves. -/
theorem region_ext {P : Program} {id : Nat} {Q : Exit → Act → World → Prop} {a : Act} {w : World} {l : List Oper}
    (hm : P.follows .mixedOrders = true) (hB : Region.lexB .any l.toArray = true)
    (h : (∀ (x : Ext w.heap.size w) b o, b < w.heap.size → x.w.cell? ⟨b, o, none⟩ = w.cell? ⟨b, o, none⟩) →
      wpQuiet P l.toArray (fun w' => ∃ x : Ext w.heap.size w, w' = x.w) (fun a' => ∀ w', (∃ x : Ext w.heap.size w, w' = x.w) → Q .normal a' w') l a) : (Code.region id l.toArray true).wp P Q a w :=
  wp_region_quiet (C := fun w' => ∃ x : Ext w.heap.size w, w' = x.w) hm hB ⟨⟨w.drew, (Below.refl _ _).drew⟩, rfl⟩ (by simpa using h fun x b o hb => x.below.cell (p := ⟨b, o, none⟩) hb)

theorem ext_call {P : Program} {f : FuncId} {args : Array Value} {B : Nat} {W : World} {v : Value} (x : Ext B W) (hB : B ≤ W.heap.size)
    (h : Calls P f args x.w fun e w' => e = .returned v ∧ Below x.w.heap.size x.w w') : Calls P f args x.w fun e w'' => e = .returned v ∧ ∃ y : Ext B W, w'' = y.w :=
  h.mono fun _ w' ⟨he, hb⟩ => ⟨he, ⟨w', x.below.trans (hb.mono (Nat.le_trans hB x.below.size))⟩, rfl⟩

theorem ret_bool {a b : Bool} (h : a = b) : Ending.returned (.bool a) = .returned (.bool b) := by rw [h]
theorem ret_int {k : IntKind} {a b : Int} (h : a = b) : Ending.returned (.int k a) = .returned (.int k b) := by rw [h]

theorem below_drewN {B : Nat} {W w : World} (h : Below B W w) (n : Nat) : Below B W (w.drewN n) := ⟨h.os, h.tape, h.output, h.size, h.block⟩

end Go.Proofs.YtamlaeocojcgdaaDoor
/- Words for memory, the second: a block known whole ('Blk'), facts of an anchor world carried to a later one. No program in sight. -/
namespace Go.Proofs.YtamlaeocojcgdaaDoor
set_option linter.unusedVariables false
open Go.RowKit

/-- Block b of w is cs, of type T, and may be written. -/
def Blk (w : World) (b : Nat) (cs : Array Value) (T : TypeId) : Prop := w.heap[b]? = some (.cells cs T (0, 0))

theorem Blk.lt {w : World} {b : Nat} {cs : Array Value} {T : TypeId} (h : Blk w b cs T) : b < w.heap.size := by
  rcases Nat.lt_or_ge b w.heap.size with h1 | h1
  · exact h1
  · unfold Blk at h; rw [Array.getElem?_eq_none h1] at h; cases h
theorem Blk.cells {w : World} {b : Nat} {cs : Array Value} {T : TypeId} (h : Blk w b cs T) : (∀ j, w.cell? ⟨b, j, none⟩ = cs[j]?) ∧ (∀ j, w.frozen? ⟨b, j, none⟩ = false) :=
  ⟨fun j => cell_of_row w b j _ _ _ h, fun j => frozen_of_row w b j _ _ h⟩
theorem Blk.thru {B : Nat} {w w' : World} {b : Nat} {cs : Array Value} {T : TypeId} (h : Blk w b cs T) (hb : Below B w w') (hlt : b < B) : Blk w' b cs T := (hb.block b hlt).trans h
theorem Blk.step {w w' : World} {b : Nat} {cs : Array Value} {T : TypeId} (h : Blk w b cs T) (hb : Below w.heap.size w w') : Blk w' b cs T := h.thru hb h.lt
theorem Blk.alloc {w : World} {b : Nat} {cs : Array Value} {T : TypeId} (h : Blk w b cs T) (o : Obj) : Blk (w.alloc o) b cs T := (Below.heap_alloc w o b h.lt).trans h
theorem Blk.drew {w : World} {b : Nat} {cs : Array Value} {T : TypeId} (h : Blk w b cs T) : Blk w.drew b cs T := h
theorem Blk.drewN {w : World} {b : Nat} {cs : Array Value} {T : TypeId} (h : Blk w b cs T) (n : Nat) : Blk (w.drewN n) b cs T := h
theorem Blk.new (w : World) (cs : Array Value) (T : TypeId) : Blk (w.alloc (.cells cs T)) w.heap.size cs T := heap_alloc_new w _
theorem Blk.new' (w : World) (cs : Array Value) (T : TypeId) {b : Nat} (h : b = w.heap.size) : Blk (w.alloc (.cells cs T)) b cs T := by subst h; exact heap_alloc_new w _
theorem Blk.set {w : World} {b : Nat} {cs : Array Value} {T : TypeId} (h : Blk w b cs T) (i : Nat) (v : Value) : Blk (w.setCell ⟨b, i, none⟩ v) b (cs.setIfInBounds i v) T := heap_setCell_same w b i cs T v h
theorem Blk.other {w : World} {b : Nat} {cs : Array Value} {T : TypeId} (h : Blk w b cs T) {a : Addr} (hne : b ≠ a.block) (v : Value) : Blk (w.setCell a v) b cs T := (Below.heap_setCell w a v b hne).trans h
theorem Blk.grown {w w' : World} {b : Nat} {cs : Array Value} {T : TypeId} {row : Option Nat} (h : Blk w b cs T) (hg : w.grownBy w' row) (hne : some b ≠ row) : Blk w' b cs T := (hg.block b h.lt hne).trans h
theorem Blk.eq {w : World} {b : Nat} {cs ds : Array Value} {T : TypeId} (h : Blk w b cs T) (e : cs = ds) : Blk w b ds T := e ▸ h

/-- All that the walk wants of a block that it knows whole. -/
theorem Blk.all {w : World} {b : Nat} {cs : Array Value} {T : TypeId} (h : Blk w b cs T) : (∀ j, w.cell? ⟨b, j, none⟩ = cs[j]?) ∧ (∀ j, w.frozen? ⟨b, j, none⟩ = false) ∧ b < w.heap.size ∧ ((b = w.heap.size) = False) :=
  ⟨h.cells.1, h.cells.2, h.lt, eq_false (Nat.ne_of_lt h.lt)⟩

theorem Below.step {B : Nat} {a b c : World} (h : Below B a b) (hB : B ≤ b.heap.size) (k : Below b.heap.size b c) : Below B a c := h.trans (k.mono hB)
theorem Below.step' {a b c : World} (h : Below a.heap.size a b) (k : Below b.heap.size b c) : Below a.heap.size a c := h.trans (k.mono h.size)
theorem Row.step {w w' : World} {A : Option Addr} {xs : List Value} (h : Row w w.heap.size A xs) (hb : Below w.heap.size w w') : Row w' w'.heap.size A xs := (h.below hb (Nat.le_refl _)).more hb.size
end Go.Proofs.YtamlaeocojcgdaaDoor
