/- Dots, Once, DotU, TCtx, TPut, TDel, TabR, EqCel, RDel -/
import Derived.Test.YtmcdaibdpeeefaaGreatCk07
import Derived.Test.YtmcdaibdpeeefaaGreatCk06
import Derived.Test.YtmcdaibdpeeefaaGreatCk01
import Derived.Test.YtmcdaibdpeeefaaGreatCk05
import Derived.Deep.CutBlock
import Derived.Deep.CutRange
import Derived.Laws.Tables
/- table.dots, the predicates handed to it, table.context; the plain law of a context of some dots. -/
namespace Go.Proofs.YtmcdaibdpeeefaaGreat
set_option linter.unusedVariables false
open Go.ChangeShapes Go.WideShapes Go.ChangeAt Go.RowKit

abbrev celv (x : Cel) : Value := .agg #[.int .i64 x.d.1, .int .i64 x.d.2, .int .i64 x.key, .int .i64 x.col, .int .i64 x.val]
def PredT (g : Nat) (caps : Array Value) (p : Cel → Bool) (l : List Cel) (w : World) : Prop :=
  ∀ w', Below w.heap.size w w' → ∀ x ∈ l, Calls Tryz.prog g (#[celv x] ++ caps) w' fun e w'' => e = .returned (.bool (p x)) ∧ Below w'.heap.size w' w''

set_option maxHeartbeats 2000000 in
set_option maxRecDepth 100000 in
theorem dots_any (t : Tab) (g : Nat) (caps : Array Value) (p : Cel → Bool) (A : Option Addr) (k : Nat) (B : Option Addr) (m : Nat) (w : World) (rb : Row w w.heap.size B (tcells t.cells)) (lb : t.cells.length ≤ 4398046511104)
    (eg : ∀ args w, (callFunc g args).run Tryz.prog w = .ok (.enter g args) w) (hp : PredT g caps p t.cells w) :
    Calls Tryz.prog 28 #[tval t A k B m, .func (.func g) #[] caps] w (DotsPost ((t.cells.filter p).map Cel.d) w) := by
  have RB := hid (fun w1 (hb : Below w.heap.size w w1) => rb.step hb)
  have HP := hid hp
  clear rb hp
  obtain ⟨⟨c0, c1, c2, c3, cl⟩, l⟩ := t
  obtain ⟨i0, hi0, hz0, hz1, hz2⟩ := info_parts info_dot
  simp only [tval] at *
  obtain ⟨V, hV⟩ : ∃ V, V = (l.filter p).map Cel.d := ⟨_, rfl⟩
  rw [← hV]
  have HV := hid hV
  clear hV
  go_enter Tryz.func28, Tryz.ntmps28
  go_wp2
  obtain ⟨W2, hW2⟩ : ∃ W2 : World, W2 = w.alloc (.cells #[.int .i64 c0, .int .i64 c1, .int .i64 c2, .int .i64 c3, .slice A cl.length k, .slice B l.length m] 28) := ⟨_, rfl⟩
  rw [← hW2]
  have HB2 := hid (show Below w.heap.size w W2 by rw [hW2]; (repeat' (first | (with_reducible exact Below.refl _ _) | (with_reducible assumption) | (with_reducible refine below_drewN ?_ _) | (with_reducible refine Below.drew ?_) | (with_reducible refine Below.alloc ?_ ?_ _) | (with_reducible refine Below.setCell ?_ ?_ _) | (refine Below.trans ?_ (Below.mono (by assumption) ?_)) | go_size)))
  have hs2 : w.heap.size ≤ W2.heap.size := HB2.out.size
  clear hW2
  go_loopw [5, 11] (fun s5 s11 wr => ∃ i : Nat, i ≤ l.length ∧ s11 = .int .i64 i ∧ wr.ownsRow W2.heap.size 57 2 s5 (((l.take i).filter p).map Cel.d).length (dcells (((l.take i).filter p).map Cel.d)) ∧ Below W2.heap.size W2 wr) (fun _ s11 _ => l.length - (intOf s11).toNat)
  case atStart => exact ⟨0, by omega, rfl, by simpa using World.ownsRow_nil _ _ _ _, Below.refl _ _⟩
  case round =>
    obtain ⟨i, hi, rfl, hown, hbw⟩ := hrel
    have hst : ∀ hj : i < l.length, ((l.take (i + 1)).filter p).map Cel.d = ((l.take i).filter p).map Cel.d ++ (if p l[i] = true then [l[i].d] else []) := by
      intro hj
      rw [List.take_succ_eq_append_getElem hj, List.filter_append, List.map_append, List.filter_cons, List.filter_nil]
      split <;> simp
    have hol : (((l.take i).filter p).map Cel.d).length ≤ 4398046511104 := by
      have := List.length_filter_le p (l.take i)
      rw [List.length_take] at this
      rw [List.length_map]
      omega
    have hfin : ¬ i < l.length → ((l.take i).filter p).map Cel.d = V := fun h => by rw [HV.out, List.take_of_length_le (by omega)]
    obtain ⟨O, hO⟩ : ∃ O, O = ((l.take i).filter p).map Cel.d := ⟨_, rfl⟩
    rw [← hO] at hown hst hol hfin
    clear hO
    obtain ⟨A8, c8, rfl⟩ := own_formS hown
    have hB := Below.step' HB2.out hbw
    have HOWN := hid hown
    have HBW := hid hbw
    have HBB := hid hB
    have HFIN := hid hfin
    clear hown hbw hB hfin
    by_cases hlt : i < l.length
    · obtain ⟨b, off, hA, hb, e0, e1, e2, e3, e4⟩ := (RB.out wr HBB.out).cel hlt
      subst hA
      have HST := hid (hst hlt)
      have hc := fun w1 (hb1 : Below wr.heap.size wr w1) => HP.out w1 (Below.step' HBB.out hb1) l[i] (List.getElem_mem _)
      clear hst
      generalize l[i] = x at *
      obtain ⟨⟨d0, d1⟩, ky, co, vl⟩ := x
      simp only at e0 e1 e2 e3 e4
      simp only [celv] at hc
      have hneb : (b = wr.heap.size) = False := by simp; omega
      have hsw := HBW.out.size
      cases hq : p ⟨(d0, d1), ky, co, vl⟩
      all_goals
        rw [hq] at hc
        have HC := hid hc
        have HQ := hid hq
        clear hc hq
        go_wp2_with fail
        refine (HC.out _ ((Below.refl _ _).alloc (Nat.le_refl _) _)).mono ?_
        rintro e w5 ⟨rfl, hb5⟩
        have hB5 : Below wr.heap.size wr w5 := (by refine Below.step' ?_ hb5; (repeat' (first | (with_reducible exact Below.refl _ _) | (with_reducible assumption) | (with_reducible refine below_drewN ?_ _) | (with_reducible refine Below.drew ?_) | (with_reducible refine Below.alloc ?_ ?_ _) | (with_reducible refine Below.setCell ?_ ?_ _) | (refine Below.trans ?_ (Below.mono (by assumption) ?_)) | go_size)))
        have HOWN5 := hid (own_laterS HOWN.out hB5)
        have HB5 := hid (Below.step' HBW.out hB5)
        have hs5 := (Below.step' HBW.out hB5).size
        have HX5 := hid (Blk.step (Blk.new wr #[.int .i64 d0, .int .i64 d1, .int .i64 ky, .int .i64 co, .int .i64 vl] 59) hb5)
        clear hb5 hB5 e0 e1 e2 e3 e4 hneb hb
      · go_wp2
        go_roundw
        case rel => exact ⟨i + 1, by omega, by go_num, by rw [HST.out, HQ.out, if_neg (by simp), List.append_nil]; exact HOWN5.out, HB5.out⟩
        case measure => simp [intOf]; omega
      · skip
        obtain ⟨cHX5, fHX5, sHX5, nHX5⟩ := HX5.out.all
        try simp only [cbox] at cHX5
        go_wp2_with (at_builtin; refine wpList_append_own _ rfl _ _ 23 rfl W2.heap.size 57 i0 _ 2 16 Tryz.underlying23 hi0 hz0 hz1 hz2 rfl (by decide) _ _ _ rfl (HOWN5.out.alloc _) ⟨w5.heap.size, 0, none⟩ 1 1 (dcells [(d0, d1)]) rfl rfl (news_new w5 _ _ _ _ rfl) (dcells_one _) ?_ ?_ ?_ ?_; rotate_right; intro v6 w6 hown6 hg6 _; rotate_left; (simp only [maxLen]; omega); (omega); (simp; omega))
        go_roundw
        case rel =>
          refine ⟨i + 1, by omega, by go_num, ?_, (HB5.out.alloc (by omega) _).grown hg6 (by simp; omega) (fun g e => (HOWN5.out.lt g e).1)⟩
          rw [HST.out, HQ.out, if_pos rfl]
          simpa [dcells] using hown6
        case measure => simp [intOf]; omega
    · have hfin := HFIN.out hlt
      rw [hfin] at HOWN ⊢
      clear hst
      go_wp2
      go_ret
      exact ⟨_, rfl, own_baseS HOWN.out hs2, HBB.out⟩

def atK (key : Int) (x : Cel) : Bool := x.key == key
set_option maxRecDepth 100000 in
theorem put1_any (x : Cel) (key col : Int) (X Y : Nat) (w : World) (hX : Blk w X #[.int .i64 key] 3) (hY : Blk w Y #[.int .i64 col] 3) :
    Calls Tryz.prog 33 #[celv x, .pointer (some ⟨X, 0, none⟩), .pointer (some ⟨Y, 0, none⟩)] w fun e w' => e = .returned (.bool (atKC key col x)) ∧ Below w.heap.size w w' := by
  obtain ⟨cx, fx, sx, nx⟩ := hX.all
  obtain ⟨cy, fy, sy, ny⟩ := hY.all
  clear hX hY
  obtain ⟨⟨d0, d1⟩, ky, co, vl⟩ := x
  simp only [celv, atKC]
  cases q1 : (ky == key)
  · go_enter Tryz.func33, Tryz.ntmps33
    go_wp2
    go_ret
    exact ⟨ret_bool (by simp), by (repeat' (first | (with_reducible exact Below.refl _ _) | (with_reducible assumption) | (with_reducible refine below_drewN ?_ _) | (with_reducible refine Below.drew ?_) | (with_reducible refine Below.alloc ?_ ?_ _) | (with_reducible refine Below.setCell ?_ ?_ _) | (refine Below.trans ?_ (Below.mono (by assumption) ?_)) | go_size))⟩
  · cases q2 : (co == col)
    all_goals
      go_enter Tryz.func33, Tryz.ntmps33
      go_wp2
      go_ret
      exact ⟨ret_bool (by simp), by (repeat' (first | (with_reducible exact Below.refl _ _) | (with_reducible assumption) | (with_reducible refine below_drewN ?_ _) | (with_reducible refine Below.drew ?_) | (with_reducible refine Below.alloc ?_ ?_ _) | (with_reducible refine Below.setCell ?_ ?_ _) | (refine Below.trans ?_ (Below.mono (by assumption) ?_)) | go_size))⟩
set_option maxRecDepth 100000 in
theorem del1_any (x : Cel) (key : Int) (X : Nat) (w : World) (hX : Blk w X #[.int .i64 key] 3) :
    Calls Tryz.prog 29 #[celv x, .pointer (some ⟨X, 0, none⟩)] w fun e w' => e = .returned (.bool (atK key x)) ∧ Below w.heap.size w w' := by
  obtain ⟨cx, fx, sx, nx⟩ := hX.all
  clear hX
  obtain ⟨⟨d0, d1⟩, ky, co, vl⟩ := x
  simp only [celv, atK]
  go_enter Tryz.func29, Tryz.ntmps29
  go_wp2
  go_ret
  exact ⟨rfl, by (repeat' (first | (with_reducible exact Below.refl _ _) | (with_reducible assumption) | (with_reducible refine below_drewN ?_ _) | (with_reducible refine Below.drew ?_) | (with_reducible refine Below.alloc ?_ ?_ _) | (with_reducible refine Below.setCell ?_ ?_ _) | (refine Below.trans ?_ (Below.mono (by assumption) ?_)) | go_size))⟩
theorem enters_put1 : ∀ args w, (callFunc 33 args).run Tryz.prog w = .ok (.enter 33 args) w := enters_of Tryz.func33 (by kernel_rfl) rfl
theorem enters_del1 : ∀ args w, (callFunc 29 args).run Tryz.prog w = .ok (.enter 29 args) w := enters_of Tryz.func29 (by kernel_rfl) rfl

/-! A context of some dots, of which one may be more than a list may have. -/
def ctxX (l : List (Int × Int)) : Ctx := joinX (makeC (l.take 400)) (makeC (l.drop 400))
def ctxE (l : List (Int × Int)) : Int := joinE (makeC (l.take 400)) (makeC (l.drop 400))
theorem make_pack {l : List (Int × Int)} (h : l.length ≤ 400) (hr : ∀ d ∈ l, rightB d.1 d.2 = true) : makeC l = packL 0 0 0 0 l := by
  unfold makeC
  rw [if_neg (by omega), if_neg]
  rw [Bool.not_eq_true, List.any_eq_false]
  intro d hd
  simp [hr d hd]
theorem pack_zero {l : List (Int × Int)} (hr : ∀ d ∈ l, rightB d.1 d.2 = true) : okC (packL 0 0 0 0 l) ∧ ∀ d, hasB (packL 0 0 0 0 l) d = true ↔ d ∈ l := by
  obtain ⟨h1, h2⟩ := pack_ok (c0 := 0) (c1 := 0) (c2 := 0) (c3 := 0) (l := l) (by simp [clkIn]) hr
  refine ⟨h1, fun d => ?_⟩
  rw [h2]
  constructor
  · rintro (h | h)
    · rcases hasB_iff.1 h with ⟨_, _, h3, h4⟩ | h
      · simp only [Ctx.at_] at h4
        split at h4 <;> (try split at h4) <;> (try split at h4) <;> omega
      · simp at h
    · exact h
  · exact .inr
theorem pack_same {l m : List (Int × Int)} (hr : ∀ d ∈ l, rightB d.1 d.2 = true) (h : ∀ d, d ∈ l ↔ d ∈ m) : packL 0 0 0 0 l = packL 0 0 0 0 m := by
  obtain ⟨h1, h2⟩ := pack_zero hr
  obtain ⟨h3, h4⟩ := pack_zero (l := m) (fun d hd => hr d ((h d).2 hd))
  exact okC_ext h1 h3 fun d => by rw [Bool.eq_iff_iff, h2, h4, h]
theorem ctx_pack {l : List (Int × Int)} (hl : l.length ≤ 800) (hr : ∀ d ∈ l, rightB d.1 d.2 = true) :
    ctxX l = (if 400 < (packL 0 0 0 0 l).cloud.length then ⟨0, 0, 0, 0, []⟩ else packL 0 0 0 0 l) ∧ ctxE l = (if 400 < (packL 0 0 0 0 l).cloud.length then 2 else 0) := by
  have ht : (l.take 400).length ≤ 400 := by rw [List.length_take]; omega
  have hd : (l.drop 400).length ≤ 400 := by rw [List.length_drop]; omega
  have hrt : ∀ d ∈ l.take 400, rightB d.1 d.2 = true := fun d h => hr d (List.mem_of_mem_take h)
  have hrd : ∀ d ∈ l.drop 400, rightB d.1 d.2 = true := fun d h => hr d (List.mem_of_mem_drop h)
  obtain ⟨a1, a2⟩ := pack_zero hrt
  obtain ⟨b1, b2⟩ := pack_zero hrd
  have ca : checkI (packL 0 0 0 0 (l.take 400)) = 0 := (checkI_iff _).2 ⟨a1, Nat.le_trans pack_length ht⟩
  have cb : checkI (packL 0 0 0 0 (l.drop 400)) = 0 := (checkI_iff _).2 ⟨b1, Nat.le_trans pack_length hd⟩
  have h2 := checkI_two ca cb
  obtain ⟨j1, j2⟩ := join_ok a1 b1
  obtain ⟨p1, p2⟩ := pack_zero hr
  have e : joinC (packL 0 0 0 0 (l.take 400)) (packL 0 0 0 0 (l.drop 400)) = packL 0 0 0 0 l := okC_ext j1 p1 fun d => by
    rw [Bool.eq_iff_iff, j2, p2, a2, b2, ← List.mem_append, List.take_append_drop]
  unfold ctxX ctxE joinX joinE
  rw [make_pack ht hrt, make_pack hd hrd, e]
  simp only [h2, ne_eq, not_true_eq_false, if_false]
  exact ⟨trivial, trivial⟩
end Go.Proofs.YtmcdaibdpeeefaaGreat
/- viewref.once, Values, Keys. -/
namespace Go.Proofs.YtmcdaibdpeeefaaGreat
set_option linter.unusedVariables false
open Go.ChangeShapes Go.WideShapes Go.ChangeAt Go.RowKit

theorem own_shortI {w : World} {B n cap g k : Nat} {T : TypeId} {xs : List Value} (h : w.ownsRow B T 1 (.slice (some ⟨g, 0, none⟩) n cap) n xs) (hk : k ≤ n) : w.ownsRow B T 1 (.slice (some ⟨g, 0, none⟩) k cap) k (xs.take k) := by
  refine ⟨by rw [List.length_take, h.1]; omega, ?_⟩
  rcases h.2 with ⟨h1, _⟩ | ⟨g', cap', cur, h1, h2, h3, h4, h5, h6, h7⟩
  · cases h1
  · injection h1 with e1 e2 e3
    injection e1 with e1
    injection e1 with e1
    subst e1 e3
    refine .inr ⟨g, cap, cur, rfl, h2, h3, by omega, h5, h6, ?_⟩
    rw [← h7, List.take_take, Nat.mul_one, Nat.mul_one, Nat.min_eq_left (by omega)]

def cu (s : List Int) (i : Nat) : List Int := Lib.compactUpTo s.toArray i
theorem cu_zero (s : List Int) : cu s 0 = [] := rfl
theorem cu_all (s : List Int) : cu s s.length = Lib.compact s := rfl
theorem cu_succ (s : List Int) (i : Nat) (h : i < s.length) : cu s (i + 1) = cu s i ++ (if i = 0 ∨ s[i] ≠ s[i - 1]'(by omega) then [s[i]] else []) := by
  unfold cu
  rw [Lib.compactUpTo_succ]
  have e1 : s.toArray[i]! = s[i] := by rw [getElem!_pos _ i (by simpa using h)]; simp
  have e2 : s.toArray[i - 1]! = s[i - 1]'(by omega) := by rw [getElem!_pos _ (i - 1) (by simp; omega)]; simp
  unfold Lib.keeps
  rw [e1, e2]
  by_cases q : i = 0 ∨ s[i] ≠ s[i - 1]'(by omega)
  · simp [q]
  · simp [q]
theorem cu_len (s : List Int) : ∀ i, i ≤ s.length → (cu s i).length ≤ i
  | 0, _ => by simp [cu_zero]
  | i + 1, h => by
    rw [cu_succ s i (by omega), List.length_append]
    have := cu_len s i (by omega)
    split <;> simp <;> omega
theorem cu_last (s : List Int) : ∀ i (h : i < s.length), (cu s (i + 1)).getLast? = some s[i]
  | 0, h => by rw [cu_succ s 0 h]; simp [cu_zero]
  | i + 1, h => by
    rw [cu_succ s (i + 1) h]
    by_cases q : s[i + 1] = s[i]
    · rw [if_neg (by simp [q]), List.append_nil, cu_last s i (by omega), q]
    · rw [if_pos (by right; simpa using q)]; simp

/-- Of the first i places those that stay stand in front; from i on all is as it was. -/
structure OInv (s ds : List Int) (i kk : Nat) : Prop where
  len : ds.length = s.length
  eq : kk = (cu s i).length
  low : ds.take kk = cu s i
  high : ∀ j (h : j < s.length) (h' : j < ds.length), i ≤ j → ds[j] = s[j]
theorem OInv.start (s : List Int) : OInv s s 0 0 := ⟨rfl, rfl, rfl, fun _ _ _ _ => rfl⟩
theorem OInv.prev {s ds : List Int} {i kk : Nat} (h : OInv s ds i kk) (hi : i ≤ s.length) (h0 : 0 < i) : ∃ hk : kk - 1 < ds.length, 1 ≤ kk ∧ ds[kk - 1] = s[i - 1]'(by omega) := by
  have hl := cu_last s (i - 1) (by omega)
  rw [show i - 1 + 1 = i by omega, ← h.low, List.getLast?_eq_getElem?] at hl
  have hlen : (ds.take kk).length = kk := by rw [h.low, h.eq]
  rw [hlen] at hl
  have h1 : kk - 1 < (ds.take kk).length := by
    rcases Nat.lt_or_ge (kk - 1) (ds.take kk).length with q | q
    · exact q
    · rw [List.getElem?_eq_none q] at hl; cases hl
  have h2 : kk - 1 < ds.length := by rw [List.length_take] at h1; omega
  refine ⟨h2, by omega, ?_⟩
  rw [List.getElem?_eq_getElem h1] at hl
  injection hl with hl
  rw [← hl, List.getElem_take]
theorem OInv.keep {s ds : List Int} {i kk : Nat} (h : OInv s ds i kk) (hi : i < s.length) (hq : i = 0 ∨ s[i] ≠ s[i - 1]'(by omega)) : OInv s (ds.set kk s[i]) (i + 1) (kk + 1) := by
  have hkk : kk ≤ i := by rw [h.eq]; exact cu_len s i (by omega)
  have hlen := h.len
  refine ⟨by rw [List.length_set]; exact hlen, ?_, ?_, fun j hj hj' hij => ?_⟩
  · rw [cu_succ s i hi, if_pos hq, List.length_append, ← h.eq]; rfl
  · rw [cu_succ s i hi, if_pos hq, List.take_succ_eq_append_getElem (by rw [List.length_set]; omega), List.getElem_set_self]
    congr 1
    rw [List.take_set, List.set_eq_of_length_le (by rw [List.length_take]; omega), h.low]
  · rw [List.getElem_set_ne (by omega)]
    exact h.high j hj (by omega) (by omega)
theorem OInv.skip {s ds : List Int} {i kk : Nat} (h : OInv s ds i kk) (hi : i < s.length) (hq : ¬ (i = 0 ∨ s[i] ≠ s[i - 1]'(by omega))) : OInv s ds (i + 1) kk := by
  have e : cu s (i + 1) = cu s i := by rw [cu_succ s i hi, if_neg hq, List.append_nil]
  exact ⟨h.len, by rw [e]; exact h.eq, by rw [e]; exact h.low, fun j hj hj' hij => h.high j hj hj' (by omega)⟩

theorem own_addrS {w : World} {B n c s : Nat} {T : TypeId} {A : Option Addr} {xs : List Value} (h : w.ownsRow B T s (.slice A n c) n xs) (hn : 0 < n) : ∃ g, A = some ⟨g, 0, none⟩ ∧ B ≤ g ∧ g < w.heap.size ∧ n ≤ c ∧ c ≤ maxLen := by
  rcases h.2 with ⟨_, h0⟩ | ⟨g, cap, cur, h', hb, hg, hnc, hcm, hcs, htake⟩
  · omega
  · injection h' with h1 h2 h3
    subst h1 h3
    have hlt : g < w.heap.size := by
      rcases Nat.lt_or_ge g w.heap.size with h | h
      · exact h
      · rw [Array.getElem?_eq_none h] at hg; cases hg
    exact ⟨g, rfl, hb, hlt, hnc, hcm⟩
theorem own_drewS {w : World} {B n s : Nat} {T : TypeId} {v : Value} {xs : List Value} (h : w.ownsRow B T s v n xs) (q : Nat) : (w.drewN q).ownsRow B T s v n xs := h
theorem el_int : Elem Tryz.prog 38 3 1 8 := by
  obtain ⟨i0, h0, h1, h2, h3⟩ := info_parts info_int
  exact ⟨Tryz.underlying38, ⟨i0, _, h0, h1, h2, h3, rfl⟩, by decide⟩

end Go.Proofs.YtmcdaibdpeeefaaGreat
/- viewlaw.DotSays$1, viewlaw.DotSays: the first walk. -/
namespace Go.Proofs.YtmcdaibdpeeefaaGreat
set_option linter.unusedVariables false
open Go.ChangeShapes Go.WideShapes Go.ChangeAt Go.RowKit

theorem packStep_len (c : Ctx) (d : Int × Int) : (packStep c d).cloud.length ≤ c.cloud.length + 1 := by
  unfold packStep
  split
  · omega
  · split
    · rw [inc_cloud]; omega
    · simp
theorem foldl_len : ∀ (l : List (Int × Int)) (c : Ctx), (l.foldl packStep c).cloud.length ≤ c.cloud.length + l.length
  | [], c => by simp
  | d :: l, c => by
    have h1 := foldl_len l (packStep c d)
    have h2 := packStep_len c d
    simp only [List.foldl_cons, List.length_cons]
    omega
theorem makeC_len (l : List (Int × Int)) : (makeC l).cloud.length ≤ 400 := by
  unfold makeC
  split
  · simp
  · split
    · simp
    · have h1 := foldl_len (cpt (l.mergeSort dotLe)) ⟨0, 0, 0, 0, []⟩
      have h2 := cpt_length (l.mergeSort dotLe)
      rw [List.length_mergeSort] at h2
      simp only [List.length_nil] at h1
      unfold packL
      omega

end Go.Proofs.YtmcdaibdpeeefaaGreat
/- table.context. -/
namespace Go.Proofs.YtmcdaibdpeeefaaGreat
set_option linter.unusedVariables false
open Go.ChangeShapes Go.WideShapes Go.ChangeAt Go.RowKit

theorem Row.takeN {w : World} {B b : Nat} {xs : List Value} (h : Row w B (some ⟨b, 0, none⟩) xs) (k : Nat) : Row w B (some ⟨b, 0, none⟩) (xs.take k) := by
  rcases h with h | ⟨b', off, h1, h2, h3⟩
  · exact .inl (by rw [h]; simp)
  · refine .inr ⟨b', off, h1, h2, fun j u hu => h3 j u ?_⟩
    rw [List.getElem?_take] at hu
    split at hu
    · exact hu
    · cases hu
theorem Row.dropN {w : World} {B b : Nat} {xs : List Value} (h : Row w B (some ⟨b, 0, none⟩) xs) (k : Nat) : Row w B (some ⟨b, k, none⟩) (xs.drop k) := by
  rcases h with h | ⟨b', off, h1, h2, h3⟩
  · exact .inl (by rw [h]; simp)
  · injection h1 with h1
    injection h1 with e1 e2
    subst e1 e2
    refine .inr ⟨b, k, rfl, h2, fun j u hu => ?_⟩
    rw [List.getElem?_drop] at hu
    have := h3 (k + j) u hu
    rwa [Nat.zero_add] at this
theorem make_n (l : List (Int × Int)) (n k : Nat) (hn : n = l.length) (A : Option Addr) (w : World) (hr : Row w w.heap.size A (dcells l)) (hl : l.length ≤ 9223372036854775807) :
    Calls Tryz.prog 23 #[.slice A n k] w (CtxErr (makeC l) (makeE l) w) := by
  subst hn
  exact make_any l A k w hr hl

set_option maxHeartbeats 4000000 in
set_option maxRecDepth 100000 in
theorem context_tab (l : List (Int × Int)) (A : Option Addr) (c B0 : Nat) (w : World) (hown : w.ownsRow B0 57 2 (.slice A l.length c) l.length (dcells l)) (hpos : 0 < l.length) (hl : l.length ≤ 8796093022208) :
    Calls Tryz.prog 30 #[.slice A l.length c] w (CtxErr (ctxX l) (ctxE l) w) := by
  obtain ⟨g, rfl, hBg, hgs, hc1, hc2⟩ := own_addrS hown hpos
  have hrow := Row.of_ownS hown
  obtain ⟨N, hN⟩ : ∃ N, N = min l.length 400 := ⟨_, rfl⟩
  have hNl : N ≤ l.length := by omega
  have hN4 : N ≤ 400 := by omega
  have htd : l.take 400 = l.take N ∧ l.drop 400 = l.drop N := by
    by_cases h : l.length ≤ 400
    · rw [List.take_of_length_le h, List.drop_eq_nil_of_le h, List.take_of_length_le (by omega), List.drop_eq_nil_of_le (by omega)]; exact ⟨rfl, rfl⟩
    · rw [show N = 400 by omega]; exact ⟨rfl, rfl⟩
  have hmin : min (l.length : Int) 400 = (N : Int) := by omega
  obtain ⟨adr, hadr, hif1, hif2⟩ : ∃ adr : Addr, (N < l.length → adr = ⟨g, N * 2, none⟩) ∧ (if c = N then some (⟨g, 0, none⟩ : Addr) else some ⟨g, N * 2, none⟩) = some adr ∧ (if c = N then (⟨g, 0, none⟩ : Addr) else ⟨g, N * 2, none⟩) = adr := by
    by_cases hck : c = N
    · exact ⟨⟨g, 0, none⟩, fun h => absurd h (by omega), by rw [if_pos hck], by rw [if_pos hck]⟩
    · exact ⟨⟨g, N * 2, none⟩, fun _ => rfl, by rw [if_neg hck], by rw [if_neg hck]⟩
  have hrt : Row w w.heap.size (some ⟨g, 0, none⟩) (dcells (l.take N)) := by rw [← dcells_take]; exact hrow.takeN _
  have hrd : Row w w.heap.size (some adr) (dcells (l.drop N)) := by
    by_cases h : N < l.length
    · rw [hadr h, ← dcells_drop]; exact hrow.dropN _
    · rw [List.drop_eq_nil_of_le (by omega)]; exact Row.nil
  have HM1 := hid (fun w1 k (hb : Below w.heap.size w w1) => make_n (l.take N) N k (by rw [List.length_take]; omega) (some ⟨g, 0, none⟩) w1 (hrt.step hb) (by rw [List.length_take]; omega))
  have HM2 := hid (fun w1 k (hb : Below w.heap.size w w1) => make_n (l.drop N) (l.length - N) k (by rw [List.length_drop]) (some adr) w1 (hrd.step hb) (by rw [List.length_drop]; omega))
  have HX := hid (show ctxX l = joinX (makeC (l.take N)) (makeC (l.drop N)) by unfold ctxX; rw [htd.1, htd.2])
  have HE := hid (show ctxE l = joinE (makeC (l.take N)) (makeC (l.drop N)) by unfold ctxE; rw [htd.1, htd.2])
  have hl1 := makeC_len (l.take N)
  have hl2 := makeC_len (l.drop N)
  clear hown hrow hrt hrd htd hadr
  obtain ⟨P, hP⟩ : ∃ P, P = makeC (l.take N) := ⟨_, rfl⟩
  obtain ⟨Q, hQ⟩ : ∃ Q, Q = makeC (l.drop N) := ⟨_, rfl⟩
  rw [← hP] at HM1 HX HE hl1
  rw [← hQ] at HM2 HX HE hl2
  obtain ⟨I, hI⟩ : ∃ I, I = makeE (l.take N) := ⟨_, rfl⟩
  obtain ⟨K, hK⟩ : ∃ K, K = makeE (l.drop N) := ⟨_, rfl⟩
  rw [← hI] at HM1
  rw [← hK] at HM2
  clear hP hQ hI hK hN
  have z0 : (0 : Int) ≤ (N : Int) := by omega
  have z1 : (N : Int) ≤ (c : Int) := by omega
  have z2 : (N : Int) ≤ (l.length : Int) := by omega
  simp only [maxLen] at hc2
  go_enter Tryz.func30, Tryz.ntmps30
  go_wp2_with fail
  refine (HM1.out _ _ (by (repeat' (first | (with_reducible exact Below.refl _ _) | (with_reducible assumption) | (with_reducible refine below_drewN ?_ _) | (with_reducible refine Below.drew ?_) | (with_reducible refine Below.alloc ?_ ?_ _) | (with_reducible refine Below.setCell ?_ ?_ _) | (refine Below.trans ?_ (Below.mono (by assumption) ?_)) | go_size)))).mono ?_
  rintro e w1 ⟨A1, k1, rfl, hr1, hb1, hn1⟩
  have HBW := hid (show Below w.heap.size w w1 from (by refine Below.step' ?_ hb1; (repeat' (first | (with_reducible exact Below.refl _ _) | (with_reducible assumption) | (with_reducible refine below_drewN ?_ _) | (with_reducible refine Below.drew ?_) | (with_reducible refine Below.alloc ?_ ?_ _) | (with_reducible refine Below.setCell ?_ ?_ _) | (refine Below.trans ?_ (Below.mono (by assumption) ?_)) | go_size))))
  have HXR := hid (Blk.step (Blk.new w #[.int .i64 0, .int .i64 0, .int .i64 0, .int .i64 0, .slice none 0 0] 25) hb1)
  have HR1 := hid hr1
  clear hb1 hr1 hn1
  simp only [cval]
  go_wp2_with fail
  refine (HM2.out _ _ (HBW.out.alloc HBW.out.size _)).mono ?_
  rintro e w2 ⟨A2, k2, rfl, hr2, hb2, hn2⟩
  have hB2 : Below w1.heap.size w1 w2 := (by refine Below.step' ?_ hb2; (repeat' (first | (with_reducible exact Below.refl _ _) | (with_reducible assumption) | (with_reducible refine below_drewN ?_ _) | (with_reducible refine Below.drew ?_) | (with_reducible refine Below.alloc ?_ ?_ _) | (with_reducible refine Below.setCell ?_ ?_ _) | (refine Below.trans ?_ (Below.mono (by assumption) ?_)) | go_size)))
  have HX5 := hid (Blk.step (Blk.new w1 (cbox P A1 k1) 25) hb2)
  replace HXR := hid (HXR.out.step hB2)
  replace HR1 := hid (HR1.out.step hB2)
  replace HBW := hid (Below.step' HBW.out hB2)
  have HR2 := hid hr2
  clear hb2 hB2 hr2 hn2
  simp only [cval]
  have HJ := hid (fun w3 (hb : Below w2.heap.size w2 w3) => join_any P Q A1 A2 k1 k2 w3 (HR1.out.step hb) (by omega) (HR2.out.step hb) (by omega))
  simp only [cval] at HJ
  obtain ⟨cHX5, fHX5, sHX5, nHX5⟩ := HX5.out.all
  try simp only [cbox] at cHX5
  go_wp2_with fail
  refine (HJ.out _ ((Below.refl _ _).alloc (Nat.le_refl _) _)).mono ?_
  rintro e w3 ⟨A3, k3, rfl, hr3, hb3, hn3⟩
  have hB3 : Below w2.heap.size w2 w3 := (by refine Below.step' ?_ hb3; (repeat' (first | (with_reducible exact Below.refl _ _) | (with_reducible assumption) | (with_reducible refine below_drewN ?_ _) | (with_reducible refine Below.drew ?_) | (with_reducible refine Below.alloc ?_ ?_ _) | (with_reducible refine Below.setCell ?_ ?_ _) | (refine Below.trans ?_ (Below.mono (by assumption) ?_)) | go_size)))
  replace HXR := hid (HXR.out.step hB3)
  have hBX := Below.step' HBW.out hB3
  have hs2 := HBW.out.size
  have hR := HXR.out
  obtain ⟨⟨r0, r1, r2, r3, r4⟩, f0, f1, f2, f3, f4⟩ := hR.five
  obtain ⟨J, hJ⟩ : ∃ J, J = joinX P Q := ⟨_, rfl⟩
  rw [← hJ] at hr3 ⊢
  have HJX := hid hJ
  have hwlt : w.heap.size < (w2.alloc (.cells (cbox Q A2 k2) 25)).heap.size := by simp; omega
  have HR5 := hid (Blk.set5 hR (.int .i64 J.c0) (.int .i64 J.c1) (.int .i64 J.c2) (.int .i64 J.c3) (.slice A3 J.cloud.length k3))
  have HB5 := hid (Below.set5 hBX (Nat.le_refl _) (.int .i64 J.c0) (.int .i64 J.c1) (.int .i64 J.c2) (.int .i64 J.c3) (.slice A3 J.cloud.length k3))
  have HROW := hid (Row.set5 hr3 hn3 hwlt (.int .i64 J.c0) (.int .i64 J.c1) (.int .i64 J.c2) (.int .i64 J.c3) (.slice A3 J.cloud.length k3))
  have HN := hid (fun b off q e => Nat.le_trans (Nat.le_of_lt hwlt) (hn3 b off q e))
  clear cHX5 fHX5 sHX5 nHX5
  clear hb3 hB3 hr3 hn3 hJ hR hBX
  simp only [cval]
  go_wp2
  obtain ⟨⟨q0, q1, q2, q3, q4⟩, -⟩ := HR5.out.five
  exact bodyPost_ret (v := .tuple #[cval J A3 k3, .int .i64 (joinE P Q)]) (by simp [results, Tryz.results30, go_sem, q0, q1, q2, q3, q4]) rfl ⟨A3, k3, by rw [HX.out, HE.out, HJX.out], by rw [HX.out, ← HJX.out]; exact HROW.out, HB5.out, HN.out⟩
end Go.Proofs.YtmcdaibdpeeefaaGreat
/- table.Put, table.Del. -/
namespace Go.Proofs.YtmcdaibdpeeefaaGreat
set_option linter.unusedVariables false
open Go.ChangeShapes Go.WideShapes Go.ChangeAt Go.RowKit

theorem build_cel (d0 d1 k c v : Int) (w : World) : (Instr.build 59 #[(0, .agg #[.int .i64 d0, .int .i64 d1]), (1, .int .i64 k), (2, .int .i64 c), (3, .int .i64 v)]).run Tryz.prog w = .ok (.agg #[.int .i64 d0, .int .i64 d1, .int .i64 k, .int .i64 c, .int .i64 v]) w :=
  run_build w _ _ _ (by kernel_rfl)
theorem build_tab (c0 c1 c2 c3 : Int) (A B : Option Addr) (n k m j : Nat) (w : World) : (Instr.build 28 #[(0, .agg #[.int .i64 c0, .int .i64 c1, .int .i64 c2, .int .i64 c3, .slice A n k]), (1, .slice B m j)]).run Tryz.prog w = .ok (.agg #[.int .i64 c0, .int .i64 c1, .int .i64 c2, .int .i64 c3, .slice A n k, .slice B m j]) w :=
  run_build w _ _ _ (by kernel_rfl)

abbrev set6 (w : World) (b : Nat) (y0 y1 y2 y3 y4 y5 : Value) : World := (set5 w b y0 y1 y2 y3 y4).setCell ⟨b, 5, none⟩ y5
theorem Blk.set6 {w : World} {b : Nat} {x0 x1 x2 x3 x4 x5 : Value} {T : TypeId} (h : Blk w b #[x0, x1, x2, x3, x4, x5] T) (y0 y1 y2 y3 y4 y5 : Value) : Blk (set6 w b y0 y1 y2 y3 y4 y5) b #[y0, y1, y2, y3, y4, y5] T :=
  (((((h.set 0 y0).set 1 y1).set 2 y2).set 3 y3).set 4 y4).set 5 y5
theorem Row.set6 {w : World} {b lo : Nat} {A : Option Addr} {xs : List Value} (h : Row w w.heap.size A xs) (hn : NewAt lo A) (hb : b < lo) (y0 y1 y2 y3 y4 y5 : Value) : Row (set6 w b y0 y1 y2 y3 y4 y5) (set6 w b y0 y1 y2 y3 y4 y5).heap.size A xs := by
  have h5 := Row.set5 h hn hb y0 y1 y2 y3 y4
  exact (h5.setCell_new hn (a := ⟨b, 5, none⟩) hb y5).more (by simp)
theorem Below.set6 {B : Nat} {a w : World} {b : Nat} (h : Below B a w) (hb : B ≤ b) (y0 y1 y2 y3 y4 y5 : Value) : Below B a (set6 w b y0 y1 y2 y3 y4 y5) :=
  (Below.set5 h hb y0 y1 y2 y3 y4).setCell (p := ⟨b, 5, none⟩) hb y5
theorem Blk.six {w : World} {b : Nat} {x0 x1 x2 x3 x4 x5 : Value} {T : TypeId} (h : Blk w b #[x0, x1, x2, x3, x4, x5] T) :
    (w.cell? ⟨b, 0, none⟩ = some x0 ∧ w.cell? ⟨b, 1, none⟩ = some x1 ∧ w.cell? ⟨b, 2, none⟩ = some x2 ∧ w.cell? ⟨b, 3, none⟩ = some x3 ∧ w.cell? ⟨b, 4, none⟩ = some x4 ∧ w.cell? ⟨b, 5, none⟩ = some x5) ∧
    (w.frozen? ⟨b, 0, none⟩ = false ∧ w.frozen? ⟨b, 1, none⟩ = false ∧ w.frozen? ⟨b, 2, none⟩ = false ∧ w.frozen? ⟨b, 3, none⟩ = false ∧ w.frozen? ⟨b, 4, none⟩ = false ∧ w.frozen? ⟨b, 5, none⟩ = false) :=
  ⟨⟨h.cells.1 0, h.cells.1 1, h.cells.1 2, h.cells.1 3, h.cells.1 4, h.cells.1 5⟩, h.cells.2 0, h.cells.2 1, h.cells.2 2, h.cells.2 3, h.cells.2 4, h.cells.2 5⟩

def zT : Tab := ⟨⟨0, 0, 0, 0, []⟩, []⟩
def TabErr (T : Tab) (x : Int) (w : World) (e : Ending) (w' : World) : Prop :=
  ∃ A k B m, e = .returned (.tuple #[tval T A k B m, .int .i64 x]) ∧ Row w' w'.heap.size A (dcells T.c.cloud) ∧ Row w' w'.heap.size B (tcells T.cells) ∧ Below w.heap.size w w' ∧ NewAt w.heap.size A ∧ NewAt w.heap.size B
def argOk (n key col val : Int) : Bool := inB n 0 3 && inB key 0 49 && (inB col 0 2 && inB val (-1000) 1000)
def putL (t : Tab) (key col : Int) (d : Int × Int) : List (Int × Int) := ((t.cells.filter (atKC key col)).map Cel.d) ++ [d]
def putX (t : Tab) (n key col val : Int) : Tab :=
  if tabI t ≠ 0 ∨ argOk n key col val = false ∨ nextE t.c n ≠ 0 ∨ ctxE (putL t key col (nextD t.c n)) ≠ 0 then zT else ⟨ctxX (putL t key col (nextD t.c n)), [⟨nextD t.c n, key, col, val⟩]⟩
def putE (t : Tab) (n key col val : Int) : Int :=
  if tabI t ≠ 0 then tabI t else if argOk n key col val = false then 1 else if nextE t.c n ≠ 0 then nextE t.c n else ctxE (putL t key col (nextD t.c n))
def delL (t : Tab) (key : Int) : List (Int × Int) := (t.cells.filter (atK key)).map Cel.d
def delX (t : Tab) (key : Int) : Tab := if tabI t ≠ 0 ∨ inB key 0 49 = false ∨ delL t key = [] then zT else ⟨ctxX (delL t key), []⟩
def delE (t : Tab) (key : Int) : Int := if tabI t ≠ 0 then tabI t else if inB key 0 49 = false then 1 else if delL t key = [] then 4 else ctxE (delL t key)

set_option maxHeartbeats 1600000 in
set_option maxRecDepth 100000 in
theorem put_any (t : Tab) (n key col val : Int) (A : Option Addr) (k : Nat) (B : Option Addr) (m : Nat) (w : World) (ra : Row w w.heap.size A (dcells t.c.cloud)) (la : t.c.cloud.length ≤ 9223372036854775807)
    (rb : Row w w.heap.size B (tcells t.cells)) (lb : t.cells.length ≤ 4398046511104) :
    Calls Tryz.prog 13 #[tval t A k B m, .int .i64 n, .int .i64 key, .int .i64 col, .int .i64 val] w (TabErr (putX t n key col val) (putE t n key col val) w) := by
  have HTC := hid (fun w1 (hb : Below w.heap.size w w1) => tcheck_any t A k B m w1 (ra.step hb) la (rb.step hb) (by omega))
  have HNX := hid (fun w1 (hb : Below w.heap.size w w1) => next_any t.c n A k w1 (ra.step hb) la)
  have HDO := hid (fun w1 X Y (hb : Below w.heap.size w w1) (hX : Blk w1 X #[.int .i64 key] 3) (hY : Blk w1 Y #[.int .i64 col] 3) =>
    dots_any t 33 #[.pointer (some ⟨X, 0, none⟩), .pointer (some ⟨Y, 0, none⟩)] (atKC key col) A k B m w1 (rb.step hb) lb enters_put1 (fun w2 hb2 x _ => put1_any x key col X Y w2 (hX.step hb2) (hY.step hb2)))
  have hX1 : (tabI t ≠ 0 ∨ argOk n key col val = false ∨ nextE t.c n ≠ 0 ∨ ctxE (putL t key col (nextD t.c n)) ≠ 0) → putX t n key col val = zT := fun h => by unfold putX; rw [if_pos h]
  have hX2 : tabI t = 0 → argOk n key col val = true → nextE t.c n = 0 → ctxE (putL t key col (nextD t.c n)) = 0 → putX t n key col val = ⟨ctxX (putL t key col (nextD t.c n)), [⟨nextD t.c n, key, col, val⟩]⟩ := fun h1 h2 h3 h4 => by unfold putX; rw [if_neg (by simp [h1, h2, h3, h4])]
  have hE : putE t n key col val = if tabI t ≠ 0 then tabI t else if argOk n key col val = false then 1 else if nextE t.c n ≠ 0 then nextE t.c n else ctxE (putL t key col (nextD t.c n)) := rfl
  have hL : putL t key col (nextD t.c n) = ((t.cells.filter (atKC key col)).map Cel.d) ++ [nextD t.c n] := rfl
  have hLL : ((t.cells.filter (atKC key col)).map Cel.d).length ≤ t.cells.length := by rw [List.length_map]; exact List.length_filter_le _ _
  obtain ⟨R, hR⟩ : ∃ R, R = putX t n key col val := ⟨_, rfl⟩
  obtain ⟨RE, hRE⟩ : ∃ RE, RE = putE t n key col val := ⟨_, rfl⟩
  rw [← hR, ← hRE]
  rw [← hR] at hX1 hX2
  rw [← hRE] at hE
  clear hR hRE
  obtain ⟨G, hG⟩ : ∃ G, G = (t.cells.filter (atKC key col)).map Cel.d := ⟨_, rfl⟩
  rw [← hG] at hL hLL HDO
  obtain ⟨PL, hPL⟩ : ∃ PL, PL = putL t key col (nextD t.c n) := ⟨_, rfl⟩
  rw [← hPL] at hX1 hX2 hE hL
  clear hG hPL
  obtain ⟨D, hD⟩ : ∃ D, D = nextD t.c n := ⟨_, rfl⟩
  obtain ⟨NE, hNE⟩ : ∃ NE, NE = nextE t.c n := ⟨_, rfl⟩
  rw [← hD, ← hNE] at HNX
  rw [← hD] at hX2 hL
  rw [← hNE] at hX1 hX2 hE
  clear hD hNE
  obtain ⟨T, hT⟩ : ∃ T, T = tabI t := ⟨_, rfl⟩
  rw [← hT] at HTC hX1 hX2 hE
  clear hT
  have HX1 := hid hX1
  have HX2 := hid hX2
  have HE := hid hE
  have HL := hid hL
  clear hX1 hX2 hE hL ra rb
  obtain ⟨⟨c0, c1, c2, c3, cl⟩, l⟩ := t
  obtain ⟨i0, hi0, hz0, hz1, hz2⟩ := info_parts info_dot
  simp only [tval, cval] at *
  have hwn := fun w => within_any n 0 3 w
  have hky := fun w => keyed_any key w
  have hva := fun w => valued_any col val w
  go_enter Tryz.func13, Tryz.ntmps13
  go_wp2_with fail
  refine (HTC.out _ (by (repeat' (first | (with_reducible exact Below.refl _ _) | (with_reducible assumption) | (with_reducible refine below_drewN ?_ _) | (with_reducible refine Below.drew ?_) | (with_reducible refine Below.alloc ?_ ?_ _) | (with_reducible refine Below.setCell ?_ ?_ _) | (refine Below.trans ?_ (Below.mono (by assumption) ?_)) | go_size)))).mono ?_
  rintro e w1 ⟨rfl, hb1⟩
  have HBW := hid (show Below w.heap.size w w1 from (by refine Below.step' ?_ hb1; (repeat' (first | (with_reducible exact Below.refl _ _) | (with_reducible assumption) | (with_reducible refine below_drewN ?_ _) | (with_reducible refine Below.drew ?_) | (with_reducible refine Below.alloc ?_ ?_ _) | (with_reducible refine Below.setCell ?_ ?_ _) | (refine Below.trans ?_ (Below.mono (by assumption) ?_)) | go_size))))
  have HXT := hid (Blk.step (w := _) (b := w.heap.size) (cs := #[.int .i64 c0, .int .i64 c1, .int .i64 c2, .int .i64 c3, .slice A cl.length k, .slice B l.length m]) (T := 28) (by exact (((Blk.new w _ _).alloc _).alloc _).alloc _) hb1)
  have HXK := hid (Blk.step (w := _) (b := w.heap.size + 1) (cs := #[.int .i64 key]) (T := 3) (by exact ((Blk.new' (w.alloc _) _ _ (by simp)).alloc _).alloc _) hb1)
  have HXC := hid (Blk.step (w := _) (b := w.heap.size + 1 + 1) (cs := #[.int .i64 col]) (T := 3) (by exact (Blk.new' ((w.alloc _).alloc _) _ _ (by simp)).alloc _) hb1)
  have HXR := hid (Blk.step (w := _) (b := w.heap.size + 1 + 1 + 1) (cs := #[.int .i64 0, .int .i64 0, .int .i64 0, .int .i64 0, .slice none 0 0, .slice none 0 0]) (T := 28) (by exact Blk.new' (((w.alloc _).alloc _).alloc _) _ _ (by simp)) hb1)
  clear hb1
  by_cases qT : T = 0
  rotate_left
  · have t1 : (T != 0) = true := by simpa using qT
    have E1 : Hid (R = zT) := hid (HX1.out (.inl qT))
    have E2 : Hid (RE = T) := hid (by have e := HE.out; rw [if_pos qT] at e; exact e)
    clear qT
    have hR := HXR.out
    obtain ⟨⟨r0, r1, r2, r3, r4, r5⟩, f0, f1, f2, f3, f4, f5⟩ := hR.six
    have HR6 := hid (Blk.set6 hR (.int .i64 0) (.int .i64 0) (.int .i64 0) (.int .i64 0) (.slice none 0 0) (.slice none 0 0))
    have HB6 := hid (Below.set6 HBW.out (show w.heap.size ≤ w.heap.size + 1 + 1 + 1 by omega) (.int .i64 0) (.int .i64 0) (.int .i64 0) (.int .i64 0) (.slice none 0 0) (.slice none 0 0))
    clear hR
    go_wp2
    obtain ⟨⟨q0, q1, q2, q3, q4, q5⟩, -⟩ := HR6.out.six
    exact bodyPost_ret (v := .tuple #[tval zT none 0 none 0, .int .i64 T]) (by simp [results, Tryz.results13, go_sem, q0, q1, q2, q3, q4, q5, zT]) rfl ⟨none, 0, none, 0, by rw [E1.out, E2.out], by rw [E1.out]; exact Row.nil, by rw [E1.out]; exact Row.nil, HB6.out, newAt_none _, newAt_none _⟩
  · subst qT
    obtain ⟨cHXK, fHXK, sHXK, nHXK⟩ := HXK.out.all
    try simp only [cbox] at cHXK
    obtain ⟨cHXC, fHXC, sHXC, nHXC⟩ := HXC.out.all
    try simp only [cbox] at cHXC
    by_cases qa : argOk n key col val = true
    rotate_left
    · have qa' : argOk n key col val = false := by simpa using qa
      have E1 : Hid (R = zT) := hid (HX1.out (.inr (.inl qa')))
      have E2 : Hid (RE = 1) := hid (by have e := HE.out; rw [if_neg (by simp), if_pos qa'] at e; exact e)
      unfold argOk at qa'
      clear qa
      have hs := HBW.out.size
      cases q1 : inB n 0 3
      · rw [q1] at hwn
        have HWN := hid hwn
        clear hwn hky hva q1 qa'
        go_wp2_with fail
        refine (HWN.out _).mono ?_
        rintro e w2 ⟨rfl, rfl⟩
        have hR := HXR.out
        obtain ⟨⟨r0, r1, r2, r3, r4, r5⟩, f0, f1, f2, f3, f4, f5⟩ := hR.six
        have HR6 := hid (Blk.set6 hR (.int .i64 0) (.int .i64 0) (.int .i64 0) (.int .i64 0) (.slice none 0 0) (.slice none 0 0))
        have HB6 := hid (Below.set6 HBW.out (show w.heap.size ≤ w.heap.size + 1 + 1 + 1 by omega) (.int .i64 0) (.int .i64 0) (.int .i64 0) (.int .i64 0) (.slice none 0 0) (.slice none 0 0))
        clear hR
        go_wp2
        obtain ⟨⟨q0, q1, q2, q3, q4, q5⟩, -⟩ := HR6.out.six
        exact bodyPost_ret (v := .tuple #[tval zT none 0 none 0, .int .i64 1]) (by simp [results, Tryz.results13, go_sem, q0, q1, q2, q3, q4, q5, zT]) rfl ⟨none, 0, none, 0, by rw [E1.out, E2.out], by rw [E1.out]; exact Row.nil, by rw [E1.out]; exact Row.nil, HB6.out, newAt_none _, newAt_none _⟩
      · cases q2 : inB key 0 49
        · rw [q1] at hwn
          rw [q2] at hky
          have HWN := hid hwn
          have HKY := hid hky
          clear hwn hky hva q1 q2 qa'
          go_wp2_with fail
          refine (HWN.out _).mono ?_
          rintro e w2 ⟨rfl, rfl⟩
          go_wp2_with fail
          refine (HKY.out _).mono ?_
          rintro e w2 ⟨rfl, rfl⟩
          have hR := HXR.out
          obtain ⟨⟨r0, r1, r2, r3, r4, r5⟩, f0, f1, f2, f3, f4, f5⟩ := hR.six
          have HR6 := hid (Blk.set6 hR (.int .i64 0) (.int .i64 0) (.int .i64 0) (.int .i64 0) (.slice none 0 0) (.slice none 0 0))
          have HB6 := hid (Below.set6 HBW.out (show w.heap.size ≤ w.heap.size + 1 + 1 + 1 by omega) (.int .i64 0) (.int .i64 0) (.int .i64 0) (.int .i64 0) (.slice none 0 0) (.slice none 0 0))
          clear hR
          go_wp2
          obtain ⟨⟨q0, q1, q2, q3, q4, q5⟩, -⟩ := HR6.out.six
          exact bodyPost_ret (v := .tuple #[tval zT none 0 none 0, .int .i64 1]) (by simp [results, Tryz.results13, go_sem, q0, q1, q2, q3, q4, q5, zT]) rfl ⟨none, 0, none, 0, by rw [E1.out, E2.out], by rw [E1.out]; exact Row.nil, by rw [E1.out]; exact Row.nil, HB6.out, newAt_none _, newAt_none _⟩
        · rw [q1, q2] at qa'
          have q3 : (inB col 0 2 && inB val (-1000) 1000) = false := by simpa using qa'
          rw [q1] at hwn
          rw [q2] at hky
          rw [q3] at hva
          have HWN := hid hwn
          have HKY := hid hky
          have HVA := hid hva
          clear hwn hky hva q1 q2 q3 qa'
          go_wp2_with fail
          refine (HWN.out _).mono ?_
          rintro e w2 ⟨rfl, rfl⟩
          go_wp2_with fail
          refine (HKY.out _).mono ?_
          rintro e w2 ⟨rfl, rfl⟩
          go_wp2_with fail
          refine (HVA.out _).mono ?_
          rintro e w2 ⟨rfl, rfl⟩
          have hR := HXR.out
          obtain ⟨⟨r0, r1, r2, r3, r4, r5⟩, f0, f1, f2, f3, f4, f5⟩ := hR.six
          have HR6 := hid (Blk.set6 hR (.int .i64 0) (.int .i64 0) (.int .i64 0) (.int .i64 0) (.slice none 0 0) (.slice none 0 0))
          have HB6 := hid (Below.set6 HBW.out (show w.heap.size ≤ w.heap.size + 1 + 1 + 1 by omega) (.int .i64 0) (.int .i64 0) (.int .i64 0) (.int .i64 0) (.slice none 0 0) (.slice none 0 0))
          clear hR
          go_wp2
          obtain ⟨⟨q0, q1, q2, q3, q4, q5⟩, -⟩ := HR6.out.six
          exact bodyPost_ret (v := .tuple #[tval zT none 0 none 0, .int .i64 1]) (by simp [results, Tryz.results13, go_sem, q0, q1, q2, q3, q4, q5, zT]) rfl ⟨none, 0, none, 0, by rw [E1.out, E2.out], by rw [E1.out]; exact Row.nil, by rw [E1.out]; exact Row.nil, HB6.out, newAt_none _, newAt_none _⟩
    · have qp : inB n 0 3 = true ∧ inB key 0 49 = true ∧ (inB col 0 2 && inB val (-1000) 1000) = true := by
        unfold argOk at qa
        simp only [Bool.and_eq_true] at qa ⊢
        exact ⟨qa.1.1, qa.1.2, qa.2⟩
      rw [qp.1] at hwn
      rw [qp.2.1] at hky
      rw [qp.2.2] at hva
      have HWN := hid hwn
      have HKY := hid hky
      have HVA := hid hva
      clear hwn hky hva qp
      go_wp2_with fail
      refine (HWN.out _).mono ?_
      rintro e w2 ⟨rfl, rfl⟩
      go_wp2_with fail
      refine (HKY.out _).mono ?_
      rintro e w2 ⟨rfl, rfl⟩
      go_wp2_with fail
      refine (HVA.out _).mono ?_
      rintro e w2 ⟨rfl, rfl⟩
      clear cHXK fHXK sHXK nHXK
      clear cHXC fHXC sHXC nHXC
      obtain ⟨cHXT, fHXT, sHXT, nHXT⟩ := HXT.out.all
      try simp only [cbox] at cHXT
      go_wp2_with fail
      refine (HNX.out _ HBW.out).mono ?_
      rintro e w2 ⟨rfl, hb2⟩
      clear cHXT fHXT sHXT nHXT
      replace HXT := hid (HXT.out.step hb2)
      replace HXK := hid (HXK.out.step hb2)
      replace HXC := hid (HXC.out.step hb2)
      replace HXR := hid (HXR.out.step hb2)
      replace HBW := hid (Below.step' HBW.out hb2)
      clear hb2
      obtain ⟨D0, D1⟩ := D
      simp only [dval]
      by_cases qn : NE = 0
      rotate_left
      · have t1 : (NE != 0) = true := by simpa using qn
        have E1 : Hid (R = zT) := hid (HX1.out (.inr (.inr (.inl qn))))
        have E2 : Hid (RE = NE) := hid (by have e := HE.out; rw [if_neg (by simp), if_neg (by simp [qa]), if_pos qn] at e; exact e)
        clear qn
        replace HXR := hid (HXR.out.alloc (.cells #[.int .i64 D0, .int .i64 D1] 57))
        replace HBW := hid (HBW.out.alloc HBW.out.size (.cells #[.int .i64 D0, .int .i64 D1] 57))
        have hlr := HXR.out.lt
        simp only [World.size_alloc] at hlr
        obtain ⟨Wz, hWz⟩ : ∃ Wz : World, Wz = w2.alloc (.cells #[.int .i64 D0, .int .i64 D1] 57) := ⟨_, rfl⟩
        rw [← hWz] at HXR HBW
        go_upto_region 8 with fail
        rw [← hWz]
        clear hWz
        have hR := HXR.out
        obtain ⟨⟨r0, r1, r2, r3, r4, r5⟩, f0, f1, f2, f3, f4, f5⟩ := hR.six
        have HR6 := hid (Blk.set6 hR (.int .i64 0) (.int .i64 0) (.int .i64 0) (.int .i64 0) (.slice none 0 0) (.slice none 0 0))
        have HB6 := hid (Below.set6 HBW.out (show w.heap.size ≤ w.heap.size + 1 + 1 + 1 by omega) (.int .i64 0) (.int .i64 0) (.int .i64 0) (.int .i64 0) (.slice none 0 0) (.slice none 0 0))
        clear hR
        go_wp2
        obtain ⟨⟨q0, q1, q2, q3, q4, q5⟩, -⟩ := HR6.out.six
        exact bodyPost_ret (v := .tuple #[tval zT none 0 none 0, .int .i64 NE]) (by simp [results, Tryz.results13, go_sem, q0, q1, q2, q3, q4, q5, zT]) rfl ⟨none, 0, none, 0, by rw [E1.out, E2.out], by rw [E1.out]; exact Row.nil, by rw [E1.out]; exact Row.nil, HB6.out, newAt_none _, newAt_none _⟩
      · subst qn
        have hs2 := HBW.out.size
        have hlx := HXR.out.lt
        have HBD := hid ((Below.refl w2.heap.size w2).alloc (Nat.le_refl _) (.cells #[.int .i64 D0, .int .i64 D1] 57))
        have HXD := hid (Blk.new w2 #[.int .i64 D0, .int .i64 D1] 57)
        obtain ⟨cHXT, fHXT, sHXT, nHXT⟩ := HXT.out.all
        try simp only [cbox] at cHXT
        go_wp2_with fail
        refine (HDO.out _ (w.heap.size + 1) (w.heap.size + 1 + 1) (Below.step' HBW.out HBD.out) (HXK.out.step HBD.out) (HXC.out.step HBD.out)).mono ?_
        rintro e w3 ⟨v3, rfl, hown3, hb3⟩
        obtain ⟨A3, k3, rfl⟩ := own_form hown3
        have hB3 : Below w2.heap.size w2 w3 := Below.step' HBD.out hb3
        clear cHXT fHXT sHXT nHXT
        replace HXK := hid (HXK.out.step hB3)
        replace HXC := hid (HXC.out.step hB3)
        replace HXR := hid (HXR.out.step hB3)
        replace HXD := hid (HXD.out.step hb3)
        replace HBW := hid (Below.step' HBW.out hB3)
        have HOWN3 := hid hown3
        have hs3 := hb3.size
        clear hown3 hb3 hB3 HXT HDO HNX HTC
        obtain ⟨cHXD, fHXD, sHXD, nHXD⟩ := HXD.out.all
        try simp only [cbox] at cHXD
        go_wp2_with (at_builtin; refine wpList_append_own _ rfl _ _ 23 rfl (w2.alloc (.cells #[.int .i64 D0, .int .i64 D1] 57)).heap.size 57 i0 _ 2 16 Tryz.underlying23 hi0 hz0 hz1 hz2 rfl (by decide) _ _ _ rfl (HOWN3.out.alloc _) ⟨w3.heap.size, 0, none⟩ 1 1 (dcells [(D0, D1)]) rfl rfl (news_new w3 _ _ _ _ rfl) (dcells_one _) ?_ ?_ ?_ ?_; rotate_right; intro v6 w6 hown6 hg6 hif6; clear hif6; obtain ⟨A6, c6, rfl⟩ := own_form hown6; rotate_left; (simp only [maxLen]; omega); (omega); (simp; omega))
        have hpl := HL.out
        have hlen : PL.length = G.length + 1 := by rw [hpl]; simp
        have hown6' : w6.ownsRow (w2.alloc (.cells #[.int .i64 D0, .int .i64 D1] 57)).heap.size 57 2 (.slice A6 PL.length c6) PL.length (dcells PL) := by rw [hlen, hpl]; simpa [dcells] using hown6
        have hct := context_tab PL A6 c6 _ w6 hown6' (by omega) (by omega)
        rw [hlen] at hct
        have HCT := hid hct
        have hb6 : Below (w2.heap.size + 1) w3 w6 := ((Below.refl _ _).alloc (by simp at hs3; omega) _).grown hg6 (by simp at hs3 ⊢; omega) (fun g e => by have := (HOWN3.out.lt g e).1; simp at this; omega)
        have HXK6 := hid (HXK.out.thru hb6 (by omega))
        have HXC6 := hid (HXC.out.thru hb6 (by omega))
        have HXR6 := hid (HXR.out.thru hb6 (by omega))
        have HXD6 := hid (HXD.out.thru hb6 (by omega))
        replace HBW := hid (HBW.out.trans (hb6.mono (by omega)))
        clear hpl hlen hown6 hown6' hct hg6 hb6 HXK HXC HXR HXD HOWN3
        have hlx6 := HXR6.out.lt
        refine HCT.out.mono ?_
        rintro e w7 ⟨A7, k7, rfl, hr7, hb7, hn7⟩
        replace HXK6 := hid (HXK6.out.step hb7)
        replace HXC6 := hid (HXC6.out.step hb7)
        replace HXR6 := hid (HXR6.out.step hb7)
        replace HXD6 := hid (HXD6.out.step hb7)
        have hs6 := HBW.out.size
        replace HBW := hid (Below.step' HBW.out hb7)
        have HR7 := hid hr7
        have HN7 := hid hn7
        have hs7 := hb7.size
        clear hr7 hb7 hn7
        obtain ⟨X7, hX7⟩ : ∃ X7, X7 = ctxX PL := ⟨_, rfl⟩
        obtain ⟨E7, hE7⟩ : ∃ E7, E7 = ctxE PL := ⟨_, rfl⟩
        rw [← hX7, ← hE7] at HX2
        rw [← hE7] at HX1 HE
        rw [← hX7] at HR7
        rw [← hX7, ← hE7]
        clear hX7 hE7
        simp only [cval]
        by_cases q7 : E7 = 0
        rotate_left
        · have t1 : (E7 != 0) = true := by simpa using q7
          have E1 : Hid (R = zT) := hid (HX1.out (.inr (.inr (.inr q7))))
          have E2 : Hid (RE = E7) := hid (by have e := HE.out; rw [if_neg (by simp), if_neg (by simp [qa]), if_neg (by simp)] at e; exact e)
          clear q7
          replace HXR6 := hid (HXR6.out.alloc (.cells #[.int .i64 X7.c0, .int .i64 X7.c1, .int .i64 X7.c2, .int .i64 X7.c3, .slice A7 X7.cloud.length k7] 25))
          replace HBW := hid (HBW.out.alloc HBW.out.size (.cells #[.int .i64 X7.c0, .int .i64 X7.c1, .int .i64 X7.c2, .int .i64 X7.c3, .slice A7 X7.cloud.length k7] 25))
          obtain ⟨Wz, hWz⟩ : ∃ Wz : World, Wz = w7.alloc (.cells #[.int .i64 X7.c0, .int .i64 X7.c1, .int .i64 X7.c2, .int .i64 X7.c3, .slice A7 X7.cloud.length k7] 25) := ⟨_, rfl⟩
          rw [← hWz] at HXR6 HBW
          go_upto_region 12 with fail
          rw [← hWz]
          clear hWz
          have hR := HXR6.out
          obtain ⟨⟨r0, r1, r2, r3, r4, r5⟩, f0, f1, f2, f3, f4, f5⟩ := hR.six
          have HR6 := hid (Blk.set6 hR (.int .i64 0) (.int .i64 0) (.int .i64 0) (.int .i64 0) (.slice none 0 0) (.slice none 0 0))
          have HB6 := hid (Below.set6 HBW.out (show w.heap.size ≤ w.heap.size + 1 + 1 + 1 by omega) (.int .i64 0) (.int .i64 0) (.int .i64 0) (.int .i64 0) (.slice none 0 0) (.slice none 0 0))
          clear hR
          go_wp2
          obtain ⟨⟨q0, q1, q2, q3, q4, q5⟩, -⟩ := HR6.out.six
          exact bodyPost_ret (v := .tuple #[tval zT none 0 none 0, .int .i64 E7]) (by simp [results, Tryz.results13, go_sem, q0, q1, q2, q3, q4, q5, zT]) rfl ⟨none, 0, none, 0, by rw [E1.out, E2.out], by rw [E1.out]; exact Row.nil, by rw [E1.out]; exact Row.nil, HB6.out, newAt_none _, newAt_none _⟩
        · subst q7
          have E1 := hid (HX2.out (by first | rfl | trivial) qa (by first | rfl | trivial) (by first | rfl | trivial))
          have E2 : Hid (RE = 0) := hid (by have e := HE.out; rw [if_neg (by simp), if_neg (by simp [qa]), if_neg (by simp)] at e; exact e)
          have HX16 := hid (Blk.new w7 (cbox X7 A7 k7) 25)
          have hBz : Below w7.heap.size w7 (w7.alloc (.cells (cbox X7 A7 k7) 25)) := (Below.refl _ _).alloc (Nat.le_refl _) _
          replace HXK6 := hid (HXK6.out.step hBz)
          replace HXC6 := hid (HXC6.out.step hBz)
          replace HXR6 := hid (HXR6.out.step hBz)
          replace HXD6 := hid (HXD6.out.step hBz)
          replace HR7 := hid (HR7.out.step hBz)
          replace HBW := hid (Below.step' HBW.out hBz)
          have hsz := hBz.size
          obtain ⟨Wz, hWz⟩ : ∃ Wz : World, Wz = w7.alloc (.cells (cbox X7 A7 k7) 25) := ⟨_, rfl⟩
          rw [← hWz] at HXK6 HXC6 HXR6 HXD6 HR7 HBW HX16 hsz
          simp only [cbox] at hWz
          go_upto_region 13 with fail
          rw [← hWz]
          clear hWz hBz
          have hR := HXR6.out
          obtain ⟨⟨r0, r1, r2, r3, r4, r5⟩, f0, f1, f2, f3, f4, f5⟩ := hR.six
          have hrl := hR.lt
          have nlx : (w.heap.size + 1 + 1 + 1 = Wz.heap.size) = False := by simp; omega
          have HR6 := hid (Blk.set6 hR (.int .i64 X7.c0) (.int .i64 X7.c1) (.int .i64 X7.c2) (.int .i64 X7.c3) (.slice A7 X7.cloud.length k7) (.slice (some ⟨Wz.heap.size, 0, none⟩) 1 1))
          have HB6 := hid (Below.set6 HBW.out (show w.heap.size ≤ w.heap.size + 1 + 1 + 1 by omega) (.int .i64 X7.c0) (.int .i64 X7.c1) (.int .i64 X7.c2) (.int .i64 X7.c3) (.slice A7 X7.cloud.length k7) (.slice (some ⟨Wz.heap.size, 0, none⟩) 1 1))
          have HROW := hid (Row.set6 HR7.out HN7.out (show w.heap.size + 1 + 1 + 1 < w6.heap.size by omega) (.int .i64 X7.c0) (.int .i64 X7.c1) (.int .i64 X7.c2) (.int .i64 X7.c3) (.slice A7 X7.cloud.length k7) (.slice (some ⟨Wz.heap.size, 0, none⟩) 1 1))
          clear hR
          obtain ⟨⟨x0, x1, x2, x3, x4⟩, -⟩ := HX16.out.five
          have y0 : Wz.cell? ⟨w2.heap.size, 0, none⟩ = some (.int .i64 D0) := (HXD6.out.cells.1 0).trans rfl
          have y1 : Wz.cell? ⟨w2.heap.size, 1, none⟩ = some (.int .i64 D1) := (HXD6.out.cells.1 1).trans rfl
          have yk : Wz.cell? ⟨w.heap.size + 1, 0, none⟩ = some (.int .i64 key) := (HXK6.out.cells.1 0).trans rfl
          have yc : Wz.cell? ⟨w.heap.size + 1 + 1, 0, none⟩ = some (.int .i64 col) := (HXC6.out.cells.1 0).trans rfl
          have bc := fun w => build_cel D0 D1 key col val w
          have bt := fun B m w => build_tab X7.c0 X7.c1 X7.c2 X7.c3 A7 B X7.cloud.length k7 1 m w
          have HQ := hid ((HR6.out.alloc (.cells #[.int .i64 D0, .int .i64 D1, .int .i64 key, .int .i64 col, .int .i64 val] 59)).six.1)
          go_wp2_with (refine bodyPost_ret (v := .tuple #[tval ⟨X7, [⟨(D0, D1), key, col, val⟩]⟩ A7 k7 (some ⟨Wz.heap.size, 0, none⟩) 1, .int .i64 0]) ?h1 rfl ?h2)
          case h1 =>
            obtain ⟨q0, q1, q2, q3, q4, q5⟩ := HQ.out
            simp [results, Tryz.results13, go_sem, q0, q1, q2, q3, q4, q5]
          case h2 =>
            exact ⟨A7, k7, some ⟨Wz.heap.size, 0, none⟩, 1, by rw [E1.out, E2.out], by rw [E1.out]; exact HROW.out.alloc _, by rw [E1.out]; exact Row.new' _ _ _ (by simp) rfl (by simp),
              alloc_below HB6.out _, fun b off q e => Nat.le_trans hs6 (HN7.out b off q e), fun b off q e => by injection e with e; injection e with e; omega⟩
end Go.Proofs.YtmcdaibdpeeefaaGreat
/- table.Del. -/
namespace Go.Proofs.YtmcdaibdpeeefaaGreat
set_option linter.unusedVariables false
open Go.ChangeShapes Go.WideShapes Go.ChangeAt Go.RowKit

theorem build_tab0 (c0 c1 c2 c3 : Int) (A : Option Addr) (n k : Nat) (w : World) : (Instr.build 28 #[(0, .agg #[.int .i64 c0, .int .i64 c1, .int .i64 c2, .int .i64 c3, .slice A n k])]).run Tryz.prog w = .ok (.agg #[.int .i64 c0, .int .i64 c1, .int .i64 c2, .int .i64 c3, .slice A n k, .slice none 0 0]) w :=
  run_build w _ _ _ (by kernel_rfl)

set_option maxHeartbeats 1600000 in
set_option maxRecDepth 100000 in
theorem del_any (t : Tab) (key : Int) (A : Option Addr) (k : Nat) (B : Option Addr) (m : Nat) (w : World) (ra : Row w w.heap.size A (dcells t.c.cloud)) (la : t.c.cloud.length ≤ 9223372036854775807)
    (rb : Row w w.heap.size B (tcells t.cells)) (lb : t.cells.length ≤ 4398046511104) :
    Calls Tryz.prog 12 #[tval t A k B m, .int .i64 key] w (TabErr (delX t key) (delE t key) w) := by
  have HTC := hid (fun w1 (hb : Below w.heap.size w w1) => tcheck_any t A k B m w1 (ra.step hb) la (rb.step hb) (by omega))
  have HDO := hid (fun w1 X (hb : Below w.heap.size w w1) (hX : Blk w1 X #[.int .i64 key] 3) =>
    dots_any t 29 #[.pointer (some ⟨X, 0, none⟩)] (atK key) A k B m w1 (rb.step hb) lb enters_del1 (fun w2 hb2 x _ => del1_any x key X w2 (hX.step hb2)))
  have hX1 : (tabI t ≠ 0 ∨ inB key 0 49 = false ∨ delL t key = []) → delX t key = zT := fun h => by unfold delX; rw [if_pos h]
  have hX2 : tabI t = 0 → inB key 0 49 = true → delL t key ≠ [] → delX t key = ⟨ctxX (delL t key), []⟩ := fun h1 h2 h3 => by unfold delX; rw [if_neg (by simp [h1, h2, h3])]
  have hE : delE t key = if tabI t ≠ 0 then tabI t else if inB key 0 49 = false then 1 else if delL t key = [] then 4 else ctxE (delL t key) := rfl
  have hLL : (delL t key).length ≤ t.cells.length := by unfold delL; rw [List.length_map]; exact List.length_filter_le _ _
  rw [show (t.cells.filter (atK key)).map Cel.d = delL t key from rfl] at HDO
  obtain ⟨R, hR⟩ : ∃ R, R = delX t key := ⟨_, rfl⟩
  obtain ⟨RE, hRE⟩ : ∃ RE, RE = delE t key := ⟨_, rfl⟩
  rw [← hR, ← hRE]
  rw [← hR] at hX1 hX2
  rw [← hRE] at hE
  clear hR hRE
  obtain ⟨G, hG⟩ : ∃ G, G = delL t key := ⟨_, rfl⟩
  rw [← hG] at hX1 hX2 hE hLL HDO
  clear hG
  obtain ⟨T, hT⟩ : ∃ T, T = tabI t := ⟨_, rfl⟩
  rw [← hT] at HTC hX1 hX2 hE
  clear hT
  have HX1 := hid hX1
  have HX2 := hid hX2
  have HE := hid hE
  clear hX1 hX2 hE ra rb
  obtain ⟨⟨c0, c1, c2, c3, cl⟩, l⟩ := t
  simp only [tval, cval] at *
  have hky := fun w => keyed_any key w
  go_enter Tryz.func12, Tryz.ntmps12
  go_wp2_with fail
  refine (HTC.out _ (by (repeat' (first | (with_reducible exact Below.refl _ _) | (with_reducible assumption) | (with_reducible refine below_drewN ?_ _) | (with_reducible refine Below.drew ?_) | (with_reducible refine Below.alloc ?_ ?_ _) | (with_reducible refine Below.setCell ?_ ?_ _) | (refine Below.trans ?_ (Below.mono (by assumption) ?_)) | go_size)))).mono ?_
  rintro e w1 ⟨rfl, hb1⟩
  have HBW := hid (show Below w.heap.size w w1 from (by refine Below.step' ?_ hb1; (repeat' (first | (with_reducible exact Below.refl _ _) | (with_reducible assumption) | (with_reducible refine below_drewN ?_ _) | (with_reducible refine Below.drew ?_) | (with_reducible refine Below.alloc ?_ ?_ _) | (with_reducible refine Below.setCell ?_ ?_ _) | (refine Below.trans ?_ (Below.mono (by assumption) ?_)) | go_size))))
  have HXT := hid (Blk.step (w := _) (b := w.heap.size) (cs := #[.int .i64 c0, .int .i64 c1, .int .i64 c2, .int .i64 c3, .slice A cl.length k, .slice B l.length m]) (T := 28) (by exact ((Blk.new w _ _).alloc _).alloc _) hb1)
  have HXK := hid (Blk.step (w := _) (b := w.heap.size + 1) (cs := #[.int .i64 key]) (T := 3) (by exact (Blk.new' (w.alloc _) _ _ (by simp)).alloc _) hb1)
  have HXR := hid (Blk.step (w := _) (b := w.heap.size + 1 + 1) (cs := #[.int .i64 0, .int .i64 0, .int .i64 0, .int .i64 0, .slice none 0 0, .slice none 0 0]) (T := 28) (by exact Blk.new' ((w.alloc _).alloc _) _ _ (by simp)) hb1)
  clear hb1
  by_cases qT : T = 0
  rotate_left
  · have t1 : (T != 0) = true := by simpa using qT
    have E1 : Hid (R = zT) := hid (HX1.out (.inl qT))
    have E2 : Hid (RE = T) := hid (by have e := HE.out; rw [if_pos qT] at e; exact e)
    clear qT
    have hR := HXR.out
    obtain ⟨⟨r0, r1, r2, r3, r4, r5⟩, f0, f1, f2, f3, f4, f5⟩ := hR.six
    have HR6 := hid (Blk.set6 hR (.int .i64 0) (.int .i64 0) (.int .i64 0) (.int .i64 0) (.slice none 0 0) (.slice none 0 0))
    have HB6 := hid (Below.set6 HBW.out (show w.heap.size ≤ w.heap.size + 1 + 1 by omega) (.int .i64 0) (.int .i64 0) (.int .i64 0) (.int .i64 0) (.slice none 0 0) (.slice none 0 0))
    clear hR
    go_wp2
    obtain ⟨⟨q0, q1, q2, q3, q4, q5⟩, -⟩ := HR6.out.six
    exact bodyPost_ret (v := .tuple #[tval zT none 0 none 0, .int .i64 T]) (by simp [results, Tryz.results12, go_sem, q0, q1, q2, q3, q4, q5, zT]) rfl ⟨none, 0, none, 0, by rw [E1.out, E2.out], by rw [E1.out]; exact Row.nil, by rw [E1.out]; exact Row.nil, HB6.out, newAt_none _, newAt_none _⟩
  · subst qT
    obtain ⟨cHXK, fHXK, sHXK, nHXK⟩ := HXK.out.all
    try simp only [cbox] at cHXK
    cases qa : inB key 0 49
    · have E1 : Hid (R = zT) := hid (HX1.out (.inr (.inl qa)))
      have E2 : Hid (RE = 1) := hid (by have e := HE.out; rw [if_neg (by simp), if_pos qa] at e; exact e)
      rw [qa] at hky
      have HKY := hid hky
      clear hky
      go_wp2_with fail
      refine (HKY.out _).mono ?_
      rintro e w2 ⟨rfl, rfl⟩
      have hR := HXR.out
      obtain ⟨⟨r0, r1, r2, r3, r4, r5⟩, f0, f1, f2, f3, f4, f5⟩ := hR.six
      have HR6 := hid (Blk.set6 hR (.int .i64 0) (.int .i64 0) (.int .i64 0) (.int .i64 0) (.slice none 0 0) (.slice none 0 0))
      have HB6 := hid (Below.set6 HBW.out (show w.heap.size ≤ w.heap.size + 1 + 1 by omega) (.int .i64 0) (.int .i64 0) (.int .i64 0) (.int .i64 0) (.slice none 0 0) (.slice none 0 0))
      clear hR
      go_wp2
      obtain ⟨⟨q0, q1, q2, q3, q4, q5⟩, -⟩ := HR6.out.six
      exact bodyPost_ret (v := .tuple #[tval zT none 0 none 0, .int .i64 1]) (by simp [results, Tryz.results12, go_sem, q0, q1, q2, q3, q4, q5, zT]) rfl ⟨none, 0, none, 0, by rw [E1.out, E2.out], by rw [E1.out]; exact Row.nil, by rw [E1.out]; exact Row.nil, HB6.out, newAt_none _, newAt_none _⟩
    · rw [qa] at hky
      have HKY := hid hky
      have HQA := hid qa
      clear hky qa
      go_wp2_with fail
      refine (HKY.out _).mono ?_
      rintro e w2 ⟨rfl, rfl⟩
      clear cHXK fHXK sHXK nHXK
      obtain ⟨cHXT, fHXT, sHXT, nHXT⟩ := HXT.out.all
      try simp only [cbox] at cHXT
      go_wp2_with fail
      refine (HDO.out _ (w.heap.size + 1) HBW.out HXK.out).mono ?_
      rintro e w3 ⟨v3, rfl, hown3, hb3⟩
      obtain ⟨A3, k3, rfl⟩ := own_form hown3
      clear cHXT fHXT sHXT nHXT
      replace HXR := hid (HXR.out.step hb3)
      replace HBW := hid (Below.step' HBW.out hb3)
      have HOWN3 := hid hown3
      clear hown3 hb3 HXT HDO HTC HXK HKY
      by_cases qg : G = []
      · have E1 : Hid (R = zT) := hid (HX1.out (.inr (.inr qg)))
        have E2 : Hid (RE = 4) := hid (by have e := HE.out; rw [if_neg (by simp), if_neg (by simp [HQA.out]), if_pos qg] at e; exact e)
        have t1 : ((G.length : Int) == 0) = true := by simp [qg]
        clear qg
        have hR := HXR.out
        obtain ⟨⟨r0, r1, r2, r3, r4, r5⟩, f0, f1, f2, f3, f4, f5⟩ := hR.six
        have HR6 := hid (Blk.set6 hR (.int .i64 0) (.int .i64 0) (.int .i64 0) (.int .i64 0) (.slice none 0 0) (.slice none 0 0))
        have HB6 := hid (Below.set6 HBW.out (show w.heap.size ≤ w.heap.size + 1 + 1 by omega) (.int .i64 0) (.int .i64 0) (.int .i64 0) (.int .i64 0) (.slice none 0 0) (.slice none 0 0))
        clear hR
        go_wp2
        obtain ⟨⟨q0, q1, q2, q3, q4, q5⟩, -⟩ := HR6.out.six
        exact bodyPost_ret (v := .tuple #[tval zT none 0 none 0, .int .i64 4]) (by simp [results, Tryz.results12, go_sem, q0, q1, q2, q3, q4, q5, zT]) rfl ⟨none, 0, none, 0, by rw [E1.out, E2.out], by rw [E1.out]; exact Row.nil, by rw [E1.out]; exact Row.nil, HB6.out, newAt_none _, newAt_none _⟩
      · have hpos : 0 < G.length := List.length_pos_iff.2 qg
        have t1 : ((G.length : Int) == 0) = false := by simp only [beq_eq_false_iff_ne, ne_eq]; omega
        have E1 := hid (HX2.out (by first | rfl | trivial) HQA.out qg)
        have E2 : Hid (RE = ctxE G) := hid (by have e := HE.out; rw [if_neg (by simp), if_neg (by simp [HQA.out]), if_neg qg] at e; exact e)
        have HCT := hid (context_tab G A3 k3 _ w3 HOWN3.out hpos (by omega))
        clear qg
        have hlx3 := HXR.out.lt
        have hs3 := HBW.out.size
        go_wp2_with fail
        refine HCT.out.mono ?_
        rintro e w7 ⟨A7, k7, rfl, hr7, hb7, hn7⟩
        replace HXR := hid (HXR.out.step hb7)
        replace HBW := hid (Below.step' HBW.out hb7)
        have HR7 := hid hr7
        have HN7 := hid hn7
        have hs7 := hb7.size
        clear hr7 hb7 hn7 HCT
        obtain ⟨X7, hX7⟩ : ∃ X7, X7 = ctxX G := ⟨_, rfl⟩
        obtain ⟨E7, hE7⟩ : ∃ E7, E7 = ctxE G := ⟨_, rfl⟩
        rw [← hX7] at E1 HR7
        rw [← hE7] at E2
        rw [← hX7, ← hE7]
        clear hX7 hE7
        simp only [cval]
        have hBz : Below w7.heap.size w7 (w7.alloc (.cells (cbox X7 A7 k7) 25)) := (Below.refl _ _).alloc (Nat.le_refl _) _
        have HX16 := hid (Blk.new w7 (cbox X7 A7 k7) 25)
        replace HXR := hid (HXR.out.step hBz)
        replace HR7 := hid (HR7.out.step hBz)
        replace HBW := hid (Below.step' HBW.out hBz)
        have hsz := hBz.size
        obtain ⟨Wz, hWz⟩ : ∃ Wz : World, Wz = w7.alloc (.cells (cbox X7 A7 k7) 25) := ⟨_, rfl⟩
        rw [← hWz] at HXR HR7 HBW HX16 hsz
        simp only [cbox] at hWz
        go_upto_region 10 with fail
        rw [← hWz]
        clear hWz hBz
        have hR := HXR.out
        obtain ⟨⟨r0, r1, r2, r3, r4, r5⟩, f0, f1, f2, f3, f4, f5⟩ := hR.six
        have HR6 := hid (Blk.set6 hR (.int .i64 X7.c0) (.int .i64 X7.c1) (.int .i64 X7.c2) (.int .i64 X7.c3) (.slice A7 X7.cloud.length k7) (.slice none 0 0))
        have HB6 := hid (Below.set6 HBW.out (show w.heap.size ≤ w.heap.size + 1 + 1 by omega) (.int .i64 X7.c0) (.int .i64 X7.c1) (.int .i64 X7.c2) (.int .i64 X7.c3) (.slice A7 X7.cloud.length k7) (.slice none 0 0))
        have HROW := hid (Row.set6 HR7.out HN7.out (show w.heap.size + 1 + 1 < w3.heap.size by omega) (.int .i64 X7.c0) (.int .i64 X7.c1) (.int .i64 X7.c2) (.int .i64 X7.c3) (.slice A7 X7.cloud.length k7) (.slice none 0 0))
        clear hR
        obtain ⟨⟨x0, x1, x2, x3, x4⟩, -⟩ := HX16.out.five
        have bt := fun w => build_tab0 X7.c0 X7.c1 X7.c2 X7.c3 A7 X7.cloud.length k7 w
        have HQ := hid HR6.out.six.1
        go_wp2_with (refine bodyPost_ret (v := .tuple #[tval ⟨X7, []⟩ A7 k7 none 0, .int .i64 E7]) ?h1 rfl ?h2)
        case h1 =>
          obtain ⟨q0, q1, q2, q3, q4, q5⟩ := HQ.out
          simp [results, Tryz.results12, go_sem, q0, q1, q2, q3, q4, q5]
        case h2 =>
          exact ⟨A7, k7, none, 0, by rw [E1.out, E2.out], by rw [E1.out]; exact HROW.out, by rw [E1.out]; exact Row.nil,
            HB6.out, fun b off q e => Nat.le_trans hs3 (HN7.out b off q e), newAt_none _⟩
end Go.Proofs.YtmcdaibdpeeefaaGreat
/- viewref.Table. -/
namespace Go.Proofs.YtmcdaibdpeeefaaGreat
set_option linter.unusedVariables false
open Go.ChangeShapes Go.WideShapes Go.ChangeAt Go.RowKit

end Go.Proofs.YtmcdaibdpeeefaaGreat
/- slices.Equal at Cell. -/
namespace Go.Proofs.YtmcdaibdpeeefaaGreat
set_option linter.unusedVariables false
open Go.ChangeShapes Go.WideShapes Go.ChangeAt Go.RowKit

theorem under_cel : Tryz.prog.underlying 59 = some (.struct (Tryz.prog.fieldsOf 59)) := by kernel_rfl
theorem stood_cel : Tryz.prog.stoodInHeld 59 = false := by kernel_rfl
theorem guard_cel : Tryz.prog.eqGuardType Tryz.prog.depth 59 = false := by kernel_rfl
theorem neq_cel (a b c d e a' b' c' d' e' : Int) (w : World) : (binOp .neq 59 (.agg #[.int .i64 a, .int .i64 b, .int .i64 c, .int .i64 d, .int .i64 e]) (.agg #[.int .i64 a', .int .i64 b', .int .i64 c', .int .i64 d', .int .i64 e'])).run Tryz.prog w = .ok (.bool (!(a == a' && b == b' && c == c' && d == d' && e == e'))) w := by
  have h1 := under_cel
  have h2 := stood_cel
  have h3 := under_dot
  have h4 := stood_dot
  simp only [run_neq_struct, run_equalIn_agg _ _ _ _ _ h1 h2]
  simp [go_sem]
  by_cases ha : a = a' <;> by_cases hb : b = b' <;> by_cases hc : c = c' <;> by_cases hd : d = d' <;> by_cases he : e = e' <;> simp [ha, hb, hc, hd, he]
theorem eql_cel (a b c d e a' b' c' d' e' : Int) (w : World) : (binOp .eql 59 (.agg #[.int .i64 a, .int .i64 b, .int .i64 c, .int .i64 d, .int .i64 e]) (.agg #[.int .i64 a', .int .i64 b', .int .i64 c', .int .i64 d', .int .i64 e'])).run Tryz.prog w = .ok (.bool (a == a' && b == b' && c == c' && d == d' && e == e')) w := by
  have h1 := under_cel
  have h2 := stood_cel
  have h3 := under_dot
  have h4 := stood_dot
  simp only [run_eql_struct, run_equalIn_agg _ _ _ _ _ h1 h2]
  simp [go_sem]
  by_cases ha : a = a' <;> by_cases hb : b = b' <;> by_cases hc : c = c' <;> by_cases hd : d = d' <;> by_cases he : e = e' <;> simp [ha, hb, hc, hd, he]
theorem cel_eq (a b c d e a' b' c' d' e' : Int) : (a == a' && b == b' && c == c' && d == d' && e == e') = decide ((⟨(a, b), c, d, e⟩ : Cel) = ⟨(a', b'), c', d', e'⟩) := by
  rw [Bool.eq_iff_iff]
  simp [and_assoc]

end Go.Proofs.YtmcdaibdpeeefaaGreat
/- viewref.SameTable, viewref.Del. -/
namespace Go.Proofs.YtmcdaibdpeeefaaGreat
set_option linter.unusedVariables false
open Go.ChangeShapes Go.WideShapes Go.ChangeAt Go.RowKit

theorem cel_right {t : Tab} (h : tabI t = 0) : ∀ x ∈ t.cells, rightB x.d.1 x.d.2 = true := by
  obtain ⟨-, -, h3⟩ := tabI_zero h
  intro x hx
  obtain ⟨i, hi, rfl⟩ := List.getElem_of_mem hx
  have hb := h3 i hi
  rw [badCel_at hi] at hb
  simp only [Bool.or_eq_false_iff, Bool.not_eq_false'] at hb
  have hc := hb.1
  unfold celOk at hc
  simp only [Bool.and_eq_true] at hc
  exact hc.1.1.1
theorem delL_right {t : Tab} (key : Int) (h : tabI t = 0) : ∀ d ∈ delL t key, rightB d.1 d.2 = true := by
  intro d hd
  unfold delL at hd
  obtain ⟨x, hx, rfl⟩ := List.mem_map.1 hd
  exact cel_right h x (List.mem_filter.1 hx).1
theorem delL_len {t : Tab} (key : Int) (h : tabI t = 0) : (delL t key).length ≤ 400 := by
  unfold delL
  rw [List.length_map]
  exact Nat.le_trans (List.length_filter_le _ _) (tabI_zero h).2.1
theorem del_pack {t : Tab} (key : Int) (h : tabI t = 0) : ctxX (delL t key) = packL 0 0 0 0 (delL t key) ∧ ctxE (delL t key) = 0 := by
  have h4 := delL_len key h
  obtain ⟨h1, h2⟩ := ctx_pack (l := delL t key) (by omega) (delL_right key h)
  have h5 : (packL 0 0 0 0 (delL t key)).cloud.length ≤ 400 := Nat.le_trans pack_length h4
  rw [h1, h2, if_neg (by omega), if_neg (by omega)]
  exact ⟨rfl, rfl⟩

end Go.Proofs.YtmcdaibdpeeefaaGreat
