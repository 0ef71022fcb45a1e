/- FrameQ, QrP, Bsq, Gen, Itm, ZsR, ZsW, StbW, ZsB, ZsC, RkA -/
import Derived.Test.YtamlaeocojcgdaaDoorQueryReadsCardS01
import Derived.Lib.Split
import Derived.Lib.SplitLaws
import Derived.OwnWalk
import Derived.Test.YtamlaeocojcgdaaDoorRows
import Derived.Shelf.SlSortCmp.KitK
import Derived.Deep.CutBlock
import Derived.Deep.CutRange
import Derived.BigRegion
import Derived.Deep.LoopGhost
import Derived.Outline
import Derived.Shelf.SlSortCmp.QuietGrown
import Derived.WalkSpells
/- The frame of QuerySays: its row lists the library's tables and the project's list of words. No law in sight. -/
namespace Go.Proofs.YtamlaeocojcgdaaDoor
set_option linter.unusedVariables false
open Go.ChangeShapes Go.WideShapes Go.ChangeAt Go.RowKit

/-- An array of strings that reads as the datum holds the datum's strings. -/
theorem cells_of_strs {H : Type} {enc : TypeId × Value → H} {P : Program} {w : World} {base : Nat} {sp : Nat → Bool} {held : Bool} {fuel : Nat} {t e : TypeId} {n : Nat} {cs : List Value} {zs : List (List UInt8)} {p : List MemPlace}
    (ht : P.underlying t = some (.array n e)) (he : P.underlying e = some .string) (hce : P.cellsOf e = 1) (hct : P.cellsOf t = n)
    (h : DataW.trod enc P w base sp held fuel t cs = some (.agg (zs.map fun z => DataW.lit (.string z)), p)) : cs = zs.map fun z => Value.string ⟨z.toArray⟩ := by
  cases fuel with
  | zero => simp [DataW.trod] at h
  | succ fuel =>
    simp only [DataW.trod, ht, hce, hct, Nat.mul_one] at h
    split at h
    · rename_i hl
      obtain ⟨xs, hm, hx⟩ := Option.map_eq_some_iff.1 h
      have hxs : xs.map (·.1) = zs.map fun z => (DataW.lit (.string z) : DataW H) := by
        have := congrArg Prod.fst hx
        simpa using this
      have hxl : xs.length = n := by simpa using Lib.mapM_length hm
      have hzl : zs.length = n := by
        have := congrArg List.length hxs
        simp at this
        omega
      apply List.ext_getElem?
      intro i
      by_cases hi : i < n
      · obtain ⟨b, hb, hf⟩ := Lib.mapM_at hm i i (by simp [hi])
        obtain ⟨z, hc, rfl, _⟩ := DataW.trod_string he hf
        have h1 : cs[i]? = some (.string z) := by
          have := congrArg (·[0]?) hc
          simpa [List.getElem?_take, List.getElem?_drop] using this
        have h2 : (xs.map (·.1))[i]? = some (DataW.lit (.string z.data.toList) : DataW H) := by simp [hb]
        rw [hxs] at h2
        simp only [List.getElem?_map, Option.map_eq_some_iff, DataW.lit.injEq, Lit.string.injEq] at h2
        obtain ⟨z', hz', e⟩ := h2
        have e2 : z = ⟨z'.toArray⟩ := by rw [e]
        simp [h1, hz', e2]
      · rw [List.getElem?_eq_none (by omega), List.getElem?_eq_none (by simp; omega)]
    · cases h
theorem verbs_named : Tryd.prog.globalNamed "viewmere/viewref.verbs" = some 0 := by kernel_rfl
theorem verbs_type : (Tryd.prog.globals[0]?).map (·.type) = some 43 := by kernel_rfl
abbrev verbL : List (List UInt8) := [verbB 0, verbB 1, verbB 2, verbB 3, verbB 4, verbB 5, verbB 6, verbB 7, verbB 8, verbB 9]
theorem verbs_data : (Rows.laid_viewmere_viewref_verbs : DataW Unit) = .agg (verbL.map fun z => DataW.lit (.string z)) := by kernel_rfl
end Go.Proofs.YtamlaeocojcgdaaDoor
/- Queries read: pieces of a text, numbers, steps of words. No program in sight. -/
namespace Go.Proofs.YtamlaeocojcgdaaDoor
set_option linter.unusedVariables false
set_option linter.unusedSimpArgs false

/-- The pieces of a text between bytes of one sort. -/
def pcs (c : UInt8) : List UInt8 → List (List UInt8)
  | [] => [[]]
  | x :: l => if x = c then [] :: pcs c l else match pcs c l with
    | [] => [[x]]
    | h :: t => (x :: h) :: t
theorem pcs_ne (c : UInt8) (l : List UInt8) : pcs c l ≠ [] := by
  cases l with
  | nil => simp [pcs]
  | cons x l =>
    unfold pcs
    by_cases h : x = c
    · rw [if_pos h]; simp
    · rw [if_neg h]
      split <;> simp
theorem pcs_sep (c : UInt8) (l : List UInt8) : pcs c (c :: l) = [] :: pcs c l := by rw [pcs, if_pos rfl]
theorem pcs_cons {c x : UInt8} (h : x ≠ c) {l p : List UInt8} {r : List (List UInt8)} (e : pcs c l = p :: r) : pcs c (x :: l) = (x :: p) :: r := by rw [pcs, if_neg h, e]
theorem pcs_pos (c : UInt8) (l : List UInt8) : 0 < (pcs c l).length := List.length_pos_iff.2 (pcs_ne c l)
theorem pcs_ex (c : UInt8) (l : List UInt8) : ∃ p r, pcs c l = p :: r := List.exists_cons_of_ne_nil (pcs_ne c l)
/-- One more byte of that sort. -/
theorem pcs_snoc_sep (c : UInt8) (l : List UInt8) : pcs c (l ++ [c]) = pcs c l ++ [[]] := by
  induction l with
  | nil => simp [pcs]
  | cons x l ih =>
    by_cases h : x = c
    · subst h
      rw [List.cons_append, pcs_sep, pcs_sep, ih]; rfl
    · obtain ⟨p, r, e⟩ := pcs_ex c l
      rw [List.cons_append, pcs_cons h (ih.trans (by rw [e]; rfl)), pcs_cons h e]; rfl
/-- One more byte of another sort. -/
theorem pcs_snoc {c x : UInt8} (h : x ≠ c) (l : List UInt8) : ∃ r p, pcs c l = r ++ [p] ∧ pcs c (l ++ [x]) = r ++ [p ++ [x]] := by
  induction l with
  | nil => exact ⟨[], [], rfl, by simp [pcs, h]⟩
  | cons y l ih =>
    obtain ⟨r, p, e1, e2⟩ := ih
    by_cases hy : y = c
    · subst hy
      exact ⟨[] :: r, p, by rw [pcs_sep, e1]; rfl, by rw [List.cons_append, pcs_sep, e2]; rfl⟩
    · cases r with
      | nil => exact ⟨[], y :: p, by rw [pcs_cons hy e1]; rfl, by rw [List.cons_append, pcs_cons hy e2]; rfl⟩
      | cons q r => exact ⟨(y :: q) :: r, p, by rw [pcs_cons hy e1]; rfl, by rw [List.cons_append, pcs_cons hy e2]; rfl⟩
theorem pcs_nosep {c : UInt8} {l : List UInt8} (h : c ∉ l) : pcs c l = [l] := by
  induction l with
  | nil => rfl
  | cons x l ih =>
    have h1 : x ≠ c := fun e => h (by rw [e]; exact List.mem_cons_self)
    have h2 : c ∉ l := fun e => h (List.mem_cons_of_mem _ e)
    rw [pcs_cons h1 (ih h2)]
theorem pcs_first {c : UInt8} {a : List UInt8} (h : c ∉ a) (b : List UInt8) : pcs c (a ++ c :: b) = a :: pcs c b := by
  induction a with
  | nil => exact pcs_sep c b
  | cons x a ih =>
    have h1 : x ≠ c := fun e => h (by rw [e]; exact List.mem_cons_self)
    have h2 : c ∉ a := fun e => h (List.mem_cons_of_mem _ e)
    rw [List.cons_append, pcs_cons h1 (ih h2)]
theorem pcs_len (c : UInt8) (l : List UInt8) : (pcs c l).length ≤ l.length + 1 ∧ ∀ p ∈ pcs c l, p.length ≤ l.length := by
  induction l with
  | nil => simp [pcs]
  | cons x l ih =>
    by_cases hx : x = c
    · subst hx
      rw [pcs_sep]
      refine ⟨by simp only [List.length_cons]; omega, fun p hp => ?_⟩
      rcases List.mem_cons.1 hp with rfl | hp
      · simp
      · have := ih.2 p hp; simp only [List.length_cons]; omega
    · obtain ⟨p, r, e⟩ := pcs_ex c l
      rw [pcs_cons hx e]
      rw [e] at ih
      refine ⟨by have := ih.1; simp only [List.length_cons] at *; omega, fun q hq => ?_⟩
      rcases List.mem_cons.1 hq with rfl | hq
      · have := ih.2 p (by simp); simp only [List.length_cons]; omega
      · have := ih.2 q (by simp [hq]); simp only [List.length_cons]; omega
/-! The library's words for it. -/
theorem index_pcs (c : UInt8) (s : List UInt8) : (c ∉ s ∧ Lib.index s [c] = -1) ∨ ∃ a b, c ∉ a ∧ s = a ++ c :: b ∧ Lib.index s [c] = a.length := by
  induction s with
  | nil => left; simp [Lib.index]
  | cons x s ih =>
    by_cases hx : x = c
    · subst hx
      right
      exact ⟨[], s, by simp, rfl, by simp [Lib.index, List.isPrefixOf]⟩
    · have hp : ([c].isPrefixOf (x :: s)) = false := by simp [List.isPrefixOf, Ne.symm hx]
      rcases ih with ⟨h1, h2⟩ | ⟨a, b, h1, h2, h3⟩
      · left
        refine ⟨fun h => ?_, by rw [Lib.index, hp, h2]; simp⟩
        rcases List.mem_cons.1 h with e | e
        · exact hx e.symm
        · exact h1 e
      · right
        refine ⟨x :: a, b, fun h => ?_, by rw [h2]; rfl, ?_⟩
        · rcases List.mem_cons.1 h with e | e
          · exact hx e.symm
          · exact h1 e
        · have hz : ((a.length : Int) == -1) = false := by rw [beq_eq_false_iff_ne]; omega
          rw [Lib.index, hp, h3]
          simp [hz]
theorem splitK_pcs (c : UInt8) : ∀ (k : Nat) (s : List UInt8), Lib.count s [c] ≤ k → Lib.splitK [c] 0 k s = pcs c s := by
  intro k
  induction k with
  | zero =>
    intro s h
    rcases index_pcs c s with ⟨h1, h2⟩ | ⟨a, b, h1, h2, h3⟩
    · rw [Lib.splitK, pcs_nosep h1]
    · exfalso
      have hz : ¬ ((a.length : Int) == -1) = true := by rw [beq_iff_eq]; omega
      unfold Lib.count at h
      rw [Lib.countFrom, h3, if_neg hz] at h
      omega
  | succ k ih =>
    intro s h
    rw [Lib.splitK]
    rcases index_pcs c s with ⟨h1, h2⟩ | ⟨a, b, h1, h2, h3⟩
    · rw [h2, pcs_nosep h1]; rfl
    · have hz : ¬ ((a.length : Int) == -1) = true := by rw [beq_iff_eq]; omega
      rw [h3, if_neg hz]
      have e1 : ((a.length : Int)).toNat = a.length := rfl
      have e2 : s.take (a.length + 0) = a := by rw [h2]; simp
      have e3 : s.drop (a.length + 1) = b := by rw [h2, List.drop_append]; simp
      rw [e1, e2, List.length_singleton, e3, ih, h2, pcs_first h1]
      have hc : Lib.count s [c] = 1 + Lib.count b [c] := by
        have := Lib.countB_hit ⟨s.toArray⟩ ⟨#[c]⟩ a.length (show 1 ≤ (#[c] : Array UInt8).size from Nat.le_refl 1) (by simpa [Lib.indexB] using h3)
        unfold Lib.countB at this
        rw [Lib.extract_to_end] at this
        exact this.trans (by show 1 + Lib.count (s.drop (a.length + 1)) [c] = _; rw [e3])
      omega
theorem split_pcs (c : UInt8) (s : ByteArray) : (Lib.splitB ⟨#[c]⟩ 0 (Lib.countB s ⟨#[c]⟩) s).map (·.data.toList) = pcs c s.data.toList := by
  rw [Lib.splitB_data]
  exact splitK_pcs c _ _ (Nat.le_refl _)
theorem cut_miss {c : UInt8} {s : List UInt8} (h : c ∉ s) : Lib.cut s [c] = (s, [], false) := by
  rcases index_pcs c s with ⟨h1, h2⟩ | ⟨a, b, h1, h2, h3⟩
  · rw [Lib.cut, h2]; rfl
  · exact absurd (by rw [h2]; simp) h
theorem cut_hit {c : UInt8} {a b : List UInt8} (h : c ∉ a) : Lib.cut (a ++ c :: b) [c] = (a, b, true) := by
  rcases index_pcs c (a ++ c :: b) with ⟨h1, h2⟩ | ⟨a', b', h1, h2, h3⟩
  · exact absurd (by simp) h1
  · have e : a' = a ∧ b' = b := by
      have p1 := pcs_first h b
      have p2 := pcs_first h1 b'
      rw [← h2] at p2
      have q := p1.symm.trans p2
      have ea : a = a' := (List.cons.inj q).1
      subst ea
      have := List.append_cancel_left h2
      exact ⟨rfl, (List.cons.inj this).2.symm⟩
    obtain ⟨rfl, rfl⟩ := e
    rw [Lib.cut, h3, if_pos (by omega)]
    simp
theorem sep_or (c : UInt8) (s : List UInt8) : c ∉ s ∨ ∃ a b, c ∉ a ∧ s = a ++ c :: b := by
  rcases index_pcs c s with ⟨h1, _⟩ | ⟨a, b, h1, h2, _⟩
  · exact .inl h1
  · exact .inr ⟨a, b, h1, h2⟩

/-! numbers -/
def digB (x : UInt8) : Bool := decide (48 ≤ x.toNat) && decide (x.toNat ≤ 57)
def valD (l : List UInt8) : Int := l.foldl (fun n x => 10 * n + ((x.toNat : Int) - 48)) 0
theorem valD_snoc (l : List UInt8) (x : UInt8) : valD (l ++ [x]) = 10 * valD l + ((x.toNat : Int) - 48) := by simp [valD]
theorem valD_rng : ∀ (n : Nat) (l : List UInt8), l.length = n → (∀ x ∈ l, digB x = true) → 0 ≤ valD l ∧ valD l < 10 ^ n := by
  intro n
  induction n with
  | zero => intro l h _; rw [List.length_eq_zero_iff.1 h]; simp [valD]
  | succ n ih =>
    intro l h hd
    obtain ⟨l', x, rfl⟩ : ∃ l' x, l = l' ++ [x] := by
      have hne : l ≠ [] := fun e => by rw [e] at h; simp at h
      exact ⟨l.dropLast, l.getLast hne, (List.dropLast_concat_getLast hne).symm⟩
    have h1 := ih l' (by simp at h; omega) (fun y hy => hd y (by simp [hy]))
    have h2 := hd x (by simp)
    simp only [digB, Bool.and_eq_true, decide_eq_true_eq] at h2
    rw [valD_snoc, Int.pow_succ]
    omega
/-- A first digit that is no nought: no nought. -/
theorem valD_pos {x : UInt8} {l : List UInt8} (hx : digB x = true) (h0 : x ≠ 48) (hd : ∀ y ∈ l, digB y = true) : 0 < valD (x :: l) := by
  have hx' : 1 ≤ (x.toNat : Int) - 48 := by
    simp only [digB, Bool.and_eq_true, decide_eq_true_eq] at hx
    have : x.toNat ≠ 48 := fun e => h0 (UInt8.toNat_inj.1 e)
    omega
  obtain ⟨n, hn⟩ : ∃ n, l.length = n := ⟨_, rfl⟩
  revert l
  induction n with
  | zero =>
    intro l hd hn
    rw [List.length_eq_zero_iff.1 hn]
    simp only [valD, List.foldl_cons, List.foldl_nil]; omega
  | succ n ih =>
    intro l hd hn
    obtain ⟨l', y, rfl⟩ : ∃ l' y, l = l' ++ [y] := by
      have hne : l ≠ [] := fun e => by rw [e] at hn; simp at hn
      exact ⟨l.dropLast, l.getLast hne, (List.dropLast_concat_getLast hne).symm⟩
    have h1 := ih (l := l') (fun z hz => hd z (by simp [hz])) (by simp at hn; omega)
    have h2 := hd y (by simp)
    simp only [digB, Bool.and_eq_true, decide_eq_true_eq] at h2
    rw [← List.cons_append, valD_snoc]
    omega
/-- Digits behind a sign that is there or not. -/
def numD (m : Bool) (d : List UInt8) : Option Int :=
  if 1 ≤ d.length ∧ d.length ≤ 10 ∧ ¬ (d.head? = some 48 ∧ (1 < d.length ∨ m = true)) ∧ (∀ x ∈ d, digB x = true) then some (if m then - valD d else valD d) else none
def numR (s : List UInt8) : Option Int := if s.head? = some 45 then numD true s.tail else numD false s
def numsR : List (List UInt8) → Option (List Int)
  | [] => some []
  | x :: l => match numR x, numsR l with
    | some n, some ns => some (n :: ns)
    | _, _ => none
theorem numsR_bad {x : List UInt8} {l : List (List UInt8)} (hx : x ∈ l) (h : numR x = none) : numsR l = none := by
  induction l with
  | nil => cases hx
  | cons y l ih =>
    rcases List.mem_cons.1 hx with rfl | hx
    · rw [numsR, h]
    · rw [numsR, ih hx]
      cases numR y <;> rfl
theorem numsR_snoc {l : List (List UInt8)} {ns : List Int} {x : List UInt8} {n : Int} (h : numsR l = some ns) (hx : numR x = some n) : numsR (l ++ [x]) = some (ns ++ [n]) := by
  induction l generalizing ns with
  | nil =>
    rw [numsR] at h
    obtain rfl := (Option.some.inj h).symm
    simp [numsR, hx]
  | cons y l ih =>
    rw [numsR] at h
    revert h
    cases hy : numR y with
    | none => simp
    | some m =>
      cases hl : numsR l with
      | none => simp
      | some ms =>
        intro h
        obtain rfl := (Option.some.inj h).symm
        rw [List.cons_append, numsR, hy, ih hl]; rfl
theorem numsR_len {l : List (List UInt8)} {ns : List Int} (h : numsR l = some ns) : ns.length = l.length := by
  induction l generalizing ns with
  | nil => rw [numsR] at h; obtain rfl := (Option.some.inj h).symm; rfl
  | cons y l ih =>
    rw [numsR] at h
    revert h
    cases hy : numR y with
    | none => simp
    | some m =>
      cases hl : numsR l with
      | none => simp
      | some ms =>
        intro h
        obtain rfl := (Option.some.inj h).symm
        simp [ih hl]
/-! steps -/
def signR (o : List UInt8) : Option Int := if o = [60] then some 1 else if o = [61] then some 2 else if o = [62] then some 3 else none
def kindR (v : List UInt8) : Int :=
  if v = verbB 1 then 1 else if v = verbB 2 then 2 else if v = verbB 3 then 3 else if v = verbB 4 then 4 else if v = verbB 5 then 5 else if v = verbB 6 then 6 else if v = verbB 7 then 7 else if v = verbB 8 then 8 else if v = verbB 9 then 9 else 0
/-- A step of its numbers. -/
def mkR (k : Int) (op : Int) (l : List Int) : List Int → Option St
  | [a] => if k = 1 ∨ k = 7 ∨ k = 3 then some ⟨k, a, 0, 0, op, 0, l⟩ else none
  | [a, b] => if k = 5 ∨ k = 6 then some ⟨k, a, b, 0, op, 0, l⟩ else if k = 8 then some ⟨k, a, 0, b, op, 0, l⟩ else none
  | [a, b, c] => if k = 2 ∨ k = 9 then some ⟨k, a, 0, b, op, c, l⟩ else none
  | [a, b, c, d] => if k = 4 then some ⟨k, a, b, c, op, d, l⟩ else none
  | _ => none
/-- A step of words; none: it is none. -/
def stepR : List (List UInt8) → Option St
  | [] => none
  | v :: r =>
    if kindR v = 2 then match r with
      | [x, y, o, z] => match signR o, numsR [x, y, z] with
        | some p, some ns => mkR 2 p [] ns
        | _, _ => none
      | _ => none
    else if kindR v = 3 then match r with
      | [x, y] => match numsR [x], numsR (pcs 44 y) with
        | some ns, some l => mkR 3 0 l ns
        | _, _ => none
      | _ => none
    else match numsR r with
      | some ns => mkR (kindR v) 0 [] ns
      | none => none
/-- Lines read, from the n-th one on: the number of the line that is none, or the steps. -/
def linesR : List (List UInt8) → Int → Sum Int (List St)
  | [], _ => .inr []
  | [x], n => if x = [] then .inr [] else .inl n
  | x :: y :: r, n => match stepR (pcs 32 x) with
    | none => .inl n
    | some s => match linesR (y :: r) (n + 1) with
      | .inl k => .inl k
      | .inr q => .inr (s :: q)
/-- P11: what Parse answers. -/
def parseR (s : List UInt8) : List St × Int × Int :=
  if 1024 < s.length then ([], 0, 2) else match linesR (pcs 10 s) 1 with
    | .inl k => ([], k, 3)
    | .inr q => if queryE q = 0 then (q, 0, 0) else ([], 0, queryE q)
end Go.Proofs.YtamlaeocojcgdaaDoor
/- Strings by their bytes. No program in sight. -/
namespace Go.Proofs.YtamlaeocojcgdaaDoor
theorem bsq_get (L : List UInt8) (i : Nat) (h : i < L.length) : (bstr L)[i]'h = L[i] := by simp [ByteArray.getElem_eq_getElem_data]
theorem bsq_lt (b : UInt8) : b.toNat < 256 := b.toNat_lt
theorem bstr_list (L : List UInt8) : (bstr L).data.toList = L := rfl
theorem bstr_of (s : ByteArray) : s = bstr s.data.toList := rfl
theorem bsq_eqT {A B : ByteArray} {a b : List UInt8} (hA : A = bstr a) (hB : B = bstr b) (h : a = b) : (A.toList == B.toList) = true := by
  rw [hA, hB, h]; exact beq_self_eq_true _
theorem bsq_eqF {A B : ByteArray} {a b : List UInt8} (hA : A = bstr a) (hB : B = bstr b) (h : a ≠ b) : (A.toList == B.toList) = false := by
  rw [hA, hB, ByteArray.toList_eq, ByteArray.toList_eq]
  exact beq_eq_false_iff_ne.2 h
end Go.Proofs.YtamlaeocojcgdaaDoor
/- Words for memory that every seat wants: rows of things of more than one cell, owned rows of whatever size. No program in sight. -/
namespace Go.Proofs.YtamlaeocojcgdaaDoor
set_option linter.unusedVariables false
open Go.RowKit

theorem flat_len {α β : Type} {f : α → List β} {n : Nat} (hf : ∀ x, (f x).length = n) : ∀ (L : List α), (L.flatMap f).length = L.length * n
  | [] => by simp
  | x :: L => by rw [List.flatMap_cons, List.length_append, hf, flat_len hf L, List.length_cons, Nat.succ_mul, Nat.add_comm]
theorem flat_get {α β : Type} {f : α → List β} {n : Nat} (hf : ∀ x, (f x).length = n) : ∀ (L : List α) (k : Nat) (h : k < L.length) (j : Nat), j < n → (L.flatMap f)[k * n + j]? = (f L[k])[j]?
  | x :: L, 0, _, j, hj => by
    rw [List.flatMap_cons, Nat.zero_mul, Nat.zero_add, List.getElem?_append_left (by rw [hf]; exact hj)]; rfl
  | x :: L, k + 1, h, j, hj => by
    rw [List.flatMap_cons, List.getElem?_append_right (by rw [hf, Nat.succ_mul]; omega), hf, show (k + 1) * n + j - n = k * n + j by rw [Nat.succ_mul]; omega]
    exact flat_get hf L k (by simpa using h) j hj
/-- What lies at the k-th thing of a row. -/
theorem Row.flat {α : Type} {f : α → List Value} {n : Nat} (hf : ∀ x, (f x).length = n) {w : World} {B : Nat} {A : Option Addr} {L : List α} (h : Row w B A (L.flatMap f)) (hn : 0 < n) {k : Nat} (hk : k < L.length) :
    ∃ b off, A = some ⟨b, off, none⟩ ∧ b < B ∧ ∀ j u, (f L[k])[j]? = some u → w.cell? ⟨b, off + k * n + j, none⟩ = some u := by
  have hlen : 0 < (L.flatMap f).length := by rw [flat_len hf]; exact Nat.mul_pos (by omega) hn
  obtain ⟨b, off, h1, h2, h3⟩ := h.at_ hlen
  refine ⟨b, off, h1, h2, fun j u hu => ?_⟩
  have hj : j < n := by
    rcases Nat.lt_or_ge j n with h | h
    · exact h
    · rw [List.getElem?_eq_none (by rw [hf]; exact h)] at hu; cases hu
  have := h3 (k * n + j) u (by rw [flat_get hf L k hk j hj]; exact hu)
  rw [← Nat.add_assoc] at this
  exact this

theorem add_none (b off j : Nat) : (⟨b, off, none⟩ : Addr).add j = ⟨b, off + j, none⟩ := by
  unfold Addr.add
  split
  · subst_vars; rfl
  · rfl
/-- A slice's block is none that was there ahead. -/
def NewAt (lo : Nat) (A : Option Addr) : Prop := ∀ b off q, A = some ⟨b, off, q⟩ → lo ≤ b
theorem grown_of_below {w w' : World} (h : Below w.heap.size w w') : w.grownBy w' none := ⟨h.os, h.tape, h.output, h.size, fun k hk _ => h.block k hk⟩
theorem Row.of_ownS {w : World} {B n c s : Nat} {T : TypeId} {A : Option Addr} {xs : List Value} (h : w.ownsRow B T s (.slice A n c) n xs) : Row w w.heap.size A xs := by
  rcases h.2 with ⟨h', h0⟩ | ⟨g, cap, cur, h', hb, hg, hnc, hcm, hcs, htake⟩
  · have : xs = [] := List.eq_nil_of_length_eq_zero (by rw [h.1, h0, Nat.zero_mul])
    exact .inl this
  · injection h' with h1 h2 h3
    subst h1
    have hlt : g < w.heap.size := by
      rcases Nat.lt_or_ge g w.heap.size with h | h
      · exact h
      · rw [Array.getElem?_eq_none h] at hg; cases hg
    refine .inr ⟨g, 0, rfl, hlt, fun j u hu => ?_⟩
    have := h.cells (g := g) rfl j u hu
    rwa [add_none] at this
theorem own_formS {w : World} {B n s : Nat} {T : TypeId} {v : Value} {xs : List Value} (h : w.ownsRow B T s v n xs) : ∃ A c, v = .slice A n c := by
  rcases h.2 with ⟨rfl, rfl⟩ | ⟨g, cap, cur, rfl, _⟩
  · exact ⟨none, 0, rfl⟩
  · exact ⟨_, _, rfl⟩
theorem own_laterS {w w' : World} {B n s : Nat} {T : TypeId} {v : Value} {xs : List Value} (h : w.ownsRow B T s v n xs) (hb : Below w.heap.size w w') : w'.ownsRow B T s v n xs :=
  h.kept (grown_of_below hb) (by cases hv : v.ownBlock <;> simp)
/-- What a new block holds, as append reads it. -/
theorem news_at (w : World) (cs : List Value) (T : TypeId) (H : Nat) (hH : w.heap.size = H) : ∀ j u, cs[j]? = some u → (w.alloc (.cells cs.toArray T)).cell? ((⟨H, 0, none⟩ : Addr).add j) = some u := by
  intro j u hu
  subst hH
  rw [add_none, Nat.zero_add, cell_of_row _ _ j _ _ _ (heap_alloc_new w _)]
  simpa using hu
end Go.Proofs.YtamlaeocojcgdaaDoor
/- Items of sets in memory: a row and how many times; lists of ints. -/
namespace Go.Proofs.YtamlaeocojcgdaaDoor
set_option linter.unusedVariables false
open Go.RowKit

/-- An item, and where its row lies. -/
structure IR where
  row : List Int
  A : Option Addr
  k : Nat
  n : Int
instance : Inhabited IR := ⟨⟨[], none, 0, 0⟩⟩
abbrev IR.cells (x : IR) : List Value := [.slice x.A x.row.length x.k, .int .i64 x.n]
abbrev rcells (L : List IR) : List Value := L.flatMap IR.cells
theorem IR.len (x : IR) : x.cells.length = 2 := rfl
abbrev icells' (l : List Int) : List Value := l.map (Value.int .i64)
/-- The rows of the items lie below B. -/
def RowsAt (w : World) (B : Nat) (L : List IR) : Prop := ∀ x ∈ L, Row w B x.A (icells' x.row) ∧ x.row.length ≤ 9223372036854775807
/-- A list of items lies at A, their rows too. -/
def RowI (w : World) (B : Nat) (A : Option Addr) (L : List IR) : Prop := Row w B A (rcells L) ∧ RowsAt w B L
theorem RowsAt.below {w w' : World} {B C : Nat} {L : List IR} (h : RowsAt w B L) (hb : Below C w w') (hB : B ≤ C) : RowsAt w' B L := fun x hx => ⟨(h x hx).1.below hb hB, (h x hx).2⟩
theorem RowsAt.more {w : World} {B C : Nat} {L : List IR} (h : RowsAt w B L) (hB : B ≤ C) : RowsAt w C L := fun x hx => ⟨(h x hx).1.more hB, (h x hx).2⟩
theorem RowsAt.step {w w' : World} {L : List IR} (h : RowsAt w w.heap.size L) (hb : Below w.heap.size w w') : RowsAt w' w'.heap.size L := (h.below hb (Nat.le_refl _)).more hb.size
theorem RowI.step {w w' : World} {A : Option Addr} {L : List IR} (h : RowI w w.heap.size A L) (hb : Below w.heap.size w w') : RowI w' w'.heap.size A L := ⟨h.1.step hb, h.2.step hb⟩
theorem RowI.nil {w : World} {B : Nat} {A : Option Addr} : RowI w B A [] := ⟨Row.nil, fun x hx => by simp at hx⟩
theorem Row.int' {w : World} {B : Nat} {A : Option Addr} {l : List Int} (h : Row w B A (icells' l)) {k : Nat} (hk : k < l.length) :
    ∃ b off, A = some ⟨b, off, none⟩ ∧ b < B ∧ w.cell? ⟨b, off + k, none⟩ = some (.int .i64 l[k]) := by
  obtain ⟨b, off, h1, h2, h3⟩ := h.at_ (show 0 < (icells' l).length by simp; omega)
  exact ⟨b, off, h1, h2, h3 k _ (by simp [hk])⟩
end Go.Proofs.YtamlaeocojcgdaaDoor
/- Sets with weights: which rows and weights may be; slices.IndexFunc, ContainsFunc at int. -/
namespace Go.Proofs.YtamlaeocojcgdaaDoor
set_option linter.unusedVariables false
set_option linter.unusedSimpArgs false
open Go.ChangeShapes Go.WideShapes Go.ChangeAt Go.RowKit

/-- An index that IndexFunc tells: at least 0 just if there is one. -/
def FoundAt (p : Prop) (w : World) (e : Ending) (w' : World) : Prop := ∃ i : Int, e = .returned (.int .i64 i) ∧ (0 ≤ i ↔ p) ∧ Below w.heap.size w w'
/-- What is asked of a function value: handed an element of the list, in whatever later world, it answers p, and leaves what was there. -/
def PredNt (g : Nat) (caps : Array Value) (p : Int → Bool) (L : List Int) (w : World) : Prop :=
  ∀ w', Below w.heap.size w w' → ∀ x ∈ L, Calls Tryd.prog g (#[.int .i64 x] ++ caps) w' fun e w'' => e = .returned (.bool (p x)) ∧ Below w'.heap.size w' w''
set_option maxHeartbeats 400000 in
set_option maxRecDepth 100000 in
theorem indexNt_any (g : Nat) (caps : Array Value) (p : Int → Bool) (L : List Int) (A : Option Addr) (c : Nat) (w : World) (hr : Row w w.heap.size A (icells' L)) (hl : L.length ≤ 9223372036854775807)
    (eg : ∀ args w, (callFunc g args).run Tryd.prog w = .ok (.enter g args) w) (hp : PredNt g caps p L w) :
    Calls Tryd.prog 74 #[.slice A L.length c, .func (.func g) #[] caps] w (FoundAt (L.any p = true) w) := by
  have HR := hid hr
  clear hr
  go_enter Tryd.func74, Tryd.ntmps74
  go_wp2
  go_loopw [8] (fun i wr => (∃ k : Nat, k ≤ L.length ∧ i = .int .i64 k ∧ ∀ j (h : j < L.length), j < k → p L[j] = false) ∧ Below w.heap.size w wr) (fun i _ => L.length - (intOf i).toNat)
  case atStart => exact ⟨⟨0, by omega, rfl, fun j _ h => absurd h (by omega)⟩, Below.refl _ _⟩
  case round =>
    obtain ⟨⟨k, hk, rfl, hno⟩, hbw⟩ := hrel
    by_cases hlt : k < L.length
    · obtain ⟨b, off, rfl, hb, h0⟩ := (HR.out.below hbw (Nat.le_refl _)).int' hlt
      have hc := hp wr hbw L[k] (List.getElem_mem _)
      have HN := hid hno
      have HB := hid hbw
      have HC := hid hc
      clear hno hbw hc
      generalize hd : L[k] = d at *
      have HD := hid hd
      clear hd
      (try simp only [IR.cells] at h0 HC)
      obtain ⟨pd, hpd⟩ : ∃ b, b = p d := ⟨_, rfl⟩
      rw [← hpd] at HC
      have HP := hid hpd
      clear hpd
      cases pd
      all_goals
        go_wp2_with (refine (HC.out).mono ?_; rintro e w1 ⟨rfl, hb1⟩)
      · go_roundw
        case rel =>
          refine ⟨⟨k + 1, by omega, by go_num, fun j h hj => ?_⟩, HB.out.trans (hb1.mono HB.out.size)⟩
          by_cases e : j = k
          · subst e; rw [HD.out]; exact HP.out.symm
          · exact HN.out j h (by omega)
        case measure => simp [intOf]; omega
      · go_ret
        refine ⟨k, rfl, iff_of_true (by omega) (List.any_eq_true.2 ⟨L[k], List.getElem_mem _, by rw [HD.out]; exact HP.out.symm⟩), HB.out.trans (hb1.mono HB.out.size)⟩
    · go_wp2
      go_ret
      refine ⟨-1, rfl, iff_of_false (by omega) ?_, hbw⟩
      intro hm
      obtain ⟨d, hd, e⟩ := List.any_eq_true.1 hm
      obtain ⟨j, hj, rfl⟩ := List.getElem_of_mem hd
      rw [hno j hj (by omega)] at e
      cases e
theorem containsNt_any (g : Nat) (caps : Array Value) (p : Int → Bool) (L : List Int) (A : Option Addr) (c : Nat) (w : World) (hr : Row w w.heap.size A (icells' L)) (hl : L.length ≤ 9223372036854775807)
    (eg : ∀ args w, (callFunc g args).run Tryd.prog w = .ok (.enter g args) w) (hp : PredNt g caps p L w) :
    Calls Tryd.prog 57 #[.slice A L.length c, .func (.func g) #[] caps] w fun e w' => e = .returned (.bool (L.any p)) ∧ Below w.heap.size w w' := by
  have H := indexNt_any g caps p L A c w hr hl eg hp
  have HR := hid hr
  have HP := hid hp
  clear hr eg hp
  go_enter Tryd.func57, Tryd.ntmps57
  go_wp2_with (go_at_call 74; refine H.mono ?_; rintro e w' ⟨i, rfl, hi, hb⟩)
  go_ret
  refine ⟨ret_bool ?_, hb⟩
  first
    | (rw [Bool.eq_iff_iff, decide_eq_true_eq]; exact hi)
    | (rw [Bool.eq_iff_iff, decide_eq_true_eq, List.any_eq_true])

end Go.Proofs.YtamlaeocojcgdaaDoor
/- Words for items of a call's own making. -/
namespace Go.Proofs.YtamlaeocojcgdaaDoor
set_option linter.unusedVariables false
set_option linter.unusedSimpArgs false
open Go.ChangeShapes Go.WideShapes Go.ChangeAt Go.RowKit

theorem Row.grown_ne {w w' : World} {B : Nat} {A : Option Addr} {xs : List Value} {r : Option Nat} (h : Row w B A xs) (hB : B ≤ w.heap.size) (hg : w.grownBy w' r) (hr : ∀ b off q, A = some ⟨b, off, q⟩ → some b ≠ r) : Row w' B A xs := by
  rcases h with h | ⟨b, off, h1, h2, h3⟩
  · exact .inl h
  · refine .inr ⟨b, off, h1, h2, fun j u hu => ?_⟩
    rw [World.cell?_of_block (w := w) (hg.block b (by omega) (hr b off none h1))]
    exact h3 j u hu
/-- A row of ints in a block of its own: it lies there, and its room is known. -/
structure RowOwn (w : World) (A : Option Addr) (l : List Int) (k : Nat) : Prop where
  row : Row w w.heap.size A (icells' l)
  own : w.ownsRow 0 3 1 (.slice A l.length k) l.length (icells' l)
theorem RowOwn.step {w w' : World} {A : Option Addr} {l : List Int} {k : Nat} (h : RowOwn w A l k) (hb : Below w.heap.size w w') : RowOwn w' A l k := ⟨h.row.step hb, own_laterS h.own hb⟩
theorem RowOwn.grown_ne {w w' : World} {B : Nat} {A : Option Addr} {l : List Int} {k : Nat} {r : Option Nat} (h : RowOwn w A l k) (_ : B ≤ w.heap.size) (hg : w.grownBy w' r) (hr : ∀ b off q, A = some ⟨b, off, q⟩ → some b ≠ r) : RowOwn w' A l k := by
  refine ⟨(h.row.grown_ne (Nat.le_refl _) hg hr).more hg.size, ?_⟩
  obtain ⟨h1, h2⟩ := h.own
  refine ⟨h1, ?_⟩
  rcases h2 with h2 | ⟨b, cap, cur, e, hb, hgt, h3⟩
  · exact .inl h2
  · have hlt : b < w.heap.size := by
      rcases Nat.lt_or_ge b w.heap.size with h | h
      · exact h
      · rw [Array.getElem?_eq_none h] at hgt; cases hgt
    refine .inr ⟨b, cap, cur, e, hb, (hg.block b hlt ?_).trans hgt, h3⟩
    injection e with e
    exact hr b 0 none e
theorem RowOwn.more {w : World} {A : Option Addr} {l : List Int} {k B C : Nat} (h : RowOwn w A l k) (_ : B ≤ C) : RowOwn w A l k := h
/-- The rows of items that a call has made: in blocks of their own. -/
def RowsNew (w : World) (lo : Nat) (v : Value) (M : List IR) : Prop := ∀ x ∈ M, RowOwn w x.A x.row x.k ∧ NewAt lo x.A ∧ (∀ b off q, x.A = some ⟨b, off, q⟩ → some b ≠ v.ownBlock ∧ b < w.heap.size) ∧ x.row.length ≤ 1048576
theorem RowsNew.nil (w : World) (lo : Nat) (v : Value) : RowsNew w lo v [] := fun x hx => by simp at hx
theorem RowsNew.step {w w' : World} {lo : Nat} {v : Value} {M : List IR} (h : RowsNew w lo v M) (hb : Below w.heap.size w w') : RowsNew w' lo v M := fun x hx => by
  obtain ⟨h1, h2, h3, h4⟩ := h x hx
  exact ⟨h1.step hb, h2, fun b off q e => ⟨(h3 b off q e).1, Nat.lt_of_lt_of_le (h3 b off q e).2 hb.size⟩, h4⟩
theorem RowsNew.grown {w w' : World} {lo : Nat} {v v' : Value} {M : List IR} (h : RowsNew w lo v M) (hg : w.grownBy w' v.ownBlock) (hv : v'.ownBlock = v.ownBlock ∨ v'.ownBlock = some w.heap.size) : RowsNew w' lo v' M := fun x hx => by
  obtain ⟨h1, h2, h3, h4⟩ := h x hx
  refine ⟨h1.grown_ne (Nat.le_refl _) hg (fun b off q e => (h3 b off q e).1), h2, fun b off q e => ⟨?_, Nat.lt_of_lt_of_le (h3 b off q e).2 hg.size⟩, h4⟩
  rcases hv with hv | hv
  · rw [hv]; exact (h3 b off q e).1
  · rw [hv]; intro e2; injection e2 with e2; have := (h3 b off q e).2; omega
theorem RowsNew.snoc {w : World} {lo : Nat} {v : Value} {M : List IR} (h : RowsNew w lo v M) {x : IR} (h1 : RowOwn w x.A x.row x.k) (h2 : NewAt lo x.A) (h3 : ∀ b off q, x.A = some ⟨b, off, q⟩ → some b ≠ v.ownBlock ∧ b < w.heap.size) (h4 : x.row.length ≤ 1048576) : RowsNew w lo v (M ++ [x]) := fun y hy => by
  rcases List.mem_append.1 hy with e | e
  · exact h y e
  · rw [List.mem_singleton.1 e]; exact ⟨h1, h2, h3, h4⟩
theorem RowsNew.rows {w : World} {lo : Nat} {v : Value} {M : List IR} (h : RowsNew w lo v M) : RowsAt w w.heap.size M := fun x hx => ⟨(h x hx).1.row, Nat.le_trans (h x hx).2.2.2 (by decide)⟩
end Go.Proofs.YtamlaeocojcgdaaDoor
/- slices.SortStableFunc at items: swapRange, rotate. -/
namespace Go.Proofs.YtamlaeocojcgdaaDoor
set_option linter.unusedVariables false
open Go.ChangeShapes Go.WideShapes Go.ChangeAt Go.RowKit Go.Shelf Go.Lib Go.Sort

/-- Items of which something holds. -/
abbrev QI (Q : IR → Prop) := {x : IR // Q x}
abbrev QI.cells {Q : IR → Prop} (x : QI Q) : List Value := x.1.cells
variable {Q : IR → Prop} [Inhabited (QI Q)]

end Go.Proofs.YtamlaeocojcgdaaDoor
/- The stable sort over a row of items that the call owns, nil too; slices.Clone at int. -/
namespace Go.Proofs.YtamlaeocojcgdaaDoor
set_option linter.unusedVariables false
set_option linter.unusedSimpArgs false
open Go.ChangeShapes Go.WideShapes Go.ChangeAt Go.RowKit Go.Shelf Go.Lib Go.Sort

theorem elem_int : Elem Tryd.prog 26 3 1 8 := ⟨Tryd.underlying26, by
  obtain ⟨i, hi, hz, hs, hb⟩ := info_parts (P := Tryd.prog) (e := 3) (z := .int .i64 0) (size := 1) (bytes := 8) (by kernel_rfl)
  exact ⟨i, _, hi, hz, hs, hb, rfl⟩, by decide⟩
end Go.Proofs.YtamlaeocojcgdaaDoor
/- zset.Sum: each row with its weight in all, in order. -/
namespace Go.Proofs.YtamlaeocojcgdaaDoor
set_option linter.unusedVariables false
set_option linter.unusedSimpArgs false
open Go.ChangeShapes Go.WideShapes Go.ChangeAt Go.RowKit Go.Shelf Go.Lib Go.Sort

/-- A list of items, and where it lies. -/
structure LR where
  L : List IR
  A : Option Addr
  k : Nat
abbrev LR.cells (x : LR) : List Value := [.slice x.A x.L.length x.k]
theorem LR.len (x : LR) : x.cells.length = 1 := rfl
end Go.Proofs.YtamlaeocojcgdaaDoor
/- rank's closures, rank.width, the order of rows. -/
namespace Go.Proofs.YtamlaeocojcgdaaDoor
set_option linter.unusedVariables false
set_option linter.unusedSimpArgs false
open Go.ChangeShapes Go.WideShapes Go.ChangeAt Go.RowKit Go.Shelf Go.Lib Go.Sort

/-- A variable that a closure has caught. -/
def Caught (w : World) (a : Addr) (v : Value) : Prop := w.cell? a = some v ∧ a.block < w.heap.size
theorem Caught.step {w w' : World} {b off : Nat} {v : Value} (h : Caught w ⟨b, off, none⟩ v) (hb : Below w.heap.size w w') : Caught w' ⟨b, off, none⟩ v := ⟨((bcell hb).1 b off h.2).trans h.1, Nat.lt_of_lt_of_le h.2 hb.size⟩

end Go.Proofs.YtamlaeocojcgdaaDoor
