/- SinP, Wout -/
import Derived.Test.YtogegnikpjcpdaaCk12
import Derived.Test.YtogegnikpjcpdaaCk05
import Derived.Test.YtogegnikpjcpdaaCk06
import Derived.Test.YtogegnikpjcpdaaCk08
/- What is told since (plain): a context without some of its dots is the hole below each node's first such dot, and what is missing there. -/
namespace Go.Proofs.Ytogegnikpjcpdaa
set_option linter.unusedVariables false

def holeStep (n : Int) (k : Int) (d : Int × Int) : Int := if d.1 = n ∧ d.2 ≤ k then d.2 - 1 else k
def holeN (c : Ctx) (g : List (Int × Int)) (n : Int) : Int := g.foldl (holeStep n) (c.at_ n)
def holeC (c : Ctx) (g : List (Int × Int)) : Ctx := ⟨holeN c g 0, holeN c g 1, holeN c g 2, holeN c g 3, g⟩
theorem hole_at (c : Ctx) (g : List (Int × Int)) {n : Int} (h0 : 0 ≤ n) (h4 : n < 4) : (holeC c g).at_ n = holeN c g n := by
  rcases (by omega : n = 0 ∨ n = 1 ∨ n = 2 ∨ n = 3) with h | h | h | h <;> subst h <;> simp [Ctx.at_, holeC]
theorem hole_fold (n : Int) : ∀ (g : List (Int × Int)) (k : Int), g.foldl (holeStep n) k ≤ k ∧ (∀ d ∈ g, d.1 = n → d.2 ≤ k → g.foldl (holeStep n) k < d.2) ∧
    (g.foldl (holeStep n) k = k ∨ (n, g.foldl (holeStep n) k + 1) ∈ g)
  | [], k => by simp
  | d :: g, k => by
    obtain ⟨h1, h2, h3⟩ := hole_fold n g (holeStep n k d)
    rw [List.foldl_cons]
    have hs : holeStep n k d ≤ k ∧ (d.1 = n → d.2 ≤ k → holeStep n k d < d.2) ∧ (∀ x : Int, ¬ x ≤ holeStep n k d → x ≤ k → holeStep n k d < x) := by
      unfold holeStep
      split
      · rename_i h; exact ⟨by omega, fun _ _ => by omega, fun x _ _ => by omega⟩
      · rename_i h; exact ⟨by omega, fun h1 h2 => absurd ⟨h1, h2⟩ h, fun x h1 h2 => by omega⟩
    refine ⟨by omega, fun x hx e hk => ?_, ?_⟩
    · rcases List.mem_cons.1 hx with rfl | hx
      · have := hs.2.1 e hk; omega
      · by_cases hq : x.2 ≤ holeStep n k d
        · exact h2 x hx e hq
        · have := hs.2.2 x.2 hq hk; omega
    · rcases h3 with h3 | h3
      · rw [h3]
        unfold holeStep
        split
        · rename_i hq
          right
          have : (n, d.2 - 1 + 1) = d := by obtain ⟨a, b⟩ := d; simp only at hq ⊢; rw [hq.1]; congr 1; omega
          rw [this]; simp
        · exact .inl rfl
      · right; simp [h3]
theorem hole_le (c : Ctx) (g : List (Int × Int)) (n : Int) : holeN c g n ≤ c.at_ n := (hole_fold n g _).1
theorem hole_lt {c : Ctx} {g : List (Int × Int)} {d : Int × Int} (hd : d ∈ g) (h : d.2 ≤ c.at_ d.1) : holeN c g d.1 < d.2 := (hole_fold d.1 g _).2.1 d hd rfl h
theorem hole_in {c : Ctx} {g : List (Int × Int)} {n : Int} (h : holeN c g n < c.at_ n) : (n, holeN c g n + 1) ∈ g := (hole_fold n g _).2.2.resolve_left (by unfold holeN at h; omega)
theorem hole_pos {c : Ctx} {g : List (Int × Int)} {n : Int} (hc : 0 ≤ c.at_ n) (hg : ∀ d ∈ g, 1 ≤ d.2) : 0 ≤ holeN c g n := by
  rcases (hole_fold n g (c.at_ n)).2.2 with h | h
  · unfold holeN; omega
  · have := hg _ h; simp only at this; unfold holeN; omega
theorem hole_clk {c : Ctx} {g : List (Int × Int)} (hc : clkIn c) (hg : ∀ d ∈ g, 1 ≤ d.2) : clkIn (holeC c g) := by
  have h := fun n => hole_pos (n := n) (at_in hc n).1 hg
  have l := fun n => hole_le c g n
  have u := fun n => (at_in hc n).2
  exact ⟨⟨h 0, Int.le_trans (l 0) (u 0)⟩, ⟨h 1, Int.le_trans (l 1) (u 1)⟩, ⟨h 2, Int.le_trans (l 2) (u 2)⟩, ⟨h 3, Int.le_trans (l 3) (u 3)⟩⟩
/-- Above the hole's clock just what goes is in the hole. -/
theorem hole_has {c : Ctx} {g : List (Int × Int)} {d : Int × Int} (h0 : 0 ≤ d.1) (h4 : d.1 < 4) (h : holeN c g d.1 < d.2) : hasB (holeC c g) d = decide (d ∈ g) := by
  obtain ⟨n, s⟩ := d
  exact hasB_no fun _ _ _ => by rw [hole_at c g h0 h4]; exact h

/-- A context without some dots. -/
def woL (c : Ctx) (g : List (Int × Int)) : List (Int × Int) := missL c (holeC c g)
def woC (c : Ctx) (g : List (Int × Int)) : Ctx := ⟨holeN c g 0, holeN c g 1, holeN c g 2, holeN c g 3, woL c g⟩
def woX (c : Ctx) (g : List (Int × Int)) : Ctx := if 400 < (woL c g).length then ⟨0, 0, 0, 0, []⟩ else woC c g
def woE (c : Ctx) (g : List (Int × Int)) : Int := if 400 < (woL c g).length then 2 else 0
theorem wo_at (c : Ctx) (g : List (Int × Int)) {n : Int} (h0 : 0 ≤ n) (h4 : n < 4) : (woC c g).at_ n = holeN c g n := hole_at c g h0 h4
theorem wo_ok {c : Ctx} {g : List (Int × Int)} (hc : okC c) (hg : ∀ d ∈ g, 1 ≤ d.2) : okC (woC c g) ∧ ∀ d, hasB (woC c g) d = true ↔ hasB c d = true ∧ d ∉ g := by
  have hk := hole_clk hc.1 hg
  have hm : ∀ d ∈ woL c g, rightB d.1 d.2 = true ∧ hasB c d = true ∧ hasB (holeC c g) d = false := fun d hd => by
    have hr := missL_right hc hk hd
    have h1 := right_iff.1 hr
    exact ⟨hr, (missL_mem ⟨h1.1, h1.2.1, h1.2.2.1⟩ hk).1 hd⟩
  have hgt : ∀ d ∈ woL c g, holeN c g d.1 < d.2 ∧ d ∉ g := fun d hd => by
    obtain ⟨h1, h2, h3⟩ := hm d hd
    have hr := right_iff.1 h1
    refine ⟨Int.lt_of_not_ge fun h => ?_, fun h => ?_⟩
    · rw [hasB_iff.2 (.inl ⟨hr.1, hr.2.1, hr.2.2.1, by rw [hole_at c g hr.1 hr.2.1]; exact h⟩)] at h3; cases h3
    · rw [hasB_iff.2 (.inr h)] at h3; cases h3
  refine ⟨⟨hk, fun d hd => ⟨(hm d hd).1, ?_⟩, missL_sorted hc⟩, fun d => ⟨fun h => ?_, fun ⟨h, hn⟩ => ?_⟩⟩
  · have hr := right_iff.1 (hm d hd).1
    rw [wo_at c g hr.1 hr.2.1]
    obtain ⟨h1, h2⟩ := hgt d hd
    refine Int.le_of_not_gt fun hlt => ?_
    have e : d.2 = holeN c g d.1 + 1 := by omega
    rcases Int.lt_or_eq_of_le (hole_le c g d.1) with h | h
    · have := hole_in h
      rw [← e] at this
      exact h2 this
    · rcases hasB_iff.1 (hm d hd).2.1 with h3 | h3
      · omega
      · have := (hc.2.1 d h3).2; omega
  · rcases hasB_iff.1 h with ⟨h0, h4, h1, h2⟩ | h
    · rw [wo_at c g h0 h4] at h2
      refine ⟨hasB_iff.2 (.inl ⟨h0, h4, h1, Int.le_trans h2 (hole_le c g _)⟩), fun hd => ?_⟩
      have := hole_lt hd (Int.le_trans h2 (hole_le c g _))
      omega
    · exact ⟨(hm d h).2.1, (hgt d h).2⟩
  · have hr : 0 ≤ d.1 ∧ d.1 < 4 ∧ 1 ≤ d.2 := by
      rcases hasB_iff.1 h with h1 | h1
      · exact ⟨h1.1, h1.2.1, h1.2.2.1⟩
      · have := right_iff.1 (hc.2.1 d h1).1; exact ⟨this.1, this.2.1, this.2.2.1⟩
    by_cases hq : d.2 ≤ holeN c g d.1
    · exact hasB_iff.2 (.inl ⟨hr.1, hr.2.1, hr.2.2, by rw [wo_at c g hr.1 hr.2.1]; exact hq⟩)
    · refine hasB_iff.2 (.inr ((missL_mem hr hk).2 ⟨h, ?_⟩))
      rw [hole_has hr.1 hr.2.1 (by omega)]
      simp [hn]

/-- The dots between the hole and the clock that stay. -/
def gapL (g : List (Int × Int)) (n h : Int) (j : Nat) : List (Int × Int) := ((List.range j).map (fun (i : Nat) => (n, h + 2 + (i : Int)))).filter (fun d => !decide (d ∈ g))
theorem gapL_succ (g : List (Int × Int)) (n h : Int) (j : Nat) : gapL g n h (j + 1) = gapL g n h j ++ (if (n, h + 2 + (j : Int)) ∈ g then [] else [(n, h + 2 + (j : Int))]) := by
  unfold gapL
  rw [List.range_succ, List.map_append, List.filter_append]
  congr 1
  by_cases q : (n, h + 2 + (j : Int)) ∈ g <;> simp [List.filter_cons, q]
theorem gapL_prefix (g : List (Int × Int)) (n h : Int) (j : Nat) : ∀ K, j ≤ K → ∃ D, gapL g n h K = gapL g n h j ++ D
  | 0, q => ⟨[], by rw [show j = 0 by omega]; simp⟩
  | K + 1, q => by
    by_cases e : j = K + 1
    · exact ⟨[], by rw [e]; simp⟩
    · obtain ⟨D, hD⟩ := gapL_prefix g n h j K (by omega)
      exact ⟨D ++ _, by rw [gapL_succ, hD, List.append_assoc]⟩
theorem gap_miss (c : Ctx) (g : List (Int × Int)) {n : Int} (h0 : 0 ≤ n) (h4 : n < 4) : clkMiss c (holeC c g) n = gapL g n (holeN c g n) (c.at_ n - holeN c g n - 1).toNat := by
  have hle := hole_le c g n
  have hf : ∀ s : Int, holeN c g n < s → hasB (holeC c g) (n, s) = decide ((n, s) ∈ g) := fun s hs => hole_has (d := (n, s)) h0 h4 hs
  unfold clkMiss
  rw [hole_at c g h0 h4]
  rcases Int.lt_or_eq_of_le hle with h | h
  · have hin := hole_in h
    obtain ⟨K, hK⟩ : ∃ K : Nat, (c.at_ n - holeN c g n).toNat = K + 1 := ⟨(c.at_ n - holeN c g n).toNat - 1, by omega⟩
    rw [hK, show (c.at_ n - holeN c g n - 1).toNat = K by omega]
    clear hK
    induction K with
    | zero =>
      rw [clkDots_succ, hole_at c g h0 h4]
      simp [clkDots, gapL, hf _ (show holeN c g n < holeN c g n + 1 by omega), hin]
    | succ K ih =>
      rw [clkDots_succ, ih, gapL_succ, hole_at c g h0 h4]
      rw [show holeN c g n + 1 + ((K + 1 : Nat) : Int) = holeN c g n + 2 + (K : Int) by omega, hf _ (by omega)]
      by_cases q : (n, holeN c g n + 2 + (K : Int)) ∈ g <;> simp [q]
  · rw [h]
    simp [clkDots, gapL]
theorem cld_hole {c : Ctx} (g : List (Int × Int)) (hc : okC c) {d : Int × Int} (hd : d ∈ c.cloud) : hasB (holeC c g) d = decide (d ∈ g) := by
  obtain ⟨h1, h2⟩ := hc.2.1 d hd
  have hr := right_iff.1 h1
  have := hole_le c g d.1
  exact hole_has hr.1 hr.2.1 (by omega)
theorem cld_wo {c : Ctx} (g : List (Int × Int)) (hc : okC c) : cldAll c (holeC c g) = c.cloud.filter (fun d => !decide (d ∈ g)) := by
  unfold cldAll
  exact List.filter_congr fun d hd => by rw [cld_hole g hc hd]
theorem cld_node {c : Ctx} (g : List (Int × Int)) (hc : okC c) (n : Int) : cldMiss c (holeC c g) n = c.cloud.filter (fun d => decide (d.1 = n) && !decide (d ∈ g)) := by
  unfold cldMiss
  exact List.filter_congr fun d hd => by rw [cld_hole g hc hd]

/-! What is told since. -/
def goneL (t : Tab) (c : Ctx) : List (Int × Int) := (t.cells.filter (fun x => hasB c x.d)).map Cel.d
def keepL (t : Tab) (c : Ctx) : List Cel := t.cells.filter (fun x => !hasB c x.d)
def sinceX (t : Tab) (c : Ctx) : Tab := if tabI t ≠ 0 ∨ checkI c ≠ 0 ∨ woE t.c (goneL t c) ≠ 0 then zT else ⟨woC t.c (goneL t c), keepL t c⟩
def sinceE (t : Tab) (c : Ctx) : Int := if tabI t ≠ 0 then tabI t else if checkI c ≠ 0 then checkI c else woE t.c (goneL t c)
theorem gone_right {t : Tab} {c : Ctx} (h : tabI t = 0) : ∀ d ∈ goneL t c, rightB d.1 d.2 = true := by
  intro d hd
  obtain ⟨x, hx, rfl⟩ := List.mem_map.1 hd
  exact (celOk_iff.1 ((tabI_iff.1 h).2.2.2.1 x (List.mem_filter.1 hx).1)).1
theorem gone_len (t : Tab) (c : Ctx) : (goneL t c).length ≤ t.cells.length := by
  unfold goneL; rw [List.length_map]; exact List.length_filter_le _ _
theorem gone_mem {t : Tab} {c : Ctx} {d : Int × Int} : d ∈ goneL t c ↔ hasB c d = true ∧ ∃ x ∈ t.cells, x.d = d := by
  unfold goneL
  simp only [List.mem_map, List.mem_filter]
  constructor
  · rintro ⟨x, ⟨h1, h2⟩, rfl⟩; exact ⟨h2, x, h1, rfl⟩
  · rintro ⟨h, x, h1, rfl⟩; exact ⟨x, ⟨h1, h⟩, rfl⟩
theorem sinceE_zero {t : Tab} {c : Ctx} : sinceE t c = 0 ↔ tabI t = 0 ∧ checkI c = 0 ∧ (woL t.c (goneL t c)).length ≤ 400 := by
  unfold sinceE
  by_cases h1 : tabI t = 0
  · rw [if_neg (by simp [h1])]
    by_cases h2 : checkI c = 0
    · rw [if_neg (by simp [h2])]
      unfold woE
      by_cases h3 : 400 < (woL t.c (goneL t c)).length
      · rw [if_pos h3]; simp; omega
      · rw [if_neg h3]; simp [h1, h2]; omega
    · rw [if_pos h2]; simp [h2]
  · rw [if_pos h1]; simp [h1]
theorem since_ok {t : Tab} {c : Ctx} (h : sinceE t c = 0) : tabI (sinceX t c) = 0 ∧ (∀ d, hasB (sinceX t c).c d = true ↔ hasB t.c d = true ∧ d ∉ goneL t c) ∧ (sinceX t c).cells = keepL t c := by
  obtain ⟨h1, h2, h3⟩ := sinceE_zero.1 h
  obtain ⟨t1, t2, t3, t4, t5⟩ := tabI_iff.1 h1
  have hg : ∀ d ∈ goneL t c, 1 ≤ d.2 := fun d hd => (right_iff.1 (gone_right h1 d hd)).2.2.1
  obtain ⟨w1, w2⟩ := wo_ok t1 hg
  have e : sinceX t c = ⟨woC t.c (goneL t c), keepL t c⟩ := by
    unfold sinceX
    rw [if_neg]
    rintro (h | h | h)
    · exact h h1
    · exact h h2
    · unfold woE at h; rw [if_neg (by omega)] at h; exact h rfl
  rw [e]
  refine ⟨tabI_iff.2 ⟨w1, h3, Nat.le_trans (List.length_filter_le _ _) t3, fun x hx => ?_, t5.filter _⟩, w2, rfl⟩
  obtain ⟨hx1, hx2⟩ := List.mem_filter.1 hx
  have hk := celOk_iff.1 (t4 x hx1)
  refine celOk_iff.2 ⟨hk.1, (w2 _).2 ⟨hk.2.1, fun hq => ?_⟩, hk.2.2⟩
  have := (gone_mem.1 hq).1
  rw [this] at hx2
  cases hx2

/-- What is told since another one's context brings it just what all would. -/
theorem since_law {a b : Tab} (h : mergeE b a = 0) (hs : sinceE a b.c = 0) : mergeE b (sinceX a b.c) = 0 ∧ mergeX b (sinceX a b.c) = mergeX b a := by
  obtain ⟨tb, ta, hu⟩ := merge_parts h
  obtain ⟨s1, s2, s3⟩ := since_ok hs
  obtain ⟨m1, m2, m3⟩ := merge_ok h
  obtain ⟨e1, e2, e3⟩ := mergeE_zero.1 h
  obtain ⟨jx, okb, oka, okj, chj, hj⟩ := joinX_ok e2
  have hkeep : ∀ x, x ∈ (sinceX a b.c).cells ↔ x ∈ a.cells ∧ hasB b.c x.d = false := fun x => by rw [s3, keepL, List.mem_filter, Bool.not_eq_true']
  have okd := (tabI_iff.1 s1).1
  have hb : bothE b (sinceX a b.c) = 0 := bothE_iff.2 ⟨tb, s1, fun x hx y hy e => hu x hx y ((hkeep y).1 hy).1 e⟩
  have hgone : ∀ d, d ∈ goneL a b.c → hasB b.c d = true := fun d hd => (gone_mem.1 hd).1
  have ejc : joinC b.c (sinceX a b.c).c = joinC b.c a.c := by
    obtain ⟨j1, j2⟩ := join_ok okb okd
    obtain ⟨j3, j4⟩ := join_ok okb oka
    refine okC_ext j1 j3 fun d => ?_
    rw [Bool.eq_iff_iff, j2, j4, s2]
    constructor
    · rintro (h | h)
      · exact .inl h
      · exact .inr h.1
    · rintro (h | h)
      · exact .inl h
      · by_cases hq : d ∈ goneL a b.c
        · exact .inl (hgone d hq)
        · exact .inr ⟨h, hq⟩
  have hj2 : joinE b.c (sinceX a b.c).c = 0 := by
    obtain ⟨q1, q2⟩ := joinE_zero.1 e2
    have cd := (tabI_zero s1).1
    have cb := (tabI_zero tb).1
    exact joinE_zero.2 ⟨checkI_two cb cd, by rw [ejc]; exact q2⟩
  have hml : mergeL b (sinceX a b.c) = mergeL b a := cells_ext (mergeL_sorted hb) (mergeL_sorted e1) fun x => by
    rw [mergeL_mem, mergeL_mem, hkeep]
    have hxb : x ∈ b.cells → hasB b.c x.d = true := fun hx => tab_has tb hx
    have hxa : x ∈ a.cells → hasB a.c x.d = true := fun hx => tab_has ta hx
    have hg : x ∈ b.cells → (x.d ∈ goneL a b.c ↔ x ∈ a.cells) := fun hx => by
      rw [gone_mem]
      constructor
      · rintro ⟨-, y, hy, e⟩
        rw [hu x hx y hy e.symm]; exact hy
      · exact fun hxa => ⟨hxb hx, x, hxa, rfl⟩
    have hd : hasB (sinceX a b.c).c x.d = (hasB a.c x.d && !decide (x.d ∈ goneL a b.c)) := by
      rw [Bool.eq_iff_iff, s2]; simp
    rw [hd]
    by_cases xb : x ∈ b.cells <;> by_cases xa : x ∈ a.cells <;> cases ya : hasB a.c x.d <;> cases yb : hasB b.c x.d <;> simp_all
  have hz : mergeE b (sinceX a b.c) = 0 := mergeE_zero.2 ⟨hb, hj2, by rw [hml]; exact e3⟩
  refine ⟨hz, ?_⟩
  unfold mergeX
  rw [if_neg (by simp [hb, hj2, hml]; omega), if_neg (by simp [e1, e2]; omega), hml, (joinX_ok hj2).1, jx, ejc]
end Go.Proofs.Ytogegnikpjcpdaa
/- table.without. -/
namespace Go.Proofs.Ytogegnikpjcpdaa
set_option linter.unusedVariables false
open Go.ChangeShapes Go.WideShapes Go.ChangeAt Go.RowKit

def holeV (H : Nat → Int) (i n : Nat) : Value := .int .i64 (if n < i then H n else 0)
def holeCells (H : Nat → Int) (i : Nat) : Array Value := #[holeV H i 0, holeV H i 1, holeV H i 2, holeV H i 3, .slice none 0 0]
theorem holeCells_zero (H : Nat → Int) : holeCells H 0 = #[.int .i64 0, .int .i64 0, .int .i64 0, .int .i64 0, .slice none 0 0] := rfl
theorem holeCells_set (H : Nat → Int) (i : Nat) (h : i < 4) : (holeCells H i).setIfInBounds i (.int .i64 (H i)) = holeCells H (i + 1) := by
  rcases (by omega : i = 0 ∨ i = 1 ∨ i = 2 ∨ i = 3) with e | e | e | e <;> subst e <;> simp [holeCells, holeV]
theorem holeCells_at (H : Nat → Int) (i : Nat) (h : i < 4) : (holeCells H i)[i]? = some (.int .i64 0) := by
  rcases (by omega : i = 0 ∨ i = 1 ∨ i = 2 ∨ i = 3) with e | e | e | e <;> subst e <;> simp [holeCells, holeV]
theorem holeCells_four (H : Nat → Int) : holeCells H 4 = #[.int .i64 (H 0), .int .i64 (H 1), .int .i64 (H 2), .int .i64 (H 3), .slice none 0 0] := by simp [holeCells, holeV]

theorem wo_len {c : Ctx} {g : List (Int × Int)} (hc : okC c) : (woL c g).length = (clkUp c (holeC c g) 4 ++ c.cloud.filter (fun d => !decide (d ∈ g))).length := by
  rw [← cld_wo g hc]; exact (all_perm hc).length_eq.symm
theorem wo_sort {c : Ctx} {g : List (Int × Int)} (hc : okC c) : woL c g = (clkUp c (holeC c g) 4 ++ c.cloud.filter (fun d => !decide (d ∈ g))).mergeSort dotLe := by
  rw [← cld_wo g hc]; exact (minus_eq hc).symm
theorem up_gap (c : Ctx) (g : List (Int × Int)) (i : Nat) (h : i < 4) : clkUp c (holeC c g) (i + 1) = clkUp c (holeC c g) i ++ gapL g i (holeN c g i) (c.at_ i - holeN c g i - 1).toNat := by
  rw [← gap_miss c g (by omega) (by omega)]; rfl

set_option maxHeartbeats 4000000 in
set_option maxRecDepth 100000 in
theorem without_any (c : Ctx) (g : List (Int × Int)) (A B : Option Addr) (k m : Nat) (w : World) (ra : Row w w.heap.size A (dcells c.cloud)) (la : c.cloud.length ≤ 400)
    (rb : Row w w.heap.size B (dcells g)) (lb : g.length ≤ 400) (hc : okC c) (hg : ∀ d ∈ g, rightB d.1 d.2 = true) :
    Calls Try.prog 92 #[cval c A k, .slice B g.length m] w (CtxErr (woX c g) (woE c g) w) := by
  have hg1 : ∀ d ∈ g, 1 ≤ d.2 := fun d hd => (right_iff.1 (hg d hd)).2.2.1
  have HC := hid (fun w1 (hb : Below w.heap.size w w1) (x y : Int) => contains_any g x y B m w1 (rb.step hb) (by omega))
  have HA := hid (fun w1 (hb : Below w.heap.size w w1) => ra.step hb)
  have HG := hid (fun w1 (hb : Below w.heap.size w w1) => rb.step hb)
  have HHI : Hid (∀ i : Nat, 0 ≤ holeN c g i ∧ holeN c g i ≤ c.at_ i ∧ c.at_ i ≤ 1099511627776) := hid (fun i => ⟨hole_pos (at_in hc.1 i).1 hg1, hole_le c g i, (at_in hc.1 i).2⟩)
  have HFO : Hid (∀ i : Nat, ∀ j, j < g.length → True ∧ (g.take (j + 1)).foldl (holeStep i) (c.at_ i) = holeStep i ((g.take j).foldl (holeStep i) (c.at_ i)) (g.getD j (0, 0))) := hid (fun i j hj => by
    rw [List.take_succ_eq_append_getElem hj, List.foldl_append]; simp [List.getD, hj])
  have HFL : Hid (∀ (i j : Nat), (g.take j).foldl (holeStep i) (c.at_ i) ≤ c.at_ i ∧ 0 ≤ (g.take j).foldl (holeStep i) (c.at_ i)) := hid (fun i j => ⟨(hole_fold i (g.take j) _).1, hole_pos (c := c) (g := g.take j) (at_in hc.1 i).1 (fun d hd => hg1 d (List.mem_of_mem_take hd))⟩)
  have HFE : Hid (∀ i : Nat, (g.take g.length).foldl (holeStep i) (c.at_ i) = holeN c g i) := hid (fun i => by rw [List.take_length]; rfl)
  obtain ⟨F, hF⟩ : ∃ F, F = clkUp c (holeC c g) := ⟨_, rfl⟩
  have hF0 : F 0 = [] := by rw [hF]; rfl
  have hFS : ∀ i, i < 4 → F (i + 1) = F i ++ gapL g i (holeN c g i) (c.at_ i - holeN c g i - 1).toNat := fun i hi => by rw [hF]; exact up_gap c g i hi
  have hFL : ∀ i, i ≤ 4 → (F i).length ≤ (F 4).length := fun i hi => by rw [hF]; exact clkUp_le c _ hi
  have hlen := wo_len (g := g) hc
  have hsrt := wo_sort (g := g) hc
  rw [← hF] at hlen hsrt
  have hR1 : 400 < (F 4 ++ c.cloud.filter (fun d => !decide (d ∈ g))).length → woX c g = ⟨0, 0, 0, 0, []⟩ ∧ woE c g = 2 := fun h => by unfold woX woE; rw [if_pos (by rw [hlen]; exact h), if_pos (by rw [hlen]; exact h)]; exact ⟨rfl, rfl⟩
  have hR2 : ¬ 400 < (F 4 ++ c.cloud.filter (fun d => !decide (d ∈ g))).length → woX c g = ⟨holeN c g 0, holeN c g 1, holeN c g 2, holeN c g 3, (F 4 ++ c.cloud.filter (fun d => !decide (d ∈ g))).mergeSort dotLe⟩ ∧ woE c g = 0 := fun h => by unfold woX woE; rw [if_neg (by rw [hlen]; exact h), if_neg (by rw [hlen]; exact h), ← hsrt]; exact ⟨rfl, rfl⟩
  clear hlen hsrt hF
  obtain ⟨R, hRR⟩ : ∃ R, R = woX c g := ⟨_, rfl⟩
  obtain ⟨RE, hRE⟩ : ∃ RE, RE = woE c g := ⟨_, rfl⟩
  rw [← hRR, ← hRE] at hR1 hR2 ⊢
  clear hRR hRE
  have HR1 := hid hR1
  have HR2 := hid hR2
  have HF0 := hid hF0
  have HFS := hid hFS
  have HUL := hid hFL
  have CLKA := hid (clk_at c)
  clear hR1 hR2 hF0 hFS hFL ra rb hg hg1 hc
  obtain ⟨H, hH⟩ : ∃ H : Nat → Int, H = fun i : Nat => holeN c g i := ⟨_, rfl⟩
  have hHi : ∀ i : Nat, holeN c g i = H i := fun i => by rw [hH]
  have hH0 : holeN c g 0 = H 0 := hHi 0
  have hH1 : holeN c g 1 = H 1 := hHi 1
  have hH2 : holeN c g 2 = H 2 := hHi 2
  have hH3 : holeN c g 3 = H 3 := hHi 3
  simp only [hHi] at HHI HFE HFS
  rw [hH0, hH1, hH2, hH3] at HR2
  clear hH hHi hH0 hH1 hH2 hH3
  obtain ⟨i0, hi0, hz0, hz1, hz2⟩ := info_parts info_dot
  go_enter Try.func92, Try.ntmps92
  simp only [cval]
  go_wp2
  obtain ⟨W0, hW0⟩ : ∃ W0 : World, W0 = ((w.alloc (.cells #[.int .i64 c.c0, .int .i64 c.c1, .int .i64 c.c2, .int .i64 c.c3, .slice A c.cloud.length k] 25)).alloc (.cells #[.int .i64 0, .int .i64 0, .int .i64 0, .int .i64 0, .slice none 0 0] 25)).alloc (.cells #[.int .i64 0, .int .i64 0, .int .i64 0, .int .i64 0, .slice none 0 0] 25) := ⟨_, rfl⟩
  rw [← hW0]
  have HB0 := hid (show Below w.heap.size w W0 by rw [hW0]; (repeat' (first | (with_reducible exact Below.refl _ _) | (with_reducible assumption) | (with_reducible refine below_drewN ?_ _) | (with_reducible refine Below.drew ?_) | (with_reducible refine Below.alloc ?_ ?_ _) | (with_reducible refine Below.setCell ?_ ?_ _) | (refine Below.trans ?_ (Below.mono (by assumption) ?_)) | go_size)))
  have HXC := hid (show Blk W0 w.heap.size #[.int .i64 c.c0, .int .i64 c.c1, .int .i64 c.c2, .int .i64 c.c3, .slice A c.cloud.length k] 25 by rw [hW0]; exact ((Blk.new w _ _).alloc _).alloc _)
  have HXR := hid (show Blk W0 (w.heap.size + 1) #[.int .i64 0, .int .i64 0, .int .i64 0, .int .i64 0, .slice none 0 0] 25 by rw [hW0]; exact (Blk.new' (w.alloc _) _ _ (by simp)).alloc _)
  have HXH := hid (show Blk W0 (w.heap.size + 1 + 1) (holeCells H 0) 25 by rw [hW0]; exact Blk.new' ((w.alloc _).alloc _) _ _ (by simp))
  have hW0s : W0.heap.size = w.heap.size + 1 + 1 + 1 := by rw [hW0]; simp
  have HWS := hid hW0s
  have hW0l : w.heap.size + 1 + 1 < W0.heap.size := by omega
  clear hW0 hW0s
  go_loopw [7, 20] (fun s7 s20 wr => ∃ i : Nat, i ≤ 4 ∧ s20 = .int .i64 i ∧ (F i).length ≤ 400 ∧ Blk wr (w.heap.size + 1 + 1) (holeCells H i) 25 ∧ wr.ownsRow W0.heap.size 27 2 s7 (F i).length (dcells (F i)) ∧ Below (w.heap.size + 1 + 1) W0 wr) (fun _ s20 _ => 4 - (intOf s20).toNat)
  case atStart => exact ⟨0, by omega, rfl, by rw [HF0.out]; simp, HXH.out, by rw [HF0.out]; exact World.ownsRow_nil _ _ _ _, Below.refl _ _⟩
  case round =>
    obtain ⟨i, hi, rfl, hlen, hxh, hown, hbw⟩ := hrel
    by_cases hlt : i < 4
    · have ka := CLKA.out i hlt
      have ti : decide ((i : Int) < 4) = true := by simp; omega
      obtain ⟨hh0, hh1, hh2⟩ := HHI.out i
      have hS := HFS.out i hlt
      have hfe := HFE.out i
      have hfo := HFO.out i
      have hfl := HFL.out i
      have hUL := HUL.out (i + 1) (by omega)
      have hset := holeCells_set H i hlt
      have hat := holeCells_at H i hlt
      obtain ⟨h, hh⟩ : ∃ h, h = H i := ⟨_, rfl⟩
      rw [← hh] at hh0 hh1 hS hfe hset
      clear hh
      obtain ⟨n, hn⟩ : ∃ n, n = c.at_ i := ⟨_, rfl⟩
      rw [← hn] at ka hh1 hh2 hS hfe
      simp only [← hn] at hfo hfl
      clear hn
      obtain ⟨K, hK⟩ : ∃ K, K = (n - h - 1).toNat := ⟨_, rfl⟩
      rw [← hK] at hS
      have hpre : ∀ j, j ≤ K → (F i ++ gapL g i h j).length ≤ (F 4).length := by
        intro j hj
        obtain ⟨D, hD⟩ := gapL_prefix g i h j K hj
        rw [hS, hD] at hUL
        simp only [List.length_append] at *
        omega
      obtain ⟨O, hO⟩ : ∃ O, O = F i := ⟨_, rfl⟩
      rw [← hO] at hS hpre hown hlen
      clear hUL hO
      have HS := hid hS
      have HFE2 := hid hfe
      have HFO2 := hid hfo
      have HFL2 := hid hfl
      have HPRE := hid hpre
      have HSET := hid hset
      have HAT := hid hat
      have HK := hid hK
      have HXH1 := hid hxh
      have HOWN := hid hown
      have HBW := hid hbw
      have hsw := hbw.size
      clear hS hfe hfo hfl hpre hset hat hK hxh hown hbw HXH
      obtain ⟨wo, rfl⟩ : ∃ wo : World, wo = wr := ⟨_, rfl⟩
      have hn0 : 0 ≤ n := by omega
      go_wp2
      clear ka
      go_loopw [10, 28] (fun s10 s28 wr => ∃ (j : Nat) (f : Int), j ≤ g.length ∧ s28 = .int .i64 j ∧ f = (g.take j).foldl (holeStep i) n ∧ s10 = .int .i64 (f + 1) ∧ Below wo.heap.size wo wr) (fun _ s28 _ => g.length - (intOf s28).toNat)
      case atStart => exact ⟨0, n, by omega, rfl, rfl, rfl, Below.refl _ _⟩
      case round =>
        obtain ⟨j, f, hj, rfl, hf, rfl, hb2⟩ := hrel
        have hf1 := HFL2.out j
        rw [← hf] at hf1
        obtain ⟨hf1, hf2⟩ := hf1
        have HF := hid hf
        clear hf
        by_cases hjl : j < g.length
        · obtain ⟨b, off, hA, hb, e0, e1⟩ := (HG.out wr (Below.step' (HB0.out.trans (HBW.out.mono (by omega))) hb2)).dot hjl
          subst hA
          have hfs := (HFO2.out j hjl).2
          rw [← HF.out, show g.getD j (0, 0) = g[j] by simp [List.getD, hjl]] at hfs
          have HFS2 := hid hfs
          have HB2 := hid hb2
          clear hfs hb2
          generalize g[j] = d at *
          obtain ⟨d0, d1⟩ := d
          simp only at e0 e1
          have hneb : (b = wr.heap.size) = False := by simp; omega
          cases q1 : (d0 == (i : Int))
          · have HQ := hid (show holeStep i f (d0, d1) = f by unfold holeStep; rw [if_neg]; intro hq; simp only at hq; rw [hq.1] at q1; simp at q1)
            go_wp2
            go_roundw
            case rel => exact ⟨j + 1, f, by omega, by go_num, by rw [HFS2.out, HQ.out], rfl, Below.step' HB2.out (alloc_below (Below.refl _ _) _)⟩
            case measure => simp [intOf]; omega
          · have hd0 : d0 = (i : Int) := by simpa using q1
            by_cases q2 : d1 ≤ n
            · have t2 : decide (d1 ≤ n) = true := by simp; omega
              have HQ := hid (show min (f + 1) d1 = holeStep i f (d0, d1) + 1 by
                unfold holeStep
                by_cases q3 : d1 ≤ f
                · rw [if_pos ⟨hd0, q3⟩]; simp only; omega
                · rw [if_neg (fun hq => q3 hq.2)]; omega)
              clear hd0
              go_wp2
              go_roundw
              case rel => exact ⟨j + 1, holeStep i f (d0, d1), by omega, by go_num, by rw [HFS2.out], by rw [HQ.out], Below.step' HB2.out (alloc_below (Below.refl _ _) _)⟩
              case measure => simp [intOf]; omega
            · have t2 : decide (d1 ≤ n) = false := by simp; omega
              have HQ := hid (show holeStep i f (d0, d1) = f by unfold holeStep; rw [if_neg]; intro hq; have := hq.2; simp only at this; omega)
              clear hd0
              go_wp2
              go_roundw
              case rel => exact ⟨j + 1, f, by omega, by go_num, by rw [HFS2.out, HQ.out], rfl, Below.step' HB2.out (alloc_below (Below.refl _ _) _)⟩
              case measure => simp [intOf]; omega
        · have hfh : f = h := by rw [HF.out, show j = g.length by omega, HFE2.out]
          subst hfh
          have hown2 := own_later HOWN.out hb2
          have hxh2 := HXH1.out.step hb2
          have hbw2 : Below (w.heap.size + 1 + 1) W0 wr := HBW.out.trans (hb2.mono (Nat.le_of_lt HXH1.out.lt))
          have hxl := hxh2.lt
          have ec : wr.cell? ⟨w.heap.size + 1 + 1, i, none⟩ = some (.int .i64 0) := (hxh2.cells.1 i).trans HAT.out
          have ef : wr.frozen? ⟨w.heap.size + 1 + 1, i, none⟩ = false := hxh2.cells.2 i
          have hs2 := hbw2.size
          obtain ⟨A8, c8, rfl⟩ := own_form hown2
          have HOWN2 := hid hown2
          have HXH2 := hid hxh2
          have HBW2 := hid hbw2
          clear hown2 hxh2 hbw2 hb2
          have hcast : (0 : Int) ≤ (i : Int) := by omega
          go_upto_region 14 with fail
          obtain ⟨wz, hwz⟩ : ∃ wz : World, wz = wr.setCell ⟨w.heap.size + 1 + 1, i, none⟩ (.int .i64 f) := ⟨_, rfl⟩
          rw [← hwz]
          have hxh3 : Blk wz (w.heap.size + 1 + 1) (holeCells H (i + 1)) 25 := by rw [hwz, ← HSET.out]; exact HXH2.out.set i _
          have hown3 : wz.ownsRow W0.heap.size 27 2 (.slice A8 O.length c8) O.length (dcells O) := by rw [hwz]; exact ownsRow_setCell_below HOWN2.out (a := ⟨w.heap.size + 1 + 1, i, none⟩) (by show w.heap.size + 1 + 1 < W0.heap.size; omega) _
          have hbw3 : Below (w.heap.size + 1 + 1) W0 wz := by rw [hwz]; exact HBW2.out.setCell (p := ⟨w.heap.size + 1 + 1, i, none⟩) (Nat.le_refl _) _
          have HXH3 := hid hxh3
          have HOWN3 := hid hown3
          have HBW3 := hid hbw3
          clear hwz hxh3 hown3 hbw3 ec ef HXH2 HOWN2 HBW2 HXH1 HOWN HBW HF HFE2 HFO2 HFL2 hs2 hxl
          have hk2 : f + 2 + (K : Int) ≤ 1099511627778 := by have := HK.out; omega
          go_wp2
          go_loopw [7, 13] (fun s7 s13 wr => ∃ j : Nat, j ≤ K ∧ s13 = .int .i64 (f + 2 + j) ∧ (O ++ gapL g i f j).length ≤ 400 ∧ wr.ownsRow W0.heap.size 27 2 s7 (O ++ gapL g i f j).length (dcells (O ++ gapL g i f j)) ∧ Blk wr (w.heap.size + 1 + 1) (holeCells H (i + 1)) 25 ∧ Below (w.heap.size + 1 + 1) W0 wr) (fun _ s13 _ => (f + 2 + K - intOf s13).toNat)
          case atStart => exact ⟨0, by omega, by congr 1; omega, by simpa [gapL] using hlen, by simpa [gapL] using HOWN3.out, HXH3.out, HBW3.out⟩
          case round =>
            obtain ⟨j, hj, rfl, hl2, hown4, hxh4, hb4⟩ := hrel
            have hB : Below w.heap.size w wr := HB0.out.trans (hb4.mono (by omega))
            obtain ⟨A4, c4, rfl⟩ := own_form hown4
            have hpx := HPRE.out
            obtain ⟨o2, ho2⟩ : ∃ o2, o2 = O ++ gapL g i f j := ⟨_, rfl⟩
            rw [← ho2] at hown4 hl2 ⊢
            have HO2 := hid ho2
            clear ho2
            by_cases hjK : j < K
            · have t1 : f + 2 + (j : Int) ≤ n := by have := HK.out; omega
              have hP1 := hpx (j + 1) (by omega)
              rw [gapL_succ] at hP1
              have hsuc := gapL_succ g i f j
              have hpl := hxh4.lt
              have HSUC := hid hsuc
              have HOWN4 := hid hown4
              have HB4 := hid hb4
              have HXH4 := hid hxh4
              have HBB := hid hB
              have hs4 := hb4.size
              have hc := fun w1 (hb : Below w.heap.size w w1) => HC.out w1 hb i (f + 2 + (j : Int))
              clear hown4 hb4 hxh4 hB hpx hsuc
              by_cases hq : ((i : Int), f + 2 + (j : Int)) ∈ g
              · rw [decide_eq_true hq] at hc
                have HQ := hid hq
                have HCC := hid hc
                clear hP1 hq hc
                go_wp2_with fail
                refine (HCC.out _ (HBB.out.alloc HBB.out.size _)).mono ?_
                rintro e w5 ⟨rfl, hb5⟩
                have hB5 : Below wr.heap.size wr w5 := (by refine Below.step' ?_ hb5; (repeat' (first | (with_reducible exact Below.refl _ _) | (with_reducible assumption) | (with_reducible refine below_drewN ?_ _) | (with_reducible refine Below.drew ?_) | (with_reducible refine Below.alloc ?_ ?_ _) | (with_reducible refine Below.setCell ?_ ?_ _) | (refine Below.trans ?_ (Below.mono (by assumption) ?_)) | go_size)))
                have HOWN5 := hid (own_later HOWN4.out hB5)
                have HXH5 := hid (HXH4.out.step hB5)
                have HB5 := hid (HB4.out.trans (hB5.mono (Nat.le_of_lt hpl)))
                clear hb5 hB5
                go_wp2
                go_roundw
                case rel =>
                  refine ⟨j + 1, by omega, by go_num, ?_, ?_, HXH5.out, HB5.out⟩
                  · rw [HSUC.out, if_pos HQ.out, List.append_nil, ← HO2.out]; exact hl2
                  · rw [HSUC.out, if_pos HQ.out, List.append_nil, ← HO2.out]; exact HOWN5.out
                case measure => simp [intOf]; omega
              · rw [decide_eq_false hq] at hc
                rw [if_neg hq, ← List.append_assoc, ← HO2.out] at hP1
                have HQ := hid hq
                have HCC := hid hc
                have HP1 := hid hP1
                clear hP1 hq hc
                go_wp2_with fail
                refine (HCC.out _ (HBB.out.alloc HBB.out.size _)).mono ?_
                rintro e w5 ⟨rfl, hb5⟩
                have hB5 : Below wr.heap.size wr w5 := (by refine Below.step' ?_ hb5; (repeat' (first | (with_reducible exact Below.refl _ _) | (with_reducible assumption) | (with_reducible refine below_drewN ?_ _) | (with_reducible refine Below.drew ?_) | (with_reducible refine Below.alloc ?_ ?_ _) | (with_reducible refine Below.setCell ?_ ?_ _) | (refine Below.trans ?_ (Below.mono (by assumption) ?_)) | go_size)))
                have hx5 : Blk w5 wr.heap.size #[.int .i64 i, .int .i64 (f + 2 + j)] 27 := (Blk.new wr _ _).step hb5
                have c5 := hx5.cells.1
                have HOWN5 := hid (own_later HOWN4.out hB5)
                have HXH5 := hid (HXH4.out.step hB5)
                have HB5 := hid (HB4.out.trans (hB5.mono (Nat.le_of_lt hpl)))
                have hs5 := hB5.size
                clear hb5 hB5 hx5
                by_cases h4 : o2.length + 1 ≤ 400
                all_goals go_wp2_with (at_builtin; refine wpList_append_own _ rfl _ _ 23 rfl W0.heap.size 27 i0 _ 2 16 Try.underlying23 hi0 hz0 hz1 hz2 rfl (by decide) _ _ _ rfl (HOWN5.out.alloc _) ⟨w5.heap.size, 0, none⟩ 1 1 (dcells [((i : Int), f + 2 + (j : Int))]) rfl rfl (news_new w5 _ _ _ _ rfl) (dcells_one _) ?_ ?_ ?_ ?_; rotate_right; intro v6 w6 hown6 hg6 _; obtain ⟨A6, c6, rfl⟩ := own_form hown6; have HOWN6 := hid hown6; clear hown6; have HXH6 := hid ((HXH5.out.alloc _).grown' hg6 (own_ne_lo HOWN5.out _ hW0l)); have HB6 := hid ((HB5.out.alloc (by omega) _).grown hg6 (by simp; omega) (fun g e => by have := (HOWN5.out.lt g e).1; omega)); clear hg6; have hR := HXR.out.thru HB6.out (by omega); obtain ⟨⟨r0, r1, r2, r3, r4⟩, g0, g1, g2, g3, g4⟩ := hR.five; have HR5 := hid (Blk.set5 hR (.int .i64 0) (.int .i64 0) (.int .i64 0) (.int .i64 0) (.slice none 0 0)); have HB7 := hid (Below.set5 (HB0.out.trans (HB6.out.mono (by omega))) (show w.heap.size ≤ w.heap.size + 1 by omega) (.int .i64 0) (.int .i64 0) (.int .i64 0) (.int .i64 0) (.slice none 0 0)); clear hR; rotate_left; (simp only [maxLen]; omega); (omega); (simp; omega))
                · go_roundw
                  case rel =>
                    refine ⟨j + 1, by omega, by go_num, ?_, ?_, HXH6.out, HB6.out⟩
                    · rw [HSUC.out, if_neg HQ.out, ← List.append_assoc, ← HO2.out]; simpa using h4
                    · rw [HSUC.out, if_neg HQ.out, ← List.append_assoc, ← HO2.out]
                      have := HOWN6.out
                      simpa [dcells] using this
                  case measure => simp [intOf]; omega
                · have hbig : 400 < (F 4 ++ c.cloud.filter (fun d => !decide (d ∈ g))).length := by have := HP1.out; simp only [List.length_append, List.length_cons, List.length_nil] at *; omega
                  obtain ⟨E1, E2⟩ := HR1.out hbig
                  obtain ⟨⟨q0, q1, q2, q3, q4⟩, -⟩ := HR5.out.five
                  exact bodyPost_ret (v := .tuple #[cval ⟨0, 0, 0, 0, []⟩ none 0, .int .i64 2]) (by simp [results, Try.results92, go_sem, q0, q1, q2, q3, q4]) rfl ⟨none, 0, by rw [E1, E2], by rw [E1]; exact Row.nil, HB7.out, fun _ _ _ h => by cases h⟩
            · have e : j = K := by omega
              have t1 : n < f + 2 + (j : Int) := by have := HK.out; omega
              have HE := hid e
              have HOWN4 := hid hown4
              have HB4 := hid hb4
              have HXH4 := hid hxh4
              clear hown4 hb4 hxh4 hB e hpx
              go_wp2
              go_roundw
              case rel =>
                refine ⟨i + 1, by omega, by go_num, ?_, HXH4.out, ?_, HB4.out⟩
                · rw [HS.out, ← HE.out, ← HO2.out]; exact hl2
                · rw [HS.out, ← HE.out, ← HO2.out]; exact HOWN4.out
              case measure => simp [intOf]; omega
    · have e : i = 4 := by omega
      rw [e] at hlen hown hxh
      have tn : decide ((i : Int) < 4) = false := by simp; omega
      clear e
      obtain ⟨A3, c3, rfl⟩ := own_form hown
      have xa := (HXC.out.thru hbw (by omega)).cells.1
      have e4 : wr.cell? ⟨w.heap.size, 4, none⟩ = some (.slice A c.cloud.length k) := by rw [xa]; rfl
      have HOWN := hid hown
      have HBW := hid hbw
      have HXH4 := hid hxh
      have hpl := hxh.lt
      clear hown hbw hxh xa HXH HFS HFE HFO HFL HF0 CLKA HHI
      obtain ⟨wo, rfl⟩ : ∃ wo : World, wo = wr := ⟨_, rfl⟩
      go_wp2
      clear e4
      go_loopw [7, 78] (fun s7 s78 wr => ∃ j : Nat, j ≤ c.cloud.length ∧ s78 = .int .i64 j ∧ wr.ownsRow W0.heap.size 27 2 s7 (F 4 ++ (c.cloud.take j).filter (fun d => !decide (d ∈ g))).length (dcells (F 4 ++ (c.cloud.take j).filter (fun d => !decide (d ∈ g)))) ∧ Blk wr (w.heap.size + 1 + 1) (holeCells H 4) 25 ∧ Below (w.heap.size + 1 + 1) W0 wr) (fun _ s78 _ => c.cloud.length - (intOf s78).toNat)
      case atStart => exact ⟨0, by omega, rfl, by simpa using HOWN.out, HXH4.out, HBW.out⟩
      case round =>
        obtain ⟨j, hj, rfl, hown4, hxh4, hb4⟩ := hrel
        have hB : Below w.heap.size w wr := HB0.out.trans (hb4.mono (by omega))
        have hl4 : (F 4 ++ (c.cloud.take j).filter (fun d => !decide (d ∈ g))).length ≤ 800 := by
          have := List.length_filter_le (fun d : Int × Int => !decide (d ∈ g)) (c.cloud.take j)
          simp only [List.length_append, List.length_take] at *
          omega
        have hst : ∀ hj : j < c.cloud.length, F 4 ++ (c.cloud.take (j + 1)).filter (fun d => !decide (d ∈ g)) = (F 4 ++ (c.cloud.take j).filter (fun d => !decide (d ∈ g))) ++ (if c.cloud[j] ∈ g then [] else [c.cloud[j]]) := by
          intro hj
          rw [List.take_succ_eq_append_getElem hj, List.filter_append, List.append_assoc]
          congr 2
          rw [List.filter_cons, List.filter_nil]
          by_cases q : c.cloud[j] ∈ g <;> simp [q]
        have hfin : ¬ j < c.cloud.length → F 4 ++ (c.cloud.take j).filter (fun d => !decide (d ∈ g)) = F 4 ++ c.cloud.filter (fun d => !decide (d ∈ g)) := fun h => by rw [List.take_of_length_le (by omega)]
        obtain ⟨o4, ho4⟩ : ∃ o4, o4 = F 4 ++ (c.cloud.take j).filter (fun d => !decide (d ∈ g)) := ⟨_, rfl⟩
        rw [← ho4] at hown4 hl4 hst hfin
        clear ho4
        obtain ⟨A4, c4, rfl⟩ := own_form hown4
        have hpl4 := hxh4.lt
        have HOWN4 := hid hown4
        have HB4 := hid hb4
        have HXH5 := hid hxh4
        have HBB := hid hB
        have HFIN := hid hfin
        have hs4 := hb4.size
        by_cases hjl : j < c.cloud.length
        · have HST := hid (hst hjl)
          obtain ⟨b', off, hA, hb', h0, h1⟩ := (HA.out wr hB).dot hjl
          subst hA
          clear hown4 hb4 hxh4 hB hst hfin HFIN HXH4 HOWN HBW
          generalize c.cloud[j] = d at *
          obtain ⟨d0, d1⟩ := d
          simp only at h0 h1
          have hc := fun w1 (hb : Below w.heap.size w w1) => HC.out w1 hb d0 d1
          by_cases hq : (d0, d1) ∈ g
          · rw [decide_eq_true hq] at hc
            have HQ := hid hq
            have HCC := hid hc
            clear hq hc
            go_wp2_with fail
            refine (HCC.out _ (HBB.out.alloc HBB.out.size _)).mono ?_
            rintro e w5 ⟨rfl, hb5⟩
            have hB5 : Below wr.heap.size wr w5 := (by refine Below.step' ?_ hb5; (repeat' (first | (with_reducible exact Below.refl _ _) | (with_reducible assumption) | (with_reducible refine below_drewN ?_ _) | (with_reducible refine Below.drew ?_) | (with_reducible refine Below.alloc ?_ ?_ _) | (with_reducible refine Below.setCell ?_ ?_ _) | (refine Below.trans ?_ (Below.mono (by assumption) ?_)) | go_size)))
            have HOWN5 := hid (own_later HOWN4.out hB5)
            have HXH6 := hid (HXH5.out.step hB5)
            have HB5 := hid (HB4.out.trans (hB5.mono (Nat.le_of_lt hpl4)))
            clear hb5 hB5 h0 h1
            go_wp2
            go_roundw
            case rel =>
              refine ⟨j + 1, by omega, by go_num, ?_, HXH6.out, HB5.out⟩
              rw [HST.out, if_pos HQ.out, List.append_nil]; exact HOWN5.out
            case measure => simp [intOf]; omega
          · rw [decide_eq_false hq] at hc
            have HQ := hid hq
            have HCC := hid hc
            clear hq hc
            go_wp2_with fail
            refine (HCC.out _ (HBB.out.alloc HBB.out.size _)).mono ?_
            rintro e w5 ⟨rfl, hb5⟩
            have hB5 : Below wr.heap.size wr w5 := (by refine Below.step' ?_ hb5; (repeat' (first | (with_reducible exact Below.refl _ _) | (with_reducible assumption) | (with_reducible refine below_drewN ?_ _) | (with_reducible refine Below.drew ?_) | (with_reducible refine Below.alloc ?_ ?_ _) | (with_reducible refine Below.setCell ?_ ?_ _) | (refine Below.trans ?_ (Below.mono (by assumption) ?_)) | go_size)))
            have hx5 : Blk w5 wr.heap.size #[.int .i64 d0, .int .i64 d1] 27 := (Blk.new wr _ _).step hb5
            have c5 := hx5.cells.1
            have HOWN5 := hid (own_later HOWN4.out hB5)
            have HXH6 := hid (HXH5.out.step hB5)
            have HB5 := hid (HB4.out.trans (hB5.mono (Nat.le_of_lt hpl4)))
            have hs5 := hB5.size
            clear hb5 hB5 hx5 h0 h1
            go_wp2_with (at_builtin; refine wpList_append_own _ rfl _ _ 23 rfl W0.heap.size 27 i0 _ 2 16 Try.underlying23 hi0 hz0 hz1 hz2 rfl (by decide) _ _ _ rfl (HOWN5.out.alloc _) ⟨w5.heap.size, 0, none⟩ 1 1 (dcells [(d0, d1)]) rfl rfl (news_new w5 _ _ _ _ rfl) (dcells_one _) ?_ ?_ ?_ ?_; rotate_right; intro v6 w6 hown6 hg6 _; rotate_left; (simp only [maxLen]; omega); (omega); (simp; omega))
            go_roundw
            case rel =>
              refine ⟨j + 1, by omega, by go_num, ?_, (HXH6.out.alloc _).grown' hg6 (own_ne_lo HOWN5.out _ hW0l), (HB5.out.alloc (by omega) _).grown hg6 (by simp; omega) (fun g e => by have := (HOWN5.out.lt g e).1; omega)⟩
              rw [HST.out, if_neg HQ.out]
              simpa [dcells] using hown6
            case measure => simp [intOf]; omega
        · have hf := hfin hjl
          rw [← hf] at HR1 HR2
          clear hown4 hb4 hxh4 hB hst hfin hf HFIN HXH4 HOWN HBW
          by_cases h4 : 400 < o4.length
          · obtain ⟨E1, E2⟩ := HR1.out h4
            have E1 := hid E1
            have E2 := hid E2
            have t4 : decide ((400 : Int) < (o4.length : Int)) = true := by simp; omega
            have hR := HXR.out.thru HB4.out (by omega)
            obtain ⟨⟨r0, r1, r2, r3, r4⟩, g0, g1, g2, g3, g4⟩ := hR.five
            have HR5 := hid (Blk.set5 hR (.int .i64 0) (.int .i64 0) (.int .i64 0) (.int .i64 0) (.slice none 0 0))
            have HB7 := hid (Below.set5 HBB.out (show w.heap.size ≤ w.heap.size + 1 by omega) (.int .i64 0) (.int .i64 0) (.int .i64 0) (.int .i64 0) (.slice none 0 0))
            clear hR
            go_wp2
            obtain ⟨⟨q0, q1, q2, q3, q4⟩, -⟩ := HR5.out.five
            exact bodyPost_ret (v := .tuple #[cval ⟨0, 0, 0, 0, []⟩ none 0, .int .i64 2]) (by simp [results, Try.results92, go_sem, q0, q1, q2, q3, q4]) rfl ⟨none, 0, by rw [E1.out, E2.out], by rw [E1.out]; exact Row.nil, HB7.out, fun _ _ _ h => by cases h⟩
          · obtain ⟨E1, E2⟩ := HR2.out h4
            have E1 := hid E1
            have E2 := hid E2
            have t4 : decide ((400 : Int) < (o4.length : Int)) = false := by simp; omega
            have HSO := hid (sort_own o4 wr HOWN4.out (by omega))
            go_wp2_with fail
            refine HSO.out.mono ?_
            rintro e w7 ⟨rfl, hown7, hg7⟩
            have hxh7 := HXH5.out.grown' hg7 (own_ne_lo HOWN4.out _ hW0l)
            have hb7 : Below (w.heap.size + 1 + 1) W0 w7 := HB4.out.grown hg7 (by omega) (fun g e => by have := (HOWN4.out.lt g e).1; omega)
            have hR := HXR.out.thru hb7 (by omega)
            have hbb7 : Below w.heap.size w w7 := HB0.out.trans (hb7.mono (by omega))
            clear hg7 HSO
            rw [holeCells_four] at hxh7
            have hxh8 := hxh7.set 4 (.slice A4 o4.length c4)
            obtain ⟨⟨p0, p1, p2, p3, p4⟩, k0, k1, k2, k3, k4⟩ := hxh7.five
            have hown8 := own_setS hown7 hW0l 4 (.slice A4 o4.length c4)
            have hR8 := hR.other (a := ⟨w.heap.size + 1 + 1, 4, none⟩) (by simp) (.slice A4 o4.length c4)
            have hb8 := hbb7.setCell (p := ⟨w.heap.size + 1 + 1, 4, none⟩) (by simp; omega) (.slice A4 o4.length c4)
            obtain ⟨W8, hW8⟩ : ∃ W8 : World, W8 = w7.setCell ⟨w.heap.size + 1 + 1, 4, none⟩ (.slice A4 o4.length c4) := ⟨_, rfl⟩
            rw [← hW8] at hxh8 hown8 hR8 hb8
            go_upto_region 33 with fail
            rw [← hW8]
            clear hW8 p0 p1 p2 p3 p4 k0 k1 k2 k3 k4 hxh7 hbb7 hR hown7 hb7
            obtain ⟨⟨p0, p1, p2, p3, p4⟩, -⟩ := hxh8.five
            obtain ⟨⟨r0, r1, r2, r3, r4⟩, g0, g1, g2, g3, g4⟩ := hR8.five
            have HR5 := hid (Blk.set5 hR8 (.int .i64 (H 0)) (.int .i64 (H 1)) (.int .i64 (H 2)) (.int .i64 (H 3)) (.slice A4 o4.length c4))
            have HB9 := hid (Below.set5 hb8 (show w.heap.size ≤ w.heap.size + 1 by omega) (.int .i64 (H 0)) (.int .i64 (H 1)) (.int .i64 (H 2)) (.int .i64 (H 3)) (.slice A4 o4.length c4))
            have hl8 : (o4.mergeSort dotLe).length = o4.length := by simp
            have hro := Row.of_own hown8
            have hne : NewAt W0.heap.size A4 := fun b off q e => (hown8.lt b (by subst e; rfl)).1
            have HROW := hid (Row.set5 hro hne (show w.heap.size + 1 < W0.heap.size by omega) (.int .i64 (H 0)) (.int .i64 (H 1)) (.int .i64 (H 2)) (.int .i64 (H 3)) (.slice A4 o4.length c4))
            have HN := hid hne
            have HL8 := hid hl8
            clear hR8 hb8 hxh8 hown8 hro hne hl8
            go_wp2
            obtain ⟨⟨q0, q1, q2, q3, q4⟩, -⟩ := HR5.out.five
            exact bodyPost_ret (v := .tuple #[.agg #[.int .i64 (H 0), .int .i64 (H 1), .int .i64 (H 2), .int .i64 (H 3), .slice A4 o4.length c4], .int .i64 0]) (by simp [results, Try.results92, go_sem, q0, q1, q2, q3, q4]) rfl
              ⟨A4, c4, by rw [E1.out, E2.out]; simp only [cval]; rw [HL8.out], by rw [E1.out]; exact HROW.out, HB9.out, fun b off q e => Nat.le_trans (by omega) (HN.out b off q e)⟩
end Go.Proofs.Ytogegnikpjcpdaa
