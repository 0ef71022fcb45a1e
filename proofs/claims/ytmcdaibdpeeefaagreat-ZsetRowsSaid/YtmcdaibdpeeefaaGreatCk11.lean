/- EdL, Edited, Puts, ZrP, ZsG -/
import Derived.Test.YtmcdaibdpeeefaaGreatCk09
import Derived.Test.YtmcdaibdpeeefaaGreatCk08
import Derived.Test.YtmcdaibdpeeefaaGreatCk10
import Derived.Test.YtmcdaibdpeeefaaGreatCk07
import Derived.Deep.RegionHeld3
/- Plain laws of what Put and Del tell, merged (TableEdits, TableWins). -/
namespace Go.Proofs.YtmcdaibdpeeefaaGreat
set_option linter.unusedVariables false

/-! Numbers rising, each once. -/
theorem cu_rise (s : List Int) (hs : s.Pairwise (fun x y => x ≤ y)) : ∀ i, i ≤ s.length → (cu s i).Pairwise (fun x y => x < y) ∧ ∀ x, x ∈ cu s i ↔ x ∈ s.take i
  | 0, _ => by simp [cu_zero]
  | i + 1, h => by
    obtain ⟨h1, h2⟩ := cu_rise s hs i (by omega)
    have hi : i < s.length := by omega
    rw [cu_succ s i hi, List.take_succ_eq_append_getElem hi]
    by_cases q : i = 0 ∨ s[i] ≠ s[i - 1]'(by omega)
    · rw [if_pos q]
      refine ⟨List.pairwise_append.2 ⟨h1, by simp, ?_⟩, fun x => by rw [List.mem_append, List.mem_append, h2]⟩
      intro x hx y hy
      rw [List.mem_singleton.1 hy]
      obtain ⟨j, hj, rfl⟩ := List.getElem_of_mem ((h2 x).1 hx)
      rw [List.length_take] at hj
      rw [List.getElem_take]
      have hji : j < i := by omega
      rcases q with q | q
      · omega
      · have a1 : s[j] ≤ s[i - 1]'(by omega) := by
          by_cases e : j = i - 1
          · subst e; exact Int.le_refl _
          · exact List.pairwise_iff_getElem.1 hs j (i - 1) (by omega) (by omega) (by omega)
        have a2 : s[i - 1]'(by omega) ≤ s[i] := List.pairwise_iff_getElem.1 hs (i - 1) i (by omega) hi (by omega)
        omega
    · rw [if_neg q, List.append_nil]
      refine ⟨h1, fun x => ?_⟩
      rw [h2, List.mem_append, List.mem_singleton]
      simp only [not_or, ne_eq, Decidable.not_not] at q
      constructor
      · exact .inl
      · rintro (hx | rfl)
        · exact hx
        · rw [q.2, List.mem_iff_getElem]
          exact ⟨i - 1, by rw [List.length_take]; omega, by rw [List.getElem_take]⟩
theorem isort_sorted (l : List Int) : (isort l).Pairwise (fun x y => x ≤ y) := by
  have h := List.pairwise_mergeSort (le := fun x y : Int => decide (x ≤ y)) (fun a b c h1 h2 => by simp only [decide_eq_true_eq] at *; omega) (fun a b => by simp only [Bool.or_eq_true, decide_eq_true_eq]; omega) l
  exact h.imp fun h => by simpa using h
theorem once_rise (l : List Int) : (onceI l).Pairwise (fun x y => x < y) := by
  unfold onceI
  rw [← cu_all]
  exact (cu_rise _ (isort_sorted l) _ (Nat.le_refl _)).1
theorem once_mem (l : List Int) (x : Int) : x ∈ onceI l ↔ x ∈ l := by
  unfold onceI
  rw [← cu_all, (cu_rise _ (isort_sorted l) _ (Nat.le_refl _)).2, List.take_length]
  unfold isort
  exact List.mem_mergeSort
theorem rise_nodup {l : List Int} (h : l.Pairwise (fun x y => x < y)) : l.Nodup := h.imp fun {x y} hxy e => by omega
theorem rise_ext {l m : List Int} (hl : l.Pairwise (fun x y => x < y)) (hm : m.Pairwise (fun x y => x < y)) (h : ∀ x, x ∈ l ↔ x ∈ m) : l = m := by
  have hp : l.Perm m := (List.perm_ext_iff_of_nodup (rise_nodup hl) (rise_nodup hm)).2 h
  refine List.Perm.eq_of_pairwise (le := fun x y => x < y) ?_ hl hm hp
  intro x y _ _ h1 h2
  omega
theorem vals_mem {t : Tab} {key col v : Int} : v ∈ valsL t key col ↔ ∃ x ∈ t.cells, x.key = key ∧ x.col = col ∧ x.val = v := by
  unfold valsL
  rw [once_mem, List.mem_map]
  simp only [List.mem_filter, atKC, Bool.and_eq_true, beq_iff_eq]
  constructor
  · rintro ⟨x, ⟨h1, h2, h3⟩, h4⟩; exact ⟨x, h1, h2, h3, h4⟩
  · rintro ⟨x, h1, h2, h3, h4⟩; exact ⟨x, ⟨h1, h2, h3⟩, h4⟩
theorem keys_mem {t : Tab} {key : Int} : key ∈ keysL t ↔ ∃ x ∈ t.cells, x.key = key := by
  unfold keysL
  rw [once_mem, List.mem_map]
theorem vals_one {t : Tab} {key col v : Int} (h : ∀ u, (∃ x ∈ t.cells, x.key = key ∧ x.col = col ∧ x.val = u) ↔ u = v) : valsL t key col = [v] :=
  rise_ext (once_rise _) (by simp) fun u => by rw [vals_mem, h, List.mem_singleton]

/-! Put: what it tells. -/
theorem next_fresh_fold (i : Int) : ∀ (l : List (Int × Int)) (m : Int), ∀ d ∈ l, d.1 = i → d.2 ≤ l.foldl (stepS i) m
  | [], m => by simp
  | x :: l, m => fun d hd e => by
    rcases List.mem_cons.1 hd with rfl | hd
    · refine Int.le_trans ?_ (maxS_at i l (stepS i m d))
      unfold stepS
      split <;> omega
    · exact next_fresh_fold i l _ d hd e
theorem next_fresh {c : Ctx} {i : Int} (h : nextE c i = 0) : (nextD c i).1 = i ∧ hasB c (nextD c i) = false := by
  unfold nextE at h
  by_cases h1 : checkI c ≠ 0
  · rw [if_pos h1] at h; exact absurd h h1
  · rw [if_neg h1] at h
    by_cases h2 : inB i 0 3 = false
    · rw [if_pos h2] at h; cases h
    · rw [if_neg h2] at h
      unfold rnextE at h
      have e : nextD c i = rnextD c i := by unfold nextD; rw [if_neg h1, if_neg h2]
      by_cases h3 : 1099511627776 ≤ maxS c i
      · rw [if_pos h3] at h; cases h
      · rw [e, rnextD, if_neg h3]
        refine ⟨rfl, ?_⟩
        have g1 := maxS_at i c.cloud (c.at_ i)
        have g2 := next_fresh_fold i c.cloud (c.at_ i)
        cases hq : hasB c (i, maxS c i + 1) with
        | false => rfl
        | true =>
          rcases hasB_iff.1 hq with ⟨_, _, _, g3⟩ | g3
          · simp only at g3
            unfold maxS at g3; omega
          · have := g2 _ g3 rfl
            simp only at this
            unfold maxS at this; omega
theorem put_zero {t : Tab} {n key col val : Int} (h : putE t n key col val = 0) : tabI t = 0 ∧ argOk n key col val = true ∧ nextE t.c n = 0 ∧ ctxE (putL t key col (nextD t.c n)) = 0 := by
  unfold putE at h
  by_cases h1 : tabI t = 0
  · rw [if_neg (by simp [h1])] at h
    by_cases h2 : argOk n key col val = true
    · rw [if_neg (by simp [h2])] at h
      by_cases h3 : nextE t.c n = 0
      · rw [if_neg (by simp [h3])] at h; exact ⟨h1, h2, h3, h⟩
      · rw [if_pos h3] at h; exact absurd h h3
    · rw [if_pos (by simpa using h2)] at h; cases h
  · rw [if_pos h1] at h; exact absurd h h1
theorem put_ok {t : Tab} {n key col val : Int} (h : putE t n key col val = 0) :
    tabI (putX t n key col val) = 0 ∧ (putX t n key col val).cells = [⟨nextD t.c n, key, col, val⟩] ∧ (nextD t.c n).1 = n ∧ hasB t.c (nextD t.c n) = false ∧
    ∀ e, hasB (putX t n key col val).c e = true ↔ e = nextD t.c n ∨ ∃ z ∈ t.cells, (z.key = key ∧ z.col = col) ∧ z.d = e := by
  obtain ⟨h1, h2, h3, h4⟩ := put_zero h
  obtain ⟨p1, p2, p3, p4⟩ := put_pack (key := key) (col := col) (val := val) h1 h3 rfl
  obtain ⟨q1, q2⟩ := pack_zero p1
  obtain ⟨f1, f2⟩ := next_fresh h3
  have hsm : ¬ 400 < (packL 0 0 0 0 (nextD t.c n :: (t.cells.filter (atKC key col)).map Cel.d)).cloud.length := fun hh => by
    rw [p4, if_pos hh] at h4; cases h4
  have e0 : putX t n key col val = ⟨packL 0 0 0 0 (nextD t.c n :: (t.cells.filter (atKC key col)).map Cel.d), [⟨nextD t.c n, key, col, val⟩]⟩ := by
    unfold putX
    rw [if_neg (by simp [h1, h2, h3, h4]), p3, if_neg hsm]
  rw [e0]
  have hmem : ∀ e, hasB (packL 0 0 0 0 (nextD t.c n :: (t.cells.filter (atKC key col)).map Cel.d)) e = true ↔ e = nextD t.c n ∨ ∃ z ∈ t.cells, (z.key = key ∧ z.col = col) ∧ z.d = e := fun e => by
    rw [q2, List.mem_cons, List.mem_map]
    simp only [List.mem_filter, atKC, Bool.and_eq_true, beq_iff_eq, and_assoc]
  refine ⟨tabI_iff.2 ⟨q1, by simp only; omega, by simp, fun x hx => ?_, by simp⟩, rfl, f1, f2, hmem⟩
  rw [List.mem_singleton.1 hx]
  simp only [argOk, Bool.and_eq_true] at h2
  exact celOk_iff.2 ⟨next_right h3, (hmem _).2 (.inl rfl), h2.1.2, h2.2.1, h2.2.2⟩

/-- A merge of right tables of which dots that are the same have the same cells: only its size may be too much. -/
theorem merge_large {a b : Tab} (ha : tabI a = 0) (hb : tabI b = 0) (hu : ∀ x ∈ a.cells, ∀ y ∈ b.cells, x.d = y.d → x = y) (h : mergeE a b ≠ 0) : mergeE a b = 2 := by
  have hz : bothE a b = 0 := bothE_iff.2 ⟨ha, hb, hu⟩
  have ct := checkI_two ((checkI_iff a.c).2 ⟨(tabI_iff.1 ha).1, (tabI_iff.1 ha).2.1⟩) ((checkI_iff b.c).2 ⟨(tabI_iff.1 hb).1, (tabI_iff.1 hb).2.1⟩)
  have ej : joinE a.c b.c = if 400 < (joinC a.c b.c).cloud.length then 2 else 0 := by unfold joinE; rw [if_neg (by simp [ct])]
  have em : mergeE a b = if joinE a.c b.c ≠ 0 then joinE a.c b.c else if 400 < (mergeL a b).length then 2 else 0 := by unfold mergeE; rw [if_neg (by simp [hz])]
  rw [em, ej] at h ⊢
  by_cases q : 400 < (joinC a.c b.c).cloud.length
  · simp only [if_pos q]; simp
  · simp only [if_neg q, ne_eq, not_true_eq_false, if_false] at h ⊢
    by_cases q2 : 400 < (mergeL a b).length
    · rw [if_pos q2]
    · rw [if_neg q2] at h; exact absurd rfl h

theorem put_apart {t : Tab} {n key col val : Int} (h : putE t n key col val = 0) : ∀ x ∈ t.cells, ∀ y ∈ (putX t n key col val).cells, x.d = y.d → x = y := by
  obtain ⟨-, h2, -, h4, -⟩ := put_ok h
  intro x hx y hy e
  rw [h2, List.mem_singleton] at hy
  subst hy
  have := tab_has (put_zero h).1 hx
  rw [e] at this
  simp only at this
  rw [h4] at this; cases this
/-- A put, merged. -/
theorem put_merge {t : Tab} {n key col val : Int} (h : putE t n key col val = 0) (hm : mergeE t (putX t n key col val) = 0) :
    (∀ x, x ∈ (mergeX t (putX t n key col val)).cells ↔ (x ∈ t.cells ∧ ¬ (x.key = key ∧ x.col = col)) ∨ x = ⟨nextD t.c n, key, col, val⟩) ∧
    ∀ e, hasB (mergeX t (putX t n key col val)).c e = true ↔ hasB t.c e = true ∨ e = nextD t.c n := by
  obtain ⟨h1, h2, h3, h4, h5⟩ := put_ok h
  obtain ⟨t0, -, -, -⟩ := put_zero h
  obtain ⟨m1, m2, m3⟩ := merge_ok hm
  refine ⟨fun x => ?_, fun e => ?_⟩
  · rw [m3, h2]
    simp only [List.mem_singleton]
    constructor
    · rintro (⟨hx, hq⟩ | ⟨hx, -⟩)
      · rcases hq with hq | hq
        · refine .inl ⟨hx, fun hk => ?_⟩
          have := (h5 x.d).2 (.inr ⟨x, hx, hk, rfl⟩)
          rw [hq] at this; cases this
        · exact .inr hq
      · exact .inr hx
    · rintro (⟨hx, hk⟩ | rfl)
      · refine .inl ⟨hx, .inl ?_⟩
        rw [Bool.eq_false_iff]
        intro hq
        rcases (h5 x.d).1 hq with e | ⟨z, hz, hk', e⟩
        · have := tab_has t0 hx
          rw [e, h4] at this; cases this
        · exact hk (cells_unique t0 z hz x hx e ▸ hk')
      · exact .inr ⟨rfl, .inl h4⟩
  · rw [m2, Bool.or_eq_true, h5]
    constructor
    · rintro (h | h | ⟨z, hz, -, rfl⟩)
      · exact .inl h
      · exact .inr h
      · exact .inl (tab_has t0 hz)
    · rintro (h | h)
      · exact .inl h
      · exact .inr (.inl h)
theorem put_values {t : Tab} {n key col val other : Int} (h : putE t n key col val = 0) (hm : mergeE t (putX t n key col val) = 0) :
    valsL (mergeX t (putX t n key col val)) key col = [val] ∧ (other ≠ col → valsL (mergeX t (putX t n key col val)) key other = valsL t key other) := by
  obtain ⟨h1, -⟩ := put_merge h hm
  refine ⟨vals_one fun u => ?_, fun ho => rise_ext (once_rise _) (once_rise _) fun u => ?_⟩
  · constructor
    · rintro ⟨x, hx, k1, k2, rfl⟩
      rcases (h1 x).1 hx with ⟨_, hq⟩ | rfl
      · exact absurd ⟨k1, k2⟩ hq
      · rfl
    · rintro rfl
      exact ⟨_, (h1 _).2 (.inr rfl), rfl, rfl, rfl⟩
  · rw [vals_mem, vals_mem]
    constructor
    · rintro ⟨x, hx, k1, k2, rfl⟩
      rcases (h1 x).1 hx with ⟨hx', _⟩ | rfl
      · exact ⟨x, hx', k1, k2, rfl⟩
      · exact absurd k2.symm ho
    · rintro ⟨x, hx, k1, k2, rfl⟩
      exact ⟨x, (h1 x).2 (.inl ⟨hx, fun hq => ho (k2.symm.trans hq.2)⟩), k1, k2, rfl⟩

/-! Del: what it tells. -/
theorem del_mem {t : Tab} {key : Int} {e : Int × Int} : e ∈ delL t key ↔ ∃ z ∈ t.cells, z.key = key ∧ z.d = e := by
  unfold delL
  rw [List.mem_map]
  simp only [List.mem_filter, atK, beq_iff_eq, and_assoc]
theorem del_none {t : Tab} {key : Int} (ht : tabI t = 0) (h : delE t key ≠ 0) : key ∉ keysL t := by
  intro hk
  obtain ⟨x, hx, e⟩ := keys_mem.1 hk
  apply h
  unfold delE
  have h1 := (celOk_iff.1 ((tabI_iff.1 ht).2.2.2.1 x hx)).2.2.1
  rw [e] at h1
  have h2 : delL t key ≠ [] := List.ne_nil_of_mem (del_mem.2 ⟨x, hx, e, rfl⟩)
  rw [if_neg (by simp [ht]), if_neg (by simp [h1]), if_neg h2]
  exact (del_pack key ht).2
theorem del_zero {t : Tab} {key : Int} : delE t key = 0 ↔ tabI t = 0 ∧ key ∈ keysL t := by
  constructor
  · intro h
    unfold delE at h
    by_cases h1 : tabI t = 0
    · refine ⟨h1, ?_⟩
      rw [if_neg (by simp [h1])] at h
      by_cases h2 : inB key 0 49 = true
      · rw [if_neg (by simp [h2])] at h
        by_cases h3 : delL t key = []
        · rw [if_pos h3] at h; cases h
        · obtain ⟨e, he⟩ := List.exists_mem_of_ne_nil _ h3
          obtain ⟨z, hz, hk, -⟩ := del_mem.1 he
          exact keys_mem.2 ⟨z, hz, hk⟩
      · rw [if_pos (by simpa using h2)] at h; cases h
    · rw [if_pos h1] at h; exact absurd h h1
  · rintro ⟨h1, h2⟩
    exact Decidable.byContradiction fun h => del_none h1 h h2
theorem del_ok {t : Tab} {key : Int} (h : delE t key = 0) : tabI (delX t key) = 0 ∧ (delX t key).cells = [] ∧ ∀ e, hasB (delX t key).c e = true ↔ ∃ z ∈ t.cells, z.key = key ∧ z.d = e := by
  obtain ⟨h1, h2⟩ := del_zero.1 h
  obtain ⟨x, hx, hk⟩ := keys_mem.1 h2
  have h3 := (celOk_iff.1 ((tabI_iff.1 h1).2.2.2.1 x hx)).2.2.1
  rw [hk] at h3
  have h4 : delL t key ≠ [] := List.ne_nil_of_mem (del_mem.2 ⟨x, hx, hk, rfl⟩)
  have e0 : delX t key = ⟨packL 0 0 0 0 (delL t key), []⟩ := by
    unfold delX
    rw [if_neg (by simp [h1, h3, h4]), (del_pack key h1).1]
  obtain ⟨q1, q2⟩ := pack_zero (delL_right key h1)
  rw [e0]
  exact ⟨tabI_iff.2 ⟨q1, Nat.le_trans pack_length (delL_len key h1), by simp, by simp, by simp⟩, rfl, fun e => by simp only; rw [q2, del_mem]⟩
theorem del_merge {t : Tab} {key : Int} (h : delE t key = 0) : mergeE t (delX t key) = 0 ∧ tabI (mergeX t (delX t key)) = 0 ∧
    (∀ x, x ∈ (mergeX t (delX t key)).cells ↔ x ∈ t.cells ∧ x.key ≠ key) ∧ (∀ e, hasB (mergeX t (delX t key)).c e = hasB t.c e) := by
  obtain ⟨d1, d2, d3⟩ := del_ok h
  obtain ⟨t0, -⟩ := del_zero.1 h
  have hb : bothE t (delX t key) = 0 := bothE_iff.2 ⟨t0, d1, by rw [d2]; simp⟩
  have hsub : ∀ e, hasB (delX t key).c e = true → hasB t.c e = true := fun e he => by
    obtain ⟨z, hz, -, rfl⟩ := (d3 e).1 he
    exact tab_has t0 hz
  obtain ⟨s1, s2, s3, s4, s5⟩ := tabI_iff.1 t0
  obtain ⟨a1, a2, -⟩ := tabI_iff.1 d1
  have ct := checkI_two ((checkI_iff t.c).2 ⟨s1, s2⟩) ((checkI_iff (delX t key).c).2 ⟨a1, a2⟩)
  obtain ⟨j1, j2⟩ := join_ok s1 a1
  have ej : joinC t.c (delX t key).c = t.c := okC_ext j1 s1 fun d => by
    rw [Bool.eq_iff_iff, j2]
    exact ⟨fun h => h.elim id (hsub d), .inl⟩
  have hj : joinE t.c (delX t key).c = 0 := joinE_zero.2 ⟨ct, by rw [ej]; exact s2⟩
  have hml : mergeL t (delX t key) = t.cells.filter (fun x => !hasB (delX t key).c x.d) := cells_ext (mergeL_sorted hb) (s5.filter _) fun x => by
    rw [mergeL_mem, d2, List.mem_filter, Bool.not_eq_true']
    simp only [List.not_mem_nil, or_false, false_and]
  have hlen : (mergeL t (delX t key)).length ≤ 400 := by rw [hml]; exact Nat.le_trans (List.length_filter_le _ _) s3
  have hz : mergeE t (delX t key) = 0 := mergeE_zero.2 ⟨hb, hj, hlen⟩
  obtain ⟨m1, m2, m3⟩ := merge_ok hz
  refine ⟨hz, m1, fun x => ?_, fun e => ?_⟩
  · rw [m3, d2]
    simp only [List.not_mem_nil, or_false, false_and]
    constructor
    · rintro ⟨hx, hq⟩
      refine ⟨hx, fun hk => ?_⟩
      rw [(d3 x.d).2 ⟨x, hx, hk, rfl⟩] at hq; cases hq
    · rintro ⟨hx, hk⟩
      refine ⟨hx, ?_⟩
      rw [Bool.eq_false_iff]
      intro hq
      obtain ⟨z, hz, hk', e⟩ := (d3 x.d).1 hq
      exact hk (cells_unique t0 z hz x hx e ▸ hk')
  · rw [m2]
    cases q : hasB (delX t key).c e
    · simp
    · rw [hsub e q]; rfl
theorem del_keys {t : Tab} {key : Int} (h : delE t key = 0) : mergeE t (delX t key) = 0 ∧ key ∉ keysL (mergeX t (delX t key)) ∧ (keysL (mergeX t (delX t key))).length + 1 = (keysL t).length := by
  obtain ⟨h1, -, h3, -⟩ := del_merge h
  obtain ⟨t0, hk⟩ := del_zero.1 h
  have hn := rise_nodup (once_rise (t.cells.map Cel.key))
  refine ⟨h1, fun hq => ?_, ?_⟩
  · obtain ⟨x, hx, e⟩ := keys_mem.1 hq
    exact ((h3 x).1 hx).2 e
  · have e : keysL (mergeX t (delX t key)) = (keysL t).erase key := by
      refine rise_ext (once_rise _) ((once_rise _).sublist (List.erase_sublist)) fun u => ?_
      rw [keys_mem]
      have := List.Nodup.mem_erase_iff (a := u) (b := key) hn
      rw [show (keysL t) = onceI (t.cells.map Cel.key) from rfl, this, ← show (keysL t) = onceI (t.cells.map Cel.key) from rfl, keys_mem]
      constructor
      · rintro ⟨x, hx, rfl⟩
        exact ⟨((h3 x).1 hx).2, x, ((h3 x).1 hx).1, rfl⟩
      · rintro ⟨hne, x, hx, rfl⟩
        exact ⟨x, (h3 x).2 ⟨hx, hne⟩, rfl⟩
    rw [e, List.length_erase_of_mem hk]
    have := List.length_pos_of_mem hk
    omega

/-! Two who put, one who deletes. -/
theorem wins_law {t : Tab} {key col v w : Int} (h1 : putE t 2 key col v = 0) (h2 : putE t 3 key col w = 0)
    (g1 : mergeE t (putX t 2 key col v) = 0) (g2 : mergeE t (putX t 3 key col w) = 0) (A B : Tab) (hA : A = mergeX t (putX t 2 key col v)) (hB : B = mergeX t (putX t 3 key col w)) :
    tabI A = 0 ∧ tabI B = 0 ∧ (mergeE A B ≠ 0 → mergeE A B = 2) ∧
    (mergeE A B = 0 → (v = w → valsL (mergeX A B) key col = [v]) ∧ (v ≠ w → valsL (mergeX A B) key col = [min v w, max v w])) ∧
    delE B key = 0 ∧ mergeE B (delX B key) = 0 ∧ tabI (mergeX B (delX B key)) = 0 ∧
    (mergeE (mergeX B (delX B key)) A ≠ 0 → mergeE (mergeX B (delX B key)) A = 2) ∧
    (mergeE (mergeX B (delX B key)) A = 0 → valsL (mergeX (mergeX B (delX B key)) A) key col = [v]) := by
  obtain ⟨t0, -, -, -⟩ := put_zero h1
  obtain ⟨p1, p2⟩ := put_merge h1 g1
  obtain ⟨q1, q2⟩ := put_merge h2 g2
  obtain ⟨-, -, n2, f2, -⟩ := put_ok h1
  obtain ⟨-, -, n3, f3, -⟩ := put_ok h2
  have tA := (merge_ok g1).1
  have tB := (merge_ok g2).1
  rw [← hA] at p1 p2 tA
  rw [← hB] at q1 q2 tB
  clear hA hB
  have ne : nextD t.c 2 ≠ nextD t.c 3 := fun e => by rw [e, n3] at n2; cases n2
  have hAd : ∀ x ∈ t.cells, x.d ≠ nextD t.c 2 ∧ x.d ≠ nextD t.c 3 := fun x hx => by
    have := tab_has t0 hx
    exact ⟨fun e => by (rw [e, f2] at this; cases this), fun e => by (rw [e, f3] at this; cases this)⟩
  have hu : ∀ x ∈ A.cells, ∀ y ∈ B.cells, x.d = y.d → x = y := fun x hx y hy e => by
    rcases (p1 x).1 hx with ⟨hx, -⟩ | rfl
    · rcases (q1 y).1 hy with ⟨hy, -⟩ | rfl
      · exact cells_unique t0 x hx y hy e
      · exact absurd e (hAd x hx).2
    · rcases (q1 y).1 hy with ⟨hy, -⟩ | rfl
      · exact absurd e.symm (hAd y hy).1
      · exact absurd e ne
  have hasA3 : hasB A.c (nextD t.c 3) = false := by
    rw [Bool.eq_false_iff]; intro h
    rcases (p2 _).1 h with h | h
    · rw [f3] at h; cases h
    · exact ne h.symm
  have hasB2 : hasB B.c (nextD t.c 2) = false := by
    rw [Bool.eq_false_iff]; intro h
    rcases (q2 _).1 h with h | h
    · rw [f2] at h; cases h
    · exact ne h
  have kB : key ∈ keysL B := keys_mem.2 ⟨_, (q1 _).2 (.inr rfl), rfl⟩
  have dB : delE B key = 0 := del_zero.2 ⟨tB, kB⟩
  obtain ⟨e1, e2, e3, e4⟩ := del_merge dB
  have hu2 : ∀ x ∈ (mergeX B (delX B key)).cells, ∀ y ∈ A.cells, x.d = y.d → x = y := fun x hx y hy e => (hu y hy x ((e3 x).1 hx).1 e.symm).symm
  refine ⟨tA, tB, merge_large tA tB hu, fun hz => ?_, dB, e1, e2, merge_large e2 tA hu2, fun hz => vals_one fun u => ?_⟩
  · obtain ⟨m1, m2, m3⟩ := merge_ok hz
    have hv : ∀ u, (∃ x ∈ (mergeX A B).cells, x.key = key ∧ x.col = col ∧ x.val = u) ↔ u = v ∨ u = w := fun u => by
      constructor
      · rintro ⟨x, hx, k1, k2, rfl⟩
        rcases (m3 x).1 hx with ⟨hx, -⟩ | ⟨hx, -⟩
        · rcases (p1 x).1 hx with ⟨-, hq⟩ | rfl
          · exact absurd ⟨k1, k2⟩ hq
          · exact .inl rfl
        · rcases (q1 x).1 hx with ⟨-, hq⟩ | rfl
          · exact absurd ⟨k1, k2⟩ hq
          · exact .inr rfl
      · rintro (rfl | rfl)
        · exact ⟨_, (m3 _).2 (.inl ⟨(p1 _).2 (.inr rfl), .inl hasB2⟩), rfl, rfl, rfl⟩
        · exact ⟨_, (m3 _).2 (.inr ⟨(q1 _).2 (.inr rfl), .inl hasA3⟩), rfl, rfl, rfl⟩
    refine ⟨fun e => vals_one fun u => by rw [hv, e]; simp, fun e => rise_ext (once_rise _) ?_ fun u => ?_⟩
    · simp only [List.pairwise_cons, List.mem_singleton, forall_eq, List.not_mem_nil, false_implies, implies_true, List.Pairwise.nil, and_true]
      omega
    · rw [vals_mem, hv]
      simp only [List.mem_cons, List.not_mem_nil, or_false]
      omega
  · obtain ⟨m1, m2, m3⟩ := merge_ok hz
    constructor
    · rintro ⟨x, hx, k1, k2, rfl⟩
      rcases (m3 x).1 hx with ⟨hx, -⟩ | ⟨hx, -⟩
      · exact absurd k1 ((e3 x).1 hx).2
      · rcases (p1 x).1 hx with ⟨-, hq⟩ | rfl
        · exact absurd ⟨k1, k2⟩ hq
        · rfl
    · rintro rfl
      exact ⟨_, (m3 _).2 (.inr ⟨(p1 _).2 (.inr rfl), .inl (by rw [e4]; exact hasB2)⟩), rfl, rfl, rfl⟩
end Go.Proofs.YtmcdaibdpeeefaaGreat
/- viewkeep.edited. -/
namespace Go.Proofs.YtmcdaibdpeeefaaGreat
set_option linter.unusedVariables false
open Go.ChangeShapes Go.WideShapes Go.ChangeAt Go.RowKit

structure Ed where
  kind : Int
  tbl : Int
  key : Int
  col : Int
  val : Int
abbrev Ed.cells (x : Ed) : List Value := [.int .i64 x.kind, .int .i64 x.tbl, .int .i64 x.key, .int .i64 x.col, .int .i64 x.val]
abbrev ecells (l : List Ed) : List Value := l.flatMap Ed.cells
theorem Ed.len (x : Ed) : x.cells.length = 5 := rfl
theorem Row.ed {w : World} {B : Nat} {A : Option Addr} {l : List Ed} (h : Row w B A (ecells l)) {k : Nat} (hk : k < l.length) :
    ∃ b off, A = some ⟨b, off, none⟩ ∧ b < B ∧ w.cell? ⟨b, off + k * 5, none⟩ = some (.int .i64 l[k].kind) ∧ w.cell? ⟨b, off + k * 5 + 1, none⟩ = some (.int .i64 l[k].tbl) ∧ w.cell? ⟨b, off + k * 5 + 2, none⟩ = some (.int .i64 l[k].key) ∧
      w.cell? ⟨b, off + k * 5 + 3, none⟩ = some (.int .i64 l[k].col) ∧ w.cell? ⟨b, off + k * 5 + 4, none⟩ = some (.int .i64 l[k].val) := by
  obtain ⟨b, off, h1, h2, h3⟩ := Row.flat Ed.len h (by decide) hk
  exact ⟨b, off, h1, h2, h3 0 _ rfl, h3 1 _ rfl, h3 2 _ rfl, h3 3 _ rfl, h3 4 _ rfl⟩

def stepX (t : Tab) (i : Nat) (x : Ed) : Tab := if x.kind = 1 then putX t ((i % 2 : Nat) : Int) x.key x.col x.val else delX t x.key
def stepE (t : Tab) (i : Nat) (x : Ed) : Int := if x.kind = 1 then putE t ((i % 2 : Nat) : Int) x.key x.col x.val else delE t x.key
def editStep (t : Tab) (i : Nat) (x : Ed) : Tab := if stepE t i x ≠ 0 then t else if mergeE t (stepX t i x) = 0 then mergeX t (stepX t i x) else t
def editN (l : List Ed) : Nat → Tab
  | 0 => zT
  | n + 1 => editStep (editN l n) n (l.getD n ⟨0, 0, 0, 0, 0⟩)
def editX (l : List Ed) : Tab := editN l (min 60 l.length)
theorem tabI_zT : tabI zT = 0 := tabI_iff.2 ⟨⟨by simp [clkIn, zT], by simp [zT], by simp [zT]⟩, by simp [zT], by simp [zT], by simp [zT], by simp [zT]⟩
theorem editStep_right {t : Tab} (h : tabI t = 0) (i : Nat) (x : Ed) : tabI (editStep t i x) = 0 := by
  unfold editStep
  split
  · exact h
  · split
    · rename_i h2; exact (merge_ok h2).1
    · exact h
theorem editN_right (l : List Ed) : ∀ n, tabI (editN l n) = 0
  | 0 => tabI_zT
  | n + 1 => editStep_right (editN_right l n) n _
theorem editX_right (l : List Ed) : tabI (editX l) = 0 := editN_right l _
theorem tab_small {t : Tab} (h : tabI t = 0) : t.c.cloud.length ≤ 400 ∧ t.cells.length ≤ 400 := ⟨(tabI_iff.1 h).2.1, (tabI_iff.1 h).2.2.1⟩
theorem stepX_len (t : Tab) (i : Nat) (x : Ed) : (stepX t i x).c.cloud.length ≤ 400 ∧ (stepX t i x).cells.length ≤ 1 := by
  unfold stepX
  split
  · exact putX_len _ _ _ _ _
  · exact delX_len _ _

def TabPost (T : Tab) (w : World) (e : Ending) (w' : World) : Prop :=
  ∃ A k B m, e = .returned (tval T A k B m) ∧ Row w' w'.heap.size A (dcells T.c.cloud) ∧ Row w' w'.heap.size B (tcells T.cells) ∧ Below w.heap.size w w' ∧ NewAt w.heap.size A ∧ NewAt w.heap.size B

set_option maxHeartbeats 4000000 in
set_option maxRecDepth 100000 in
theorem edited_any (l : List Ed) (A : Option Addr) (k0 : Nat) (w : World) (hr : Row w w.heap.size A (ecells l)) (hl : l.length ≤ 9223372036854775807) (hcap : l.length ≤ k0) :
    Calls Tryz.prog 5 #[.slice A l.length k0] w (TabPost (editX l) w) := by
  have RE := hid (fun w1 (hb : Below w.heap.size w w1) => hr.step hb)
  obtain ⟨N, hN⟩ : ∃ N, N = min 60 l.length := ⟨_, rfl⟩
  have hmin : min (60 : Int) (l.length : Int) = (N : Int) := by omega
  have hNl : N ≤ l.length := by omega
  have HFX := hid (show editX l = editN l N by rw [hN]; rfl)
  have z0 : (0 : Int) ≤ (N : Int) := by omega
  have z1 : (N : Int) ≤ (k0 : Int) := by omega
  have z2 : (N : Int) ≤ (l.length : Int) := by omega
  obtain ⟨V, hV⟩ : ∃ V, V = editX l := ⟨_, rfl⟩
  rw [← hV] at HFX ⊢
  clear hV hN hr
  go_enter Tryz.func5, Tryz.ntmps5
  go_wp2
  have HX0 := hid ((Blk.new w #[.int .i64 0, .int .i64 0, .int .i64 0, .int .i64 0, .slice none 0 0, .slice none 0 0] 28).alloc (.cells #[.int .i64 0, .int .i64 0, .int .i64 0, .int .i64 0, .slice none 0 0, .slice none 0 0] 28))
  have HX1 := hid (Blk.new' (w.alloc (.cells #[.int .i64 0, .int .i64 0, .int .i64 0, .int .i64 0, .slice none 0 0, .slice none 0 0] 28)) (b := w.heap.size + 1) #[.int .i64 0, .int .i64 0, .int .i64 0, .int .i64 0, .slice none 0 0, .slice none 0 0] 28 (by simp))
  have HB0 := hid (((Below.refl w.heap.size w).alloc (Nat.le_refl _) (.cells #[.int .i64 0, .int .i64 0, .int .i64 0, .int .i64 0, .slice none 0 0, .slice none 0 0] 28)).alloc (by simp) (.cells #[.int .i64 0, .int .i64 0, .int .i64 0, .int .i64 0, .slice none 0 0, .slice none 0 0] 28))
  go_loopw [16] (fun s16 wr => ∃ i : Nat, i ≤ N ∧ s16 = .int .i64 i ∧ ∃ A4 k4 B4 m4, Blk wr (w.heap.size + 1) (tbox (editN l i) A4 k4 B4 m4) 28 ∧ Blk wr w.heap.size #[.int .i64 0, .int .i64 0, .int .i64 0, .int .i64 0, .slice none 0 0, .slice none 0 0] 28 ∧
    Row wr wr.heap.size A4 (dcells (editN l i).c.cloud) ∧ Row wr wr.heap.size B4 (tcells (editN l i).cells) ∧ NewAt (w.heap.size + 2) A4 ∧ NewAt (w.heap.size + 2) B4 ∧ Below w.heap.size w wr) (fun s16 _ => N - (intOf s16).toNat)
  case atStart => exact ⟨0, by omega, rfl, none, 0, none, 0, HX1.out, HX0.out, Row.nil, Row.nil, newAt_none _, newAt_none _, HB0.out⟩
  case round =>
    obtain ⟨i, hi, rfl, A4, k4, B4, m4, hx1, hx0, hra, hrb, hna, hnb, hbw⟩ := hrel
    have hTr := editN_right l i
    have hst : editN l (i + 1) = editStep (editN l i) i (l.getD i ⟨0, 0, 0, 0, 0⟩) := rfl
    have hfin : ¬ i < N → editN l i = V := fun h => by rw [HFX.out, show i = N by omega]
    obtain ⟨T, hT⟩ : ∃ T, T = editN l i := ⟨_, rfl⟩
    rw [← hT] at hx1 hra hrb hTr hst hfin
    have hTl := tab_small hTr
    clear hT HX0 HX1 HB0
    have HXT := hid hx1
    have HX0 := hid hx0
    have HRA := hid hra
    have HRB := hid hrb
    have HNA := hid hna
    have HNB := hid hnb
    have HBW := hid hbw
    have HFIN := hid hfin
    have HTR := hid hTr
    clear hx1 hx0 hra hrb hna hnb hbw hfin hTr
    have hlt1 := HXT.out.lt
    by_cases hlt : i < N
    · have hil : i < l.length := by omega
      obtain ⟨b, off, hA, hb, e0, e1, e2, e3, e4⟩ := (RE.out wr HBW.out).ed hil
      subst hA
      have hgd : l.getD i ⟨0, 0, 0, 0, 0⟩ = l[i] := by simp [List.getD, hil]
      rw [hgd] at hst
      clear hgd
      generalize l[i] = x at *
      obtain ⟨kd, tb, ky, co, vl⟩ := x
      simp only at e0 e1 e2 e3 e4
      have HSX := hid (show stepX T i ⟨kd, tb, ky, co, vl⟩ = if kd = 1 then putX T ((i % 2 : Nat) : Int) ky co vl else delX T ky from rfl)
      have HSE := hid (show stepE T i ⟨kd, tb, ky, co, vl⟩ = if kd = 1 then putE T ((i % 2 : Nat) : Int) ky co vl else delE T ky from rfl)
      have HSL := hid (stepX_len T i ⟨kd, tb, ky, co, vl⟩)
      have HST := hid (show editN l (i + 1) = if stepE T i ⟨kd, tb, ky, co, vl⟩ ≠ 0 then T else if mergeE T (stepX T i ⟨kd, tb, ky, co, vl⟩) = 0 then mergeX T (stepX T i ⟨kd, tb, ky, co, vl⟩) else T from hst)
      clear hst
      obtain ⟨Y, hY⟩ : ∃ Y, Y = stepX T i ⟨kd, tb, ky, co, vl⟩ := ⟨_, rfl⟩
      obtain ⟨YE, hYE⟩ : ∃ Y, Y = stepE T i ⟨kd, tb, ky, co, vl⟩ := ⟨_, rfl⟩
      rw [← hY] at HSX HSL HST
      rw [← hYE] at HSE HST
      clear hY hYE
      obtain ⟨S, hS⟩ : ∃ S, S = editN l (i + 1) := ⟨_, rfl⟩
      rw [← hS] at HST
      have HS := hid hS
      clear hS
      have HD := hid (fun w1 (hb : Below wr.heap.size wr w1) => del_any T ky A4 k4 B4 m4 w1 (HRA.out.step hb) (by omega) (HRB.out.step hb) (by omega))
      have HP := hid (fun w1 (hb : Below wr.heap.size wr w1) => put_any T ((i % 2 : Nat) : Int) ky co vl A4 k4 B4 m4 w1 (HRA.out.step hb) (by omega) (HRB.out.step hb) (by omega))
      have HM : Hid (∀ (Z : Tab) (A5 : Option Addr) (k5 : Nat) (B5 : Option Addr) (m5 : Nat) w1, Below wr.heap.size wr w1 → Row w1 w1.heap.size A5 (dcells Z.c.cloud) → Z.c.cloud.length ≤ 400 → Row w1 w1.heap.size B5 (tcells Z.cells) → Z.cells.length ≤ 400 →
        Calls Tryz.prog 14 #[tval T A4 k4 B4 m4, tval Z A5 k5 B5 m5] w1 (TabErr (mergeX T Z) (mergeE T Z) w1)) := hid (fun Z A5 k5 B5 m5 w1 hb h1 h2 h3 h4 => merge_any T Z A4 k4 B4 m4 A5 k5 B5 m5 w1 (HRA.out.step hb) (by omega) (HRB.out.step hb) (by omega) h1 (by omega) h3 (by omega))
      obtain ⟨⟨t0, t1, t2, t3, tl⟩, ts⟩ := T
      obtain ⟨⟨y0, y1, y2, y3, yl⟩, ys⟩ := Y
      simp only [tval, cval, tbox] at HD HP HM HXT
      simp only at hTl
      have hneb : (b = wr.heap.size) = False := by simp; omega
      have zi0 : (0 : Int) ≤ (i : Int) := by omega
      obtain ⟨cHXT, fHXT, sHXT, nHXT⟩ := HXT.out.all
      try simp only [cbox] at cHXT
      go_wp2_with fail
      refine (HD.out _ ((Below.refl _ _).alloc (Nat.le_refl _) _)).mono ?_
      rintro e w5 ⟨A5, k5, B5, m5, rfl, hr5, hs5, hb5, hn5, hn5'⟩
      have hB5 : Below wr.heap.size wr w5 := (by refine Below.step' ?_ hb5; (repeat' (first | (with_reducible exact Below.refl _ _) | (with_reducible assumption) | (with_reducible refine below_drewN ?_ _) | (with_reducible refine Below.drew ?_) | (with_reducible refine Below.alloc ?_ ?_ _) | (with_reducible refine Below.setCell ?_ ?_ _) | (refine Below.trans ?_ (Below.mono (by assumption) ?_)) | go_size)))
      have HX5 := hid (Blk.step (Blk.new wr #[.int .i64 kd, .int .i64 tb, .int .i64 ky, .int .i64 co, .int .i64 vl] 35) hb5)
      clear cHXT fHXT sHXT nHXT
      have HC5 := hid hB5
      have HXT5 := hid (HXT.out.step hB5)
      have hsz5 := hB5.size
      clear hb5 hB5 e0 e1 e2 e3 e4 hneb hb HD
      by_cases qk : kd = 1
      · have HY1 := hid (HSX.out.trans (if_pos qk))
        have HYE := hid (HSE.out.trans (if_pos qk))
        subst qk
        rw [← HY1.out, ← HYE.out] at HP
        clear hr5 hs5 hn5 hn5' HY1 HYE HSX HSE
        obtain ⟨⟨d0, d1, d2, d3, dl⟩, ds⟩ := delX ⟨⟨t0, t1, t2, t3, tl⟩, ts⟩ ky
        simp only [tval]
        have hBz : Below w5.heap.size w5 (w5.alloc (.cells #[.int .i64 d0, .int .i64 d1, .int .i64 d2, .int .i64 d3, .slice A5 dl.length k5, .slice B5 ds.length m5] 28)) := (Below.refl _ _).alloc (Nat.le_refl _) _
        have HX6 := hid (Blk.new w5 #[.int .i64 d0, .int .i64 d1, .int .i64 d2, .int .i64 d3, .slice A5 dl.length k5, .slice B5 ds.length m5] 28)
        have hzz := hBz.size
        have zr2 : Int.tmod (i : Int) 2 = ((i % 2 : Nat) : Int) := by rw [Int.tmod_eq_emod_of_nonneg (by omega)]; omega
        have zr : IntKind.i64.wrap ((i % 2 : Nat) : Int) = ((i % 2 : Nat) : Int) := IntWalk.i64_in _ (by omega)
        obtain ⟨cHXT5, fHXT5, sHXT5, nHXT5⟩ := HXT5.out.all
        try simp only [cbox] at cHXT5
        obtain ⟨cHX5, fHX5, sHX5, nHX5⟩ := HX5.out.all
        try simp only [cbox] at cHX5
        go_wp2_with fail
        refine (HP.out _ (Below.step' HC5.out hBz)).mono ?_
        rintro e w6 ⟨A6, k6, B6, m6, rfl, hr6, hs6, hb6, hn6, hn6'⟩
        clear cHXT5 fHXT5 sHXT5 nHXT5
        clear cHX5 fHX5 sHX5 nHX5
        have hB6 : Below w5.heap.size w5 w6 := Below.step' hBz hb6
        replace HX6 := hid (HX6.out.step hb6)
        have HCW := hid (Below.step' HC5.out hB6)
        have hn6q : NewAt (w5.heap.size + 1) A6 := by simpa using hn6
        have hn6q' : NewAt (w5.heap.size + 1) B6 := by simpa using hn6'
        have hsz6' : w5.heap.size + 1 ≤ w6.heap.size := by have := hb6.size; simpa using this
        clear hBz hb6 hB6 HX5 HXT5 HP hn6 hn6' hzz
        simp only [tval] at hr6 hs6 ⊢
        have hX := HX6.out
        obtain ⟨⟨r0, r1, r2, r3, r4, r5⟩, f0, f1, f2, f3, f4, f5⟩ := hX.six
        replace HX6 := hid (Blk.set6 hX (.int .i64 y0) (.int .i64 y1) (.int .i64 y2) (.int .i64 y3) (.slice A6 yl.length k6) (.slice B6 ys.length m6))
        have HYA := hid (Row.set6 hr6 hn6q (show w5.heap.size < w5.heap.size + 1 by omega) (.int .i64 y0) (.int .i64 y1) (.int .i64 y2) (.int .i64 y3) (.slice A6 yl.length k6) (.slice B6 ys.length m6))
        have HYB := hid (Row.set6 hs6 hn6q' (show w5.heap.size < w5.heap.size + 1 by omega) (.int .i64 y0) (.int .i64 y1) (.int .i64 y2) (.int .i64 y3) (.slice A6 yl.length k6) (.slice B6 ys.length m6))
        replace HCW := hid (Below.set6 HCW.out (show wr.heap.size ≤ w5.heap.size by omega) (.int .i64 y0) (.int .i64 y1) (.int .i64 y2) (.int .i64 y3) (.slice A6 yl.length k6) (.slice B6 ys.length m6))
        clear hX hr6 hs6 hn6q hn6q'
        obtain ⟨Wc, hWc⟩ : ∃ Wc : World, Wc = set6 w6 w5.heap.size (.int .i64 y0) (.int .i64 y1) (.int .i64 y2) (.int .i64 y3) (.slice A6 yl.length k6) (.slice B6 ys.length m6) := ⟨_, rfl⟩
        rw [← hWc] at HX6 HYA HYB HCW
        simp only [set6, set5] at hWc
        go_upto_region 8 with fail
        rw [← hWc]
        clear hWc r0 r1 r2 r3 r4 r5 f0 f1 f2 f3 f4 f5
        have HXTc := hid (HXT.out.step HCW.out)
        have HX0c := hid (HX0.out.step HCW.out)
        by_cases qe : YE = 0
        rotate_left
        · have q1 : (YE != 0) = true := by simpa using qe
          have HFS : Hid (S = ⟨⟨t0, t1, t2, t3, tl⟩, ts⟩) := hid (by rw [HST.out, if_pos qe])
          clear qe
          go_wp2
          go_roundw
          case rel => exact ⟨i + 1, by omega, by go_num, A4, k4, B4, m4, by rw [← HS.out, HFS.out]; exact HXTc.out, HX0c.out, by rw [← HS.out, HFS.out]; exact HRA.out.step HCW.out, by rw [← HS.out, HFS.out]; exact HRB.out.step HCW.out, HNA.out, HNB.out, Below.step' HBW.out HCW.out⟩
          case measure => simp [intOf]; omega
        · subst qe
          have HFS := hid (HST.out.trans (if_neg (by simp)))
          have hcall := HM.out ⟨⟨y0, y1, y2, y3, yl⟩, ys⟩ A6 k6 B6 m6 _ HCW.out HYA.out HSL.out.1 HYB.out (Nat.le_trans HSL.out.2 (by decide))
          obtain ⟨M, hM⟩ : ∃ M, M = mergeX ⟨⟨t0, t1, t2, t3, tl⟩, ts⟩ ⟨⟨y0, y1, y2, y3, yl⟩, ys⟩ := ⟨_, rfl⟩
          obtain ⟨ME, hME⟩ : ∃ M, M = mergeE ⟨⟨t0, t1, t2, t3, tl⟩, ts⟩ ⟨⟨y0, y1, y2, y3, yl⟩, ys⟩ := ⟨_, rfl⟩
          rw [← hM, ← hME] at hcall HFS
          simp only [tval] at hcall
          have HCALL := hid hcall
          have hcsz := HCW.out.size
          clear hcall hM hME HM
          obtain ⟨cHXTc, fHXTc, sHXTc, nHXTc⟩ := HXTc.out.all
          try simp only [cbox] at cHXTc
          obtain ⟨cHX6, fHX6, sHX6, nHX6⟩ := HX6.out.all
          try simp only [cbox] at cHX6
          go_wp2_with fail
          refine HCALL.out.mono ?_
          rintro e w8 ⟨A8, k8, B8, m8, rfl, hr8, hs8, hb8, hn8, hn8'⟩
          obtain ⟨⟨u0, u1, u2, u3, ul⟩, us⟩ := M
          simp only [tval] at hr8 hs8 ⊢
          clear cHXTc fHXTc sHXTc nHXTc
          clear cHX6 fHX6 sHX6 nHX6
          have HCW8 := hid (Below.step' HCW.out hb8)
          have HR8 := hid hr8
          have HS8 := hid hs8
          have HN8 := hid (show NewAt Wc.heap.size A8 from hn8)
          have HN8' := hid (show NewAt Wc.heap.size B8 from hn8')
          clear hr8 hs8 hb8 hn8 hn8' HCALL HX6 HXTc HX0c HYA HYB HCW
          have hBz : Below w8.heap.size w8 (w8.alloc (.cells #[.int .i64 u0, .int .i64 u1, .int .i64 u2, .int .i64 u3, .slice A8 ul.length k8, .slice B8 us.length m8] 28)) := (Below.refl _ _).alloc (Nat.le_refl _) _
          have HX8 := hid (Blk.new w8 #[.int .i64 u0, .int .i64 u1, .int .i64 u2, .int .i64 u3, .slice A8 ul.length k8, .slice B8 us.length m8] 28)
          replace HR8 := hid (HR8.out.step hBz)
          replace HS8 := hid (HS8.out.step hBz)
          replace HCW8 := hid (Below.step' HCW8.out hBz)
          obtain ⟨Wz, hWz⟩ : ∃ Wz : World, Wz = w8.alloc (.cells #[.int .i64 u0, .int .i64 u1, .int .i64 u2, .int .i64 u3, .slice A8 ul.length k8, .slice B8 us.length m8] 28) := ⟨_, rfl⟩
          rw [← hWz] at HR8 HS8 HCW8 HX8
          have HXTz := hid (HXT.out.step HCW8.out)
          have HX0z := hid (HX0.out.step HCW8.out)
          by_cases qm : ME = 0
          · subst qm
            have HFM := hid (HFS.out.trans (if_pos rfl))
            go_upto_region 11 with fail
            rw [← hWz]
            clear hWz hBz
            have hX := HXTz.out
            obtain ⟨⟨r0, r1, r2, r3, r4, r5⟩, f0, f1, f2, f3, f4, f5⟩ := hX.six
            obtain ⟨⟨x0, x1, x2, x3, x4, x5⟩, -⟩ := HX8.out.six
            have HX9 := hid (Blk.set6 hX (.int .i64 u0) (.int .i64 u1) (.int .i64 u2) (.int .i64 u3) (.slice A8 ul.length k8) (.slice B8 us.length m8))
            have HB9 := hid (Below.set6 (Below.step' HBW.out HCW8.out) (show w.heap.size ≤ w.heap.size + 1 by omega) (.int .i64 u0) (.int .i64 u1) (.int .i64 u2) (.int .i64 u3) (.slice A8 ul.length k8) (.slice B8 us.length m8))
            have HR9 := hid (Row.set6 HR8.out HN8.out (show w.heap.size + 1 < Wc.heap.size by omega) (.int .i64 u0) (.int .i64 u1) (.int .i64 u2) (.int .i64 u3) (.slice A8 ul.length k8) (.slice B8 us.length m8))
            have HS9 := hid (Row.set6 HS8.out HN8'.out (show w.heap.size + 1 < Wc.heap.size by omega) (.int .i64 u0) (.int .i64 u1) (.int .i64 u2) (.int .i64 u3) (.slice A8 ul.length k8) (.slice B8 us.length m8))
            have HX0' := hid ((((((HX0z.out.other (a := ⟨w.heap.size + 1, 0, none⟩) (by simp) (.int .i64 u0)).other (a := ⟨w.heap.size + 1, 1, none⟩) (by simp) (.int .i64 u1)).other (a := ⟨w.heap.size + 1, 2, none⟩) (by simp) (.int .i64 u2)).other (a := ⟨w.heap.size + 1, 3, none⟩) (by simp) (.int .i64 u3)).other (a := ⟨w.heap.size + 1, 4, none⟩) (by simp) (.slice A8 ul.length k8)).other (a := ⟨w.heap.size + 1, 5, none⟩) (by simp) (.slice B8 us.length m8))
            clear hX
            go_wp2
            go_roundw
            case rel =>
              exact ⟨i + 1, by omega, by go_num, A8, k8, B8, m8, by rw [← HS.out, HFM.out]; exact HX9.out, HX0'.out, by rw [← HS.out, HFM.out]; exact HR9.out, by rw [← HS.out, HFM.out]; exact HS9.out, fun b off q e => Nat.le_trans (by omega) (HN8.out b off q e), fun b off q e => Nat.le_trans (by omega) (HN8'.out b off q e), HB9.out⟩
            case measure => simp [intOf]; omega
          · have HFM : Hid (S = ⟨⟨t0, t1, t2, t3, tl⟩, ts⟩) := hid (HFS.out.trans (if_neg qm))
            have q2 : (ME == 0) = false := by simpa using qm
            clear qm
            go_upto_region 12 with fail
            rw [← hWz]
            clear hWz hBz
            go_wp2
            go_roundw
            case rel => exact ⟨i + 1, by omega, by go_num, A4, k4, B4, m4, by rw [← HS.out, HFM.out]; exact HXTz.out, HX0z.out, by rw [← HS.out, HFM.out]; exact HRA.out.step HCW8.out, by rw [← HS.out, HFM.out]; exact HRB.out.step HCW8.out, HNA.out, HNB.out, Below.step' HBW.out HCW8.out⟩
            case measure => simp [intOf]; omega
      · have HY1 := hid (HSX.out.trans (if_neg qk))
        have HYE := hid (HSE.out.trans (if_neg qk))
        have q0 : (kd == 1) = false := by simpa using qk
        rw [← HY1.out] at hr5 hs5 ⊢
        rw [← HYE.out]
        simp only [tval] at hr5 hs5 ⊢
        clear HY1 HYE HSX HSE HP qk
        have hBz : Below w5.heap.size w5 (w5.alloc (.cells #[.int .i64 y0, .int .i64 y1, .int .i64 y2, .int .i64 y3, .slice A5 yl.length k5, .slice B5 ys.length m5] 28)) := (Below.refl _ _).alloc (Nat.le_refl _) _
        have HX6 := hid (Blk.new w5 #[.int .i64 y0, .int .i64 y1, .int .i64 y2, .int .i64 y3, .slice A5 yl.length k5, .slice B5 ys.length m5] 28)
        have HYA := hid (hr5.step hBz)
        have HYB := hid (hs5.step hBz)
        have HCW := hid (Below.step' HC5.out hBz)
        obtain ⟨Wc, hWc⟩ : ∃ Wc : World, Wc = w5.alloc (.cells #[.int .i64 y0, .int .i64 y1, .int .i64 y2, .int .i64 y3, .slice A5 yl.length k5, .slice B5 ys.length m5] 28) := ⟨_, rfl⟩
        rw [← hWc] at HX6 HYA HYB HCW
        have hx5 := HX5.out.all
        obtain ⟨cHX5, fHX5, sHX5, nHX5⟩ := hx5
        go_upto_region 8 with fail
        rw [← hWc]
        clear hWc hBz hr5 hs5 hn5 hn5' cHX5 fHX5 sHX5 nHX5 HX5 HXT5
        have HXTc := hid (HXT.out.step HCW.out)
        have HX0c := hid (HX0.out.step HCW.out)
        by_cases qe : YE = 0
        rotate_left
        · have q1 : (YE != 0) = true := by simpa using qe
          have HFS : Hid (S = ⟨⟨t0, t1, t2, t3, tl⟩, ts⟩) := hid (by rw [HST.out, if_pos qe])
          clear qe
          go_wp2
          go_roundw
          case rel => exact ⟨i + 1, by omega, by go_num, A4, k4, B4, m4, by rw [← HS.out, HFS.out]; exact HXTc.out, HX0c.out, by rw [← HS.out, HFS.out]; exact HRA.out.step HCW.out, by rw [← HS.out, HFS.out]; exact HRB.out.step HCW.out, HNA.out, HNB.out, Below.step' HBW.out HCW.out⟩
          case measure => simp [intOf]; omega
        · subst qe
          have HFS := hid (HST.out.trans (if_neg (by simp)))
          have hcall := HM.out ⟨⟨y0, y1, y2, y3, yl⟩, ys⟩ A5 k5 B5 m5 _ HCW.out HYA.out HSL.out.1 HYB.out (Nat.le_trans HSL.out.2 (by decide))
          obtain ⟨M, hM⟩ : ∃ M, M = mergeX ⟨⟨t0, t1, t2, t3, tl⟩, ts⟩ ⟨⟨y0, y1, y2, y3, yl⟩, ys⟩ := ⟨_, rfl⟩
          obtain ⟨ME, hME⟩ : ∃ M, M = mergeE ⟨⟨t0, t1, t2, t3, tl⟩, ts⟩ ⟨⟨y0, y1, y2, y3, yl⟩, ys⟩ := ⟨_, rfl⟩
          rw [← hM, ← hME] at hcall HFS
          simp only [tval] at hcall
          have HCALL := hid hcall
          have hcsz := HCW.out.size
          clear hcall hM hME HM
          obtain ⟨cHXTc, fHXTc, sHXTc, nHXTc⟩ := HXTc.out.all
          try simp only [cbox] at cHXTc
          obtain ⟨cHX6, fHX6, sHX6, nHX6⟩ := HX6.out.all
          try simp only [cbox] at cHX6
          go_wp2_with fail
          refine HCALL.out.mono ?_
          rintro e w8 ⟨A8, k8, B8, m8, rfl, hr8, hs8, hb8, hn8, hn8'⟩
          obtain ⟨⟨u0, u1, u2, u3, ul⟩, us⟩ := M
          simp only [tval] at hr8 hs8 ⊢
          clear cHXTc fHXTc sHXTc nHXTc
          clear cHX6 fHX6 sHX6 nHX6
          have HCW8 := hid (Below.step' HCW.out hb8)
          have HR8 := hid hr8
          have HS8 := hid hs8
          have HN8 := hid (show NewAt Wc.heap.size A8 from hn8)
          have HN8' := hid (show NewAt Wc.heap.size B8 from hn8')
          clear hr8 hs8 hb8 hn8 hn8' HCALL HX6 HXTc HX0c HYA HYB HCW
          have hBz : Below w8.heap.size w8 (w8.alloc (.cells #[.int .i64 u0, .int .i64 u1, .int .i64 u2, .int .i64 u3, .slice A8 ul.length k8, .slice B8 us.length m8] 28)) := (Below.refl _ _).alloc (Nat.le_refl _) _
          have HX8 := hid (Blk.new w8 #[.int .i64 u0, .int .i64 u1, .int .i64 u2, .int .i64 u3, .slice A8 ul.length k8, .slice B8 us.length m8] 28)
          replace HR8 := hid (HR8.out.step hBz)
          replace HS8 := hid (HS8.out.step hBz)
          replace HCW8 := hid (Below.step' HCW8.out hBz)
          obtain ⟨Wz, hWz⟩ : ∃ Wz : World, Wz = w8.alloc (.cells #[.int .i64 u0, .int .i64 u1, .int .i64 u2, .int .i64 u3, .slice A8 ul.length k8, .slice B8 us.length m8] 28) := ⟨_, rfl⟩
          rw [← hWz] at HR8 HS8 HCW8 HX8
          have HXTz := hid (HXT.out.step HCW8.out)
          have HX0z := hid (HX0.out.step HCW8.out)
          by_cases qm : ME = 0
          · subst qm
            have HFM := hid (HFS.out.trans (if_pos rfl))
            go_upto_region 11 with fail
            rw [← hWz]
            clear hWz hBz
            have hX := HXTz.out
            obtain ⟨⟨r0, r1, r2, r3, r4, r5⟩, f0, f1, f2, f3, f4, f5⟩ := hX.six
            obtain ⟨⟨x0, x1, x2, x3, x4, x5⟩, -⟩ := HX8.out.six
            have HX9 := hid (Blk.set6 hX (.int .i64 u0) (.int .i64 u1) (.int .i64 u2) (.int .i64 u3) (.slice A8 ul.length k8) (.slice B8 us.length m8))
            have HB9 := hid (Below.set6 (Below.step' HBW.out HCW8.out) (show w.heap.size ≤ w.heap.size + 1 by omega) (.int .i64 u0) (.int .i64 u1) (.int .i64 u2) (.int .i64 u3) (.slice A8 ul.length k8) (.slice B8 us.length m8))
            have HR9 := hid (Row.set6 HR8.out HN8.out (show w.heap.size + 1 < Wc.heap.size by omega) (.int .i64 u0) (.int .i64 u1) (.int .i64 u2) (.int .i64 u3) (.slice A8 ul.length k8) (.slice B8 us.length m8))
            have HS9 := hid (Row.set6 HS8.out HN8'.out (show w.heap.size + 1 < Wc.heap.size by omega) (.int .i64 u0) (.int .i64 u1) (.int .i64 u2) (.int .i64 u3) (.slice A8 ul.length k8) (.slice B8 us.length m8))
            have HX0' := hid ((((((HX0z.out.other (a := ⟨w.heap.size + 1, 0, none⟩) (by simp) (.int .i64 u0)).other (a := ⟨w.heap.size + 1, 1, none⟩) (by simp) (.int .i64 u1)).other (a := ⟨w.heap.size + 1, 2, none⟩) (by simp) (.int .i64 u2)).other (a := ⟨w.heap.size + 1, 3, none⟩) (by simp) (.int .i64 u3)).other (a := ⟨w.heap.size + 1, 4, none⟩) (by simp) (.slice A8 ul.length k8)).other (a := ⟨w.heap.size + 1, 5, none⟩) (by simp) (.slice B8 us.length m8))
            clear hX
            go_wp2
            go_roundw
            case rel =>
              exact ⟨i + 1, by omega, by go_num, A8, k8, B8, m8, by rw [← HS.out, HFM.out]; exact HX9.out, HX0'.out, by rw [← HS.out, HFM.out]; exact HR9.out, by rw [← HS.out, HFM.out]; exact HS9.out, fun b off q e => Nat.le_trans (by omega) (HN8.out b off q e), fun b off q e => Nat.le_trans (by omega) (HN8'.out b off q e), HB9.out⟩
            case measure => simp [intOf]; omega
          · have HFM : Hid (S = ⟨⟨t0, t1, t2, t3, tl⟩, ts⟩) := hid (HFS.out.trans (if_neg qm))
            have q2 : (ME == 0) = false := by simpa using qm
            clear qm
            go_upto_region 12 with fail
            rw [← hWz]
            clear hWz hBz
            go_wp2
            go_roundw
            case rel => exact ⟨i + 1, by omega, by go_num, A4, k4, B4, m4, by rw [← HS.out, HFM.out]; exact HXTz.out, HX0z.out, by rw [← HS.out, HFM.out]; exact HRA.out.step HCW8.out, by rw [← HS.out, HFM.out]; exact HRB.out.step HCW8.out, HNA.out, HNB.out, Below.step' HBW.out HCW8.out⟩
            case measure => simp [intOf]; omega
    · have hfin := HFIN.out hlt
      rw [hfin] at HXT HRA HRB
      clear HFIN
      obtain ⟨⟨t0, t1, t2, t3, tl⟩, ts⟩ := V
      simp only [tbox] at HXT
      have h0 := HX0.out
      obtain ⟨⟨r0, r1, r2, r3, r4, r5⟩, f0, f1, f2, f3, f4, f5⟩ := h0.six
      obtain ⟨⟨x0, x1, x2, x3, x4, x5⟩, -⟩ := HXT.out.six
      have HX9 := hid (Blk.set6 h0 (.int .i64 t0) (.int .i64 t1) (.int .i64 t2) (.int .i64 t3) (.slice A4 tl.length k4) (.slice B4 ts.length m4))
      have HB9 := hid (Below.set6 HBW.out (Nat.le_refl _) (.int .i64 t0) (.int .i64 t1) (.int .i64 t2) (.int .i64 t3) (.slice A4 tl.length k4) (.slice B4 ts.length m4))
      have HR9 := hid (Row.set6 HRA.out HNA.out (show w.heap.size < w.heap.size + 2 by omega) (.int .i64 t0) (.int .i64 t1) (.int .i64 t2) (.int .i64 t3) (.slice A4 tl.length k4) (.slice B4 ts.length m4))
      have HS9 := hid (Row.set6 HRB.out HNB.out (show w.heap.size < w.heap.size + 2 by omega) (.int .i64 t0) (.int .i64 t1) (.int .i64 t2) (.int .i64 t3) (.slice A4 tl.length k4) (.slice B4 ts.length m4))
      have HQ := hid HX9.out.six.1
      clear h0
      go_wp2_with (refine bodyPost_ret (v := tval ⟨⟨t0, t1, t2, t3, tl⟩, ts⟩ A4 k4 B4 m4) ?h1 rfl ?h2)
      case h1 =>
        obtain ⟨q0, q1, q2, q3, q4, q5⟩ := HQ.out
        simp [results, Tryz.results5, go_sem, q0, q1, q2, q3, q4, q5]
      case h2 =>
        exact ⟨A4, k4, B4, m4, rfl, HR9.out, HS9.out, HB9.out, fun b off q e => Nat.le_trans (by omega) (HNA.out b off q e), fun b off q e => Nat.le_trans (by omega) (HNB.out b off q e)⟩
end Go.Proofs.YtmcdaibdpeeefaaGreat
/- viewkeep.puts: a closed sentence. -/
namespace Go.Proofs.YtmcdaibdpeeefaaGreat
set_option linter.unusedVariables false
open Go.ChangeShapes Go.WideShapes Go.ChangeAt Go.RowKit

def puP : Tab := ⟨⟨1, 0, 0, 0, []⟩, [⟨(0, 1), 3, 1, 7⟩]⟩
def puQ : Tab := ⟨⟨1, 1, 0, 0, []⟩, [⟨(1, 1), 3, 1, 5⟩]⟩
theorem pack_p : packL 0 0 0 0 [(0, 1)] = ⟨1, 0, 0, 0, []⟩ := by simp [packL, cpt, packStep, Ctx.at_, Ctx.inc]
theorem pack_q : packL 0 0 0 0 [(0, 1), (1, 1)] = ⟨1, 1, 0, 0, []⟩ := by
  have e : ([(0, 1), (1, 1)] : List (Int × Int)).mergeSort dotLe = [(0, 1), (1, 1)] := by simp [List.mergeSort, dotLe, before]
  unfold packL
  rw [e]
  simp [cpt, packStep, Ctx.at_, Ctx.inc]
theorem puP_right : tabI puP = 0 := by
  refine tabI_iff.2 ⟨⟨by simp [clkIn, puP], by simp [puP], by simp [puP]⟩, by simp [puP], by simp [puP], fun x hx => ?_, by simp [puP]⟩
  simp only [puP, List.mem_singleton] at hx
  subst hx
  rw [celOk_iff, hasB_iff]
  exact ⟨rfl, .inl (by simp [puP, Ctx.at_]), rfl, rfl, rfl⟩
theorem puQ_right : tabI puQ = 0 := by
  refine tabI_iff.2 ⟨⟨by simp [clkIn, puQ], by simp [puQ], by simp [puQ]⟩, by simp [puQ], by simp [puQ], fun x hx => ?_, by simp [puQ]⟩
  simp only [puQ, List.mem_singleton] at hx
  subst hx
  rw [celOk_iff, hasB_iff]
  exact ⟨rfl, .inl (by simp [puQ, Ctx.at_]), rfl, rfl, rfl⟩
theorem next_p : nextD zT.c 0 = (0, 1) ∧ nextE zT.c 0 = 0 := by
  have h1 : checkI zT.c = 0 := (tabI_zero tabI_zT).1
  obtain ⟨e1, e2⟩ := next_R h1 (i := 0) rfl
  rw [e1, e2]
  have h3 : maxS zT.c 0 = 0 := by simp [maxS, Ctx.at_, zT]
  unfold rnextD rnextE
  rw [h3]; simp
theorem next_q : nextD puP.c 1 = (1, 1) ∧ nextE puP.c 1 = 0 := by
  have h1 : checkI puP.c = 0 := (tabI_zero puP_right).1
  obtain ⟨e1, e2⟩ := next_R h1 (i := 1) rfl
  rw [e1, e2]
  have h3 : maxS puP.c 1 = 0 := by simp [maxS, Ctx.at_, puP]
  unfold rnextD rnextE
  rw [h3]; simp
theorem put_p : putX zT 0 3 1 7 = puP ∧ putE zT 0 3 1 7 = 0 := by
  have hl : putL zT 3 1 (nextD zT.c 0) = [(0, 1)] := by rw [next_p.1]; simp [putL, zT]
  obtain ⟨h1, h2⟩ := ctx_pack (l := [(0, 1)]) (by simp) (by decide)
  rw [pack_p] at h1 h2
  simp only [List.length_nil, Nat.not_lt_zero, if_false] at h1 h2
  unfold putX putE
  rw [hl, h1, h2, next_p.1, next_p.2]
  rw [if_neg (by simp [tabI_zT, argOk, inB]), if_neg (by simp [tabI_zT]), if_neg (by simp [argOk, inB]), if_neg (by simp)]
  exact ⟨rfl, rfl⟩
theorem put_q : putX puP 1 3 1 5 = puQ ∧ putE puP 1 3 1 5 = 0 := by
  have hl : putL puP 3 1 (nextD puP.c 1) = [(0, 1), (1, 1)] := by rw [next_q.1]; simp [putL, puP, atKC]
  obtain ⟨h1, h2⟩ := ctx_pack (l := [(0, 1), (1, 1)]) (by simp) (by decide)
  rw [pack_q] at h1 h2
  simp only [List.length_nil, Nat.not_lt_zero, if_false] at h1 h2
  unfold putX putE
  rw [hl, h1, h2, next_q.1, next_q.2]
  rw [if_neg (by simp [puP_right, argOk, inB]), if_neg (by simp [puP_right]), if_neg (by simp [argOk, inB]), if_neg (by simp)]
  exact ⟨rfl, rfl⟩
theorem merge_p : mergeE zT puP = 0 ∧ mergeX zT puP = puP := by
  have hz : ∀ d, hasB zT.c d = true → False := by
    intro d hd
    rw [hasB_iff] at hd
    rcases hd with ⟨h1, h2, h3, h4⟩ | h
    · simp only [zT, Ctx.at_] at h4
      split at h4 <;> (try split at h4) <;> (try split at h4) <;> omega
    · simp [zT] at h
  obtain ⟨h1, h2⟩ := merge_again (s := puP) (a := zT) puP_right tabI_zT (fun x _ y hy => by simp [zT] at hy) (fun d hd => (hz d hd).elim) (fun x _ hd => (hz _ hd).elim)
  exact ⟨mergeE_comm h1, by rw [← mergeX_comm h1, h2]⟩
theorem merge_q : mergeE puP puQ = 0 ∧ mergeX puP puQ = puQ := by
  obtain ⟨h1, h2⟩ := merge_again (s := puQ) (a := puP) puQ_right puP_right (fun x hx y hy e => by
    simp only [puQ, puP, List.mem_singleton] at hx hy
    subst hx hy
    simp at e) (fun d hd => by
    rw [hasB_iff] at hd ⊢
    rcases hd with ⟨h1, h2, h3, h4⟩ | h
    · left
      refine ⟨h1, h2, h3, ?_⟩
      simp only [puP, puQ, Ctx.at_] at h4 ⊢
      split at h4 <;> (try split at h4) <;> (try split at h4) <;> simp_all <;> omega
    · simp [puP] at h) (fun x hx hd => by
    simp only [puQ, List.mem_singleton] at hx
    subst hx
    rw [hasB_iff] at hd
    rcases hd with ⟨h1, h2, h3, h4⟩ | h
    · simp [puP, Ctx.at_] at h4
    · simp [puP] at h)
  exact ⟨mergeE_comm h1, by rw [← mergeX_comm h1, h2]⟩
theorem edit_pq : editX [⟨1, 0, 3, 1, 7⟩, ⟨1, 0, 3, 1, 5⟩] = puQ := by
  show editN [⟨1, 0, 3, 1, 7⟩, ⟨1, 0, 3, 1, 5⟩] 2 = puQ
  have e1 : editN [⟨1, 0, 3, 1, 7⟩, ⟨1, 0, 3, 1, 5⟩] 1 = puP := by
    show editStep zT 0 ⟨1, 0, 3, 1, 7⟩ = puP
    unfold editStep stepE stepX
    simp only [if_true]
    rw [show (((0 : Nat) % 2 : Nat) : Int) = 0 from rfl, put_p.1, put_p.2, if_neg (by simp), if_pos merge_p.1, merge_p.2]
  show editStep (editN [⟨1, 0, 3, 1, 7⟩, ⟨1, 0, 3, 1, 5⟩] 1) 1 ⟨1, 0, 3, 1, 5⟩ = puQ
  rw [e1]
  unfold editStep stepE stepX
  simp only [if_true]
  rw [show (((1 : Nat) % 2 : Nat) : Int) = 1 from rfl, put_q.1, put_q.2, if_neg (by simp), if_pos merge_q.1, merge_q.2]
theorem vals_pq : valsL puQ 3 1 = [5] ∧ keysL puQ = [3] := by
  have e5 : isort [5] = [5] := by simp [isort]
  have e3 : isort [3] = [3] := by simp [isort]
  constructor
  · show Lib.compact (isort [5]) = [5]
    rw [e5]; rfl
  · show Lib.compact (isort [3]) = [3]
    rw [e3]; rfl

theorem build_ed (k a c v : Int) (w : World) : (Instr.build 35 #[(0, .int .i64 k), (2, .int .i64 a), (3, .int .i64 c), (4, .int .i64 v)]).run Tryz.prog w = .ok (.agg #[.int .i64 k, .int .i64 0, .int .i64 a, .int .i64 c, .int .i64 v]) w :=
  run_build w _ _ _ (by kernel_rfl)

end Go.Proofs.YtmcdaibdpeeefaaGreat
/- Rows of a table: the plain law (ZsetRows). -/
namespace Go.Proofs.YtmcdaibdpeeefaaGreat
set_option linter.unusedVariables false

theorem lastI_mem {l : List Int} : lastI l = 0 ∨ lastI l ∈ l := by
  unfold lastI
  split
  · exact .inr (List.getElem_mem _)
  · exact .inl rfl
theorem ofRow_in {t : Tab} (h : tabI t = 0) {key : Int} (hk : key ∈ keysL t) : ∀ n ∈ ofRowN (valsL t) key 3, -1000 ≤ n ∧ n ≤ 1000 := by
  have hc := (tabI_iff.1 h).2.2.2.1
  intro n hn
  unfold ofRowN at hn
  rcases List.mem_cons.1 hn with rfl | hn
  · obtain ⟨x, hx, rfl⟩ := keys_mem.1 hk
    have := (celOk_iff.1 (hc x hx)).2.2.1
    simp only [inB, Bool.and_eq_true, decide_eq_true_eq] at this
    omega
  · obtain ⟨c, _, rfl⟩ := List.mem_map.1 hn
    rcases lastI_mem (l := valsL t key (c : Int)) with e | e
    · rw [e]; omega
    · obtain ⟨x, hx, _, _, e2⟩ := vals_mem.1 e
      have := (celOk_iff.1 (hc x hx)).2.2.2.2
      rw [e2] at this
      simp only [inB, Bool.and_eq_true, decide_eq_true_eq] at this
      omega
theorem of_set {t : Tab} (h : tabI t = 0) : setI (ofX t) = 0 := by
  unfold ofX
  rw [if_pos h]
  refine setI_zero.2 ⟨?_, fun x hx => ?_, strict_of (fun x hx => ?_) ?_⟩
  · unfold ofL
    rw [List.length_map]
    exact Nat.le_trans (keysL_len t) (tabI_cells h)
  · obtain ⟨key, hk, rfl⟩ := List.mem_map.1 hx
    have h1 := ofRow_in h hk
    unfold badB rowB farB
    have h2 : (ofRowN (valsL t) key 3).any outB = false := by
      rw [List.any_eq_false]
      intro n hn
      have := h1 n hn
      unfold outB
      simp only [Bool.or_eq_true, decide_eq_true_eq]
      omega
    simp only [h2, ofRowN_len]
    rfl
  · obtain ⟨key, hk, rfl⟩ := List.mem_map.1 hx
    exact ⟨Int.one_ne_zero, wrp_id (show -9223372036854775808 ≤ (1 : Int) ∧ (1 : Int) ≤ 9223372036854775807 by decide)⟩
  · unfold ofL
    refine List.pairwise_map.2 ((once_rise (t.cells.map Cel.key)).imp fun {x y} hxy => ?_)
    show cmpL (ofRowN (valsL t) x 3) (ofRowN (valsL t) y 3) < 0
    unfold ofRowN
    rw [cmpL, if_pos hxy]; decide
theorem of_keys (V : Int → Int → List Int) (K : List Int) : (ofL V K).map (fun x => x.1.headD 0) = K := by
  unfold ofL
  rw [List.map_map]
  conv => rhs; rw [← List.map_id K]
  exact List.map_congr_left fun x _ => rfl
theorem edit_p : editX [⟨1, 0, 3, 1, 7⟩] = puP := by
  show editN [⟨1, 0, 3, 1, 7⟩] 1 = puP
  show editStep zT 0 ⟨1, 0, 3, 1, 7⟩ = puP
  unfold editStep stepE stepX
  simp only [if_true]
  rw [show (((0 : Nat) % 2 : Nat) : Int) = 0 from rfl, put_p.1, put_p.2, if_neg (by simp), if_pos merge_p.1, merge_p.2]
theorem of_p : ofX puP = [([3, 0, 7, 0], 1)] := by
  unfold ofX
  rw [if_pos puP_right]
  have e3 : isort [3] = [3] := by simp [isort]
  have e7 : isort [7] = [7] := by simp [isort]
  have e0 : isort [] = [] := by simp [isort]
  have k : keysL puP = [3] := by
    show Lib.compact (isort [3]) = [3]
    rw [e3]; rfl
  have v0 : valsL puP 3 0 = [] := by
    show Lib.compact (isort []) = []
    rw [e0]; rfl
  have v1 : valsL puP 3 1 = [7] := by
    show Lib.compact (isort [7]) = [7]
    rw [e7]; rfl
  have v2 : valsL puP 3 2 = [] := by
    show Lib.compact (isort []) = []
    rw [e0]; rfl
  rw [k]
  simp only [ofL, List.map_cons, List.map_nil, ofRowN]
  have hr : List.range 3 = [0, 1, 2] := rfl
  rw [hr]
  simp only [List.map_cons, List.map_nil]
  rw [show ((0 : Nat) : Int) = 0 from rfl, show ((1 : Nat) : Int) = 1 from rfl, show ((2 : Nat) : Int) = 2 from rfl, v0, v1, v2]
  rfl
end Go.Proofs.YtmcdaibdpeeefaaGreat
/- zset.Add, Neg. -/
namespace Go.Proofs.YtmcdaibdpeeefaaGreat
set_option linter.unusedVariables false
open Go.ChangeShapes Go.WideShapes Go.ChangeAt Go.RowKit

theorem lens_set {M : List IR} (h : setI (its M) = 0) : ∀ x ∈ M, x.row.length ≤ 1048576 := lens_of (setI_zero.1 h).2.1
theorem len_set {M : List IR} (h : setI (its M) = 0) : M.length ≤ 400 := by have := (setI_zero.1 h).1; rwa [its_len] at this

theorem keepA {B b : Nat} {W w : World} {o : Obj} (hb : b < w.heap.size) (hB : B ≤ w.heap.size) (h : ∀ o, w.cell? ⟨b, o, none⟩ = W.cell? ⟨b, o, none⟩) (h2 : Below B W w) : (∀ x, (w.alloc o).cell? ⟨b, x, none⟩ = W.cell? ⟨b, x, none⟩) ∧ Below B W (w.alloc o) :=
  ⟨fun x => ((bcell ((Below.refl w.heap.size w).alloc (Nat.le_refl _) o)).1 b x hb).trans (h x), h2.alloc hB o⟩
theorem keepG {w w' : World} {r : Option Nat} (hg : w.grownBy w' r) {b : Nat} (hb : b < w.heap.size) (hr : some b = r → False) (o : Nat) : w'.cell? ⟨b, o, none⟩ = w.cell? ⟨b, o, none⟩ :=
  World.cell?_of_block (w := w) (hg.block b hb hr)

end Go.Proofs.YtmcdaibdpeeefaaGreat
