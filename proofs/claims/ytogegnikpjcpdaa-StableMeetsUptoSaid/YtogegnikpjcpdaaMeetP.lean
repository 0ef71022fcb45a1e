/- Meets of contexts: what all have. No program in sight. -/
import Derived.Test.YtogegnikpjcpdaaCtx
namespace Go.Proofs.Ytogegnikpjcpdaa
set_option linter.unusedVariables false

/-- What is wrong with the first one that is wrong. -/
def badL : List Ctx → Int
  | [] => 0
  | c :: L => if checkI c ≠ 0 then checkI c else badL L
def minC (m x : Ctx) : Ctx := ⟨min m.c0 x.c0, min m.c1 x.c1, min m.c2 x.c2, min m.c3 x.c3, m.cloud⟩
def minL (L : List Ctx) : Ctx := L.foldl minC { L.headD ⟨0, 0, 0, 0, []⟩ with cloud := [] }
def allB (L : List Ctx) (d : Int × Int) : Bool := L.all (fun c => hasB c d)
def cloudOf (L : List Ctx) (x : Ctx) : List (Int × Int) := x.cloud.filter (allB L)
def cloudAll (L : List Ctx) : List (Int × Int) := L.flatMap (cloudOf L)
def meetC (L : List Ctx) : Ctx := packL (minL L).c0 (minL L).c1 (minL L).c2 (minL L).c3 (cloudAll L)
def meetX (L : List Ctx) : Ctx := if L = [] ∨ badL L ≠ 0 ∨ 400 < (meetC L).cloud.length then ⟨0, 0, 0, 0, []⟩ else meetC L
def meetE (L : List Ctx) : Int := if L = [] then 1 else if badL L ≠ 0 then badL L else if 400 < (meetC L).cloud.length then 2 else 0

theorem badL_zero {L : List Ctx} : badL L = 0 ↔ ∀ c ∈ L, checkI c = 0 := by
  induction L with
  | nil => simp [badL]
  | cons c L ih =>
    unfold badL
    split
    · rename_i h
      constructor
      · intro e; exact absurd e h
      · intro e; exact absurd (e c (by simp)) h
    · rename_i h
      have h : checkI c = 0 := by simpa using h
      rw [ih]
      simp [h]
theorem badL_take {L : List Ctx} {i : Nat} (h : i < L.length) (h0 : ∀ c ∈ L.take i, checkI c = 0) (h1 : checkI L[i] ≠ 0) : badL L = checkI L[i] := by
  induction L generalizing i with
  | nil => simp at h
  | cons c L ih =>
    cases i with
    | zero => unfold badL; simp at h1; simp [h1]
    | succ i =>
      have h2 : checkI c = 0 := h0 c (by simp)
      unfold badL
      rw [if_neg (by simp [h2])]
      simp only [List.getElem_cons_succ] at h1 ⊢
      exact ih (by simpa using h) (fun x hx => h0 x (by simp [hx])) h1

theorem at_minC (m x : Ctx) (n : Int) : (minC m x).at_ n = min (m.at_ n) (x.at_ n) := by
  unfold minC Ctx.at_
  simp only
  split
  · rfl
  · split
    · rfl
    · split <;> rfl
theorem minL_fold (n : Int) : ∀ (L : List Ctx) (m : Ctx), (L.foldl minC m).at_ n ≤ m.at_ n ∧ (∀ c ∈ L, (L.foldl minC m).at_ n ≤ c.at_ n) ∧ ((L.foldl minC m).at_ n = m.at_ n ∨ ∃ c ∈ L, (L.foldl minC m).at_ n = c.at_ n)
  | [], m => by simp
  | c :: L, m => by
    obtain ⟨h1, h2, h3⟩ := minL_fold n L (minC m c)
    rw [List.foldl_cons]
    rw [at_minC] at h1 h3
    refine ⟨by omega, ?_, ?_⟩
    · intro x hx
      rcases List.mem_cons.1 hx with rfl | hx
      · omega
      · exact h2 x hx
    · rcases h3 with h3 | ⟨x, hx, h3⟩
      · by_cases h4 : m.at_ n ≤ c.at_ n
        · left; omega
        · right; exact ⟨c, by simp, by omega⟩
      · right; exact ⟨x, by simp [hx], h3⟩
theorem minL_at {L : List Ctx} (hL : L ≠ []) (n : Int) : (∀ c ∈ L, (minL L).at_ n ≤ c.at_ n) ∧ ∃ c ∈ L, (minL L).at_ n = c.at_ n := by
  obtain ⟨h1, h2, h3⟩ := minL_fold n L { L.headD ⟨0, 0, 0, 0, []⟩ with cloud := [] }
  refine ⟨h2, ?_⟩
  rcases h3 with h3 | h3
  · cases L with
    | nil => exact absurd rfl hL
    | cons c L => exact ⟨c, by simp, h3⟩
  · exact h3
theorem minL_cloud (L : List Ctx) : (minL L).cloud = [] := by
  unfold minL
  have h : ∀ (L : List Ctx) (m : Ctx), (L.foldl minC m).cloud = m.cloud := by
    intro L
    induction L with
    | nil => simp
    | cons c L ih => intro m; rw [List.foldl_cons, ih]; rfl
  rw [h]
theorem minL_eta (L : List Ctx) : minL L = ⟨(minL L).c0, (minL L).c1, (minL L).c2, (minL L).c3, []⟩ := by
  have h := minL_cloud L
  generalize minL L = m at *
  obtain ⟨a, b, c, d, e⟩ := m
  simp only at h
  rw [h]
theorem minL_in {L : List Ctx} (hL : L ≠ []) (h : ∀ c ∈ L, clkIn c) : clkIn (minL L) := by
  have hb : ∀ n, 0 ≤ (minL L).at_ n ∧ (minL L).at_ n ≤ 1099511627776 := by
    intro n
    obtain ⟨-, c, hc, e⟩ := minL_at hL n
    rw [e]
    exact at_in (h c hc) n
  have h0 := hb 0
  have h1 := hb 1
  have h2 := hb 2
  have h3 := hb 3
  simp [Ctx.at_] at h0 h1 h2 h3
  exact ⟨h0, h1, h2, h3⟩
theorem allB_iff {L : List Ctx} {d : Int × Int} : allB L d = true ↔ ∀ c ∈ L, hasB c d = true := by simp [allB]
theorem cloudAll_mem {L : List Ctx} {d : Int × Int} : d ∈ cloudAll L ↔ (∃ c ∈ L, d ∈ c.cloud) ∧ allB L d = true := by
  unfold cloudAll cloudOf
  simp only [List.mem_flatMap, List.mem_filter]
  constructor
  · rintro ⟨c, h1, h2, h3⟩; exact ⟨⟨c, h1, h2⟩, h3⟩
  · rintro ⟨⟨c, h1, h2⟩, h3⟩; exact ⟨c, h1, h2, h3⟩
/-- Whatever list has the dots of the clouds that all have: packed, it is what all have. -/
theorem meet_pack {L : List Ctx} (hL : L ≠ []) (hok : ∀ c ∈ L, okC c) {D : List (Int × Int)} (hD : ∀ d, d ∈ D ↔ d ∈ cloudAll L) :
    okC (packL (minL L).c0 (minL L).c1 (minL L).c2 (minL L).c3 D) ∧ ∀ d, hasB (packL (minL L).c0 (minL L).c1 (minL L).c2 (minL L).c3 D) d = true ↔ ∀ c ∈ L, hasB c d = true := by
  have hin := minL_in hL (fun c hc => (hok c hc).1)
  rw [minL_eta] at hin
  obtain ⟨h1, h2⟩ := pack_ok (l := D) hin (fun d hd => by
    obtain ⟨⟨c, hc, h⟩, -⟩ := cloudAll_mem.1 ((hD d).1 hd)
    exact ((hok c hc).2.1 d h).1)
  refine ⟨h1, fun d => ?_⟩
  rw [h2, ← minL_eta, hD, cloudAll_mem, allB_iff]
  constructor
  · rintro (h | ⟨-, h⟩)
    · intro c hc
      rcases hasB_iff.1 h with ⟨a1, a2, a3, a4⟩ | h
      · exact hasB_iff.2 (.inl ⟨a1, a2, a3, Int.le_trans a4 ((minL_at hL d.1).1 c hc)⟩)
      · rw [minL_cloud] at h; simp at h
    · exact h
  · intro h
    obtain ⟨hle, c, hc, e⟩ := minL_at hL d.1
    rcases hasB_iff.1 (h c hc) with ⟨a1, a2, a3, a4⟩ | h'
    · exact .inl (hasB_iff.2 (.inl ⟨a1, a2, a3, by rw [e]; exact a4⟩))
    · exact .inr ⟨⟨c, hc, h'⟩, h⟩
theorem meet_ok {L : List Ctx} (hL : L ≠ []) (hok : ∀ c ∈ L, okC c) : okC (meetC L) ∧ ∀ d, hasB (meetC L) d = true ↔ ∀ c ∈ L, hasB c d = true := meet_pack hL hok (fun d => Iff.rfl)
theorem meet_same {L : List Ctx} (hL : L ≠ []) (hok : ∀ c ∈ L, okC c) {D : List (Int × Int)} (hD : ∀ d, d ∈ D ↔ d ∈ cloudAll L) :
    packL (minL L).c0 (minL L).c1 (minL L).c2 (minL L).c3 D = meetC L := by
  obtain ⟨h1, h2⟩ := meet_pack hL hok hD
  obtain ⟨h3, h4⟩ := meet_ok hL hok
  exact okC_ext h1 h3 fun d => by rw [Bool.eq_iff_iff, h2, h4]

/-- Once each. -/
def addD (D : List (Int × Int)) (d : Int × Int) : List (Int × Int) := if d ∈ D then D else D ++ [d]
def onceD (l : List (Int × Int)) : List (Int × Int) := l.foldl addD []
theorem addD_mem {D : List (Int × Int)} {d x : Int × Int} : x ∈ addD D d ↔ x ∈ D ∨ x = d := by
  unfold addD
  split
  · rename_i h
    constructor
    · exact .inl
    · rintro (h1 | rfl)
      · exact h1
      · exact h
  · simp
theorem addD_nodup {D : List (Int × Int)} {d : Int × Int} (h : D.Nodup) : (addD D d).Nodup := by
  unfold addD
  split
  · exact h
  · rename_i h1
    rw [List.nodup_append]
    refine ⟨h, by simp, ?_⟩
    intro a ha b hb
    simp only [List.mem_singleton] at hb
    subst hb
    rintro rfl
    exact h1 ha
theorem fold_addD : ∀ (l D : List (Int × Int)), D.Nodup → (l.foldl addD D).Nodup ∧ ∀ x, x ∈ l.foldl addD D ↔ x ∈ D ∨ x ∈ l
  | [], D, h => ⟨h, fun x => by simp⟩
  | d :: l, D, h => by
    obtain ⟨h1, h2⟩ := fold_addD l (addD D d) (addD_nodup h)
    refine ⟨h1, fun x => ?_⟩
    rw [List.foldl_cons, h2, addD_mem]
    simp [or_assoc]
theorem onceD_ok (l : List (Int × Int)) : (onceD l).Nodup ∧ ∀ x, x ∈ onceD l ↔ x ∈ l := by
  obtain ⟨h1, h2⟩ := fold_addD l [] (by simp)
  exact ⟨h1, fun x => by rw [onceD, h2]; simp⟩
theorem addD_len (D : List (Int × Int)) (d : Int × Int) : D.length ≤ (addD D d).length := by unfold addD; split <;> simp
/-- What all have beyond their clocks, each once, lies in the clouds of four. -/
theorem once_len {L : List Ctx} (hL : L ≠ []) (hok : ∀ c ∈ L, okC c) (h4 : ∀ c ∈ L, c.cloud.length ≤ 400) {D : List (Int × Int)} (hn : D.Nodup) (hD : ∀ d ∈ D, d ∈ cloudAll L) : D.length ≤ 1600 := by
  obtain ⟨-, x0, hx0, e0⟩ := minL_at hL 0
  obtain ⟨-, x1, hx1, e1⟩ := minL_at hL 1
  obtain ⟨-, x2, hx2, e2⟩ := minL_at hL 2
  obtain ⟨-, x3, hx3, e3⟩ := minL_at hL 3
  have hsub : D ⊆ x0.cloud ++ (x1.cloud ++ (x2.cloud ++ x3.cloud)) := by
    intro d hd
    obtain ⟨⟨c, hc, hdc⟩, ha⟩ := cloudAll_mem.1 (hD d hd)
    rw [allB_iff] at ha
    obtain ⟨hr, hs⟩ := (hok c hc).2.1 d hdc
    have hr := right_iff.1 hr
    have hm := (minL_at hL d.1).1 c hc
    have key : ∀ x ∈ L, (minL L).at_ d.1 = x.at_ d.1 → d ∈ x.cloud := by
      intro x hx e
      rcases hasB_iff.1 (ha x hx) with ⟨-, -, -, h⟩ | h
      · omega
      · exact h
    rcases (by omega : d.1 = 0 ∨ d.1 = 1 ∨ d.1 = 2 ∨ d.1 = 3) with h | h | h | h
    · have := key x0 hx0 (by rw [h]; exact e0); simp [this]
    · have := key x1 hx1 (by rw [h]; exact e1); simp [this]
    · have := key x2 hx2 (by rw [h]; exact e2); simp [this]
    · have := key x3 hx3 (by rw [h]; exact e3); simp [this]
  have h := hn.length_le_of_subset hsub
  simp only [List.length_append] at h
  have := h4 x0 hx0
  have := h4 x1 hx1
  have := h4 x2 hx2
  have := h4 x3 hx3
  omega
theorem cloudAll_len {L : List Ctx} {n : Nat} (h4 : ∀ c ∈ L, c.cloud.length ≤ 400) : (cloudAll L).length ≤ 400 * L.length := by
  have h : ∀ (M : List Ctx), (∀ c ∈ M, c.cloud.length ≤ 400) → (M.flatMap (cloudOf L)).length ≤ 400 * M.length := by
    intro M
    induction M with
    | nil => simp
    | cons c M ih =>
      intro hM
      have h1 := ih (fun x hx => hM x (by simp [hx]))
      have h2 := hM c (by simp)
      have h3 : (cloudOf L c).length ≤ c.cloud.length := List.length_filter_le _ _
      simp only [List.flatMap_cons, List.length_append, List.length_cons]
      omega
  exact h L h4
theorem meetC_len {L : List Ctx} (hL : L ≠ []) (hok : ∀ c ∈ L, okC c) (h4 : ∀ c ∈ L, c.cloud.length ≤ 400) : (meetC L).cloud.length ≤ 1600 := by
  rw [← meet_same hL hok (onceD_ok (cloudAll L)).2]
  exact Nat.le_trans pack_length (once_len hL hok h4 (onceD_ok _).1 (fun d hd => ((onceD_ok _).2 d).1 hd))
end Go.Proofs.Ytogegnikpjcpdaa
