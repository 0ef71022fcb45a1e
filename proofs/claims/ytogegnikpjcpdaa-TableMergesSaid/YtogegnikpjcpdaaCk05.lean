/- MeetP, Stab, Miss, RMiss -/
import Derived.Test.YtogegnikpjcpdaaCk04
import Derived.Deep.CutBlock
import Derived.Deep.CutRange
/- Meets of contexts: what all have. No program in sight. -/
namespace Go.Proofs.Ytogegnikpjcpdaa
set_option linter.unusedVariables false

/-- What is wrong with the first one that is wrong. -/
def badL : List Ctx → Int
  | [] => 0
  | c :: L => if checkI c ≠ 0 then checkI c else badL L
def minC (m x : Ctx) : Ctx := ⟨min m.c0 x.c0, min m.c1 x.c1, min m.c2 x.c2, min m.c3 x.c3, m.cloud⟩
def minL (L : List Ctx) : Ctx := L.foldl minC { L.headD ⟨0, 0, 0, 0, []⟩ with cloud := [] }
def allB (L : List Ctx) (d : Int × Int) : Bool := L.all (fun c => hasB c d)
def cloudOf (L : List Ctx) (x : Ctx) : List (Int × Int) := x.cloud.filter (allB L)
def cloudAll (L : List Ctx) : List (Int × Int) := L.flatMap (cloudOf L)
def meetC (L : List Ctx) : Ctx := packL (minL L).c0 (minL L).c1 (minL L).c2 (minL L).c3 (cloudAll L)
def meetX (L : List Ctx) : Ctx := if L = [] ∨ badL L ≠ 0 ∨ 400 < (meetC L).cloud.length then ⟨0, 0, 0, 0, []⟩ else meetC L
def meetE (L : List Ctx) : Int := if L = [] then 1 else if badL L ≠ 0 then badL L else if 400 < (meetC L).cloud.length then 2 else 0

theorem badL_zero {L : List Ctx} : badL L = 0 ↔ ∀ c ∈ L, checkI c = 0 := by
  induction L with
  | nil => simp [badL]
  | cons c L ih =>
    unfold badL
    split
    · rename_i h
      constructor
      · intro e; exact absurd e h
      · intro e; exact absurd (e c (by simp)) h
    · rename_i h
      have h : checkI c = 0 := by simpa using h
      rw [ih]
      simp [h]
theorem badL_take {L : List Ctx} {i : Nat} (h : i < L.length) (h0 : ∀ c ∈ L.take i, checkI c = 0) (h1 : checkI L[i] ≠ 0) : badL L = checkI L[i] := by
  induction L generalizing i with
  | nil => simp at h
  | cons c L ih =>
    cases i with
    | zero => unfold badL; simp at h1; simp [h1]
    | succ i =>
      have h2 : checkI c = 0 := h0 c (by simp)
      unfold badL
      rw [if_neg (by simp [h2])]
      simp only [List.getElem_cons_succ] at h1 ⊢
      exact ih (by simpa using h) (fun x hx => h0 x (by simp [hx])) h1

theorem at_minC (m x : Ctx) (n : Int) : (minC m x).at_ n = min (m.at_ n) (x.at_ n) := by
  unfold minC Ctx.at_
  simp only
  split
  · rfl
  · split
    · rfl
    · split <;> rfl
theorem minL_fold (n : Int) : ∀ (L : List Ctx) (m : Ctx), (L.foldl minC m).at_ n ≤ m.at_ n ∧ (∀ c ∈ L, (L.foldl minC m).at_ n ≤ c.at_ n) ∧ ((L.foldl minC m).at_ n = m.at_ n ∨ ∃ c ∈ L, (L.foldl minC m).at_ n = c.at_ n)
  | [], m => by simp
  | c :: L, m => by
    obtain ⟨h1, h2, h3⟩ := minL_fold n L (minC m c)
    rw [List.foldl_cons]
    rw [at_minC] at h1 h3
    refine ⟨by omega, ?_, ?_⟩
    · intro x hx
      rcases List.mem_cons.1 hx with rfl | hx
      · omega
      · exact h2 x hx
    · rcases h3 with h3 | ⟨x, hx, h3⟩
      · by_cases h4 : m.at_ n ≤ c.at_ n
        · left; omega
        · right; exact ⟨c, by simp, by omega⟩
      · right; exact ⟨x, by simp [hx], h3⟩
theorem minL_at {L : List Ctx} (hL : L ≠ []) (n : Int) : (∀ c ∈ L, (minL L).at_ n ≤ c.at_ n) ∧ ∃ c ∈ L, (minL L).at_ n = c.at_ n := by
  obtain ⟨h1, h2, h3⟩ := minL_fold n L { L.headD ⟨0, 0, 0, 0, []⟩ with cloud := [] }
  refine ⟨h2, ?_⟩
  rcases h3 with h3 | h3
  · cases L with
    | nil => exact absurd rfl hL
    | cons c L => exact ⟨c, by simp, h3⟩
  · exact h3
theorem minL_cloud (L : List Ctx) : (minL L).cloud = [] := by
  unfold minL
  have h : ∀ (L : List Ctx) (m : Ctx), (L.foldl minC m).cloud = m.cloud := by
    intro L
    induction L with
    | nil => simp
    | cons c L ih => intro m; rw [List.foldl_cons, ih]; rfl
  rw [h]
theorem minL_eta (L : List Ctx) : minL L = ⟨(minL L).c0, (minL L).c1, (minL L).c2, (minL L).c3, []⟩ := by
  have h := minL_cloud L
  generalize minL L = m at *
  obtain ⟨a, b, c, d, e⟩ := m
  simp only at h
  rw [h]
theorem minL_in {L : List Ctx} (hL : L ≠ []) (h : ∀ c ∈ L, clkIn c) : clkIn (minL L) := by
  have hb : ∀ n, 0 ≤ (minL L).at_ n ∧ (minL L).at_ n ≤ 1099511627776 := by
    intro n
    obtain ⟨-, c, hc, e⟩ := minL_at hL n
    rw [e]
    exact at_in (h c hc) n
  have h0 := hb 0
  have h1 := hb 1
  have h2 := hb 2
  have h3 := hb 3
  simp [Ctx.at_] at h0 h1 h2 h3
  exact ⟨h0, h1, h2, h3⟩
theorem allB_iff {L : List Ctx} {d : Int × Int} : allB L d = true ↔ ∀ c ∈ L, hasB c d = true := by simp [allB]
theorem cloudAll_mem {L : List Ctx} {d : Int × Int} : d ∈ cloudAll L ↔ (∃ c ∈ L, d ∈ c.cloud) ∧ allB L d = true := by
  unfold cloudAll cloudOf
  simp only [List.mem_flatMap, List.mem_filter]
  constructor
  · rintro ⟨c, h1, h2, h3⟩; exact ⟨⟨c, h1, h2⟩, h3⟩
  · rintro ⟨⟨c, h1, h2⟩, h3⟩; exact ⟨c, h1, h2, h3⟩
/-- Whatever list has the dots of the clouds that all have: packed, it is what all have. -/
theorem meet_pack {L : List Ctx} (hL : L ≠ []) (hok : ∀ c ∈ L, okC c) {D : List (Int × Int)} (hD : ∀ d, d ∈ D ↔ d ∈ cloudAll L) :
    okC (packL (minL L).c0 (minL L).c1 (minL L).c2 (minL L).c3 D) ∧ ∀ d, hasB (packL (minL L).c0 (minL L).c1 (minL L).c2 (minL L).c3 D) d = true ↔ ∀ c ∈ L, hasB c d = true := by
  have hin := minL_in hL (fun c hc => (hok c hc).1)
  rw [minL_eta] at hin
  obtain ⟨h1, h2⟩ := pack_ok (l := D) hin (fun d hd => by
    obtain ⟨⟨c, hc, h⟩, -⟩ := cloudAll_mem.1 ((hD d).1 hd)
    exact ((hok c hc).2.1 d h).1)
  refine ⟨h1, fun d => ?_⟩
  rw [h2, ← minL_eta, hD, cloudAll_mem, allB_iff]
  constructor
  · rintro (h | ⟨-, h⟩)
    · intro c hc
      rcases hasB_iff.1 h with ⟨a1, a2, a3, a4⟩ | h
      · exact hasB_iff.2 (.inl ⟨a1, a2, a3, Int.le_trans a4 ((minL_at hL d.1).1 c hc)⟩)
      · rw [minL_cloud] at h; simp at h
    · exact h
  · intro h
    obtain ⟨hle, c, hc, e⟩ := minL_at hL d.1
    rcases hasB_iff.1 (h c hc) with ⟨a1, a2, a3, a4⟩ | h'
    · exact .inl (hasB_iff.2 (.inl ⟨a1, a2, a3, by rw [e]; exact a4⟩))
    · exact .inr ⟨⟨c, hc, h'⟩, h⟩
theorem meet_ok {L : List Ctx} (hL : L ≠ []) (hok : ∀ c ∈ L, okC c) : okC (meetC L) ∧ ∀ d, hasB (meetC L) d = true ↔ ∀ c ∈ L, hasB c d = true := meet_pack hL hok (fun d => Iff.rfl)
theorem meet_same {L : List Ctx} (hL : L ≠ []) (hok : ∀ c ∈ L, okC c) {D : List (Int × Int)} (hD : ∀ d, d ∈ D ↔ d ∈ cloudAll L) :
    packL (minL L).c0 (minL L).c1 (minL L).c2 (minL L).c3 D = meetC L := by
  obtain ⟨h1, h2⟩ := meet_pack hL hok hD
  obtain ⟨h3, h4⟩ := meet_ok hL hok
  exact okC_ext h1 h3 fun d => by rw [Bool.eq_iff_iff, h2, h4]

/-- Once each. -/
def addD (D : List (Int × Int)) (d : Int × Int) : List (Int × Int) := if d ∈ D then D else D ++ [d]
def onceD (l : List (Int × Int)) : List (Int × Int) := l.foldl addD []
theorem addD_mem {D : List (Int × Int)} {d x : Int × Int} : x ∈ addD D d ↔ x ∈ D ∨ x = d := by
  unfold addD
  split
  · rename_i h
    constructor
    · exact .inl
    · rintro (h1 | rfl)
      · exact h1
      · exact h
  · simp
theorem addD_nodup {D : List (Int × Int)} {d : Int × Int} (h : D.Nodup) : (addD D d).Nodup := by
  unfold addD
  split
  · exact h
  · rename_i h1
    rw [List.nodup_append]
    refine ⟨h, by simp, ?_⟩
    intro a ha b hb
    simp only [List.mem_singleton] at hb
    subst hb
    rintro rfl
    exact h1 ha
theorem fold_addD : ∀ (l D : List (Int × Int)), D.Nodup → (l.foldl addD D).Nodup ∧ ∀ x, x ∈ l.foldl addD D ↔ x ∈ D ∨ x ∈ l
  | [], D, h => ⟨h, fun x => by simp⟩
  | d :: l, D, h => by
    obtain ⟨h1, h2⟩ := fold_addD l (addD D d) (addD_nodup h)
    refine ⟨h1, fun x => ?_⟩
    rw [List.foldl_cons, h2, addD_mem]
    simp [or_assoc]
theorem onceD_ok (l : List (Int × Int)) : (onceD l).Nodup ∧ ∀ x, x ∈ onceD l ↔ x ∈ l := by
  obtain ⟨h1, h2⟩ := fold_addD l [] (by simp)
  exact ⟨h1, fun x => by rw [onceD, h2]; simp⟩
theorem addD_len (D : List (Int × Int)) (d : Int × Int) : D.length ≤ (addD D d).length := by unfold addD; split <;> simp
/-- What all have beyond their clocks, each once, lies in the clouds of four. -/
theorem once_len {L : List Ctx} (hL : L ≠ []) (hok : ∀ c ∈ L, okC c) (h4 : ∀ c ∈ L, c.cloud.length ≤ 400) {D : List (Int × Int)} (hn : D.Nodup) (hD : ∀ d ∈ D, d ∈ cloudAll L) : D.length ≤ 1600 := by
  obtain ⟨-, x0, hx0, e0⟩ := minL_at hL 0
  obtain ⟨-, x1, hx1, e1⟩ := minL_at hL 1
  obtain ⟨-, x2, hx2, e2⟩ := minL_at hL 2
  obtain ⟨-, x3, hx3, e3⟩ := minL_at hL 3
  have hsub : D ⊆ x0.cloud ++ (x1.cloud ++ (x2.cloud ++ x3.cloud)) := by
    intro d hd
    obtain ⟨⟨c, hc, hdc⟩, ha⟩ := cloudAll_mem.1 (hD d hd)
    rw [allB_iff] at ha
    obtain ⟨hr, hs⟩ := (hok c hc).2.1 d hdc
    have hr := right_iff.1 hr
    have hm := (minL_at hL d.1).1 c hc
    have key : ∀ x ∈ L, (minL L).at_ d.1 = x.at_ d.1 → d ∈ x.cloud := by
      intro x hx e
      rcases hasB_iff.1 (ha x hx) with ⟨-, -, -, h⟩ | h
      · omega
      · exact h
    rcases (by omega : d.1 = 0 ∨ d.1 = 1 ∨ d.1 = 2 ∨ d.1 = 3) with h | h | h | h
    · have := key x0 hx0 (by rw [h]; exact e0); simp [this]
    · have := key x1 hx1 (by rw [h]; exact e1); simp [this]
    · have := key x2 hx2 (by rw [h]; exact e2); simp [this]
    · have := key x3 hx3 (by rw [h]; exact e3); simp [this]
  have h := hn.length_le_of_subset hsub
  simp only [List.length_append] at h
  have := h4 x0 hx0
  have := h4 x1 hx1
  have := h4 x2 hx2
  have := h4 x3 hx3
  omega
theorem cloudAll_len {L : List Ctx} {n : Nat} (h4 : ∀ c ∈ L, c.cloud.length ≤ 400) : (cloudAll L).length ≤ 400 * L.length := by
  have h : ∀ (M : List Ctx), (∀ c ∈ M, c.cloud.length ≤ 400) → (M.flatMap (cloudOf L)).length ≤ 400 * M.length := by
    intro M
    induction M with
    | nil => simp
    | cons c M ih =>
      intro hM
      have h1 := ih (fun x hx => hM x (by simp [hx]))
      have h2 := hM c (by simp)
      have h3 : (cloudOf L c).length ≤ c.cloud.length := List.length_filter_le _ _
      simp only [List.flatMap_cons, List.length_append, List.length_cons]
      omega
  exact h L h4
theorem meetC_len {L : List Ctx} (hL : L ≠ []) (hok : ∀ c ∈ L, okC c) (h4 : ∀ c ∈ L, c.cloud.length ≤ 400) : (meetC L).cloud.length ≤ 1600 := by
  rw [← meet_same hL hok (onceD_ok (cloudAll L)).2]
  exact Nat.le_trans pack_length (once_len hL hok h4 (onceD_ok _).1 (fun d hd => ((onceD_ok _).2 d).1 hd))
end Go.Proofs.Ytogegnikpjcpdaa
/- slices.IndexFunc, ContainsFunc at Context; stable.all and its predicate. -/
namespace Go.Proofs.Ytogegnikpjcpdaa
set_option linter.unusedVariables false
open Go.ChangeShapes Go.WideShapes Go.ChangeAt Go.RowKit

def PredC (g : Nat) (caps : Array Value) (p : Ctx → Bool) (L : List CR) (w : World) : Prop :=
  ∀ w', Below w.heap.size w w' → ∀ x ∈ L, Calls Try.prog g (#[cval x.c x.A x.k] ++ caps) w' fun e w'' => e = .returned (.bool (p x.c)) ∧ Below w'.heap.size w' w''

set_option maxHeartbeats 400000 in
set_option maxRecDepth 100000 in
theorem indexFuncC_any (g : Nat) (caps : Array Value) (p : Ctx → Bool) (L : List CR) (A : Option Addr) (c : Nat) (w : World) (hr : RowC w w.heap.size A L) (hl : L.length ≤ 9223372036854775807)
    (eg : ∀ args w, (callFunc g args).run Try.prog w = .ok (.enter g args) w) (hp : PredC g caps p L w) :
    Calls Try.prog 74 #[.slice A L.length c, .func (.func g) #[] caps] w (IdxPost ((CR.ctxs L).any p = true) w) := by
  have HR := hid hr
  clear hr
  go_enter Try.func74, Try.ntmps74
  go_wp2
  go_loopw [8] (fun i wr => (∃ k : Nat, k ≤ L.length ∧ i = .int .i64 k ∧ ∀ j (h : j < L.length), j < k → p L[j].c = false) ∧ Below w.heap.size w wr) (fun i _ => L.length - (intOf i).toNat)
  case atStart => exact ⟨⟨0, by omega, rfl, fun j _ h => absurd h (by omega)⟩, Below.refl _ _⟩
  case round =>
    obtain ⟨⟨k, hk, rfl, hno⟩, hbw⟩ := hrel
    by_cases hlt : k < L.length
    · obtain ⟨b, off, rfl, hb, h0, h1, h2, h3, h4, -, -⟩ := (HR.out.below hbw (Nat.le_refl _)).at_ hlt
      have hc := hp wr hbw L[k] (List.getElem_mem _)
      have HN := hid hno
      have HB := hid hbw
      have HC := hid hc
      clear hno hbw hc
      generalize hd : L[k] = d at *
      obtain ⟨⟨d0, d1, d2, d3, dl⟩, dA, dk⟩ := d
      have HD := hid hd
      clear hd
      simp only at h0 h1 h2 h3 h4
      simp only [cval] at HC
      cases hpd : p ⟨d0, d1, d2, d3, dl⟩
      all_goals
        rw [hpd] at HC
        have HP := hid hpd
        clear hpd
        go_wp2_with (refine (HC.out).mono ?_; rintro e w1 ⟨rfl, hb1⟩)
      · go_roundw
        case rel =>
          refine ⟨⟨k + 1, by omega, by go_num, fun j h hj => ?_⟩, HB.out.trans (hb1.mono HB.out.size)⟩
          by_cases e : j = k
          · subst e; rw [HD.out]; exact HP.out
          · exact HN.out j h (by omega)
        case measure => simp [intOf]; omega
      · go_ret
        refine ⟨k, rfl, iff_of_true (by omega) (List.any_eq_true.2 ⟨L[k].c, List.mem_map.2 ⟨L[k], List.getElem_mem _, rfl⟩, by rw [HD.out]; exact HP.out⟩), HB.out.trans (hb1.mono HB.out.size)⟩
    · go_wp2
      go_ret
      refine ⟨-1, rfl, iff_of_false (by omega) ?_, hbw⟩
      intro hm
      obtain ⟨d, hd, e⟩ := List.any_eq_true.1 hm
      obtain ⟨x, hx, rfl⟩ := List.mem_map.1 hd
      obtain ⟨j, hj, rfl⟩ := List.getElem_of_mem hx
      rw [hno j hj (by omega)] at e
      cases e

theorem containsFuncC_any (g : Nat) (caps : Array Value) (p : Ctx → Bool) (L : List CR) (A : Option Addr) (c : Nat) (w : World) (hr : RowC w w.heap.size A L) (hl : L.length ≤ 9223372036854775807)
    (eg : ∀ args w, (callFunc g args).run Try.prog w = .ok (.enter g args) w) (hp : PredC g caps p L w) :
    Calls Try.prog 37 #[.slice A L.length c, .func (.func g) #[] caps] w fun e w' => e = .returned (.bool ((CR.ctxs L).any p)) ∧ Below w.heap.size w w' := by
  have H := indexFuncC_any g caps p L A c w hr hl eg hp
  have HR := hid hr
  have HP := hid hp
  clear hr eg hp
  generalize CR.ctxs L = M at *
  go_enter Try.func37, Try.ntmps37
  go_wp2_with (go_at_call 74; refine H.mono ?_; rintro e w' ⟨i, rfl, hi, hb⟩)
  go_ret
  refine ⟨ret_bool ?_, hb⟩
  rw [Bool.eq_iff_iff, decide_eq_true_eq, List.any_eq_true]

theorem allF_any (x : CR) (X : Nat) (d : Int × Int) (w : World) (hX : Blk w X #[.int .i64 d.1, .int .i64 d.2] 27) (rb : Row w w.heap.size x.A (dcells x.c.cloud)) (lb : x.c.cloud.length ≤ 9223372036854775807) :
    Calls Try.prog 100 #[cval x.c x.A x.k, .pointer (some ⟨X, 0, none⟩)] w fun e w' => e = .returned (.bool (!hasB x.c d)) ∧ Below w.heap.size w w' := by
  have HH := hid (fun w1 (hb : Below w.heap.size w w1) => has_any x.c d x.A x.k w1 (rb.step hb) lb)
  have hlt := hX.lt
  obtain ⟨c1, f1⟩ := hX.cells
  clear hX rb f1
  obtain ⟨d0, d1⟩ := d
  obtain ⟨⟨b0, b1, b2, b3, bl⟩, B, m⟩ := x
  simp only [cval, dval] at *
  generalize hasB ⟨b0, b1, b2, b3, bl⟩ (d0, d1) = I at *
  go_enter Try.func100, Try.ntmps100
  go_wp2_with fail
  refine (HH.out _ (by (repeat' (first | (with_reducible exact Below.refl _ _) | (with_reducible assumption) | (with_reducible refine below_drewN ?_ _) | (with_reducible refine Below.drew ?_) | (with_reducible refine Below.alloc ?_ ?_ _) | (with_reducible refine Below.setCell ?_ ?_ _) | (refine Below.trans ?_ (Below.mono (by assumption) ?_)) | go_size)))).mono ?_
  rintro e w1 ⟨rfl, hb1⟩
  go_wp2
  go_ret
  exact ⟨rfl, (by refine Below.step' ?_ hb1; (repeat' (first | (with_reducible exact Below.refl _ _) | (with_reducible assumption) | (with_reducible refine below_drewN ?_ _) | (with_reducible refine Below.drew ?_) | (with_reducible refine Below.alloc ?_ ?_ _) | (with_reducible refine Below.setCell ?_ ?_ _) | (refine Below.trans ?_ (Below.mono (by assumption) ?_)) | go_size)))⟩

theorem enters_allF : ∀ args w, (callFunc 100 args).run Try.prog w = .ok (.enter 100 args) w := enters_of Try.func100 (by kernel_rfl) rfl

theorem not_anyC (L : List Ctx) (f : Ctx → Bool) : (!L.any (fun d => !f d)) = L.all f := by
  induction L with
  | nil => rfl
  | cons x l ih => simp only [List.any_cons, List.all_cons, ← ih]; cases f x <;> simp

theorem all_any (L : List CR) (d : Int × Int) (A : Option Addr) (c : Nat) (w : World) (hr : RowC w w.heap.size A L) (hl : L.length ≤ 9223372036854775807) :
    Calls Try.prog 72 #[.slice A L.length c, dval d] w fun e w' => e = .returned (.bool (allB (CR.ctxs L) d)) ∧ Below w.heap.size w w' := by
  have HCF := hid (fun w1 X (hb : Below w.heap.size w w1) (hX : Blk w1 X #[.int .i64 d.1, .int .i64 d.2] 27) => containsFuncC_any 100 #[.pointer (some ⟨X, 0, none⟩)] (fun c => !hasB c d) L A c w1 (hr.step hb) hl enters_allF
    (fun w2 hb2 x hx => allF_any x X d w2 (hX.step hb2) (((hr.step hb).step hb2).2 x hx).1 (hr.2 x hx).2))
  have HE := hid (not_anyC (CR.ctxs L) (fun c => hasB c d))
  clear hr
  obtain ⟨d0, d1⟩ := d
  simp only [dval, allB] at *
  generalize (CR.ctxs L).all (fun c => hasB c (d0, d1)) = R at *
  generalize ((CR.ctxs L).any fun c => !hasB c (d0, d1)) = S at *
  go_enter Try.func72, Try.ntmps72
  go_wp2_with fail
  refine (HCF.out _ w.heap.size ?_ ?_).mono ?_
  · (repeat' (first | (with_reducible exact Below.refl _ _) | (with_reducible assumption) | (with_reducible refine below_drewN ?_ _) | (with_reducible refine Below.drew ?_) | (with_reducible refine Below.alloc ?_ ?_ _) | (with_reducible refine Below.setCell ?_ ?_ _) | (refine Below.trans ?_ (Below.mono (by assumption) ?_)) | go_size))
  · exact Blk.new w _ _
  rintro e w1 ⟨rfl, hb1⟩
  go_wp2
  go_ret
  exact ⟨ret_bool HE.out, (by refine Below.step' ?_ hb1; (repeat' (first | (with_reducible exact Below.refl _ _) | (with_reducible assumption) | (with_reducible refine below_drewN ?_ _) | (with_reducible refine Below.drew ?_) | (with_reducible refine Below.alloc ?_ ?_ _) | (with_reducible refine Below.setCell ?_ ?_ _) | (refine Below.trans ?_ (Below.mono (by assumption) ?_)) | go_size)))⟩
end Go.Proofs.Ytogegnikpjcpdaa
/- Minus and Missing, and when one context is less than another: plain lists. No program in sight. -/
namespace Go.Proofs.Ytogegnikpjcpdaa
set_option linter.unusedVariables false

def clkDots (a b : Ctx) (n : Int) (k : Nat) : List (Int × Int) := ((List.range k).map (fun (j : Nat) => (n, b.at_ n + 1 + (j : Int)))).filter (fun d => !hasB b d)
def clkMiss (a b : Ctx) (n : Int) : List (Int × Int) := clkDots a b n (a.at_ n - b.at_ n).toNat
def cldMiss (a b : Ctx) (n : Int) : List (Int × Int) := a.cloud.filter (fun d => decide (d.1 = n) && !hasB b d)
def cldAll (a b : Ctx) : List (Int × Int) := a.cloud.filter (fun d => !hasB b d)
def clkAll (a b : Ctx) : List (Int × Int) := clkMiss a b 0 ++ clkMiss a b 1 ++ clkMiss a b 2 ++ clkMiss a b 3
def missL (a b : Ctx) : List (Int × Int) := (clkMiss a b 0 ++ cldMiss a b 0) ++ (clkMiss a b 1 ++ cldMiss a b 1) ++ (clkMiss a b 2 ++ cldMiss a b 2) ++ (clkMiss a b 3 ++ cldMiss a b 3)
def missStep (a b : Ctx) (out : List (Int × Int)) (n : Int) : List (Int × Int) := out ++ (clkMiss a b n).take (401 - out.length) ++ cldMiss a b n
def missR (a b : Ctx) : List (Int × Int) := missStep a b (missStep a b (missStep a b (missStep a b [] 0) 1) 2) 3

theorem clkDots_succ (a b : Ctx) (n : Int) (k : Nat) : clkDots a b n (k + 1) = clkDots a b n k ++ (if hasB b (n, b.at_ n + 1 + (k : Int)) = true then [] else [(n, b.at_ n + 1 + (k : Int))]) := by
  unfold clkDots
  rw [List.range_succ, List.map_append, List.filter_append]
  congr 1
  simp only [List.map_cons, List.map_nil, List.filter_cons, List.filter_nil]
  cases hasB b (n, b.at_ n + 1 + (k : Int)) <;> rfl

theorem clkDots_mem {a b : Ctx} {n : Int} {k : Nat} {d : Int × Int} : d ∈ clkDots a b n k ↔ d.1 = n ∧ b.at_ n + 1 ≤ d.2 ∧ d.2 ≤ b.at_ n + k ∧ hasB b d = false := by
  unfold clkDots
  simp only [List.mem_filter, List.mem_map, List.mem_range, Bool.not_eq_true']
  constructor
  · rintro ⟨⟨j, hj, rfl⟩, h⟩
    exact ⟨rfl, by simp only; omega, by simp only; omega, h⟩
  · rintro ⟨h1, h2, h3, h4⟩
    refine ⟨⟨(d.2 - (b.at_ n + 1)).toNat, by omega, ?_⟩, h4⟩
    obtain ⟨d1, d2⟩ := d
    simp only at *
    subst h1
    congr 1
    omega

theorem clkMiss_mem {a b : Ctx} {n : Int} {d : Int × Int} : d ∈ clkMiss a b n ↔ d.1 = n ∧ b.at_ n + 1 ≤ d.2 ∧ d.2 ≤ a.at_ n ∧ hasB b d = false := by
  unfold clkMiss
  rw [clkDots_mem]
  constructor
  · rintro ⟨h1, h2, h3, h4⟩; exact ⟨h1, h2, by omega, h4⟩
  · rintro ⟨h1, h2, h3, h4⟩; exact ⟨h1, h2, by omega, h4⟩

theorem clkDots_sorted (a b : Ctx) (n : Int) : ∀ k, (clkDots a b n k).Pairwise (fun x y => before x y = true)
  | 0 => by simp [clkDots]
  | k + 1 => by
    rw [clkDots_succ]
    refine List.pairwise_append.2 ⟨clkDots_sorted a b n k, by split <;> simp, fun x hx y hy => ?_⟩
    have h1 := clkDots_mem.1 hx
    split at hy
    · simp at hy
    · simp only [List.mem_singleton] at hy
      subst hy
      rw [before_iff]
      simp only
      omega

theorem node_sorted {a b : Ctx} (ha : okC a) (n : Int) : (clkMiss a b n ++ cldMiss a b n).Pairwise (fun x y => before x y = true) := by
  refine List.pairwise_append.2 ⟨clkDots_sorted a b n _, ha.2.2.filter _, fun x hx y hy => ?_⟩
  have h1 := clkMiss_mem.1 hx
  simp only [cldMiss, List.mem_filter, Bool.and_eq_true, decide_eq_true_eq] at hy
  have h2 := (ha.2.1 y hy.1).2
  rw [hy.2.1] at h2
  rw [before_iff]
  omega
theorem node_mem {a b : Ctx} {n : Int} {d : Int × Int} (h : d ∈ clkMiss a b n ++ cldMiss a b n) : d.1 = n := by
  rcases List.mem_append.1 h with h | h
  · exact (clkMiss_mem.1 h).1
  · simp only [cldMiss, List.mem_filter, Bool.and_eq_true, decide_eq_true_eq] at h
    exact h.2.1

theorem missL_sorted {a b : Ctx} (ha : okC a) : (missL a b).Pairwise (fun x y => before x y = true) := by
  unfold missL
  have hs := fun n => node_sorted (b := b) ha n
  have hm := fun n d => node_mem (a := a) (b := b) (n := n) (d := d)
  refine List.pairwise_append.2 ⟨List.pairwise_append.2 ⟨List.pairwise_append.2 ⟨hs 0, hs 1, ?_⟩, hs 2, ?_⟩, hs 3, ?_⟩ <;> intro x hx y hy <;> rw [before_iff] <;> left
  · rw [hm _ _ hx, hm _ _ hy]; omega
  · rw [hm _ _ hy]
    rcases List.mem_append.1 hx with h | h <;> rw [hm _ _ h] <;> omega
  · rw [hm _ _ hy]
    rcases List.mem_append.1 hx with h | h
    · rcases List.mem_append.1 h with h | h <;> rw [hm _ _ h] <;> omega
    · rw [hm _ _ h]; omega

theorem strict_le {l : List (Int × Int)} (h : l.Pairwise (fun x y => before x y = true)) : l.Pairwise (fun x y => dotLe x y = true) := h.imp fun {x y} hxy => by
  simp only [dotLe, Bool.not_eq_true']
  cases hq : before y x with
  | false => rfl
  | true => rw [before_iff] at *; omega

theorem part_perm (f : Int × Int → Bool) : ∀ (l : List (Int × Int)), (∀ d ∈ l, 0 ≤ d.1 ∧ d.1 < 4) → (l.filter f).Perm (l.filter (fun d => decide (d.1 = 0) && f d) ++ l.filter (fun d => decide (d.1 = 1) && f d) ++ l.filter (fun d => decide (d.1 = 2) && f d) ++ l.filter (fun d => decide (d.1 = 3) && f d))
  | [], _ => by simp
  | d :: l, h => by
    have ih := part_perm f l (fun x hx => h x (by simp [hx]))
    have hd := h d (by simp)
    cases hf : f d with
    | false => simpa [List.filter_cons, hf] using ih
    | true =>
      rcases (by omega : d.1 = 0 ∨ d.1 = 1 ∨ d.1 = 2 ∨ d.1 = 3) with e | e | e | e
      all_goals simp only [List.filter_cons, hf, e, Bool.and_true, if_true]
      all_goals try simp only [decide_true]
      all_goals try simp only [decide_false]
      all_goals try simp only [Bool.false_eq_true]
      all_goals try simp only [if_false]
      all_goals try simp only [if_true]
      all_goals simp only [show decide ((0 : Int) = 1) = false from rfl, show decide ((0 : Int) = 2) = false from rfl, show decide ((0 : Int) = 3) = false from rfl, show decide ((1 : Int) = 0) = false from rfl, show decide ((1 : Int) = 2) = false from rfl, show decide ((1 : Int) = 3) = false from rfl, show decide ((2 : Int) = 0) = false from rfl, show decide ((2 : Int) = 1) = false from rfl, show decide ((2 : Int) = 3) = false from rfl, show decide ((3 : Int) = 0) = false from rfl, show decide ((3 : Int) = 1) = false from rfl, show decide ((3 : Int) = 2) = false from rfl, Bool.false_eq_true, if_false]
      · exact ih.cons d
      · refine (ih.cons d).trans ?_
        simp only [List.append_assoc, List.cons_append]
        exact List.perm_middle.symm
      · refine (ih.cons d).trans ?_
        simp only [List.append_assoc, List.cons_append]
        refine List.Perm.trans ?_ (List.Perm.append_left _ List.perm_middle.symm)
        exact List.perm_middle.symm
      · refine (ih.cons d).trans ?_
        exact List.perm_middle.symm

theorem swap4 {α : Type} (a b c d e f g h : List α) : ((a ++ b ++ c ++ d) ++ (e ++ f ++ g ++ h)).Perm ((a ++ e) ++ (b ++ f) ++ (c ++ g) ++ (d ++ h)) := by
  classical
  have : ∀ x y z w : List α, ((x ++ y) ++ (z ++ w)).Perm ((x ++ z) ++ (y ++ w)) := fun x y z w => by
    simp only [List.append_assoc]
    exact (List.perm_append_comm_assoc y z w).append_left x
  refine (this _ _ _ _).trans (List.Perm.append_right _ ?_)
  refine (this _ _ _ _).trans (List.Perm.append_right _ ?_)
  exact this _ _ _ _

theorem all_perm {a b : Ctx} (ha : okC a) : (clkAll a b ++ cldAll a b).Perm (missL a b) := by
  have h := part_perm (fun d => !hasB b d) a.cloud (fun d hd => by have := right_iff.1 (ha.2.1 d hd).1; exact ⟨this.1, this.2.1⟩)
  exact (h.append_left (clkAll a b)).trans (swap4 _ _ _ _ _ _ _ _)

theorem minus_eq {a b : Ctx} (ha : okC a) : (clkAll a b ++ cldAll a b).mergeSort dotLe = missL a b :=
  sorted_eq ((List.mergeSort_perm _ _).trans (all_perm ha)) (sorted_sort _) (strict_le (missL_sorted ha))

theorem step_eq (a b : Ctx) (out : List (Int × Int)) (n : Int) (h : (out ++ (clkMiss a b n ++ cldMiss a b n)).length ≤ 400) : missStep a b out n = out ++ (clkMiss a b n ++ cldMiss a b n) := by
  unfold missStep
  simp only [List.length_append] at h
  rw [List.take_of_length_le (by omega), List.append_assoc]
theorem step_le (a b : Ctx) (out : List (Int × Int)) (n : Int) : out.length ≤ (missStep a b out n).length := by unfold missStep; simp only [List.length_append]; omega
theorem step_big (a b : Ctx) (out : List (Int × Int)) (n : Int) (h : 400 < (out ++ (clkMiss a b n ++ cldMiss a b n)).length) : 400 < (missStep a b out n).length := by
  unfold missStep
  simp only [List.length_append, List.length_take] at *
  omega

theorem missR_eq (a b : Ctx) (h : (missL a b).length ≤ 400) : missR a b = missL a b := by
  unfold missL at *
  unfold missR
  simp only [List.length_append] at h
  have e0 := step_eq a b [] 0 (by simp only [List.length_append, List.nil_append]; omega)
  simp only [List.nil_append] at e0
  rw [e0, step_eq _ _ _ 1 (by simp only [List.length_append]; omega), step_eq _ _ _ 2 (by simp only [List.length_append]; omega), step_eq _ _ _ 3 (by simp only [List.length_append]; omega)]

theorem missR_big (a b : Ctx) (h : 400 < (missL a b).length) : 400 < (missR a b).length := by
  unfold missR
  have l1 := step_le a b (missStep a b [] 0) 1
  have l2 := step_le a b (missStep a b (missStep a b [] 0) 1) 2
  have l3 := step_le a b (missStep a b (missStep a b (missStep a b [] 0) 1) 2) 3
  have s : ∀ out n, 400 < (missStep a b out n).length ∨ (missStep a b out n = out ++ (clkMiss a b n ++ cldMiss a b n)) := fun out n => by
    by_cases h0 : 400 < (out ++ (clkMiss a b n ++ cldMiss a b n)).length
    · exact .inl (step_big a b out n h0)
    · exact .inr (step_eq a b out n (by omega))
  rcases s [] 0 with h0 | e0
  · omega
  rcases s (missStep a b [] 0) 1 with h1 | e1
  · omega
  rcases s (missStep a b (missStep a b [] 0) 1) 2 with h2 | e2
  · omega
  rcases s (missStep a b (missStep a b (missStep a b [] 0) 1) 2) 3 with h3 | e3
  · omega
  rw [e3, e2, e1, e0]
  exact h

theorem missL_mem {a b : Ctx} {d : Int × Int} (hd : 0 ≤ d.1 ∧ d.1 < 4 ∧ 1 ≤ d.2) (hb : clkIn b) : d ∈ missL a b ↔ hasB a d = true ∧ hasB b d = false := by
  have one : ∀ n, d ∈ clkMiss a b n ++ cldMiss a b n ↔ d.1 = n ∧ hasB b d = false ∧ ((b.at_ n + 1 ≤ d.2 ∧ d.2 ≤ a.at_ n) ∨ d ∈ a.cloud) := by
    intro n
    rw [List.mem_append, clkMiss_mem]
    simp only [cldMiss, List.mem_filter, Bool.and_eq_true, decide_eq_true_eq, Bool.not_eq_true']
    constructor
    · rintro (⟨h1, h2, h3, h4⟩ | ⟨h1, h2, h3⟩)
      · exact ⟨h1, h4, .inl ⟨h2, h3⟩⟩
      · exact ⟨h2, h3, .inr h1⟩
    · rintro ⟨h1, h2, (⟨h3, h4⟩ | h3)⟩
      · exact .inl ⟨h1, h3, h4, h2⟩
      · exact .inr ⟨h3, h1, h2⟩
  have key : ∀ n, d.1 = n → ((b.at_ n + 1 ≤ d.2 ∧ d.2 ≤ a.at_ n) ∨ d ∈ a.cloud) → hasB b d = false → hasB a d = true := by
    intro n e h _
    rw [hasB_iff]
    rcases h with ⟨h1, h2⟩ | h
    · exact .inl ⟨hd.1, hd.2.1, hd.2.2, by rw [e]; exact h2⟩
    · exact .inr h
  have key2 : hasB a d = true → hasB b d = false → ((b.at_ d.1 + 1 ≤ d.2 ∧ d.2 ≤ a.at_ d.1) ∨ d ∈ a.cloud) := by
    intro h h2
    rcases hasB_iff.1 h with ⟨_, _, _, h3⟩ | h3
    · refine .inl ⟨?_, h3⟩
      refine Int.le_of_not_gt fun hlt => ?_
      have : hasB b d = true := hasB_iff.2 (.inl ⟨hd.1, hd.2.1, hd.2.2, by omega⟩)
      rw [this] at h2; cases h2
    · exact .inr h3
  unfold missL
  rw [List.mem_append, List.mem_append, List.mem_append, one, one, one, one]
  constructor
  · rintro (((⟨h1, h2, h3⟩ | ⟨h1, h2, h3⟩) | ⟨h1, h2, h3⟩) | ⟨h1, h2, h3⟩) <;> exact ⟨key _ h1 h3 h2, h2⟩
  · rintro ⟨h1, h2⟩
    have h3 := key2 h1 h2
    rcases (by omega : d.1 = 0 ∨ d.1 = 1 ∨ d.1 = 2 ∨ d.1 = 3) with e | e | e | e <;> rw [e] at h3
    · exact .inl (.inl (.inl ⟨e, h2, h3⟩))
    · exact .inl (.inl (.inr ⟨e, h2, h3⟩))
    · exact .inl (.inr ⟨e, h2, h3⟩)
    · exact .inr ⟨e, h2, h3⟩

theorem missL_right {a b : Ctx} (ha : okC a) (hb : clkIn b) {d : Int × Int} (h : d ∈ missL a b) : rightB d.1 d.2 = true := by
  have one : ∀ n, 0 ≤ n → n < 4 → d ∈ clkMiss a b n ++ cldMiss a b n → rightB d.1 d.2 = true := by
    intro n h0 h4 h
    rcases List.mem_append.1 h with h | h
    · have h1 := clkMiss_mem.1 h
      have h2 := at_in ha.1 n
      have h3 := at_in hb n
      rw [right_iff]; omega
    · simp only [cldMiss, List.mem_filter] at h
      exact (ha.2.1 d h.1).1
  unfold missL at h
  rcases List.mem_append.1 h with h | h
  · rcases List.mem_append.1 h with h | h
    · rcases List.mem_append.1 h with h | h
      · exact one 0 (by omega) (by omega) h
      · exact one 1 (by omega) (by omega) h
    · exact one 2 (by omega) (by omega) h
  · exact one 3 (by omega) (by omega) h

theorem less_miss {a b : Ctx} (ha : okC a) (hb : okC b) : lessB a b = decide (missL a b = []) := by
  rw [Bool.eq_iff_iff, less_iff ha hb, decide_eq_true_eq]
  constructor
  · intro h
    refine List.eq_nil_iff_forall_not_mem.2 fun d hd => ?_
    have hr := right_iff.1 (missL_right ha hb.1 hd)
    have h2 := (missL_mem ⟨hr.1, hr.2.1, hr.2.2.1⟩ hb.1).1 hd
    rw [h d h2.1] at h2
    cases h2.2
  · intro h d hd
    cases hq : hasB b d with
    | true => rfl
    | false =>
      have hr : 0 ≤ d.1 ∧ d.1 < 4 ∧ 1 ≤ d.2 := by
        rcases hasB_iff.1 hd with h1 | h1
        · exact ⟨h1.1, h1.2.1, h1.2.2.1⟩
        · have := right_iff.1 (ha.2.1 d h1).1; exact ⟨this.1, this.2.1, this.2.2.1⟩
      have := (missL_mem hr hb.1).2 ⟨hd, hq⟩
      rw [h] at this; cases this
end Go.Proofs.Ytogegnikpjcpdaa
/- viewref.Missing. -/
namespace Go.Proofs.Ytogegnikpjcpdaa
set_option linter.unusedVariables false
open Go.ChangeShapes Go.WideShapes Go.ChangeAt Go.RowKit

def DotsPost (l : List (Int × Int)) (w : World) (e : Ending) (w' : World) : Prop :=
  ∃ v, e = .returned v ∧ w'.ownsRow w.heap.size 27 2 v l.length (dcells l) ∧ Below w.heap.size w w'

def missUp (a b : Ctx) : Nat → List (Int × Int)
  | 0 => []
  | i + 1 => missStep a b (missUp a b i) i
theorem missUp_R (a b : Ctx) : missUp a b 4 = missR a b := rfl
theorem missUp_le (a b : Ctx) (h : a.cloud.length ≤ 400) : ∀ i, (missUp a b i).length ≤ 401 + 400 * i
  | 0 => by simp [missUp]
  | i + 1 => by
    have ih := missUp_le a b h i
    have h1 : (cldMiss a b i).length ≤ a.cloud.length := List.length_filter_le _ _
    simp only [missUp, missStep, List.length_append, List.length_take]
    omega

theorem cap_snoc {α : Type} (O C : List α) (d : α) (h : (O ++ C.take (401 - O.length)).length ≤ 400) : O ++ (C ++ [d]).take (401 - O.length) = (O ++ C.take (401 - O.length)) ++ [d] := by
  simp only [List.length_append, List.length_take] at h
  rw [List.take_of_length_le (by simp; omega), List.take_of_length_le (by omega), List.append_assoc]
theorem cap_full {α : Type} (O C D : List α) (h : 400 < (O ++ C.take (401 - O.length)).length) : O ++ (C ++ D).take (401 - O.length) = O ++ C.take (401 - O.length) := by
  simp only [List.length_append, List.length_take] at h
  rw [List.take_append_of_le_length (by omega)]
theorem clkDots_prefix (a b : Ctx) (n : Int) (j : Nat) : ∀ K, j ≤ K → ∃ D, clkDots a b n K = clkDots a b n j ++ D
  | 0, h => ⟨[], by rw [show j = 0 by omega]; simp⟩
  | K + 1, h => by
    by_cases e : j = K + 1
    · exact ⟨[], by rw [e]; simp⟩
    · obtain ⟨D, hD⟩ := clkDots_prefix a b n j K (by omega)
      exact ⟨D ++ _, by rw [clkDots_succ, hD, List.append_assoc]⟩
theorem grown_below {B : Nat} {w0 w1 w2 : World} {n : Nat} {T : TypeId} {v : Value} {xs : List Value} (h : Below B w0 w1) (hg : w1.grownBy w2 v.ownBlock) (ho : w1.ownsRow B T 2 v n xs) (hB : B ≤ w1.heap.size) : Below B w0 w2 :=
  h.grown hg hB (fun g e => (ho.lt g e).1)

set_option maxHeartbeats 1000000 in
set_option maxRecDepth 100000 in
theorem missing_any (a b : Ctx) (A B : Option Addr) (k m : Nat) (w : World) (ra : Row w w.heap.size A (dcells a.cloud)) (la : a.cloud.length ≤ 400)
    (rb : Row w w.heap.size B (dcells b.cloud)) (lb : b.cloud.length ≤ 400) (ca : clkIn a) (cb : clkIn b) :
    Calls Try.prog 30 #[cval a A k, cval b B m] w (DotsPost (missR a b) w) := by
  have HH := hid (fun w1 (hb : Below w.heap.size w w1) d => Rhas_any b d B m w1 (rb.step hb) (by omega))
  have RA := hid ra
  have CA := hid ca
  have CB := hid cb
  have UR := hid (missUp_R a b)
  have UL := hid (missUp_le a b la)
  have CELA := hid (fun n h0 h4 v => at_cell a n h0 h4 v)
  have CELB := hid (fun n h0 h4 v => at_cell b n h0 h4 v)
  clear ra rb ca cb
  obtain ⟨i0, hi0, hz0, hz1, hz2⟩ := info_parts info_dot
  go_enter Try.func30, Try.ntmps30
  simp only [cval]
  go_wp2
  obtain ⟨W0, hW0⟩ : ∃ W0 : World, W0 = (w.alloc (.cells (cbox a A k) 25)).alloc (.cells (cbox b B m) 25) := ⟨_, rfl⟩
  simp only [cbox] at hW0
  rw [← hW0]
  have hB0 : Below w.heap.size w W0 := by rw [hW0]; (repeat' (first | (with_reducible exact Below.refl _ _) | (with_reducible assumption) | (with_reducible refine below_drewN ?_ _) | (with_reducible refine Below.drew ?_) | (with_reducible refine Below.alloc ?_ ?_ _) | (with_reducible refine Below.setCell ?_ ?_ _) | (refine Below.trans ?_ (Below.mono (by assumption) ?_)) | go_size))
  have hXa : Blk W0 w.heap.size (cbox a A k) 25 := by rw [hW0]; exact (Blk.new w _ _).alloc _
  have hXb : Blk W0 (w.heap.size + 1) (cbox b B m) 25 := by rw [hW0]; exact Blk.new' _ _ _ (by simp)
  clear hW0
  have HB0 := hid hB0
  have HXA := hid hXa
  have HXB := hid hXb
  clear hB0 hXa hXb
  go_loopw [5, 6] (fun s5 s6 wr => ∃ i : Nat, i ≤ 4 ∧ s6 = .int .i64 i ∧ wr.ownsRow W0.heap.size 27 2 s5 (missUp a b i).length (dcells (missUp a b i)) ∧ Below W0.heap.size W0 wr) (fun _ s6 _ => 4 - (intOf s6).toNat)
  case atStart => exact ⟨0, by omega, rfl, World.ownsRow_nil _ _ _ _, Below.refl _ _⟩
  case round =>
    obtain ⟨i, hi, rfl, hown, hbw⟩ := hrel
    by_cases hlt : i < 4
    · have xa := (HXA.out.step hbw).cells.1
      have xb := (HXB.out.step hbw).cells.1
      have hea := CELA.out i (by omega) (by omega) (.slice A a.cloud.length k)
      have ea : wr.cell? ⟨w.heap.size, i, none⟩ = some (.int .i64 (a.at_ i)) := by rw [xa]; exact hea
      have eb : wr.cell? ⟨w.heap.size + 1, i, none⟩ = some (.int .i64 (b.at_ i)) := by rw [xb]; exact CELB.out i (by omega) (by omega) _
      have ia := at_in CA.out i
      have ib := at_in CB.out i
      obtain ⟨ia0, ia1⟩ := ia
      obtain ⟨ib0, ib1⟩ := ib
      have HOWN := hid hown
      have HBW := hid hbw
      clear xa xb hown hbw
      go_wp2
      have hul := UL.out i
      obtain ⟨O, hO⟩ : ∃ O, O = missUp a b i := ⟨_, rfl⟩
      obtain ⟨K, hK⟩ : ∃ K, K = (a.at_ i - b.at_ i).toNat := ⟨_, rfl⟩
      obtain ⟨lo, hlo⟩ : ∃ lo, lo = min (a.at_ i) (b.at_ i) + 1 := ⟨_, rfl⟩
      have hS : missUp a b (i + 1) = O ++ (clkDots a b i K).take (401 - O.length) ++ cldMiss a b i := by rw [hO, hK]; rfl
      have hsuc : ∀ j, j < K → clkDots a b i (j + 1) = clkDots a b i j ++ (if hasB b ((i : Int), lo + (j : Int)) = true then [] else [((i : Int), lo + (j : Int))]) := by
        intro j hj
        rw [clkDots_succ, show b.at_ i + 1 = lo by omega]
      rw [← hO] at HOWN hul
      have zw : IntKind.i64.wrap (min (a.at_ i) (b.at_ i) + 1) = lo := (IntWalk.i64_in _ (by omega)).trans hlo.symm
      have hk : lo + (K : Int) = a.at_ i + 1 := by omega
      have hl0 : 1 ≤ lo := by omega
      have HS := hid hS
      have HSUC := hid hsuc
      clear hS hO hsuc hlo hK
      generalize a.at_ i = ai at *
      generalize b.at_ i = bi at *
      obtain ⟨wo, rfl⟩ : ∃ wo : World, wo = wr := ⟨_, rfl⟩
      refine wp_region_quiet_lit (by kernel_rfl) (by kernel_rfl) ?_
      repeat (any_goals ((with_reducible refine wpQuiet_step (fun K hK => ?_)); go_simp; first | (with_reducible refine hK _ ?_; clear hK K) | ((with_reducible apply Exists.intro); (with_reducible refine ⟨fun _ => ?_, hK _ ?_⟩); (fail); clear hK K) | ((with_reducible refine (if_neg ?_).mpr (hK _ ?_)); (decide); clear hK K) | (split <;> (with_reducible refine hK _ ?_; clear hK K))))
      all_goals ((with_reducible refine wpQuiet_nil ?_); intro _ hw'; obtain ⟨nq, hw''⟩ := hw'; subst hw'')
      clear zw ea eb
      have HK := hid hk
      have hk1 : lo + (K : Int) ≤ 1099511627777 := by omega
      clear hk
      go_upto_block 2 with fail
      go_cut [5] from 25 to 48 (fun s5 wx => wx.ownsRow W0.heap.size 27 2 s5 (O ++ (clkDots a b i K).take (401 - O.length)).length (dcells (O ++ (clkDots a b i K).take (401 - O.length))) ∧ Below W0.heap.size W0 wx)
      case first =>
        go_wp2_with fail
        go_loopw [5, 7] (fun s5 s7 wr => ∃ j : Nat, j ≤ K ∧ s7 = .int .i64 (lo + j) ∧ wr.ownsRow W0.heap.size 27 2 s5 (O ++ (clkDots a b i j).take (401 - O.length)).length (dcells (O ++ (clkDots a b i j).take (401 - O.length))) ∧ Below W0.heap.size W0 wr) (fun _ s7 _ => (lo + K - intOf s7).toNat)
        case atStart => exact ⟨0, by omega, by simp, by simpa [clkDots] using own_later HOWN.out (below_drewN (Below.refl _ _) nq), below_drewN HBW.out nq⟩
        case round =>
          obtain ⟨j, hj, rfl, hown2, hb2⟩ := hrel
          have xa := (HXA.out.step hb2).cells.1
          have ea : wr.cell? ⟨w.heap.size, i, none⟩ = some (.int .i64 ai) := by rw [xa]; exact hea
          have hB : Below w.heap.size w wr := Below.step' HB0.out hb2
          have hl2 : (O ++ (clkDots a b i j).take (401 - O.length)).length ≤ 401 ∨ (O ++ (clkDots a b i j).take (401 - O.length)).length ≤ O.length := by simp only [List.length_append, List.length_take]; omega
          obtain ⟨A2, c2, rfl⟩ := own_form hown2
          obtain ⟨o2, ho2⟩ : ∃ o2, o2 = O ++ (clkDots a b i j).take (401 - O.length) := ⟨_, rfl⟩
          rw [← ho2] at hown2 hl2 ⊢
          have HO2 := hid ho2
          clear ho2 xa
          by_cases hjK : j < K
          · by_cases h4 : o2.length ≤ 400
            · have t1 : lo + (j : Int) ≤ ai := by have := HK.out; omega
              have t2 : (o2.length : Int) ≤ 400 := by omega
              have xb := (HXB.out.step hb2).cells.1
              have sb := (HXB.out.step hb2).lt
              have nb : (w.heap.size + 1 = wr.heap.size) = False := by simp; omega
              have HOWN2 := hid hown2
              have HB2 := hid hb2
              have HBB := hid hB
              clear hown2 hb2 hB hul hl2
              cases hq : hasB b ((i : Int), lo + (j : Int))
              · have HQ := hid hq
                go_wp2_with fail
                refine (HH.out _ (HBB.out.alloc (by omega) _) ((i : Int), lo + (j : Int))).mono ?_
                rw [hq]
                rintro e w5 ⟨rfl, hb5⟩
                have hB5 : Below wr.heap.size wr w5 := (by refine Below.step' ?_ hb5; (repeat' (first | (with_reducible exact Below.refl _ _) | (with_reducible assumption) | (with_reducible refine below_drewN ?_ _) | (with_reducible refine Below.drew ?_) | (with_reducible refine Below.alloc ?_ ?_ _) | (with_reducible refine Below.setCell ?_ ?_ _) | (refine Below.trans ?_ (Below.mono (by assumption) ?_)) | go_size)))
                have hx5 : Blk w5 wr.heap.size #[.int .i64 i, .int .i64 (lo + j)] 27 := (Blk.new wr _ _).step hb5
                have c5 := hx5.cells.1
                have HOWN5 := hid (own_later HOWN2.out hB5)
                have HB5 := hid (Below.step' HB2.out hB5)
                have hs5 := hB5.size
                have hs0 := (Below.step' HB2.out hB5).size
                clear xb hb5 hB5 hx5 hq
                go_wp2_with (at_builtin; refine wpList_append_own _ rfl _ _ 23 rfl W0.heap.size 27 i0 _ 2 16 Try.underlying23 hi0 hz0 hz1 hz2 rfl (by decide) _ _ _ rfl (HOWN5.out.alloc _) ⟨w5.heap.size, 0, none⟩ 1 1 (dcells [((i : Int), lo + (j : Int))]) rfl rfl (news_new w5 _ _ _ _ rfl) (dcells_one _) ?_ ?_ ?_ ?_; rotate_right; intro v6 w6 hown6 hg6 _; rotate_left; (simp only [maxLen]; omega); (omega); (simp; omega))
                go_roundw
                case rel =>
                  refine ⟨j + 1, by omega, by go_num, ?_, grown_below (HB5.out.alloc (by omega) _) hg6 (HOWN5.out.alloc _) (by simp; omega)⟩
                  rw [HSUC.out j hjK, HQ.out, if_neg (by simp), cap_snoc _ _ _ (by rw [← HO2.out]; exact h4), ← HO2.out]
                  simpa [dcells] using hown6
                case measure => simp [intOf]; omega
              · have HQ := hid hq
                go_wp2_with fail
                refine (HH.out _ (HBB.out.alloc (by omega) _) ((i : Int), lo + (j : Int))).mono ?_
                rw [hq]
                rintro e w5 ⟨rfl, hb5⟩
                have hB5 : Below wr.heap.size wr w5 := (by refine Below.step' ?_ hb5; (repeat' (first | (with_reducible exact Below.refl _ _) | (with_reducible assumption) | (with_reducible refine below_drewN ?_ _) | (with_reducible refine Below.drew ?_) | (with_reducible refine Below.alloc ?_ ?_ _) | (with_reducible refine Below.setCell ?_ ?_ _) | (refine Below.trans ?_ (Below.mono (by assumption) ?_)) | go_size)))
                have HOWN5 := hid (own_later HOWN2.out hB5)
                have HB5 := hid (Below.step' HB2.out hB5)
                clear xb hb5 hB5 hq
                go_wp2
                go_roundw
                case rel =>
                  refine ⟨j + 1, by omega, by go_num, ?_, HB5.out⟩
                  rw [HSUC.out j hjK, HQ.out, if_pos rfl, List.append_nil, ← HO2.out]
                  exact HOWN5.out
                case measure => simp [intOf]; omega
            · have t1 : lo + (j : Int) ≤ ai := by have := HK.out; omega
              have t2 : (400 : Int) < (o2.length : Int) := by omega
              have HOWN2 := hid hown2
              have HB2 := hid hb2
              clear hown2 hb2 hB hul hl2
              go_wp2
              go_meet
              case rel =>
                obtain ⟨D, hD⟩ := clkDots_prefix a b i j K hj
                rw [hD, cap_full _ _ _ (by rw [← HO2.out]; omega), ← HO2.out]
                exact ⟨HOWN2.out, HB2.out⟩
          · have e : j = K := by omega
            have t1 : ai < lo + (j : Int) := by have := HK.out; omega
            have HE := hid e
            have HOWN2 := hid hown2
            have HB2 := hid hb2
            clear hown2 hb2 hB hul hl2 e
            go_wp2
            go_meet
            case rel =>
              rw [← HE.out, ← HO2.out]
              exact ⟨HOWN2.out, HB2.out⟩
      case rest =>
        obtain ⟨hown3, hb3⟩ := hcut
        obtain ⟨wx, rfl⟩ : ∃ wx : World, wx = wc := ⟨_, rfl⟩
        obtain ⟨A3, c3, rfl⟩ := own_form hown3
        have hl3 : (O ++ (clkDots a b i K).take (401 - O.length)).length ≤ 2001 := by simp only [List.length_append, List.length_take]; omega
        generalize O ++ (clkDots a b i K).take (401 - O.length) = O3 at *
        have HOWN3 := hid hown3
        have HB3 := hid hb3
        clear hown3 hb3 hul HOWN HBW HK HSUC hea
        go_wp2
        go_loopw [5, 9] (fun s5 s9 wr => ∃ j : Nat, j ≤ a.cloud.length ∧ s9 = .int .i64 j ∧ wr.ownsRow W0.heap.size 27 2 s5 (O3 ++ (a.cloud.take j).filter (fun d => decide (d.1 = (i : Int)) && !hasB b d)).length (dcells (O3 ++ (a.cloud.take j).filter (fun d => decide (d.1 = (i : Int)) && !hasB b d))) ∧ Below W0.heap.size W0 wr) (fun _ s9 _ => a.cloud.length - (intOf s9).toNat)
        case atStart => exact ⟨0, by omega, rfl, by simpa using HOWN3.out, HB3.out⟩
        case round =>
          obtain ⟨j, hj, rfl, hown4, hb4⟩ := hrel
          have hB : Below w.heap.size w wr := Below.step' HB0.out hb4
          have xa := (HXA.out.step hb4).cells.1
          have e4 : wr.cell? ⟨w.heap.size, 4, none⟩ = some (.slice A a.cloud.length k) := by rw [xa]; rfl
          have hl4 : (O3 ++ (a.cloud.take j).filter (fun d => decide (d.1 = (i : Int)) && !hasB b d)).length ≤ 2401 := by
            have := List.length_filter_le (fun d : Int × Int => decide (d.1 = (i : Int)) && !hasB b d) (a.cloud.take j)
            simp only [List.length_append, List.length_take] at *
            omega
          have hst : ∀ hj : j < a.cloud.length, O3 ++ (a.cloud.take (j + 1)).filter (fun d => decide (d.1 = (i : Int)) && !hasB b d) = (O3 ++ (a.cloud.take j).filter (fun d => decide (d.1 = (i : Int)) && !hasB b d)) ++ (if (decide ((a.cloud[j]).1 = (i : Int)) && !hasB b a.cloud[j]) = true then [a.cloud[j]] else []) := by
            intro hj
            rw [List.take_succ_eq_append_getElem hj, List.filter_append, List.append_assoc]
            congr 2
            rw [List.filter_cons, List.filter_nil]
          obtain ⟨o4, ho4⟩ : ∃ o4, o4 = O3 ++ (a.cloud.take j).filter (fun d => decide (d.1 = (i : Int)) && !hasB b d) := ⟨_, rfl⟩
          rw [← ho4] at hown4 hl4 hst
          obtain ⟨A4, c4, rfl⟩ := own_form hown4
          have HO4 := hid ho4
          clear ho4 xa
          by_cases hjl : j < a.cloud.length
          · have hst2 := hst hjl
            have HST := hid hst2
            clear hst hst2
            obtain ⟨b', off, hA, hb', h0, h1⟩ := (RA.out.step hB).dot hjl
            rw [hA] at e4
            clear hA
            have xb := (HXB.out.step hb4).cells.1
            have sb := (HXB.out.step hb4).lt
            have nb : (w.heap.size + 1 = wr.heap.size) = False := by simp; omega
            have HOWN4 := hid hown4
            have HB4 := hid hb4
            have HBB := hid hB
            have hs0 := hb4.size
            clear hown4 hb4 hB
            generalize a.cloud[j] = d at *
            obtain ⟨d0, d1⟩ := d
            simp only at h0 h1
            by_cases hn : d0 = (i : Int)
            · have tq : ((d0 : Int) == (i : Int)) = true := by simp [hn]
              have HN := hid hn
              clear hn
              cases hq : hasB b (d0, d1)
              · have HQ := hid hq
                go_wp2_with fail
                refine (HH.out _ (HBB.out.alloc (by omega) _) (d0, d1)).mono ?_
                rw [hq]
                rintro e w5 ⟨rfl, hb5⟩
                have hB5 : Below wr.heap.size wr w5 := (by refine Below.step' ?_ hb5; (repeat' (first | (with_reducible exact Below.refl _ _) | (with_reducible assumption) | (with_reducible refine below_drewN ?_ _) | (with_reducible refine Below.drew ?_) | (with_reducible refine Below.alloc ?_ ?_ _) | (with_reducible refine Below.setCell ?_ ?_ _) | (refine Below.trans ?_ (Below.mono (by assumption) ?_)) | go_size)))
                have hx5 : Blk w5 wr.heap.size #[.int .i64 d0, .int .i64 d1] 27 := (Blk.new wr _ _).step hb5
                have c5 := hx5.cells.1
                have HOWN5 := hid (own_later HOWN4.out hB5)
                have HB5 := hid (Below.step' HB4.out hB5)
                have hs5 := hB5.size
                clear xb hb5 hB5 hx5 hq h0 h1 e4 tq
                go_wp2_with (at_builtin; refine wpList_append_own _ rfl _ _ 23 rfl W0.heap.size 27 i0 _ 2 16 Try.underlying23 hi0 hz0 hz1 hz2 rfl (by decide) _ _ _ rfl (HOWN5.out.alloc _) ⟨w5.heap.size, 0, none⟩ 1 1 (dcells [(d0, d1)]) rfl rfl (news_new w5 _ _ _ _ rfl) (dcells_one _) ?_ ?_ ?_ ?_; rotate_right; intro v6 w6 hown6 hg6 _; rotate_left; (simp only [maxLen]; omega); (omega); (simp; omega))
                go_roundw
                case rel =>
                  refine ⟨j + 1, by omega, by go_num, ?_, grown_below (HB5.out.alloc (by omega) _) hg6 (HOWN5.out.alloc _) (by simp; omega)⟩
                  rw [HST.out, HQ.out, if_pos (by simp [HN.out])]
                  simpa [dcells] using hown6
                case measure => simp [intOf]; omega
              · have HQ := hid hq
                go_wp2_with fail
                refine (HH.out _ (HBB.out.alloc (by omega) _) (d0, d1)).mono ?_
                rw [hq]
                rintro e w5 ⟨rfl, hb5⟩
                have hB5 : Below wr.heap.size wr w5 := (by refine Below.step' ?_ hb5; (repeat' (first | (with_reducible exact Below.refl _ _) | (with_reducible assumption) | (with_reducible refine below_drewN ?_ _) | (with_reducible refine Below.drew ?_) | (with_reducible refine Below.alloc ?_ ?_ _) | (with_reducible refine Below.setCell ?_ ?_ _) | (refine Below.trans ?_ (Below.mono (by assumption) ?_)) | go_size)))
                have HOWN5 := hid (own_later HOWN4.out hB5)
                have HB5 := hid (Below.step' HB4.out hB5)
                clear xb hb5 hB5 hq h0 h1 e4 tq
                go_wp2
                go_roundw
                case rel =>
                  refine ⟨j + 1, by omega, by go_num, ?_, HB5.out⟩
                  rw [HST.out, HQ.out, if_neg (by simp), List.append_nil]
                  exact HOWN5.out
                case measure => simp [intOf]; omega
            · have tq : ((d0 : Int) == (i : Int)) = false := by simp [hn]
              have HN := hid hn
              clear hn
              go_wp2
              go_roundw
              case rel =>
                have hB5 : Below wr.heap.size wr _ := (Below.refl wr.heap.size wr).alloc (Nat.le_refl _) (.cells #[.int .i64 d0, .int .i64 d1] 27)
                refine ⟨j + 1, by omega, by go_num, ?_, Below.step' HB4.out hB5⟩
                rw [HST.out, if_neg (by simp [HN.out]), List.append_nil]
                exact own_later HOWN4.out hB5
              case measure => simp [intOf]; omega
          · have HOWN4 := hid hown4
            have HB4 := hid hb4
            have HJ := hid (show (a.cloud.take j) = a.cloud from List.take_of_length_le (by omega))
            clear hown4 hb4 hB hst
            go_wp2
            go_roundw
            case rel =>
              refine ⟨i + 1, by omega, by go_num, ?_, HB4.out⟩
              have e := HO4.out
              rw [HJ.out] at e
              rw [HS.out, show O3 ++ cldMiss a b i = o4 from e.symm]
              exact HOWN4.out
            case measure => simp [intOf]; omega
    · have e : i = 4 := by omega
      have HE := hid e
      have HOWN := hid hown
      have HBW := hid hbw
      clear hown hbw e
      go_wp2
      go_ret
      refine ⟨_, rfl, ?_, Below.step' HB0.out HBW.out⟩
      have := HOWN.out
      rw [HE.out, UR.out] at this
      exact own_base this HB0.out.size
end Go.Proofs.Ytogegnikpjcpdaa
