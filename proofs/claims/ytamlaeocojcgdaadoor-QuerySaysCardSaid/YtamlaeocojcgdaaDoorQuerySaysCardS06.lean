/- QtB, QtC, ZgP, PlQ -/
import Derived.Test.YtamlaeocojcgdaaDoorQuerySaysCardS05
import Derived.Deep.RegionHeld3
/- query.text: the kinds that are a word and numbers. -/
namespace Go.Proofs.YtamlaeocojcgdaaDoor
set_option linter.unusedVariables false
set_option linter.unusedSimpArgs false
open Go.ChangeShapes Go.WideShapes Go.ChangeAt Go.RowKit

def TextPost (s : St) (w : World) (e : Ending) (w' : World) : Prop := e = .returned (.string (bstr (stepT s))) ∧ Below w.heap.size w w'

theorem step_t1 (a b col op val : Int) (l : List Int) : stepT ⟨1, a, b, col, op, val, l⟩ = [116, 97, 98, 108, 101] ++ (numsT [a] ++ [10]) := by
  simp [stepT, argsT, verbB, numsT]
set_option maxHeartbeats 1000000 in
set_option maxRecDepth 100000 in
theorem text_k1 (a b col op val : Int) (l : List Int) (A : Option Addr) (c : Nat) (w : World) (h : StTx ⟨1, a, b, col, op, val, l⟩) (ht : Pow w) :
    Calls Tryd.prog 17 #[.agg #[.int .i64 1, .int .i64 a, .int .i64 b, .int .i64 col, .int .i64 op, .int .i64 val, .slice A l.length c]] w (TextPost ⟨1, a, b, col, op, val, l⟩ w) := by
  unfold TextPost
  rw [step_t1]
  have h1 := h.a; have h2 := h.b; have h3 := h.col; have h4 := h.val
  simp only at h1 h2 h3 h4
  obtain ⟨wa, hwa⟩ : ∃ q : World, q = (w.alloc (.cells #[.int .i64 1, .int .i64 a, .int .i64 b, .int .i64 col, .int .i64 op, .int .i64 val, .slice A l.length c] 40)).alloc (.cells #[.int .i64 a] 3) := ⟨_, rfl⟩
  have hb : Below w.heap.size w wa := by rw [hwa]; exact ((Below.refl _ _).alloc (Nat.le_refl _) _).alloc (by simp) _
  have HC := hid (line_any [116, 97, 98, 108, 101] [a] (some ⟨w.heap.size + 1, 0, none⟩) 1 wa (by decide) (by rw [hwa]; exact Row.new' (w.alloc _) _ _ (by simp) rfl (by simp)) (by simp) (fun n hn => by
    simp only [List.mem_cons, List.not_mem_nil, or_false] at hn
    rcases hn with rfl <;> omega) (Pow.step ht hb))
  have HB := hid hb
  clear h ht hb h1 h2 h3 h4
  go_enter Tryd.func17, Tryd.ntmps17
  go_wp2_with fail
  -- STOP-k1
  rw [← hwa]
  clear hwa
  refine HC.out.mono ?_
  rintro e w1 ⟨rfl, hb1⟩
  go_wp2_with fail
  go_ret
  exact ⟨rfl, Below.step' HB.out hb1⟩
theorem step_t4 (a b col op val : Int) (l : List Int) : stepT ⟨4, a, b, col, op, val, l⟩ = [106, 111, 105, 110] ++ (numsT [a, b, col, val] ++ [10]) := by
  simp [stepT, argsT, verbB, numsT]
set_option maxHeartbeats 1000000 in
set_option maxRecDepth 100000 in
theorem text_k4 (a b col op val : Int) (l : List Int) (A : Option Addr) (c : Nat) (w : World) (h : StTx ⟨4, a, b, col, op, val, l⟩) (ht : Pow w) :
    Calls Tryd.prog 17 #[.agg #[.int .i64 4, .int .i64 a, .int .i64 b, .int .i64 col, .int .i64 op, .int .i64 val, .slice A l.length c]] w (TextPost ⟨4, a, b, col, op, val, l⟩ w) := by
  unfold TextPost
  rw [step_t4]
  have h1 := h.a; have h2 := h.b; have h3 := h.col; have h4 := h.val
  simp only at h1 h2 h3 h4
  obtain ⟨wa, hwa⟩ : ∃ q : World, q = (w.alloc (.cells #[.int .i64 4, .int .i64 a, .int .i64 b, .int .i64 col, .int .i64 op, .int .i64 val, .slice A l.length c] 40)).alloc (.cells #[.int .i64 a, .int .i64 b, .int .i64 col, .int .i64 val] 3) := ⟨_, rfl⟩
  have hb : Below w.heap.size w wa := by rw [hwa]; exact ((Below.refl _ _).alloc (Nat.le_refl _) _).alloc (by simp) _
  have HC := hid (line_any [106, 111, 105, 110] [a, b, col, val] (some ⟨w.heap.size + 1, 0, none⟩) 4 wa (by decide) (by rw [hwa]; exact Row.new' (w.alloc _) _ _ (by simp) rfl (by simp)) (by simp) (fun n hn => by
    simp only [List.mem_cons, List.not_mem_nil, or_false] at hn
    rcases hn with rfl | rfl | rfl | rfl <;> omega) (Pow.step ht hb))
  have HB := hid hb
  clear h ht hb h1 h2 h3 h4
  go_enter Tryd.func17, Tryd.ntmps17
  go_wp2_with fail
  -- STOP-k4
  rw [← hwa]
  clear hwa
  refine HC.out.mono ?_
  rintro e w1 ⟨rfl, hb1⟩
  go_wp2_with fail
  go_ret
  exact ⟨rfl, Below.step' HB.out hb1⟩
theorem step_t5 (a b col op val : Int) (l : List Int) : stepT ⟨5, a, b, col, op, val, l⟩ = [117, 110, 105, 111, 110] ++ (numsT [a, b] ++ [10]) := by
  simp [stepT, argsT, verbB, numsT]
set_option maxHeartbeats 1000000 in
set_option maxRecDepth 100000 in
theorem text_k5 (a b col op val : Int) (l : List Int) (A : Option Addr) (c : Nat) (w : World) (h : StTx ⟨5, a, b, col, op, val, l⟩) (ht : Pow w) :
    Calls Tryd.prog 17 #[.agg #[.int .i64 5, .int .i64 a, .int .i64 b, .int .i64 col, .int .i64 op, .int .i64 val, .slice A l.length c]] w (TextPost ⟨5, a, b, col, op, val, l⟩ w) := by
  unfold TextPost
  rw [step_t5]
  have h1 := h.a; have h2 := h.b; have h3 := h.col; have h4 := h.val
  simp only at h1 h2 h3 h4
  obtain ⟨wa, hwa⟩ : ∃ q : World, q = (w.alloc (.cells #[.int .i64 5, .int .i64 a, .int .i64 b, .int .i64 col, .int .i64 op, .int .i64 val, .slice A l.length c] 40)).alloc (.cells #[.int .i64 a, .int .i64 b] 3) := ⟨_, rfl⟩
  have hb : Below w.heap.size w wa := by rw [hwa]; exact ((Below.refl _ _).alloc (Nat.le_refl _) _).alloc (by simp) _
  have HC := hid (line_any [117, 110, 105, 111, 110] [a, b] (some ⟨w.heap.size + 1, 0, none⟩) 2 wa (by decide) (by rw [hwa]; exact Row.new' (w.alloc _) _ _ (by simp) rfl (by simp)) (by simp) (fun n hn => by
    simp only [List.mem_cons, List.not_mem_nil, or_false] at hn
    rcases hn with rfl | rfl <;> omega) (Pow.step ht hb))
  have HB := hid hb
  clear h ht hb h1 h2 h3 h4
  go_enter Tryd.func17, Tryd.ntmps17
  go_wp2_with fail
  -- STOP-k5
  rw [← hwa]
  clear hwa
  refine HC.out.mono ?_
  rintro e w1 ⟨rfl, hb1⟩
  go_wp2_with fail
  go_ret
  exact ⟨rfl, Below.step' HB.out hb1⟩
theorem step_t6 (a b col op val : Int) (l : List Int) : stepT ⟨6, a, b, col, op, val, l⟩ = [109, 105, 110, 117, 115] ++ (numsT [a, b] ++ [10]) := by
  simp [stepT, argsT, verbB, numsT]
set_option maxHeartbeats 1000000 in
set_option maxRecDepth 100000 in
theorem text_k6 (a b col op val : Int) (l : List Int) (A : Option Addr) (c : Nat) (w : World) (h : StTx ⟨6, a, b, col, op, val, l⟩) (ht : Pow w) :
    Calls Tryd.prog 17 #[.agg #[.int .i64 6, .int .i64 a, .int .i64 b, .int .i64 col, .int .i64 op, .int .i64 val, .slice A l.length c]] w (TextPost ⟨6, a, b, col, op, val, l⟩ w) := by
  unfold TextPost
  rw [step_t6]
  have h1 := h.a; have h2 := h.b; have h3 := h.col; have h4 := h.val
  simp only at h1 h2 h3 h4
  obtain ⟨wa, hwa⟩ : ∃ q : World, q = (w.alloc (.cells #[.int .i64 6, .int .i64 a, .int .i64 b, .int .i64 col, .int .i64 op, .int .i64 val, .slice A l.length c] 40)).alloc (.cells #[.int .i64 a, .int .i64 b] 3) := ⟨_, rfl⟩
  have hb : Below w.heap.size w wa := by rw [hwa]; exact ((Below.refl _ _).alloc (Nat.le_refl _) _).alloc (by simp) _
  have HC := hid (line_any [109, 105, 110, 117, 115] [a, b] (some ⟨w.heap.size + 1, 0, none⟩) 2 wa (by decide) (by rw [hwa]; exact Row.new' (w.alloc _) _ _ (by simp) rfl (by simp)) (by simp) (fun n hn => by
    simp only [List.mem_cons, List.not_mem_nil, or_false] at hn
    rcases hn with rfl | rfl <;> omega) (Pow.step ht hb))
  have HB := hid hb
  clear h ht hb h1 h2 h3 h4
  go_enter Tryd.func17, Tryd.ntmps17
  go_wp2_with fail
  -- STOP-k6
  rw [← hwa]
  clear hwa
  refine HC.out.mono ?_
  rintro e w1 ⟨rfl, hb1⟩
  go_wp2_with fail
  go_ret
  exact ⟨rfl, Below.step' HB.out hb1⟩
theorem step_t7 (a b col op val : Int) (l : List Int) : stepT ⟨7, a, b, col, op, val, l⟩ = [100, 105, 115, 116, 105, 110, 99, 116] ++ (numsT [a] ++ [10]) := by
  simp [stepT, argsT, verbB, numsT]
set_option maxHeartbeats 1000000 in
set_option maxRecDepth 100000 in
theorem text_k7 (a b col op val : Int) (l : List Int) (A : Option Addr) (c : Nat) (w : World) (h : StTx ⟨7, a, b, col, op, val, l⟩) (ht : Pow w) :
    Calls Tryd.prog 17 #[.agg #[.int .i64 7, .int .i64 a, .int .i64 b, .int .i64 col, .int .i64 op, .int .i64 val, .slice A l.length c]] w (TextPost ⟨7, a, b, col, op, val, l⟩ w) := by
  unfold TextPost
  rw [step_t7]
  have h1 := h.a; have h2 := h.b; have h3 := h.col; have h4 := h.val
  simp only at h1 h2 h3 h4
  obtain ⟨wa, hwa⟩ : ∃ q : World, q = (w.alloc (.cells #[.int .i64 7, .int .i64 a, .int .i64 b, .int .i64 col, .int .i64 op, .int .i64 val, .slice A l.length c] 40)).alloc (.cells #[.int .i64 a] 3) := ⟨_, rfl⟩
  have hb : Below w.heap.size w wa := by rw [hwa]; exact ((Below.refl _ _).alloc (Nat.le_refl _) _).alloc (by simp) _
  have HC := hid (line_any [100, 105, 115, 116, 105, 110, 99, 116] [a] (some ⟨w.heap.size + 1, 0, none⟩) 1 wa (by decide) (by rw [hwa]; exact Row.new' (w.alloc _) _ _ (by simp) rfl (by simp)) (by simp) (fun n hn => by
    simp only [List.mem_cons, List.not_mem_nil, or_false] at hn
    rcases hn with rfl <;> omega) (Pow.step ht hb))
  have HB := hid hb
  clear h ht hb h1 h2 h3 h4
  go_enter Tryd.func17, Tryd.ntmps17
  go_wp2_with fail
  -- STOP-k7
  rw [← hwa]
  clear hwa
  refine HC.out.mono ?_
  rintro e w1 ⟨rfl, hb1⟩
  go_wp2_with fail
  go_ret
  exact ⟨rfl, Below.step' HB.out hb1⟩
theorem step_t8 (a b col op val : Int) (l : List Int) : stepT ⟨8, a, b, col, op, val, l⟩ = [99, 111, 117, 110, 116] ++ (numsT [a, col] ++ [10]) := by
  simp [stepT, argsT, verbB, numsT]
set_option maxHeartbeats 1000000 in
set_option maxRecDepth 100000 in
theorem text_k8 (a b col op val : Int) (l : List Int) (A : Option Addr) (c : Nat) (w : World) (h : StTx ⟨8, a, b, col, op, val, l⟩) (ht : Pow w) :
    Calls Tryd.prog 17 #[.agg #[.int .i64 8, .int .i64 a, .int .i64 b, .int .i64 col, .int .i64 op, .int .i64 val, .slice A l.length c]] w (TextPost ⟨8, a, b, col, op, val, l⟩ w) := by
  unfold TextPost
  rw [step_t8]
  have h1 := h.a; have h2 := h.b; have h3 := h.col; have h4 := h.val
  simp only at h1 h2 h3 h4
  obtain ⟨wa, hwa⟩ : ∃ q : World, q = (w.alloc (.cells #[.int .i64 8, .int .i64 a, .int .i64 b, .int .i64 col, .int .i64 op, .int .i64 val, .slice A l.length c] 40)).alloc (.cells #[.int .i64 a, .int .i64 col] 3) := ⟨_, rfl⟩
  have hb : Below w.heap.size w wa := by rw [hwa]; exact ((Below.refl _ _).alloc (Nat.le_refl _) _).alloc (by simp) _
  have HC := hid (line_any [99, 111, 117, 110, 116] [a, col] (some ⟨w.heap.size + 1, 0, none⟩) 2 wa (by decide) (by rw [hwa]; exact Row.new' (w.alloc _) _ _ (by simp) rfl (by simp)) (by simp) (fun n hn => by
    simp only [List.mem_cons, List.not_mem_nil, or_false] at hn
    rcases hn with rfl | rfl <;> omega) (Pow.step ht hb))
  have HB := hid hb
  clear h ht hb h1 h2 h3 h4
  go_enter Tryd.func17, Tryd.ntmps17
  go_wp2_with fail
  -- STOP-k8
  rw [← hwa]
  clear hwa
  refine HC.out.mono ?_
  rintro e w1 ⟨rfl, hb1⟩
  go_wp2_with fail
  go_ret
  exact ⟨rfl, Below.step' HB.out hb1⟩
theorem step_t9 (a b col op val : Int) (l : List Int) : stepT ⟨9, a, b, col, op, val, l⟩ = [115, 117, 109] ++ (numsT [a, col, val] ++ [10]) := by
  simp [stepT, argsT, verbB, numsT]
set_option maxHeartbeats 1000000 in
set_option maxRecDepth 100000 in
theorem text_k9 (a b col op val : Int) (l : List Int) (A : Option Addr) (c : Nat) (w : World) (h : StTx ⟨9, a, b, col, op, val, l⟩) (ht : Pow w) :
    Calls Tryd.prog 17 #[.agg #[.int .i64 9, .int .i64 a, .int .i64 b, .int .i64 col, .int .i64 op, .int .i64 val, .slice A l.length c]] w (TextPost ⟨9, a, b, col, op, val, l⟩ w) := by
  unfold TextPost
  rw [step_t9]
  have h1 := h.a; have h2 := h.b; have h3 := h.col; have h4 := h.val
  simp only at h1 h2 h3 h4
  obtain ⟨wa, hwa⟩ : ∃ q : World, q = (w.alloc (.cells #[.int .i64 9, .int .i64 a, .int .i64 b, .int .i64 col, .int .i64 op, .int .i64 val, .slice A l.length c] 40)).alloc (.cells #[.int .i64 a, .int .i64 col, .int .i64 val] 3) := ⟨_, rfl⟩
  have hb : Below w.heap.size w wa := by rw [hwa]; exact ((Below.refl _ _).alloc (Nat.le_refl _) _).alloc (by simp) _
  have HC := hid (line_any [115, 117, 109] [a, col, val] (some ⟨w.heap.size + 1, 0, none⟩) 3 wa (by decide) (by rw [hwa]; exact Row.new' (w.alloc _) _ _ (by simp) rfl (by simp)) (by simp) (fun n hn => by
    simp only [List.mem_cons, List.not_mem_nil, or_false] at hn
    rcases hn with rfl | rfl | rfl <;> omega) (Pow.step ht hb))
  have HB := hid hb
  clear h ht hb h1 h2 h3 h4
  go_enter Tryd.func17, Tryd.ntmps17
  go_wp2_with fail
  -- STOP-k9
  rw [← hwa]
  clear hwa
  refine HC.out.mono ?_
  rintro e w1 ⟨rfl, hb1⟩
  go_wp2_with fail
  go_ret
  exact ⟨rfl, Below.step' HB.out hb1⟩
end Go.Proofs.YtamlaeocojcgdaaDoor
/- query.text at where. -/
namespace Go.Proofs.YtamlaeocojcgdaaDoor
set_option linter.unusedVariables false
set_option linter.unusedSimpArgs false
open Go.ChangeShapes Go.WideShapes Go.ChangeAt Go.RowKit

theorem step_t2 (a b col op val : Int) (l : List Int) : stepT ⟨2, a, b, col, op, val, l⟩ = ([119, 104, 101, 114, 101, 32] ++ Lib.itoa a) ++ ([32] ++ Lib.itoa col) ++ ([32] ++ signB op) ++ ([] ++ (numsT [val] ++ [10])) := by
  simp [stepT, argsT, verbB, numsT, numT]
set_option maxHeartbeats 4000000 in
set_option maxRecDepth 100000 in
theorem text_k2 (a b col op val : Int) (l : List Int) (A : Option Addr) (c : Nat) (w : World) (h : StTx ⟨2, a, b, col, op, val, l⟩) (ht : Pow w) :
    Calls Tryd.prog 17 #[.agg #[.int .i64 2, .int .i64 a, .int .i64 b, .int .i64 col, .int .i64 op, .int .i64 val, .slice A l.length c]] w (TextPost ⟨2, a, b, col, op, val, l⟩ w) := by
  unfold TextPost
  have HT2 := hid (step_t2 a b col op val l)
  have h1 := h.a; have h2 := h.b; have h3 := h.col; have h4 := h.val; have h5 := h.op
  simp only at h1 h2 h3 h4 h5
  obtain ⟨wa, hwa⟩ : ∃ q : World, q = w.alloc (.cells #[.int .i64 2, .int .i64 a, .int .i64 b, .int .i64 col, .int .i64 op, .int .i64 val, .slice A l.length c] 40) := ⟨_, rfl⟩
  have hb : Below w.heap.size w wa := by rw [hwa]; exact alloc_below (Below.refl _ _) _
  have HX := hid (show Blk wa w.heap.size #[.int .i64 2, .int .i64 a, .int .i64 b, .int .i64 col, .int .i64 op, .int .i64 val, .slice A l.length c] 40 by rw [hwa]; exact Blk.new _ _ _)
  have hwl : w.heap.size < wa.heap.size := HX.out.lt
  have hpa : Pow wa := Pow.step ht hb
  have HA := hid (fun w1 (hb : Below wa.heap.size wa w1) => itoaN_any a (by omega) w1 (Pow.step hpa hb))
  have HC := hid (fun w1 (hb : Below wa.heap.size wa w1) => itoaN_any col (by omega) w1 (Pow.step hpa hb))
  have HS := hid (fun w1 => sign_any op (by omega) w1)
  have HL := hid (fun (w1 : World) (bk : Nat) (hb : Below wa.heap.size wa w1) (hx : Blk w1 bk #[.int .i64 val] 3) => show Calls Tryd.prog 28 #[.string ⟨#[]⟩, .slice (some ⟨bk, 0, none⟩) 1 1] w1 fun e w' => e = .returned (.string (bstr ([] ++ (numsT [val] ++ [10])))) ∧ Below w1.heap.size w1 w' from
    line_any [] [val] (some ⟨bk, 0, none⟩) 1 w1 (by decide) (.inr ⟨bk, 0, rfl, hx.lt, fun j u hu => by
      have := hx.cells.1 j
      rw [Nat.zero_add, this]; simpa using hu⟩) (by simp) (fun n hn => by rw [List.mem_singleton.1 hn]; omega) (Pow.step hpa hb))
  have hla := itoa21 (n := a) (by omega)
  have hlc := itoa21 (n := col) (by omega)
  have hls := signB_len op
  have hlv : ([] ++ (numsT [val] ++ [10])).length ≤ 30 := by
    have := numsT_len (l := [val]) (fun n hn => by rw [List.mem_singleton.1 hn]; omega)
    simp only [List.nil_append, List.length_append, List.length_singleton] at this ⊢
    omega
  obtain ⟨BA, hBA⟩ : ∃ q, q = bstr (Lib.itoa a) := ⟨_, rfl⟩
  obtain ⟨BC, hBC⟩ : ∃ q, q = bstr (Lib.itoa col) := ⟨_, rfl⟩
  obtain ⟨BS, hBS⟩ : ∃ q, q = bstr (signB op) := ⟨_, rfl⟩
  obtain ⟨BV, hBV⟩ : ∃ q, q = bstr ([] ++ (numsT [val] ++ [10])) := ⟨_, rfl⟩
  obtain ⟨W0, hW0⟩ : ∃ q, q = bstr [119, 104, 101, 114, 101, 32] := ⟨_, rfl⟩
  obtain ⟨B32, hB32⟩ : ∃ q, q = bstr [32] := ⟨_, rfl⟩
  have HFIN := hid (show (((((W0 ++ BA) ++ B32) ++ BC) ++ B32) ++ BS) ++ BV = bstr (stepT ⟨2, a, b, col, op, val, l⟩) by
    rw [HT2.out, hW0, hBA, hB32, hBC, hBS, hBV]
    simp only [bstr_app, List.append_assoc])
  have s1 : W0.size = 6 := by rw [hW0]; rfl
  have s2 : BA.size ≤ 21 := by rw [hBA, bstr_size]; exact hla
  have s3 : B32.size = 1 := by rw [hB32]; rfl
  have s4 : BC.size ≤ 21 := by rw [hBC, bstr_size]; exact hlc
  have s5 : BS.size ≤ 1 := by rw [hBS, bstr_size]; exact hls
  have s6 : BV.size ≤ 30 := by rw [hBV, bstr_size]; exact hlv
  rw [← hBV] at HL
  rw [← hBA] at HA
  rw [← hBC] at HC
  rw [← hBS] at HS
  have ew : (⟨#[119, 104, 101, 114, 101, 32]⟩ : ByteArray) = W0 := hW0.symm
  have e32 : (⟨#[32]⟩ : ByteArray) = B32 := hB32.symm
  have g1 : (9223372036854775807 < W0.size + BA.size) = False := eq_false (by omega)
  have g2 : (9223372036854775807 < W0.size + BA.size + B32.size) = False := eq_false (by omega)
  have g3 : (9223372036854775807 < W0.size + BA.size + B32.size + BC.size) = False := eq_false (by omega)
  have g4 : (9223372036854775807 < W0.size + BA.size + B32.size + BC.size + B32.size) = False := eq_false (by omega)
  have g5 : (9223372036854775807 < W0.size + BA.size + B32.size + BC.size + B32.size + BS.size) = False := eq_false (by omega)
  have g6 : (9223372036854775807 < W0.size + BA.size + B32.size + BC.size + B32.size + BS.size + BV.size) = False := eq_false (by omega)
  have HB := hid hb
  clear h ht hb h1 h2 h3 h4 h5 hpa hBA hBC hBS hBV hW0 hB32 hla hlc hls hlv s1 s2 s3 s4 s5 s6 HT2
  go_enter Tryd.func17, Tryd.ntmps17
  go_upto_region 5 with fail
  -- STOP-a
  rw [← hwa]
  clear hwa
  obtain ⟨cHX, fHX, sHX, nHX⟩ := HX.out.all
  try simp only [cbox] at cHX
  go_region_held3 (fun w' => (∀ b o, b < wa.heap.size → w'.cell? ⟨b, o, none⟩ = wa.cell? ⟨b, o, none⟩) ∧ Below wa.heap.size wa w')
    ((go_split_ands; refine keepS ?_; first | (with_reducible assumption) | (with_reducible exact (Below.refl _ _).drew) | (with_reducible refine alloc_below ?_ _; with_reducible assumption) | (with_reducible exact (alloc_below (Below.refl _ _) _).drew) | (with_reducible exact alloc_below (Below.refl _ _).drew _)))
    (first
      | (go_split_ands; go_at_call 16; (with_reducible refine (HA.out _ ?_).mono ?_); (with_reducible assumption); rintro e w2 ⟨rfl, hb2⟩; have hB2 : Below wa.heap.size wa w2 := Below.step' ‹_› hb2; (try have x2 : Blk w2 _ #[.int .i64 val] 3 := (Blk.new _ #[.int .i64 val] 3).step hb2); (try have x2 := Blk.step (show Blk (World.drew (wa.alloc (.cells #[.int .i64 val] 3))) wa.heap.size #[.int .i64 val] 3 from Blk.new wa #[.int .i64 val] 3) hb2))
      | (go_split_ands; go_at_call 16; (with_reducible refine (HC.out _ ?_).mono ?_); (with_reducible assumption); rintro e w3 ⟨rfl, hb3⟩; have hB3 : Below wa.heap.size wa w3 := Below.step' ‹_› hb3; (try have x3 : Blk w3 _ #[.int .i64 val] 3 := (Blk.new _ #[.int .i64 val] 3).step hb3); (try have x3 := Blk.step x2 hb3))
      | (go_split_ands; go_at_call 29; (with_reducible refine (HS.out _).mono ?_); rintro e w4 ⟨rfl, rfl⟩)
      | (go_split_ands; go_at_call 28; (with_reducible refine (HL.out _ _ ?_ x3).mono ?_); (with_reducible assumption); rintro e w5 ⟨rfl, hb5⟩; have hB5 : Below wa.heap.size wa w5 := Below.step' ‹_› hb5)
      | (go_split_ands; go_at_call 28; (with_reducible refine (HL.out _ _ ?_ (Blk.new _ _ _)).mono ?_); (with_reducible assumption); rintro e w5 ⟨rfl, hb5⟩; have hB5 : Below wa.heap.size wa w5 := Below.step' ‹_› hb5))
  -- STOP-b
  all_goals
    go_wp2_with fail
    -- STOP-c
    go_ret
    exact ⟨by rw [← HFIN.out]; rfl, Below.step' HB.out hB5⟩
end Go.Proofs.YtamlaeocojcgdaaDoor
/- Sets with weights are a group: the plain law. -/
namespace Go.Proofs.YtamlaeocojcgdaaDoor
set_option linter.unusedVariables false
set_option linter.unusedSimpArgs false

theorem addE_sets {a b : List It} (h1 : setI a = 0) (h2 : setI b = 0) : addE a b = doneE (sumL (a ++ b)) := by
  unfold addE; rw [if_neg (by simp [h1]), if_neg (by simp [h2])]
theorem add_comm {a b : List It} (h1 : setI a = 0) (h2 : setI b = 0) : addE a b = addE b a ∧ addX a b = addX b a := by
  have e : addE a b = addE b a := by rw [addE_sets h1 h2, addE_sets h2 h1, sumL_comm]
  exact ⟨e, by unfold addX; rw [e, sumL_comm]⟩
theorem add_set {a b : List It} (h1 : setI a = 0) (h2 : setI b = 0) (h : addE a b = 0) : setI (addX a b) = 0 ∧ addX a b = sumL (a ++ b) := by
  have e : addX a b = sumL (a ++ b) := by unfold addX; rw [if_pos h]
  rw [addE_sets h1 h2] at h
  exact ⟨by rw [e]; exact done_set h, e⟩
theorem add_assoc {a b c : List It} (h1 : setI a = 0) (h2 : setI b = 0) (h3 : setI c = 0) (h4 : addE a b = 0) (h5 : addE b c = 0) : addE (addX a b) c = addE a (addX b c) ∧ addX (addX a b) c = addX a (addX b c) := by
  obtain ⟨s1, e1⟩ := add_set h1 h2 h4
  obtain ⟨s2, e2⟩ := add_set h2 h3 h5
  have k : sumL (addX a b ++ c) = sumL (a ++ addX b c) := by
    rw [e1, e2, sumL_app_sumL, sumL_comm a (sumL (b ++ c)), sumL_app_sumL, sumL_comm (b ++ c) a, List.append_assoc]
  have e : addE (addX a b) c = addE a (addX b c) := by rw [addE_sets s1 h3, addE_sets h1 s2, k]
  exact ⟨e, by unfold addX at k ⊢; rw [show addX a b = if addE a b = 0 then sumL (a ++ b) else [] from rfl, show addX b c = if addE b c = 0 then sumL (b ++ c) else [] from rfl] at e; rw [e, k]⟩
end Go.Proofs.YtamlaeocojcgdaaDoor
/- Queries over sets with weights: the plain laws of PlainParts and PlainLinear. No program in sight. -/
namespace Go.Proofs.YtamlaeocojcgdaaDoor
set_option linter.unusedVariables false
set_option linter.unusedSimpArgs false

def wv (s : St) (W : List Int) : Int := if s.kind = 1 then 4 else if s.kind = 3 then (s.list.length : Int) else if s.kind = 4 then W.getD s.a.toNat 0 + W.getD s.b.toNat 0 else if s.kind = 8 ∨ s.kind = 9 then 2 else W.getD s.a.toNat 0
theorem stW_val {s : St} {W : List Int} (h : stW s W ≠ 0) : stW s W = wv s W := by
  unfold stW at h ⊢
  unfold wv
  by_cases h1 : s.kind = 1
  · rw [if_pos h1] at h ⊢
    rw [if_pos h1]
    split at h
    · rename_i e; rw [if_pos e]
    · exact absurd rfl h
  · rw [if_neg h1] at h ⊢
    rw [if_neg h1]
    split at h
    · exact absurd rfl h
    · rename_i e
      rw [if_neg e]
      unfold ofW at h ⊢
      generalize W.getD s.a.toNat 0 = x at *
      generalize W.getD s.b.toNat 0 = y at *
      by_cases k2 : s.kind = 2
      · rw [if_pos k2] at h ⊢
        split at h
        · rename_i e; rw [if_pos e, if_neg (show ¬ s.kind = 3 by omega), if_neg (show ¬ s.kind = 4 by omega), if_neg (show ¬ (s.kind = 8 ∨ s.kind = 9) by omega)]
        · exact absurd rfl h
      · rw [if_neg k2] at h ⊢
        by_cases k3 : s.kind = 3
        · rw [if_pos k3] at h ⊢
          split at h
          · rename_i e; rw [if_pos e, if_pos k3]
          · exact absurd rfl h
        · rw [if_neg k3] at h ⊢
          by_cases k4 : s.kind = 4
          · rw [if_pos k4] at h ⊢
            split at h
            · rename_i e; rw [if_pos e, if_neg (show ¬ s.kind = 3 by omega), if_pos k4]
            · exact absurd rfl h
          · rw [if_neg k4] at h ⊢
            by_cases k5 : s.kind = 5 ∨ s.kind = 6
            · rw [if_pos k5] at h ⊢
              split at h
              · rename_i e; rw [if_pos e, if_neg (show ¬ s.kind = 3 by omega), if_neg (show ¬ s.kind = 4 by omega), if_neg (show ¬ (s.kind = 8 ∨ s.kind = 9) by omega)]
              · exact absurd rfl h
            · rw [if_neg k5] at h ⊢
              by_cases k7 : s.kind = 7
              · rw [if_pos k7] at h ⊢
                split at h
                · rename_i e; rw [if_pos e, if_neg (show ¬ s.kind = 3 by omega), if_neg (show ¬ s.kind = 4 by omega), if_neg (show ¬ (s.kind = 8 ∨ s.kind = 9) by omega)]
                · exact absurd rfl h
              · rw [if_neg k7] at h ⊢
                by_cases k8 : s.kind = 8
                · rw [if_pos k8] at h ⊢
                  split at h
                  · rename_i e; rw [if_pos e, if_neg (show ¬ s.kind = 3 by omega), if_neg (show ¬ s.kind = 4 by omega), if_pos (show s.kind = 8 ∨ s.kind = 9 by omega)]
                  · exact absurd rfl h
                · rw [if_neg k8] at h ⊢
                  by_cases k9 : s.kind = 9
                  · rw [if_pos k9] at h ⊢
                    split at h
                    · rename_i e; rw [if_pos e, if_neg (show ¬ s.kind = 3 by omega), if_neg (show ¬ s.kind = 4 by omega), if_pos (show s.kind = 8 ∨ s.kind = 9 by omega)]
                    · exact absurd rfl h
                  · rw [if_neg k9] at h; exact absurd rfl h
/-! the first steps alone -/
/-! what is linear -/
end Go.Proofs.YtamlaeocojcgdaaDoor
