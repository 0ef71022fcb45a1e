/- DotO, DotP, DotQ, DotR -/
import Derived.Test.YtogegnikpjcpdaaCk02
import Derived.Deep.AppendLies
import Derived.Deep.RegionHeld3
/- dot.packed: what it computes, step by step (no program in sight but for the words), and its walk. -/
namespace Go.Proofs.Ytogegnikpjcpdaa
set_option linter.unusedVariables false
open Go.ChangeShapes Go.WideShapes Go.ChangeAt Go.RowKit

def Ctx.inc (c : Ctx) (n : Int) : Ctx :=
  if n = 0 then { c with c0 := c.c0 + 1 } else if n = 1 then { c with c1 := c.c1 + 1 } else if n = 2 then { c with c2 := c.c2 + 1 } else { c with c3 := c.c3 + 1 }
def packStep (c : Ctx) (d : Int × Int) : Ctx :=
  if d.2 ≤ c.at_ d.1 then c else if d.2 = c.at_ d.1 + 1 then c.inc d.1 else { c with cloud := c.cloud ++ [d] }
def packL (c0 c1 c2 c3 : Int) (l : List (Int × Int)) : Ctx := (cpt (l.mergeSort dotLe)).foldl packStep ⟨c0, c1, c2, c3, []⟩

def clkIn (c : Ctx) : Prop := (0 ≤ c.c0 ∧ c.c0 ≤ 1099511627776) ∧ (0 ≤ c.c1 ∧ c.c1 ≤ 1099511627776) ∧ (0 ≤ c.c2 ∧ c.c2 ≤ 1099511627776) ∧ (0 ≤ c.c3 ∧ c.c3 ≤ 1099511627776)
theorem at_in {c : Ctx} (h : clkIn c) (n : Int) : 0 ≤ c.at_ n ∧ c.at_ n ≤ 1099511627776 := by
  obtain ⟨h0, h1, h2, h3⟩ := h
  unfold Ctx.at_
  split <;> (try split) <;> (try split) <;> omega
theorem packStep_in {c : Ctx} {d : Int × Int} (h : clkIn c) (hd : rightB d.1 d.2 = true) : clkIn (packStep c d) := by
  have hR : 0 ≤ d.1 ∧ d.1 < 4 ∧ 1 ≤ d.2 ∧ d.2 ≤ 1099511627776 := by simpa [rightB, and_assoc] using hd
  have ha := at_in h d.1
  unfold packStep
  split
  · exact h
  · split
    · obtain ⟨h0, h1, h2, h3⟩ := h
      rename_i q1 q2
      unfold Ctx.inc
      unfold Ctx.at_ at q2
      split
      · rename_i e; rw [if_pos e] at q2; exact ⟨by dsimp only; omega, h1, h2, h3⟩
      · rename_i e; rw [if_neg e] at q2
        split
        · rename_i e; rw [if_pos e] at q2; exact ⟨h0, by dsimp only; omega, h2, h3⟩
        · rename_i e; rw [if_neg e] at q2
          split
          · rename_i e; rw [if_pos e] at q2; exact ⟨h0, h1, by dsimp only; omega, h3⟩
          · rename_i e; rw [if_neg e] at q2; exact ⟨h0, h1, h2, by dsimp only; omega⟩
    · exact h

theorem cpt_mem : ∀ (l : List (Int × Int)) (d : Int × Int), d ∈ cpt l ↔ d ∈ l
  | [], d => by simp [cpt]
  | [a], d => by simp [cpt]
  | a :: b :: r, d => by
    have ih := cpt_mem (b :: r) d
    rw [cpt]
    split
    · rename_i h; subst h; rw [ih]; simp
    · simp only [List.mem_cons] at ih ⊢; rw [ih]

theorem cpt_length (l : List (Int × Int)) : (cpt l).length ≤ l.length := by
  induction l with
  | nil => simp [cpt]
  | cons a r ih =>
    cases r with
    | nil => simp [cpt]
    | cons b r => rw [cpt]; split <;> simp at ih ⊢ <;> omega

/-- The cells of a context's block, behind one more at a node's clock. -/
theorem inc_cells (c : Ctx) (n : Int) (h0 : 0 ≤ n) (h4 : n < 4) (v : Value) :
    (#[.int .i64 c.c0, .int .i64 c.c1, .int .i64 c.c2, .int .i64 c.c3, v] : Array Value).setIfInBounds n.toNat (.int .i64 (c.at_ n + 1)) = #[.int .i64 (c.inc n).c0, .int .i64 (c.inc n).c1, .int .i64 (c.inc n).c2, .int .i64 (c.inc n).c3, v] := by
  rcases (by omega : n = 0 ∨ n = 1 ∨ n = 2 ∨ n = 3) with h | h | h | h <;> subst h <;> rfl
theorem inc_cloud (c : Ctx) (n : Int) : (c.inc n).cloud = c.cloud := by
  unfold Ctx.inc
  split <;> (try split) <;> (try split) <;> rfl
theorem at_cell (c : Ctx) (n : Int) (h0 : 0 ≤ n) (h4 : n < 4) (v : Value) : (#[.int .i64 c.c0, .int .i64 c.c1, .int .i64 c.c2, .int .i64 c.c3, v] : Array Value)[n.toNat]? = some (.int .i64 (c.at_ n)) := by
  rcases (by omega : n = 0 ∨ n = 1 ∨ n = 2 ∨ n = 3) with h | h | h | h <;> subst h <;> rfl
end Go.Proofs.Ytogegnikpjcpdaa
/- dot.packed: the walk. -/
namespace Go.Proofs.Ytogegnikpjcpdaa
set_option linter.unusedVariables false
open Go.ChangeShapes Go.WideShapes Go.ChangeAt Go.RowKit

/-- A row that lies at no block below a bound. -/
def NewAt (lo : Nat) (A : Option Addr) : Prop := ∀ b off q, A = some ⟨b, off, q⟩ → lo ≤ b

def CtxPost (c : Ctx) (w : World) (e : Ending) (w' : World) : Prop :=
  ∃ A k, e = .returned (cval c A k) ∧ Row w' w'.heap.size A (dcells c.cloud) ∧ Below w.heap.size w w' ∧ NewAt w.heap.size A

theorem Row.of_own {w : World} {B n c : Nat} {T : TypeId} {A : Option Addr} {xs : List Value} (h : w.ownsRow B T 2 (.slice A n c) n xs) : Row w w.heap.size A xs := by
  rcases h.2 with ⟨h', h0⟩ | ⟨g, cap, cur, h', hb, hg, hnc, hcm, hcs, htake⟩
  · have : xs = [] := List.eq_nil_of_length_eq_zero (by rw [h.1, h0])
    exact .inl this
  · injection h' with h1 h2 h3
    subst h1
    have hlt : g < w.heap.size := by
      rcases Nat.lt_or_ge g w.heap.size with h | h
      · exact h
      · rw [Array.getElem?_eq_none h] at hg; cases hg
    refine .inr ⟨g, 0, rfl, hlt, fun j u hu => ?_⟩
    have := h.cells (g := g) rfl j u hu
    rwa [add_none] at this

theorem own_form {w : World} {B n : Nat} {T : TypeId} {v : Value} {xs : List Value} (h : w.ownsRow B T 2 v n xs) : ∃ A c, v = .slice A n c := by
  rcases h.2 with ⟨rfl, rfl⟩ | ⟨g, cap, cur, rfl, _⟩
  · exact ⟨none, 0, rfl⟩
  · exact ⟨_, _, rfl⟩

theorem own_new {w : World} {B B' n c : Nat} {T : TypeId} {A : Option Addr} {xs : List Value} (h : w.ownsRow B T 2 (.slice A n c) n xs) (hB : B' ≤ B) : NewAt B' A := by
  intro b off q e
  subst e
  exact Nat.le_trans hB (h.lt b (by
    rcases h.2 with ⟨h', _⟩ | ⟨g, cap, cur, h', _⟩
    · cases h'
    · injection h' with h1; injection h1 with h1; injection h1 with h1 h2 h3; subst h1 h2 h3; rfl)).1

theorem Row.setCell_new {w : World} {B lo : Nat} {A : Option Addr} {xs : List Value} (h : Row w B A xs) (hn : NewAt lo A) {a : Addr} (ha : a.block < lo) (v : Value) : Row (w.setCell a v) B A xs := by
  rcases h with h | ⟨b, off, h1, h2, h3⟩
  · exact .inl h
  · have hb := hn b off none h1
    refine .inr ⟨b, off, h1, h2, fun j u hu => ?_⟩
    rw [← h3 j u hu]
    unfold World.cell?
    rw [Below.heap_setCell w a v b (by omega)]

theorem Row.of_own_lt {w : World} {B n c P : Nat} {T : TypeId} {A : Option Addr} {xs : List Value} (h : w.ownsRow B T 2 (.slice A n c) n xs) (hlt : ∀ g, (Value.slice A n c).ownBlock = some g → g < P) : Row w P A xs := by
  rcases Row.of_own h with h1 | ⟨b, off, h1, h2, h3⟩
  · exact .inl h1
  · subst h1
    exact .inr ⟨b, off, rfl, hlt b rfl, h3⟩

theorem news_new (w : World) (n s : Int) (T : TypeId) (H : Nat) (hH : w.heap.size = H) : ∀ j u, (dcells [(n, s)])[j]? = some u → (w.alloc (.cells #[.int .i64 n, .int .i64 s] T)).cell? ((⟨H, 0, none⟩ : Addr).add j) = some u := by
  intro j u hu
  subst hH
  rw [add_none, Nat.zero_add, cell_of_row _ _ j _ _ _ (heap_alloc_new w _)]
  simpa using hu

set_option maxHeartbeats 2000000 in
set_option maxRecDepth 100000 in
theorem packed_any (c0 c1 c2 c3 : Int) (l : List (Int × Int)) (A : Option Addr) (k0 : Nat) (w : World) (hr : Row w w.heap.size A (dcells l)) (hl : l.length ≤ 4096) (hc : clkIn ⟨c0, c1, c2, c3, []⟩) (hright : ∀ d ∈ l, rightB d.1 d.2 = true) :
    Calls Try.prog 64 #[clkv c0 c1 c2 c3, .slice A l.length k0] w (CtxPost (packL c0 c1 c2 c3 l) w) := by
  have HC := hid hc
  have HRT := hid hright
  have hr2 : Row ((w.alloc (.cells #[.int .i64 c0, .int .i64 c1, .int .i64 c2, .int .i64 c3] 22)).alloc (.cells #[.int .i64 0, .int .i64 0, .int .i64 0, .int .i64 0, .slice none 0 0] 25)) (w.heap.size + 2) A (dcells l) :=
    (hr.below (Below.alloc (Below.alloc (Below.refl _ _) (Nat.le_refl _) _) (by simp) _) (Nat.le_refl _)).more (by omega)
  have HR2 := hid hr2
  clear hc hright hr hr2
  obtain ⟨i0, hi0, hz0, hz1, hz2⟩ := info_parts info_dot
  simp only [clkv] at *
  go_enter Try.func64, Try.ntmps64
  go_wp2_with fail
  refine (clone_any l A k0 _ (by simpa using HR2.out) (by omega)).mono ?_
  rintro e w1 ⟨v1, rfl, hown1, hb1⟩
  simp at hown1 hb1
  go_wp2_with fail
  refine (sort_own l _ hown1 (by omega)).mono ?_
  rintro e w2 ⟨rfl, hown2, hg2⟩
  have b2 := hb1.grown hg2 (by have := hb1.size; simp at this; omega) (fun g hg => (hown1.lt g hg).1)
  have hlt1 : ∀ g, v1.ownBlock = some g → g < w2.heap.size := fun g hg => Nat.lt_of_lt_of_le (hown1.lt g hg).2 hg2.size
  have hs2 : w.heap.size + 1 + 1 ≤ w2.heap.size := by have := b2.size; simp at this; omega
  have k0 : w2.cell? ⟨w.heap.size, 0, none⟩ = some (.int .i64 c0) := by rw [(bcell b2).1 _ _ (by omega)]; simp [go_sem]
  have k1 : w2.cell? ⟨w.heap.size, 1, none⟩ = some (.int .i64 c1) := by rw [(bcell b2).1 _ _ (by omega)]; simp [go_sem]
  have k2 : w2.cell? ⟨w.heap.size, 2, none⟩ = some (.int .i64 c2) := by rw [(bcell b2).1 _ _ (by omega)]; simp [go_sem]
  have k3 : w2.cell? ⟨w.heap.size, 3, none⟩ = some (.int .i64 c3) := by rw [(bcell b2).1 _ _ (by omega)]; simp [go_sem]
  have hsl : (l.mergeSort dotLe).length = l.length := by simp
  rw [← hsl] at hown2
  have B2 := hid b2
  have H2 := hid hown2
  have HL1 := hid hlt1
  have HO1 := hid hown1
  clear b2 hown2 hb1 hg2 hown1 hlt1
  go_wp2_with fail
  refine (compact_own (l.mergeSort dotLe) _ (H2.out.alloc _) (by omega)).mono ?_
  rintro e w4 ⟨v2, rfl, hown4, hg4, hv2⟩
  obtain ⟨A2, k4, rfl⟩ := own_form hown4
  clear k0 k1 k2 k3
  have hmr : ∀ d ∈ cpt (l.mergeSort dotLe), rightB d.1 d.2 = true := fun d hd => HRT.out d (List.mem_mergeSort.1 ((cpt_mem _ _).1 hd))
  have hml : (cpt (l.mergeSort dotLe)).length ≤ 4096 := by have := cpt_length (l.mergeSort dotLe); omega
  have hpk : packL c0 c1 c2 c3 l = (cpt (l.mergeSort dotLe)).foldl packStep ⟨c0, c1, c2, c3, []⟩ := rfl
  rw [hpk]
  generalize cpt (l.mergeSort dotLe) = m at *
  have hrow : Row w4 w2.heap.size A2 (dcells m) := Row.of_own_lt hown4 (fun g hg => HL1.out g (by rw [hv2] at hg; exact hg))
  have hPne : some w2.heap.size ≠ v1.ownBlock := fun e => by have := HL1.out _ e.symm; omega
  have hP4 : w4.heap[w2.heap.size]? = some (.cells #[.int .i64 c0, .int .i64 c1, .int .i64 c2, .int .i64 c3, .slice none 0 0] 25 (0, 0)) :=
    (hg4.block w2.heap.size (by simp) hPne).trans (heap_alloc_new w2 _)
  have hb4 : Below w.heap.size w w4 := (Below.trans (b := (w.alloc _).alloc _) (by (repeat' (first | (with_reducible exact Below.refl _ _) | (with_reducible assumption) | (with_reducible refine below_drewN ?_ _) | (with_reducible refine Below.drew ?_) | (with_reducible refine Below.alloc ?_ ?_ _) | (with_reducible refine Below.setCell ?_ ?_ _) | (refine Below.trans ?_ (Below.mono (by assumption) ?_)) | go_size))) (B2.out.mono (by omega))).trans
    (((Below.refl w.heap.size w2).alloc (by omega) _).grown hg4 (by simp; omega) (fun g hg => by have := (HO1.out.lt g hg).1; omega))
  have hsz4 : w2.heap.size < w4.heap.size := by have := hg4.size; simp at this; omega
  have HP4 := hid hP4
  have HPK := hid hpk
  have HB4 := hid hb4
  have HROW := hid hrow
  have HMR := hid hmr
  have hr4 : w4.heap[w.heap.size + 1]? = some (.cells #[.int .i64 0, .int .i64 0, .int .i64 0, .int .i64 0, .slice none 0 0] 25 (0, 0)) := by
    refine (hg4.block (w.heap.size + 1) (by simp; omega) (fun e => by have := (HO1.out.lt _ e.symm).1; omega)).trans ?_
    refine (Below.heap_alloc w2 _ _ (by omega)).trans ?_
    refine (B2.out.block _ (by omega)).trans ?_
    have := heap_alloc_new (w.alloc (.cells #[.int .i64 c0, .int .i64 c1, .int .i64 c2, .int .i64 c3] 22)) (.cells #[.int .i64 0, .int .i64 0, .int .i64 0, .int .i64 0, .slice none 0 0] 25)
    simpa using this
  have HR4 := hid hr4
  clear hr4 hmr hpk hrow hPne hP4 hb4 hown4 hg4 hv2 hsl
  go_wp2
  generalize hPe : w2.heap.size = P at *
  clear hPe
  go_loopw [18] (fun s18 wr => ∃ (k kk : Nat) (c : Ctx) (A' : Option Addr), k ≤ m.length ∧ s18 = .int .i64 k ∧ c = (m.take k).foldl packStep ⟨c0, c1, c2, c3, []⟩ ∧ clkIn c ∧ c.cloud.length ≤ k ∧
      wr.heap[P]? = some (.cells #[.int .i64 c.c0, .int .i64 c.c1, .int .i64 c.c2, .int .i64 c.c3, .slice A' c.cloud.length kk] 25 (0, 0)) ∧
      wr.ownsRow (P + 1) 27 2 (.slice A' c.cloud.length kk) c.cloud.length (dcells c.cloud) ∧ Below P w4 wr ∧ P < wr.heap.size) (fun s18 _ => m.length - (intOf s18).toNat)
  case atStart => exact ⟨0, 0, ⟨c0, c1, c2, c3, []⟩, none, by omega, rfl, by simp, HC.out, by simp, HP4.out, World.ownsRow_nil _ _ _ _, Below.refl _ _, hsz4⟩
  case round =>
    obtain ⟨k, kk, c, A', hk, rfl, hce, hcin, hcl, hP, how, hbw, hszr⟩ := hrel
    have HCE := hid hce
    have HP := hid hP
    have HOW := hid how
    have HBW := hid hbw
    by_cases hlt : k < m.length
    · obtain ⟨b, off, rfl, hb, h0, h1⟩ := (HROW.out.below hbw (Nat.le_refl _)).dot hlt
      have hrt := HMR.out m[k] (List.getElem_mem _)
      have htk := List.take_succ_eq_append_getElem hlt
      generalize hd : m[k] = d at *
      obtain ⟨n, s⟩ := d
      have hR : 0 ≤ n ∧ n < 4 ∧ 1 ≤ s ∧ s ≤ 1099511627776 := by simpa [rightB, and_assoc] using hrt
      obtain ⟨n0, n4, s0, s1⟩ := hR
      have en : wr.cell? ⟨P, n.toNat, none⟩ = some (.int .i64 (c.at_ n)) := by rw [cell_of_row wr P n.toNat _ _ _ hP, at_cell c n n0 n4]
      have fn : wr.frozen? ⟨P, n.toNat, none⟩ = false := by simp [World.frozen?, hP]
      have e4 : wr.cell? ⟨P, 4, none⟩ = some (.slice A' c.cloud.length kk) := by rw [cell_of_row wr P 4 _ _ _ hP]; rfl
      have f4 : wr.frozen? ⟨P, 4, none⟩ = false := by simp [World.frozen?, hP]
      have ha := at_in hcin n
      have HTK := hid htk
      have HCIN := hid hcin
      have HST := hid (packStep_in hcin hrt)
      clear hce hcin hP how hbw hd hrt htk
      obtain ⟨a0, a1⟩ := ha
      have hb2 : b < wr.heap.size := by omega
      have hb3 : b < wr.heap.size + 1 := by omega
      have hne1 : (P = wr.heap.size) = False := by simp; omega
      have zw : IntKind.i64.wrap (c.at_ n + 1) = c.at_ n + 1 := IntWalk.i64_in _ (by omega)
      simp only at h0 h1
      generalize hat : c.at_ n = a at *
      have HAT := hid hat
      clear hat
      by_cases q1 : s ≤ a
      · go_wp2
        go_roundw
        case rel =>
          refine ⟨k + 1, kk, c, A', by omega, by go_num, ?_, HCIN.out, by omega, (Below.heap_alloc wr _ P hszr).trans HP.out, HOW.out.alloc _, by have := HBW.out; (repeat' (first | (with_reducible exact Below.refl _ _) | (with_reducible assumption) | (with_reducible refine below_drewN ?_ _) | (with_reducible refine Below.drew ?_) | (with_reducible refine Below.alloc ?_ ?_ _) | (with_reducible refine Below.setCell ?_ ?_ _) | (refine Below.trans ?_ (Below.mono (by assumption) ?_)) | go_size)), by simp; omega⟩
          rw [HTK.out, List.foldl_append, ← HCE.out]
          simp only [List.foldl_cons, List.foldl_nil, packStep]
          rw [if_pos (by rw [HAT.out]; exact q1)]
        case measure => simp [intOf]; omega
      · by_cases q2 : s = a + 1
        · have q3 : (s == a + 1) = true := by simp [q2]
          have Q2 := hid q2
          have q4 : ¬ (s ≤ a) := q1
          clear q2
          go_wp2
          go_roundw
          case rel =>
            refine ⟨k + 1, kk, c.inc n, A', by omega, by go_num, ?_, ?_, by rw [inc_cloud]; omega, ?_, ?_, ?_, by simp; omega⟩
            · rw [HTK.out, List.foldl_append, ← HCE.out]
              simp only [List.foldl_cons, List.foldl_nil, packStep]
              rw [if_neg (by rw [HAT.out]; exact q4), if_pos (by rw [HAT.out]; exact Q2.out)]
            · have := HST.out
              simp only [packStep] at this
              rwa [if_neg (by rw [HAT.out]; exact q4), if_pos (by rw [HAT.out]; exact Q2.out)] at this
            · have e := heap_setCell_same wr P n.toNat _ _ (.int .i64 (a + 1)) HP.out
              have e2 := inc_cells c n n0 n4 (.slice A' c.cloud.length kk)
              rw [HAT.out] at e2
              rw [e2] at e
              rw [inc_cloud]
              exact (Below.heap_alloc _ _ P (by simp; omega)).trans e
            · rw [inc_cloud]
              exact (ownsRow_setCell_below HOW.out (Nat.lt_succ_self P) _).alloc _
            · have := HBW.out
              (repeat' (first | (with_reducible exact Below.refl _ _) | (with_reducible assumption) | (with_reducible refine below_drewN ?_ _) | (with_reducible refine Below.drew ?_) | (with_reducible refine Below.alloc ?_ ?_ _) | (with_reducible refine Below.setCell ?_ ?_ _) | (refine Below.trans ?_ (Below.mono (by assumption) ?_)) | go_size))
          case measure => simp [intOf]; omega
        · have q3 : (s == a + 1) = false := by simp [q2]
          clear q2
          have hob : ∀ g, (Value.slice A' c.cloud.length kk).ownBlock = some g → P + 1 ≤ g := fun g hg => (HOW.out.lt g hg).1
          have HOB := hid hob
          clear hob
          go_wp2_with (at_builtin; refine wpList_append_lies _ rfl _ _ 23 rfl (P + 1) 27 i0 _ 2 16 Try.underlying23 hi0 hz0 hz1 hz2 rfl (by decide) (.slice A' c.cloud.length kk) c.cloud.length (dcells c.cloud) rfl ((HOW.out.alloc _).alloc _) ⟨wr.heap.size + 1, 0, none⟩ 1 1 (dcells [(n, s)]) rfl rfl (news_new _ n s _ _ (by simp)) (dcells_one _) (by decide) ?_ ?_ ?_ (wr.heap.size + 1 + 1) (by simp) ?_; rotate_right; intro g5 cap5 w5 hown5 hg5 hat5 hlt5; have hP5 := (hg5.block P (by simp; omega) (fun e => by have := HOB.out _ e.symm; omega)).trans ((Below.heap_alloc _ _ P (by simp; omega)).trans ((Below.heap_alloc wr _ P hszr).trans HP.out)); have e5 : w5.cell? ⟨P, 4, none⟩ = some (.slice A' c.cloud.length kk) := (cell_of_row w5 P 4 _ _ _ hP5).trans rfl; have f5 : w5.frozen? ⟨P, 4, none⟩ = false := frozen_of_row w5 P 4 _ _ hP5; have HP5 := hid hP5; clear hP5; rotate_left; (simp only [maxLen]; omega); (omega); (simp; omega))
          go_roundw
          case rel =>
            have e5 := heap_setCell_same w5 P 4 _ _ (.slice (some ⟨g5, 0, none⟩) (c.cloud.length + 1) cap5) HP5.out
            refine ⟨k + 1, cap5, { c with cloud := c.cloud ++ [(n, s)] }, some ⟨g5, 0, none⟩, by omega, by go_num, ?_, HCIN.out, by simp; omega, ?_, ?_, ?_, ?_⟩
            · rw [HTK.out, List.foldl_append, ← HCE.out]
              simp only [List.foldl_cons, List.foldl_nil, packStep]
              rw [if_neg (by rw [HAT.out]; exact q1), if_neg (by rw [HAT.out]; simpa using q3)]
            · simpa using e5
            · have e6 := ownsRow_setCell_below hown5 (a := ⟨P, 4, none⟩) (Nat.lt_succ_self P) (.slice (some ⟨g5, 0, none⟩) (c.cloud.length + 1) cap5)
              simpa [dcells] using e6
            · have hB := HBW.out
              have hB5 : Below P w4 w5 := (((hB.alloc (by omega) _).alloc (by simp; omega) _).grown hg5 (by simp; omega) (fun g hg => by have := HOB.out g hg; omega))
              exact hB5.setCell (Nat.le_refl _) _
            · have := hg5.size; simp at this ⊢; omega
          case measure => simp [intOf]; omega
    · have hkm : k = m.length := by omega
      have hfin : c = m.foldl packStep ⟨c0, c1, c2, c3, []⟩ := by rw [hce, hkm, List.take_length]
      have HF := hid hfin
      have e0 : wr.cell? ⟨P, 0, none⟩ = some (.int .i64 c.c0) := (cell_of_row wr P 0 _ _ _ hP).trans rfl
      have e1 : wr.cell? ⟨P, 1, none⟩ = some (.int .i64 c.c1) := (cell_of_row wr P 1 _ _ _ hP).trans rfl
      have e2 : wr.cell? ⟨P, 2, none⟩ = some (.int .i64 c.c2) := (cell_of_row wr P 2 _ _ _ hP).trans rfl
      have e3 : wr.cell? ⟨P, 3, none⟩ = some (.int .i64 c.c3) := (cell_of_row wr P 3 _ _ _ hP).trans rfl
      have e4 : wr.cell? ⟨P, 4, none⟩ = some (.slice A' c.cloud.length kk) := (cell_of_row wr P 4 _ _ _ hP).trans rfl
      have hR := (hbw.block (w.heap.size + 1) (by omega)).trans HR4.out
      have r0 : wr.cell? ⟨w.heap.size + 1, 0, none⟩ = some (.int .i64 0) := (cell_of_row wr _ 0 _ _ _ hR).trans rfl
      have r1 : wr.cell? ⟨w.heap.size + 1, 1, none⟩ = some (.int .i64 0) := (cell_of_row wr _ 1 _ _ _ hR).trans rfl
      have r2 : wr.cell? ⟨w.heap.size + 1, 2, none⟩ = some (.int .i64 0) := (cell_of_row wr _ 2 _ _ _ hR).trans rfl
      have r3 : wr.cell? ⟨w.heap.size + 1, 3, none⟩ = some (.int .i64 0) := (cell_of_row wr _ 3 _ _ _ hR).trans rfl
      have r4 : wr.cell? ⟨w.heap.size + 1, 4, none⟩ = some (.slice none 0 0) := (cell_of_row wr _ 4 _ _ _ hR).trans rfl
      have f0 := fun j => frozen_of_row wr (w.heap.size + 1) j _ _ hR
      have HRR := hid hR
      clear hce hkm hfin hcin hP how hbw hR
      go_wp2
      have hq := HPK.out.trans HF.out.symm
      have hle : w.heap.size + 1 < P + 1 := by omega
      have hle2 : w.heap.size ≤ w.heap.size + 1 := by omega
      have hW := heap_setCell_same _ (w.heap.size + 1) 4 _ _ (.slice A' c.cloud.length kk) (heap_setCell_same _ (w.heap.size + 1) 3 _ _ (.int .i64 c.c3) (heap_setCell_same _ (w.heap.size + 1) 2 _ _ (.int .i64 c.c2) (heap_setCell_same _ (w.heap.size + 1) 1 _ _ (.int .i64 c.c1) (heap_setCell_same wr (w.heap.size + 1) 0 _ _ (.int .i64 c.c0) HRR.out))))
      have hO := ownsRow_setCell_below (ownsRow_setCell_below (ownsRow_setCell_below (ownsRow_setCell_below (ownsRow_setCell_below HOW.out (a := ⟨w.heap.size + 1, 0, none⟩) hle (.int .i64 c.c0)) (a := ⟨w.heap.size + 1, 1, none⟩) hle (.int .i64 c.c1)) (a := ⟨w.heap.size + 1, 2, none⟩) hle (.int .i64 c.c2)) (a := ⟨w.heap.size + 1, 3, none⟩) hle (.int .i64 c.c3)) (a := ⟨w.heap.size + 1, 4, none⟩) hle (.slice A' c.cloud.length kk)
      have hB := ((((((HB4.out.trans (HBW.out.mono (by omega))).setCell (p := ⟨w.heap.size + 1, 0, none⟩) hle2 (.int .i64 c.c0)).setCell (p := ⟨w.heap.size + 1, 1, none⟩) hle2 (.int .i64 c.c1)).setCell (p := ⟨w.heap.size + 1, 2, none⟩) hle2 (.int .i64 c.c2)).setCell (p := ⟨w.heap.size + 1, 3, none⟩) hle2 (.int .i64 c.c3)).setCell (p := ⟨w.heap.size + 1, 4, none⟩) hle2 (.slice A' c.cloud.length kk))
      generalize ((((wr.setCell ⟨w.heap.size + 1, 0, none⟩ (.int .i64 c.c0)).setCell ⟨w.heap.size + 1, 1, none⟩ (.int .i64 c.c1)).setCell ⟨w.heap.size + 1, 2, none⟩ (.int .i64 c.c2)).setCell ⟨w.heap.size + 1, 3, none⟩ (.int .i64 c.c3)).setCell ⟨w.heap.size + 1, 4, none⟩ (.slice A' c.cloud.length kk) = W5 at *
      have q0 : W5.cell? ⟨w.heap.size + 1, 0, none⟩ = some (.int .i64 c.c0) := (cell_of_row W5 _ 0 _ _ _ hW).trans rfl
      have q1 : W5.cell? ⟨w.heap.size + 1, 1, none⟩ = some (.int .i64 c.c1) := (cell_of_row W5 _ 1 _ _ _ hW).trans rfl
      have q2 : W5.cell? ⟨w.heap.size + 1, 2, none⟩ = some (.int .i64 c.c2) := (cell_of_row W5 _ 2 _ _ _ hW).trans rfl
      have q3 : W5.cell? ⟨w.heap.size + 1, 3, none⟩ = some (.int .i64 c.c3) := (cell_of_row W5 _ 3 _ _ _ hW).trans rfl
      have q4 : W5.cell? ⟨w.heap.size + 1, 4, none⟩ = some (.slice A' c.cloud.length kk) := (cell_of_row W5 _ 4 _ _ _ hW).trans rfl
      refine bodyPost_ret (v := cval c A' kk) (by simp [results, Try.results64, go_sem, q0, q1, q2, q3, q4]) rfl ⟨A', kk, by rw [hq], ?_, hB, own_new hO (by omega)⟩
      rw [hq]
      exact Row.of_own hO
end Go.Proofs.Ytogegnikpjcpdaa
/- viewref.Packed: what it computes is what dot.packed computes. No program in sight. -/
namespace Go.Proofs.Ytogegnikpjcpdaa
set_option linter.unusedVariables false

def refStep (c : Ctx) (d : Int × Int) : Ctx :=
  if hasB c d = true then c else if d.2 = c.at_ d.1 + 1 then c.inc d.1 else { c with cloud := c.cloud ++ [d] }

theorem before_total (a b : Int × Int) (h1 : before a b = false) (h2 : before b a = false) : a = b := by
  simp [before] at h1 h2
  ext <;> omega
theorem dotLe_trans (a b c : Int × Int) (h1 : dotLe a b = true) (h2 : dotLe b c = true) : dotLe a c = true := by
  simp [dotLe, before] at *
  omega
theorem dotLe_total (a b : Int × Int) : (dotLe a b || dotLe b a) = true := by
  simp [dotLe, before]
  omega
theorem sorted_sort (l : List (Int × Int)) : (l.mergeSort dotLe).Pairwise (fun a b => dotLe a b = true) := List.pairwise_mergeSort dotLe_trans dotLe_total l

theorem sorted_eq {l m : List (Int × Int)} (hp : l.Perm m) (hl : l.Pairwise (fun a b => dotLe a b = true)) (hm : m.Pairwise (fun a b => dotLe a b = true)) : l = m :=
  hp.eq_of_pairwise (le := fun a b => dotLe a b = true) (fun a b _ _ h1 h2 => by
    simp only [dotLe, Bool.not_eq_true'] at h1 h2
    exact (before_total a b h2 h1)) hl hm

theorem sort_min {l : List (Int × Int)} {k : Nat} (hk : k < l.length) (hmin : ∀ x ∈ l, before x l[k] = false) : l.mergeSort dotLe = l[k] :: (l.take k ++ l.drop (k + 1)).mergeSort dotLe := by
  apply sorted_eq
  · refine (List.mergeSort_perm _ _).trans ?_
    have h : l.Perm (l[k] :: (l.take k ++ l.drop (k + 1))) := by
      have e : l = l.take k ++ l[k] :: l.drop (k + 1) := by rw [← List.drop_eq_getElem_cons hk, List.take_append_drop]
      conv => lhs; rw [e]
      exact List.perm_middle
    exact h.trans ((List.mergeSort_perm _ _).symm.cons _)
  · exact sorted_sort l
  · refine List.pairwise_cons.2 ⟨fun x hx => ?_, sorted_sort _⟩
    have hx2 : x ∈ l := by
      have := (List.mem_mergeSort.1 hx)
      rcases List.mem_append.1 this with h | h
      · exact List.mem_of_mem_take h
      · exact List.mem_of_mem_drop h
    simp [dotLe, hmin x hx2]

theorem has_inc {c : Ctx} {n : Int} (h0 : 0 ≤ n) (h4 : n < 4) : (c.inc n).at_ n = c.at_ n + 1 := by
  rcases (by omega : n = 0 ∨ n = 1 ∨ n = 2 ∨ n = 3) with h | h | h | h <;> subst h <;> simp [Ctx.inc, Ctx.at_]

theorem refStep_has {c : Ctx} {d : Int × Int} (hd : rightB d.1 d.2 = true) : hasB (refStep c d) d = true := by
  have hR : 0 ≤ d.1 ∧ d.1 < 4 ∧ 1 ≤ d.2 ∧ d.2 ≤ 1099511627776 := by simpa [rightB, and_assoc] using hd
  unfold refStep
  split
  · assumption
  · split
    · rename_i h
      rw [hasB, decide_eq_true_eq]
      exact Or.inl ⟨hR.1, hR.2.1, hR.2.2.1, by rw [has_inc hR.1 hR.2.1]; omega⟩
    · simp [hasB, Ctx.has]

theorem refStep_same {c : Ctx} {d : Int × Int} (h : hasB c d = true) : refStep c d = c := by simp [refStep, h]

theorem ref_pack {c : Ctx} {d : Int × Int} (hd : rightB d.1 d.2 = true) (hn : d ∉ c.cloud) : refStep c d = packStep c d := by
  have hR : 0 ≤ d.1 ∧ d.1 < 4 ∧ 1 ≤ d.2 ∧ d.2 ≤ 1099511627776 := by simpa [rightB, and_assoc] using hd
  unfold refStep packStep
  by_cases h : d.2 ≤ c.at_ d.1
  · rw [if_pos (by simp [hasB, Ctx.has, h, hR]), if_pos h]
  · rw [if_neg (by simp [hasB, Ctx.has, hn]; omega), if_neg h]

theorem pack_cloud {c : Ctx} {d x : Int × Int} (h : x ∈ (packStep c d).cloud) : x ∈ c.cloud ∨ x = d := by
  unfold packStep at h
  split at h
  · exact .inl h
  · split at h
    · rw [inc_cloud] at h; exact .inl h
    · simpa using h

theorem ref_fold : ∀ (l : List (Int × Int)) (c : Ctx), l.Pairwise (fun a b => dotLe a b = true) → (∀ d ∈ l, rightB d.1 d.2 = true) → (∀ x ∈ c.cloud, ∀ d ∈ l, before x d = true) → l.foldl refStep c = (cpt l).foldl packStep c
  | [], c, _, _, _ => rfl
  | [a], c, _, hr, hc => by
    simp only [cpt, List.foldl_cons, List.foldl_nil]
    exact ref_pack (hr a (by simp)) fun h => by have := hc a h a (by simp); simp [before] at this
  | a :: b :: r, c, hs, hr, hc => by
    have hs2 := (List.pairwise_cons.1 hs).2
    have hna : a ∉ c.cloud := fun h => by have := hc a h a (by simp); simp [before] at this
    rw [cpt]
    split
    · rename_i e
      subst e
      rw [← ref_fold (a :: r) c hs2 (fun d hd => hr d (List.mem_cons_of_mem _ hd)) (fun x hx d hd => hc x hx d (List.mem_cons_of_mem _ hd))]
      simp only [List.foldl_cons]
      rw [refStep_same (c := refStep c a) (refStep_has (hr a (by simp)))]
    · rename_i e
      rw [List.foldl_cons, List.foldl_cons, ref_pack (hr a (by simp)) hna]
      refine ref_fold (b :: r) _ hs2 (fun d hd => hr d (List.mem_cons_of_mem _ hd)) fun x hx d hd => ?_
      rcases pack_cloud hx with h | h
      · exact hc x h d (List.mem_cons_of_mem _ hd)
      · subst h
        have h1 := (List.pairwise_cons.1 hs).1 b (by simp)
        have h2 : dotLe b d = true := by
          rcases List.mem_cons.1 hd with h | h
          · subst h; simp [dotLe, before]
          · exact (List.pairwise_cons.1 hs2).1 d h
        have h3 : before x b = true := by
          cases hq : before x b
          · simp only [dotLe, Bool.not_eq_true'] at h1
            exact absurd (before_total x b hq h1) e
          · rfl
        simp [dotLe, before] at h2 h3 ⊢
        omega

/-- The selection's order and the sort's give one context. -/
theorem ref_packL (c0 c1 c2 c3 : Int) (l : List (Int × Int)) (hr : ∀ d ∈ l, rightB d.1 d.2 = true) : (l.mergeSort dotLe).foldl refStep ⟨c0, c1, c2, c3, []⟩ = packL c0 c1 c2 c3 l :=
  ref_fold _ _ (sorted_sort l) (fun d hd => hr d (List.mem_mergeSort.1 hd)) (fun x hx => by simp at hx)
end Go.Proofs.Ytogegnikpjcpdaa
/- viewref.Packed: the walk. -/
namespace Go.Proofs.Ytogegnikpjcpdaa
set_option linter.unusedVariables false
open Go.ChangeShapes Go.WideShapes Go.ChangeAt Go.RowKit

/-- The law of append, at a step of a region that draws its order. -/
theorem step_own {P : Program} {w : World} {ops : Array Oper} {o : Oper} {a : Act} {K : Act → World → Prop} {Q : Exit → Act → World → Prop} {E : Prop} (hgd : o.guard = none) (s x : Operand) (t : TypeId)
    (ho : o.op = .call { callee := .builtin .append, args := #[s, x], argTypes := #[t, t] })
    (base : Nat) (e : TypeId) (i : TypeInfo) (z : Value) (size bytes : Nat) (ht : P.underlying t = some (.slice e)) (hi : P.info? e = some i) (hz : i.zero = some z)
    (hsize : i.size = size) (hby : i.bytes = bytes) (hzs : z.cells.size = size) (hsz : 0 < size)
    (v : Value) (n : Nat) (xs : List Value) (hs : a.eval s = v) (hown : w.ownsRow base e size v n xs)
    (ad : Addr) (m c : Nat) (news : List Value) (hx : a.eval x = .slice (some ad) m c) (hl : news.length = m * size) (hnews : ∀ j u, news[j]? = some u → w.cell? (ad.add j) = some u) (h1 : ∀ u ∈ news, u.oneCell' = true)
    (h63 : n + m ≤ maxLen) (hbytes : (n + m) * bytes ≤ 140737488355328) (hbase : base ≤ w.heap.size)
    (h : ∀ v' w', w'.ownsRow base e size v' (n + m) (xs ++ news) → w.grownBy w' v.ownBlock → (v' = .slice none 0 0 ↔ v = .slice none 0 0 ∧ m = 0) → K (a.put o.dst v') w') :
    if Region.wanted o (yielded ops a.tmps) = true then Oper.wp P o a w K Q else E := by
  have hw : Region.wanted o (yielded ops a.tmps) = true := by simp [Region.wanted, hgd]
  rw [if_pos hw]
  exact wp_append_own w s x t ho base e i z size bytes ht hi hz hsize hby hzs hsz v n xs hs hown ad m c news hx hl hnews h1 h63 hbytes hbase h

theorem own_later {w w' : World} {B n : Nat} {T : TypeId} {v : Value} {xs : List Value} (h : w.ownsRow B T 2 v n xs) (hb : Below w.heap.size w w') : w'.ownsRow B T 2 v n xs :=
  h.kept (row := none) ⟨hb.os, hb.tape, hb.output, hb.size, fun k hk _ => hb.block k hk⟩ (by
    by_cases e : v.ownBlock = none
    · exact .inl e
    · exact .inr e)

theorem own_addr {w : World} {B n c : Nat} {T : TypeId} {A : Option Addr} {xs : List Value} (h : w.ownsRow B T 2 (.slice A n c) n xs) (hn : 0 < n) : ∃ g, A = some ⟨g, 0, none⟩ ∧ B ≤ g ∧ g < w.heap.size ∧ n ≤ c ∧ c ≤ maxLen := by
  rcases h.2 with ⟨_, h0⟩ | ⟨g, cap, cur, h', hb, hg, hnc, hcm, hcs, htake⟩
  · omega
  · injection h' with h1 h2 h3
    subst h1 h3
    have hlt : g < w.heap.size := by
      rcases Nat.lt_or_ge g w.heap.size with h | h
      · exact h
      · rw [Array.getElem?_eq_none h] at hg; cases hg
    exact ⟨g, rfl, hb, hlt, hnc, hcm⟩

theorem own_none {w w' : World} {B n : Nat} {T : TypeId} {v : Value} {xs : List Value} (h : w.ownsRow B T 2 v n xs) (hg : w.grownBy w' none) : w'.ownsRow B T 2 v n xs :=
  h.kept hg (by
    by_cases e : v.ownBlock = none
    · exact .inl e
    · exact .inr e)

theorem own_news_take {w : World} {B n c g : Nat} {T : TypeId} {l : List (Int × Int)} (h : w.ownsRow B T 2 (.slice (some ⟨g, 0, none⟩) n c) n (dcells l)) (k : Nat) :
    ∀ j u, (dcells (l.take k))[j]? = some u → w.cell? ((⟨g, 0, none⟩ : Addr).add j) = some u := by
  intro j u hu
  rw [← dcells_take] at hu
  refine h.cells (g := g) rfl j u ?_
  by_cases hj : j < k * 2
  · rwa [List.getElem?_take_of_lt hj] at hu
  · rw [List.getElem?_eq_none (by rw [List.length_take]; omega)] at hu; cases hu

theorem dcells_drop : ∀ (l : List (Int × Int)) (k : Nat), (dcells l).drop (k * 2) = dcells (l.drop k)
  | [], k => by simp
  | a :: l, 0 => by simp
  | a :: l, k + 1 => by
    have ih := dcells_drop l k
    have e : (k + 1) * 2 = k * 2 + 1 + 1 := by omega
    simp only [dcells, List.flatMap_cons, List.drop_succ_cons, e] at ih ⊢
    simpa using ih

theorem own_news_drop {w : World} {B n c g : Nat} {T : TypeId} {l : List (Int × Int)} (h : w.ownsRow B T 2 (.slice (some ⟨g, 0, none⟩) n c) n (dcells l)) (k : Nat) :
    ∀ j u, (dcells (l.drop k))[j]? = some u → w.cell? ((⟨g, k * 2, none⟩ : Addr).add j) = some u := by
  intro j u hu
  rw [← dcells_drop, List.getElem?_drop] at hu
  have := h.cells (g := g) rfl _ u hu
  rw [add_none] at this ⊢
  simpa [Nat.add_comm] using this

theorem own_base {w : World} {B B' n : Nat} {T : TypeId} {v : Value} {xs : List Value} (h : w.ownsRow B T 2 v n xs) (hB : B' ≤ B) : w.ownsRow B' T 2 v n xs := by
  refine ⟨h.1, ?_⟩
  rcases h.2 with h0 | ⟨g, cap, cur, h', hb, rest⟩
  · exact .inl h0
  · exact .inr ⟨g, cap, cur, h', by omega, rest⟩

theorem grown_of_below {w w' : World} (h : Below w.heap.size w w') : w.grownBy w' none := ⟨h.os, h.tape, h.output, h.size, fun k hk _ => h.block k hk⟩

set_option maxHeartbeats 2000000 in
set_option maxRecDepth 100000 in
theorem Rpacked_any (c0 c1 c2 c3 : Int) (l : List (Int × Int)) (A : Option Addr) (k0 : Nat) (w : World) (hr : Row w w.heap.size A (dcells l)) (hl : l.length ≤ 4096) (hc : clkIn ⟨c0, c1, c2, c3, []⟩) (hright : ∀ d ∈ l, rightB d.1 d.2 = true) :
    Calls Try.prog 20 #[clkv c0 c1 c2 c3, .slice A l.length k0] w (CtxPost (packL c0 c1 c2 c3 l) w) := by
  have hfin := ref_packL c0 c1 c2 c3 l hright
  generalize packL c0 c1 c2 c3 l = R at *
  have HFIN := hid hfin
  clear hfin
  have HC := hid hc
  have HRT := hid hright
  have HR := hid hr
  clear hc hright hr
  obtain ⟨i0, hi0, hz0, hz1, hz2⟩ := info_parts info_dot
  simp only [clkv] at *
  go_enter Try.func20, Try.ntmps20
  rcases A with _ | ad
  · have he : l = [] := by
      rcases HR.out with h | ⟨b, off, h, _⟩
      · have := congrArg List.length h
        rw [dcells_len] at this
        exact List.eq_nil_of_length_eq_zero (by simp at this; omega)
      · cases h
    subst he
    go_wp2
    go_rounds 1
    refine bodyPost_ret (v := cval ⟨c0, c1, c2, c3, []⟩ none 0) (by simp [results, Try.results20, go_sem]) rfl ⟨none, 0, by rw [← HFIN.out]; simp, by rw [← HFIN.out]; simp; exact Row.nil, by (repeat' (first | (with_reducible exact Below.refl _ _) | (with_reducible assumption) | (with_reducible refine below_drewN ?_ _) | (with_reducible refine Below.drew ?_) | (with_reducible refine Below.alloc ?_ ?_ _) | (with_reducible refine Below.setCell ?_ ?_ _) | (refine Below.trans ?_ (Below.mono (by assumption) ?_)) | go_size)), fun _ _ _ h => by cases h⟩
  · go_wp2_with (at_builtin; refine wpList_append_own _ rfl _ _ 23 rfl (w.heap.size + 3) 27 i0 _ 2 16 Try.underlying23 hi0 hz0 hz1 hz2 rfl (by decide) (.slice none 0 0) 0 [] rfl (World.ownsRow_nil _ _ _ _) ad l.length k0 (dcells l) rfl (by rw [dcells_len]; omega) (HR.out.below (Below.alloc (Below.alloc (Below.alloc (Below.refl _ _) (Nat.le_refl _) _) (by simp) _) (by simp; omega) _) (Nat.le_refl _)).news (dcells_one l) ?_ ?_ ?_ ?_; rotate_right; intro v1 w1 hown1 hg1 _; rotate_left; (simp only [maxLen]; omega); (omega); (simp))
    obtain ⟨P, hPe⟩ : ∃ P, P = w.heap.size + 1 + 1 := ⟨_, rfl⟩
    have HPE := hid hPe
    have hW1 : Below (w.heap.size + 3) (((w.alloc (.cells #[.int .i64 c0, .int .i64 c1, .int .i64 c2, .int .i64 c3] 22)).alloc (.cells #[.int .i64 0, .int .i64 0, .int .i64 0, .int .i64 0, .slice none 0 0] 25)).alloc (.cells #[.int .i64 c0, .int .i64 c1, .int .i64 c2, .int .i64 c3, .slice none 0 0] 25)) w1 := (Below.refl _ _).grown hg1 (by simp) (fun g hg => by cases hg)
    have hP1 : w1.heap[P]? = some (.cells #[.int .i64 c0, .int .i64 c1, .int .i64 c2, .int .i64 c3, .slice none 0 0] 25 (0, 0)) := by
      refine (hW1.block P (by omega)).trans ?_
      have := heap_alloc_new ((w.alloc (.cells #[.int .i64 c0, .int .i64 c1, .int .i64 c2, .int .i64 c3] 22)).alloc (.cells #[.int .i64 0, .int .i64 0, .int .i64 0, .int .i64 0, .slice none 0 0] 25)) (.cells #[.int .i64 c0, .int .i64 c1, .int .i64 c2, .int .i64 c3, .slice none 0 0] 25)
      rw [hPe]; simpa using this
    have hR1 : w1.heap[w.heap.size + 1]? = some (.cells #[.int .i64 0, .int .i64 0, .int .i64 0, .int .i64 0, .slice none 0 0] 25 (0, 0)) := by
      refine (hW1.block (w.heap.size + 1) (by omega)).trans ((Below.heap_alloc _ _ _ (by simp)).trans ?_)
      have := heap_alloc_new (w.alloc (.cells #[.int .i64 c0, .int .i64 c1, .int .i64 c2, .int .i64 c3] 22)) (.cells #[.int .i64 0, .int .i64 0, .int .i64 0, .int .i64 0, .slice none 0 0] 25)
      simpa using this
    have hB1 : Below w.heap.size w w1 := Below.trans (b := ((w.alloc (.cells #[.int .i64 c0, .int .i64 c1, .int .i64 c2, .int .i64 c3] 22)).alloc (.cells #[.int .i64 0, .int .i64 0, .int .i64 0, .int .i64 0, .slice none 0 0] 25)).alloc (.cells #[.int .i64 c0, .int .i64 c1, .int .i64 c2, .int .i64 c3, .slice none 0 0] 25)) (by (repeat' (first | (with_reducible exact Below.refl _ _) | (with_reducible assumption) | (with_reducible refine below_drewN ?_ _) | (with_reducible refine Below.drew ?_) | (with_reducible refine Below.alloc ?_ ?_ _) | (with_reducible refine Below.setCell ?_ ?_ _) | (refine Below.trans ?_ (Below.mono (by assumption) ?_)) | go_size))) (hW1.mono (by omega))
    have hsz1 : P < w1.heap.size := by have := hW1.size; simp at this; omega
    simp only [Nat.zero_add, List.nil_append] at hown1
    rw [show w.heap.size + 3 = P + 1 by omega] at hown1
    obtain ⟨AL, cl, hv1⟩ := own_form hown1
    rw [hv1] at hown1 ⊢
    have HO1 := hid hown1
    have HP1 := hid hP1
    have HR1 := hid hR1
    have HB1 := hid hB1
    rw [← hPe]
    clear hW1 hP1 hR1 hB1 hown1 hv1 hg1 hPe
    go_loopw [6] (fun s6 wr => ∃ (left : List (Int × Int)) (c : Ctx) (A' AL : Option Addr) (kk cl : Nat), s6 = .slice AL left.length cl ∧ (left.mergeSort dotLe).foldl refStep c = R ∧ (∀ d ∈ left, rightB d.1 d.2 = true) ∧ clkIn c ∧ c.cloud.length + left.length ≤ 4096 ∧
      wr.heap[P]? = some (.cells #[.int .i64 c.c0, .int .i64 c.c1, .int .i64 c.c2, .int .i64 c.c3, .slice A' c.cloud.length kk] 25 (0, 0)) ∧
      wr.ownsRow (P + 1) 27 2 (.slice A' c.cloud.length kk) c.cloud.length (dcells c.cloud) ∧ wr.ownsRow (P + 1) 27 2 (.slice AL left.length cl) left.length (dcells left) ∧
      (∀ g, (Value.slice AL left.length cl).ownBlock = some g → (Value.slice A' c.cloud.length kk).ownBlock ≠ some g) ∧ Below P w1 wr ∧ P < wr.heap.size)
      (fun s6 _ => match s6 with | .slice _ n _ => n | _ => 0)
    case atStart => exact ⟨l, ⟨c0, c1, c2, c3, []⟩, none, AL, 0, cl, rfl, HFIN.out, HRT.out, HC.out, by simp; omega, HP1.out, World.ownsRow_nil _ _ _ _, HO1.out, fun g _ => by simp [Value.ownBlock], Below.refl _ _, hsz1⟩
    case round =>
      obtain ⟨left, c, A', AL, kk, cl, rfl, hf, hrt, hcin, hlen, hP, how, hol, hdis, hbw, hszr⟩ := hrel
      have HF := hid hf
      have HRT2 := hid hrt
      have HCIN := hid hcin
      have HP := hid hP
      have HOW := hid how
      have HOL := hid hol
      have HDIS := hid hdis
      have HBW := hid hbw
      clear hf hrt hcin hP how hol hdis hbw
      by_cases hn : 0 < left.length
      · go_wp2
        obtain ⟨wo, rfl⟩ : ∃ wo : World, wo = wr := ⟨_, rfl⟩
        go_loopw [7, 8] (fun s7 s8 wr => ∃ k i : Nat, s7 = .int .i64 k ∧ s8 = .int .i64 i ∧ k < i ∧ i ≤ left.length ∧ (∀ (hk : k < left.length) j (h : j < left.length), j < i → before left[j] left[k] = false) ∧ Below wo.heap.size wo wr) (fun _ s8 _ => left.length - (intOf s8).toNat)
        case atStart =>
          refine ⟨0, 1, rfl, rfl, by omega, by omega, ?_, Below.refl _ _⟩
          intro hk j h hj
          have e : j = 0 := by omega
          subst e
          unfold before
          simp
        case round =>
          obtain ⟨k, i, rfl, rfl, hki, hil, hmin, hbi⟩ := hrel
          have HMIN := hid hmin
          have HBI := hid hbi
          have hol := own_later HOL.out hbi
          obtain ⟨g, rfl, hPg, hgs, hcl1, hcl2⟩ := own_addr hol hn
          clear hmin hbi
          by_cases hlt : i < left.length
          · obtain ⟨x0, x1⟩ := own_dot hol hlt
            obtain ⟨y0, y1⟩ := own_dot hol (k := k) (by omega)
            have HOL2 := hid hol
            clear hol
            generalize hx : left[i] = x at *
            generalize hy : left[k] = y at *
            have HX := hid hx
            have HY := hid hy
            clear hx hy
            obtain ⟨p0, p1⟩ := x
            obtain ⟨q0, q1⟩ := y
            simp only at x0 x1 y0 y1
            have hkn : (k : Int) < (left.length : Int) := by omega
            go_wp2
            refine region_ext (by kernel_rfl) (by kernel_rfl) (fun hext => ?_)
            repeat (any_goals ((with_reducible refine wpQuiet_step (fun K hK => ?_)); go_simp; first | (with_reducible refine hK _ ?_; clear hK K) | ((with_reducible apply Exists.intro); (with_reducible refine ⟨fun _ => ?_, hK _ ?_⟩); (go_at_call 61; exact ext_call _ (by simp) (before_any _ _ _ _ _)); clear hK K) | ((with_reducible refine (if_neg ?_).mpr (hK _ ?_)); (decide); clear hK K) | (split <;> (with_reducible refine hK _ ?_; clear hK K))))
            all_goals ((with_reducible refine wpQuiet_nil ?_); clear hext; intro w1 hx1; have hb1 := ext_below hx1; clear hx1)
            go_wp2
            · have hb : before (p0, p1) (q0, q1) = true := by assumption
              go_roundw
              case rel =>
                refine ⟨i, i + 1, rfl, by go_num, by omega, by omega, fun hk j h hj => ?_, HBI.out.trans (hb1.mono HBI.out.size)⟩
                by_cases e : j = i
                · subst e; unfold before; simp
                · have h1 := HMIN.out (by omega) j h (by omega)
                  rw [HY.out] at h1
                  rw [HX.out]
                  generalize left[j] = z at *
                  simp [before] at h1 hb ⊢
                  omega
              case measure => simp [intOf]; omega
            · have hb : before (p0, p1) (q0, q1) = false := by assumption
              go_roundw
              case rel =>
                refine ⟨k, i + 1, rfl, by go_num, by omega, by omega, fun hk j h hj => ?_, HBI.out.trans (hb1.mono HBI.out.size)⟩
                by_cases e : j = i
                · subst e; rw [HX.out, HY.out]; exact hb
                · exact HMIN.out hk j h (by omega)
              case measure => simp [intOf]; omega
          · have hkl : k < left.length := by omega
            have hil2 : i = left.length := by omega
            have hmn : ∀ x ∈ left, before x left[k] = false := by
              intro x hx
              obtain ⟨j, hj, rfl⟩ := List.getElem_of_mem hx
              exact HMIN.out hkl j hj (by omega)
            have hsm := sort_min hkl hmn
            have hdr := HRT2.out left[k] (List.getElem_mem _)
            obtain ⟨y0, y1⟩ := own_dot hol hkl
            have hPw := (HBI.out.block P hszr).trans HP.out
            have hszi := HBI.out.size
            generalize hd : left[k] = d at *
            obtain ⟨n, s⟩ := d
            simp only at y0 y1 hdr
            have HSM := hid hsm
            have HDR := hid hdr
            have HD := hid hd
            have HOLW := hid hol
            have HPW := hid hPw
            clear hil2 hmn hsm hdr hd hol hPw
            have hkn : (k : Int) < (left.length : Int) := by omega
            have hk1 : (k : Int) ≤ (cl : Int) := by omega
            have hk2 : (k : Int) + 1 ≤ (left.length : Int) := by omega
            have hk3 : (k : Int) + 1 ≤ (cl : Int) := by omega
            have zt : ((k : Int) + 1).toNat = k + 1 := by omega
            have z0 : (0 : Int) ≤ (k : Int) + 1 := by omega
            have zk : IntKind.i64.wrap ((k : Int) + 1) = (k : Int) + 1 := IntWalk.i64_in _ (by omega)
            obtain ⟨adr, hadr, hif1, hif2⟩ : ∃ adr : Addr, (k + 1 < left.length → adr = ⟨g, (k + 1) * 2, none⟩) ∧ (if cl = k + 1 then some (⟨g, 0, none⟩ : Addr) else some ⟨g, (k + 1) * 2, none⟩) = some adr ∧ (if cl = k + 1 then (⟨g, 0, none⟩ : Addr) else ⟨g, (k + 1) * 2, none⟩) = adr := by
              by_cases hck : cl = k + 1
              · exact ⟨⟨g, 0, none⟩, fun h => absurd h (by omega), by rw [if_pos hck], by rw [if_pos hck]⟩
              · exact ⟨⟨g, (k + 1) * 2, none⟩, fun _ => rfl, by rw [if_neg hck], by rw [if_neg hck]⟩
            have HADR := hid hadr
            clear hadr
            have tok1 : True := trivial
            go_wp2_with fail
            go_region_held3 (fun w' => True) (trivial) (first | (have _t := tok1; refine step_own (by rfl) _ _ 23 (by rfl) (wr.heap.size + 1) 27 i0 _ 2 16 Try.underlying23 hi0 hz0 hz1 hz2 rfl (by decide) (.slice none 0 0) 0 [] (by rfl) (World.ownsRow_nil _ _ _ _) ⟨g, 0, none⟩ k _ (dcells (left.take k)) (by rfl) (by rw [dcells_len, List.length_take]; omega) (own_news_take (HOLW.out.alloc _) k) (dcells_one _) (by simp only [maxLen]; omega) (by omega) (by simp) ?_; intro v5 w5 hown5 hg5 _; clear tok1) | (refine step_own (by rfl) _ _ 23 (by rfl) (wr.heap.size + 1) 27 i0 _ 2 16 Try.underlying23 hi0 hz0 hz1 hz2 rfl (by decide) v5 (0 + k) ([] ++ dcells (left.take k)) (by rfl) hown5 adr (left.length - (k + 1)) _ (dcells (left.drop (k + 1))) (by rfl) ?h4 ?h5 (dcells_one _) ?h6 ?h7 ?h8 ?h9; (case h4 => (rw [dcells_len, List.length_drop]; omega)); (case h5 => (by_cases hq : k + 1 < left.length; (rw [HADR.out hq]; exact own_news_drop (own_none (w := (wr.alloc (.cells #[.int .i64 n, .int .i64 s] 27)).drew) (HOLW.out.alloc _) hg5) (k + 1)); (intro j u hu; rw [List.drop_eq_nil_of_le (show left.length ≤ k + 1 by omega)] at hu; simp at hu))); (case h6 => (simp only [maxLen]; omega)); (case h7 => omega); (case h8 => (have := hg5.size; simp at this; omega)); intro v6 w6 hown6 hg6 _))
            have hsz5 := hg5.size
            simp only [World.size_drew, World.size_alloc] at hsz5
            have hd5 : w5.heap[wr.heap.size]? = some (.cells #[.int .i64 n, .int .i64 s] 27 (0, 0)) := (hg5.block wr.heap.size (by simp) (by simp [Value.ownBlock])).trans (heap_alloc_new wr _)
            have hd6 := (hg6.block wr.heap.size (by omega) (fun e => by have := (hown5.lt _ e.symm).1; omega)).trans hd5
            have hb6 : Below wr.heap.size wr w6 := ((((Below.refl wr.heap.size wr).alloc (Nat.le_refl _) _).drew.grown hg5 (by simp) (fun g hg => by simp [Value.ownBlock] at hg)).grown hg6 (by omega) (fun g hg => by have := (hown5.lt g hg).1; omega))
            have hsz6 : wr.heap.size < w6.heap.size := by have := hg6.size; omega
            have hle : (left.take k ++ left.drop (k + 1)).length = 0 + k + (left.length - (k + 1)) := by simp; omega
            have hcells : [] ++ dcells (left.take k) ++ dcells (left.drop (k + 1)) = dcells (left.take k ++ left.drop (k + 1)) := by simp
            rw [hcells, ← hle] at hown6
            have hll : (left.take k ++ left.drop (k + 1)).length + 1 = left.length := by rw [hle]; omega
            have hlr : ∀ d ∈ left.take k ++ left.drop (k + 1), rightB d.1 d.2 = true := fun d hd => HRT2.out d (by
              rcases List.mem_append.1 hd with h | h
              · exact List.mem_of_mem_take h
              · exact List.mem_of_mem_drop h)
            have hfo : ((left.take k ++ left.drop (k + 1)).mergeSort dotLe).foldl refStep (refStep c (n, s)) = R := by rw [← HF.out, HSM.out]; rfl
            have HLR := hid hlr
            have HFO := hid hfo
            have HLL := hid hll
            clear hle hcells hlr hfo hd5
            generalize left.take k ++ left.drop (k + 1) = left' at *
            obtain ⟨A6, c6, rfl⟩ := own_form hown6
            have hP6 := (hb6.block P (by omega)).trans HPW.out
            have how6 := own_later (own_later HOW.out HBI.out) hb6
            have hll2 := HLL.out
            have e0 : w6.cell? ⟨P, 0, none⟩ = some (.int .i64 c.c0) := (cell_of_row w6 P 0 _ _ _ hP6).trans rfl
            have e1 : w6.cell? ⟨P, 1, none⟩ = some (.int .i64 c.c1) := (cell_of_row w6 P 1 _ _ _ hP6).trans rfl
            have e2 : w6.cell? ⟨P, 2, none⟩ = some (.int .i64 c.c2) := (cell_of_row w6 P 2 _ _ _ hP6).trans rfl
            have e3 : w6.cell? ⟨P, 3, none⟩ = some (.int .i64 c.c3) := (cell_of_row w6 P 3 _ _ _ hP6).trans rfl
            have e4 : w6.cell? ⟨P, 4, none⟩ = some (.slice A' c.cloud.length kk) := (cell_of_row w6 P 4 _ _ _ hP6).trans rfl
            have b0 : w6.cell? ⟨wr.heap.size, 0, none⟩ = some (.int .i64 n) := (cell_of_row w6 _ 0 _ _ _ hd6).trans rfl
            have b1 : w6.cell? ⟨wr.heap.size, 1, none⟩ = some (.int .i64 s) := (cell_of_row w6 _ 1 _ _ _ hd6).trans rfl
            have hrow6 : Row w6 w6.heap.size A' (dcells c.cloud) := Row.of_own how6
            have hdis6 : ∀ g, (Value.slice A6 left'.length c6).ownBlock = some g → (Value.slice A' c.cloud.length kk).ownBlock ≠ some g := fun g hg he => by
              have h1 := (hown6.lt g hg).1
              have h2 := ((own_later HOW.out HBI.out).lt g he).2
              omega
            have HAS := hid (Rhas_ints c.c0 c.c1 c.c2 c.c3 c.cloud n s A' kk)
            have HP6 := hid hP6
            have HOW6 := hid how6
            have HOL6 := hid (own_base hown6 (show P + 1 ≤ wr.heap.size + 1 by omega))
            have HDIS6 := hid hdis6
            have HB6 := hid hb6
            have HD6 := hid hd6
            have HROW6 := hid hrow6
            have hclen : c.cloud.length ≤ 4096 := by omega
            clear hP6 how6 hown6 hdis6 hb6 hd6 hrow6 hg5 hg6 hown5 y0 y1
            go_wp2_with (go_at_call 26; refine (HAS.out _ HROW6.out (by omega)).mono ?_; rintro e w7 ⟨rfl, hb7⟩)
            · have hh : hasB c (n, s) = true := ‹hasB _ _ = true›
              have hsame := refStep_same hh
              go_roundw
              case rel =>
                refine ⟨left', c, A', A6, kk, c6, rfl, by rw [← HFO.out, hsame], HLR.out, HCIN.out, by omega, (hb7.block P (by omega)).trans HP6.out, own_later HOW6.out hb7, own_later HOL6.out hb7, HDIS6.out, ?_, by have := hb7.size; omega⟩
                exact ((HBW.out.trans (HBI.out.mono (by omega))).trans (HB6.out.mono (by omega))).trans (hb7.mono (by omega))
              case measure => simp; omega
            · have hh : hasB c (n, s) = false := ‹hasB _ _ = false›
              have hR : 0 ≤ n ∧ n < 4 ∧ 1 ≤ s ∧ s ≤ 1099511627776 := by simpa [rightB, and_assoc] using HDR.out
              obtain ⟨n0, n4, s0, s1⟩ := hR
              have hP7 := (hb7.block P (by omega)).trans HP6.out
              have hd7 := (hb7.block wr.heap.size (by omega)).trans HD6.out
              have hsz7 := hb7.size
              have hsR := packStep_in (d := (n, s)) HCIN.out HDR.out
              have hno : ¬ ((n, s) ∈ c.cloud) := fun hm => by rw [hasB_mem hm] at hh; cases hh
              have hrp : refStep c (n, s) = packStep c (n, s) := ref_pack (d := (n, s)) HDR.out hno
              have hgt : c.at_ n < s := by
                rw [hasB_notin hno] at hh
                simp [inB] at hh
                omega
              have en : w7.cell? ⟨P, n.toNat, none⟩ = some (.int .i64 (c.at_ n)) := by rw [cell_of_row w7 P n.toNat _ _ _ hP7, at_cell c n n0 n4]
              have fn := frozen_of_row w7 P n.toNat _ _ hP7
              have e4' : w7.cell? ⟨P, 4, none⟩ = some (.slice A' c.cloud.length kk) := (cell_of_row w7 P 4 _ _ _ hP7).trans rfl
              have f4 := frozen_of_row w7 P 4 _ _ hP7
              have b0' : w7.cell? ⟨wr.heap.size, 0, none⟩ = some (.int .i64 n) := (cell_of_row w7 _ 0 _ _ _ hd7).trans rfl
              have b1' : w7.cell? ⟨wr.heap.size, 1, none⟩ = some (.int .i64 s) := (cell_of_row w7 _ 1 _ _ _ hd7).trans rfl
              have how7 := own_later HOW6.out hb7
              have hol7 := own_later HOL6.out hb7
              have hbw7 := ((HBW.out.trans (HBI.out.mono (show P ≤ wo.heap.size by omega))).trans (HB6.out.mono (show P ≤ wr.heap.size by omega))).trans (hb7.mono (show P ≤ w6.heap.size by omega))
              have ha := at_in HCIN.out n
              have HP7 := hid hP7
              have HOW7 := hid how7
              have HOL7 := hid hol7
              have HBW7 := hid hbw7
              have HRP := hid hrp
              have HSR := hid hsR
              obtain ⟨a0, a1⟩ := ha
              clear e0 e1 e2 e3 e4 b0 b1 hP7 hd7 how7 hol7 hbw7 hh hrp hsR hno
              have zw : IntKind.i64.wrap (c.at_ n + 1) = c.at_ n + 1 := IntWalk.i64_in _ (by omega)
              have hne7 : (P = w7.heap.size) = False := by simp; omega
              have hP8 : P < w7.heap.size := by omega
              have hps : packStep c (n, s) = if s = c.at_ n + 1 then c.inc n else { c with cloud := c.cloud ++ [(n, s)] } := by
                simp only [packStep]
                rw [if_neg (by omega)]
              have HPS := hid hps
              clear hps
              generalize hat : c.at_ n = a at *
              have HAT := hid hat
              clear hat
              by_cases q2 : s = a + 1
              · have q3 : (s == a + 1) = true := by simp [q2]
                have Q2 := hid q2
                clear q2
                refine wp_region_quiet_lit (by kernel_rfl) (by kernel_rfl) ?_
                repeat (any_goals ((with_reducible refine wpQuiet_step (fun K hK => ?_)); go_simp; first | (with_reducible refine hK _ ?_; clear hK K) | ((with_reducible apply Exists.intro); (with_reducible refine ⟨fun _ => ?_, hK _ ?_⟩); (fail); clear hK K) | ((with_reducible refine (if_neg ?_).mpr (hK _ ?_)); (decide); clear hK K) | (split <;> (with_reducible refine hK _ ?_; clear hK K))))
                all_goals ((with_reducible refine wpQuiet_nil ?_); intro _ hw'; obtain ⟨nq, hw''⟩ := hw'; subst hw'')
                go_wp2
                go_roundw
                case rel =>
                  refine ⟨left', c.inc n, A', A6, kk, c6, rfl, ?_, HLR.out, ?_, by rw [inc_cloud]; omega, ?_, ?_, ?_, ?_, ?_, by simp; omega⟩
                  · rw [← HFO.out, HRP.out, HPS.out, if_pos Q2.out]
                  · have := HSR.out; rw [HPS.out, if_pos Q2.out] at this; exact this
                  · have e := heap_setCell_same (w7.drewN nq) P n.toNat _ _ (.int .i64 s) HP7.out
                    have e2 := inc_cells c n n0 n4 (.slice A' c.cloud.length kk)
                    rw [HAT.out, ← Q2.out] at e2
                    rw [e2] at e
                    rw [inc_cloud]
                    exact e
                  · rw [inc_cloud]
                    exact ownsRow_setCell_below (w := w7.drewN nq) HOW7.out (Nat.lt_succ_self P) _
                  · exact ownsRow_setCell_below (w := w7.drewN nq) HOL7.out (Nat.lt_succ_self P) _
                  · rw [inc_cloud]; exact HDIS6.out
                  · exact (below_drewN HBW7.out nq).setCell (Nat.le_refl _) _
                case measure => simp; omega
              · have q3 : (s == a + 1) = false := by simp [q2]
                have Q2 := hid q2
                clear q2
                refine wp_region_quiet_lit (by kernel_rfl) (by kernel_rfl) ?_
                repeat (any_goals ((with_reducible refine wpQuiet_step (fun K hK => ?_)); go_simp; first | (with_reducible refine hK _ ?_; clear hK K) | ((with_reducible apply Exists.intro); (with_reducible refine ⟨fun _ => ?_, hK _ ?_⟩); (fail); clear hK K) | ((with_reducible refine (if_neg ?_).mpr (hK _ ?_)); (decide); clear hK K) | (split <;> (with_reducible refine hK _ ?_; clear hK K))))
                all_goals ((with_reducible refine wpQuiet_nil ?_); intro _ hw'; obtain ⟨nq, hw''⟩ := hw'; subst hw'')
                have hob : ∀ g, (Value.slice A' c.cloud.length kk).ownBlock = some g → P + 1 ≤ g := fun g hg => (HOW7.out.lt g hg).1
                have HOB := hid hob
                clear hob
                go_wp2_with (at_builtin; refine wpList_append_lies _ rfl _ _ 23 rfl (P + 1) 27 i0 _ 2 16 Try.underlying23 hi0 hz0 hz1 hz2 rfl (by decide) (.slice A' c.cloud.length kk) c.cloud.length (dcells c.cloud) rfl (World.ownsRow.alloc (w := w7.drewN nq) HOW7.out _) ⟨w7.heap.size, 0, none⟩ 1 1 (dcells [(n, s)]) rfl rfl (news_new (w7.drewN nq) n s _ _ rfl) (dcells_one _) (by decide) ?_ ?_ ?_ (w7.heap.size + 1) (by simp) ?_; rotate_right; intro g9 cap9 w9 hown9 hg9 hat9 hlt9; have hP9 := (hg9.block P (by simp; omega) (fun e => by have := HOB.out _ e.symm; omega)).trans ((Below.heap_alloc (w7.drewN nq) _ P (by simp; omega)).trans HP7.out); have e9 : w9.cell? ⟨P, 4, none⟩ = some (.slice A' c.cloud.length kk) := (cell_of_row w9 P 4 _ _ _ hP9).trans rfl; have f9 : w9.frozen? ⟨P, 4, none⟩ = false := frozen_of_row w9 P 4 _ _ hP9; have HP9 := hid hP9; clear hP9; rotate_left; (simp only [maxLen]; omega); (omega); (simp; omega))
                go_roundw
                case rel =>
                  have e5 := heap_setCell_same w9 P 4 _ _ (.slice (some ⟨g9, 0, none⟩) (c.cloud.length + 1) cap9) HP9.out
                  have hs9 := hg9.size
                  simp only [World.size_alloc] at hs9
                  have hs9' : w7.heap.size + 1 ≤ w9.heap.size := hs9
                  have hol9 : w9.ownsRow (P + 1) 27 2 (.slice A6 left'.length c6) left'.length (dcells left') := (World.ownsRow.alloc (w := w7.drewN nq) HOL7.out _).kept hg9 (by
                    by_cases e : (Value.slice A6 left'.length c6).ownBlock = none
                    · exact .inl e
                    · refine .inr fun e2 => ?_
                      obtain ⟨g, hg⟩ := Option.ne_none_iff_exists'.1 e
                      exact HDIS6.out g hg (by rw [← e2]; exact hg))
                  refine ⟨left', { c with cloud := c.cloud ++ [(n, s)] }, some ⟨g9, 0, none⟩, A6, cap9, c6, rfl, ?_, HLR.out, HCIN.out, by simp; omega, ?_, ?_, ?_, ?_, ?_, ?_⟩
                  · rw [← HFO.out, HRP.out, HPS.out, if_neg Q2.out]
                  · simpa using e5
                  · have e6 := ownsRow_setCell_below hown9 (a := ⟨P, 4, none⟩) (Nat.lt_succ_self P) (.slice (some ⟨g9, 0, none⟩) (c.cloud.length + 1) cap9)
                    simpa [dcells] using e6
                  · exact ownsRow_setCell_below hol9 (a := ⟨P, 4, none⟩) (Nat.lt_succ_self P) _
                  · intro g hg he
                    have hg2 : g9 = g := by simpa [Value.ownBlock] using he
                    subst hg2
                    rcases hat9 with h | h
                    · exact HDIS6.out _ hg h
                    · have := (HOL7.out.lt _ hg).2; omega
                  · have hB9 : Below P w1 w9 := (((below_drewN HBW7.out nq).alloc (by simp; omega) _).grown hg9 (by simp; omega) (fun g hg => by have := HOB.out g hg; omega))
                    exact hB9.setCell (Nat.le_refl _) _
                  · simp; omega
                case measure => simp; omega
      · have he : left = [] := List.eq_nil_of_length_eq_zero (by omega)
        have hfin : c = R := by rw [← HF.out, he]; simp
        have hP := HP.out
        have HFI := hid hfin
        have e0 : wr.cell? ⟨P, 0, none⟩ = some (.int .i64 c.c0) := (cell_of_row wr P 0 _ _ _ hP).trans rfl
        have e1 : wr.cell? ⟨P, 1, none⟩ = some (.int .i64 c.c1) := (cell_of_row wr P 1 _ _ _ hP).trans rfl
        have e2 : wr.cell? ⟨P, 2, none⟩ = some (.int .i64 c.c2) := (cell_of_row wr P 2 _ _ _ hP).trans rfl
        have e3 : wr.cell? ⟨P, 3, none⟩ = some (.int .i64 c.c3) := (cell_of_row wr P 3 _ _ _ hP).trans rfl
        have e4 : wr.cell? ⟨P, 4, none⟩ = some (.slice A' c.cloud.length kk) := (cell_of_row wr P 4 _ _ _ hP).trans rfl
        have hPE := HPE.out
        have hR := (HBW.out.block (w.heap.size + 1) (by omega)).trans HR1.out
        have r0 : wr.cell? ⟨w.heap.size + 1, 0, none⟩ = some (.int .i64 0) := (cell_of_row wr _ 0 _ _ _ hR).trans rfl
        have r1 : wr.cell? ⟨w.heap.size + 1, 1, none⟩ = some (.int .i64 0) := (cell_of_row wr _ 1 _ _ _ hR).trans rfl
        have r2 : wr.cell? ⟨w.heap.size + 1, 2, none⟩ = some (.int .i64 0) := (cell_of_row wr _ 2 _ _ _ hR).trans rfl
        have r3 : wr.cell? ⟨w.heap.size + 1, 3, none⟩ = some (.int .i64 0) := (cell_of_row wr _ 3 _ _ _ hR).trans rfl
        have r4 : wr.cell? ⟨w.heap.size + 1, 4, none⟩ = some (.slice none 0 0) := (cell_of_row wr _ 4 _ _ _ hR).trans rfl
        have f0 := fun j => frozen_of_row wr (w.heap.size + 1) j _ _ hR
        have HRR := hid hR
        clear hR hP hfin he hPE
        go_wp2
        have hle : w.heap.size + 1 < P + 1 := by have := HPE.out; omega
        have hle2 : w.heap.size ≤ w.heap.size + 1 := by omega
        have hW := heap_setCell_same _ (w.heap.size + 1) 4 _ _ (.slice A' c.cloud.length kk) (heap_setCell_same _ (w.heap.size + 1) 3 _ _ (.int .i64 c.c3) (heap_setCell_same _ (w.heap.size + 1) 2 _ _ (.int .i64 c.c2) (heap_setCell_same _ (w.heap.size + 1) 1 _ _ (.int .i64 c.c1) (heap_setCell_same wr (w.heap.size + 1) 0 _ _ (.int .i64 c.c0) HRR.out))))
        have hO := ownsRow_setCell_below (ownsRow_setCell_below (ownsRow_setCell_below (ownsRow_setCell_below (ownsRow_setCell_below HOW.out (a := ⟨w.heap.size + 1, 0, none⟩) hle (.int .i64 c.c0)) (a := ⟨w.heap.size + 1, 1, none⟩) hle (.int .i64 c.c1)) (a := ⟨w.heap.size + 1, 2, none⟩) hle (.int .i64 c.c2)) (a := ⟨w.heap.size + 1, 3, none⟩) hle (.int .i64 c.c3)) (a := ⟨w.heap.size + 1, 4, none⟩) hle (.slice A' c.cloud.length kk)
        have hB := ((((((HB1.out.trans (HBW.out.mono (by omega))).setCell (p := ⟨w.heap.size + 1, 0, none⟩) hle2 (.int .i64 c.c0)).setCell (p := ⟨w.heap.size + 1, 1, none⟩) hle2 (.int .i64 c.c1)).setCell (p := ⟨w.heap.size + 1, 2, none⟩) hle2 (.int .i64 c.c2)).setCell (p := ⟨w.heap.size + 1, 3, none⟩) hle2 (.int .i64 c.c3)).setCell (p := ⟨w.heap.size + 1, 4, none⟩) hle2 (.slice A' c.cloud.length kk))
        generalize ((((wr.setCell ⟨w.heap.size + 1, 0, none⟩ (.int .i64 c.c0)).setCell ⟨w.heap.size + 1, 1, none⟩ (.int .i64 c.c1)).setCell ⟨w.heap.size + 1, 2, none⟩ (.int .i64 c.c2)).setCell ⟨w.heap.size + 1, 3, none⟩ (.int .i64 c.c3)).setCell ⟨w.heap.size + 1, 4, none⟩ (.slice A' c.cloud.length kk) = W5 at *
        have q0 : W5.cell? ⟨w.heap.size + 1, 0, none⟩ = some (.int .i64 c.c0) := (cell_of_row W5 _ 0 _ _ _ hW).trans rfl
        have q1 : W5.cell? ⟨w.heap.size + 1, 1, none⟩ = some (.int .i64 c.c1) := (cell_of_row W5 _ 1 _ _ _ hW).trans rfl
        have q2 : W5.cell? ⟨w.heap.size + 1, 2, none⟩ = some (.int .i64 c.c2) := (cell_of_row W5 _ 2 _ _ _ hW).trans rfl
        have q3 : W5.cell? ⟨w.heap.size + 1, 3, none⟩ = some (.int .i64 c.c3) := (cell_of_row W5 _ 3 _ _ _ hW).trans rfl
        have q4 : W5.cell? ⟨w.heap.size + 1, 4, none⟩ = some (.slice A' c.cloud.length kk) := (cell_of_row W5 _ 4 _ _ _ hW).trans rfl
        have hcR := HFI.out
        refine bodyPost_ret (v := cval c A' kk) (by simp [results, Try.results20, go_sem, q0, q1, q2, q3, q4]) rfl ⟨A', kk, by rw [hcR], ?_, hB, own_new hO (by have := HPE.out; omega)⟩
        rw [← hcR]
        exact Row.of_own hO
end Go.Proofs.Ytogegnikpjcpdaa
