/- dot.packed: the walk. -/
import Derived.Test.YtogegnikpjcpdaaDotO
namespace Go.Proofs.Ytogegnikpjcpdaa
set_option linter.unusedVariables false
open Go.ChangeShapes Go.WideShapes Go.ChangeAt Go.RowKit

/-- A row that lies at no block below a bound. -/
def NewAt (lo : Nat) (A : Option Addr) : Prop := ∀ b off q, A = some ⟨b, off, q⟩ → lo ≤ b

def CtxPost (c : Ctx) (w : World) (e : Ending) (w' : World) : Prop :=
  ∃ A k, e = .returned (cval c A k) ∧ Row w' w'.heap.size A (dcells c.cloud) ∧ Below w.heap.size w w' ∧ NewAt w.heap.size A

theorem Row.of_own {w : World} {B n c : Nat} {T : TypeId} {A : Option Addr} {xs : List Value} (h : w.ownsRow B T 2 (.slice A n c) n xs) : Row w w.heap.size A xs := by
  rcases h.2 with ⟨h', h0⟩ | ⟨g, cap, cur, h', hb, hg, hnc, hcm, hcs, htake⟩
  · have : xs = [] := List.eq_nil_of_length_eq_zero (by rw [h.1, h0])
    exact .inl this
  · injection h' with h1 h2 h3
    subst h1
    have hlt : g < w.heap.size := by
      rcases Nat.lt_or_ge g w.heap.size with h | h
      · exact h
      · rw [Array.getElem?_eq_none h] at hg; cases hg
    refine .inr ⟨g, 0, rfl, hlt, fun j u hu => ?_⟩
    have := h.cells (g := g) rfl j u hu
    rwa [add_none] at this

theorem own_form {w : World} {B n : Nat} {T : TypeId} {v : Value} {xs : List Value} (h : w.ownsRow B T 2 v n xs) : ∃ A c, v = .slice A n c := by
  rcases h.2 with ⟨rfl, rfl⟩ | ⟨g, cap, cur, rfl, _⟩
  · exact ⟨none, 0, rfl⟩
  · exact ⟨_, _, rfl⟩

theorem own_new {w : World} {B B' n c : Nat} {T : TypeId} {A : Option Addr} {xs : List Value} (h : w.ownsRow B T 2 (.slice A n c) n xs) (hB : B' ≤ B) : NewAt B' A := by
  intro b off q e
  subst e
  exact Nat.le_trans hB (h.lt b (by
    rcases h.2 with ⟨h', _⟩ | ⟨g, cap, cur, h', _⟩
    · cases h'
    · injection h' with h1; injection h1 with h1; injection h1 with h1 h2 h3; subst h1 h2 h3; rfl)).1

theorem Row.setCell_new {w : World} {B lo : Nat} {A : Option Addr} {xs : List Value} (h : Row w B A xs) (hn : NewAt lo A) {a : Addr} (ha : a.block < lo) (v : Value) : Row (w.setCell a v) B A xs := by
  rcases h with h | ⟨b, off, h1, h2, h3⟩
  · exact .inl h
  · have hb := hn b off none h1
    refine .inr ⟨b, off, h1, h2, fun j u hu => ?_⟩
    rw [← h3 j u hu]
    unfold World.cell?
    rw [Below.heap_setCell w a v b (by omega)]

theorem Row.of_own_lt {w : World} {B n c P : Nat} {T : TypeId} {A : Option Addr} {xs : List Value} (h : w.ownsRow B T 2 (.slice A n c) n xs) (hlt : ∀ g, (Value.slice A n c).ownBlock = some g → g < P) : Row w P A xs := by
  rcases Row.of_own h with h1 | ⟨b, off, h1, h2, h3⟩
  · exact .inl h1
  · subst h1
    exact .inr ⟨b, off, rfl, hlt b rfl, h3⟩

theorem news_new (w : World) (n s : Int) (T : TypeId) (H : Nat) (hH : w.heap.size = H) : ∀ j u, (dcells [(n, s)])[j]? = some u → (w.alloc (.cells #[.int .i64 n, .int .i64 s] T)).cell? ((⟨H, 0, none⟩ : Addr).add j) = some u := by
  intro j u hu
  subst hH
  rw [add_none, Nat.zero_add, cell_of_row _ _ j _ _ _ (heap_alloc_new w _)]
  simpa using hu

set_option maxHeartbeats 2000000 in
set_option maxRecDepth 100000 in
theorem packed_any (c0 c1 c2 c3 : Int) (l : List (Int × Int)) (A : Option Addr) (k0 : Nat) (w : World) (hr : Row w w.heap.size A (dcells l)) (hl : l.length ≤ 4096) (hc : clkIn ⟨c0, c1, c2, c3, []⟩) (hright : ∀ d ∈ l, rightB d.1 d.2 = true) :
    Calls Try.prog 64 #[clkv c0 c1 c2 c3, .slice A l.length k0] w (CtxPost (packL c0 c1 c2 c3 l) w) := by
  have HC := hid hc
  have HRT := hid hright
  have hr2 : Row ((w.alloc (.cells #[.int .i64 c0, .int .i64 c1, .int .i64 c2, .int .i64 c3] 22)).alloc (.cells #[.int .i64 0, .int .i64 0, .int .i64 0, .int .i64 0, .slice none 0 0] 25)) (w.heap.size + 2) A (dcells l) :=
    (hr.below (Below.alloc (Below.alloc (Below.refl _ _) (Nat.le_refl _) _) (by simp) _) (Nat.le_refl _)).more (by omega)
  have HR2 := hid hr2
  clear hc hright hr hr2
  obtain ⟨i0, hi0, hz0, hz1, hz2⟩ := info_parts info_dot
  simp only [clkv] at *
  go_enter Try.func64, Try.ntmps64
  go_wp2_with fail
  refine (clone_any l A k0 _ (by simpa using HR2.out) (by omega)).mono ?_
  rintro e w1 ⟨v1, rfl, hown1, hb1⟩
  simp at hown1 hb1
  go_wp2_with fail
  refine (sort_own l _ hown1 (by omega)).mono ?_
  rintro e w2 ⟨rfl, hown2, hg2⟩
  have b2 := hb1.grown hg2 (by have := hb1.size; simp at this; omega) (fun g hg => (hown1.lt g hg).1)
  have hlt1 : ∀ g, v1.ownBlock = some g → g < w2.heap.size := fun g hg => Nat.lt_of_lt_of_le (hown1.lt g hg).2 hg2.size
  have hs2 : w.heap.size + 1 + 1 ≤ w2.heap.size := by have := b2.size; simp at this; omega
  have k0 : w2.cell? ⟨w.heap.size, 0, none⟩ = some (.int .i64 c0) := by rw [(bcell b2).1 _ _ (by omega)]; simp [go_sem]
  have k1 : w2.cell? ⟨w.heap.size, 1, none⟩ = some (.int .i64 c1) := by rw [(bcell b2).1 _ _ (by omega)]; simp [go_sem]
  have k2 : w2.cell? ⟨w.heap.size, 2, none⟩ = some (.int .i64 c2) := by rw [(bcell b2).1 _ _ (by omega)]; simp [go_sem]
  have k3 : w2.cell? ⟨w.heap.size, 3, none⟩ = some (.int .i64 c3) := by rw [(bcell b2).1 _ _ (by omega)]; simp [go_sem]
  have hsl : (l.mergeSort dotLe).length = l.length := by simp
  rw [← hsl] at hown2
  have B2 := hid b2
  have H2 := hid hown2
  have HL1 := hid hlt1
  have HO1 := hid hown1
  clear b2 hown2 hb1 hg2 hown1 hlt1
  go_wp2_with fail
  refine (compact_own (l.mergeSort dotLe) _ (H2.out.alloc _) (by omega)).mono ?_
  rintro e w4 ⟨v2, rfl, hown4, hg4, hv2⟩
  obtain ⟨A2, k4, rfl⟩ := own_form hown4
  clear k0 k1 k2 k3
  have hmr : ∀ d ∈ cpt (l.mergeSort dotLe), rightB d.1 d.2 = true := fun d hd => HRT.out d (List.mem_mergeSort.1 ((cpt_mem _ _).1 hd))
  have hml : (cpt (l.mergeSort dotLe)).length ≤ 4096 := by have := cpt_length (l.mergeSort dotLe); omega
  have hpk : packL c0 c1 c2 c3 l = (cpt (l.mergeSort dotLe)).foldl packStep ⟨c0, c1, c2, c3, []⟩ := rfl
  rw [hpk]
  generalize cpt (l.mergeSort dotLe) = m at *
  have hrow : Row w4 w2.heap.size A2 (dcells m) := Row.of_own_lt hown4 (fun g hg => HL1.out g (by rw [hv2] at hg; exact hg))
  have hPne : some w2.heap.size ≠ v1.ownBlock := fun e => by have := HL1.out _ e.symm; omega
  have hP4 : w4.heap[w2.heap.size]? = some (.cells #[.int .i64 c0, .int .i64 c1, .int .i64 c2, .int .i64 c3, .slice none 0 0] 25 (0, 0)) :=
    (hg4.block w2.heap.size (by simp) hPne).trans (heap_alloc_new w2 _)
  have hb4 : Below w.heap.size w w4 := (Below.trans (b := (w.alloc _).alloc _) (by (repeat' (first | (with_reducible exact Below.refl _ _) | (with_reducible assumption) | (with_reducible refine below_drewN ?_ _) | (with_reducible refine Below.drew ?_) | (with_reducible refine Below.alloc ?_ ?_ _) | (with_reducible refine Below.setCell ?_ ?_ _) | (refine Below.trans ?_ (Below.mono (by assumption) ?_)) | go_size))) (B2.out.mono (by omega))).trans
    (((Below.refl w.heap.size w2).alloc (by omega) _).grown hg4 (by simp; omega) (fun g hg => by have := (HO1.out.lt g hg).1; omega))
  have hsz4 : w2.heap.size < w4.heap.size := by have := hg4.size; simp at this; omega
  have HP4 := hid hP4
  have HPK := hid hpk
  have HB4 := hid hb4
  have HROW := hid hrow
  have HMR := hid hmr
  have hr4 : w4.heap[w.heap.size + 1]? = some (.cells #[.int .i64 0, .int .i64 0, .int .i64 0, .int .i64 0, .slice none 0 0] 25 (0, 0)) := by
    refine (hg4.block (w.heap.size + 1) (by simp; omega) (fun e => by have := (HO1.out.lt _ e.symm).1; omega)).trans ?_
    refine (Below.heap_alloc w2 _ _ (by omega)).trans ?_
    refine (B2.out.block _ (by omega)).trans ?_
    have := heap_alloc_new (w.alloc (.cells #[.int .i64 c0, .int .i64 c1, .int .i64 c2, .int .i64 c3] 22)) (.cells #[.int .i64 0, .int .i64 0, .int .i64 0, .int .i64 0, .slice none 0 0] 25)
    simpa using this
  have HR4 := hid hr4
  clear hr4 hmr hpk hrow hPne hP4 hb4 hown4 hg4 hv2 hsl
  go_wp2
  generalize hPe : w2.heap.size = P at *
  clear hPe
  go_loopw [18] (fun s18 wr => ∃ (k kk : Nat) (c : Ctx) (A' : Option Addr), k ≤ m.length ∧ s18 = .int .i64 k ∧ c = (m.take k).foldl packStep ⟨c0, c1, c2, c3, []⟩ ∧ clkIn c ∧ c.cloud.length ≤ k ∧
      wr.heap[P]? = some (.cells #[.int .i64 c.c0, .int .i64 c.c1, .int .i64 c.c2, .int .i64 c.c3, .slice A' c.cloud.length kk] 25 (0, 0)) ∧
      wr.ownsRow (P + 1) 27 2 (.slice A' c.cloud.length kk) c.cloud.length (dcells c.cloud) ∧ Below P w4 wr ∧ P < wr.heap.size) (fun s18 _ => m.length - (intOf s18).toNat)
  case atStart => exact ⟨0, 0, ⟨c0, c1, c2, c3, []⟩, none, by omega, rfl, by simp, HC.out, by simp, HP4.out, World.ownsRow_nil _ _ _ _, Below.refl _ _, hsz4⟩
  case round =>
    obtain ⟨k, kk, c, A', hk, rfl, hce, hcin, hcl, hP, how, hbw, hszr⟩ := hrel
    have HCE := hid hce
    have HP := hid hP
    have HOW := hid how
    have HBW := hid hbw
    by_cases hlt : k < m.length
    · obtain ⟨b, off, rfl, hb, h0, h1⟩ := (HROW.out.below hbw (Nat.le_refl _)).dot hlt
      have hrt := HMR.out m[k] (List.getElem_mem _)
      have htk := List.take_succ_eq_append_getElem hlt
      generalize hd : m[k] = d at *
      obtain ⟨n, s⟩ := d
      have hR : 0 ≤ n ∧ n < 4 ∧ 1 ≤ s ∧ s ≤ 1099511627776 := by simpa [rightB, and_assoc] using hrt
      obtain ⟨n0, n4, s0, s1⟩ := hR
      have en : wr.cell? ⟨P, n.toNat, none⟩ = some (.int .i64 (c.at_ n)) := by rw [cell_of_row wr P n.toNat _ _ _ hP, at_cell c n n0 n4]
      have fn : wr.frozen? ⟨P, n.toNat, none⟩ = false := by simp [World.frozen?, hP]
      have e4 : wr.cell? ⟨P, 4, none⟩ = some (.slice A' c.cloud.length kk) := by rw [cell_of_row wr P 4 _ _ _ hP]; rfl
      have f4 : wr.frozen? ⟨P, 4, none⟩ = false := by simp [World.frozen?, hP]
      have ha := at_in hcin n
      have HTK := hid htk
      have HCIN := hid hcin
      have HST := hid (packStep_in hcin hrt)
      clear hce hcin hP how hbw hd hrt htk
      obtain ⟨a0, a1⟩ := ha
      have hb2 : b < wr.heap.size := by omega
      have hb3 : b < wr.heap.size + 1 := by omega
      have hne1 : (P = wr.heap.size) = False := by simp; omega
      have zw : IntKind.i64.wrap (c.at_ n + 1) = c.at_ n + 1 := IntWalk.i64_in _ (by omega)
      simp only at h0 h1
      generalize hat : c.at_ n = a at *
      have HAT := hid hat
      clear hat
      by_cases q1 : s ≤ a
      · go_wp2
        go_roundw
        case rel =>
          refine ⟨k + 1, kk, c, A', by omega, by go_num, ?_, HCIN.out, by omega, (Below.heap_alloc wr _ P hszr).trans HP.out, HOW.out.alloc _, by have := HBW.out; (repeat' (first | (with_reducible exact Below.refl _ _) | (with_reducible assumption) | (with_reducible refine below_drewN ?_ _) | (with_reducible refine Below.drew ?_) | (with_reducible refine Below.alloc ?_ ?_ _) | (with_reducible refine Below.setCell ?_ ?_ _) | (refine Below.trans ?_ (Below.mono (by assumption) ?_)) | go_size)), by simp; omega⟩
          rw [HTK.out, List.foldl_append, ← HCE.out]
          simp only [List.foldl_cons, List.foldl_nil, packStep]
          rw [if_pos (by rw [HAT.out]; exact q1)]
        case measure => simp [intOf]; omega
      · by_cases q2 : s = a + 1
        · have q3 : (s == a + 1) = true := by simp [q2]
          have Q2 := hid q2
          have q4 : ¬ (s ≤ a) := q1
          clear q2
          go_wp2
          go_roundw
          case rel =>
            refine ⟨k + 1, kk, c.inc n, A', by omega, by go_num, ?_, ?_, by rw [inc_cloud]; omega, ?_, ?_, ?_, by simp; omega⟩
            · rw [HTK.out, List.foldl_append, ← HCE.out]
              simp only [List.foldl_cons, List.foldl_nil, packStep]
              rw [if_neg (by rw [HAT.out]; exact q4), if_pos (by rw [HAT.out]; exact Q2.out)]
            · have := HST.out
              simp only [packStep] at this
              rwa [if_neg (by rw [HAT.out]; exact q4), if_pos (by rw [HAT.out]; exact Q2.out)] at this
            · have e := heap_setCell_same wr P n.toNat _ _ (.int .i64 (a + 1)) HP.out
              have e2 := inc_cells c n n0 n4 (.slice A' c.cloud.length kk)
              rw [HAT.out] at e2
              rw [e2] at e
              rw [inc_cloud]
              exact (Below.heap_alloc _ _ P (by simp; omega)).trans e
            · rw [inc_cloud]
              exact (ownsRow_setCell_below HOW.out (Nat.lt_succ_self P) _).alloc _
            · have := HBW.out
              (repeat' (first | (with_reducible exact Below.refl _ _) | (with_reducible assumption) | (with_reducible refine below_drewN ?_ _) | (with_reducible refine Below.drew ?_) | (with_reducible refine Below.alloc ?_ ?_ _) | (with_reducible refine Below.setCell ?_ ?_ _) | (refine Below.trans ?_ (Below.mono (by assumption) ?_)) | go_size))
          case measure => simp [intOf]; omega
        · have q3 : (s == a + 1) = false := by simp [q2]
          clear q2
          have hob : ∀ g, (Value.slice A' c.cloud.length kk).ownBlock = some g → P + 1 ≤ g := fun g hg => (HOW.out.lt g hg).1
          have HOB := hid hob
          clear hob
          go_wp2_with (at_builtin; refine wpList_append_lies _ rfl _ _ 23 rfl (P + 1) 27 i0 _ 2 16 Try.underlying23 hi0 hz0 hz1 hz2 rfl (by decide) (.slice A' c.cloud.length kk) c.cloud.length (dcells c.cloud) rfl ((HOW.out.alloc _).alloc _) ⟨wr.heap.size + 1, 0, none⟩ 1 1 (dcells [(n, s)]) rfl rfl (news_new _ n s _ _ (by simp)) (dcells_one _) (by decide) ?_ ?_ ?_ (wr.heap.size + 1 + 1) (by simp) ?_; rotate_right; intro g5 cap5 w5 hown5 hg5 hat5 hlt5; have hP5 := (hg5.block P (by simp; omega) (fun e => by have := HOB.out _ e.symm; omega)).trans ((Below.heap_alloc _ _ P (by simp; omega)).trans ((Below.heap_alloc wr _ P hszr).trans HP.out)); have e5 : w5.cell? ⟨P, 4, none⟩ = some (.slice A' c.cloud.length kk) := (cell_of_row w5 P 4 _ _ _ hP5).trans rfl; have f5 : w5.frozen? ⟨P, 4, none⟩ = false := frozen_of_row w5 P 4 _ _ hP5; have HP5 := hid hP5; clear hP5; rotate_left; (simp only [maxLen]; omega); (omega); (simp; omega))
          go_roundw
          case rel =>
            have e5 := heap_setCell_same w5 P 4 _ _ (.slice (some ⟨g5, 0, none⟩) (c.cloud.length + 1) cap5) HP5.out
            refine ⟨k + 1, cap5, { c with cloud := c.cloud ++ [(n, s)] }, some ⟨g5, 0, none⟩, by omega, by go_num, ?_, HCIN.out, by simp; omega, ?_, ?_, ?_, ?_⟩
            · rw [HTK.out, List.foldl_append, ← HCE.out]
              simp only [List.foldl_cons, List.foldl_nil, packStep]
              rw [if_neg (by rw [HAT.out]; exact q1), if_neg (by rw [HAT.out]; simpa using q3)]
            · simpa using e5
            · have e6 := ownsRow_setCell_below hown5 (a := ⟨P, 4, none⟩) (Nat.lt_succ_self P) (.slice (some ⟨g5, 0, none⟩) (c.cloud.length + 1) cap5)
              simpa [dcells] using e6
            · have hB := HBW.out
              have hB5 : Below P w4 w5 := (((hB.alloc (by omega) _).alloc (by simp; omega) _).grown hg5 (by simp; omega) (fun g hg => by have := HOB.out g hg; omega))
              exact hB5.setCell (Nat.le_refl _) _
            · have := hg5.size; simp at this ⊢; omega
          case measure => simp [intOf]; omega
    · have hkm : k = m.length := by omega
      have hfin : c = m.foldl packStep ⟨c0, c1, c2, c3, []⟩ := by rw [hce, hkm, List.take_length]
      have HF := hid hfin
      have e0 : wr.cell? ⟨P, 0, none⟩ = some (.int .i64 c.c0) := (cell_of_row wr P 0 _ _ _ hP).trans rfl
      have e1 : wr.cell? ⟨P, 1, none⟩ = some (.int .i64 c.c1) := (cell_of_row wr P 1 _ _ _ hP).trans rfl
      have e2 : wr.cell? ⟨P, 2, none⟩ = some (.int .i64 c.c2) := (cell_of_row wr P 2 _ _ _ hP).trans rfl
      have e3 : wr.cell? ⟨P, 3, none⟩ = some (.int .i64 c.c3) := (cell_of_row wr P 3 _ _ _ hP).trans rfl
      have e4 : wr.cell? ⟨P, 4, none⟩ = some (.slice A' c.cloud.length kk) := (cell_of_row wr P 4 _ _ _ hP).trans rfl
      have hR := (hbw.block (w.heap.size + 1) (by omega)).trans HR4.out
      have r0 : wr.cell? ⟨w.heap.size + 1, 0, none⟩ = some (.int .i64 0) := (cell_of_row wr _ 0 _ _ _ hR).trans rfl
      have r1 : wr.cell? ⟨w.heap.size + 1, 1, none⟩ = some (.int .i64 0) := (cell_of_row wr _ 1 _ _ _ hR).trans rfl
      have r2 : wr.cell? ⟨w.heap.size + 1, 2, none⟩ = some (.int .i64 0) := (cell_of_row wr _ 2 _ _ _ hR).trans rfl
      have r3 : wr.cell? ⟨w.heap.size + 1, 3, none⟩ = some (.int .i64 0) := (cell_of_row wr _ 3 _ _ _ hR).trans rfl
      have r4 : wr.cell? ⟨w.heap.size + 1, 4, none⟩ = some (.slice none 0 0) := (cell_of_row wr _ 4 _ _ _ hR).trans rfl
      have f0 := fun j => frozen_of_row wr (w.heap.size + 1) j _ _ hR
      have HRR := hid hR
      clear hce hkm hfin hcin hP how hbw hR
      go_wp2
      have hq := HPK.out.trans HF.out.symm
      have hle : w.heap.size + 1 < P + 1 := by omega
      have hle2 : w.heap.size ≤ w.heap.size + 1 := by omega
      have hW := heap_setCell_same _ (w.heap.size + 1) 4 _ _ (.slice A' c.cloud.length kk) (heap_setCell_same _ (w.heap.size + 1) 3 _ _ (.int .i64 c.c3) (heap_setCell_same _ (w.heap.size + 1) 2 _ _ (.int .i64 c.c2) (heap_setCell_same _ (w.heap.size + 1) 1 _ _ (.int .i64 c.c1) (heap_setCell_same wr (w.heap.size + 1) 0 _ _ (.int .i64 c.c0) HRR.out))))
      have hO := ownsRow_setCell_below (ownsRow_setCell_below (ownsRow_setCell_below (ownsRow_setCell_below (ownsRow_setCell_below HOW.out (a := ⟨w.heap.size + 1, 0, none⟩) hle (.int .i64 c.c0)) (a := ⟨w.heap.size + 1, 1, none⟩) hle (.int .i64 c.c1)) (a := ⟨w.heap.size + 1, 2, none⟩) hle (.int .i64 c.c2)) (a := ⟨w.heap.size + 1, 3, none⟩) hle (.int .i64 c.c3)) (a := ⟨w.heap.size + 1, 4, none⟩) hle (.slice A' c.cloud.length kk)
      have hB := ((((((HB4.out.trans (HBW.out.mono (by omega))).setCell (p := ⟨w.heap.size + 1, 0, none⟩) hle2 (.int .i64 c.c0)).setCell (p := ⟨w.heap.size + 1, 1, none⟩) hle2 (.int .i64 c.c1)).setCell (p := ⟨w.heap.size + 1, 2, none⟩) hle2 (.int .i64 c.c2)).setCell (p := ⟨w.heap.size + 1, 3, none⟩) hle2 (.int .i64 c.c3)).setCell (p := ⟨w.heap.size + 1, 4, none⟩) hle2 (.slice A' c.cloud.length kk))
      generalize ((((wr.setCell ⟨w.heap.size + 1, 0, none⟩ (.int .i64 c.c0)).setCell ⟨w.heap.size + 1, 1, none⟩ (.int .i64 c.c1)).setCell ⟨w.heap.size + 1, 2, none⟩ (.int .i64 c.c2)).setCell ⟨w.heap.size + 1, 3, none⟩ (.int .i64 c.c3)).setCell ⟨w.heap.size + 1, 4, none⟩ (.slice A' c.cloud.length kk) = W5 at *
      have q0 : W5.cell? ⟨w.heap.size + 1, 0, none⟩ = some (.int .i64 c.c0) := (cell_of_row W5 _ 0 _ _ _ hW).trans rfl
      have q1 : W5.cell? ⟨w.heap.size + 1, 1, none⟩ = some (.int .i64 c.c1) := (cell_of_row W5 _ 1 _ _ _ hW).trans rfl
      have q2 : W5.cell? ⟨w.heap.size + 1, 2, none⟩ = some (.int .i64 c.c2) := (cell_of_row W5 _ 2 _ _ _ hW).trans rfl
      have q3 : W5.cell? ⟨w.heap.size + 1, 3, none⟩ = some (.int .i64 c.c3) := (cell_of_row W5 _ 3 _ _ _ hW).trans rfl
      have q4 : W5.cell? ⟨w.heap.size + 1, 4, none⟩ = some (.slice A' c.cloud.length kk) := (cell_of_row W5 _ 4 _ _ _ hW).trans rfl
      refine bodyPost_ret (v := cval c A' kk) (by simp [results, Try.results64, go_sem, q0, q1, q2, q3, q4]) rfl ⟨A', kk, by rw [hq], ?_, hB, own_new hO (by omega)⟩
      rw [hq]
      exact Row.of_own hO
end Go.Proofs.Ytogegnikpjcpdaa
