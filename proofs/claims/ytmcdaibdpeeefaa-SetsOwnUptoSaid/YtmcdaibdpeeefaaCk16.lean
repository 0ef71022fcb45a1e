/- Spo, Spp, Sps, Cop, So, FrameU, OpenV -/
import Derived.Test.YtmcdaibdpeeefaaCk14
import Derived.Test.YtmcdaibdpeeefaaCk07
import Derived.Test.YtmcdaibdpeeefaaCk05
import Derived.JoinedCond
/- viewkeep.spoil: a list written over, its room too. -/
namespace Go.Proofs.Ytmcdaibdpeeefaa
set_option linter.unusedVariables false
set_option linter.unusedSimpArgs false
open Go.ChangeShapes Go.WideShapes Go.ChangeAt Go.RowKit

theorem own_full {w : World} {B n c s : Nat} {T : TypeId} {A : Option Addr} {xs : List Value} (h : w.ownsRow B T s (.slice A n c) n xs) : ∃ ys, w.ownsRow B T s (.slice A c c) c ys := by
  rcases h.2 with ⟨e, h0⟩ | ⟨g, cap, cur, e, hb, hg, hnc, hcm, hcs, htake⟩
  · injection e with e1 e2 e3
    subst e1 e3
    exact ⟨[], World.ownsRow_nil _ _ _ _⟩
  · injection e with e1 e2 e3
    subst e1 e3
    refine ⟨cur.toList, by simpa using hcs, .inr ⟨g, c, cur, rfl, hb, hg, Nat.le_refl _, hcm, hcs, ?_⟩⟩
    rw [← hcs, ← Array.length_toList, List.take_length]
theorem own_is {w : World} {B n c s : Nat} {T : TypeId} {A : Option Addr} {xs : List Value} (h : w.ownsRow B T s (.slice A n c) n xs) : (A = none ∧ n = 0 ∧ c = 0) ∨ ∃ g, A = some ⟨g, 0, none⟩ ∧ B ≤ g ∧ g < w.heap.size := by
  rcases h.2 with ⟨e, h0⟩ | ⟨g, cap, cur, e, hb, hg, -⟩
  · injection e with e1 e2 e3
    exact .inl ⟨e1, h0, e3⟩
  · injection e with e1 e2 e3
    refine .inr ⟨g, e1, hb, ?_⟩
    have := h.lt g (by rw [e1]; rfl)
    exact this.2

theorem grown_refl' (w : World) (row : Option Nat) : w.grownBy w row := ⟨rfl, rfl, rfl, Nat.le_refl _, fun _ _ _ => rfl⟩
theorem grown_trans' {w w1 w2 : World} {row : Option Nat} (h1 : w.grownBy w1 row) (h2 : w1.grownBy w2 row) : w.grownBy w2 row :=
  ⟨h2.os.trans h1.os, h2.tape.trans h1.tape, h2.output.trans h1.output, Nat.le_trans h1.size h2.size, fun k hk hne => (h2.block k (Nat.lt_of_lt_of_le hk h1.size) hne).trans (h1.block k hk hne)⟩

set_option maxHeartbeats 400000 in
set_option maxRecDepth 100000 in
theorem spoilN_any {B n c : Nat} {A : Option Addr} {xs : List Value} (x : Int) (w : World) (h : w.ownsRow B 3 1 (.slice A n c) n xs) :
    Calls Try.prog 26 #[.slice A n c, .int .i64 x] w fun e w' => e = .returned (.tuple #[]) ∧ (∃ ys, w'.ownsRow B 3 1 (.slice A c c) c ys) ∧ w.grownBy w' (Value.slice A n c).ownBlock := by
  obtain ⟨ys, hf⟩ := own_full h
  rcases own_is h with ⟨rfl, rfl, rfl⟩ | ⟨g, rfl, hg, hgl⟩
  · go_enter Try.func26, Try.ntmps26
    go_wp2_with fail
    -- STOP-a
    refine wp_loop_rounds 1 ?_
    rw [rounds_succ]
    go_wp2_with fail
    first | (refine bodyPost_ret (results_none rfl _ _ _) rfl ?_) | (refine bodyPost_end (results_none rfl _ _ _) rfl ?_)
    exact ⟨rfl, ⟨[], World.ownsRow_nil _ _ _ _⟩, grown_refl' _ _⟩
  · have HF := hid hf
    clear h hf
    go_enter Try.func26, Try.ntmps26
    go_wp2_with fail
    -- STOP-b
    go_loopw [11] (fun s11 wr => ∃ (i : Nat) (zs : List Value), i ≤ c ∧ s11 = .int .i64 i ∧ Hid (wr.ownsRow B 3 1 (.slice (some ⟨g, 0, none⟩) c c) c zs) ∧ Hid (w.grownBy wr (some g))) (fun s11 _ => c - (intOf s11).toNat)
    case atStart => exact ⟨0, ys, by omega, rfl, HF, hid (grown_refl' _ _)⟩
    case round =>
      obtain ⟨i, zs, hi, rfl, HO, HG⟩ := hrel
      have hcm := (own_capS HO.out).2
      simp only [maxLen] at hcm
      by_cases hlt : i < c
      · have hil : i < zs.length := by have := HO.out.1; omega
        have hce := HO.out.cellAt i (by omega)
        rw [List.getElem?_eq_getElem hil] at hce
        have hfz := HO.out.frozenAt i
        have hlt' : (i : Int) < (c : Int) := by omega
        generalize zs[i] = z at hce
        have HS := hid (HO.out.stored i (.int .i64 x))
        go_wp2_with fail
        -- STOP-c
        go_roundw
        case rel => exact ⟨i + 1, _, by omega, by go_num, hid HS.out.1, hid (grown_trans' HG.out HS.out.2)⟩
        case measure => simp [intOf]; omega
      · have hic : i = c := by omega
        subst hic
        go_wp2_with fail
        first | (refine bodyPost_ret (results_none rfl _ _ _) rfl ?_) | (refine bodyPost_end (results_none rfl _ _ _) rfl ?_)
        exact ⟨rfl, ⟨zs, HO.out⟩, HG.out⟩
def nilI (c : Nat) : List IR := List.replicate c ⟨[], none, 0, 9⟩
theorem nilI_len (c : Nat) : (nilI c).length = c := List.length_replicate ..

set_option maxHeartbeats 400000 in
set_option maxRecDepth 100000 in
theorem spoilI_any {B n c : Nat} {A : Option Addr} {xs : List Value} (w : World) (h : w.ownsRow B 28 2 (.slice A n c) n xs) :
    Calls Try.prog 50 #[.slice A n c, .agg #[.slice none 0 0, .int .i64 9]] w fun e w' => e = .returned (.tuple #[]) ∧ w'.ownsRow B 28 2 (.slice A c c) c (rcells (nilI c)) ∧ w.grownBy w' (Value.slice A n c).ownBlock := by
  obtain ⟨ys, hf⟩ := own_full h
  rcases own_is h with ⟨rfl, rfl, rfl⟩ | ⟨g, rfl, hg, hgl⟩
  · go_enter Try.func50, Try.ntmps50
    go_wp2_with fail
    -- STOP-d
    refine wp_loop_rounds 1 ?_
    rw [rounds_succ]
    go_wp2_with fail
    go_returns
    exact ⟨rfl, World.ownsRow_nil _ _ _ _, grown_of_below (alloc_below (Below.refl _ _) _)⟩
  · have HF := hid hf
    clear h hf
    obtain ⟨W, hW⟩ : ∃ W : World, W = w.alloc (.cells #[.slice none 0 0, .int .i64 9] 28) := ⟨_, rfl⟩
    have HX := hid (show Blk W w.heap.size #[.slice none 0 0, .int .i64 9] 28 by rw [hW]; exact Blk.new _ _ _)
    have HF2 : Hid (W.ownsRow B 28 2 (.slice (some ⟨g, 0, none⟩) c c) c ys) := hid (by rw [hW]; exact HF.out.alloc _)
    have HGW : Hid (w.grownBy W (some g)) := hid (by rw [hW]; exact ⟨rfl, rfl, rfl, by simp, fun k hk _ => (alloc_below (Below.refl w.heap.size w) _).block k hk⟩)
    go_enter Try.func50, Try.ntmps50
    go_wp2_with fail
    -- STOP-e
    rw [← hW]
    clear hW
    go_loopw [11] (fun s11 wr => ∃ (i : Nat) (zs : List Value), i ≤ c ∧ s11 = .int .i64 i ∧ Hid (wr.ownsRow B 28 2 (.slice (some ⟨g, 0, none⟩) c c) c zs) ∧ Hid (zs.take (i * 2) = rcells (nilI i)) ∧ Hid (W.grownBy wr (some g)) ∧ Hid (Blk wr w.heap.size #[.slice none 0 0, .int .i64 9] 28)) (fun s11 _ => c - (intOf s11).toNat)
    case atStart => exact ⟨0, ys, by omega, rfl, HF2, hid (by simp [nilI, rcells]), hid (grown_refl' _ _), HX⟩
    case round =>
      obtain ⟨i, zs, hi, rfl, HO, HZ, HG, HXR⟩ := hrel
      have hcm := (own_capS HO.out).2
      simp only [maxLen] at hcm
      by_cases hlt : i < c
      · have hzl := HO.out.1
        have hce := HO.out.cellAt (i * 2) (by omega)
        have hce1 := HO.out.cellAt (i * 2 + 1) (by omega)
        rw [List.getElem?_eq_getElem (show i * 2 < zs.length by omega)] at hce
        rw [List.getElem?_eq_getElem (show i * 2 + 1 < zs.length by omega)] at hce1
        have hfz := HO.out.frozenAt (i * 2)
        have hfz1 := HO.out.frozenAt (i * 2 + 1)
        have hlt' : (i : Int) < (c : Int) := by omega
        generalize zs[i * 2] = z at hce
        generalize zs[i * 2 + 1] = z1 at hce1
        have hne1 : (i * 2 = i * 2 + 1) = False := by simp
        have hne2 : (i * 2 + 1 = i * 2) = False := by simp
        have hng : (w.heap.size = g) = False := by simp; omega
        have HS := hid (HO.out.stored (i * 2) (.slice none 0 0))
        have HS2 := hid (HS.out.1.stored (i * 2 + 1) (.int .i64 9))
        have HZL := hid hzl
        clear hzl
        obtain ⟨cHXR, fHXR, sHXR, nHXR⟩ := HXR.out.all
        try simp only [cbox] at cHXR
        go_wp2_with fail
        -- STOP-f
        go_roundw
        case rel =>
          refine ⟨i + 1, _, by omega, by go_num, hid HS2.out.1, hid ?_, hid (grown_trans' HG.out (grown_trans' HS.out.2 HS2.out.2)), hid ((HXR.out.other (a := ⟨g, i * 2, none⟩) (by simp; omega) _).other (a := ⟨g, i * 2 + 1, none⟩) (by simp; omega) _)⟩
          have hzl := HZL.out
          have h1 : ((zs.set (i * 2) (.slice none 0 0)).set (i * 2 + 1) (.int .i64 9)).take ((i + 1) * 2) = zs.take (i * 2) ++ [.slice none 0 0, .int .i64 9] := by
            apply List.ext_getElem?
            intro j
            rw [List.getElem?_take, List.getElem?_append, List.length_take, Nat.min_eq_left (by omega)]
            by_cases q : j < i * 2
            · rw [if_pos (by omega), if_pos q, List.getElem?_set_ne (by omega), List.getElem?_set_ne (by omega), List.getElem?_take, if_pos q]
            · rw [if_neg q]
              by_cases q2 : j = i * 2
              · subst q2
                rw [if_pos (by omega), List.getElem?_set_ne (by omega), List.getElem?_set_self (by omega)]; simp
              · by_cases q3 : j = i * 2 + 1
                · subst q3
                  rw [if_pos (by omega), List.getElem?_set_self (by simp; omega)]; simp
                · rw [if_neg (by omega), List.getElem?_eq_none (by simp; omega)]
          rw [h1, HZ.out, nilI, nilI, List.replicate_succ', rcells_app]
          rfl
        case measure => simp [intOf]; omega
      · have hic : i = c := by omega
        subst hic
        go_wp2_with fail
        -- STOP-g
        go_returns
        have hzl := HO.out.1
        have hz := HZ.out
        rw [List.take_of_length_le (by omega)] at hz
        rw [hz] at HO
        exact ⟨rfl, HO.out, grown_trans' HGW.out HG.out⟩
end Go.Proofs.Ytmcdaibdpeeefaa
/- What a spoiling leaves: plain words. -/
namespace Go.Proofs.Ytmcdaibdpeeefaa
set_option linter.unusedVariables false
set_option linter.unusedSimpArgs false
open Go.ChangeShapes Go.WideShapes Go.ChangeAt Go.RowKit

/-- A row of ints with room that may be written over. -/
def SpoN (w : World) (lo : Nat) (A : Option Addr) (n c : Nat) : Prop := ∃ xs, w.ownsRow lo 3 1 (.slice A n c) n xs
/-- A list of items with room that may be written over, and its rows too. -/
def SpoI (w : World) (lo : Nat) (A : Option Addr) (n c : Nat) : Prop :=
  ∃ M : List IR, M.length = n ∧ w.ownsRow lo 28 2 (.slice A n c) n (rcells M) ∧ ∀ x ∈ M, SpoN w lo x.A x.row.length x.k
/-- Blocks of ints keep their size. -/
def IntsAs (w w' : World) : Prop := ∀ (g : Nat) (cur : Array Value) (d : Nat × Nat), w.heap[g]? = some (Obj.cells cur 3 d) → ∃ cur' : Array Value, w'.heap[g]? = some (Obj.cells cur' 3 d) ∧ cur'.size = cur.size
/-- Blocks of a type stand. -/
def Stand (T : TypeId) (w w' : World) : Prop := ∀ (g : Nat) (cur : Array Value) (d : Nat × Nat), w.heap[g]? = some (Obj.cells cur T d) → w'.heap[g]? = some (Obj.cells cur T d)
/-- What stands behind a spoiling. -/
structure Spoiled (lo : Nat) (w w' : World) : Prop where
  below : Below lo w w'
  other : ∀ T, T ≠ 3 → T ≠ 28 → Stand T w w'
  ints : IntsAs w w'
  sets : ∀ A n c, SpoI w lo A n c → SpoI w' lo A n c
theorem Stand.trans {T : TypeId} {w w1 w2 : World} (h : Stand T w w1) (h' : Stand T w1 w2) : Stand T w w2 := fun g cur d e => h' g cur d (h g cur d e)
theorem IntsAs.trans {w w1 w2 : World} (h : IntsAs w w1) (h' : IntsAs w1 w2) : IntsAs w w2 := fun g cur d e => by
  obtain ⟨c1, e1, s1⟩ := h g cur d e
  obtain ⟨c2, e2, s2⟩ := h' g c1 d e1
  exact ⟨c2, e2, s2.trans s1⟩
theorem Stand.ints {w w' : World} (h : Stand 3 w w') : IntsAs w w' := fun g cur d e => ⟨cur, h g cur d e, rfl⟩
theorem Spoiled.refl (lo : Nat) (w : World) : Spoiled lo w w := ⟨Below.refl _ _, fun T _ _ g cur d e => e, fun g cur d e => ⟨cur, e, rfl⟩, fun A n c h => h⟩
theorem Spoiled.trans {lo : Nat} {w w1 w2 : World} (h : Spoiled lo w w1) (h' : Spoiled lo w1 w2) : Spoiled lo w w2 :=
  ⟨Below.trans h.below h'.below, fun T q1 q2 => (h.other T q1 q2).trans (h'.other T q1 q2), h.ints.trans h'.ints, fun A n c q => h'.sets A n c (h.sets A n c q)⟩
theorem lt_of_cells {w : World} {g : Nat} {o : Obj} (h : w.heap[g]? = some o) : g < w.heap.size := by
  rcases Nat.lt_or_ge g w.heap.size with q | q
  · exact q
  · rw [Array.getElem?_eq_none q] at h; cases h
theorem Stand.grown {T : TypeId} {w w' : World} {r : Option Nat} (hg : w.grownBy w' r) (hr : ∀ (g : Nat) (cur : Array Value) (d : Nat × Nat), w.heap[g]? = some (Obj.cells cur T d) → some g ≠ r) : Stand T w w' := fun g cur d e => (hg.block g (lt_of_cells e) (hr g cur d e)).trans e
theorem Stand.below {T : TypeId} {w w' : World} (hb : Below w.heap.size w w') : Stand T w w' := Stand.grown (grown_of_below hb) (fun g cur d e q => by cases q)
theorem own_type {w : World} {B n s g : Nat} {T : TypeId} {v : Value} {xs : List Value} (h : w.ownsRow B T s v n xs) (e : v.ownBlock = some g) : ∃ cap cur, B ≤ g ∧ w.heap[g]? = some (Obj.cells cur T (0, 0)) ∧ v = .slice (some ⟨g, 0, none⟩) n cap ∧ n ≤ cap ∧ cap ≤ maxLen ∧ cur.size = cap * s ∧ cur.toList.take (n * s) = xs := by
  rcases h.2 with ⟨q, -⟩ | ⟨b, cap, cur, q, hb, hg, h1, h2, h3, h4⟩
  · rw [q] at e; simp [Value.ownBlock] at e
  · have : b = g := by rw [q] at e; simpa [Value.ownBlock] using e
    subst this
    exact ⟨cap, cur, hb, hg, q, h1, h2, h3, h4⟩
theorem Stand.ofOwn {T T' : TypeId} {w w' : World} {B n s : Nat} {v : Value} {xs : List Value} (h : w.ownsRow B T' s v n xs) (hT : T ≠ T') (hg : w.grownBy w' v.ownBlock) : Stand T w w' :=
  Stand.grown hg fun g cur d e q => by
    obtain ⟨cap, cur', -, h2, -⟩ := own_type h q.symm
    rw [e] at h2
    injection h2 with h2
    injection h2 with _ h2 _
    exact hT h2
theorem own_stand {w w' : World} {B n s : Nat} {T : TypeId} {v : Value} {xs : List Value} (h : w.ownsRow B T s v n xs) (hs : Stand T w w') : w'.ownsRow B T s v n xs := by
  obtain ⟨h1, h2⟩ := h
  refine ⟨h1, ?_⟩
  rcases h2 with h2 | ⟨b, cap, cur, e, hb, hgt, h3⟩
  · exact .inl h2
  · exact .inr ⟨b, cap, cur, e, hb, hs _ _ _ hgt, h3⟩
theorem SpoN.ints {w w' : World} {lo n c : Nat} {A : Option Addr} (h : SpoN w lo A n c) (hi : IntsAs w w') : SpoN w' lo A n c := by
  obtain ⟨xs, h1, h2⟩ := h
  rcases h2 with ⟨e, h0⟩ | ⟨g, cap, cur, e, hb, hg, hnc, hcm, hcs, ht⟩
  · injection e with e1 e2 e3
    subst e1 e3 h0; exact ⟨[], World.ownsRow_nil _ _ _ _⟩
  · obtain ⟨cur', e', s'⟩ := hi g cur _ hg
    refine ⟨cur'.toList.take (n * 1), by rw [List.length_take, Array.length_toList, s', hcs]; omega, .inr ⟨g, cap, cur', e, hb, e', hnc, hcm, by rw [s', hcs], rfl⟩⟩
theorem SpoI.keep {w w' : World} {lo n c : Nat} {A : Option Addr} (h : SpoI w lo A n c) (hs : Stand 28 w w') (hi : IntsAs w w') : SpoI w' lo A n c := by
  obtain ⟨M, h1, h2, h3⟩ := h
  exact ⟨M, h1, own_stand h2 hs, fun x hx => (h3 x hx).ints hi⟩
theorem ne_int_item : 3 ≠ 28 := by decide
theorem Spoiled.ofN {lo n c : Nat} {w w' : World} {A : Option Addr} (hl : lo ≤ w.heap.size) (h : SpoN w lo A n c) (h' : SpoN w' lo A c c) (hg : w.grownBy w' (Value.slice A n c).ownBlock) : Spoiled lo w w' := by
  obtain ⟨xs, h⟩ := h
  obtain ⟨ys, h'⟩ := h'
  have hi : IntsAs w w' := fun g cur d e => by
    by_cases q : (Value.slice A n c).ownBlock = some g
    · obtain ⟨cap, cur1, -, e1, f1, -, -, s1, -⟩ := own_type h q
      injection f1 with f1 f2 f3
      subst f1
      obtain ⟨cap', cur2, -, e2, f2', -, -, s2, -⟩ := own_type h' (g := g) rfl
      injection f2' with _ _ f2'
      rw [e] at e1
      injection e1 with e1
      injection e1 with e1 _ e3
      subst e1 e3 f3
      exact ⟨cur2, e2, by rw [s2, s1, f2']⟩
    · exact ⟨cur, (hg.block g (lt_of_cells e) fun e2 => q e2.symm).trans e, rfl⟩
  exact ⟨(Below.refl lo w).grown hg hl (fun g e => (h.lt g e).1), fun T q1 q2 => Stand.ofOwn h q1 hg, hi, fun A' n' c' q => q.keep (Stand.ofOwn h (fun e => ne_int_item e.symm) hg) hi⟩
theorem rcells_nilI (c n : Nat) (h : n ≤ c) : (rcells (nilI c)).take (n * 2) = rcells (nilI n) := by
  rw [show c = n + (c - n) by omega, nilI, ← List.replicate_append_replicate, rcells_app]
  exact List.take_left' (by rw [rcells_len, List.length_replicate])
theorem Spoiled.ofI {lo n c : Nat} {w w' : World} {A : Option Addr} {xs : List Value} (hl : lo ≤ w.heap.size) (h : w.ownsRow lo 28 2 (.slice A n c) n xs) (h' : w'.ownsRow lo 28 2 (.slice A c c) c (rcells (nilI c))) (hg : w.grownBy w' (Value.slice A n c).ownBlock) : Spoiled lo w w' := by
  have hi : IntsAs w w' := (Stand.ofOwn h ne_int_item hg).ints
  refine ⟨(Below.refl lo w).grown hg hl (fun g e => (h.lt g e).1), fun T q1 q2 => Stand.ofOwn h q2 hg, hi, fun A' n' c' q => ?_⟩
  obtain ⟨M, q1, q2, q3⟩ := q
  by_cases e : ∃ g, (Value.slice A n c).ownBlock = some g ∧ (Value.slice A' n' c').ownBlock = some g
  · obtain ⟨g, e1, e2⟩ := e
    obtain ⟨cap1, cur1, b1, g1, f1, -, -, s1, -⟩ := own_type h e1
    obtain ⟨cap2, cur2, b2, g2, f2, l2, m2, s2, -⟩ := own_type q2 e2
    injection f1 with f1 _ f1'
    injection f2 with f2 _ f2'
    subst f1 f2 f1' f2'
    obtain ⟨cap3, cur3, b3, g3, f3, l3, m3, s3, t3⟩ := own_type h' (g := g) rfl
    injection f3 with _ _ f3
    subst f3
    rw [g1] at g2
    injection g2 with g2
    injection g2 with g2 _ _
    subst g2
    have hc : c' = c := by omega
    subst hc
    refine ⟨nilI n', nilI_len n', ⟨by rw [rcells_len, nilI_len], .inr ⟨g, c', cur3, rfl, b2, g3, l2, m2, s3, ?_⟩⟩, fun x hx => ?_⟩
    · rw [← rcells_nilI c' n' l2, ← t3, List.take_take, Nat.min_eq_left (by omega)]
    · rw [(List.mem_replicate.1 hx).2]
      exact ⟨[], World.ownsRow_nil _ _ _ _⟩
  · refine ⟨M, q1, own_ne_grown q2 hg fun b e2 e3 => e ⟨b, e3.symm, e2⟩, fun x hx => (q3 x hx).ints hi⟩
theorem Spoiled.ofBelow {lo : Nat} {w w' : World} (hl : lo ≤ w.heap.size) (hb : Below w.heap.size w w') : Spoiled lo w w' :=
  ⟨hb.mono hl, fun T _ _ => Stand.below hb, (Stand.below hb).ints, fun A n c h => h.keep (Stand.below hb) (Stand.below hb).ints⟩
/-- What lies from mid on stands. -/
def Kept (mid : Nat) (w w' : World) : Prop := w.heap.size ≤ w'.heap.size ∧ ∀ k, mid ≤ k → k < w.heap.size → w'.heap[k]? = w.heap[k]?
theorem Kept.refl (mid : Nat) (w : World) : Kept mid w w := ⟨Nat.le_refl _, fun _ _ _ => rfl⟩
theorem Kept.trans {mid : Nat} {w w1 w2 : World} (h : Kept mid w w1) (h' : Kept mid w1 w2) : Kept mid w w2 := ⟨Nat.le_trans h.1 h'.1, fun k q1 q2 => (h'.2 k q1 (Nat.lt_of_lt_of_le q2 h.1)).trans (h.2 k q1 q2)⟩
theorem Kept.grown {mid : Nat} {w w' : World} {r : Option Nat} (hg : w.grownBy w' r) (hr : ∀ g, r = some g → g < mid) : Kept mid w w' := ⟨hg.size, fun k q1 q2 => hg.block k q2 fun e => by have := hr k e.symm; omega⟩
theorem Kept.ofBelow {mid : Nat} {w w' : World} (hb : Below w.heap.size w w') : Kept mid w w' := ⟨hb.size, fun k _ q => hb.block k q⟩
theorem ownBlock_lt {w : World} {lo n c s mid : Nat} {T : TypeId} {A : Option Addr} {xs : List Value} (h : w.ownsRow lo T s (.slice A n c) n xs) (hA : ∀ b off q, A = some ⟨b, off, q⟩ → b < mid) : ∀ g, (Value.slice A n c).ownBlock = some g → g < mid := fun g e => by
  obtain ⟨cap, cur, -, -, f, -⟩ := own_type h e
  injection f with f
  exact hA g 0 none f
theorem Row.kept {w w' : World} {mid : Nat} {A : Option Addr} {xs : List Value} (h : Row w w.heap.size A xs) (hk : Kept mid w w') (hA : NewAt mid A) : Row w' w'.heap.size A xs := by
  rcases h with h | ⟨b, off, h1, h2, h3⟩
  · exact .inl h
  · refine .inr ⟨b, off, h1, Nat.lt_of_lt_of_le h2 hk.1, fun j u hu => ?_⟩
    rw [World.cell?_of_block (w := w) (hk.2 b (hA b off none h1) h2)]
    exact h3 j u hu
theorem RowI.kept {w w' : World} {mid : Nat} {A : Option Addr} {M : List IR} (h : RowI w w.heap.size A M) (hk : Kept mid w w') (hA : NewAt mid A) (hM : ∀ x ∈ M, NewAt mid x.A) : RowI w' w'.heap.size A M :=
  ⟨h.1.kept hk hA, fun x hx => ⟨(h.2 x hx).1.kept hk (hM x hx), (h.2 x hx).2⟩⟩
theorem SpoI.mk {w : World} {lo lo' n c : Nat} {v : Value} {A : Option Addr} {M : List IR} (hn : n = M.length) (h : w.ownsRow lo 28 2 (.slice A n c) n (rcells M)) (hr : RowsNew w lo v M) (hl : lo' ≤ lo) : SpoI w lo' A n c :=
  ⟨M, hn.symm, own_baseS h hl, fun x hx => ⟨icells' x.row, by
    obtain ⟨q1, q2, -⟩ := hr x hx
    refine ⟨q1.own.1, ?_⟩
    rcases q1.own.2 with e | ⟨g, cap, cur, e, hb, h3⟩
    · exact .inl e
    · refine .inr ⟨g, cap, cur, e, ?_, h3⟩
      injection e with e
      exact Nat.le_trans hl (q2 g 0 none e)⟩⟩
end Go.Proofs.Ytmcdaibdpeeefaa
/- viewkeep.spoilSet. -/
namespace Go.Proofs.Ytmcdaibdpeeefaa
set_option linter.unusedVariables false
set_option linter.unusedSimpArgs false
open Go.ChangeShapes Go.WideShapes Go.ChangeAt Go.RowKit

set_option maxHeartbeats 400000 in
set_option maxRecDepth 100000 in
theorem spoilSet_any (M : List IR) (A : Option Addr) (c lo mid : Nat) (w : World) (h : w.ownsRow lo 28 2 (.slice A M.length c) M.length (rcells M)) (hr : ∀ x ∈ M, SpoN w lo x.A x.row.length x.k) (hl : lo ≤ w.heap.size)
    (hA : ∀ b off q, A = some ⟨b, off, q⟩ → b < mid) (hM : ∀ x ∈ M, ∀ b off q, x.A = some ⟨b, off, q⟩ → b < mid) :
    Calls Try.prog 25 #[.slice A M.length c] w fun e w' => e = .returned (.tuple #[]) ∧ Spoiled lo w w' ∧ Kept mid w w' := by
  have hcm := own_capS h
  simp only [maxLen] at hcm
  have HO := hid h
  have HR := hid hr
  have HA := hid hA
  have HM := hid hM
  clear h hr hA hM
  go_enter Try.func25, Try.ntmps25
  go_wp2_with fail
  -- STOP-a
  go_loopw [6] (fun s6 wr => ∃ i : Nat, i ≤ M.length ∧ s6 = .int .i64 i ∧ Hid (Spoiled lo w wr) ∧ Hid (Kept mid w wr) ∧ Hid (wr.ownsRow lo 28 2 (.slice A M.length c) M.length (rcells M))) (fun s6 _ => M.length - (intOf s6).toNat)
  case atStart => exact ⟨0, by omega, rfl, hid (Spoiled.refl _ _), hid (Kept.refl _ _), HO⟩
  case round =>
    obtain ⟨i, hi, rfl, HS, HK, HOR⟩ := hrel
    by_cases hlt : i < M.length
    · obtain ⟨b, off, rfl, hb, h0, h1⟩ := (Row.of_ownS HOR.out).it hlt
      have hmem := List.getElem_mem hlt
      have HSP := hid ((HR.out _ hmem).ints HS.out.ints)
      have HXM := hid (HM.out _ hmem)
      clear hmem
      generalize M[i] = x at *
      obtain ⟨xr, xA, xk, xn⟩ := x
      simp only at h0 h1 HSP HXM
      obtain ⟨W, hW⟩ : ∃ W : World, W = wr.alloc (.cells #[.slice xA xr.length xk, .int .i64 xn] 28) := ⟨_, rfl⟩
      have hWB : Below wr.heap.size wr W := by rw [hW]; exact alloc_below (Below.refl _ _) _
      have HWX := hid (show Blk W wr.heap.size #[.slice xA xr.length xk, .int .i64 xn] 28 by rw [hW]; exact Blk.new _ _ _)
      have hls : lo ≤ wr.heap.size := Nat.le_trans hl HS.out.below.size
      have HS2 := hid (HS.out.trans (Spoiled.ofBelow hls hWB))
      have HK2 := hid (HK.out.trans (Kept.ofBelow hWB))
      have HO2 := hid (own_laterS HOR.out hWB)
      have HSW := hid (HSP.out.ints (Stand.below hWB).ints)
      have hlW : lo ≤ W.heap.size := Nat.le_trans hls hWB.size
      have HCL := hid (spoilN_any 9 W HSW.out.choose_spec)
      clear hWB
      go_wp2_with fail
      -- STOP-b
      rw [← hW]
      clear hW h0 h1 hb
      obtain ⟨cHWX, fHWX, sHWX, nHWX⟩ := HWX.out.all
      try simp only [cbox] at cHWX
      go_wp2_with fail
      -- STOP-c
      refine HCL.out.mono ?_
      rintro e w2 ⟨rfl, hsp, hg⟩
      have HS3 := hid (HS2.out.trans (Spoiled.ofN hlW HSW.out hsp hg))
      have HK3 := hid (HK2.out.trans (Kept.grown hg (ownBlock_lt HSW.out.choose_spec HXM.out)))
      have HO3 := hid (own_stand HO2.out (Stand.ofOwn HSW.out.choose_spec (fun e => ne_int_item e.symm) hg))
      clear hsp hg HCL
      go_wp2_with fail
      go_roundw
      case rel => exact ⟨i + 1, by omega, by go_num, HS3, HK3, HO3⟩
      case measure => simp [intOf]; omega
    · have hik : i = M.length := by omega
      subst hik
      have HCL := hid (spoilI_any wr HOR.out)
      have hls : lo ≤ wr.heap.size := Nat.le_trans hl HS.out.below.size
      go_wp2_with fail
      -- STOP-d
      refine HCL.out.mono ?_
      rintro e w2 ⟨rfl, hsp, hg⟩
      go_wp2_with fail
      first | (refine bodyPost_ret (results_none rfl _ _ _) rfl ?_) | (refine bodyPost_end (results_none rfl _ _ _) rfl ?_)
      exact ⟨rfl, HS.out.trans (Spoiled.ofI hls HOR.out hsp hg), HK.out.trans (Kept.grown hg (ownBlock_lt HOR.out HA.out))⟩
end Go.Proofs.Ytmcdaibdpeeefaa
/- viewkeep.copied. -/
namespace Go.Proofs.Ytmcdaibdpeeefaa
set_option linter.unusedVariables false
set_option linter.unusedSimpArgs false
open Go.ChangeShapes Go.WideShapes Go.ChangeAt Go.RowKit

set_option maxHeartbeats 400000 in
set_option maxRecDepth 100000 in
theorem copied_any (M : List IR) (A : Option Addr) (c : Nat) (w : World) (hr : RowI w w.heap.size A M) (hl : M.length ≤ 1048576) (hn : ∀ x ∈ M, x.row.length ≤ 1048576) :
    Calls Try.prog 24 #[.slice A M.length c] w (ItsPost (its M) w) := by
  have HR := hid hr
  have HN := hid hn
  clear hr hn
  obtain ⟨X, hX⟩ : ∃ X, X = its M := ⟨_, rfl⟩
  have HX := hid hX
  rw [← hX]
  clear hX
  go_enter Try.func24, Try.ntmps24
  go_wp2_with fail
  -- STOP-a
  go_loopw [3, 8] (fun s3 s8 wr => ∃ (i : Nat) (S : List IR), i ≤ M.length ∧ s8 = .int .i64 i ∧ S.length = i ∧ Hid (its S = its (M.take i)) ∧ Hid (wr.ownsRow w.heap.size 28 2 s3 S.length (rcells S)) ∧ Hid (RowsNew wr w.heap.size s3 S) ∧ Hid (Below w.heap.size w wr)) (fun _ s8 _ => M.length - (intOf s8).toNat)
  case atStart => exact ⟨0, [], by omega, rfl, rfl, hid (by simp [its]), hid (World.ownsRow_nil _ _ _ _), hid (RowsNew.nil _ _ _), hid (Below.refl _ _)⟩
  case round =>
    obtain ⟨i, S, hi, rfl, hSi, HIS, HOWN, HNEW, HB⟩ := hrel
    obtain ⟨A6, c6, rfl⟩ := own_formS HOWN.out
    have HSI := hid hSi
    by_cases hlt : i < M.length
    · have HRR := hid (HR.out.step HB.out)
      obtain ⟨b, off, rfl, hb, h0, h1⟩ := HRR.out.1.it hlt
      have hmem := List.getElem_mem hlt
      have hx1 := HN.out _ hmem
      have hrw := (HRR.out.2 _ hmem).1
      have HST := hid (show its (M.take (i + 1)) = its (M.take i) ++ [M[i].it] by rw [List.take_succ_eq_append_getElem hlt, its, List.map_append]; rfl)
      clear hmem
      generalize M[i] = x at *
      obtain ⟨xr, xA, xk, xn⟩ := x
      simp only at h0 h1 hx1 hrw
      obtain ⟨W, hW⟩ : ∃ W : World, W = wr.alloc (.cells #[.slice xA xr.length xk, .int .i64 xn] 28) := ⟨_, rfl⟩
      have hWB : Below wr.heap.size wr W := by rw [hW]; exact alloc_below (Below.refl _ _) _
      have HWX := hid (show Blk W wr.heap.size #[.slice xA xr.length xk, .int .i64 xn] 28 by rw [hW]; exact Blk.new _ _ _)
      have HCL := hid (fun w2 (hb : Below W.heap.size W w2) => cloneI_any xr xA xk w2 (hrw.step (Below.step' hWB hb)) (by omega))
      have HOW2 := hid (own_laterS HOWN.out hWB)
      have HNW2 := hid (HNEW.out.step hWB)
      have HB2 := hid (Below.step' HB.out hWB)
      have hsW := hWB.size
      have hlS : S.length ≤ 1048576 := by omega
      have hsB := HB.out.size
      clear hWB hrw
      have HWW := hid hW
      go_wp2_with fail
      rw [← hW]
      clear hW h0 h1 hb hSi
      -- STOP-n
      obtain ⟨cx, fx, sx, nx⟩ := HWX.out.all
      have hmx : S.length + 1 ≤ maxLen := by simp only [maxLen]; omega
      have hby : (S.length + 1) * 32 ≤ 140737488355328 := by omega
      go_upto_region 5 with fail
      have hbx : wr.heap.size < W.heap.size := HWX.out.lt
      have hwW : w.heap.size ≤ W.heap.size := by omega
      go_region_held3 (fun w' => (∀ o, w'.cell? ⟨wr.heap.size, o, none⟩ = W.cell? ⟨wr.heap.size, o, none⟩) ∧ Below w.heap.size W w')
        ((go_split_ands; first | (with_reducible exact ⟨fun _ => rfl, (Below.refl _ _).drew⟩) | (with_reducible exact ⟨y5, z5⟩) | (with_reducible exact keepA hbx5 hs8 y5 z5) | (with_reducible exact ⟨y6, z6⟩)))
        (first
          | (go_split_ands; go_at_call 37; (with_reducible refine (HCL.out _ (Below.refl _ _).drew).mono ?_); rintro e w5 ⟨A5, c5, rfl, hrow5, hnew5, hin5, hb5⟩; have hB5 : Below W.heap.size W w5 := Below.step' (Below.refl _ _).drew hb5; have hs5 := hB5.size; have how5 := own_laterS HOW2.out hB5; have hnw5 := HNW2.out.step hB5; have y5 := fun o => (bcell hB5).1 wr.heap.size o hbx; have z5 : Below w.heap.size W w5 := hB5.mono hwW; have hbx5 : wr.heap.size < w5.heap.size := Nat.lt_of_lt_of_le hbx hs5; have hs8 : w.heap.size ≤ w5.heap.size := Nat.le_trans hwW hs5)
          | (go_split_ands; refine step_append_row elem_item (by rfl) _ _ (by rfl) w.heap.size (.slice A6 S.length c6) S.length (rcells S) (by rfl) (World.ownsRow.alloc how5 _) (some ⟨w5.heap.size, 0, none⟩) 1 1 (w5.heap.size + 1) [.slice A5 xr.length c5, .int .i64 xn] (by rfl) (by rfl) (Row.new' _ _ _ rfl rfl (Nat.lt_succ_self _)) (rcells_one [⟨xr, A5, c5, xn⟩]) hmx hby (Nat.le_trans hs8 (le_alloc _ _)) ?_; intro v6 w6 hown6 hg6 hif6; obtain ⟨A8, c8, rfl⟩ := own_formS hown6; have hz5 : w.heap.size ≤ (w5.alloc (.cells #[.slice A5 xr.length c5, .int .i64 xn] 28)).heap.size := Nat.le_trans hs8 (le_alloc _ _); have hy5 : wr.heap.size < (w5.alloc (.cells #[.slice A5 xr.length c5, .int .i64 xn] 28)).heap.size := Nat.lt_of_lt_of_le hbx5 (le_alloc _ _); have z6 : Below w.heap.size W w6 := (z5.alloc hs8 _).grown hg6 hz5 (fun g e => (how5.lt g e).1); have y6 : ∀ o, w6.cell? ⟨wr.heap.size, o, none⟩ = W.cell? ⟨wr.heap.size, o, none⟩ := fun o => (keepG hg6 hy5 (fun e => Nat.lt_irrefl _ (HOWN.out.lt _ e.symm).2) o).trans ((keepA hbx5 hs8 y5 z5).1 o)))
      -- STOP-p
      all_goals
        go_wp2
        have HNEW9 := hid ((hnw5.step (alloc_below (Below.refl _ _) (.cells #[.slice A5 xr.length c5, .int .i64 xn] 28))).grown hg6 hif6)
        have HROW9 := hid (hrow5.step (alloc_below (Below.refl _ _) (.cells #[.slice A5 xr.length c5, .int .i64 xn] 28)))
        have HLO : Hid (NewAt w.heap.size A5) := hid (fun b off q e => by have := hnew5 b off q e; simp at this; omega)
        have HA5 : Hid (∀ b off q, A5 = some ⟨b, off, q⟩ → some b ≠ (Value.slice A6 S.length c6).ownBlock) := hid (fun b off q e e2 => by
          have q1 := hnew5 b off q e
          have q2 := (HOWN.out.lt b e2.symm).2
          simp at q1
          omega)
        have HIN := hid hin5
        have HIF := hid hif6
        have HG6 := hid hg6
        have HO6 := hid hown6
        have Z6 := hid z6
        clear hown6 hg6 hif6 hin5 hrow5 hnew5 hnw5 how5 y5 y6 z5 z6
        go_roundw
        case rel =>
          have hr9 := (HROW9.out.grown_ne (Nat.le_refl _) HG6.out HA5.out).more HG6.out.size
          refine ⟨i + 1, S ++ [⟨xr, A5, c5, xn⟩], by omega, by go_num, by have := HSI.out; simp; omega, hid ?_, ?_, hid ?_, hid (HB2.out.trans Z6.out)⟩
          · rw [HST.out]
            show (S ++ [(⟨xr, A5, c5, xn⟩ : IR)]).map IR.it = _
            rw [List.map_append, show S.map IR.it = its S from rfl, HIS.out]
            rfl
          · rw [rcells_snoc, List.length_append]
            exact HO6
          · refine RowsNew.snoc HNEW9.out (x := (⟨xr, A5, c5, xn⟩ : IR)) hr9 HLO.out (fun b off q e => ?_) (by simp only; omega)
            · have hlt9 := HIN.out b off q e
              have hsz7 := HG6.out.size
              simp at hsz7
              refine ⟨?_, by omega⟩
              rcases HIF.out with h | h
              · rw [h]; exact HA5.out b off q e
              · rw [h]; intro e2; injection e2 with e2; simp at e2; omega
        case measure => simp [intOf]; omega
    · have hf : M.take i = M := List.take_of_length_le (by omega)
      have HF : Hid (its S = X) := hid (by rw [HIS.out, hf, HX.out])
      clear hf
      go_wp2
      go_ret
      exact ⟨A6, c6, S, rfl, HF.out, own_baseS HOWN.out (by omega), fun x hx => by
        obtain ⟨q1, q2, q3, q4⟩ := HNEW.out x hx
        exact ⟨q1, newAt_le q2 (by omega), q3, q4⟩, HB.out⟩
end Go.Proofs.Ytmcdaibdpeeefaa
/- viewkeep.SetsOwn. -/
namespace Go.Proofs.Ytmcdaibdpeeefaa
set_option linter.unusedVariables false
set_option linter.unusedSimpArgs false
open Go.ChangeShapes Go.WideShapes Go.ChangeAt Go.RowKit

theorem SpoI.later {w w' : World} {lo n c : Nat} {A : Option Addr} (h : SpoI w lo A n c) (hb : Below w.heap.size w w') : SpoI w' lo A n c := h.keep (Stand.below hb) (Stand.below hb).ints
theorem ne_sets_int : 22 ≠ 3 := by decide
theorem ne_sets_item : 22 ≠ 28 := by decide
theorem ne_ints_int : 26 ≠ 3 := by decide
theorem ne_ints_item : 26 ≠ 28 := by decide
/-- Where the first set ends and another one, and what came behind, begins. -/
theorem first_mid {w : World} {lo : Nat} {v : Value} {LL : List LR} (hn : SetsNew w lo v LL) (hp : LL.Pairwise Apart) (h0 : 0 < LL.length) (j : Nat) (hj : j < LL.length) :
    ∃ mid, mid ≤ w.heap.size ∧ (∀ b off q, LL[0].A = some ⟨b, off, q⟩ → b < mid) ∧ (∀ z ∈ LL[0].L, ∀ b off q, z.A = some ⟨b, off, q⟩ → b < mid) ∧
      (0 < j → NewAt mid LL[j].A ∧ ∀ z ∈ LL[j].L, NewAt mid z.A) := by
  obtain ⟨q1, q2, -, -⟩ := hn _ (List.getElem_mem h0)
  by_cases h : 0 < j
  · obtain ⟨mid, a1, a2, a3, a4⟩ := List.pairwise_iff_getElem.1 hp 0 j h0 hj h
    refine ⟨min mid w.heap.size, by omega, fun b off q e => ?_, fun z hz b off q e => ?_, fun _ => ⟨newAt_le a3 (by omega), fun z hz => newAt_le (a4 z hz) (by omega)⟩⟩
    · have := a1 b off q e; have := own_inS q1 b off q e; omega
    · have := a2 z hz b off q e; have := ((q2 z hz).2.2.1 b off q e).2; omega
  · exact ⟨w.heap.size, Nat.le_refl _, fun b off q e => own_inS q1 b off q e, fun z hz b off q e => ((q2 z hz).2.2.1 b off q e).2, fun h2 => absurd h2 h⟩
theorem llcells_app (a b : List LR) : llcells (a ++ b) = llcells a ++ llcells b := List.flatMap_append
theorem RowsNew.spoN {w : World} {lo : Nat} {v : Value} {M : List IR} (hr : RowsNew w lo v M) : ∀ x ∈ M, SpoN w lo x.A x.row.length x.k := fun x hx => ⟨icells' x.row, by
    obtain ⟨q1, q2, -⟩ := hr x hx
    refine ⟨q1.own.1, ?_⟩
    rcases q1.own.2 with e | ⟨g, cap, cur, e, hb, h3⟩
    · exact .inl e
    · refine .inr ⟨g, cap, cur, e, ?_, h3⟩
      injection e with e
      exact q2 g 0 none e⟩
theorem SpoN.less {w : World} {lo lo' n c : Nat} {A : Option Addr} (h : SpoN w lo A n c) (hl : lo' ≤ lo) : SpoN w lo' A n c := by
  obtain ⟨xs, h⟩ := h; exact ⟨xs, own_baseS h hl⟩

set_option maxHeartbeats 1000000 in
set_option maxRecDepth 100000 in
theorem setsOwn_any (L : List SR) (A0 : Option Addr) (c0 : Nat) (Ma Mb : List IR) (Aa Ab : Option Addr) (ca cb : Nat) (bs : List Int) (bA : Option Addr) (bc : Nat) (w : World) (h0 : RowS w w.heap.size A0 L) (l0 : L.length ≤ 9223372036854775807) (ha : RowI w w.heap.size Aa Ma) (la : Ma.length ≤ 1048576) (qa : ∀ x ∈ Ma, x.row.length ≤ 1048576)
    (hb : RowI w w.heap.size Ab Mb) (lb : Mb.length ≤ 1048576) (qb : ∀ x ∈ Mb, x.row.length ≤ 1048576) (hy : Row w w.heap.size bA (icells' bs)) (ly : bs.length ≤ 9223372036854775807) :
    Calls Try.prog 7 #[.slice A0 L.length c0, .slice Aa Ma.length ca, .slice Ab Mb.length cb, .slice bA bs.length bc] w fun e w' => e = .returned (.bool true) ∧ Below w.heap.size w w' := by
  have HR0 := hid h0
  have HRA := hid ha
  have HRB := hid hb
  have HRY := hid hy
  have HC1 := hid (fun w1 (hb : Below w.heap.size w w1) => copied_any Ma Aa ca w1 (HRA.out.step hb) la qa)
  have HC2 := hid (fun w1 (hb : Below w.heap.size w w1) => copied_any Mb Ab cb w1 (HRB.out.step hb) lb qb)
  clear h0 ha hb hy qa qb
  go_enter Try.func7, Try.ntmps7
  go_wp2_with fail
  refine (counted_any w).mono ?_
  rintro e w1 ⟨rfl, hb1⟩
  have HBW := hid hb1
  clear hb1
  go_wp2_with fail
  -- STOP-a
  refine (HC1.out _ HBW.out).mono ?_
  rintro e w2 ⟨A5, k5, M5, rfl, hi5, ho5, hn5, hb5⟩
  replace HBW := hid (Below.step' HBW.out hb5)
  have HI5 := hid hi5
  have HG5 : Hid (RowI w2 w2.heap.size A5 M5) := hid ⟨Row.of_ownS ho5, hn5.rows⟩
  have HL5 := hid (show M5.length ≤ 9223372036854775807 by rw [← its_len M5, hi5, its_len]; omega)
  clear hi5 ho5 hn5 hb5 HC1
  go_wp2_with fail
  refine (HC2.out _ HBW.out).mono ?_
  rintro e w3 ⟨A6, k6, M6, rfl, hi6, ho6, hn6, hb6⟩
  replace HBW := hid (Below.step' HBW.out hb6)
  replace HG5 := hid (HG5.out.step hb6)
  have HI6 := hid hi6
  have HG6 : Hid (RowI w3 w3.heap.size A6 M6) := hid ⟨Row.of_ownS ho6, hn6.rows⟩
  have HL6 := hid (show M6.length ≤ 9223372036854775807 by rw [← its_len M6, hi6, its_len]; omega)
  clear hi6 ho6 hn6 hb6 HC2
  have HAL := hid (all_any L M5 M6 A0 A5 A6 c0 k5 k6 w3 (HR0.out.step HBW.out) l0 HG5.out HL5.out HG6.out HL6.out)
  have HEV := hid (fun w1 (hb : Below w3.heap.size w3 w1) => eval_any L M5 M6 A0 A5 A6 c0 k5 k6 w1 ((HR0.out.step HBW.out).step hb) l0 (HG5.out.step hb) HL5.out (HG6.out.step hb) HL6.out)
  have HAD := hid (fun w1 (hb : Below w3.heap.size w3 w1) => add_any M5 M6 A5 A6 k5 k6 w1 (HG5.out.step hb) HL5.out (HG6.out.step hb) HL6.out)
  have HNG := hid (fun w1 (hb : Below w3.heap.size w3 w1) => neg_any M5 A5 k5 w1 (HG5.out.step hb) HL5.out)
  have HNM := hid (fun w1 (hb : Below w3.heap.size w3 w1) => norm_any M5 A5 k5 w1 (HG5.out.step hb) HL5.out)
  have HRK := hid (fun w1 (hb : Below w3.heap.size w3 w1) => rows_any M5 A5 k5 bs bA bc 400 w1 (HG5.out.step hb) HL5.out ((HRY.out.step HBW.out).step hb) ly)
  have HEX := hid (show evalX (sts L) (its M5) (its M6) = (allX (sts L) (its M5) (its M6)).getLastD [] from rfl)
  obtain ⟨EA, hEA⟩ : ∃ q, q = allE (sts L) (its M5) (its M6) := ⟨_, rfl⟩
  obtain ⟨XA, hXA⟩ : ∃ q, q = allX (sts L) (its M5) (its M6) := ⟨_, rfl⟩
  obtain ⟨XE, hXE⟩ : ∃ q, q = evalX (sts L) (its M5) (its M6) := ⟨_, rfl⟩
  obtain ⟨XD, hXD⟩ : ∃ q, q = addX (its M5) (its M6) := ⟨_, rfl⟩
  obtain ⟨ED, hED⟩ : ∃ q, q = addE (its M5) (its M6) := ⟨_, rfl⟩
  obtain ⟨XN, hXN⟩ : ∃ q, q = negX (its M5) := ⟨_, rfl⟩
  obtain ⟨EN, hEN⟩ : ∃ q, q = setI (its M5) := ⟨_, rfl⟩
  obtain ⟨XM, hXM⟩ : ∃ q, q = normX (its M5) := ⟨_, rfl⟩
  obtain ⟨EM, hEM⟩ : ∃ q, q = normE (its M5) := ⟨_, rfl⟩
  obtain ⟨XK, hXK⟩ : ∃ q, q = rankX (its M5) bs 400 := ⟨_, rfl⟩
  obtain ⟨EK, hEK⟩ : ∃ q, q = rankE (its M5) bs 400 := ⟨_, rfl⟩
  rw [← hXA, ← hEA] at HAL
  rw [← hXE, ← hEA] at HEV
  rw [← hXD, ← hED] at HAD
  rw [← hXN, ← hEN] at HNG
  rw [← hXM, ← hEM] at HNM
  rw [← hXK, ← hEK] at HRK
  rw [← hXE, ← hXA] at HEX
  clear hEA hXA hXE hXD hED hXN hEN hXM hEM hXK hEK
  go_wp2_with fail
  -- STOP-b
  refine HAL.out.mono ?_
  rintro e w4 ⟨A9, k9, LL, rfl, hS, hown, hnew, hb4, hapt, hLL⟩
  have HBL := hid hb4
  have HS := hid hS
  have HOL := hid hown
  have HNL := hid hnew
  have HNL0 := hid hnew
  have HAP := hid hapt
  have h34 := hb4.size
  obtain ⟨w3s, hw3s⟩ : ∃ lo, lo = w3.heap.size := ⟨_, rfl⟩
  clear hS hown hnew hb4 hapt HAL
  go_wp2_with fail
  refine (HEV.out _ HBL.out).mono ?_
  rintro e w5 ⟨A10, k10, M10, rfl, hi, ho, hn, hb⟩
  replace HBL := hid (Below.step' HBL.out hb)
  replace HOL := hid (own_laterS HOL.out hb)
  replace HNL := hid (HNL.out.step hb)
  have HI10 := hid hi
  have HG10 : Hid (RowI w5 w5.heap.size A10 M10) := hid ⟨Row.of_ownS ho, hn.rows⟩
  have HL10 := hid (own_capS ho)
  have HN10 := hid (And.intro (own_newS ho (Nat.le_refl _)) (fun z hz => (hn z hz).2.1))
  have HP1 := hid (SpoI.mk rfl ho hn h34)
  have h45 := hb.size
  clear hi ho hn hb HEV
  go_wp2_with fail
  refine (HAD.out _ HBL.out).mono ?_
  rintro e w6 ⟨A11, k11, M11, rfl, -, ho, hn, hb⟩
  replace HBL := hid (Below.step' HBL.out hb)
  replace HOL := hid (own_laterS HOL.out hb)
  replace HNL := hid (HNL.out.step hb)
  replace HG10 := hid (HG10.out.step hb)
  replace HP1 := hid (HP1.out.later hb)
  have HP2 := hid (SpoI.mk rfl ho hn (Nat.le_trans h34 h45))
  have h56 := hb.size
  clear ho hn hb HAD
  go_wp2_with fail
  refine (HNG.out _ HBL.out).mono ?_
  rintro e w7 ⟨A12, k12, M12, rfl, -, ho, hn, hb⟩
  replace HBL := hid (Below.step' HBL.out hb)
  replace HOL := hid (own_laterS HOL.out hb)
  replace HNL := hid (HNL.out.step hb)
  replace HG10 := hid (HG10.out.step hb)
  replace HP1 := hid (HP1.out.later hb)
  replace HP2 := hid (HP2.out.later hb)
  have HP3 := hid (SpoI.mk rfl ho hn (show w3.heap.size ≤ w6.heap.size by omega))
  have h67 := hb.size
  clear ho hn hb HNG
  go_wp2_with fail
  refine (HNM.out _ HBL.out).mono ?_
  rintro e w8 ⟨A13, k13, M13, rfl, -, ho, hn, hb⟩
  replace HBL := hid (Below.step' HBL.out hb)
  replace HOL := hid (own_laterS HOL.out hb)
  replace HNL := hid (HNL.out.step hb)
  replace HG10 := hid (HG10.out.step hb)
  replace HP1 := hid (HP1.out.later hb)
  replace HP2 := hid (HP2.out.later hb)
  replace HP3 := hid (HP3.out.later hb)
  have HP4 := hid (SpoI.mk rfl ho hn (show w3.heap.size ≤ w7.heap.size by omega))
  have h78 := hb.size
  clear ho hn hb HNM
  go_wp2_with fail
  -- STOP-c
  refine (HRK.out _ HBL.out).mono ?_
  rintro e w9 ⟨A14, k14, M14, rfl, -, ho, hn, hb⟩
  replace HBL := hid (Below.step' HBL.out hb)
  replace HOL := hid (own_laterS HOL.out hb)
  replace HNL := hid (HNL.out.step hb)
  replace HG10 := hid (HG10.out.step hb)
  replace HP1 := hid (HP1.out.later hb)
  replace HP2 := hid (HP2.out.later hb)
  replace HP3 := hid (HP3.out.later hb)
  replace HP4 := hid (HP4.out.later hb)
  have HOR := hid (own_baseS ho (show w3.heap.size ≤ w8.heap.size by omega))
  have HNR := hid (fun x hx => (hn.spoN x hx).less (show w3.heap.size ≤ w8.heap.size by omega))
  have HCR := hid (own_capS ho)
  have h89 := hb.size
  clear ho hn hb HRK
  go_upto_if 71 with fail
  -- STOP-d
  go_cut [] from 71 to 89 (fun wx => Hid (Spoiled w3.heap.size w9 wx))
  case first =>
    by_cases h0 : 0 < LL.length
    · obtain ⟨j, hj⟩ : ∃ j : Nat, j + 1 = LL.length := ⟨LL.length - 1, by omega⟩
      have hjl : j < LL.length := by omega
      obtain ⟨mid, m1, m2, m3, m4⟩ := first_mid HNL.out HAP.out h0 j hjl
      have HMD := hid m4
      obtain ⟨mi, hmi⟩ : ∃ q, q = min mid w4.heap.size := ⟨_, rfl⟩
      obtain ⟨q1, q2, -, -⟩ := HNL.out _ (List.getElem_mem h0)
      have hq1 := HNL0.out _ (List.getElem_mem h0)
      have HCL := hid (spoilSet_any LL[0].L LL[0].A LL[0].k w3.heap.size mi w9 q1 q2.spoN (by omega) (fun b off q e => by
        have := m2 b off q e
        have := own_inS hq1.1 b off q e
        omega) (fun z hz b off q e => by
        have := m3 z hz b off q e
        have := ((hq1.2.1 z hz).2.2.1 b off q e).2
        omega))
      have HKL := hid (show 0 < j → RowI w9 w9.heap.size LL[j].A LL[j].L ∧ NewAt mi LL[j].A ∧ (∀ z ∈ LL[j].L, NewAt mi z.A) ∧ LL[j].L.length ≤ 9223372036854775807 from fun hj0 => by
        obtain ⟨n1, n2⟩ := HMD.out hj0
        obtain ⟨r1, r2, -, -⟩ := HNL.out _ (List.getElem_mem hjl)
        have hc := own_capS r1
        simp only [maxLen] at hc
        exact ⟨⟨Row.of_ownS r1, r2.rows⟩, newAt_le n1 (by omega), fun z hz => newAt_le (n2 z hz) (by omega), by omega⟩)
      have HIL := hid (show its LL[j].L = XE by
        rw [HEX.out, ← HS.out, ← getD_last _ _ (by rw [setsOf_len]; omega), setsOf_len, show LL.length - 1 = j by omega, setsOf_getD hjl])
      obtain ⟨b0, o0, rfl, hb0, ga⟩ := (Row.of_ownS HOL.out).lr h0
      rw [Nat.add_zero] at ga
      have HGB := hid (fun (wx : World) (h : wx.ownsRow w3.heap.size 22 1 (.slice (some ⟨b0, o0, none⟩) LL.length k9) LL.length (llcells LL)) => show wx.cell? ⟨b0, o0 + j, none⟩ = some (.slice LL[j].A LL[j].L.length LL[j].k) from by
        obtain ⟨b, o, e, -, g⟩ := (Row.of_ownS h).lr hjl
        injection e with e
        injection e with e e'
        subst e e'
        exact g)
      have HN10' : Hid (NewAt mi A10 ∧ ∀ z ∈ M10, NewAt mi z.A) := hid ⟨newAt_le HN10.out.1 (by omega), fun z hz => newAt_le (HN10.out.2 z hz) (by omega)⟩
      clear m1 m2 m3 m4 q1 q2 hq1 HMD
      generalize LL[0] = R0 at *
      generalize LL[j] = R1 at *
      obtain ⟨R0L, R0A, R0k⟩ := R0
      obtain ⟨R1L, R1A, R1k⟩ := R1
      simp only at ga HCL HKL HIL HGB
      have t0 : (0 < (LL.length : Int)) = True := eq_true (by omega)
      have HJ := hid hj
      clear hmi
      go_wp2_with fail
      -- STOP-e
      refine HCL.out.mono ?_
      rintro e wa ⟨rfl, hsp, hkp⟩
      have HSPA := hid hsp
      have HKP := hid hkp
      have HOW := hid (own_stand HOL.out (hsp.other _ ne_sets_int ne_sets_item))
      have gb2 := HGB.out wa HOW.out
      clear hsp hkp ga
      by_cases hj0 : 0 < j
      · have t1 : (1 < (LL.length : Int)) = True := eq_true (by omega)
        obtain ⟨k1, k2, k3, k4⟩ := HKL.out hj0
        have HSS := hid (sameSet_any R1L M10 R1A A10 R1k k10 wa (k1.kept HKP.out k2 k3) k4 (HG10.out.kept HKP.out HN10'.out.1 HN10'.out.2) (by have := HL10.out; simp only [maxLen] at this; omega))
        rw [HIL.out, HI10.out, decide_eq_true rfl] at HSS
        have hwj : IntKind.i64.wrap ((LL.length : Int) - 1) = (j : Int) := by
          rw [IntWalk.i64_in _ (by omega)]; omega
        have hjl' : ((j : Int) < (LL.length : Int)) = True := eq_true (by omega)
        clear k1 k2 k3 k4
        go_wp2_with fail
        -- STOP-e2
        refine HSS.out.mono ?_
        rintro e wb ⟨rfl, hbb⟩
        have HBB := hid hbb
        clear hbb
        go_wp2_with fail
        go_meet
        case rel => exact hid (HSPA.out.trans (Spoiled.ofBelow (Nat.le_trans (show w3.heap.size ≤ w9.heap.size by omega) HSPA.out.below.size) HBB.out))
      · have t1 : (1 < (LL.length : Int)) = False := eq_false (by omega)
        go_wp2_with fail
        -- STOP-e3
        go_meet
        case rel => exact HSPA
    · have t0 : (0 < (LL.length : Int)) = False := eq_false (by omega)
      go_wp2_with fail
      -- STOP-e4
      go_meet
      case rel => exact hid (Spoiled.refl _ _)
  case rest =>
    have HSP := hcut
    obtain ⟨wa, rfl⟩ : ∃ wx : World, wx = wc := ⟨_, rfl⟩
    have hsa : w3.heap.size ≤ wa.heap.size := Nat.le_trans (show w3.heap.size ≤ w9.heap.size by omega) HSP.out.below.size
    obtain ⟨LM, hLM⟩ : ∃ q : List LR, q = LL ++ [⟨M10, A10, k10⟩, ⟨M11, A11, k11⟩, ⟨M12, A12, k12⟩, ⟨M13, A13, k13⟩] := ⟨_, rfl⟩
    have HLM := hid hLM
    have HSA := hid (show ∀ x ∈ LM, SpoI wa w3.heap.size x.A x.L.length x.k from fun x hx => by
      rw [hLM] at hx
      simp only [List.mem_append, List.mem_cons, List.not_mem_nil, or_false] at hx
      rcases hx with hx | rfl | rfl | rfl | rfl
      · obtain ⟨q1, q2, -, -⟩ := HNL.out x hx
        exact HSP.out.sets _ _ _ (SpoI.mk rfl q1 q2 (Nat.le_refl _))
      · exact HSP.out.sets _ _ _ HP1.out
      · exact HSP.out.sets _ _ _ HP2.out
      · exact HSP.out.sets _ _ _ HP3.out
      · exact HSP.out.sets _ _ _ HP4.out)
    have HOA := hid (own_stand HOL.out (HSP.out.other _ ne_sets_int ne_sets_item))
    have HRA2 := hid (own_stand HOR.out (HSP.out.other _ ne_ints_int ne_ints_item))
    have HNA := hid (fun x hx => (HNR.out x hx).ints HSP.out.ints)
    have HBA := hid (HBL.out.trans HSP.out.below)
    have HLN := hid (show LM.length = LL.length + 4 by rw [hLM]; simp)
    have HCE := hid (show llcells LM = llcells LL ++ [.slice A10 M10.length k10, .slice A11 M11.length k11, .slice A12 M12.length k12, .slice A13 M13.length k13] by rw [hLM, llcells_app]; rfl)
    clear hLM hcut
    have hone : ∀ u ∈ ([.slice A10 M10.length k10, .slice A11 M11.length k11, .slice A12 M12.length k12, .slice A13 M13.length k13] : List Value), u.oneCell' = true := by
      intro u hu
      simp only [List.mem_cons, List.not_mem_nil, or_false] at hu
      rcases hu with rfl | rfl | rfl | rfl <;> rfl
    go_wp2_with (at_builtin; refine wpList_append_row elem_sets rfl _ _ rfl w3.heap.size _ _ _ rfl (HOA.out.alloc _) (some ⟨wa.heap.size, 0, none⟩) 4 4 (wa.heap.size + 1) [.slice A10 M10.length k10, .slice A11 M11.length k11, .slice A12 M12.length k12, .slice A13 M13.length k13] rfl rfl (Row.new' _ _ _ rfl rfl (Nat.lt_succ_self _)) hone ?_ ?_ ?_ ?_; rotate_right; intro v7 w7 hown7 hg7 hif7; rw [← HLN.out, ← HCE.out] at hown7; obtain ⟨A7, c7, rfl⟩ := own_formS hown7; rotate_left; (simp only [maxLen]; omega); (omega); (simp; omega))
    -- STOP-f
    have hba := alloc_below (Below.refl wa.heap.size wa) (.cells #[.slice A10 M10.length k10, .slice A11 M11.length k11, .slice A12 M12.length k12, .slice A13 M13.length k13] 22)
    have HOX := HOA.out.alloc (.cells #[.slice A10 M10.length k10, .slice A11 M11.length k11, .slice A12 M12.length k12, .slice A13 M13.length k13] 22)
    have hst : Stand 28 wa w7 := (Stand.below hba).trans (Stand.ofOwn HOX (fun e => ne_sets_item e.symm) hg7)
    have hin : IntsAs wa w7 := (Stand.below hba).ints.trans (Stand.ofOwn HOX (fun e => ne_sets_int e.symm) hg7).ints
    have hrw : Stand 26 wa w7 := (Stand.below hba).trans (Stand.ofOwn HOX (by decide) hg7)
    have HS7 := hid (fun x hx => (HSA.out x hx).keep hst hin)
    have HR7 := hid (own_stand HRA2.out hrw)
    have HN7 := hid (fun x hx => (HNA.out x hx).ints hin)
    have HB7 := hid (HBA.out.trans (Below.grown ((Below.refl w3.heap.size wa).alloc hsa _) hg7 (by simp; omega) (fun g e => (HOA.out.lt g e).1)))
    have HO7 : Hid (w7.ownsRow w3.heap.size 22 1 (.slice A7 LM.length c7) LM.length (llcells LM)) := hid hown7
    have hs7 : w3.heap.size ≤ w7.heap.size := HB7.out.size
    clear hba HOX hst hin hrw hown7 hg7 hif7 hone HSA HRA2 HNA HOA HOL HOR HNR HP1 HP2 HP3 HP4 HSP
    -- STOP-g
    have hLMl : LM.length ≤ 34 := by have := HLN.out; omega
    go_loopw [98] (fun s98 wr => ∃ i : Nat, i ≤ LM.length ∧ s98 = .int .i64 i ∧ Hid (Spoiled w3.heap.size w7 wr)) (fun s98 _ => LM.length - (intOf s98).toNat)
    case atStart => exact ⟨0, by omega, rfl, hid (Spoiled.refl _ _)⟩
    case round =>
      obtain ⟨i, hi, rfl, HSP⟩ := hrel
      by_cases hlt : i < LM.length
      · have HOW := hid (own_stand HO7.out (HSP.out.other _ ne_sets_int ne_sets_item))
        obtain ⟨b, off, rfl, hb, ga⟩ := (Row.of_ownS HOW.out).lr hlt
        have hsp := HSP.out.sets _ _ _ (HS7.out _ (List.getElem_mem hlt))
        generalize LM[i] = x at *
        obtain ⟨xL, xA, xk⟩ := x
        simp only at ga hsp
        obtain ⟨M, hM, ho, hr⟩ := hsp
        rw [← hM] at ga ho
        have hsr : w3.heap.size ≤ wr.heap.size := Nat.le_trans hs7 HSP.out.below.size
        have HCL := hid (spoilSet_any M xA xk w3.heap.size wr.heap.size wr ho hr hsr (own_inS ho) (fun z hz b off q e => by
          obtain ⟨xs, h⟩ := hr z hz
          exact own_inS h b off q e))
        clear hM ho hr hsr
        go_wp2_with fail
        -- STOP-h
        refine HCL.out.mono ?_
        rintro e w8' ⟨rfl, hs, -⟩
        have HS2 := hid (HSP.out.trans hs)
        clear hs HCL
        go_wp2_with fail
        go_roundw
        case rel => exact ⟨i + 1, by omega, by go_num, HS2⟩
        case measure => simp [intOf]; omega
      · have hik : i = LM.length := by omega
        subst hik
        have HR8 := hid (own_stand HR7.out (HSP.out.other _ ne_ints_int ne_ints_item))
        have HN8 := hid (fun x hx => (HN7.out x hx).ints HSP.out.ints)
        have HB8 := hid (HB7.out.trans HSP.out.below)
        obtain ⟨w8', rfl⟩ : ∃ wx : World, wx = wr := ⟨_, rfl⟩
        have hs8 : w3.heap.size ≤ w8'.heap.size := HB8.out.size
        clear HSP HR7 HN7 HS7 HO7 HB7 hs7
        have hm14 := HCR.out.1
        have hm14' := HCR.out.2
        simp only [maxLen] at hm14'
        go_wp2_with fail
        -- STOP-i
        go_loopw [107] (fun s107 wr => ∃ i : Nat, i ≤ M14.length ∧ s107 = .int .i64 i ∧ Hid (Spoiled w3.heap.size w8' wr)) (fun s107 _ => M14.length - (intOf s107).toNat)
        case atStart => exact ⟨0, by omega, rfl, hid (Spoiled.refl _ _)⟩
        case round =>
          obtain ⟨i, hi, rfl, HSP⟩ := hrel
          by_cases hlt : i < M14.length
          · have HOW := hid (own_stand HR8.out (HSP.out.other _ ne_ints_int ne_ints_item))
            obtain ⟨b, off, rfl, hb, ga⟩ := (Row.of_ownS HOW.out).nr hlt
            have HSN := hid ((HN8.out _ (List.getElem_mem hlt)).ints HSP.out.ints)
            generalize M14[i] = x at *
            obtain ⟨xr, xA, xk, xn⟩ := x
            simp only at ga HSN
            have hsr : w3.heap.size ≤ wr.heap.size := Nat.le_trans hs8 HSP.out.below.size
            have HCL := hid (spoilN_any 8 wr HSN.out.choose_spec)
            go_wp2_with fail
            -- STOP-j
            refine HCL.out.mono ?_
            rintro e w10 ⟨rfl, hs, hg⟩
            have HS2 := hid (HSP.out.trans (Spoiled.ofN hsr HSN.out hs hg))
            clear hs hg HCL
            go_wp2_with fail
            go_roundw
            case rel => exact ⟨i + 1, by omega, by go_num, HS2⟩
            case measure => simp [intOf]; omega
          · have hik : i = M14.length := by omega
            subst hik
            have HB9 := hid (HB8.out.trans HSP.out.below)
            have HQ1 := hid (sameSet_any M5 Ma A5 Aa k5 ca wr (HG5.out.step HB9.out) HL5.out (HRA.out.step (Below.step' HBW.out HB9.out)) (by omega))
            have HQ2 := hid (fun w1 (hb : Below wr.heap.size wr w1) => sameSet_any M6 Mb A6 Ab k6 cb w1 (HG6.out.step (Below.step' HB9.out hb)) HL6.out (HRB.out.step (Below.step' HBW.out (Below.step' HB9.out hb))) (by omega))
            rw [HI5.out, decide_eq_true rfl] at HQ1
            rw [HI6.out, decide_eq_true rfl] at HQ2
            go_wp2_with fail
            -- STOP-k
            refine HQ1.out.mono ?_
            rintro e wA ⟨rfl, hbA⟩
            have HBA := hid hbA
            clear hbA HQ1
            go_wp2_with fail
            refine (HQ2.out _ HBA.out).mono ?_
            rintro e wB ⟨rfl, hbB⟩
            have HBB := hid (Below.step' HBW.out (Below.step' HB9.out (Below.step' HBA.out hbB)))
            clear hbB HQ2
            go_wp2_with fail
            go_ret
            exact ⟨rfl, HBB.out⟩
end Go.Proofs.Ytmcdaibdpeeefaa
/- The frame of the second form ('..UptoSaid'): as Frame's, with the bound handed to the walk. -/
namespace Go.Proofs.Ytmcdaibdpeeefaa
set_option linter.unusedVariables false
open Go.ChangeShapes Go.WideShapes Go.ChangeAt Go.RowKit

theorem law_lifted_upto {C : Checked} {os : Os} {f : FuncId} {fn : Func} {s : ChangeSpec} {conds : List PathCond} {H : Type} {enc : TypeId × Value → H} {F : Stop.Interp} {tb : TypeId}
    (own : ownKnob C.prog.godebug = none) (started : os.Started) (noInit : C.prog.inits.idxOf? f = none) (hfn : C.prog.funcs[f]? = some fn)
    (witness : ∃ (w : World) (tape : Tape) (i : Input), w.os = os ∧ (w.forCall tape i).Shaped C.prog ∧ i.vars = [] ∧ Input.okWide C.prog (w.forCall tape i) .any w.heap.size f i ∧
      (Rows.OpenSpec.upto s).pre6 enc C.prog fn conds false (w.forCall tape i).memory i.args ∧ ({} : Assume).holds C.prog (lone (Frame.enter C.prog f i.args .normal) [] (w.forCall tape i)))
    (hl : laidOutB C.prog = true) (hts : ∀ t ∈ fn.params.toList, C.prog.readableRec t = true ∧ t < C.prog.types.size) (hres : fn.resultTypes = #[tb]) (hbool : C.prog.underlying tb = some .bool) (hvars : s.vars = [])
    (hspec : ∀ es : List (DataW H), es.length = fn.params.toList.length → s.fn H es = { results := [.lit (.bool true)], args := es })
    (walk : ∀ (W : World) (base : Nat) (args : Array Value) (ds : List (DataW H)) (ps : List MemPlace),
      (∀ (j : Nat) t v, fn.params[j]? = some t → args[j]? = some v → Value.okWide C.prog W .any base t v) → DataW.TrodAll enc C.prog W 0 (fun _ => true) true fn.params.toList args.toList ds ps → Rows.uptoBulkAll ds ≤ 1048576 →
      Calls C.prog f args W fun e W' => e = .returned (.bool true) ∧ Below W.heap.size W W') :
    ReturnsInHanded {} C os f .any ((Rows.OpenSpec.upto s).pre6 enc C.prog fn conds false) (((Rows.OpenSpec.upto s).at F).post enc C.prog fn false true false false) := by
  refine returnsInHanded_of_cond (C := C) (s := Rows.OpenSpec.upto s) (k := Rows.uptoSmall) rfl own started noInit hfn witness ?_
  intro W base args ds gs before hval hW hcnd hk _
  have hW' := hW
  obtain ⟨p, q, hA, hV, _⟩ := hW
  have hb : Rows.uptoBulkAll ds ≤ 1048576 := by
    have h : Rows.uptoBulkAll (ds ++ gs) ≤ 1048576 := of_decide_eq_true hk
    have happ : ∀ (l r : List (DataW H)), Rows.uptoBulkAll (l ++ r) = Rows.uptoBulkAll l + Rows.uptoBulkAll r := by
      intro l r
      induction l with
      | nil => simp [Rows.uptoBulkAll]
      | cons x l ih => simp only [List.cons_append, Rows.uptoBulkAll, ih]; omega
    rw [happ] at h
    omega
  refine (walk W base args ds p hval hA hb).mono fun e W' ⟨he, hb⟩ => ?_
  exact ⟨_, he, law_post (s := s) hl hts hres hbool hvars hspec hW' hb⟩
end Go.Proofs.Ytmcdaibdpeeefaa
/- Arguments that are lists of items, as a claim of the second form reads them. -/
namespace Go.Proofs.Ytmcdaibdpeeefaa
set_option linter.unusedVariables false
set_option linter.unusedSimpArgs false
open Go.ChangeShapes Go.WideShapes Go.ChangeAt Go.RowKit Go.Deep

theorem bulk_elem {H : Type} {d : DataW H} {elems spare : List (DataW H)} (h : d ∈ elems) : Rows.uptoBulk d ≤ Rows.uptoBulk (.slice elems spare) := by
  have := bulk_part h
  simp only [Rows.uptoBulk]
  omega
/-- A slice of things of s cells each, as the claim reads it. -/
theorem open_eachM {α H : Type} {f : α → List Value} {s : Nat} (hf : ∀ x, (f x).length = s) (hs : 0 < s) {Q : α → Nat → Prop} {enc : TypeId × Value → H} {w : World} {base n : Nat} {spare : Nat → Bool} {held : Bool} {cs : List Value} {x : DataW H × List MemPlace} {t e : TypeId}
    (ht : Try.prog.underlying t = some (.slice e)) (hc : Try.prog.cellsOf e = s)
    (ho : ∀ n cs y, DataW.trod enc Try.prog w base spare held n e cs = some y → ∃ z : α, Q z (Rows.uptoBulk y.1) ∧ cs = f z) (hQ : ∀ z m m', Q z m → m ≤ m' → Q z m')
    (h : DataW.trod enc Try.prog w base spare held n t cs = some x) :
    ∃ (A : Option Addr) (k : Nat) (l : List α), cs = [.slice A l.length k] ∧ Row w w.heap.size A (l.flatMap f) ∧ (∀ z ∈ l, Q z (Rows.uptoBulk x.1)) ∧ l.length ≤ 9223372036854775807 ∧ l.length ≤ Rows.uptoBulk x.1 := by
  rcases open_slice ht h with ⟨rfl, hx⟩ | ⟨a, len, cap, m, n', D, Pl, rfl, hb, hl, hm, hmm, hx, hi⟩
  · exact ⟨none, 0, [], rfl, Row.nil, by simp, by simp, by simp⟩
  · by_cases h0 : len = 0
    · subst h0
      exact ⟨some a, cap, [], rfl, Row.nil, by simp, by simp, by simp⟩
    · have hlm : len ≤ m := by rw [hmm]; split <;> omega
      have hd : ∀ i, i < len → ∃ z : α, Q z (Rows.uptoBulk x.1) ∧ ∀ j u, (f z)[j]? = some u → w.cell? ((a.add (i * s)).add j) = some u := by
        intro i hil
        obtain ⟨cs', hc', ht'⟩ := hi i (by omega)
        obtain ⟨z, hq, rfl⟩ := ho _ _ _ ht'
        rw [hc] at hc'
        obtain ⟨_, _, hat⟩ := World.cells?_some hc'
        refine ⟨z, hQ _ _ _ hq (by rw [hx]; exact bulk_elem (List.mem_map.2 ⟨i, List.mem_range.2 hil, rfl⟩)), fun j u hu => ?_⟩
        have hj : j < s := by
          rcases Nat.lt_or_ge j s with q | q
          · exact q
          · rw [List.getElem?_eq_none (by rw [hf]; exact q)] at hu; cases hu
        rw [hat j hj]; exact hu
      obtain ⟨b, off, spot⟩ := a
      obtain ⟨z0, _, hz0⟩ := hd 0 (by omega)
      have hu0 : (f z0)[0]? = some ((f z0)[0]'(by rw [hf]; exact hs)) := List.getElem?_eq_getElem _
      have hx0 := hz0 0 _ hu0
      have hspot : spot = none := by simpa [Addr.add] using World.cell?_spot hx0
      subst hspot
      have hblk : b < w.heap.size := World.block_lt_of_cell? _ _ (by simpa [Addr.add] using hx0)
      obtain ⟨l, hll, hql, hr⟩ := Row.of_each hf (w := w) (b := b) (off := off) (n := len) hblk (Q := fun z => Q z (Rows.uptoBulk x.1)) (fun i hil => by
        obtain ⟨z, hq, hz⟩ := hd i hil
        refine ⟨z, hq, fun j u hu => ?_⟩
        have := hz j u hu
        rw [add_none, add_none, Nat.add_assoc] at this
        exact this)
      subst hll
      refine ⟨some ⟨b, off, none⟩, cap, l, rfl, hr, hql, ?_, ?_⟩
      · simp only [maxLen] at hm
        omega
      · rw [hx]
        have := bulk_slice ((List.range l.length).map D) ((List.range (m - l.length)).map fun j => D (l.length + j))
        simp only [List.length_map, List.length_range] at this
        simp only
        omega


set_option maxRecDepth 100000 in
theorem open_itemM {H : Type} {enc : TypeId × Value → H} {w : World} {base n : Nat} {spare : Nat → Bool} {held : Bool} {cs : List Value} {x : DataW H × List MemPlace}
    (h : DataW.trod enc Try.prog w base spare held n 28 cs = some x) : ∃ z : IR, (Row w w.heap.size z.A (icells' z.row) ∧ z.row.length ≤ 9223372036854775807 ∧ z.row.length ≤ Rows.uptoBulk x.1) ∧ cs = z.cells := by
  obtain ⟨xs, n', _, hx, hlen, hxl, hf⟩ := DataW.trod_struct Try.underlying28 h
  have c2 : Try.prog.cellsOf 28 = 2 := by kernel_rfl
  have c1 : Try.prog.cellsOf 26 = 1 := by kernel_rfl
  have c1' : Try.prog.cellsOf 3 = 1 := by kernel_rfl
  rw [c2] at hlen
  match cs, hlen with
  | [u0, u1], _ =>
    match xs, hxl with
    | [y0, y1], _ =>
      have h0 := hf 0 _ rfl
      have h1 := hf 1 _ rfl
      simp only [List.getElem_toArray, List.getElem_cons_zero, List.getElem_cons_succ, List.getElem?_cons_zero, List.getElem?_cons_succ] at h0 h1
      simp only [c1, c1', List.drop_zero, List.take_succ_cons, List.take_zero, List.drop_succ_cons] at h0 h1
      obtain ⟨A, k, l, e0, r0, l0, b0⟩ := open_ints_cells h0
      obtain ⟨z, e1, _⟩ := DataW.trod_int Try.underlying3 h1
      injection e0 with e0
      injection e1 with e1
      subst e0 e1
      exact ⟨⟨l, A, k, z⟩, ⟨r0, l0, by rw [hx]; simp only [List.map_cons, List.map_nil, Rows.uptoBulk, Rows.uptoBulkAll]; omega⟩, rfl⟩
set_option maxRecDepth 100000 in
theorem arg_itemsM {H : Type} {enc : TypeId × Value → H} {w : World} {r : Reach} {b0 base : Nat} {spare : Nat → Bool} {held : Bool} {v : Value} {d : DataW H} {p : List MemPlace}
    (hv : Value.okWide Try.prog w r b0 22 v) (h : DataW.Trod enc Try.prog w base spare held 22 v d p) :
    ∃ (A : Option Addr) (k : Nat) (M : List IR), v = .slice A M.length k ∧ RowI w w.heap.size A M ∧ M.length ≤ 9223372036854775807 ∧ M.length ≤ Rows.uptoBulk d ∧ ∀ x ∈ M, x.row.length ≤ Rows.uptoBulk d := by
  obtain ⟨a, n, c, rfl⟩ := okWide_slice Try.underlying22 hv
  obtain ⟨m, hm⟩ := h
  obtain ⟨A, k, M, e, hr, hq, hl, hb⟩ := open_eachM (f := IR.cells) (Q := fun (z : IR) m => Row w w.heap.size z.A (icells' z.row) ∧ z.row.length ≤ 9223372036854775807 ∧ z.row.length ≤ m) IR.len (by decide) Try.underlying22 (by kernel_rfl) (fun n cs y hy => open_itemM hy) (fun z m m' h hm => ⟨h.1, h.2.1, Nat.le_trans h.2.2 hm⟩) hm
  simp only [Value.cells, List.cons.injEq, and_true] at e
  exact ⟨A, k, M, e, ⟨hr, fun x hx => ⟨(hq x hx).1, (hq x hx).2.1⟩⟩, hl, hb, fun x hx => (hq x hx).2.2⟩
end Go.Proofs.Ytmcdaibdpeeefaa
