/- Std, IvD -/
import Derived.Test.YtldlmkfigjicgaaDoorCk02
import Derived.Test.YtldlmkfigjicgaaDoorCk13
/- Blocks of a type that stand while blocks of others turn. -/
namespace Go.Proofs.YtldlmkfigjicgaaDoor
set_option linter.unusedVariables false
open Go.ChangeShapes Go.WideShapes Go.ChangeAt Go.RowKit

/-- Blocks of ints keep their size. -/
def IntsAs (w w' : World) : Prop := ∀ (g : Nat) (cur : Array Value) (d : Nat × Nat), w.heap[g]? = some (Obj.cells cur 3 d) → ∃ cur' : Array Value, w'.heap[g]? = some (Obj.cells cur' 3 d) ∧ cur'.size = cur.size
/-- Blocks of a type stand. -/
def Stand (T : TypeId) (w w' : World) : Prop := ∀ (g : Nat) (cur : Array Value) (d : Nat × Nat), w.heap[g]? = some (Obj.cells cur T d) → w'.heap[g]? = some (Obj.cells cur T d)
theorem Stand.trans {T : TypeId} {w w1 w2 : World} (h : Stand T w w1) (h' : Stand T w1 w2) : Stand T w w2 := fun g cur d e => h' g cur d (h g cur d e)
theorem IntsAs.trans {w w1 w2 : World} (h : IntsAs w w1) (h' : IntsAs w1 w2) : IntsAs w w2 := fun g cur d e => by
  obtain ⟨c1, e1, s1⟩ := h g cur d e
  obtain ⟨c2, e2, s2⟩ := h' g c1 d e1
  exact ⟨c2, e2, s2.trans s1⟩
theorem Stand.ints {w w' : World} (h : Stand 3 w w') : IntsAs w w' := fun g cur d e => ⟨cur, h g cur d e, rfl⟩
theorem lt_of_cells {w : World} {g : Nat} {o : Obj} (h : w.heap[g]? = some o) : g < w.heap.size := by
  rcases Nat.lt_or_ge g w.heap.size with q | q
  · exact q
  · rw [Array.getElem?_eq_none q] at h; cases h
theorem Stand.grown {T : TypeId} {w w' : World} {r : Option Nat} (hg : w.grownBy w' r) (hr : ∀ (g : Nat) (cur : Array Value) (d : Nat × Nat), w.heap[g]? = some (Obj.cells cur T d) → some g ≠ r) : Stand T w w' := fun g cur d e => (hg.block g (lt_of_cells e) (hr g cur d e)).trans e
theorem Stand.below {T : TypeId} {w w' : World} (hb : Below w.heap.size w w') : Stand T w w' := Stand.grown (grown_of_below hb) (fun g cur d e q => by cases q)
theorem own_type {w : World} {B n s g : Nat} {T : TypeId} {v : Value} {xs : List Value} (h : w.ownsRow B T s v n xs) (e : v.ownBlock = some g) : ∃ cap cur, B ≤ g ∧ w.heap[g]? = some (Obj.cells cur T (0, 0)) ∧ v = .slice (some ⟨g, 0, none⟩) n cap ∧ n ≤ cap ∧ cap ≤ maxLen ∧ cur.size = cap * s ∧ cur.toList.take (n * s) = xs := by
  rcases h.2 with ⟨q, -⟩ | ⟨b, cap, cur, q, hb, hg, h1, h2, h3, h4⟩
  · rw [q] at e; simp [Value.ownBlock] at e
  · have : b = g := by rw [q] at e; simpa [Value.ownBlock] using e
    subst this
    exact ⟨cap, cur, hb, hg, q, h1, h2, h3, h4⟩
theorem Stand.ofOwn {T T' : TypeId} {w w' : World} {B n s : Nat} {v : Value} {xs : List Value} (h : w.ownsRow B T' s v n xs) (hT : T ≠ T') (hg : w.grownBy w' v.ownBlock) : Stand T w w' :=
  Stand.grown hg fun g cur d e q => by
    obtain ⟨cap, cur', -, h2, -⟩ := own_type h q.symm
    rw [e] at h2
    injection h2 with h2
    injection h2 with _ h2 _
    exact hT h2
theorem own_stand {w w' : World} {B n s : Nat} {T : TypeId} {v : Value} {xs : List Value} (h : w.ownsRow B T s v n xs) (hs : Stand T w w') : w'.ownsRow B T s v n xs := by
  obtain ⟨h1, h2⟩ := h
  refine ⟨h1, ?_⟩
  rcases h2 with h2 | ⟨b, cap, cur, e, hb, hgt, h3⟩
  · exact .inl h2
  · exact .inr ⟨b, cap, cur, e, hb, hs _ _ _ hgt, h3⟩
theorem ne_int_item : 3 ≠ 51 := by decide
theorem grown_setS (w : World) (b o : Nat) (v : Value) : w.grownBy (w.setCell ⟨b, o, none⟩ v) (some b) := by
  refine ⟨rfl, rfl, rfl, by simp [World.setCell], fun k hk hne => ?_⟩
  simp only [World.setCell, Array.getElem?_modify]
  rw [if_neg (fun e => hne (by rw [e]))]
end Go.Proofs.YtldlmkfigjicgaaDoor
/- A turn of a view in memory; its step. -/
namespace Go.Proofs.YtldlmkfigjicgaaDoor
set_option linter.unusedVariables false
set_option linter.unusedSimpArgs false
open Go.ChangeShapes Go.WideShapes Go.ChangeAt Go.RowKit

theorem elem_dels : Elem Tryd.prog 74 22 1 24 := ⟨Tryd.underlying74, by
  obtain ⟨i, hi, hz, hs, hb⟩ := info_parts (P := Tryd.prog) (e := 22) (z := .slice none 0 0) (size := 1) (bytes := 24) (by kernel_rfl)
  exact ⟨i, _, hi, hz, hs, hb, rfl⟩, by decide⟩
theorem elem_node : Elem Tryd.prog 67 73 2 32 := ⟨Tryd.underlying67, by
  obtain ⟨i, hi, hz, hs, hb⟩ := info_parts (P := Tryd.prog) (e := 73) (z := .agg #[.slice none 0 0, .map none]) (size := 2) (bytes := 32) (by kernel_rfl)
  exact ⟨i, _, hi, hz, hs, hb, rfl⟩, by decide⟩
/-- A set in blocks of its own. -/
def SetIn (w : World) (lo : Nat) (A : Option Addr) (k : Nat) (L : List IR) : Prop := w.ownsRow lo 51 2 (.slice A L.length k) L.length (rcells L) ∧ RowsNew w lo (.slice A L.length k) L
theorem SetIn.nil (w : World) (lo : Nat) : SetIn w lo none 0 [] := ⟨World.ownsRow_nil _ _ _ _, RowsNew.nil _ _ _⟩
theorem SetIn.rowI {w : World} {lo : Nat} {A : Option Addr} {k : Nat} {L : List IR} (h : SetIn w lo A k L) : RowI w w.heap.size A L := ⟨Row.of_ownS h.1, h.2.rows⟩
theorem RowOwn.stand {w w' : World} {A : Option Addr} {l : List Int} {k : Nat} (h : RowOwn w A l k) (hs : Stand 3 w w') : RowOwn w' A l k := RowOwn.of_own (own_stand h.own hs) rfl
theorem SetIn.stand {w w' : World} {lo : Nat} {A : Option Addr} {k : Nat} {L : List IR} (h : SetIn w lo A k L) (h1 : Stand 51 w w') (h2 : Stand 3 w w') (hz : w.heap.size ≤ w'.heap.size) : SetIn w' lo A k L :=
  ⟨own_stand h.1 h1, fun x hx => by
    obtain ⟨q1, q2, q3, q4⟩ := h.2 x hx
    exact ⟨q1.stand h2, q2, fun b off q e => ⟨(q3 b off q e).1, Nat.lt_of_lt_of_le (q3 b off q e).2 hz⟩, q4⟩⟩
theorem SetIn.step {w w' : World} {lo : Nat} {A : Option Addr} {k : Nat} {L : List IR} (h : SetIn w lo A k L) (hb : Below w.heap.size w w') : SetIn w' lo A k L := h.stand (Stand.below hb) (Stand.below hb) hb.size
theorem SetIn.lo {w : World} {lo lo' : Nat} {A : Option Addr} {k : Nat} {L : List IR} (h : SetIn w lo A k L) (hl : lo' ≤ lo) : SetIn w lo' A k L :=
  ⟨own_baseS h.1 hl, fun x hx => by
    obtain ⟨q1, q2, q3, q4⟩ := h.2 x hx
    exact ⟨q1, newAt_le q2 hl, q3, q4⟩⟩
theorem GM.ne_cells {w : World} {b : Nat} {N S : Int → Int} (h : GM w b N S) {g : Nat} {cur : Array Value} {T : TypeId} {d : Nat × Nat} (hg : w.heap[g]? = some (.cells cur T d)) : b ≠ g := fun e => by
  obtain ⟨n, D, -, ⟨es, clock, h1, -⟩, -⟩ := h
  rw [e, hg] at h1; cases h1
/-- A step's world: one block of cells turned, of another type than items and numbers. -/
theorem GAt.cells {w w' : World} {s : St} {S : List (List It)} {gv : Option Nat} {r : Option Nat} (h : GAt w s S gv) (hg : w.grownBy w' r) (hr : ∀ g, r = some g → ∃ cur T d, w.heap[g]? = some (Obj.cells cur T d)) : GAt w' s S gv := fun hk => by
  obtain ⟨gb, h1, h2⟩ := h hk
  refine ⟨gb, h1, h2.kept hg fun e => ?_⟩
  obtain ⟨cur, T, d, hc⟩ := hr gb e.symm
  exact h2.ne_cells hc rfl
/-- A turn: what each step has more, and what it has then. -/
structure TurnAt (w : World) (lo tb vp : Nat) (Q : List SR) (dA : Option Addr) (dk : Nat) (D : List LR) (xA : Option Addr) (xk : Nat) (X : List NR) (bd bx : Value) : Prop where
  box : Blk w tb #[.pointer (some ⟨vp, 0, none⟩), bd, bx] 81
  tlo : lo ≤ tb
  hlo : lo ≤ w.heap.size
  od : w.ownsRow lo 22 1 (.slice dA D.length dk) D.length (llcells D)
  ox : w.ownsRow lo 73 2 (.slice xA X.length xk) X.length (ncells X)
  ds : ∀ y ∈ D, SetIn w lo y.A y.k y.L
  xs : ∀ y ∈ X, SetIn w lo y.A y.k y.L
  gs : ∀ j (h : j < X.length) (h2 : j < Q.length), GAt w Q[j].st (nsets X) X[j].g
abbrev boxD (A : Option Addr) (k : Nat) (D : List LR) : Value := .slice A D.length k
abbrev boxX (A : Option Addr) (k : Nat) (X : List NR) : Value := .slice A X.length k
theorem ne_T1 : 51 ≠ 22 := by decide
theorem ne_T2 : 3 ≠ 22 := by decide
theorem ne_T3 : 51 ≠ 73 := by decide
theorem ne_T4 : 3 ≠ 73 := by decide
theorem ne_T5 : 81 ≠ 22 := by decide
theorem ne_T6 : 81 ≠ 73 := by decide
theorem ne_T7 : 22 ≠ 73 := by decide
theorem ne_T8 : 51 ≠ 81 := by decide
theorem ne_T9 : 3 ≠ 81 := by decide
theorem Blk.stand {T : TypeId} {w w' : World} {b : Nat} {cs : Array Value} (h : Blk w b cs T) (hs : Stand T w w') : Blk w' b cs T := hs b cs (0, 0) h
theorem own_cells {w : World} {B n s : Nat} {T : TypeId} {v : Value} {xs : List Value} (h : w.ownsRow B T s v n xs) : ∀ g, v.ownBlock = some g → ∃ cur T d, w.heap[g]? = some (Obj.cells cur T d) := fun g e => by
  obtain ⟨cap, cur, -, h2, -⟩ := own_type h e
  exact ⟨cur, _, _, h2⟩
section
variable {w w' : World} {lo tb vp : Nat} {Q : List SR} {dA : Option Addr} {dk : Nat} {D : List LR} {xA : Option Addr} {xk : Nat} {X : List NR} {bd bx : Value}
theorem TurnAt.step (h : TurnAt w lo tb vp Q dA dk D xA xk X bd bx) (hb : Below w.heap.size w w') : TurnAt w' lo tb vp Q dA dk D xA xk X bd bx :=
  ⟨h.box.step hb, h.tlo, Nat.le_trans h.hlo hb.size, own_laterS h.od hb, own_laterS h.ox hb, fun y hy => (h.ds y hy).step hb, fun y hy => (h.xs y hy).step hb, fun j h1 h2 => (h.gs j h1 h2).step hb⟩
theorem TurnAt.alloc (h : TurnAt w lo tb vp Q dA dk D xA xk X bd bx) (o : Obj) : TurnAt (w.alloc o) lo tb vp Q dA dk D xA xk X bd bx := h.step (alloc_below (Below.refl _ _) _)
theorem TurnAt.drew (h : TurnAt w lo tb vp Q dA dk D xA xk X bd bx) : TurnAt w.drew lo tb vp Q dA dk D xA xk X bd bx := h.step (Below.refl _ _).drew
/-- One delta more. -/
theorem TurnAt.appD (h : TurnAt w lo tb vp Q dA dk D xA xk X bd bx) {y : LR} (hy : SetIn w lo y.A y.k y.L) {A' : Option Addr} {k' : Nat} (hg : w.grownBy w' (boxD dA dk D).ownBlock) (ho : w'.ownsRow lo 22 1 (.slice A' (D.length + 1) k') (D.length + 1) (llcells D ++ y.cells)) :
    TurnAt w' lo tb vp Q A' k' (D ++ [y]) xA xk X bd bx := by
  have s1 : Stand 51 w w' := Stand.ofOwn h.od ne_T1 hg
  have s2 : Stand 3 w w' := Stand.ofOwn h.od ne_T2 hg
  refine ⟨h.box.stand (Stand.ofOwn h.od ne_T5 hg), h.tlo, Nat.le_trans h.hlo hg.size, ?_, own_stand h.ox (Stand.ofOwn h.od (Ne.symm ne_T7) hg), fun z hz => ?_, fun z hz => (h.xs z hz).stand s1 s2 hg.size, fun j h1 h2 => (h.gs j h1 h2).cells hg (own_cells h.od)⟩
  · rw [List.length_append, List.length_singleton, llcells, List.flatMap_append, List.flatMap_cons, List.flatMap_nil, List.append_nil]; exact ho
  · rcases List.mem_append.1 hz with e | e
    · exact (h.ds z e).stand s1 s2 hg.size
    · rw [List.mem_singleton.1 e]; exact hy.stand s1 s2 hg.size
/-- One node more. -/
theorem TurnAt.appX (h : TurnAt w lo tb vp Q dA dk D xA xk X bd bx) {y : NR} (hy : SetIn w lo y.A y.k y.L) (hgy : ∀ h2 : X.length < Q.length, GAt w Q[X.length].st (nsets (X ++ [y])) y.g) (href : ∀ j (h2 : j < Q.length), Q[j].st.kind = 8 ∨ Q[j].st.kind = 9 → Q[j].st.a.toNat < j)
    {A' : Option Addr} {k' : Nat} (hg : w.grownBy w' (boxX xA xk X).ownBlock) (ho : w'.ownsRow lo 73 2 (.slice A' (X.length + 1) k') (X.length + 1) (ncells X ++ y.cells)) :
    TurnAt w' lo tb vp Q dA dk D A' k' (X ++ [y]) bd bx := by
  have s1 : Stand 51 w w' := Stand.ofOwn h.ox ne_T3 hg
  have s2 : Stand 3 w w' := Stand.ofOwn h.ox ne_T4 hg
  refine ⟨h.box.stand (Stand.ofOwn h.ox ne_T6 hg), h.tlo, Nat.le_trans h.hlo hg.size, own_stand h.od (Stand.ofOwn h.ox ne_T7 hg), ?_, fun z hz => (h.ds z hz).stand s1 s2 hg.size, fun z hz => ?_, fun j h1 h2 => ?_⟩
  · rw [List.length_append, List.length_singleton, ncells, List.flatMap_append, List.flatMap_cons, List.flatMap_nil, List.append_nil]; exact ho
  · rcases List.mem_append.1 hz with e | e
    · exact (h.xs z e).stand s1 s2 hg.size
    · rw [List.mem_singleton.1 e]; exact hy.stand s1 s2 hg.size
  · by_cases e : j = X.length
    · subst e
      have := (hgy h2).cells hg (own_cells h.ox)
      rwa [show (X ++ [y])[X.length] = y by simp]
    · have h3 : j < X.length := by simp at h1; omega
      have h4 := (h.gs j h3 h2).cells hg (own_cells h.ox)
      rw [List.getElem_append_left h3]
      intro hk
      have := h4 hk
      rw [nsets_at (Nat.lt_trans (href j h2 hk) h3)] at this
      rw [nsets_at (by simp; have := href j h2 hk; omega), List.getElem_append_left (Nat.lt_trans (href j h2 hk) h3)]
      exact this
/-- A cell of its box is stored. -/
theorem TurnAt.set (h : TurnAt w lo tb vp Q dA dk D xA xk X bd bx) (i : Nat) (v : Value) {bd' bx' : Value} (e : (#[.pointer (some ⟨vp, 0, none⟩), bd, bx] : Array Value).setIfInBounds i v = #[.pointer (some ⟨vp, 0, none⟩), bd', bx']) : TurnAt (w.setCell ⟨tb, i, none⟩ v) lo tb vp Q dA dk D xA xk X bd' bx' := by
  have hg : w.grownBy (w.setCell ⟨tb, i, none⟩ v) (some tb) := by
    refine ⟨rfl, rfl, rfl, by simp [World.setCell], fun k hk hne => ?_⟩
    simp only [World.setCell, Array.getElem?_modify]
    rw [if_neg (fun e => hne (by rw [e]))]
  have hb : ∀ T, T ≠ 81 → Stand T w (w.setCell ⟨tb, i, none⟩ v) := fun T hT => Stand.grown hg fun g cur d hc q => by
    injection q with q
    subst q
    have := h.box
    unfold Blk at this
    rw [hc] at this
    injection this with this
    injection this with _ this _
    exact hT this
  have hc : ∀ g, (some tb : Option Nat) = some g → ∃ cur T d, w.heap[g]? = some (Obj.cells cur T d) := fun g e => by
    injection e with e; subst e; exact ⟨_, _, _, h.box⟩
  refine ⟨(h.box.set i v).eq e, h.tlo, Nat.le_trans h.hlo hg.size, own_stand h.od (hb _ (Ne.symm ne_T5)), own_stand h.ox (hb _ (Ne.symm ne_T6)), fun y hy => (h.ds y hy).stand (hb _ ne_T8) (hb _ ne_T9) hg.size, fun y hy => (h.xs y hy).stand (hb _ ne_T8) (hb _ ne_T9) hg.size, fun j h1 h2 => (h.gs j h1 h2).cells hg hc⟩
end
/-- What stands while a step's end is under way: nothing appended yet. -/
structure RegA (W0 w : World) (lo tb vp : Nat) (Q : List SR) (dA : Option Addr) (dk : Nat) (D : List LR) (xA : Option Addr) (xk : Nat) (X : List NR) (y : LR) (z : NR) : Prop where
  t : TurnAt w lo tb vp Q dA dk D xA xk X (boxD dA dk D) (boxX xA xk X)
  bel : Below lo W0 w
  sy : SetIn w lo y.A y.k y.L
  sz : SetIn w lo z.A z.k z.L
  g : ∀ h2 : X.length < Q.length, GAt w Q[X.length].st (nsets (X ++ [z])) z.g
/-- The delta is appended. -/
structure RegB (W0 w : World) (lo tb vp : Nat) (Q : List SR) (dA : Option Addr) (dk : Nat) (D : List LR) (xA : Option Addr) (xk : Nat) (X : List NR) (y : LR) (z : NR) (A5 : Option Addr) (k5 : Nat) : Prop where
  t : TurnAt w lo tb vp Q A5 k5 (D ++ [y]) xA xk X (boxD dA dk D) (boxX xA xk X)
  bel : Below lo W0 w
  sz : SetIn w lo z.A z.k z.L
  g : ∀ h2 : X.length < Q.length, GAt w Q[X.length].st (nsets (X ++ [z])) z.g
section
variable {W0 w w' : World} {lo tb vp : Nat} {Q : List SR} {dA : Option Addr} {dk : Nat} {D : List LR} {xA : Option Addr} {xk : Nat} {X : List NR} {y : LR} {z : NR} {A5 : Option Addr} {k5 : Nat} {bd bx : Value}
theorem RegA.step (h : RegA W0 w lo tb vp Q dA dk D xA xk X y z) (hb : Below w.heap.size w w') : RegA W0 w' lo tb vp Q dA dk D xA xk X y z := ⟨h.t.step hb, h.bel.trans (hb.mono h.t.hlo), h.sy.step hb, h.sz.step hb, fun h2 => (h.g h2).step hb⟩
theorem RegB.step (h : RegB W0 w lo tb vp Q dA dk D xA xk X y z A5 k5) (hb : Below w.heap.size w w') : RegB W0 w' lo tb vp Q dA dk D xA xk X y z A5 k5 := ⟨h.t.step hb, h.bel.trans (hb.mono h.t.hlo), h.sz.step hb, fun h2 => (h.g h2).step hb⟩
theorem RegA.od (h : RegA W0 w lo tb vp Q dA dk D xA xk X y z) : w.ownsRow lo 22 1 (.slice dA D.length dk) D.length (llcells D) := h.t.od
theorem RegB.ox (h : RegB W0 w lo tb vp Q dA dk D xA xk X y z A5 k5) : w.ownsRow lo 73 2 (.slice xA X.length xk) X.length (ncells X) := h.t.ox
theorem RegA.hlo (h : RegA W0 w lo tb vp Q dA dk D xA xk X y z) : lo ≤ w.heap.size := h.t.hlo
theorem RegB.hlo (h : RegB W0 w lo tb vp Q dA dk D xA xk X y z A5 k5) : lo ≤ w.heap.size := h.t.hlo
theorem RegA.appD (h : RegA W0 w lo tb vp Q dA dk D xA xk X y z) {A' : Option Addr} {k' : Nat} (hg : w.grownBy w' (Value.slice dA D.length dk).ownBlock) (ho : w'.ownsRow lo 22 1 (.slice A' (D.length + 1) k') (D.length + 1) (llcells D ++ [.slice y.A y.L.length y.k])) :
    RegB W0 w' lo tb vp Q dA dk D xA xk X y z A' k' :=
  ⟨h.t.appD h.sy hg ho, h.bel.grown hg h.t.hlo (fun g e => (h.t.od.lt g e).1), h.sz.stand (Stand.ofOwn h.t.od ne_T1 hg) (Stand.ofOwn h.t.od ne_T2 hg) hg.size, fun h2 => (h.g h2).cells hg (own_cells h.t.od)⟩
theorem RegB.appX (h : RegB W0 w lo tb vp Q dA dk D xA xk X y z A5 k5) (href : ∀ j (h2 : j < Q.length), Q[j].st.kind = 8 ∨ Q[j].st.kind = 9 → Q[j].st.a.toNat < j) {A' : Option Addr} {k' : Nat} (hg : w.grownBy w' (Value.slice xA X.length xk).ownBlock) (ho : w'.ownsRow lo 73 2 (.slice A' (X.length + 1) k') (X.length + 1) (ncells X ++ [.slice z.A z.L.length z.k, .map z.g])) :
    TurnAt w' lo tb vp Q A5 k5 (D ++ [y]) A' k' (X ++ [z]) (boxD dA dk D) (boxX xA xk X) ∧ Below lo W0 w' := ⟨h.t.appX h.sz h.g href hg ho, h.bel.grown hg h.t.hlo (fun g e => (h.t.ox.lt g e).1)⟩
theorem TurnAt.cells' (h : TurnAt w lo tb vp Q dA dk D xA xk X bd bx) : (w.cell? ⟨tb, 0, none⟩ = some (.pointer (some ⟨vp, 0, none⟩)) ∧ w.cell? ⟨tb, 1, none⟩ = some bd ∧ w.cell? ⟨tb, 2, none⟩ = some bx) ∧ (w.frozen? ⟨tb, 1, none⟩ = false ∧ w.frozen? ⟨tb, 2, none⟩ = false) :=
  ⟨⟨by rw [h.box.cells.1 0]; rfl, by rw [h.box.cells.1 1]; rfl, by rw [h.box.cells.1 2]; rfl⟩, h.box.cells.2 1, h.box.cells.2 2⟩
theorem blkD {cs : Array Value} {b : Nat} (hd : Blk w b cs 73) (h : RegA W0 w lo tb vp Q dA dk D xA xk X y z) (hg : w.grownBy w' (Value.slice dA D.length dk).ownBlock) : Blk w' b cs 73 := hd.stand (Stand.ofOwn h.t.od (Ne.symm ne_T7) hg)
theorem blk_row {cs : Array Value} {b : Nat} {T : TypeId} (h : Blk w b cs T) : Row w w.heap.size (some ⟨b, 0, none⟩) cs.toList :=
  .inr ⟨b, 0, rfl, h.lt, fun j u hu => by rw [Nat.zero_add, h.cells.1]; simpa using hu⟩
theorem atwI {P : Program} {o : Oper} {a : Act} {K : Act → World → Prop} {Q : Exit → Act → World → Prop} {E p : Prop} [Decidable p] (w : World) (h : if p then Oper.wp P o a w K Q else E) : if p then Oper.wp P o a w K Q else E := h
end
end Go.Proofs.YtldlmkfigjicgaaDoor
