/- IvG, IvH, IncS, IvI -/
import Derived.Test.YtldlmkfigjicgaaGreatDoorIncPlaysCardS14
import Derived.Laws.MakeOwn
import Derived.Laws.Rows
/- inc.New. -/
namespace Go.Proofs.YtldlmkfigjicgaaGreatDoor
set_option linter.unusedVariables false
set_option linter.unusedSimpArgs false
open Go.ChangeShapes Go.WideShapes Go.ChangeAt Go.RowKit

theorem ncells_set : ∀ (N : List NR) (i : Nat) (hi : i < N.length) (g : Option Nat), ((ncells N).toArray).setIfInBounds (i * 2 + 1) (.map g) = (ncells (N.set i ⟨N[i].L, N[i].A, N[i].k, g⟩)).toArray
  | x :: N, 0, _, g => by simp [ncells]
  | x :: N, i + 1, hi, g => by
    have ih := ncells_set N i (by simpa using hi) g
    simp only [ncells, List.flatMap_cons, NR.cells, List.set_cons_succ, List.getElem_cons_succ] at ih ⊢
    rw [List.setIfInBounds_toArray] at ih ⊢
    have := congrArg Array.toList ih
    simp only at this
    rw [show (i + 1) * 2 + 1 = (i * 2 + 1) + 1 + 1 by omega]
    simp only [List.cons_append, List.nil_append, List.set_cons_succ]
    rw [this]
theorem made_nodes (n : Nat) : madeCells (Value.agg #[.slice none 0 0, .map none]).cells (n * 2) = (ncells (List.replicate n ⟨[], none, 0, none⟩)).toArray := by
  apply Array.ext'
  unfold madeCells
  have hz : (Value.agg #[.slice none 0 0, .map none]).cells = #[.slice none 0 0, .map none] := rfl
  rw [hz, Array.toList_map, Array.toList_range]
  induction n with
  | zero => rfl
  | succ n ih =>
    rw [show (n + 1) * 2 = n * 2 + 1 + 1 by omega, List.range_succ, List.range_succ, List.map_append, List.map_append, ih, List.replicate_succ']
    have e1 : n * 2 % 2 = 0 := by omega
    have e2 : (n * 2 + 1) % 2 = 1 := by omega
    simp [e1, e2, ncells, List.flatMap_append]
set_option maxRecDepth 100000 in
theorem run_makeNodes (w : World) (n : Nat) (hn : n ≤ 8) : (Instr.makeSlice 92 (.int .i64 (n : Int)) (.int .i64 (n : Int))).run Tryz.prog w = .ok (.slice (some ⟨w.heap.size, 0, none⟩) n n) (w.alloc (.cells (ncells (List.replicate n ⟨[], none, 0, none⟩)).toArray 97)) := by
  obtain ⟨i, z, hi, hz, hs, hb, hc⟩ := elem_node.hi
  have hzz : z = .agg #[.slice none 0 0, .map none] := by
    obtain ⟨i2, hi2, hz2, -, -⟩ := info_parts (P := Tryz.prog) (e := 97) (z := .agg #[.slice none 0 0, .map none]) (size := 2) (bytes := 32) (by kernel_rfl)
    rw [hi] at hi2
    injection hi2 with hi2
    rw [← hi2, hz] at hz2
    injection hz2
  have h := run_make (P := Tryz.prog) w 92 97 i z Tryz.underlying92 hi hz .i64 .i64 n n (by omega) (Int.le_refl _) (by rw [hb]; omega) (by omega)
  rw [Int.toNat_natCast, hs, hzz, made_nodes n] at h
  exact h
theorem lists_of {L : List SR} {W : List Int} (hW : widsL (sts L) [] = some W) : ∀ x ∈ L, x.st.list.length ≤ 1048576 := fun x hx => by
  obtain ⟨i, hi, rfl⟩ := List.getElem_of_mem hx
  have := stW_list (refs_of hW i (by rw [List.length_map]; exact hi))
  rw [List.getElem_map] at this
  omega
theorem grownG_trans {w w1 w2 : World} {row : Option Nat} (h1 : w.grownBy w1 row) (h2 : w1.grownBy w2 row) : w.grownBy w2 row :=
  ⟨h2.os.trans h1.os, h2.tape.trans h1.tape, h2.output.trans h1.output, Nat.le_trans h1.size h2.size, fun k hk hne => (h2.block k (Nat.lt_of_lt_of_le hk h1.size) hne).trans (h1.block k hk hne)⟩
/-- A view of a query that was just made, or none. -/
def NewPost (q : List St) (w : World) (e : Ending) (w' : World) : Prop :=
  (queryE q ≠ 0 ∧ e = .returned (.tuple #[.pointer none, .int .i64 (queryE q)]) ∧ Below w.heap.size w w') ∨
  (queryE q = 0 ∧ ∃ (vp : Nat) (v : VR), e = .returned (.tuple #[.pointer (some ⟨vp, 0, none⟩), .int .i64 0]) ∧ v.at_ w' vp ∧ sts v.Q = q ∧ v.T0.L = [] ∧ v.T1.L = [] ∧ v.N.length = q.length ∧ (∀ x ∈ v.N, x.L = []) ∧ w.heap.size ≤ vp ∧ Below w.heap.size w w' ∧ v.off (fun b => b = vp ∨ b < w.heap.size))
set_option maxHeartbeats 4000000 in
set_option maxRecDepth 100000 in
theorem inew_any (L : List SR) (A : Option Addr) (c : Nat) (w : World) (hr : RowS w w.heap.size A L) (hl : L.length ≤ 9223372036854775807) :
    Calls Tryz.prog 24 #[.slice A L.length c] w (NewPost (sts L) w) := by
  have HQ := hid (qcheck_any L A c w hr hl)
  obtain ⟨E, hE⟩ : ∃ e, e = queryE (sts L) := ⟨_, rfl⟩
  rw [← hE] at HQ
  by_cases hz : E = 0
  rotate_left
  · have t1 : (E != 0) = true := by simpa using hz
    have HE := hid hE
    have HZ := hid hz
    clear hE hz hr
    go_enter Tryz.func24, Tryz.ntmps24
    go_wp2_with fail
    refine HQ.out.mono ?_
    rintro e w1 ⟨rfl, hb1⟩
    go_wp2_with fail
    -- STOP-a
    go_ret2
    unfold NewPost
    rw [← HE.out]
    exact .inl ⟨HZ.out, rfl, hb1⟩
  · have HE := hid (show queryE (sts L) = 0 by rw [← hE]; exact hz)
    subst hz
    obtain ⟨hq0, hq8, W, hW⟩ := queryE_zero.1 HE.out
    rw [List.length_map] at hq0 hq8
    have hll : ∀ x ∈ L, x.st.list.length ≤ 1048576 := lists_of hW
    have HCO := hid (fun w1 (hb : Below w.heap.size w w1) => icopied_any L A c w1 (hr.step hb) (by omega) hll)
    have hmn := fun w1 : World => run_makeNodes w1 L.length hq8
    obtain ⟨n, hn⟩ : ∃ n, n = L.length := ⟨_, rfl⟩
    have HN := hid hn
    rw [← hn] at hmn HQ HCO hq0 hq8 ⊢
    clear hE hr hW hll hn hl
    go_enter Tryz.func24, Tryz.ntmps24
    go_wp2_with fail
    refine HQ.out.mono ?_
    rintro e w1 ⟨rfl, hb1⟩
    have HB1 := hid hb1
    have hb1d := hb1.drew
    have hb1e := (alloc_below hb1 (.cells (ncells (List.replicate n ⟨[], none, 0, none⟩)).toArray 97)).drew
    clear hb1 HQ
    go_upto_region 4 with fail
    go_cut [5] from 12 to 18 (fun s5 wx => ∃ (vb nb : Nat) (qA : Option Addr) (qk : Nat) (M : List SR), s5 = .pointer (some ⟨vb, 0, none⟩) ∧ Hid (sts M = sts L) ∧ Hid (Blk wx vb #[.slice qA n qk, .slice none 0 0, .slice none 0 0, .slice (some ⟨nb, 0, none⟩) n n] 94) ∧ Hid (Blk wx nb (ncells (List.replicate n ⟨[], none, 0, none⟩)).toArray 97) ∧ Hid (RowS wx wx.heap.size qA M) ∧ Hid (∀ b off q, qA = some ⟨b, off, q⟩ → b ≠ nb ∧ b ≠ vb ∧ w.heap.size ≤ b) ∧ Hid (∀ x ∈ M, ∀ b off q, x.A = some ⟨b, off, q⟩ → b ≠ nb ∧ b ≠ vb ∧ w.heap.size ≤ b) ∧ nb ≠ vb ∧ w.heap.size ≤ vb ∧ w.heap.size ≤ nb ∧ Hid (Below w.heap.size w wx))
    case first =>
      go_region_law
        (first
          | (go_simp; go_at_call 59; (with_reducible refine (HCO.out _ hb1d).mono ?_); rintro e w2 ⟨A2, k2, M2, rfl, hst2, hown2, hnew2, hb2⟩; have tok1 : True := trivial)
          | (go_simp; go_at_call 59; (with_reducible refine (HCO.out _ hb1e).mono ?_); rintro e w2 ⟨A2, k2, M2, rfl, hst2, hown2, hnew2, hb2⟩; have tok2 : True := trivial))
      -- STOP-b
      · go_wp2_with fail
        go_meet
        -- STOP-c
        case rel =>
          have hb12 := Below.step' hb1d hb2
          have hs2 : w.heap.size ≤ w2.heap.size := hb12.size
          refine ⟨w2.heap.size + 1, w2.heap.size, A2, k2, M2, rfl, hid hst2, hid ?_, hid ?_, hid ?_, hid (fun b off q e => ?_), hid (fun x hx b off q e => ?_), by omega, by omega, by omega, hid (alloc_below (alloc_below hb12 _) _)⟩
          · have hm2 : M2.length = n := by have := congrArg List.length hst2; rw [List.length_map, List.length_map] at this; rw [this, HN.out]
            rw [← hm2]; exact Blk.new' _ _ _ (by simp)
          · exact (Blk.new w2 _ _).alloc _
          · exact (RowS.step ⟨Row.of_ownS hown2, hnew2.rows⟩ (alloc_below (alloc_below (Below.refl _ _) _) _))
          · have := own_inS hown2 b off q e; have h2 : w1.heap.size ≤ b := own_newS hown2 (by simp) b off q e; have := HB1.out.size; omega
          · have := ((hnew2 x hx).2.2.1 b off q e).2; have h2 : w1.heap.size ≤ b := (hnew2 x hx).2.1 b off q e; have := HB1.out.size; omega
      · go_wp2_with fail
        go_meet
        case rel =>
          have hb12 := Below.step' hb1e hb2
          have hs2 : w.heap.size ≤ w2.heap.size := hb12.size
          have hs1 : w.heap.size ≤ w1.heap.size := HB1.out.size
          have hs12 : w1.heap.size < w2.heap.size := Nat.lt_of_lt_of_le (lt_alloc w1 (.cells (ncells (List.replicate n ⟨[], none, 0, none⟩)).toArray 97)) hb2.size
          refine ⟨w2.heap.size, w1.heap.size, A2, k2, M2, rfl, hid hst2, hid ?_, hid ?_, hid ?_, hid (fun b off q e => ?_), hid (fun x hx b off q e => ?_), by omega, by omega, by omega, hid (alloc_below hb12 _)⟩
          · have hm2 : M2.length = n := by have := congrArg List.length hst2; rw [List.length_map, List.length_map] at this; rw [this, HN.out]
            rw [← hm2]; exact Blk.new _ _ _
          · exact (Blk.step (Blk.drew (Blk.new w1 _ _)) hb2).alloc _
          · exact (RowS.step ⟨Row.of_ownS hown2, hnew2.rows⟩ (alloc_below (Below.refl _ _) _))
          · have h1 := own_inS hown2 b off q e
            have h2 : (World.alloc w1 (.cells (ncells (List.replicate n ⟨[], none, 0, none⟩)).toArray 97)).heap.size ≤ b := own_newS hown2 (Nat.le_refl _) b off q e
            simp at h2
            have := HB1.out.size
            omega
          · have h1 := ((hnew2 x hx).2.2.1 b off q e).2
            have h2 : (World.alloc w1 (.cells (ncells (List.replicate n ⟨[], none, 0, none⟩)).toArray 97)).heap.size ≤ b := (hnew2 x hx).2.1 b off q e
            simp at h2
            have := HB1.out.size
            omega
    case rest =>
      obtain ⟨vb, nb, qA, qk, M, rfl, HST, HVB, HNB, HRQ, HQ1, HQ2, hne, hvb, hnb, HBx⟩ := hcut
      obtain ⟨w3, rfl⟩ : ∃ wx : World, wx = wc := ⟨_, rfl⟩
      have hvl := HVB.out.lt
      have hnl := HNB.out.lt
      have hmm := @run_makeMap Tryz.prog
      obtain ⟨cHVB, fHVB, sHVB, nHVB⟩ := HVB.out.all
      try simp only [cbox] at cHVB
      go_wp2_with fail
      -- STOP-d
      have HNL := hid hnl
      clear cHVB fHVB sHVB nHVB
      go_loopw [24] (fun s24 wr => ∃ (i : Nat) (NS : List NR), i ≤ n ∧ s24 = .int .i64 i ∧ Hid (NS.length = n) ∧ Hid (∀ x ∈ NS, x.L = [] ∧ x.A = none ∧ x.k = 0) ∧ Hid (∀ j (h : j < NS.length), j < i → ∃ gb, NS[j].g = some gb ∧ GM wr gb (fun _ => 0) (fun _ => 0)) ∧ Hid (Blk wr nb (ncells NS).toArray 97) ∧ Hid (Blk wr vb #[.slice qA n qk, .slice none 0 0, .slice none 0 0, .slice (some ⟨nb, 0, none⟩) n n] 94) ∧ Hid (w3.grownBy wr (some nb))) (fun s24 _ => n - (intOf s24).toNat)
      case atStart => exact ⟨0, List.replicate n ⟨[], none, 0, none⟩, by omega, rfl, hid List.length_replicate, hid (fun x hx => by rw [List.eq_of_mem_replicate hx]; exact ⟨rfl, rfl, rfl⟩), hid (fun j h q => by omega), HNB, HVB, hid ⟨rfl, rfl, rfl, Nat.le_refl _, fun _ _ _ => rfl⟩⟩
      case round =>
        clear HVB HNB
        obtain ⟨i, NS, hi, rfl, HLN, HNE, HGM, HNB, HVB, HG⟩ := hrel
        obtain ⟨wo, rfl⟩ : ∃ wx : World, wx = wr := ⟨_, rfl⟩
        by_cases hlt : i < n
        · have hlt2 : (i : Int) < (n : Int) := by omega
          have hnbl := HNB.out.lt
          have HNA := hid (HNB.out.alloc (.map #[] 0))
          have hin : i < NS.length := by rw [HLN.out]; exact hlt
          have hcz : (ncells NS).toArray.size = NS.length * 2 := by rw [List.size_toArray, ncells_len]
          have hcell := (HNA.out.cells.1 (i * 2 + 1))
          have hfz := (HNA.out.cells.2 (i * 2 + 1))
          obtain ⟨cv, hcv⟩ : ∃ cv, (ncells NS).toArray[i * 2 + 1]? = some cv := ⟨_, Array.getElem?_eq_getElem (by rw [hcz]; omega)⟩
          rw [hcv] at hcell
          have hcz2 : wo.heap.size + 1 = (wo.alloc (.map #[] 0)).heap.size := by simp
          have HIN := hid hin
          clear hcz hcv hcz2 hin
          obtain ⟨cHVB, fHVB, sHVB, nHVB⟩ := HVB.out.all
          try simp only [cbox] at cHVB
          go_wp2_with fail
          -- STOP-e
          go_roundw
          case rel =>
            have hin := HIN.out
            have hsz : (wo.setCell ⟨nb, i * 2 + 1, none⟩ (.map (some wo.heap.size))).heap.size = wo.heap.size := World.size_setCell ..
            have hg1 := grown_setS wo nb (i * 2 + 1) (.map (some wo.heap.size))
            have hg2 : (wo.setCell ⟨nb, i * 2 + 1, none⟩ (.map (some wo.heap.size))).grownBy ((wo.setCell ⟨nb, i * 2 + 1, none⟩ (.map (some wo.heap.size))).alloc (.map #[] 0)) (some nb) := World.grownBy_alloc _ _ _
            have hom := World.ownsMap_made (wo.setCell ⟨nb, i * 2 + 1, none⟩ (.map (some wo.heap.size))) Tryz.prog 3 grpElem
            rw [hsz] at hom
            refine ⟨i + 1, NS.set i ⟨NS[i].L, NS[i].A, NS[i].k, some wo.heap.size⟩, by omega, by go_num, hid (by rw [List.length_set]; exact HLN.out), hid (fun x hx => ?_), hid (fun j h q => ?_), hid ?_, hid ?_, hid (grownG_trans HG.out (grownG_trans hg1 hg2))⟩
            · rcases List.mem_or_eq_of_mem_set hx with e | e
              · exact HNE.out x e
              · rw [e]; exact HNE.out NS[i] (List.getElem_mem hin)
            · by_cases e : j = i
              · subst e
                exact ⟨wo.heap.size, by simp, 0, .map [], by omega, hom, FMap.nil⟩
              · rw [List.length_set] at h
                obtain ⟨gb, e1, e2⟩ := HGM.out j h (by omega)
                refine ⟨gb, by rw [List.getElem_set_ne (Ne.symm e)]; exact e1, ?_⟩
                exact (e2.kept hg1 (fun q => by injection q with q; exact e2.ne_cells HNB.out q)).kept (World.grownBy_alloc _ (.map #[] 0) none) (by simp)
            · exact ((HNB.out.set (i * 2 + 1) _).eq (ncells_set NS i hin _)).alloc _
            · exact (HVB.out.other (by simp; exact Ne.symm hne) _).alloc _
          case measure => simp [intOf]; omega
        · have hin : i = n := by omega
          subst hin
          go_wp2_with fail
          -- STOP-f
          go_ret2
          have hml : M.length = i := by have := congrArg List.length HST.out; rw [List.length_map, List.length_map] at this; rw [this, HN.out]
          refine .inr ⟨HE.out, vb, ⟨M, qA, qk, ⟨[], none, 0⟩, ⟨[], none, 0⟩, NS, some ⟨nb, 0, none⟩, i⟩, rfl, ⟨?_, ?_, RowI.nil, RowI.nil, ?_, fun x hx => ?_, fun j h h2 => ?_⟩, HST.out, rfl, rfl, ?_, fun x hx => (HNE.out x hx).1, hvb, ?_, ?_⟩
          · show Blk wo vb #[.slice qA M.length qk, .slice none 0 0, .slice none 0 0, .slice (some ⟨nb, 0, none⟩) NS.length i] _
            rw [hml, HLN.out]; exact HVB.out
          · refine ⟨((HRQ.out.1).grown_ne (Nat.le_refl _) HG.out (fun b off q e e2 => by injection e2 with e2; exact (HQ1.out b off q e).1 e2)).more HG.out.size, fun x hx => ⟨(((HRQ.out.2 x hx).1).grown_ne (Nat.le_refl _) HG.out (fun b off q e e2 => by injection e2 with e2; exact (HQ2.out x hx b off q e).1 e2)).more HG.out.size, (HRQ.out.2 x hx).2⟩⟩
          · exact blk_row HNB.out
          · obtain ⟨e1, e2, e3⟩ := HNE.out x hx
            rw [e1]; exact RowI.nil
          · intro hk
            have h' : j < NS.length := h
            obtain ⟨gb, e1, e2⟩ := HGM.out j h' (by have := HLN.out; omega)
            have hnil : (nsets NS).getD M[j].st.a.toNat [] = [] := by
              rw [List.getD_eq_getElem?_getD, List.getElem?_map]
              cases hq : NS[M[j].st.a.toNat]? with
              | none => rfl
              | some y =>
                have := (HNE.out y (List.mem_of_getElem? hq)).1
                simp [this]
            show ∃ gb, NS[j].g = some gb ∧ GM wo gb (grpN M[j].st ((nsets NS).getD M[j].st.a.toNat [])) (grpS M[j].st ((nsets NS).getD M[j].st.a.toNat []))
            rw [hnil]
            exact ⟨gb, e1, e2.congr (fun k => ((grp_out (s := M[j].st) (A := []) (k := k) (by simp [keysG, dedupI])).1).symm) (fun k => ((grp_out (s := M[j].st) (A := []) (k := k) (by simp [keysG, dedupI])).2).symm)⟩
          · show NS.length = (sts L).length
            rw [HLN.out, ← hml, ← HST.out, List.length_map]
          · exact HBx.out.grown HG.out HBx.out.size (fun g e => by injection e with e; omega)
          · refine ⟨⟨.inr fun b off q e hb => ?_, fun x hx => .inr fun b off q e hb => ?_⟩, ⟨.inl rfl, fun x hx => by simp at hx⟩, ⟨.inl rfl, fun x hx => by simp at hx⟩, .inr fun b off q e hb => ?_, fun x hx => ?_⟩
            · obtain ⟨h1, h2, h3⟩ := HQ1.out b off q e; omega
            · obtain ⟨h1, h2, h3⟩ := HQ2.out x hx b off q e; omega
            · injection e with e; injection e with e; omega
            · obtain ⟨e1, e2, e3⟩ := HNE.out x hx
              rw [e1]
              exact ⟨.inl rfl, fun y hy => by simp at hy⟩
end Go.Proofs.YtldlmkfigjicgaaGreatDoor
/- inc.View.fed. -/
namespace Go.Proofs.YtldlmkfigjicgaaGreatDoor
set_option linter.unusedVariables false
set_option linter.unusedSimpArgs false
open Go.ChangeShapes Go.WideShapes Go.ChangeAt Go.RowKit

theorem results_pair {fn : Func} {p u : Tmp} (h : fn.results = #[.cell p 56, .tmp u]) (tmps : Array Value) (w : World) (g : Nat) (t : TypeId) (cs : Array Value) (fr : Nat × Nat)
    (hp : tmps.getD p undef = .pointer (some ⟨g, 0, none⟩)) (hg : w.heap[g]? = some (.cells cs t fr)) (hi : (Tryz.prog.info? 56).map (·.size) = some cs.size) :
    (results fn tmps).run Tryz.prog w = .ok (.tuple #[.agg cs, tmps.getD u undef]) w := by
  have hp' : tmps[p]?.getD undef = .pointer (some ⟨g, 0, none⟩) := by simpa using hp
  have hr := run_loadVar_row (P := Tryz.prog) w g t 56 cs fr _ hg Tryz.underlying56 rfl hi
  simp [results, h, hp', asAddr, hr]
theorem Stand.set {T T' : TypeId} {w : World} {b : Nat} {cs : Array Value} (hb : Blk w b cs T') (hT : T ≠ T') (i : Nat) (v : Value) : Stand T w (w.setCell ⟨b, i, none⟩ v) := Stand.grown (grown_setS w b i v) fun g cur d hc q => by
  injection q with q
  subst q
  unfold Blk at hb
  rw [hc] at hb
  injection hb with hb
  injection hb with _ hb _
  exact hT hb
theorem SetIn.set {w : World} {lo b : Nat} {A : Option Addr} {k : Nat} {L : List IR} {cs : Array Value} {T : TypeId} (h : SetIn w lo A k L) (hb : Blk w b cs T) (h1 : 67 ≠ T) (h2 : 3 ≠ T) (i : Nat) (v : Value) : SetIn (w.setCell ⟨b, i, none⟩ v) lo A k L :=
  h.stand (Stand.set hb h1 i v) (Stand.set hb h2 i v) (grown_setS w b i v).size
theorem ne_A1 : 67 ≠ 56 := by decide
theorem ne_A2 : 3 ≠ 56 := by decide
/-- What is wrong with tables that are fed. -/
def fedE (q : List St) (T0 T1 a b : List It) : Int := if basesE q a b ≠ 0 then basesE q a b else if addE T0 a ≠ 0 then addE T0 a else addE T1 b
def FedPost (q : List St) (T0 T1 a b : List It) (w : World) (e : Ending) (w' : World) : Prop :=
  Below w.heap.size w w' ∧ ∃ (Y0 Y1 : LR), e = .returned (.tuple #[.agg #[.slice Y0.A Y0.L.length Y0.k, .slice Y1.A Y1.L.length Y1.k], .int .i64 (fedE q T0 T1 a b)]) ∧
    (fedE q T0 T1 a b = 0 → its Y0.L = sumL (T0 ++ a) ∧ its Y1.L = sumL (T1 ++ b) ∧ SetIn w' w.heap.size Y0.A Y0.k Y0.L ∧ SetIn w' w.heap.size Y1.A Y1.k Y1.L)
theorem idx_zero (x0 x1 : Value) (w : World) : (Instr.index 56 (.agg #[x0, x1]) (.int .i64 0)).run Tryz.prog w = .ok x0 w := by kernel_rfl
theorem idx_one (x0 x1 : Value) (w : World) : (Instr.index 56 (.agg #[x0, x1]) (.int .i64 1)).run Tryz.prog w = .ok x1 w := by kernel_rfl
set_option maxHeartbeats 4000000 in
set_option maxRecDepth 100000 in
theorem fed_any (v : VR) (vp : Nat) (m0 m1 : LR) (w : World) (hv : v.at_ w vp) (h0 : RowI w w.heap.size m0.A m0.L) (h1 : RowI w w.heap.size m1.A m1.L) (l0 : m0.L.length ≤ 9223372036854775807) (l1 : m1.L.length ≤ 9223372036854775807)
    (lQ : v.Q.length ≤ 9223372036854775807) (lT0 : v.T0.L.length ≤ 9223372036854775807) (lT1 : v.T1.L.length ≤ 9223372036854775807) :
    Calls Tryz.prog 61 #[.pointer (some ⟨vp, 0, none⟩), .agg #[.slice m0.A m0.L.length m0.k, .slice m1.A m1.L.length m1.k]] w (FedPost (sts v.Q) (its v.T0.L) (its v.T1.L) (its m0.L) (its m1.L) w) := by
  have HBA := hid (fun w1 (hb : Below w.heap.size w w1) => bases_any v.Q m0.L m1.L v.qA m0.A m1.A v.qk m0.k m1.k w1 (hv.q.step hb) lQ (h0.step hb) l0 (h1.step hb) l1)
  have HA0 := hid (fun w1 (hb : Below w.heap.size w w1) => add_any v.T0.L m0.L v.T0.A m0.A v.T0.k m0.k w1 (hv.t0.step hb) lT0 (h0.step hb) l0)
  have HA1 := hid (fun w1 (hb : Below w.heap.size w w1) => add_any v.T1.L m1.L v.T1.A m1.A v.T1.k m1.k w1 (hv.t1.step hb) lT1 (h1.step hb) l1)
  have hvb := hv.box
  obtain ⟨Q, qA, qk, ⟨T0, tA0, tk0⟩, ⟨T1, tA1, tk1⟩, N, nA, nk⟩ := v
  obtain ⟨L0, A0, k0⟩ := m0
  obtain ⟨L1, A1, k1⟩ := m1
  simp only [VR.cells] at hvb HBA HA0 HA1 ⊢
  have HFE := hid (show fedE (sts Q) (its T0) (its T1) (its L0) (its L1) = if basesE (sts Q) (its L0) (its L1) ≠ 0 then basesE (sts Q) (its L0) (its L1) else if addE (its T0) (its L0) ≠ 0 then addE (its T0) (its L0) else addE (its T1) (its L1) from rfl)
  have HX0 := hid (show addE (its T0) (its L0) = 0 → addX (its T0) (its L0) = sumL (its T0 ++ its L0) from fun h => if_pos h)
  have HX1 := hid (show addE (its T1) (its L1) = 0 → addX (its T1) (its L1) = sumL (its T1 ++ its L1) from fun h => if_pos h)
  unfold FedPost
  obtain ⟨F, hF⟩ : ∃ f, f = fedE (sts Q) (its T0) (its T1) (its L0) (its L1) := ⟨_, rfl⟩
  obtain ⟨EB, hEB⟩ : ∃ f, f = basesE (sts Q) (its L0) (its L1) := ⟨_, rfl⟩
  obtain ⟨E0, hE0⟩ : ∃ f, f = addE (its T0) (its L0) := ⟨_, rfl⟩
  obtain ⟨E1, hE1⟩ : ∃ f, f = addE (its T1) (its L1) := ⟨_, rfl⟩
  rw [← hF] at HFE ⊢
  rw [← hEB] at HFE HBA
  rw [← hE0] at HFE HA0 HX0
  rw [← hE1] at HFE HA1 HX1
  clear hF hEB hE0 hE1 hv h0 h1
  obtain ⟨W, hW⟩ : ∃ W : World, W = ((w.alloc (.cells #[.slice A0 L0.length k0, .slice A1 L1.length k1] 56)).alloc (.cells #[.slice none 0 0, .slice none 0 0] 56)).alloc (.cells #[.slice none 0 0, .slice none 0 0] 56) := ⟨_, rfl⟩
  have HB := hid (show Below w.heap.size w W by rw [hW]; exact alloc_below (alloc_below (alloc_below (Below.refl _ _) _) _) _)
  have HM := hid (show Blk W w.heap.size #[.slice A0 L0.length k0, .slice A1 L1.length k1] 56 by rw [hW]; exact ((Blk.new _ _ _).alloc _).alloc _)
  have HR := hid (show Blk W (w.heap.size + 1) #[.slice none 0 0, .slice none 0 0] 56 by rw [hW]; exact (Blk.new' _ _ _ (by simp)).alloc _)
  have HO := hid (show Blk W (w.heap.size + 1 + 1) #[.slice none 0 0, .slice none 0 0] 56 by rw [hW]; exact Blk.new' _ _ _ (by simp))
  have HV := hid (hvb.step HB.out)
  have HVL := hid hvb.lt
  clear hvb
  go_enter Tryz.func61, Tryz.ntmps61
  go_upto_region 2 with fail
  -- STOP-a
  rw [← hW]
  clear hW
  obtain ⟨cHM, fHM, sHM, nHM⟩ := HM.out.all
  try simp only [cbox] at cHM
  obtain ⟨cHV, fHV, sHV, nHV⟩ := HV.out.all
  try simp only [cbox] at cHV
  refine region_tail 8 (by kernel_rfl) (by kernel_rfl) ?_
  simp only [List.take_succ_cons, List.take_zero, List.drop_succ_cons, List.drop_zero]
  repeat still_step
  refine wpStill_nil ?_
  go_wp2_with fail
  refine (HBA.out _ HB.out.drew).mono ?_
  rintro e w1 ⟨rfl, hb1⟩
  clear cHM fHM sHM nHM
  clear cHV fHV sHV nHV
  have hb1' : Below W.heap.size W w1 := Below.step' (Below.drew (Below.refl _ _)) hb1
  replace HM := hid (HM.out.step hb1')
  replace HR := hid (HR.out.step hb1')
  replace HO := hid (HO.out.step hb1')
  replace HV := hid (HV.out.step hb1')
  replace HB := hid (Below.step' HB.out hb1')
  clear hb1 hb1' HBA
  -- STOP-b
  by_cases hz : EB = 0
  rotate_left
  · have t1 : (EB != 0) = true := by simpa using hz
    have HE := hid (show F = EB by rw [HFE.out, if_pos hz])
    have HNZ := hid hz
    clear hz
    obtain ⟨cHO, fHO, sHO, nHO⟩ := HO.out.all
    try simp only [cbox] at cHO
    obtain ⟨cHR, fHR, sHR, nHR⟩ := HR.out.all
    try simp only [cbox] at cHR
    go_wp2_with fail
    -- STOP-c
    refine bodyPost_ret (results_pair rfl _ _ (w.heap.size + 1) _ #[.slice none 0 0, .slice none 0 0] (0, 0) rfl (((HR.out.set 0 _).set 1 _).eq rfl) (by kernel_rfl)) rfl ?_
    exact ⟨(HB.out.setCell (p := ⟨w.heap.size + 1, 0, none⟩) (by simp) _).setCell (p := ⟨w.heap.size + 1, 1, none⟩) (by simp) _, ⟨[], none, 0⟩, ⟨[], none, 0⟩, by rw [HE.out]; rfl, fun h => absurd (by rw [← HE.out]; exact h) HNZ.out⟩
  have HFE1 := hid (show F = if E0 ≠ 0 then E0 else E1 by rw [HFE.out, if_neg (by simp [hz])])
  subst hz
  clear HFE
  have hi0 := fun w1 => idx_zero (.slice A0 L0.length k0) (.slice A1 L1.length k1) w1
  have hi1 := fun w1 => idx_one (.slice A0 L0.length k0) (.slice A1 L1.length k1) w1
  obtain ⟨cHM, fHM, sHM, nHM⟩ := HM.out.all
  try simp only [cbox] at cHM
  go_wp2_with fail
  clear cHM fHM sHM nHM
  -- STOP-d
  refine wp_loop_rounds 3 ?_
  rw [rounds_succ]
  obtain ⟨cHV, fHV, sHV, nHV⟩ := HV.out.all
  try simp only [cbox] at cHV
  go_wp2_with fail
  -- STOP-e
  refine (HA0.out _ HB.out).mono ?_
  rintro e w2 ⟨Y0A, Y0k, Y0, rfl, hi2, ho2, hn2, hb2⟩
  clear cHV fHV sHV nHV
  have HS2 := hid (show SetIn w2 w.heap.size Y0A Y0k Y0 from SetIn.lo ⟨ho2, hn2⟩ HB.out.size)
  replace HR := hid (HR.out.step hb2)
  replace HO := hid (HO.out.step hb2)
  replace HV := hid (HV.out.step hb2)
  replace HB := hid (Below.step' HB.out hb2)
  have HI2 := hid hi2
  clear hb2 HA0 HM ho2 hn2 hi2
  by_cases hz : E0 = 0
  rotate_left
  · have t1 : (E0 != 0) = true := by simpa using hz
    have HE := hid (show F = E0 by rw [HFE1.out, if_pos hz])
    have HNZ := hid hz
    clear hz
    obtain ⟨cHO, fHO, sHO, nHO⟩ := HO.out.all
    try simp only [cbox] at cHO
    obtain ⟨cHR, fHR, sHR, nHR⟩ := HR.out.all
    try simp only [cbox] at cHR
    go_wp2_with fail
    refine bodyPost_ret (results_pair rfl _ _ (w.heap.size + 1) _ #[.slice none 0 0, .slice none 0 0] (0, 0) rfl (((HR.out.set 0 _).set 1 _).eq rfl) (by kernel_rfl)) rfl ?_
    exact ⟨(HB.out.setCell (p := ⟨w.heap.size + 1, 0, none⟩) (by simp) _).setCell (p := ⟨w.heap.size + 1, 1, none⟩) (by simp) _, ⟨[], none, 0⟩, ⟨[], none, 0⟩, by rw [HE.out]; rfl, fun h => absurd (by rw [← HE.out]; exact h) HNZ.out⟩
  have HFE2 := hid (show F = E1 by rw [HFE1.out, if_neg (by simp [hz])])
  have HI2' := hid (show its Y0 = sumL (its T0 ++ its L0) by rw [HI2.out]; exact HX0.out hz)
  subst hz
  clear HFE1 HX0 HI2
  obtain ⟨cHO, fHO, sHO, nHO⟩ := HO.out.all
  try simp only [cbox] at cHO
  go_wp2_with fail
  clear cHO fHO sHO nHO
  -- STOP-f
  obtain ⟨w3, hw3⟩ : ∃ q : World, q = w2.setCell ⟨w.heap.size + 1 + 1, 0, none⟩ (.slice Y0A Y0.length Y0k) := ⟨_, rfl⟩
  rw [← hw3]
  have HS3 := hid (show SetIn w3 w.heap.size Y0A Y0k Y0 by rw [hw3]; exact HS2.out.set HO.out ne_A1 ne_A2 _ _)
  have HO3 := hid (show Blk w3 (w.heap.size + 1 + 1) #[.slice Y0A Y0.length Y0k, .slice none 0 0] 56 by rw [hw3]; exact (HO.out.set 0 _).eq rfl)
  have HR3 := hid (show Blk w3 (w.heap.size + 1) #[.slice none 0 0, .slice none 0 0] 56 by rw [hw3]; exact HR.out.other (by simp) _)
  have HB3 := hid (show Below w.heap.size w w3 by rw [hw3]; exact HB.out.setCell (p := ⟨w.heap.size + 1 + 1, 0, none⟩) (by simp; omega) _)
  have HV3 := hid (show Blk w3 vp #[.slice qA Q.length qk, .slice tA0 T0.length tk0, .slice tA1 T1.length tk1, .slice nA N.length nk] 94 by rw [hw3]; exact HV.out.other (by have := HVL.out; simp; omega) _)
  clear hw3 HS2 HO HR HB HV
  rw [rounds_succ]
  obtain ⟨cHV3, fHV3, sHV3, nHV3⟩ := HV3.out.all
  try simp only [cbox] at cHV3
  go_wp2_with fail
  -- STOP-g
  refine (HA1.out _ HB3.out).mono ?_
  rintro e w4 ⟨Y1A, Y1k, Y1, rfl, hi2, ho2, hn2, hb2⟩
  clear cHV3 fHV3 sHV3 nHV3
  have HS4 := hid (show SetIn w4 w.heap.size Y1A Y1k Y1 from SetIn.lo ⟨ho2, hn2⟩ HB3.out.size)
  replace HR3 := hid (HR3.out.step hb2)
  replace HO3 := hid (HO3.out.step hb2)
  replace HS3 := hid (HS3.out.step hb2)
  replace HB3 := hid (Below.step' HB3.out hb2)
  have HI4 := hid hi2
  clear hb2 HA1 ho2 hn2 hi2
  by_cases hz : E1 = 0
  rotate_left
  · have t1 : (E1 != 0) = true := by simpa using hz
    have HE := hid HFE2.out
    have HNZ := hid hz
    clear hz
    obtain ⟨cHO3, fHO3, sHO3, nHO3⟩ := HO3.out.all
    try simp only [cbox] at cHO3
    obtain ⟨cHR3, fHR3, sHR3, nHR3⟩ := HR3.out.all
    try simp only [cbox] at cHR3
    go_wp2_with fail
    refine bodyPost_ret (results_pair rfl _ _ (w.heap.size + 1) _ #[.slice Y0A Y0.length Y0k, .slice none 0 0] (0, 0) rfl (((HR3.out.set 0 _).set 1 _).eq rfl) (by kernel_rfl)) rfl ?_
    exact ⟨(HB3.out.setCell (p := ⟨w.heap.size + 1, 0, none⟩) (by simp) _).setCell (p := ⟨w.heap.size + 1, 1, none⟩) (by simp) _, ⟨Y0, Y0A, Y0k⟩, ⟨[], none, 0⟩, by rw [HE.out]; rfl, fun h => absurd (by rw [← HE.out]; exact h) HNZ.out⟩
  have HI4' := hid (show its Y1 = sumL (its T1 ++ its L1) by rw [HI4.out]; exact HX1.out hz)
  subst hz
  clear HX1 HI4
  obtain ⟨cHO3, fHO3, sHO3, nHO3⟩ := HO3.out.all
  try simp only [cbox] at cHO3
  go_wp2_with fail
  clear cHO3 fHO3 sHO3 nHO3
  -- STOP-h
  obtain ⟨w5, hw5⟩ : ∃ q : World, q = w4.setCell ⟨w.heap.size + 1 + 1, 1, none⟩ (.slice Y1A Y1.length Y1k) := ⟨_, rfl⟩
  rw [← hw5]
  have HS5 := hid (show SetIn w5 w.heap.size Y0A Y0k Y0 by rw [hw5]; exact HS3.out.set HO3.out ne_A1 ne_A2 _ _)
  have HS6 := hid (show SetIn w5 w.heap.size Y1A Y1k Y1 by rw [hw5]; exact HS4.out.set HO3.out ne_A1 ne_A2 _ _)
  have HO5 := hid (show Blk w5 (w.heap.size + 1 + 1) #[.slice Y0A Y0.length Y0k, .slice Y1A Y1.length Y1k] 56 by rw [hw5]; exact (HO3.out.set 1 _).eq rfl)
  have HR5 := hid (show Blk w5 (w.heap.size + 1) #[.slice none 0 0, .slice none 0 0] 56 by rw [hw5]; exact HR3.out.other (by simp) _)
  have HB5 := hid (show Below w.heap.size w w5 by rw [hw5]; exact HB3.out.setCell (p := ⟨w.heap.size + 1 + 1, 1, none⟩) (by simp; omega) _)
  clear hw5 HS3 HS4 HO3 HR3 HB3 HV3
  rw [rounds_succ]
  obtain ⟨cHO5, fHO5, sHO5, nHO5⟩ := HO5.out.all
  try simp only [cbox] at cHO5
  obtain ⟨cHR5, fHR5, sHR5, nHR5⟩ := HR5.out.all
  try simp only [cbox] at cHR5
  go_wp2_with fail
  -- STOP-i
  refine bodyPost_ret (results_pair rfl _ _ (w.heap.size + 1) _ #[.slice Y0A Y0.length Y0k, .slice Y1A Y1.length Y1k] (0, 0) rfl (((HR5.out.set 0 _).set 1 _).eq rfl) (by kernel_rfl)) rfl ?_
  have hr6 := HR5.out.set 0 (.slice Y0A Y0.length Y0k)
  refine ⟨(HB5.out.setCell (p := ⟨w.heap.size + 1, 0, none⟩) (by simp) _).setCell (p := ⟨w.heap.size + 1, 1, none⟩) (by simp) _, ⟨Y0, Y0A, Y0k⟩, ⟨Y1, Y1A, Y1k⟩, by rw [HFE2.out]; rfl, fun _ => ⟨HI2'.out, HI4'.out, ?_, ?_⟩⟩
  · exact (HS5.out.set HR5.out ne_A1 ne_A2 _ _).set hr6 ne_A1 ne_A2 _ _
  · exact (HS6.out.set HR5.out ne_A1 ne_A2 _ _).set hr6 ne_A1 ne_A2 _ _
end Go.Proofs.YtldlmkfigjicgaaGreatDoor
/- Views: a turn, step by step. No program in sight. -/
namespace Go.Proofs.YtldlmkfigjicgaaGreatDoor
set_option linter.unusedVariables false
set_option linter.unusedSimpArgs false

theorem More.tab {T a : List It} : More a T (sumL (T ++ a)) := fun r => by
  have h := More.self T a r
  rw [h]
  exact wt_app (fun r => (wt_sumL (T ++ a) r).symm) (fun r => rfl) r
/-- A turn that has come to step i. -/
structure TP (v : VS) (a b : List It) (W : List Int) (i : Nat) (N D : List (List It)) : Prop where
  len : N.length = i
  d : D = dl v.S N
  g : setsG (sumL (v.T0 ++ a)) (sumL (v.T1 ++ b)) v.q [] = setsG (sumL (v.T0 ++ a)) (sumL (v.T1 ++ b)) (v.q.drop i) N
  o : OkOut N (W.take i)
theorem TP.start (v : VS) (a b : List It) (W : List Int) : TP v a b W 0 [] [] := ⟨rfl, by unfold dl; simp, rfl, okOut_nil⟩
theorem okOut_strict {N : List (List It)} {W : List Int} (h : OkOut N W) (j : Nat) : Strict (N.getD j []) := by
  by_cases hj : j < N.length
  · exact (setI_zero.1 (h.2 j hj).1).2.2
  · rw [List.getD_eq_getElem?_getD, List.getElem?_eq_none (by omega)]; trivial
section
variable {v : VS} {a b : List It} {W : List Int} {i : Nat} {N D : List (List It)}
theorem TP.set_eq (h : TP v a b W i N D) (hv : v.ok) (hW : widsL v.q [] = some W) (hi : i < v.q.length) :
    sumL (mAt a b v.q[i] v.S D) = subL (v.S.getD i []) (sumL (v.S.getD i [] ++ sumL (mAt a b v.q[i] v.S D))) ∧ sumL (v.S.getD i [] ++ sumL (mAt a b v.q[i] v.S D)) = sumL (atL (sumL (v.T0 ++ a)) (sumL (v.T1 ++ b)) v.q[i] N) := by
  have hf := hv.fix
  have hSl : v.S.length = v.q.length := hf.1
  have hS := (hf.2 i hi).1
  have ht := turn_step (ta := v.T0) (tb := v.T1) (ma := a) (mb := b) (ta' := sumL (v.T0 ++ a)) (tb' := sumL (v.T1 ++ b)) More.tab More.tab (s := v.q[i]) (S := v.S) (N := N)
    (fun hk => by have := refs_lt hW i hi hk; rw [h.len]; exact ⟨this.2.1, this.2.2.2⟩) (fun j => hf.strict j) (fun j => okOut_strict h.o j) (by rw [h.len]; omega) (X := mAt a b v.q[i] v.S (dl v.S N)) (fun r => rfl)
  rw [h.d, hS, ht.2]
  exact ⟨ht.1, rfl⟩
theorem TP.next (h : TP v a b W i N D) (hv : v.ok) (hW : widsL v.q [] = some W) (hi : i < v.q.length) (ha : ∀ x ∈ a, x.1.length = 4) (hb : ∀ x ∈ b, x.1.length = 4) (h0 : doneE (sumL (v.S.getD i [] ++ sumL (mAt a b v.q[i] v.S D))) = 0) :
    TP v a b W (i + 1) (N ++ [sumL (v.S.getD i [] ++ sumL (mAt a b v.q[i] v.S D))]) (D ++ [sumL (mAt a b v.q[i] v.S D)]) := by
  obtain ⟨e1, e2⟩ := h.set_eq hv hW hi
  have hSl : v.S.length = v.q.length := hv.fix.1
  have hWl := (widsL_len hW).1
  simp only [List.length_nil, Nat.zero_add] at hWl
  have hst := refs_of hW i hi
  simp only [List.length_nil, Nat.zero_add] at hst
  have hcons : v.q.drop i = v.q[i] :: v.q.drop (i + 1) := (List.drop_eq_getElem_cons hi)
  refine ⟨by rw [List.length_append, h.len]; rfl, ?_, ?_, ?_⟩
  · rw [dl_snoc (by rw [h.len]; omega), ← h.d, h.len, ← e1]
  · rw [h.g, hcons, setsG, ← e2, if_neg (fun q => q h0)]
  · rw [List.take_succ_eq_append_getElem (by omega)]
    have hWi : stW v.q[i] (W.take i) = W[i]'(by omega) := by
      have h1 := widsL_step hW i hi
      exact h1
    rw [← hWi]
    refine h.o.snoc (done_set h0) fun x hx => ?_
    obtain ⟨y, hy, e⟩ := sumL_mem (by rw [e2] at hx; exact hx)
    rw [← e]
    exact atL_wide hst h.o (sum_wide hv.w0 ha) (sum_wide hv.w1 hb) y hy
theorem TP.stop (h : TP v a b W i N D) (hv : v.ok) (hW : widsL v.q [] = some W) (hi : i < v.q.length) (h0 : doneE (sumL (v.S.getD i [] ++ sumL (mAt a b v.q[i] v.S D))) ≠ 0) :
    (setsG (sumL (v.T0 ++ a)) (sumL (v.T1 ++ b)) v.q []).1 = doneE (sumL (v.S.getD i [] ++ sumL (mAt a b v.q[i] v.S D))) := by
  obtain ⟨e1, e2⟩ := h.set_eq hv hW hi
  rw [h.g, List.drop_eq_getElem_cons hi, setsG, ← e2, if_pos h0]
theorem TP.done (h : TP v a b W v.q.length N D) : setsG (sumL (v.T0 ++ a)) (sumL (v.T1 ++ b)) v.q [] = (0, N) := by rw [h.g, List.drop_length, setsG]
end
end Go.Proofs.YtldlmkfigjicgaaGreatDoor
/- inc.View.Feed: what its steps ask; what stands while one block turns. -/
namespace Go.Proofs.YtldlmkfigjicgaaGreatDoor
set_option linter.unusedVariables false
set_option linter.unusedSimpArgs false
open Go.ChangeShapes Go.WideShapes Go.ChangeAt Go.RowKit

/-- Rows of one width, in their bounds. -/
def FitL (V : Int) (L : List It) : Prop := ∀ y ∈ L, (y.1.length : Int) = V ∧ y.1.length ≤ 8 ∧ (∀ z ∈ y.1, -1073741824 ≤ z ∧ z ≤ 1073741824) ∧ -2097152 ≤ y.2 ∧ y.2 ≤ 2097152
theorem fit_set {V : Int} {L : List It} (hs : setI L = 0) (hw : ∀ x ∈ L, (x.1.length : Int) = V) : FitL V L := fun y hy => by
  have := badB_bound ((setI_zero.1 hs).2.1 y hy)
  exact ⟨hw y hy, this.1, this.2.1, by omega, by omega⟩
theorem fit_sub {V : Int} {S N : List It} (hs : setI S = 0) (hw : ∀ x ∈ S, (x.1.length : Int) = V) (hn : setI N = 0) (hwn : ∀ x ∈ N, (x.1.length : Int) = V) : FitL V (subL S N) := fun y hy => by
  obtain ⟨⟨z, hz, e⟩, h1, h2, h3⟩ := (subL_bound hs hn).2 y hy
  refine ⟨?_, h1, h2, h3⟩
  rw [← e]
  exact hz.elim (hw z) (hwn z)
theorem take_getD {W : List Int} {i j : Nat} (h : j < i) : (W.take i).getD j 0 = W.getD j 0 := by
  rw [List.getD_eq_getElem?_getD, List.getD_eq_getElem?_getD, List.getElem?_take, if_pos h]
theorem moreOk_gen {s : St} {V : List Int} (hst : stW s V ≠ 0) (hk : s.kind ≠ 1) {A B a b : List It} (fA : FitL (V.getD s.a.toNat 0) A) (fB : FitL (V.getD s.b.toNat 0) B) (fa : FitL (V.getD s.a.toNat 0) a) (fb : FitL (V.getD s.b.toNat 0) b)
    (sA : Strict A) (la : a.length ≤ 800) (lb : b.length ≤ 800) (lA : A.length ≤ 400) (lB : B.length ≤ 400) : MoreOk s A B a b := by
  rcases stW_ok hst with ⟨k1, -⟩ | ⟨a0, a1, b0, b1, hkk⟩
  · exact absurd k1 hk
  · refine ⟨⟨fun k2 => ?_, fun k3 => ?_, fun k6 y hy => (fb y hy).2.2.2⟩, fun k4 => ?_, fun _ => sA, fun k89 => ?_, la, lb, lA, lB⟩
    · rcases hkk with ⟨q, hk⟩ | ⟨q, hk⟩ | ⟨q, hk⟩ | ⟨q, hk⟩ | q | ⟨q, hk⟩ | ⟨q, hk⟩ <;> try omega
      exact ⟨hk.1, fun y hy => by have := (fa y hy).1; omega⟩
    · rcases hkk with ⟨q, hk⟩ | ⟨q, hk⟩ | ⟨q, hk⟩ | ⟨q, hk⟩ | q | ⟨q, hk⟩ | ⟨q, hk⟩ <;> try omega
      exact ⟨hk.1, fun n hn => ⟨(hk.2 n hn).1, fun y hy => by have := (fa y hy).1; have := (hk.2 n hn).2; omega⟩⟩
    · rcases hkk with ⟨q, hk⟩ | ⟨q, hk⟩ | ⟨q, hk⟩ | ⟨q, hk⟩ | q | ⟨q, hk⟩ | ⟨q, hk⟩ <;> try omega
      have hJ : ∀ {X Y : List It}, FitL (V.getD s.a.toNat 0) X → FitL (V.getD s.b.toNat 0) Y → JoinOk s X Y := fun fX fY =>
        ⟨hk.1, hk.2.2.1, fun y hy => ⟨by have := (fX y hy).1; omega, (fX y hy).2⟩, fun y hy => ⟨by have := (fY y hy).1; omega, (fY y hy).2⟩⟩
      exact ⟨hJ fa fB, hJ fA fb, hJ fa fb⟩
    · rcases hkk with ⟨q, hk⟩ | ⟨q, hk⟩ | ⟨q, hk⟩ | ⟨q, hk⟩ | q | ⟨q, hk⟩ | ⟨q, hk⟩ <;> try omega
      · exact ⟨hk.1, fun k9 => by omega, fun y hy => ⟨by have := (fa y hy).1; omega, fun k9 => by omega, (fa y hy).2.2⟩⟩
      · exact ⟨hk.1, fun k9 => hk.2.2.1, fun y hy => ⟨by have := (fa y hy).1; omega, fun k9 => by have := (fa y hy).1; omega, (fa y hy).2.2⟩⟩
theorem moreL_row {s : St} {A B a b : List It} (hl : s.list.length ≤ 8) (hA : ∀ y ∈ A, y.1.length ≤ 8) (hB : ∀ y ∈ B, y.1.length ≤ 8) (ha : ∀ y ∈ a, y.1.length ≤ 8) (hb : ∀ y ∈ b, y.1.length ≤ 8) : ∀ y ∈ moreL s A B a b, y.1.length ≤ 16 := by
  have hjoin : ∀ {X Y : List It}, (∀ y ∈ X, y.1.length ≤ 8) → (∀ y ∈ Y, y.1.length ≤ 8) → ∀ y ∈ joinL s X Y, y.1.length ≤ 16 := fun hX hY y hy => by
    obtain ⟨x, hx, hy⟩ := List.mem_flatMap.1 hy
    obtain ⟨z, hz, rfl⟩ := List.mem_map.1 hy
    have := hX x hx
    have := hY z (List.mem_filter.1 hz).1
    simp only [List.length_append]; omega
  intro y hy
  unfold moreL at hy
  split at hy
  · unfold linL at hy
    split at hy
    · have := ha y (List.mem_filter.1 hy).1; omega
    · split at hy
      · obtain ⟨x, hx, rfl⟩ := List.mem_map.1 hy
        simp only [pickR, List.length_map]; omega
      · split at hy
        · rcases List.mem_append.1 hy with h | h
          · have := ha y h; omega
          · have := hb y h; omega
        · split at hy
          · rcases List.mem_append.1 hy with h | h
            · have := ha y h; omega
            · obtain ⟨x, hx, rfl⟩ := List.mem_map.1 h
              have := hb x hx; simp only; omega
          · simp at hy
  · split at hy
    · rcases List.mem_append.1 hy with h | h
      · rcases List.mem_append.1 h with h | h
        · exact hjoin ha hB y h
        · exact hjoin hA hb y h
      · exact hjoin ha hb y h
    · split at hy
      · obtain ⟨x, hx, rfl⟩ := List.mem_map.1 hy
        have := ha x (List.mem_filter.1 hx).1; simp only; omega
      · split at hy
        · obtain ⟨k, hk, hy⟩ := List.mem_flatMap.1 hy
          have ht : ∀ n m, ∀ z ∈ toldL s k n m, z.1.length ≤ 16 := fun n m z hz => by
            unfold toldL at hz
            split at hz
            · simp at hz
            · rw [List.mem_singleton.1 hz]; simp
          rcases List.mem_append.1 hy with h | h
          · obtain ⟨x, hx, rfl⟩ := List.mem_map.1 h
            exact ht _ _ x hx
          · exact ht _ _ y h
        · simp at hy
section
variable {v : VS} {a b : List It} {W : List Int} {i : Nat} {N D : List (List It)}
theorem TP.fits (h : TP v a b W i N D) (hv : v.ok) (hW : widsL v.q [] = some W) (hi : i < v.q.length) {j : Nat} (hj : j < i) :
    FitL ((W.take i).getD j 0) (v.S.getD j []) ∧ FitL ((W.take i).getD j 0) (D.getD j []) ∧ Strict (v.S.getD j []) ∧ (v.S.getD j []).length ≤ 400 ∧ (D.getD j []).length ≤ 800 ∧ D.getD j [] = subL (v.S.getD j []) (N.getD j []) := by
  have hSl : v.S.length = v.q.length := hv.fix.1
  have ho := hv.out hW
  have hjS : j < v.S.length := by omega
  have hjN : j < N.length := by rw [h.len]; exact hj
  obtain ⟨s1, w1⟩ := ho.2 j hjS
  obtain ⟨s2, w2⟩ := h.o.2 j hjN
  rw [← take_getD hj] at w1
  have hd : D.getD j [] = subL (v.S.getD j []) (N.getD j []) := by rw [h.d]; exact dl_at (by rw [h.len]; omega) hjN
  refine ⟨fit_set s1 w1, ?_, (setI_zero.1 s1).2.2, (setI_zero.1 s1).1, ?_, hd⟩
  · rw [hd]; exact fit_sub s1 w1 s2 w2
  · rw [hd]; exact (subL_bound s1 s2).1
theorem TP.moreOk (h : TP v a b W i N D) (hv : v.ok) (hW : widsL v.q [] = some W) (hi : i < v.q.length) (hk : v.q[i].kind ≠ 1) :
    MoreOk v.q[i] (v.S.getD v.q[i].a.toNat []) (v.S.getD v.q[i].b.toNat []) (D.getD v.q[i].a.toNat []) (D.getD v.q[i].b.toNat []) := by
  have hst := refs_of hW i hi
  simp only [List.length_nil, Nat.zero_add] at hst
  obtain ⟨-, ra, -, rb⟩ := refs_lt hW i hi hk
  obtain ⟨f1, f2, f3, f4, f5, -⟩ := h.fits hv hW hi ra
  obtain ⟨g1, g2, g3, g4, g5, -⟩ := h.fits hv hW hi rb
  exact moreOk_gen hst hk f1 g1 f2 g2 f3 f5 g5 f4 g4
theorem TP.row (h : TP v a b W i N D) (hv : v.ok) (hW : widsL v.q [] = some W) (hi : i < v.q.length) (ha : ∀ x ∈ a, x.1.length = 4) (hb : ∀ x ∈ b, x.1.length = 4) : ∀ y ∈ mAt a b v.q[i] v.S D, y.1.length ≤ 1048576 := by
  have hst := refs_of hW i hi
  simp only [List.length_nil, Nat.zero_add] at hst
  unfold mAt
  by_cases k1 : v.q[i].kind = 1
  · rw [if_pos k1]
    intro y hy
    split at hy
    · rw [ha y hy]; omega
    · rw [hb y hy]; omega
  · rw [if_neg k1]
    obtain ⟨-, ra, -, rb⟩ := refs_lt hW i hi k1
    obtain ⟨f1, f2, -⟩ := h.fits hv hW hi ra
    obtain ⟨g1, g2, -⟩ := h.fits hv hW hi rb
    intro y hy
    have := moreL_row (stW_list hst) (fun y hy => (f1 y hy).2.1) (fun y hy => (g1 y hy).2.1) (fun y hy => (f2 y hy).2.1) (fun y hy => (g2 y hy).2.1) y hy
    omega
theorem TP.grp (h : TP v a b W i N D) (hv : v.ok) (hW : widsL v.q [] = some W) (hi : i < v.q.length) (hk : v.q[i].kind = 8 ∨ v.q[i].kind = 9) (k : Int) :
    wrp (grpN v.q[i] (v.S.getD v.q[i].a.toNat []) k + grpN v.q[i] (D.getD v.q[i].a.toNat []) k) = grpN v.q[i] (N.getD v.q[i].a.toNat []) k ∧ wrp (grpS v.q[i] (v.S.getD v.q[i].a.toNat []) k + grpS v.q[i] (D.getD v.q[i].a.toNat []) k) = grpS v.q[i] (N.getD v.q[i].a.toNat []) k := by
  obtain ⟨-, ra, -, -⟩ := refs_lt hW i hi (by omega)
  obtain ⟨-, -, -, -, -, hd⟩ := h.fits hv hW hi ra
  rw [hd]
  exact grp_more (subL_more _ _) k
end
theorem kind_of {s : St} {V : List Int} (h : stW s V ≠ 0) : (s.kind = 1 ∧ (s.a = 0 ∨ s.a = 1)) ∨ (s.kind ≠ 1 ∧ 2 ≤ s.kind ∧ s.kind ≤ 9) := by
  rcases stW_ok h with h | ⟨-, -, -, -, hk⟩
  · exact .inl h
  · right
    rcases hk with ⟨q, -⟩ | ⟨q, -⟩ | ⟨q, -⟩ | ⟨q, -⟩ | q | ⟨q, -⟩ | ⟨q, -⟩ <;> omega
end Go.Proofs.YtldlmkfigjicgaaGreatDoor
