/- IvF, IvO, IvG -/
import Derived.Test.YtldlmkfigjicgaaDoorCk13
import Derived.Test.YtldlmkfigjicgaaDoorCk14
import Derived.Laws.MakeOwn
/- inc.copied, inc.again. -/
namespace Go.Proofs.YtldlmkfigjicgaaDoor
set_option linter.unusedVariables false
set_option linter.unusedSimpArgs false
open Go.ChangeShapes Go.WideShapes Go.ChangeAt Go.RowKit

theorem elem_stp : Elem Tryd.prog 32 64 7 72 := ⟨Tryd.underlying32, by
  obtain ⟨i, hi, hz, hs, hb⟩ := info_parts (P := Tryd.prog) (e := 64) (z := .agg #[.int .i64 0, .int .i64 0, .int .i64 0, .int .i64 0, .int .i64 0, .int .i64 0, .slice none 0 0]) (size := 7) (bytes := 72) (by kernel_rfl)
  exact ⟨i, _, hi, hz, hs, hb, rfl⟩, by decide⟩
theorem scells_one (L : List SR) : ∀ u ∈ scells L, u.oneCell' = true := by
  intro u hu
  obtain ⟨x, -, hx⟩ := List.mem_flatMap.1 hu
  simp only [SR.cells, List.mem_cons, List.not_mem_nil, or_false] at hx
  rcases hx with rfl | rfl | rfl | rfl | rfl | rfl | rfl <;> rfl
theorem scells_snoc (L : List SR) (x : SR) : scells (L ++ [x]) = scells L ++ x.cells := by rw [scells, List.flatMap_append]; simp
/-- The lists of steps that a call has made: in blocks of their own. -/
def StepsNew (w : World) (lo : Nat) (v : Value) (M : List SR) : Prop := ∀ x ∈ M, RowOwn w x.A x.st.list x.k ∧ NewAt lo x.A ∧ (∀ b off q, x.A = some ⟨b, off, q⟩ → some b ≠ v.ownBlock ∧ b < w.heap.size) ∧ x.st.list.length ≤ 1048576
theorem StepsNew.nil (w : World) (lo : Nat) (v : Value) : StepsNew w lo v [] := fun x hx => by simp at hx
theorem StepsNew.step {w w' : World} {lo : Nat} {v : Value} {M : List SR} (h : StepsNew w lo v M) (hb : Below w.heap.size w w') : StepsNew w' lo v M := fun x hx => by
  obtain ⟨h1, h2, h3, h4⟩ := h x hx
  exact ⟨h1.step hb, h2, fun b off q e => ⟨(h3 b off q e).1, Nat.lt_of_lt_of_le (h3 b off q e).2 hb.size⟩, h4⟩
theorem StepsNew.grown {w w' : World} {lo : Nat} {v v' : Value} {M : List SR} (h : StepsNew w lo v M) (hg : w.grownBy w' v.ownBlock) (hv : v'.ownBlock = v.ownBlock ∨ v'.ownBlock = some w.heap.size) : StepsNew w' lo v' M := fun x hx => by
  obtain ⟨h1, h2, h3, h4⟩ := h x hx
  refine ⟨h1.grown_ne (Nat.le_refl _) hg (fun b off q e => (h3 b off q e).1), h2, fun b off q e => ⟨?_, Nat.lt_of_lt_of_le (h3 b off q e).2 hg.size⟩, h4⟩
  rcases hv with hv | hv
  · rw [hv]; exact (h3 b off q e).1
  · rw [hv]; intro e2; injection e2 with e2; have := (h3 b off q e).2; omega
theorem StepsNew.grownNe {w w' : World} {lo : Nat} {v : Value} {M : List SR} {r : Option Nat} (h : StepsNew w lo v M) (hg : w.grownBy w' r) (hr : ∀ x ∈ M, ∀ b off q, x.A = some ⟨b, off, q⟩ → some b ≠ r) : StepsNew w' lo v M := fun x hx => by
  obtain ⟨h1, h2, h3, h4⟩ := h x hx
  exact ⟨h1.grown_ne (Nat.le_refl _) hg (hr x hx), h2, fun b off q e => ⟨(h3 b off q e).1, Nat.lt_of_lt_of_le (h3 b off q e).2 hg.size⟩, h4⟩
theorem StepsNew.snoc {w : World} {lo : Nat} {v : Value} {M : List SR} (h : StepsNew w lo v M) {x : SR} (h1 : RowOwn w x.A x.st.list x.k) (h2 : NewAt lo x.A) (h3 : ∀ b off q, x.A = some ⟨b, off, q⟩ → some b ≠ v.ownBlock ∧ b < w.heap.size) (h4 : x.st.list.length ≤ 1048576) : StepsNew w lo v (M ++ [x]) := fun y hy => by
  rcases List.mem_append.1 hy with e | e
  · exact h y e
  · rw [List.mem_singleton.1 e]; exact ⟨h1, h2, h3, h4⟩
theorem StepsNew.rows {w : World} {lo : Nat} {v : Value} {M : List SR} (h : StepsNew w lo v M) : StepsAt w w.heap.size M := fun x hx => ⟨(h x hx).1.row, Nat.le_trans (h x hx).2.2.2 (by decide)⟩
/-- A query of a call's own making. -/
def StpsPost (S : List St) (w : World) (e : Ending) (w' : World) : Prop :=
  ∃ (A : Option Addr) (k : Nat) (M : List SR), e = .returned (.slice A M.length k) ∧ sts M = S ∧ w'.ownsRow w.heap.size 64 7 (.slice A M.length k) M.length (scells M) ∧ StepsNew w' w.heap.size (.slice A M.length k) M ∧ Below w.heap.size w w'
set_option maxHeartbeats 4000000 in
set_option maxRecDepth 100000 in
theorem icopied_any (L : List SR) (A : Option Addr) (c : Nat) (w : World) (hr : RowS w w.heap.size A L) (hl : L.length ≤ 1048576) (hll : ∀ x ∈ L, x.st.list.length ≤ 1048576) :
    Calls Tryd.prog 36 #[.slice A L.length c] w (StpsPost (sts L) w) := by
  have HR := hid hr
  have HLL := hid hll
  clear hr hll
  go_enter Tryd.func36, Tryd.ntmps36
  go_wp2_with fail
  -- STOP-a
  go_loopw [3, 8] (fun s3 s8 wr => ∃ (M : List SR), M.length ≤ L.length ∧ s8 = .int .i64 M.length ∧ Hid (sts M = (sts L).take M.length) ∧ Hid (wr.ownsRow w.heap.size 64 7 s3 M.length (scells M)) ∧ Hid (StepsNew wr w.heap.size s3 M) ∧ Hid (Below w.heap.size w wr)) (fun _ s8 _ => L.length - (intOf s8).toNat)
  case atStart => exact ⟨[], by simp, rfl, hid rfl, hid (World.ownsRow_nil _ _ _ _), hid (StepsNew.nil _ _ _), hid (Below.refl _ _)⟩
  case round =>
    obtain ⟨M, hi, rfl, HST, HOWN, HNEW, HB⟩ := hrel
    obtain ⟨wo, rfl⟩ : ∃ wx : World, wx = wr := ⟨_, rfl⟩
    obtain ⟨A3, c3, rfl⟩ := own_formS HOWN.out
    have hso := HB.out.size
    by_cases hlt : M.length < L.length
    · obtain ⟨b, off, rfl, hb, q0, q1, q2, q3, q4, q5, q6⟩ := (HR.out.1.step HB.out).sr hlt
      have HRW := hid (((HR.out.2.step HB.out) L[M.length] (List.getElem_mem hlt)).1)
      have hlx := HLL.out L[M.length] (List.getElem_mem hlt)
      have HTK := hid (show (sts L).take (M.length + 1) = (sts L).take M.length ++ [L[M.length].st] by rw [List.take_succ_eq_append_getElem (by simpa using hlt)]; simp)
      generalize L[M.length] = x at *
      obtain ⟨⟨sk, sa, sb, sc, so, sv, sl⟩, sA, sK⟩ := x
      simp only at q0 q1 q2 q3 q4 q5 q6 HRW hlx HTK
      have hnb : (b = wo.heap.size) = False := by simp; omega
      obtain ⟨W1, hW1⟩ : ∃ W : World, W = wo.alloc (.cells #[.int .i64 sk, .int .i64 sa, .int .i64 sb, .int .i64 sc, .int .i64 so, .int .i64 sv, .slice sA sl.length sK] 64) := ⟨_, rfl⟩
      have HB1 := hid (show Below wo.heap.size wo W1 by rw [hW1]; exact alloc_below (Below.refl _ _) _)
      have HXS := hid (show Blk W1 wo.heap.size #[.int .i64 sk, .int .i64 sa, .int .i64 sb, .int .i64 sc, .int .i64 so, .int .i64 sv, .slice sA sl.length sK] 64 by rw [hW1]; exact Blk.new _ _ _)
      have hsW1 : wo.heap.size < W1.heap.size := by rw [hW1]; simp
      have HCL := hid (cloneI_any sl sA sK W1 (HRW.out.step HB1.out) hlx)
      go_upto_region 5 with fail
      rw [← hW1]
      clear hW1 q0 q1 q2 q3 q4 q5 q6
      obtain ⟨cHXS, fHXS, sHXS, nHXS⟩ := HXS.out.all
      try simp only [cbox] at cHXS
      go_wp2_with fail
      -- STOP-b
      refine HCL.out.mono ?_
      rintro e w2 ⟨A2, c2, rfl, hrow2, hnew2, hin2, hb2⟩
      clear cHXS fHXS sHXS nHXS
      replace HXS := hid (HXS.out.step hb2)
      have HB2 := hid (Below.step' HB1.out hb2)
      have HR2 := hid hrow2
      have HN2 := hid hnew2
      have HI2 := hid hin2
      have hs12 := HB1.out.size
      have hs2 := hb2.size
      clear hrow2 hnew2 hin2 hb2 HCL HB1 HRW
      obtain ⟨cHXS, fHXS, sHXS, nHXS⟩ := HXS.out.all
      try simp only [cbox] at cHXS
      go_upto_region 6 with fail
      -- STOP-c
      clear cHXS fHXS sHXS nHXS
      obtain ⟨W3, hW3⟩ : ∃ W : World, W = w2.setCell ⟨wo.heap.size, 6, none⟩ (.slice A2 sl.length c2) := ⟨_, rfl⟩
      rw [← hW3]
      have hgs : w2.grownBy W3 (some wo.heap.size) := by rw [hW3]; exact grown_setS _ _ _ _
      have HXS3 := hid (show Blk W3 wo.heap.size #[.int .i64 sk, .int .i64 sa, .int .i64 sb, .int .i64 sc, .int .i64 so, .int .i64 sv, .slice A2 sl.length c2] 64 by rw [hW3]; exact (HXS.out.set 6 _).eq rfl)
      clear hW3
      have hlo := HOWN.out.lt
      have HO3 := hid (own_ne_grown (own_laterS HOWN.out HB2.out) hgs (fun q e e2 => by injection e2 with e2; have := (hlo q e).2; omega))
      have HN3 := hid ((HNEW.out.step HB2.out).grownNe hgs (fun x hx b off q e e2 => by injection e2 with e2; have := ((HNEW.out x hx).2.2.1 b off q e).2; omega))
      have HR3 := hid (HR2.out.grown_ne (Nat.le_refl _) hgs (fun b off q e e2 => by injection e2 with e2; have := HN2.out b off q e; omega))
      have HB3 := hid ((HB.out.trans (HB2.out.mono hso)).grown hgs (by omega) (fun g e => by injection e with e; omega))
      have hs3 := hgs.size
      have HLO := hid hlo
      clear hlo hgs HXS HNEW HR2
      obtain ⟨cHXS3, fHXS3, sHXS3, nHXS3⟩ := HXS3.out.all
      try simp only [cbox] at cHXS3
      go_wp2_with (at_builtin; refine wpList_append_row elem_stp rfl _ _ rfl w.heap.size (.slice A3 M.length c3) M.length (scells M) rfl (HO3.out.alloc _) (some ⟨W3.heap.size, 0, none⟩) 1 1 (W3.heap.size + 1) [.int .i64 sk, .int .i64 sa, .int .i64 sb, .int .i64 sc, .int .i64 so, .int .i64 sv, .slice A2 sl.length c2] rfl rfl (by exact Row.new' W3 _ _ rfl rfl (Nat.lt_succ_self _)) (scells_one [⟨⟨sk, sa, sb, sc, so, sv, sl⟩, A2, c2⟩]) ?_ ?_ ?_ ?_; rotate_right; intro v7 w7 hown7 hg7 hif7; rotate_left; (simp only [maxLen]; omega); (omega); (simp; omega))
      have HO7 := hid hown7
      have HG7 := hid hg7
      have HI7 := hid hif7
      clear hown7 hg7 hif7
      -- STOP-d
      go_roundw
      case rel =>
        have hba := alloc_below (Below.refl W3.heap.size W3) (.cells #[.int .i64 sk, .int .i64 sa, .int .i64 sb, .int .i64 sc, .int .i64 so, .int .i64 sv, .slice A2 sl.length c2] 64)
        have hsa := hba.size
        have hs7 := HG7.out.size
        refine ⟨M ++ [⟨⟨sk, sa, sb, sc, so, sv, sl⟩, A2, c2⟩], by simp; omega, congrArg (Value.int .i64) (by simp), hid ?_, hid ?_, hid ?_, hid ((HB3.out.trans (hba.mono (by omega))).grown HG7.out (by omega) (fun q e => by have := (HLO.out q e).1; omega))⟩
        · rw [List.length_append, List.length_singleton, HTK.out, sts, List.map_append, show M.map SR.st = sts M from rfl, HST.out]; rfl
        · rw [scells_snoc, List.length_append]
          exact HO7.out
        · have hne : ∀ b off q, A2 = some ⟨b, off, q⟩ → some b ≠ (Value.slice A3 M.length c3).ownBlock := fun b off q e e2 => by
            have h1 := HN2.out b off q e
            have h2 := (HLO.out b e2.symm).2
            omega
          refine ((HN3.out.step hba).grown HG7.out HI7.out).snoc ((HR3.out.step hba).grown_ne (Nat.le_refl _) HG7.out hne) (newAt_le HN2.out (by omega)) (fun b off q e => ?_) hlx
          have := HI2.out b off q e
          refine ⟨?_, by omega⟩
          rcases HI7.out with h | h
          · rw [h]; exact hne b off q e
          · rw [h]; intro e2; injection e2 with e2; omega
      case measure => simp [intOf]; omega
    · have hik : M.length = L.length := by omega
      have HIK := hid hik
      clear hik
      go_wp2_with fail
      -- STOP-e
      go_ret
      exact ⟨A3, c3, M, rfl, by rw [HST.out, HIK.out]; exact List.take_of_length_le (by rw [List.length_map]; exact Nat.le_refl _), HOWN.out, HNEW.out, HB.out⟩
/-- again: a set, with rows of its own. -/
theorem again_any (M : List IR) (A : Option Addr) (c : Nat) (w : World) (hr : RowI w w.heap.size A M) (hl : M.length ≤ 4194304) (hrl : ∀ x ∈ M, x.row.length ≤ 1048576) :
    Calls Tryd.prog 41 #[.slice A M.length c] w (ItsPost (sumL (its M)) w) := by
  have HSM := hid (show ∀ w5, Below w.heap.size w w5 → ∀ A3, Row w5 w5.heap.size A3 [.slice A M.length c] → Calls Tryd.prog 38 #[.slice A3 1 1] w5 (ItsPost (sumL (its M)) w5) from fun w5 hb A3 h => by
    have := sum_any [⟨M, A, c⟩] A3 1 w5 (by simpa using h) (fun y hy => by rw [List.mem_singleton.1 hy]; exact hr.step hb) (by simp; omega) (by simp) (by simpa using hrl)
    rw [show its (lrs [(⟨M, A, c⟩ : LR)]) = its M by simp [lrs]] at this
    exact this)
  clear hr hrl
  go_enter Tryd.func41, Tryd.ntmps41
  go_wp2_with fail
  have hba := alloc_below (Below.refl w.heap.size w) (.cells #[.slice A M.length c] 22)
  refine (HSM.out _ hba (some ⟨w.heap.size, 0, none⟩) (Row.new' w _ _ rfl rfl (by simp))).mono ?_
  rintro e w7 ⟨A7, k7, L7, rfl, hi7, ho7, hn7, hb7⟩
  go_wp2_with fail
  go_ret
  exact ⟨A7, k7, L7, rfl, hi7, own_baseS ho7 (by simp), fun x hx => by
    obtain ⟨q1, q2, q3, q4⟩ := hn7 x hx
    exact ⟨q1, newAt_le q2 (by simp), q3, q4⟩, Below.step' hba hb7⟩
end Go.Proofs.YtldlmkfigjicgaaDoor
/- What stands while one block turns. -/
namespace Go.Proofs.YtldlmkfigjicgaaDoor
set_option linter.unusedVariables false
set_option linter.unusedSimpArgs false
open Go.ChangeShapes Go.WideShapes Go.ChangeAt Go.RowKit

/-! what stands while one block turns -/
def Off (AV : Nat → Prop) (A : Option Addr) (n : Nat) : Prop := n = 0 ∨ ∀ b off q, A = some ⟨b, off, q⟩ → ¬ AV b
theorem Off.imp {AV BV : Nat → Prop} {A : Option Addr} {n : Nat} (h : Off AV A n) (hi : ∀ b, BV b → AV b) : Off BV A n := Or.imp id (fun h b off q e hb => h b off q e (hi b hb)) h
theorem Row.kept' {w w' : World} {AV : Nat → Prop} {A : Option Addr} {xs : List Value} {n r : Nat} (h : Row w w.heap.size A xs) (ho : Off AV A n) (hn : n = 0 → xs = []) (hg : w.grownBy w' (some r)) (hr : AV r) : Row w' w'.heap.size A xs := by
  rcases ho with ho | ho
  · rw [hn ho]; exact Row.nil
  · exact (h.grown_ne (Nat.le_refl _) hg (fun b off q e e2 => by injection e2 with e2; subst e2; exact ho b off q e hr)).more hg.size
structure IOff (AV : Nat → Prop) (A : Option Addr) (L : List IR) : Prop where
  a : Off AV A L.length
  r : ∀ x ∈ L, Off AV x.A x.row.length
theorem IOff.imp {AV BV : Nat → Prop} {A : Option Addr} {L : List IR} (h : IOff AV A L) (hi : ∀ b, BV b → AV b) : IOff BV A L := ⟨h.a.imp hi, fun x hx => (h.r x hx).imp hi⟩
theorem RowI.kept' {w w' : World} {AV : Nat → Prop} {A : Option Addr} {L : List IR} {r : Nat} (h : RowI w w.heap.size A L) (ho : IOff AV A L) (hg : w.grownBy w' (some r)) (hr : AV r) : RowI w' w'.heap.size A L :=
  ⟨h.1.kept' ho.a (fun e => by rw [List.length_eq_zero_iff.1 e]; rfl) hg hr, fun x hx => ⟨(h.2 x hx).1.kept' (ho.r x hx) (fun e => by rw [List.length_eq_zero_iff.1 e]; rfl) hg hr, (h.2 x hx).2⟩⟩
theorem SetIn.off {w : World} {lo : Nat} {A : Option Addr} {k : Nat} {L : List IR} (h : SetIn w lo A k L) {AV : Nat → Prop} (hA : ∀ b, AV b → b < lo) : IOff AV A L :=
  ⟨.inr fun b off q e hb => by have := own_newS h.1 (Nat.le_refl _) b off q e; have := hA b hb; omega, fun x hx => .inr fun b off q e hb => by have := (h.2 x hx).2.1 b off q e; have := hA b hb; omega⟩
structure SOff (AV : Nat → Prop) (A : Option Addr) (L : List SR) : Prop where
  a : Off AV A L.length
  r : ∀ x ∈ L, Off AV x.A x.st.list.length
theorem RowS.kept' {w w' : World} {AV : Nat → Prop} {A : Option Addr} {L : List SR} {r : Nat} (h : RowS w w.heap.size A L) (ho : SOff AV A L) (hg : w.grownBy w' (some r)) (hr : AV r) : RowS w' w'.heap.size A L :=
  ⟨h.1.kept' ho.a (fun e => by rw [List.length_eq_zero_iff.1 e]; rfl) hg hr, fun x hx => ⟨(h.2 x hx).1.kept' (ho.r x hx) (fun e => by rw [List.length_eq_zero_iff.1 e]; rfl) hg hr, (h.2 x hx).2⟩⟩
/-- A view's data lie in no block that is turned. -/
structure VR.off (AV : Nat → Prop) (v : VR) : Prop where
  q : SOff AV v.qA v.Q
  t0 : IOff AV v.T0.A v.T0.L
  t1 : IOff AV v.T1.A v.T1.L
  n : Off AV v.nA v.N.length
  ns : ∀ x ∈ v.N, IOff AV x.A x.L
theorem VR.off.imp {AV BV : Nat → Prop} {v : VR} (h : v.off AV) (hi : ∀ b, BV b → AV b) : v.off BV :=
  ⟨⟨h.q.a.imp hi, fun x hx => (h.q.r x hx).imp hi⟩, h.t0.imp hi, h.t1.imp hi, h.n.imp hi, fun x hx => (h.ns x hx).imp hi⟩
theorem VR.at_.kept {w w' : World} {vp r : Nat} {v : VR} {AV : Nat → Prop} (h : v.at_ w vp) (ho : v.off AV) (hg : w.grownBy w' (some r)) (hr : AV r) (hne : vp ≠ r) (hc : ∃ cur T d, w.heap[r]? = some (Obj.cells cur T d)) : v.at_ w' vp :=
  ⟨h.box.grown hg (fun e => by injection e with e; exact hne e), h.q.kept' ho.q hg hr, h.t0.kept' ho.t0 hg hr, h.t1.kept' ho.t1 hg hr, h.n.kept' ho.n (fun e => by rw [List.length_eq_zero_iff.1 e]; rfl) hg hr, fun x hx => (h.ns x hx).kept' (ho.ns x hx) hg hr,
    fun i h1 h2 => (h.gs i h1 h2).cells hg (fun g e => by injection e with e; subst e; exact hc)⟩
def VR.vs (v : VR) : VS := ⟨sts v.Q, its v.T0.L, its v.T1.L, nsets v.N⟩
theorem Row.off_new {w : World} {AV : Nat → Prop} {A : Option Addr} {xs : List Value} {n : Nat} (h : Row w w.heap.size A xs) (ho : Off AV A n) (hn : xs = [] → n = 0) : Off (fun b => AV b ∨ w.heap.size ≤ b) A n := by
  rcases ho with ho | ho
  · exact .inl ho
  · rcases h with h | ⟨b, off, e, hb, -⟩
    · exact .inl (hn h)
    · exact .inr fun b' off' q' e' hb' => by
        rcases hb' with hb' | hb'
        · exact ho b' off' q' e' hb'
        · rw [e] at e'; injection e' with e'; injection e' with e'; omega
theorem flat_nil {α : Type} {f : α → List Value} {l : List α} (hf : ∀ x, f x ≠ []) (h : l.flatMap f = []) : l.length = 0 := by
  cases l with
  | nil => rfl
  | cons x l => rw [List.flatMap_cons] at h; exact absurd (List.append_eq_nil_iff.1 h).1 (hf x)
theorem RowI.off_new {w : World} {AV : Nat → Prop} {A : Option Addr} {L : List IR} (h : RowI w w.heap.size A L) (ho : IOff AV A L) : IOff (fun b => AV b ∨ w.heap.size ≤ b) A L :=
  ⟨h.1.off_new ho.a (flat_nil (fun x => by simp [IR.cells])), fun x hx => (h.2 x hx).1.off_new (ho.r x hx) fun e => by simpa [icells'] using e⟩
/-- What a view holds lies in the world. -/
theorem VR.at_.off_new {w : World} {vp : Nat} {v : VR} {AV : Nat → Prop} (h : v.at_ w vp) (ho : v.off AV) : v.off (fun b => AV b ∨ w.heap.size ≤ b) :=
  ⟨⟨h.q.1.off_new ho.q.a (flat_nil (fun x => by simp [SR.cells])), fun x hx => (h.q.2 x hx).1.off_new (ho.q.r x hx) fun e => by simpa [icells'] using e⟩, h.t0.off_new ho.t0, h.t1.off_new ho.t1, h.n.off_new ho.n (flat_nil (fun x => by simp [NR.cells])), fun x hx => (h.ns x hx).off_new (ho.ns x hx)⟩
end Go.Proofs.YtldlmkfigjicgaaDoor
/- inc.New. -/
namespace Go.Proofs.YtldlmkfigjicgaaDoor
set_option linter.unusedVariables false
set_option linter.unusedSimpArgs false
open Go.ChangeShapes Go.WideShapes Go.ChangeAt Go.RowKit

theorem ncells_set : ∀ (N : List NR) (i : Nat) (hi : i < N.length) (g : Option Nat), ((ncells N).toArray).setIfInBounds (i * 2 + 1) (.map g) = (ncells (N.set i ⟨N[i].L, N[i].A, N[i].k, g⟩)).toArray
  | x :: N, 0, _, g => by simp [ncells]
  | x :: N, i + 1, hi, g => by
    have ih := ncells_set N i (by simpa using hi) g
    simp only [ncells, List.flatMap_cons, NR.cells, List.set_cons_succ, List.getElem_cons_succ] at ih ⊢
    rw [List.setIfInBounds_toArray] at ih ⊢
    have := congrArg Array.toList ih
    simp only at this
    rw [show (i + 1) * 2 + 1 = (i * 2 + 1) + 1 + 1 by omega]
    simp only [List.cons_append, List.nil_append, List.set_cons_succ]
    rw [this]
theorem made_nodes (n : Nat) : madeCells (Value.agg #[.slice none 0 0, .map none]).cells (n * 2) = (ncells (List.replicate n ⟨[], none, 0, none⟩)).toArray := by
  apply Array.ext'
  unfold madeCells
  have hz : (Value.agg #[.slice none 0 0, .map none]).cells = #[.slice none 0 0, .map none] := rfl
  rw [hz, Array.toList_map, Array.toList_range]
  induction n with
  | zero => rfl
  | succ n ih =>
    rw [show (n + 1) * 2 = n * 2 + 1 + 1 by omega, List.range_succ, List.range_succ, List.map_append, List.map_append, ih, List.replicate_succ']
    have e1 : n * 2 % 2 = 0 := by omega
    have e2 : (n * 2 + 1) % 2 = 1 := by omega
    simp [e1, e2, ncells, List.flatMap_append]
set_option maxRecDepth 100000 in
theorem run_makeNodes (w : World) (n : Nat) (hn : n ≤ 8) : (Instr.makeSlice 67 (.int .i64 (n : Int)) (.int .i64 (n : Int))).run Tryd.prog w = .ok (.slice (some ⟨w.heap.size, 0, none⟩) n n) (w.alloc (.cells (ncells (List.replicate n ⟨[], none, 0, none⟩)).toArray 73)) := by
  obtain ⟨i, z, hi, hz, hs, hb, hc⟩ := elem_node.hi
  have hzz : z = .agg #[.slice none 0 0, .map none] := by
    obtain ⟨i2, hi2, hz2, -, -⟩ := info_parts (P := Tryd.prog) (e := 73) (z := .agg #[.slice none 0 0, .map none]) (size := 2) (bytes := 32) (by kernel_rfl)
    rw [hi] at hi2
    injection hi2 with hi2
    rw [← hi2, hz] at hz2
    injection hz2
  have h := run_make (P := Tryd.prog) w 67 73 i z Tryd.underlying67 hi hz .i64 .i64 n n (by omega) (Int.le_refl _) (by rw [hb]; omega) (by omega)
  rw [Int.toNat_natCast, hs, hzz, made_nodes n] at h
  exact h
theorem lists_of {L : List SR} {W : List Int} (hW : widsL (sts L) [] = some W) : ∀ x ∈ L, x.st.list.length ≤ 1048576 := fun x hx => by
  obtain ⟨i, hi, rfl⟩ := List.getElem_of_mem hx
  have := stW_list (refs_of hW i (by rw [List.length_map]; exact hi))
  rw [List.getElem_map] at this
  omega
theorem grownG_trans {w w1 w2 : World} {row : Option Nat} (h1 : w.grownBy w1 row) (h2 : w1.grownBy w2 row) : w.grownBy w2 row :=
  ⟨h2.os.trans h1.os, h2.tape.trans h1.tape, h2.output.trans h1.output, Nat.le_trans h1.size h2.size, fun k hk hne => (h2.block k (Nat.lt_of_lt_of_le hk h1.size) hne).trans (h1.block k hk hne)⟩
/-- A view of a query that was just made, or none. -/
def NewPost (q : List St) (w : World) (e : Ending) (w' : World) : Prop :=
  (queryE q ≠ 0 ∧ e = .returned (.tuple #[.pointer none, .int .i64 (queryE q)]) ∧ Below w.heap.size w w') ∨
  (queryE q = 0 ∧ ∃ (vp : Nat) (v : VR), e = .returned (.tuple #[.pointer (some ⟨vp, 0, none⟩), .int .i64 0]) ∧ v.at_ w' vp ∧ sts v.Q = q ∧ v.T0.L = [] ∧ v.T1.L = [] ∧ v.N.length = q.length ∧ (∀ x ∈ v.N, x.L = []) ∧ w.heap.size ≤ vp ∧ Below w.heap.size w w' ∧ v.off (fun b => b = vp ∨ b < w.heap.size))
set_option maxHeartbeats 4000000 in
set_option maxRecDepth 100000 in
theorem inew_any (L : List SR) (A : Option Addr) (c : Nat) (w : World) (hr : RowS w w.heap.size A L) (hl : L.length ≤ 9223372036854775807) :
    Calls Tryd.prog 13 #[.slice A L.length c] w (NewPost (sts L) w) := by
  have HQ := hid (qcheck_any L A c w hr hl)
  obtain ⟨E, hE⟩ : ∃ e, e = queryE (sts L) := ⟨_, rfl⟩
  rw [← hE] at HQ
  by_cases hz : E = 0
  rotate_left
  · have t1 : (E != 0) = true := by simpa using hz
    have HE := hid hE
    have HZ := hid hz
    clear hE hz hr
    go_enter Tryd.func13, Tryd.ntmps13
    go_wp2_with fail
    refine HQ.out.mono ?_
    rintro e w1 ⟨rfl, hb1⟩
    go_wp2_with fail
    -- STOP-a
    go_ret2
    unfold NewPost
    rw [← HE.out]
    exact .inl ⟨HZ.out, rfl, hb1⟩
  · have HE := hid (show queryE (sts L) = 0 by rw [← hE]; exact hz)
    subst hz
    obtain ⟨hq0, hq8, W, hW⟩ := queryE_zero.1 HE.out
    rw [List.length_map] at hq0 hq8
    have hll : ∀ x ∈ L, x.st.list.length ≤ 1048576 := lists_of hW
    have HCO := hid (fun w1 (hb : Below w.heap.size w w1) => icopied_any L A c w1 (hr.step hb) (by omega) hll)
    have hmn := fun w1 : World => run_makeNodes w1 L.length hq8
    obtain ⟨n, hn⟩ : ∃ n, n = L.length := ⟨_, rfl⟩
    have HN := hid hn
    rw [← hn] at hmn HQ HCO hq0 hq8 ⊢
    clear hE hr hW hll hn hl
    go_enter Tryd.func13, Tryd.ntmps13
    go_wp2_with fail
    refine HQ.out.mono ?_
    rintro e w1 ⟨rfl, hb1⟩
    have HB1 := hid hb1
    have hb1d := hb1.drew
    have hb1e := (alloc_below hb1 (.cells (ncells (List.replicate n ⟨[], none, 0, none⟩)).toArray 73)).drew
    clear hb1 HQ
    go_upto_region 4 with fail
    go_cut [5] from 12 to 18 (fun s5 wx => ∃ (vb nb : Nat) (qA : Option Addr) (qk : Nat) (M : List SR), s5 = .pointer (some ⟨vb, 0, none⟩) ∧ Hid (sts M = sts L) ∧ Hid (Blk wx vb #[.slice qA n qk, .slice none 0 0, .slice none 0 0, .slice (some ⟨nb, 0, none⟩) n n] 70) ∧ Hid (Blk wx nb (ncells (List.replicate n ⟨[], none, 0, none⟩)).toArray 73) ∧ Hid (RowS wx wx.heap.size qA M) ∧ Hid (∀ b off q, qA = some ⟨b, off, q⟩ → b ≠ nb ∧ b ≠ vb ∧ w.heap.size ≤ b) ∧ Hid (∀ x ∈ M, ∀ b off q, x.A = some ⟨b, off, q⟩ → b ≠ nb ∧ b ≠ vb ∧ w.heap.size ≤ b) ∧ nb ≠ vb ∧ w.heap.size ≤ vb ∧ w.heap.size ≤ nb ∧ Hid (Below w.heap.size w wx))
    case first =>
      go_region_law
        (first
          | (go_simp; go_at_call 36; (with_reducible refine (HCO.out _ hb1d).mono ?_); rintro e w2 ⟨A2, k2, M2, rfl, hst2, hown2, hnew2, hb2⟩; have tok1 : True := trivial)
          | (go_simp; go_at_call 36; (with_reducible refine (HCO.out _ hb1e).mono ?_); rintro e w2 ⟨A2, k2, M2, rfl, hst2, hown2, hnew2, hb2⟩; have tok2 : True := trivial))
      -- STOP-b
      · go_wp2_with fail
        go_meet
        -- STOP-c
        case rel =>
          have hb12 := Below.step' hb1d hb2
          have hs2 : w.heap.size ≤ w2.heap.size := hb12.size
          refine ⟨w2.heap.size + 1, w2.heap.size, A2, k2, M2, rfl, hid hst2, hid ?_, hid ?_, hid ?_, hid (fun b off q e => ?_), hid (fun x hx b off q e => ?_), by omega, by omega, by omega, hid (alloc_below (alloc_below hb12 _) _)⟩
          · have hm2 : M2.length = n := by have := congrArg List.length hst2; rw [List.length_map, List.length_map] at this; rw [this, HN.out]
            rw [← hm2]; exact Blk.new' _ _ _ (by simp)
          · exact (Blk.new w2 _ _).alloc _
          · exact (RowS.step ⟨Row.of_ownS hown2, hnew2.rows⟩ (alloc_below (alloc_below (Below.refl _ _) _) _))
          · have := own_inS hown2 b off q e; have h2 : w1.heap.size ≤ b := own_newS hown2 (by simp) b off q e; have := HB1.out.size; omega
          · have := ((hnew2 x hx).2.2.1 b off q e).2; have h2 : w1.heap.size ≤ b := (hnew2 x hx).2.1 b off q e; have := HB1.out.size; omega
      · go_wp2_with fail
        go_meet
        case rel =>
          have hb12 := Below.step' hb1e hb2
          have hs2 : w.heap.size ≤ w2.heap.size := hb12.size
          have hs1 : w.heap.size ≤ w1.heap.size := HB1.out.size
          have hs12 : w1.heap.size < w2.heap.size := Nat.lt_of_lt_of_le (lt_alloc w1 (.cells (ncells (List.replicate n ⟨[], none, 0, none⟩)).toArray 73)) hb2.size
          refine ⟨w2.heap.size, w1.heap.size, A2, k2, M2, rfl, hid hst2, hid ?_, hid ?_, hid ?_, hid (fun b off q e => ?_), hid (fun x hx b off q e => ?_), by omega, by omega, by omega, hid (alloc_below hb12 _)⟩
          · have hm2 : M2.length = n := by have := congrArg List.length hst2; rw [List.length_map, List.length_map] at this; rw [this, HN.out]
            rw [← hm2]; exact Blk.new _ _ _
          · exact (Blk.step (Blk.drew (Blk.new w1 _ _)) hb2).alloc _
          · exact (RowS.step ⟨Row.of_ownS hown2, hnew2.rows⟩ (alloc_below (Below.refl _ _) _))
          · have h1 := own_inS hown2 b off q e
            have h2 : (World.alloc w1 (.cells (ncells (List.replicate n ⟨[], none, 0, none⟩)).toArray 73)).heap.size ≤ b := own_newS hown2 (Nat.le_refl _) b off q e
            simp at h2
            have := HB1.out.size
            omega
          · have h1 := ((hnew2 x hx).2.2.1 b off q e).2
            have h2 : (World.alloc w1 (.cells (ncells (List.replicate n ⟨[], none, 0, none⟩)).toArray 73)).heap.size ≤ b := (hnew2 x hx).2.1 b off q e
            simp at h2
            have := HB1.out.size
            omega
    case rest =>
      obtain ⟨vb, nb, qA, qk, M, rfl, HST, HVB, HNB, HRQ, HQ1, HQ2, hne, hvb, hnb, HBx⟩ := hcut
      obtain ⟨w3, rfl⟩ : ∃ wx : World, wx = wc := ⟨_, rfl⟩
      have hvl := HVB.out.lt
      have hnl := HNB.out.lt
      have hmm := @run_makeMap Tryd.prog
      obtain ⟨cHVB, fHVB, sHVB, nHVB⟩ := HVB.out.all
      try simp only [cbox] at cHVB
      go_wp2_with fail
      -- STOP-d
      have HNL := hid hnl
      clear cHVB fHVB sHVB nHVB
      go_loopw [24] (fun s24 wr => ∃ (i : Nat) (NS : List NR), i ≤ n ∧ s24 = .int .i64 i ∧ Hid (NS.length = n) ∧ Hid (∀ x ∈ NS, x.L = [] ∧ x.A = none ∧ x.k = 0) ∧ Hid (∀ j (h : j < NS.length), j < i → ∃ gb, NS[j].g = some gb ∧ GM wr gb (fun _ => 0) (fun _ => 0)) ∧ Hid (Blk wr nb (ncells NS).toArray 73) ∧ Hid (Blk wr vb #[.slice qA n qk, .slice none 0 0, .slice none 0 0, .slice (some ⟨nb, 0, none⟩) n n] 70) ∧ Hid (w3.grownBy wr (some nb))) (fun s24 _ => n - (intOf s24).toNat)
      case atStart => exact ⟨0, List.replicate n ⟨[], none, 0, none⟩, by omega, rfl, hid List.length_replicate, hid (fun x hx => by rw [List.eq_of_mem_replicate hx]; exact ⟨rfl, rfl, rfl⟩), hid (fun j h q => by omega), HNB, HVB, hid ⟨rfl, rfl, rfl, Nat.le_refl _, fun _ _ _ => rfl⟩⟩
      case round =>
        clear HVB HNB
        obtain ⟨i, NS, hi, rfl, HLN, HNE, HGM, HNB, HVB, HG⟩ := hrel
        obtain ⟨wo, rfl⟩ : ∃ wx : World, wx = wr := ⟨_, rfl⟩
        by_cases hlt : i < n
        · have hlt2 : (i : Int) < (n : Int) := by omega
          have hnbl := HNB.out.lt
          have HNA := hid (HNB.out.alloc (.map #[] 0))
          have hin : i < NS.length := by rw [HLN.out]; exact hlt
          have hcz : (ncells NS).toArray.size = NS.length * 2 := by rw [List.size_toArray, ncells_len]
          have hcell := (HNA.out.cells.1 (i * 2 + 1))
          have hfz := (HNA.out.cells.2 (i * 2 + 1))
          obtain ⟨cv, hcv⟩ : ∃ cv, (ncells NS).toArray[i * 2 + 1]? = some cv := ⟨_, Array.getElem?_eq_getElem (by rw [hcz]; omega)⟩
          rw [hcv] at hcell
          have hcz2 : wo.heap.size + 1 = (wo.alloc (.map #[] 0)).heap.size := by simp
          have HIN := hid hin
          clear hcz hcv hcz2 hin
          obtain ⟨cHVB, fHVB, sHVB, nHVB⟩ := HVB.out.all
          try simp only [cbox] at cHVB
          go_wp2_with fail
          -- STOP-e
          go_roundw
          case rel =>
            have hin := HIN.out
            have hsz : (wo.setCell ⟨nb, i * 2 + 1, none⟩ (.map (some wo.heap.size))).heap.size = wo.heap.size := World.size_setCell ..
            have hg1 := grown_setS wo nb (i * 2 + 1) (.map (some wo.heap.size))
            have hg2 : (wo.setCell ⟨nb, i * 2 + 1, none⟩ (.map (some wo.heap.size))).grownBy ((wo.setCell ⟨nb, i * 2 + 1, none⟩ (.map (some wo.heap.size))).alloc (.map #[] 0)) (some nb) := World.grownBy_alloc _ _ _
            have hom := World.ownsMap_made (wo.setCell ⟨nb, i * 2 + 1, none⟩ (.map (some wo.heap.size))) Tryd.prog 3 grpElem
            rw [hsz] at hom
            refine ⟨i + 1, NS.set i ⟨NS[i].L, NS[i].A, NS[i].k, some wo.heap.size⟩, by omega, by go_num, hid (by rw [List.length_set]; exact HLN.out), hid (fun x hx => ?_), hid (fun j h q => ?_), hid ?_, hid ?_, hid (grownG_trans HG.out (grownG_trans hg1 hg2))⟩
            · rcases List.mem_or_eq_of_mem_set hx with e | e
              · exact HNE.out x e
              · rw [e]; exact HNE.out NS[i] (List.getElem_mem hin)
            · by_cases e : j = i
              · subst e
                exact ⟨wo.heap.size, by simp, 0, .map [], by omega, hom, FMap.nil⟩
              · rw [List.length_set] at h
                obtain ⟨gb, e1, e2⟩ := HGM.out j h (by omega)
                refine ⟨gb, by rw [List.getElem_set_ne (Ne.symm e)]; exact e1, ?_⟩
                exact (e2.kept hg1 (fun q => by injection q with q; exact e2.ne_cells HNB.out q)).kept (World.grownBy_alloc _ (.map #[] 0) none) (by simp)
            · exact ((HNB.out.set (i * 2 + 1) _).eq (ncells_set NS i hin _)).alloc _
            · exact (HVB.out.other (by simp; exact Ne.symm hne) _).alloc _
          case measure => simp [intOf]; omega
        · have hin : i = n := by omega
          subst hin
          go_wp2_with fail
          -- STOP-f
          go_ret2
          have hml : M.length = i := by have := congrArg List.length HST.out; rw [List.length_map, List.length_map] at this; rw [this, HN.out]
          refine .inr ⟨HE.out, vb, ⟨M, qA, qk, ⟨[], none, 0⟩, ⟨[], none, 0⟩, NS, some ⟨nb, 0, none⟩, i⟩, rfl, ⟨?_, ?_, RowI.nil, RowI.nil, ?_, fun x hx => ?_, fun j h h2 => ?_⟩, HST.out, rfl, rfl, ?_, fun x hx => (HNE.out x hx).1, hvb, ?_, ?_⟩
          · show Blk wo vb #[.slice qA M.length qk, .slice none 0 0, .slice none 0 0, .slice (some ⟨nb, 0, none⟩) NS.length i] _
            rw [hml, HLN.out]; exact HVB.out
          · refine ⟨((HRQ.out.1).grown_ne (Nat.le_refl _) HG.out (fun b off q e e2 => by injection e2 with e2; exact (HQ1.out b off q e).1 e2)).more HG.out.size, fun x hx => ⟨(((HRQ.out.2 x hx).1).grown_ne (Nat.le_refl _) HG.out (fun b off q e e2 => by injection e2 with e2; exact (HQ2.out x hx b off q e).1 e2)).more HG.out.size, (HRQ.out.2 x hx).2⟩⟩
          · exact blk_row HNB.out
          · obtain ⟨e1, e2, e3⟩ := HNE.out x hx
            rw [e1]; exact RowI.nil
          · intro hk
            have h' : j < NS.length := h
            obtain ⟨gb, e1, e2⟩ := HGM.out j h' (by have := HLN.out; omega)
            have hnil : (nsets NS).getD M[j].st.a.toNat [] = [] := by
              rw [List.getD_eq_getElem?_getD, List.getElem?_map]
              cases hq : NS[M[j].st.a.toNat]? with
              | none => rfl
              | some y =>
                have := (HNE.out y (List.mem_of_getElem? hq)).1
                simp [this]
            show ∃ gb, NS[j].g = some gb ∧ GM wo gb (grpN M[j].st ((nsets NS).getD M[j].st.a.toNat [])) (grpS M[j].st ((nsets NS).getD M[j].st.a.toNat []))
            rw [hnil]
            exact ⟨gb, e1, e2.congr (fun k => ((grp_out (s := M[j].st) (A := []) (k := k) (by simp [keysG, dedupI])).1).symm) (fun k => ((grp_out (s := M[j].st) (A := []) (k := k) (by simp [keysG, dedupI])).2).symm)⟩
          · show NS.length = (sts L).length
            rw [HLN.out, ← hml, ← HST.out, List.length_map]
          · exact HBx.out.grown HG.out HBx.out.size (fun g e => by injection e with e; omega)
          · refine ⟨⟨.inr fun b off q e hb => ?_, fun x hx => .inr fun b off q e hb => ?_⟩, ⟨.inl rfl, fun x hx => by simp at hx⟩, ⟨.inl rfl, fun x hx => by simp at hx⟩, .inr fun b off q e hb => ?_, fun x hx => ?_⟩
            · obtain ⟨h1, h2, h3⟩ := HQ1.out b off q e; omega
            · obtain ⟨h1, h2, h3⟩ := HQ2.out x hx b off q e; omega
            · injection e with e; injection e with e; omega
            · obtain ⟨e1, e2, e3⟩ := HNE.out x hx
              rw [e1]
              exact ⟨.inl rfl, fun y hy => by simp at hy⟩
end Go.Proofs.YtldlmkfigjicgaaDoor
