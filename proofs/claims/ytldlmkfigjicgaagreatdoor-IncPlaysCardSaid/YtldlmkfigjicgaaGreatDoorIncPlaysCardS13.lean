/- PnU, IvC, Std, IvD -/
import Derived.Test.YtldlmkfigjicgaaGreatDoorIncPlaysCardS12
import Derived.Deep.RegionLaw
import Derived.Deep.CutRange
/- plain.Bases. -/
namespace Go.Proofs.YtldlmkfigjicgaaGreatDoor
set_option linter.unusedVariables false
set_option linter.unusedSimpArgs false
open Go.ChangeShapes Go.WideShapes Go.ChangeAt Go.RowKit

set_option maxHeartbeats 1000000 in
set_option maxRecDepth 100000 in
theorem bases_any (L : List SR) (M1 M2 : List IR) (A0 A1 A2 : Option Addr) (c0 c1 c2 : Nat) (w : World) (h0 : RowS w w.heap.size A0 L) (l0 : L.length ≤ 9223372036854775807) (h1 : RowI w w.heap.size A1 M1) (l1 : M1.length ≤ 9223372036854775807) (h2 : RowI w w.heap.size A2 M2) (l2 : M2.length ≤ 9223372036854775807) :
    Calls Tryz.prog 54 #[.slice A0 L.length c0, .slice A1 M1.length c1, .slice A2 M2.length c2] w fun e w' => e = .returned (.int .i64 (basesE (sts L) (its M1) (its M2))) ∧ Below w.heap.size w w' := by
  have HQ := hid (qcheck_any L A0 c0 w h0 l0)
  have HK1 := hid (fun w1 (hb : Below w.heap.size w w1) => zcheck_any M1 A1 c1 w1 (h1.step hb) l1)
  have HK2 := hid (fun w1 (hb : Below w.heap.size w w1) => zcheck_any M2 A2 c2 w1 (h2.step hb) l2)
  have HE := hid (show basesE (sts L) (its M1) (its M2) = if queryE (sts L) ≠ 0 then queryE (sts L) else if setI (its M1) ≠ 0 then setI (its M1) else if setI (its M2) ≠ 0 then setI (its M2) else if (its M1 ++ its M2).any wideB = true then 5 else 0 from rfl)
  have HL1 : Hid (setI (its M1) = 0 → M1.length ≤ 400) := hid fun h => len_set h
  have HL2 : Hid (setI (its M2) = 0 → M2.length ≤ 400) := hid fun h => len_set h
  have HR1 := hid h1
  have HR2 := hid h2
  have HCL := hid (fun (h : M1.length ≤ 400) w1 (hb : Below w.heap.size w w1) => cloneIt_any M1 A1 c1 w1 (h1.1.step hb) (by omega))
  obtain ⟨E, hE⟩ : ∃ q, q = basesE (sts L) (its M1) (its M2) := ⟨_, rfl⟩
  obtain ⟨EQ, hEQ⟩ : ∃ q, q = queryE (sts L) := ⟨_, rfl⟩
  obtain ⟨E1, hE1⟩ : ∃ q, q = setI (its M1) := ⟨_, rfl⟩
  obtain ⟨E2, hE2⟩ : ∃ q, q = setI (its M2) := ⟨_, rfl⟩
  rw [← hE, ← hEQ, ← hE1, ← hE2] at HE
  rw [← hE]
  rw [← hEQ] at HQ
  rw [← hE1] at HK1 HL1
  rw [← hE2] at HK2 HL2
  clear hE hEQ hE1 hE2 h0 h1 h2
  go_enter Tryz.func54, Tryz.ntmps54
  go_wp2_with fail
  refine HQ.out.mono ?_
  rintro e w1 ⟨rfl, hb1⟩
  have HBW := hid hb1
  clear hb1 HQ
  by_cases q0 : EQ = 0
  rotate_left
  · have t1 : (EQ != 0) = true := by simpa using q0
    have HE1 := hid (show E = EQ by rw [HE.out, if_pos q0])
    clear q0
    go_wp2_with fail
    go_ret
    exact ⟨ret_int HE1.out.symm, HBW.out⟩
  subst q0
  replace HE : Hid (E = if E1 ≠ 0 then E1 else if E2 ≠ 0 then E2 else if (its M1 ++ its M2).any wideB = true then 5 else 0) := hid (by rw [HE.out, if_neg (by simp)])
  have HXA := hid (Blk.new w1 #[.slice A1 M1.length c1, .slice A2 M2.length c2] 22)
  have HBA := hid (alloc_below HBW.out (.cells #[.slice A1 M1.length c1, .slice A2 M2.length c2] 22))
  go_wp2_with fail
  refine wp_loop_rounds 3 ?_
  rw [rounds_succ]
  go_wp2_with fail
  -- STOP-a
  refine (HK1.out _ HBA.out).mono ?_
  rintro e w2 ⟨rfl, hb2⟩
  replace HXA := hid (HXA.out.step hb2)
  replace HBW := hid (Below.step' HBA.out hb2)
  clear hb2 HBA HK1
  by_cases q1 : E1 = 0
  rotate_left
  · have t1 : (E1 != 0) = true := by simpa using q1
    have HE1 := hid (show E = E1 by rw [HE.out, if_pos q1])
    clear q1
    go_wp2_with fail
    go_ret
    exact ⟨ret_int HE1.out.symm, HBW.out⟩
  subst q1
  replace HE : Hid (E = if E2 ≠ 0 then E2 else if (its M1 ++ its M2).any wideB = true then 5 else 0) := hid (by rw [HE.out, if_neg (by simp)])
  have hM1 := HL1.out (by first | rfl | trivial)
  obtain ⟨cHXA, fHXA, sHXA, nHXA⟩ := HXA.out.all
  try simp only [cbox] at cHXA
  go_wp2_with fail
  rw [rounds_succ]
  go_wp2_with fail
  -- STOP-b
  refine (HK2.out _ HBW.out).mono ?_
  rintro e w3 ⟨rfl, hb3⟩
  clear cHXA fHXA sHXA nHXA
  replace HBW := hid (Below.step' HBW.out hb3)
  clear hb3 HK2 HXA
  by_cases q2 : E2 = 0
  rotate_left
  · have t1 : (E2 != 0) = true := by simpa using q2
    have HE1 := hid (show E = E2 by rw [HE.out, if_pos q2])
    clear q2
    go_wp2_with fail
    go_ret
    exact ⟨ret_int HE1.out.symm, HBW.out⟩
  subst q2
  replace HE : Hid (E = if (its M1 ++ its M2).any wideB = true then 5 else 0) := hid (by rw [HE.out, if_neg (by simp)])
  have hM2 := HL2.out (by first | rfl | trivial)
  replace HCL := hid (HCL.out hM1)
  clear HL1 HL2
  have HBW3 := hid HBW.out
  go_wp2_with fail
  rw [rounds_succ]
  go_wp2_with fail
  -- STOP-c
  refine (HCL.out _ HBW.out).mono ?_
  rintro e w4 ⟨v4, rfl, hown4, hb4⟩
  obtain ⟨A4, k4, rfl⟩ := own_formS hown4
  have HO4 := hid hown4
  replace HBW := hid (Below.step' HBW.out hb4)
  have HR2W := hid ((HR2.out.step HBW.out).1)
  have h2l := rcells_len M2
  have hs4 := hb4.size
  clear hown4 HCL
  have HB4 := hid hb4
  clear hb4
  go_wp2_with (at_builtin; refine wpList_append_row elem_item rfl _ _ rfl w3.heap.size _ M1.length (rcells M1) rfl HO4.out A2 M2.length c2 w4.heap.size (rcells M2) rfl h2l HR2W.out (rcells_one M2) ?_ ?_ ?_ ?_; rotate_right; intro v7 w7 hown7 hg7 hif7; rotate_left; (simp only [maxLen]; omega); (omega); (omega); obtain ⟨A7, k7, rfl⟩ := own_formS hown7)
  -- STOP-d
  have hlen : M1.length + M2.length = (M1 ++ M2).length := (List.length_append ..).symm
  have hof := hown7
  rw [← rcells_app, hlen] at hof
  have HRF := hid (Row.of_ownS hof)
  have HB7 := hid (HB4.out.grown hg7 hs4 (fun g e => (HO4.out.lt g e).1))
  replace HBW := hid (Below.step' HBW3.out HB7.out)
  have hl7 : (M1 ++ M2).length ≤ 800 := by rw [List.length_append]; omega
  try rw [show ((M1.length : Int) + (M2.length : Int)) = ((M1 ++ M2).length : Int) from by simp]
  try rw [hlen]
  obtain ⟨M, hM⟩ : ∃ q, q = M1 ++ M2 := ⟨_, rfl⟩
  replace HE : Hid (E = if (its (M1 ++ M2)).any wideB = true then 5 else 0) := hid (by rw [HE.out, show its (M1 ++ M2) = its M1 ++ its M2 from List.map_append])
  rw [← hM] at HE HRF hl7 ⊢
  clear hof hown7 hg7 hif7 hlen hs4 h2l HR2W HR1 HR2 HO4 HB4 HB7 HBW3 hM1 hM2 hM
  go_wp2_with fail
  -- STOP-e
  go_loopw [12, 37] (fun _ s37 wr => ∃ i : Nat, i ≤ M.length ∧ s37 = .int .i64 i ∧ Hid (∀ j, (h : j < i) → (h2 : j < M.length) → M[j].row.length = 4) ∧ Hid (Below w7.heap.size w7 wr)) (fun _ s37 _ => M.length - (intOf s37).toNat)
  case atStart => exact ⟨0, by omega, rfl, hid (fun j h => by omega), hid (Below.refl _ _)⟩
  case round =>
    obtain ⟨i, hi, rfl, HNO, HB⟩ := hrel
    by_cases hlt : i < M.length
    · have HRR := hid (HRF.out.step HB.out)
      obtain ⟨b, off, rfl, hb, g0, g1⟩ := HRR.out.it hlt
      have hneb : (b = wr.heap.size) = False := by simp; omega
      have HXL : Hid (∀ n, M[i].row.length = n → M[i].row.length = n) := hid fun _ h => h
      by_cases q4 : M[i].row.length = 4
      · have HQ := hid q4
        rw [q4] at g0
        clear q4
        go_wp2_with fail
        -- STOP-f
        go_roundw
        · exact ⟨i + 1, by omega, by simp, hid (fun j h h2 => by
            by_cases hj : j < i
            · exact HNO.out j hj h2
            · have : j = i := by omega
              subst this
              exact HQ.out), hid (Below.step' HB.out (alloc_below (Below.refl _ _) _))⟩
        · simp only [intOf]; omega
      · have hq4 : ((M[i].row.length : Int) != 4) = true := by simp; omega
        have HQ := hid q4
        have HE5 := hid (show E = 5 by
          rw [HE.out, if_pos]
          rw [List.any_eq_true]
          exact ⟨_, List.mem_map.2 ⟨_, List.getElem_mem hlt, rfl⟩, by simp [wideB, IR.it, HQ.out]⟩)
        clear q4
        go_wp2_with fail
        -- STOP-g
        go_ret
        exact ⟨ret_int HE5.out.symm, Below.step' HBW.out (Below.step' HB.out (alloc_below (Below.refl _ _) _))⟩
    · have hlt' : ((i : Int) < (M.length : Int)) = False := by simp; omega
      have HE0 := hid (show E = 0 by
        rw [HE.out, if_neg]
        rw [List.any_eq_true]
        rintro ⟨x, hx, hxw⟩
        obtain ⟨y, hy, rfl⟩ := List.mem_map.1 hx
        obtain ⟨j, hj, rfl⟩ := List.getElem_of_mem hy
        have := HNO.out j (by omega) hj
        simp [wideB, IR.it, this] at hxw)
      go_wp2_with fail
      -- STOP-h
      go_ret
      exact ⟨ret_int HE0.out.symm, Below.step' HBW.out HB.out⟩
end Go.Proofs.YtldlmkfigjicgaaGreatDoor
/- Views in memory; what a step has more. -/
namespace Go.Proofs.YtldlmkfigjicgaaGreatDoor
set_option linter.unusedVariables false
set_option linter.unusedSimpArgs false
open Go.ChangeShapes Go.WideShapes Go.ChangeAt Go.RowKit

/-- A node of a view: its set, and its groups. -/
structure NR where
  L : List IR
  A : Option Addr
  k : Nat
  g : Option Nat
instance : Inhabited NR := ⟨⟨[], none, 0, none⟩⟩
abbrev NR.cells (x : NR) : List Value := [.slice x.A x.L.length x.k, .map x.g]
theorem NR.len (x : NR) : x.cells.length = 2 := rfl
abbrev ncells (N : List NR) : List Value := N.flatMap NR.cells
theorem ncells_len (N : List NR) : (ncells N).length = N.length * 2 := flat_len NR.len N
theorem Row.nr {w : World} {B : Nat} {A : Option Addr} {N : List NR} (h : Row w B A (ncells N)) {k : Nat} (hk : k < N.length) :
    ∃ b off, A = some ⟨b, off, none⟩ ∧ b < B ∧ w.cell? ⟨b, off + k * 2, none⟩ = some (.slice N[k].A N[k].L.length N[k].k) ∧ w.cell? ⟨b, off + k * 2 + 1, none⟩ = some (.map N[k].g) := by
  obtain ⟨b, off, h1, h2, h3⟩ := Row.flat NR.len h (by omega) hk
  exact ⟨b, off, h1, h2, h3 0 _ rfl, h3 1 _ rfl⟩
abbrev llcells (LL : List LR) : List Value := LL.flatMap LR.cells
/-- A view: its query, both tables, its nodes, and where they lie. -/
structure VR where
  Q : List SR
  qA : Option Addr
  qk : Nat
  T0 : LR
  T1 : LR
  N : List NR
  nA : Option Addr
  nk : Nat
abbrev VR.cells (v : VR) : Array Value := #[.slice v.qA v.Q.length v.qk, .slice v.T0.A v.T0.L.length v.T0.k, .slice v.T1.A v.T1.L.length v.T1.k, .slice v.nA v.N.length v.nk]
abbrev nsets (N : List NR) : List (List It) := N.map (fun x => its x.L)
/-- The groups of a node, if its step groups. -/
def GAt (w : World) (s : St) (S : List (List It)) (g : Option Nat) : Prop := s.kind = 8 ∨ s.kind = 9 → ∃ gb, g = some gb ∧ GM w gb (grpN s (S.getD s.a.toNat [])) (grpS s (S.getD s.a.toNat []))
structure VR.at_ (w : World) (vp : Nat) (v : VR) : Prop where
  box : Blk w vp v.cells 94
  q : RowS w w.heap.size v.qA v.Q
  t0 : RowI w w.heap.size v.T0.A v.T0.L
  t1 : RowI w w.heap.size v.T1.A v.T1.L
  n : Row w w.heap.size v.nA (ncells v.N)
  ns : ∀ x ∈ v.N, RowI w w.heap.size x.A x.L
  gs : ∀ i (h : i < v.N.length) (h2 : i < v.Q.length), GAt w v.Q[i].st (nsets v.N) v.N[i].g
theorem GAt.step {w w' : World} {s : St} {S : List (List It)} {g : Option Nat} (h : GAt w s S g) (hb : Below w.heap.size w w') : GAt w' s S g := fun hk => by
  obtain ⟨gb, h1, h2⟩ := h hk
  exact ⟨gb, h1, h2.step hb⟩
theorem VR.at_.step {w w' : World} {vp : Nat} {v : VR} (h : v.at_ w vp) (hb : Below w.heap.size w w') : v.at_ w' vp :=
  ⟨h.box.step hb, h.q.step hb, h.t0.step hb, h.t1.step hb, h.n.step hb, fun x hx => (h.ns x hx).step hb, fun i h1 h2 => (h.gs i h1 h2).step hb⟩
theorem nsets_at {N : List NR} {i : Nat} (h : i < N.length) : (nsets N).getD i [] = its N[i].L := by
  rw [List.getD_eq_getElem?_getD, List.getElem?_map, List.getElem?_eq_getElem h]; rfl
/-- What a step's inputs must be. -/
structure MoreOk (s : St) (A B a b : List It) : Prop where
  lin : LinOk s a b
  join : s.kind = 4 → JoinOk s a B ∧ JoinOk s A b ∧ JoinOk s a b
  dist : s.kind = 7 → Strict A
  grp : s.kind = 8 ∨ s.kind = 9 → GrpOk s a
  la : a.length ≤ 800
  lb : b.length ≤ 800
  lA : A.length ≤ 400
  lB : B.length ≤ 400
/-- What a step has more, and its groups then. -/
def MorePost (s : St) (A B a b : List It) (w : World) (e : Ending) (w' : World) : Prop :=
  ∃ (P : Option Addr) (k : Nat) (M : List IR) (g : Option Nat), e = .returned (.tuple #[.slice P M.length k, .map g]) ∧ (its M).Perm (moreL s A B a b) ∧ RowI w' w'.heap.size P M ∧
    (s.kind = 8 ∨ s.kind = 9 → ∃ gb, g = some gb ∧ w.heap.size ≤ gb ∧ GM w' gb (fun k => wrp (grpN s A k + grpN s a k)) (fun k => wrp (grpS s A k + grpS s a k))) ∧ Below w.heap.size w w'
theorem morePost_mk {s : St} {A B a b : List It} {w w' : World} {P : Option Addr} {k : Nat} {M : List IR} (h1 : (its M).Perm (moreL s A B a b)) (h2 : RowI w' w'.heap.size P M) (hk : ¬ (s.kind = 8 ∨ s.kind = 9)) (hb : Below w.heap.size w w') :
    MorePost s A B a b w (.returned (.tuple #[.slice P M.length k, .map none])) w' := ⟨P, k, M, none, rfl, h1, h2, fun h => absurd h hk, hb⟩
theorem own_drewI {w : World} {B n s : Nat} {T : TypeId} {v : Value} {xs : List Value} (h : w.ownsRow B T s v n xs) : w.drew.ownsRow B T s v n xs := h
theorem joinL_len (s : St) (A B : List It) : (joinL s A B).length ≤ A.length * B.length := flat_le _ _ A fun x _ => by
  rw [List.length_map]; exact List.length_filter_le _ _
set_option maxHeartbeats 8000000 in
set_option maxRecDepth 100000 in
theorem more_any (v : VR) (vp tb i ja jb : Nat) (x : SR) (D : List LR) (dA : Option Addr) (dk : Nat) (xv : Value) (w : World) (hv : v.at_ w vp) (ht : Blk w tb #[.pointer (some ⟨vp, 0, none⟩), .slice dA D.length dk, xv] 104)
    (hd : Row w w.heap.size dA (llcells D)) (hds : ∀ y ∈ D, RowI w w.heap.size y.A y.L) (hi : i < v.N.length) (hx : Row w w.heap.size x.A (icells' x.st.list)) (ea : x.st.a = (ja : Int)) (eb : x.st.b = (jb : Int)) (hja : ja < D.length) (hjb : jb < D.length) (hDN : D.length ≤ v.N.length) (hN8 : v.N.length ≤ 8) (hk29 : 2 ≤ x.st.kind ∧ x.st.kind ≤ 9)
    (hok : MoreOk x.st (its (v.N[ja]'(Nat.lt_of_lt_of_le hja hDN)).L) (its (v.N[jb]'(Nat.lt_of_lt_of_le hjb hDN)).L) (its D[ja].L) (its D[jb].L)) (hg : GAt w x.st (nsets v.N) v.N[i].g) :
    Calls Tryz.prog 89 #[.pointer (some ⟨tb, 0, none⟩), .int .i64 i, .agg x.cells.toArray] w (MorePost x.st (its (v.N[ja]'(Nat.lt_of_lt_of_le hja hDN)).L) (its (v.N[jb]'(Nat.lt_of_lt_of_le hjb hDN)).L) (its D[ja].L) (its D[jb].L) w) := by
  have hNa : ja < v.N.length := Nat.lt_of_lt_of_le hja hDN
  have hNb : jb < v.N.length := Nat.lt_of_lt_of_le hjb hDN
  obtain ⟨bD, oD, edA, hbD, hDa⟩ := hd.lr hja
  obtain ⟨bD', oD', edA', -, hDb⟩ := hd.lr hjb
  rw [edA] at edA'
  injection edA' with edA'
  injection edA' with e1 e2
  subst e1 e2
  obtain ⟨bN, oN, enA, hbN, hNa0, -⟩ := hv.n.nr hNa
  obtain ⟨bN', oN', enA', -, hNb0, -⟩ := hv.n.nr hNb
  rw [enA] at enA'
  injection enA' with enA'
  injection enA' with e1 e2
  subst e1 e2
  obtain ⟨bN', oN', enA', -, -, hNg⟩ := hv.n.nr hi
  rw [enA] at enA'
  injection enA' with enA'
  injection enA' with e1 e2
  subst e1 e2
  have RDA := hds D[ja] (List.getElem_mem hja)
  have RDB := hds D[jb] (List.getElem_mem hjb)
  have RNA := hv.ns v.N[ja] (List.getElem_mem hNa)
  have RNB := hv.ns v.N[jb] (List.getElem_mem hNb)
  unfold GAt at hg
  rw [ea, Int.toNat_natCast, nsets_at hNa] at hg
  have hvb := hv.box
  obtain ⟨⟨sk, sa, sb, sc, so, sv, sl⟩, sA, sK⟩ := x
  simp only at ea eb hg hx hok hk29
  subst ea eb
  obtain ⟨Q, qA, qk, T0, T1, N, nA, nk⟩ := v
  simp only [VR.cells] at hvb hok hNa0 hNb0 hNg RNA RNB hg hNa hNb enA hDN hi hN8 ⊢
  subst enA edA
  have hnl : N.length ≤ 8 := hN8
  clear hv hd hds
  obtain ⟨da, hda⟩ : ∃ d, d = D[ja] := ⟨_, rfl⟩
  obtain ⟨db, hdb⟩ : ∃ d, d = D[jb] := ⟨_, rfl⟩
  obtain ⟨na, hna⟩ : ∃ d, d = N[ja] := ⟨_, rfl⟩
  obtain ⟨nb, hnb⟩ : ∃ d, d = N[jb] := ⟨_, rfl⟩
  obtain ⟨gv, hgv⟩ : ∃ d, d = N[i].g := ⟨_, rfl⟩
  rw [← hda] at hDa RDA hok ⊢
  rw [← hdb] at hDb RDB hok ⊢
  rw [← hna] at hNa0 RNA hok hg ⊢
  rw [← hnb] at hNb0 RNB hok ⊢
  rw [← hgv] at hNg hg
  clear hda hdb hna hnb hgv
  obtain ⟨LA, AA, kA⟩ := da
  obtain ⟨LB, AB, kB⟩ := db
  obtain ⟨MA, PA, cA, gA⟩ := na
  obtain ⟨MB, PB, cB, gB⟩ := nb
  simp only at hDa hDb RDA RDB hNa0 hNb0 RNA RNB hok hg ⊢
  obtain ⟨s, hs⟩ : ∃ s : St, s = ⟨sk, ja, jb, sc, so, sv, sl⟩ := ⟨_, rfl⟩
  have hok' := hok
  rw [← hs] at hok'
  obtain ⟨okL, okJ, okD, okG, l1, l2, l3, l4⟩ := hok
  simp only [its_len] at l1 l2 l3 l4
  have HLIN := hid (fun w1 (hb : Below w.heap.size w w1) => linear_any ⟨⟨sk, ja, jb, sc, so, sv, sl⟩, sA, sK⟩ LA LB AA AB kA kB w1 (hx.step hb) (RDA.step hb) l1 (RDB.step hb) l2 okL)
  have HJ1 := hid (fun (k4 : sk = 4) w1 (hb : Below w.heap.size w w1) => join_own ⟨⟨sk, ja, jb, sc, so, sv, sl⟩, sA, sK⟩ LA MB AA PB kA cB w1 (RDA.step hb) l1 (RNB.step hb) (by omega) (okJ k4).1)
  have HJ2 := hid (fun (k4 : sk = 4) w1 (hb : Below w.heap.size w w1) => join_own ⟨⟨sk, ja, jb, sc, so, sv, sl⟩, sA, sK⟩ MA LB PA AB cA kB w1 (RNA.step hb) (by omega) (RDB.step hb) l2 (okJ k4).2.1)
  have HJ3 := hid (fun (k4 : sk = 4) w1 (hb : Below w.heap.size w w1) => join_own ⟨⟨sk, ja, jb, sc, so, sv, sl⟩, sA, sK⟩ LA LB AA AB kA kB w1 (RDA.step hb) l1 (RDB.step hb) l2 (okJ k4).2.2)
  have HDI := hid (fun (k7 : sk = 7) w1 (hb : Below w.heap.size w w1) => distinct_any MA LA PA AA cA kA w1 (RNA.step hb) (by omega) (RDA.step hb) (by omega) (okD k7))
  have HRG := hid (fun (k8 : sk = 8 ∨ sk = 9) gb (e : gv = some gb) (hgm : GM w gb (grpN ⟨sk, ja, jb, sc, so, sv, sl⟩ (its MA)) (grpS ⟨sk, ja, jb, sc, so, sv, sl⟩ (its MA))) w1 (hb : Below w.heap.size w w1) => regroup_any ⟨⟨sk, ja, jb, sc, so, sv, sl⟩, sA, sK⟩ (its MA) LA AA kA gb w1 (RDA.step hb) l1 (okG k8) (by rw [its_len]; exact l3) (hgm.step hb))
  simp only [SR.cells] at HLIN HJ1 HJ2 HJ3 HRG ⊢
  rw [← hs] at HLIN HJ1 HJ2 HJ3 HRG hg ⊢
  have hs9 : s.kind = sk := by rw [hs]
  have HMO := hid (show moreL s (its MA) (its MB) (its LA) (its LB) = if linB s = true then linL s (its LA) (its LB) else if sk = 4 then joinL s (its LA) (its MB) ++ joinL s (its MA) (its LB) ++ joinL s (its LA) (its LB) else if sk = 7 then distD (its MA) (its LA) else if sk = 8 ∨ sk = 9 then grpMore s (its MA) (its LA) else [] by rw [← hs9]; rfl)
  have HLB := hid (show linB s = true ↔ (sk = 2 ∨ sk = 3 ∨ sk = 5 ∨ sk = 6) by rw [hs]; unfold linB; simp)
  have HKK := hid hs9
  have HG := hid hg
  clear hs hs9 hg RDA RDB RNA RNB okL okJ okD okG hok' hx
  obtain ⟨W, hW⟩ : ∃ W : World, W = w.alloc (.cells #[.int .i64 sk, .int .i64 ja, .int .i64 jb, .int .i64 sc, .int .i64 so, .int .i64 sv, .slice sA sl.length sK] 89) := ⟨_, rfl⟩
  have HB := hid (show Below w.heap.size w W by rw [hW]; exact alloc_below (Below.refl _ _) _)
  have HXS := hid (show Blk W w.heap.size #[.int .i64 sk, .int .i64 ja, .int .i64 jb, .int .i64 sc, .int .i64 so, .int .i64 sv, .slice sA sl.length sK] 89 by rw [hW]; exact Blk.new _ _ _)
  have HSWW := hid (show w.heap.size < W.heap.size by rw [hW]; simp)
  have HXT := hid (ht.step HB.out)
  have HXV := hid (hvb.step HB.out)
  have HC := hid (show ∀ w1, Below W.heap.size W w1 → (w1.cell? ⟨bD, oD + ja, none⟩ = some (.slice AA LA.length kA) ∧ w1.cell? ⟨bD, oD + jb, none⟩ = some (.slice AB LB.length kB) ∧ bD < w1.heap.size) ∧ (w1.cell? ⟨bN, oN + ja * 2, none⟩ = some (.slice PA MA.length cA) ∧ w1.cell? ⟨bN, oN + jb * 2, none⟩ = some (.slice PB MB.length cB) ∧ w1.cell? ⟨bN, oN + i * 2 + 1, none⟩ = some (.map gv) ∧ bN < w1.heap.size) from fun w1 hb => by
    have h := Below.step' HB.out hb
    have hc := (bcell h).1
    exact ⟨⟨(hc bD _ hbD).trans hDa, (hc bD _ hbD).trans hDb, Nat.lt_of_lt_of_le hbD h.size⟩, (hc bN _ hbN).trans hNa0, (hc bN _ hbN).trans hNb0, (hc bN _ hbN).trans hNg, Nat.lt_of_lt_of_le hbN h.size⟩)
  have hneD : (bD = w.heap.size) = False := by simp; omega
  have hneN : (bN = w.heap.size) = False := by simp; omega
  clear hvb ht hDa hDb hNa0 hNb0 hNg
  go_enter Tryz.func89, Tryz.ntmps89
  go_upto_region 1 with fail
  rw [← hW]
  clear hW
  obtain ⟨⟨cDa, cDb, lD⟩, cNa, cNb, cNg, lN⟩ := HC.out W (Below.refl _ _)
  obtain ⟨cHXS, fHXS, sHXS, nHXS⟩ := HXS.out.all
  try simp only [cbox] at cHXS
  obtain ⟨cHXT, fHXT, sHXT, nHXT⟩ := HXT.out.all
  try simp only [cbox] at cHXT
  obtain ⟨cHXV, fHXV, sHXV, nHXV⟩ := HXV.out.all
  try simp only [cbox] at cHXV
  refine wp_region_quiet_lit (by kernel_rfl) (by kernel_rfl) ?_
  repeat (any_goals ((with_reducible refine wpQuiet_step (fun K hK => ?_)); go_simp; first | (with_reducible refine hK _ ?_; clear hK K) | ((with_reducible apply Exists.intro); (with_reducible refine ⟨fun _ => ?_, hK _ ?_⟩); (fail); clear hK K) | ((with_reducible refine (if_neg ?_).mpr (hK _ ?_)); (decide); clear hK K) | (split <;> (with_reducible refine hK _ ?_; clear hK K))))
  all_goals ((with_reducible refine wpQuiet_nil ?_); intro _ hw'; obtain ⟨nq, hw''⟩ := hw'; subst hw'')
  -- STOP-a
  obtain ⟨W1, hW1⟩ : ∃ W1 : World, W1 = W.drewN nq := ⟨_, rfl⟩
  have HB1 := hid (show Below W.heap.size W W1 by rw [hW1]; exact below_drewN (Below.refl _ _) _)
  rw [← hW1]
  clear hW1 cDa cDb lD cNa cNb cNg lN
  clear cHXS fHXS sHXS nHXS
  clear cHXT fHXT sHXT nHXT
  clear cHXV fHXV sHXV nHXV
  replace HXS := hid (HXS.out.step HB1.out)
  obtain ⟨cHXS, fHXS, sHXS, nHXS⟩ := HXS.out.all
  try simp only [cbox] at cHXS
  go_wp2_with fail
  refine (HLIN.out _ (Below.step' HB.out HB1.out)).mono ?_
  rintro e w2 ⟨A2, k2, M2, rfl, hi2, hr2, hb2⟩
  clear cHXS fHXS sHXS nHXS
  replace HB1 := hid (Below.step' HB1.out hb2)
  by_cases kl : linB s = true
  · rw [kl]
    have HE := hid (show moreL s (its MA) (its MB) (its LA) (its LB) = its M2 by rw [HMO.out, if_pos kl, hi2])
    have HR2 := hid hr2
    have HK := hid (show ¬ (s.kind = 8 ∨ s.kind = 9) by rw [HKK.out]; have := HLB.out.1 kl; omega)
    clear kl hi2 hr2 hb2
    go_wp2_with fail
    -- STOP-b
    go_ret2
    exact morePost_mk (by rw [HE.out]) HR2.out HK.out (Below.step' HB.out HB1.out)
  have HMO2 := hid (show moreL s (its MA) (its MB) (its LA) (its LB) = if sk = 4 then joinL s (its LA) (its MB) ++ joinL s (its MA) (its LB) ++ joinL s (its LA) (its LB) else if sk = 7 then distD (its MA) (its LA) else if sk = 8 ∨ sk = 9 then grpMore s (its MA) (its LA) else [] by rw [HMO.out, if_neg kl])
  have klf : linB s = false := by simpa using kl
  have HKL := hid (show ¬ (sk = 2 ∨ sk = 3 ∨ sk = 5 ∨ sk = 6) from fun h => kl (HLB.out.2 h))
  rw [klf]
  clear kl klf hi2 hr2 HMO HLB HLIN
  replace HXS := hid (HXS.out.step hb2)
  replace HXT := hid (HXT.out.step HB1.out)
  replace HXV := hid (HXV.out.step HB1.out)
  clear hb2
  have HW2 := hid (Below.step' HB.out HB1.out)
  by_cases k4 : sk = 4
  · have t4 : (sk == 4) = true := by simp [k4]
    have HE := hid (show moreL s (its MA) (its MB) (its LA) (its LB) = joinL s (its LA) (its MB) ++ joinL s (its MA) (its LB) ++ joinL s (its LA) (its LB) by rw [HMO2.out, if_pos k4])
    have HK := hid (show ¬ (s.kind = 8 ∨ s.kind = 9) by rw [HKK.out]; omega)
    replace HJ1 := hid (HJ1.out k4)
    replace HJ2 := hid (HJ2.out k4)
    replace HJ3 := hid (HJ3.out k4)
    clear k4 HMO2 HDI HRG HG HKK
    obtain ⟨-, cNa, cNb, cNg, lN⟩ := HC.out w2 HB1.out
    obtain ⟨cHXS, fHXS, sHXS, nHXS⟩ := HXS.out.all
    try simp only [cbox] at cHXS
    obtain ⟨cHXT, fHXT, sHXT, nHXT⟩ := HXT.out.all
    try simp only [cbox] at cHXT
    obtain ⟨cHXV, fHXV, sHXV, nHXV⟩ := HXV.out.all
    try simp only [cbox] at cHXV
    go_upto_region 7 with fail
    -- STOP-c
    refine region_tail 14 (by kernel_rfl) (by kernel_rfl) ?_
    simp only [List.take_succ_cons, List.take_zero, List.drop_succ_cons, List.drop_zero]
    repeat still_step
    refine wpStill_nil ?_
    go_wp2_with fail
    -- STOP-d
    refine (HJ1.out _ HW2.out.drew).mono ?_
    rintro e w3 ⟨A3, k3, M3, rfl, hi3, ho3, hn3, hb3⟩
    clear cHXS fHXS sHXS nHXS
    clear cHXT fHXT sHXT nHXT
    clear cHXV fHXV sHXV nHXV
    have hb3' : Below w2.heap.size w2 w3 := Below.step' (Below.drew (Below.refl _ _)) hb3
    have HI3 := hid hi3
    have HO3 := hid (show w3.ownsRow w2.heap.size 67 2 (.slice A3 M3.length k3) M3.length (rcells M3) from ho3)
    have HN3 := hid (show RowsNew w3 w2.heap.size (.slice A3 M3.length k3) M3 from hn3)
    have HB3 := hid (Below.step' HB1.out hb3')
    replace HXS := hid (HXS.out.step hb3')
    replace HXT := hid (HXT.out.step hb3')
    replace HXV := hid (HXV.out.step hb3')
    have l3' : M3.length ≤ 320000 := by
      rw [← its_len, hi3]
      have := joinL_len s (its LA) (its MB)
      rw [its_len, its_len] at this
      exact Nat.le_trans this (Nat.mul_le_mul l1 l4)
    have hs3 := hb3'.size
    have HXSW := hid (show w.heap.size < w2.heap.size from Nat.lt_of_lt_of_le HSWW.out HB1.out.size)
    clear hi3 ho3 hn3 hb3 hb3' HJ1 cNa cNb cNg lN
    obtain ⟨-, cNa, cNb, cNg, lN⟩ := HC.out w3 HB3.out
    have HW3 := hid (Below.step' HB.out HB3.out)
    obtain ⟨cHXS, fHXS, sHXS, nHXS⟩ := HXS.out.all
    try simp only [cbox] at cHXS
    obtain ⟨cHXT, fHXT, sHXT, nHXT⟩ := HXT.out.all
    try simp only [cbox] at cHXT
    obtain ⟨cHXV, fHXV, sHXV, nHXV⟩ := HXV.out.all
    try simp only [cbox] at cHXV
    go_upto_region 8 with fail
    have hw3d := HW3.out.drew
    have how3 := own_drewI HO3.out
    have hl4 : ∀ M : List IR, its M = joinL s (its MA) (its LB) → M3.length + M.length ≤ maxLen ∧ (M3.length + M.length) * 32 ≤ 140737488355328 := fun M h => by
      have := joinL_len s (its MA) (its LB)
      rw [its_len, its_len, ← h, its_len] at this
      have := Nat.le_trans this (Nat.mul_le_mul l3 l2)
      simp only [maxLen]
      omega
    have HL4 := hid hl4
    have HSN := hid (Nat.le_trans hs3 (Nat.le_refl w3.heap.size))
    clear hl4
    go_cut [12] from 57 to 73 (fun s12 wx => ∃ (A5 : Option Addr) (k5 : Nat) (M5 : List IR), s12 = .slice A5 M5.length k5 ∧ Hid (its M5 = joinL s (its LA) (its MB) ++ joinL s (its MA) (its LB)) ∧ Hid (wx.ownsRow w2.heap.size 67 2 (.slice A5 M5.length k5) M5.length (rcells M5)) ∧ Hid (RowsNew wx w2.heap.size (.slice A5 M5.length k5) M5) ∧ Hid (w2.heap.size ≤ wx.heap.size) ∧ Hid (Below w.heap.size w wx) ∧ Hid (Blk wx w.heap.size #[.int .i64 sk, .int .i64 ja, .int .i64 jb, .int .i64 sc, .int .i64 so, .int .i64 sv, .slice sA sl.length sK] 89))
    case first =>
      go_region_law
        (first
          | (refine step_append_row elem_item (by rfl) _ _ (by rfl) w2.heap.size (.slice A3 M3.length k3) M3.length (rcells M3) (by rfl) how4 A4 M4.length k4 w4.heap.size (rcells M4) (by rfl) (rcells_len M4) (Row.of_ownS ho4) (rcells_one M4) (HL4.out M4 hi4).1 (HL4.out M4 hi4).2 (Nat.le_trans HSN.out hb4.size) ?_; intro v5 w5 hown5 hg5 hif5; obtain ⟨A5, k5, rfl⟩ := own_formS hown5)
          | (go_simp; go_at_call 85; (with_reducible refine (HJ2.out _ hw3d).mono ?_); rintro e w4 ⟨A4, k4, M4, rfl, hi4, ho4, hn4, hb4⟩; have how4 := own_laterS how3 hb4))
      -- STOP-e
      all_goals
        go_wp2_with fail
        go_meet
        -- STOP-f
        case rel =>
          have hz4 : w3.heap.size ≤ w4.heap.size := hb4.size
          have hz5 := hg5.size
          have hb34 : Below w3.heap.size w3 w4 := Below.step' (Below.drew (Below.refl _ _)) hb4
          have hzw : w.heap.size ≤ w2.heap.size := HW2.out.size
          have hlw : w.heap.size < w2.heap.size := HXSW.out
          refine ⟨A5, k5, M3 ++ M4, by rw [List.length_append], hid ?_, hid ?_, hid ?_, hid (Nat.le_trans hs3 (Nat.le_trans hz4 hz5)), hid ((Below.step' HW3.out hb34).grown hg5 (Nat.le_trans hzw (Nat.le_trans hs3 hz4)) (fun g e => Nat.le_trans hzw (HO3.out.lt g e).1)), hid ((Blk.step HXS.out hb34).grown hg5 (fun e => Nat.lt_irrefl _ (Nat.lt_of_lt_of_le hlw (HO3.out.lt _ e.symm).1)))⟩
          · rw [its, List.map_append, show M3.map IR.it = its M3 from rfl, show M4.map IR.it = its M4 from rfl, HI3.out, hi4]
          · rw [rcells_app, List.length_append]; exact hown5
          · rw [List.length_append]
            refine ((HN3.out.step hb34).grown hg5 hif5).app fun y hy => ?_
            obtain ⟨q1, q2, q3, q4⟩ := hn4 y hy
            have hne : ∀ b off q, y.A = some ⟨b, off, q⟩ → some b ≠ (Value.slice A3 M3.length k3).ownBlock := fun b off q e e2 => by
              have h1 := q2 b off q e
              have h2 := (HO3.out.lt b e2.symm).2
              exact absurd h2 (Nat.not_lt_of_le h1)
            refine ⟨(q1.grown_ne (Nat.le_refl _) hg5 hne).more hg5.size, newAt_le q2 hs3, fun b off q e => ⟨?_, Nat.lt_of_lt_of_le (q3 b off q e).2 hg5.size⟩, q4⟩
            rcases hif5 with h | h
            · rw [h]; exact hne b off q e
            · rw [h]; intro e2; injection e2 with e2; have := (q3 b off q e).2; omega
    case rest =>
      obtain ⟨A5, k5, M5, rfl, HI5, HO5, HN5, HZ5, HW5, HXS5⟩ := hcut
      obtain ⟨w5, rfl⟩ : ∃ wx : World, wx = wc := ⟨_, rfl⟩
      clear HXS HXT HXV cHXS fHXS sHXS nHXS cHXT fHXT sHXT nHXT cHXV fHXV sHXV nHXV cNa cNb cNg lN HI3 HO3 HN3 HB3 hw3d how3 HJ2
      obtain ⟨cHXS5, fHXS5, sHXS5, nHXS5⟩ := HXS5.out.all
      try simp only [cbox] at cHXS5
      go_wp2_with fail
      -- STOP-g
      refine (HJ3.out _ HW5.out).mono ?_
      rintro e w6 ⟨A6, k6, M6, rfl, hi6, ho6, hn6, hb6⟩
      clear cHXS5 fHXS5 sHXS5 nHXS5
      have HI6 := hid hi6
      have HR6 := hid (Row.of_ownS ho6)
      have HN6 := hid hn6
      have HO5' := hid (own_laterS HO5.out hb6)
      have HN5' := hid (HN5.out.step hb6)
      have HW6 := hid (Below.step' HW5.out hb6)
      have hrl6 := rcells_len M6
      have hl6 : M5.length + M6.length ≤ 1280000 := by
        have e5 := congrArg List.length HI5.out
        have e6 := congrArg List.length hi6
        rw [List.length_append, its_len] at e5
        rw [its_len] at e6
        have j1 := joinL_len s (its LA) (its MB)
        have j2 := joinL_len s (its MA) (its LB)
        have j3 := joinL_len s (its LA) (its LB)
        rw [its_len, its_len] at j1 j2 j3
        have := Nat.le_trans j1 (Nat.mul_le_mul l1 l4)
        have := Nat.le_trans j2 (Nat.mul_le_mul l3 l2)
        have := Nat.le_trans j3 (Nat.mul_le_mul l1 l2)
        omega
      have hs5 : w2.heap.size ≤ w5.heap.size := HZ5.out
      have hs6 := hb6.size
      have HL5 := hid (fun q (e : (Value.slice A5 M5.length k5).ownBlock = some q) => HO5.out.lt q e)
      clear hi6 ho6 hn6 hb6 HJ3 HO5 HN5 HXS5
      go_wp2_with (at_builtin; refine wpList_append_row elem_item rfl _ _ rfl w2.heap.size (.slice A5 M5.length k5) M5.length (rcells M5) rfl HO5'.out A6 M6.length k6 w6.heap.size (rcells M6) rfl hrl6 HR6.out (rcells_one M6) ?_ ?_ ?_ ?_; rotate_right; intro v7 w7 hown7 hg7 hif7; rotate_left; (simp only [maxLen]; omega); (omega); (omega))
      -- STOP-h
      obtain ⟨A7, k7, rfl⟩ := own_formS hown7
      have hsw2 : w.heap.size ≤ w2.heap.size := HW2.out.size
      go_ret2
      have hmk := morePost_mk (s := s) (A := its MA) (B := its MB) (a := its LA) (b := its LB) (w := w) (w' := w7) (P := A7) (k := k7) (M := M5 ++ M6) (by rw [HE.out, its, List.map_append, show M5.map IR.it = its M5 from rfl, show M6.map IR.it = its M6 from rfl, HI5.out, HI6.out]) ⟨by rw [rcells_app]; exact Row.of_ownS hown7, ?_⟩ HK.out (HW6.out.grown hg7 (by omega) (fun g e => Nat.le_trans hsw2 (HL5.out g e).1))
      · rw [List.length_append] at hmk; exact hmk
      · refine RowsAt.app (fun y hy => ?_) (fun y hy => ?_)
        · obtain ⟨q1, q2, q3, q4⟩ := HN5'.out y hy
          exact ⟨((q1.grown_ne (Nat.le_refl _) hg7 (fun b off q e => (q3 b off q e).1)).more hg7.size).row.more (Nat.le_refl _), Nat.le_trans q4 (by decide)⟩
        · obtain ⟨q1, q2, q3, q4⟩ := HN6.out y hy
          exact ⟨((q1.grown_ne (Nat.le_refl _) hg7 (fun b off q e e2 => by have h1 := q2 b off q e; have h2 := (HL5.out b e2.symm).2; omega)).more hg7.size).row.more (Nat.le_refl _), Nat.le_trans q4 (by decide)⟩
  have t4 : (sk == 4) = false := by simp [k4]
  by_cases k7 : sk = 7
  · have t7 : (sk == 7) = true := by simp [k7]
    have HE := hid (show moreL s (its MA) (its MB) (its LA) (its LB) = distD (its MA) (its LA) by rw [HMO2.out, if_neg k4, if_pos k7])
    have HK := hid (show ¬ (s.kind = 8 ∨ s.kind = 9) by rw [HKK.out]; omega)
    replace HDI := hid (HDI.out k7)
    clear k4 k7 HMO2 HRG HG HKK HJ1 HJ2 HJ3
    obtain ⟨-, cNa, cNb, cNg, lN⟩ := HC.out w2 HB1.out
    obtain ⟨cHXS, fHXS, sHXS, nHXS⟩ := HXS.out.all
    try simp only [cbox] at cHXS
    obtain ⟨cHXT, fHXT, sHXT, nHXT⟩ := HXT.out.all
    try simp only [cbox] at cHXT
    obtain ⟨cHXV, fHXV, sHXV, nHXV⟩ := HXV.out.all
    try simp only [cbox] at cHXV
    go_upto_region 11 with fail
    have hw2d := HW2.out.drew
    go_region_law
      (first
        | (go_simp; go_at_call 108; (with_reducible refine (HDI.out _ hw2d).mono ?_); rintro e w3 ⟨A3, k3, M3, rfl, hi3, hr3, hb3⟩))
    all_goals
      go_wp2_with fail
      -- STOP-i
      go_ret2
      exact morePost_mk (by rw [HE.out, hi3]) hr3 HK.out (Below.step' hw2d hb3)
  · have t7 : (sk == 7) = false := by simp [k7]
    have hk8 : sk = 8 ∨ sk = 9 := by have := HKL.out; omega
    have HE := hid (show moreL s (its MA) (its MB) (its LA) (its LB) = grpMore s (its MA) (its LA) by rw [HMO2.out, if_neg k4, if_neg k7, if_pos hk8])
    obtain ⟨gb, hgv, hgm⟩ := HG.out hk8
    have HR := hid (HRG.out hk8 gb hgv hgm)
    subst hgv
    clear k4 k7 hk8 HMO2 HDI HRG HG HKK HJ1 HJ2 HJ3 hgm
    obtain ⟨-, cNa, cNb, cNg, lN⟩ := HC.out w2 HB1.out
    obtain ⟨cHXS, fHXS, sHXS, nHXS⟩ := HXS.out.all
    try simp only [cbox] at cHXS
    obtain ⟨cHXT, fHXT, sHXT, nHXT⟩ := HXT.out.all
    try simp only [cbox] at cHXT
    obtain ⟨cHXV, fHXV, sHXV, nHXV⟩ := HXV.out.all
    try simp only [cbox] at cHXV
    go_upto_region 12 with fail
    have hw2d := HW2.out.drew
    go_region_law
      (first
        | (go_simp; go_at_call 109; (with_reducible refine (HR.out _ hw2d).mono ?_); rintro e w3 ⟨A3, k3, M3, g3, rfl, hi3, hr3, hg3, hl3, hb3⟩))
    all_goals
      go_wp2_with fail
      -- STOP-j
      go_ret2
      have hz : w.heap.size ≤ w2.heap.size := HW2.out.size
      have hl3' : w2.heap.size ≤ g3 := hl3
      exact ⟨A3, k3, M3, some g3, rfl, by rw [HE.out]; exact hi3, hr3, fun _ => ⟨g3, rfl, Nat.le_trans hz hl3', hg3⟩, Below.step' hw2d hb3⟩
end Go.Proofs.YtldlmkfigjicgaaGreatDoor
/- Blocks of a type that stand while blocks of others turn. -/
namespace Go.Proofs.YtldlmkfigjicgaaGreatDoor
set_option linter.unusedVariables false
open Go.ChangeShapes Go.WideShapes Go.ChangeAt Go.RowKit

/-- Blocks of ints keep their size. -/
def IntsAs (w w' : World) : Prop := ∀ (g : Nat) (cur : Array Value) (d : Nat × Nat), w.heap[g]? = some (Obj.cells cur 3 d) → ∃ cur' : Array Value, w'.heap[g]? = some (Obj.cells cur' 3 d) ∧ cur'.size = cur.size
/-- Blocks of a type stand. -/
def Stand (T : TypeId) (w w' : World) : Prop := ∀ (g : Nat) (cur : Array Value) (d : Nat × Nat), w.heap[g]? = some (Obj.cells cur T d) → w'.heap[g]? = some (Obj.cells cur T d)
theorem Stand.trans {T : TypeId} {w w1 w2 : World} (h : Stand T w w1) (h' : Stand T w1 w2) : Stand T w w2 := fun g cur d e => h' g cur d (h g cur d e)
theorem IntsAs.trans {w w1 w2 : World} (h : IntsAs w w1) (h' : IntsAs w1 w2) : IntsAs w w2 := fun g cur d e => by
  obtain ⟨c1, e1, s1⟩ := h g cur d e
  obtain ⟨c2, e2, s2⟩ := h' g c1 d e1
  exact ⟨c2, e2, s2.trans s1⟩
theorem lt_of_cells {w : World} {g : Nat} {o : Obj} (h : w.heap[g]? = some o) : g < w.heap.size := by
  rcases Nat.lt_or_ge g w.heap.size with q | q
  · exact q
  · rw [Array.getElem?_eq_none q] at h; cases h
theorem Stand.grown {T : TypeId} {w w' : World} {r : Option Nat} (hg : w.grownBy w' r) (hr : ∀ (g : Nat) (cur : Array Value) (d : Nat × Nat), w.heap[g]? = some (Obj.cells cur T d) → some g ≠ r) : Stand T w w' := fun g cur d e => (hg.block g (lt_of_cells e) (hr g cur d e)).trans e
theorem Stand.below {T : TypeId} {w w' : World} (hb : Below w.heap.size w w') : Stand T w w' := Stand.grown (grown_of_below hb) (fun g cur d e q => by cases q)
theorem own_type {w : World} {B n s g : Nat} {T : TypeId} {v : Value} {xs : List Value} (h : w.ownsRow B T s v n xs) (e : v.ownBlock = some g) : ∃ cap cur, B ≤ g ∧ w.heap[g]? = some (Obj.cells cur T (0, 0)) ∧ v = .slice (some ⟨g, 0, none⟩) n cap ∧ n ≤ cap ∧ cap ≤ maxLen ∧ cur.size = cap * s ∧ cur.toList.take (n * s) = xs := by
  rcases h.2 with ⟨q, -⟩ | ⟨b, cap, cur, q, hb, hg, h1, h2, h3, h4⟩
  · rw [q] at e; simp [Value.ownBlock] at e
  · have : b = g := by rw [q] at e; simpa [Value.ownBlock] using e
    subst this
    exact ⟨cap, cur, hb, hg, q, h1, h2, h3, h4⟩
theorem Stand.ofOwn {T T' : TypeId} {w w' : World} {B n s : Nat} {v : Value} {xs : List Value} (h : w.ownsRow B T' s v n xs) (hT : T ≠ T') (hg : w.grownBy w' v.ownBlock) : Stand T w w' :=
  Stand.grown hg fun g cur d e q => by
    obtain ⟨cap, cur', -, h2, -⟩ := own_type h q.symm
    rw [e] at h2
    injection h2 with h2
    injection h2 with _ h2 _
    exact hT h2
theorem own_stand {w w' : World} {B n s : Nat} {T : TypeId} {v : Value} {xs : List Value} (h : w.ownsRow B T s v n xs) (hs : Stand T w w') : w'.ownsRow B T s v n xs := by
  obtain ⟨h1, h2⟩ := h
  refine ⟨h1, ?_⟩
  rcases h2 with h2 | ⟨b, cap, cur, e, hb, hgt, h3⟩
  · exact .inl h2
  · exact .inr ⟨b, cap, cur, e, hb, hs _ _ _ hgt, h3⟩
theorem grown_setS (w : World) (b o : Nat) (v : Value) : w.grownBy (w.setCell ⟨b, o, none⟩ v) (some b) := by
  refine ⟨rfl, rfl, rfl, by simp [World.setCell], fun k hk hne => ?_⟩
  simp only [World.setCell, Array.getElem?_modify]
  rw [if_neg (fun e => hne (by rw [e]))]
end Go.Proofs.YtldlmkfigjicgaaGreatDoor
/- A turn of a view in memory; its step. -/
namespace Go.Proofs.YtldlmkfigjicgaaGreatDoor
set_option linter.unusedVariables false
set_option linter.unusedSimpArgs false
open Go.ChangeShapes Go.WideShapes Go.ChangeAt Go.RowKit

theorem elem_dels : Elem Tryz.prog 44 22 1 24 := ⟨Tryz.underlying44, by
  obtain ⟨i, hi, hz, hs, hb⟩ := info_parts (P := Tryz.prog) (e := 22) (z := .slice none 0 0) (size := 1) (bytes := 24) (by kernel_rfl)
  exact ⟨i, _, hi, hz, hs, hb, rfl⟩, by decide⟩
theorem elem_node : Elem Tryz.prog 92 97 2 32 := ⟨Tryz.underlying92, by
  obtain ⟨i, hi, hz, hs, hb⟩ := info_parts (P := Tryz.prog) (e := 97) (z := .agg #[.slice none 0 0, .map none]) (size := 2) (bytes := 32) (by kernel_rfl)
  exact ⟨i, _, hi, hz, hs, hb, rfl⟩, by decide⟩
/-- A set in blocks of its own. -/
def SetIn (w : World) (lo : Nat) (A : Option Addr) (k : Nat) (L : List IR) : Prop := w.ownsRow lo 67 2 (.slice A L.length k) L.length (rcells L) ∧ RowsNew w lo (.slice A L.length k) L
theorem SetIn.nil (w : World) (lo : Nat) : SetIn w lo none 0 [] := ⟨World.ownsRow_nil _ _ _ _, RowsNew.nil _ _ _⟩
theorem SetIn.rowI {w : World} {lo : Nat} {A : Option Addr} {k : Nat} {L : List IR} (h : SetIn w lo A k L) : RowI w w.heap.size A L := ⟨Row.of_ownS h.1, h.2.rows⟩
theorem RowOwn.stand {w w' : World} {A : Option Addr} {l : List Int} {k : Nat} (h : RowOwn w A l k) (hs : Stand 3 w w') : RowOwn w' A l k := RowOwn.of_own (own_stand h.own hs) rfl
theorem SetIn.stand {w w' : World} {lo : Nat} {A : Option Addr} {k : Nat} {L : List IR} (h : SetIn w lo A k L) (h1 : Stand 67 w w') (h2 : Stand 3 w w') (hz : w.heap.size ≤ w'.heap.size) : SetIn w' lo A k L :=
  ⟨own_stand h.1 h1, fun x hx => by
    obtain ⟨q1, q2, q3, q4⟩ := h.2 x hx
    exact ⟨q1.stand h2, q2, fun b off q e => ⟨(q3 b off q e).1, Nat.lt_of_lt_of_le (q3 b off q e).2 hz⟩, q4⟩⟩
theorem SetIn.step {w w' : World} {lo : Nat} {A : Option Addr} {k : Nat} {L : List IR} (h : SetIn w lo A k L) (hb : Below w.heap.size w w') : SetIn w' lo A k L := h.stand (Stand.below hb) (Stand.below hb) hb.size
theorem SetIn.lo {w : World} {lo lo' : Nat} {A : Option Addr} {k : Nat} {L : List IR} (h : SetIn w lo A k L) (hl : lo' ≤ lo) : SetIn w lo' A k L :=
  ⟨own_baseS h.1 hl, fun x hx => by
    obtain ⟨q1, q2, q3, q4⟩ := h.2 x hx
    exact ⟨q1, newAt_le q2 hl, q3, q4⟩⟩
theorem GM.ne_cells {w : World} {b : Nat} {N S : Int → Int} (h : GM w b N S) {g : Nat} {cur : Array Value} {T : TypeId} {d : Nat × Nat} (hg : w.heap[g]? = some (.cells cur T d)) : b ≠ g := fun e => by
  obtain ⟨n, D, -, ⟨es, clock, h1, -⟩, -⟩ := h
  rw [e, hg] at h1; cases h1
/-- A step's world: one block of cells turned, of another type than items and numbers. -/
theorem GAt.cells {w w' : World} {s : St} {S : List (List It)} {gv : Option Nat} {r : Option Nat} (h : GAt w s S gv) (hg : w.grownBy w' r) (hr : ∀ g, r = some g → ∃ cur T d, w.heap[g]? = some (Obj.cells cur T d)) : GAt w' s S gv := fun hk => by
  obtain ⟨gb, h1, h2⟩ := h hk
  refine ⟨gb, h1, h2.kept hg fun e => ?_⟩
  obtain ⟨cur, T, d, hc⟩ := hr gb e.symm
  exact h2.ne_cells hc rfl
/-- A turn: what each step has more, and what it has then. -/
structure TurnAt (w : World) (lo tb vp : Nat) (Q : List SR) (dA : Option Addr) (dk : Nat) (D : List LR) (xA : Option Addr) (xk : Nat) (X : List NR) (bd bx : Value) : Prop where
  box : Blk w tb #[.pointer (some ⟨vp, 0, none⟩), bd, bx] 104
  tlo : lo ≤ tb
  hlo : lo ≤ w.heap.size
  od : w.ownsRow lo 22 1 (.slice dA D.length dk) D.length (llcells D)
  ox : w.ownsRow lo 97 2 (.slice xA X.length xk) X.length (ncells X)
  ds : ∀ y ∈ D, SetIn w lo y.A y.k y.L
  xs : ∀ y ∈ X, SetIn w lo y.A y.k y.L
  gs : ∀ j (h : j < X.length) (h2 : j < Q.length), GAt w Q[j].st (nsets X) X[j].g
abbrev boxD (A : Option Addr) (k : Nat) (D : List LR) : Value := .slice A D.length k
abbrev boxX (A : Option Addr) (k : Nat) (X : List NR) : Value := .slice A X.length k
theorem ne_T1 : 67 ≠ 22 := by decide
theorem ne_T2 : 3 ≠ 22 := by decide
theorem ne_T3 : 67 ≠ 97 := by decide
theorem ne_T4 : 3 ≠ 97 := by decide
theorem ne_T5 : 104 ≠ 22 := by decide
theorem ne_T6 : 104 ≠ 97 := by decide
theorem ne_T7 : 22 ≠ 97 := by decide
theorem ne_T8 : 67 ≠ 104 := by decide
theorem ne_T9 : 3 ≠ 104 := by decide
theorem Blk.stand {T : TypeId} {w w' : World} {b : Nat} {cs : Array Value} (h : Blk w b cs T) (hs : Stand T w w') : Blk w' b cs T := hs b cs (0, 0) h
theorem own_cells {w : World} {B n s : Nat} {T : TypeId} {v : Value} {xs : List Value} (h : w.ownsRow B T s v n xs) : ∀ g, v.ownBlock = some g → ∃ cur T d, w.heap[g]? = some (Obj.cells cur T d) := fun g e => by
  obtain ⟨cap, cur, -, h2, -⟩ := own_type h e
  exact ⟨cur, _, _, h2⟩
section
variable {w w' : World} {lo tb vp : Nat} {Q : List SR} {dA : Option Addr} {dk : Nat} {D : List LR} {xA : Option Addr} {xk : Nat} {X : List NR} {bd bx : Value}
theorem TurnAt.step (h : TurnAt w lo tb vp Q dA dk D xA xk X bd bx) (hb : Below w.heap.size w w') : TurnAt w' lo tb vp Q dA dk D xA xk X bd bx :=
  ⟨h.box.step hb, h.tlo, Nat.le_trans h.hlo hb.size, own_laterS h.od hb, own_laterS h.ox hb, fun y hy => (h.ds y hy).step hb, fun y hy => (h.xs y hy).step hb, fun j h1 h2 => (h.gs j h1 h2).step hb⟩
theorem TurnAt.alloc (h : TurnAt w lo tb vp Q dA dk D xA xk X bd bx) (o : Obj) : TurnAt (w.alloc o) lo tb vp Q dA dk D xA xk X bd bx := h.step (alloc_below (Below.refl _ _) _)
theorem TurnAt.drew (h : TurnAt w lo tb vp Q dA dk D xA xk X bd bx) : TurnAt w.drew lo tb vp Q dA dk D xA xk X bd bx := h.step (Below.refl _ _).drew
/-- One delta more. -/
theorem TurnAt.appD (h : TurnAt w lo tb vp Q dA dk D xA xk X bd bx) {y : LR} (hy : SetIn w lo y.A y.k y.L) {A' : Option Addr} {k' : Nat} (hg : w.grownBy w' (boxD dA dk D).ownBlock) (ho : w'.ownsRow lo 22 1 (.slice A' (D.length + 1) k') (D.length + 1) (llcells D ++ y.cells)) :
    TurnAt w' lo tb vp Q A' k' (D ++ [y]) xA xk X bd bx := by
  have s1 : Stand 67 w w' := Stand.ofOwn h.od ne_T1 hg
  have s2 : Stand 3 w w' := Stand.ofOwn h.od ne_T2 hg
  refine ⟨h.box.stand (Stand.ofOwn h.od ne_T5 hg), h.tlo, Nat.le_trans h.hlo hg.size, ?_, own_stand h.ox (Stand.ofOwn h.od (Ne.symm ne_T7) hg), fun z hz => ?_, fun z hz => (h.xs z hz).stand s1 s2 hg.size, fun j h1 h2 => (h.gs j h1 h2).cells hg (own_cells h.od)⟩
  · rw [List.length_append, List.length_singleton, llcells, List.flatMap_append, List.flatMap_cons, List.flatMap_nil, List.append_nil]; exact ho
  · rcases List.mem_append.1 hz with e | e
    · exact (h.ds z e).stand s1 s2 hg.size
    · rw [List.mem_singleton.1 e]; exact hy.stand s1 s2 hg.size
/-- One node more. -/
theorem TurnAt.appX (h : TurnAt w lo tb vp Q dA dk D xA xk X bd bx) {y : NR} (hy : SetIn w lo y.A y.k y.L) (hgy : ∀ h2 : X.length < Q.length, GAt w Q[X.length].st (nsets (X ++ [y])) y.g) (href : ∀ j (h2 : j < Q.length), Q[j].st.kind = 8 ∨ Q[j].st.kind = 9 → Q[j].st.a.toNat < j)
    {A' : Option Addr} {k' : Nat} (hg : w.grownBy w' (boxX xA xk X).ownBlock) (ho : w'.ownsRow lo 97 2 (.slice A' (X.length + 1) k') (X.length + 1) (ncells X ++ y.cells)) :
    TurnAt w' lo tb vp Q dA dk D A' k' (X ++ [y]) bd bx := by
  have s1 : Stand 67 w w' := Stand.ofOwn h.ox ne_T3 hg
  have s2 : Stand 3 w w' := Stand.ofOwn h.ox ne_T4 hg
  refine ⟨h.box.stand (Stand.ofOwn h.ox ne_T6 hg), h.tlo, Nat.le_trans h.hlo hg.size, own_stand h.od (Stand.ofOwn h.ox ne_T7 hg), ?_, fun z hz => (h.ds z hz).stand s1 s2 hg.size, fun z hz => ?_, fun j h1 h2 => ?_⟩
  · rw [List.length_append, List.length_singleton, ncells, List.flatMap_append, List.flatMap_cons, List.flatMap_nil, List.append_nil]; exact ho
  · rcases List.mem_append.1 hz with e | e
    · exact (h.xs z e).stand s1 s2 hg.size
    · rw [List.mem_singleton.1 e]; exact hy.stand s1 s2 hg.size
  · by_cases e : j = X.length
    · subst e
      have := (hgy h2).cells hg (own_cells h.ox)
      rwa [show (X ++ [y])[X.length] = y by simp]
    · have h3 : j < X.length := by simp at h1; omega
      have h4 := (h.gs j h3 h2).cells hg (own_cells h.ox)
      rw [List.getElem_append_left h3]
      intro hk
      have := h4 hk
      rw [nsets_at (Nat.lt_trans (href j h2 hk) h3)] at this
      rw [nsets_at (by simp; have := href j h2 hk; omega), List.getElem_append_left (Nat.lt_trans (href j h2 hk) h3)]
      exact this
/-- A cell of its box is stored. -/
theorem TurnAt.set (h : TurnAt w lo tb vp Q dA dk D xA xk X bd bx) (i : Nat) (v : Value) {bd' bx' : Value} (e : (#[.pointer (some ⟨vp, 0, none⟩), bd, bx] : Array Value).setIfInBounds i v = #[.pointer (some ⟨vp, 0, none⟩), bd', bx']) : TurnAt (w.setCell ⟨tb, i, none⟩ v) lo tb vp Q dA dk D xA xk X bd' bx' := by
  have hg : w.grownBy (w.setCell ⟨tb, i, none⟩ v) (some tb) := by
    refine ⟨rfl, rfl, rfl, by simp [World.setCell], fun k hk hne => ?_⟩
    simp only [World.setCell, Array.getElem?_modify]
    rw [if_neg (fun e => hne (by rw [e]))]
  have hb : ∀ T, T ≠ 104 → Stand T w (w.setCell ⟨tb, i, none⟩ v) := fun T hT => Stand.grown hg fun g cur d hc q => by
    injection q with q
    subst q
    have := h.box
    unfold Blk at this
    rw [hc] at this
    injection this with this
    injection this with _ this _
    exact hT this
  have hc : ∀ g, (some tb : Option Nat) = some g → ∃ cur T d, w.heap[g]? = some (Obj.cells cur T d) := fun g e => by
    injection e with e; subst e; exact ⟨_, _, _, h.box⟩
  refine ⟨(h.box.set i v).eq e, h.tlo, Nat.le_trans h.hlo hg.size, own_stand h.od (hb _ (Ne.symm ne_T5)), own_stand h.ox (hb _ (Ne.symm ne_T6)), fun y hy => (h.ds y hy).stand (hb _ ne_T8) (hb _ ne_T9) hg.size, fun y hy => (h.xs y hy).stand (hb _ ne_T8) (hb _ ne_T9) hg.size, fun j h1 h2 => (h.gs j h1 h2).cells hg hc⟩
end
/-- What stands while a step's end is under way: nothing appended yet. -/
structure RegA (W0 w : World) (lo tb vp : Nat) (Q : List SR) (dA : Option Addr) (dk : Nat) (D : List LR) (xA : Option Addr) (xk : Nat) (X : List NR) (y : LR) (z : NR) : Prop where
  t : TurnAt w lo tb vp Q dA dk D xA xk X (boxD dA dk D) (boxX xA xk X)
  bel : Below lo W0 w
  sy : SetIn w lo y.A y.k y.L
  sz : SetIn w lo z.A z.k z.L
  g : ∀ h2 : X.length < Q.length, GAt w Q[X.length].st (nsets (X ++ [z])) z.g
/-- The delta is appended. -/
structure RegB (W0 w : World) (lo tb vp : Nat) (Q : List SR) (dA : Option Addr) (dk : Nat) (D : List LR) (xA : Option Addr) (xk : Nat) (X : List NR) (y : LR) (z : NR) (A5 : Option Addr) (k5 : Nat) : Prop where
  t : TurnAt w lo tb vp Q A5 k5 (D ++ [y]) xA xk X (boxD dA dk D) (boxX xA xk X)
  bel : Below lo W0 w
  sz : SetIn w lo z.A z.k z.L
  g : ∀ h2 : X.length < Q.length, GAt w Q[X.length].st (nsets (X ++ [z])) z.g
section
variable {W0 w w' : World} {lo tb vp : Nat} {Q : List SR} {dA : Option Addr} {dk : Nat} {D : List LR} {xA : Option Addr} {xk : Nat} {X : List NR} {y : LR} {z : NR} {A5 : Option Addr} {k5 : Nat} {bd bx : Value}
theorem RegA.step (h : RegA W0 w lo tb vp Q dA dk D xA xk X y z) (hb : Below w.heap.size w w') : RegA W0 w' lo tb vp Q dA dk D xA xk X y z := ⟨h.t.step hb, h.bel.trans (hb.mono h.t.hlo), h.sy.step hb, h.sz.step hb, fun h2 => (h.g h2).step hb⟩
theorem RegB.step (h : RegB W0 w lo tb vp Q dA dk D xA xk X y z A5 k5) (hb : Below w.heap.size w w') : RegB W0 w' lo tb vp Q dA dk D xA xk X y z A5 k5 := ⟨h.t.step hb, h.bel.trans (hb.mono h.t.hlo), h.sz.step hb, fun h2 => (h.g h2).step hb⟩
theorem RegA.od (h : RegA W0 w lo tb vp Q dA dk D xA xk X y z) : w.ownsRow lo 22 1 (.slice dA D.length dk) D.length (llcells D) := h.t.od
theorem RegB.ox (h : RegB W0 w lo tb vp Q dA dk D xA xk X y z A5 k5) : w.ownsRow lo 97 2 (.slice xA X.length xk) X.length (ncells X) := h.t.ox
theorem RegA.hlo (h : RegA W0 w lo tb vp Q dA dk D xA xk X y z) : lo ≤ w.heap.size := h.t.hlo
theorem RegB.hlo (h : RegB W0 w lo tb vp Q dA dk D xA xk X y z A5 k5) : lo ≤ w.heap.size := h.t.hlo
theorem RegA.appD (h : RegA W0 w lo tb vp Q dA dk D xA xk X y z) {A' : Option Addr} {k' : Nat} (hg : w.grownBy w' (Value.slice dA D.length dk).ownBlock) (ho : w'.ownsRow lo 22 1 (.slice A' (D.length + 1) k') (D.length + 1) (llcells D ++ [.slice y.A y.L.length y.k])) :
    RegB W0 w' lo tb vp Q dA dk D xA xk X y z A' k' :=
  ⟨h.t.appD h.sy hg ho, h.bel.grown hg h.t.hlo (fun g e => (h.t.od.lt g e).1), h.sz.stand (Stand.ofOwn h.t.od ne_T1 hg) (Stand.ofOwn h.t.od ne_T2 hg) hg.size, fun h2 => (h.g h2).cells hg (own_cells h.t.od)⟩
theorem RegB.appX (h : RegB W0 w lo tb vp Q dA dk D xA xk X y z A5 k5) (href : ∀ j (h2 : j < Q.length), Q[j].st.kind = 8 ∨ Q[j].st.kind = 9 → Q[j].st.a.toNat < j) {A' : Option Addr} {k' : Nat} (hg : w.grownBy w' (Value.slice xA X.length xk).ownBlock) (ho : w'.ownsRow lo 97 2 (.slice A' (X.length + 1) k') (X.length + 1) (ncells X ++ [.slice z.A z.L.length z.k, .map z.g])) :
    TurnAt w' lo tb vp Q A5 k5 (D ++ [y]) A' k' (X ++ [z]) (boxD dA dk D) (boxX xA xk X) ∧ Below lo W0 w' := ⟨h.t.appX h.sz h.g href hg ho, h.bel.grown hg h.t.hlo (fun g e => (h.t.ox.lt g e).1)⟩
theorem TurnAt.cells' (h : TurnAt w lo tb vp Q dA dk D xA xk X bd bx) : (w.cell? ⟨tb, 0, none⟩ = some (.pointer (some ⟨vp, 0, none⟩)) ∧ w.cell? ⟨tb, 1, none⟩ = some bd ∧ w.cell? ⟨tb, 2, none⟩ = some bx) ∧ (w.frozen? ⟨tb, 1, none⟩ = false ∧ w.frozen? ⟨tb, 2, none⟩ = false) :=
  ⟨⟨by rw [h.box.cells.1 0]; rfl, by rw [h.box.cells.1 1]; rfl, by rw [h.box.cells.1 2]; rfl⟩, h.box.cells.2 1, h.box.cells.2 2⟩
theorem blkD {cs : Array Value} {b : Nat} (hd : Blk w b cs 97) (h : RegA W0 w lo tb vp Q dA dk D xA xk X y z) (hg : w.grownBy w' (Value.slice dA D.length dk).ownBlock) : Blk w' b cs 97 := hd.stand (Stand.ofOwn h.t.od (Ne.symm ne_T7) hg)
theorem blk_row {cs : Array Value} {b : Nat} {T : TypeId} (h : Blk w b cs T) : Row w w.heap.size (some ⟨b, 0, none⟩) cs.toList :=
  .inr ⟨b, 0, rfl, h.lt, fun j u hu => by rw [Nat.zero_add, h.cells.1]; simpa using hu⟩
theorem atwI {P : Program} {o : Oper} {a : Act} {K : Act → World → Prop} {Q : Exit → Act → World → Prop} {E p : Prop} [Decidable p] (w : World) (h : if p then Oper.wp P o a w K Q else E) : if p then Oper.wp P o a w K Q else E := h
end
end Go.Proofs.YtldlmkfigjicgaaGreatDoor
