/- DotN, DotO, DotP, DotQ, DotR, DotS -/
import Derived.Test.YtldlmkfigjicgaaGreatDoorCk05
import Derived.Deep.AppendLies
import Derived.Test.YtldlmkfigjicgaaGreatDoorCk01
import Derived.Deep.RegionHeld3
/- slices.Compact at Dot over a row that the call owns: the contract. -/
namespace Go.Proofs.YtldlmkfigjicgaaGreatDoor
set_option linter.unusedVariables false
open Go.ChangeShapes Go.WideShapes Go.ChangeAt Go.RowKit

def CompactPost (B : Nat) (v : Value) (l : List (Int × Int)) (w : World) (e : Ending) (w' : World) : Prop :=
  ∃ v', e = .returned v' ∧ w'.ownsRow B 78 2 v' (cpt l).length (dcells (cpt l)) ∧ w.grownBy w' v.ownBlock ∧ v'.ownBlock = v.ownBlock

theorem cpt_small (l : List (Int × Int)) (h : l.length < 2) : cpt l = l := cpt_same l fun j hj => absurd hj (by omega)

theorem dcells_take : ∀ (l : List (Int × Int)) (k : Nat), (dcells l).take (k * 2) = dcells (l.take k)
  | [], k => by simp
  | a :: l, 0 => by simp
  | a :: l, k + 1 => by
    have ih := dcells_take l k
    have e : (k + 1) * 2 = k * 2 + 1 + 1 := by omega
    simp only [dcells, List.flatMap_cons, List.take_succ_cons, e] at ih ⊢
    simpa using ih

theorem CInv.cell {l ds : List (Int × Int)} {m kk B g n cap : Nat} {w : World} {T : TypeId} (hI : CInv l m kk ds) (how : w.ownsRow B T 2 (.slice (some ⟨g, 0, none⟩) n cap) n (dcells ds)) (j a : Nat) (hj : j < l.length) (hm : m ≤ j + 1) (ha : a = j * 2) :
    ∃ r : Int × Int, l[j] = r ∧ w.cell? ⟨g, a, none⟩ = some (.int .i64 r.1) ∧ w.cell? ⟨g, a + 1, none⟩ = some (.int .i64 r.2) := by
  subst ha
  have hj2 : j < ds.length := by rw [hI.len]; exact hj
  obtain ⟨m0, m1⟩ := own_dot how hj2
  have e := hI.high j hj hj2 hm
  exact ⟨l[j], rfl, by rw [m0, e], by rw [m1, e]⟩

set_option maxHeartbeats 2000000 in
set_option maxRecDepth 100000 in
theorem compact_arr (B g cap : Nat) (l : List (Int × Int)) (w : World) (hown : w.ownsRow B 78 2 (.slice (some ⟨g, 0, none⟩) l.length cap) l.length (dcells l)) (hl : l.length ≤ 140737488355328) (hcap : l.length ≤ cap) (hcm : cap ≤ maxLen) (h2 : 2 ≤ l.length) :
    Calls Tryz.prog 117 #[.slice (some ⟨g, 0, none⟩) l.length cap] w (CompactPost B (.slice (some ⟨g, 0, none⟩) l.length cap) l w) := by
  unfold maxLen at hcm
  have HO := hid hown
  clear hown
  have d2 : decide ((l.length : Int) < 2) = false := by simp; omega
  have g1 := guard_dot
  have g2 := eql_dot
  have g3 := neq_dot
  go_enter Tryz.func117, Tryz.ntmps117
  go_wp2
  go_loopw [3] (fun s3 wr => ∃ k : Nat, 1 ≤ k ∧ k ≤ l.length ∧ s3 = .int .i64 k ∧ (∀ j (h : j + 1 < l.length), j + 1 < k → l[j + 1] ≠ l[j]) ∧ wr.ownsRow B 78 2 (.slice (some ⟨g, 0, none⟩) l.length cap) l.length (dcells l) ∧ w.grownBy wr (some g)) (fun s3 _ => l.length - (intOf s3).toNat)
  case atStart => exact ⟨1, Nat.le_refl _, by omega, rfl, fun j _ h => absurd h (by omega), HO.out, grown_refl _ _⟩
  case round =>
    obtain ⟨k, hk1, hk, rfl, hall, how, hgw⟩ := hrel
    have HA := hid hall
    have HW := hid how
    have HG := hid hgw
    by_cases hlt : k < l.length
    · obtain ⟨x0, x1⟩ := own_dot how hlt
      obtain ⟨y0, y1⟩ := own_dot how (k := k - 1) (by omega)
      clear hall how hgw
      have z1 : IntKind.i64.wrap ((k : Int) - 1) = (k : Int) - 1 := IntWalk.i64_in _ (by omega)
      have z2 : (1 : Int) ≤ (k : Int) := by omega
      have z3 : (k : Int) - 1 < (l.length : Int) := by omega
      have z4 : ((k : Int) - 1).toNat = k - 1 := by omega
      generalize hx : l[k] = x at *
      generalize hy : l[k - 1] = y at *
      have HX := hid hx
      have HY := hid hy
      clear hx hy
      obtain ⟨p0, p1⟩ := x
      obtain ⟨q0, q1⟩ := y
      simp only at x0 x1 y0 y1
      have hck : (cap = k) = False := by simp; omega
      have hck2 : (k : Int) ≤ (cap : Int) := by omega
      have hck3 : (k : Int) ≤ (l.length : Int) := by omega
      cases hd : (p0 == q0 && p1 == q1)
      · go_wp2_with fail
        refine wp_region_quiet_lit (by kernel_rfl) (by kernel_rfl) ?_
        repeat (any_goals ((with_reducible refine wpQuiet_step (fun K hK => ?_)); go_simp; first | (with_reducible refine hK _ ?_; clear hK K) | ((with_reducible apply Exists.intro); (with_reducible refine ⟨fun _ => ?_, hK _ ?_⟩); (fail); clear hK K) | ((with_reducible refine (if_neg ?_).mpr (hK _ ?_)); (decide); clear hK K) | (split <;> (with_reducible refine hK _ ?_; clear hK K))))
        all_goals ((with_reducible refine wpQuiet_nil ?_); intro _ hw'; obtain ⟨nq, hw''⟩ := hw'; subst hw'')
        go_wp2
        go_roundw
        case rel =>
          refine ⟨k + 1, by omega, by omega, by go_num, fun j h hj => ?_, HW.out, grown_drewN HG.out _⟩
          by_cases e : j + 1 = k
          · subst e
            rw [HX.out]
            intro e2
            have hy2 : l[j] = (q0, q1) := by have := HY.out; simpa using this
            rw [hy2] at e2
            injection e2 with e3 e4
            subst e3 e4
            simp at hd
          · exact HA.out j h (by omega)
        case measure => simp [intOf]; omega
      · have hxy : l[k] = l[k - 1] := by rw [HX.out, HY.out]; ext <;> simp_all
        have HXY := hid hxy
        clear hxy
        go_wp2_with fail
        refine wp_region_quiet_lit (by kernel_rfl) (by kernel_rfl) ?_
        repeat (any_goals ((with_reducible refine wpQuiet_step (fun K hK => ?_)); go_simp; first | (with_reducible refine hK _ ?_; clear hK K) | ((with_reducible apply Exists.intro); (with_reducible refine ⟨fun _ => ?_, hK _ ?_⟩); (fail); clear hK K) | ((with_reducible refine (if_neg ?_).mpr (hK _ ?_)); (decide); clear hK K) | (split <;> (with_reducible refine hK _ ?_; clear hK K))))
        all_goals ((with_reducible refine wpQuiet_nil ?_); intro _ hw'; obtain ⟨nq, hw''⟩ := hw'; subst hw'')
        go_wp2
        obtain ⟨wo, rfl⟩ : ∃ wo : World, wo = wr := ⟨_, rfl⟩
        go_loopw [3, 5] (fun s3 s5 wr => ∃ (kk k2 : Nat) (ds : List (Int × Int)), s3 = .int .i64 kk ∧ s5 = .int .i64 k2 ∧ 1 ≤ k2 ∧ k + k2 ≤ l.length ∧ CInv l (k + k2) kk ds ∧ wr.ownsRow B 78 2 (.slice (some ⟨g, 0, none⟩) l.length cap) l.length (dcells ds) ∧ w.grownBy wr (some g)) (fun _ s5 _ => l.length - (intOf s5).toNat)
        case atStart => exact ⟨k, 1, l, rfl, rfl, Nat.le_refl _, by omega, CInv.start hlt (by omega) (fun j h hj => HA.out j h hj) HXY.out, HW.out, grown_drewN HG.out _⟩
        case round =>
          obtain ⟨kk, k2, ds, rfl, rfl, h1, hle, hI, how, hgw⟩ := hrel
          have hlen := hI.len
          have hkk := hI.lt
          have HI := hid hI
          have HW2 := hid how
          have HG2 := hid hgw
          by_cases hlt2 : k + k2 < l.length
          · obtain ⟨⟨r0, r1⟩, hx2, m0, m1⟩ := hI.cell how (k + k2) (k * 2 + k2 * 2) hlt2 (by omega) (by omega)
            obtain ⟨⟨s0, s1⟩, hy2, n0, n1⟩ := hI.cell how (k + k2 - 1) (k * 2 + (k2 - 1) * 2) (by omega) (by omega) (by omega)
            have hko := own_dot how (k := kk) (by omega)
            obtain ⟨o0, o1, oc0, oc1⟩ : ∃ o0 o1 : Value, wr.cell? ⟨g, kk * 2, none⟩ = some o0 ∧ wr.cell? ⟨g, kk * 2 + 1, none⟩ = some o1 := ⟨_, _, hko.1, hko.2⟩
            have hfz := how.frozenAt (g := g)
            have f0 := hfz (kk * 2)
            have f1 := hfz (kk * 2 + 1)
            have HX2 := hid hx2
            have HY2 := hid hy2
            clear hx2 hy2 hko hfz hI how hgw
            simp only at m0 m1 n0 n1
            have z5 : IntKind.i64.wrap ((k2 : Int) - 1) = (k2 : Int) - 1 := IntWalk.i64_in _ (by omega)
            have z6 : (1 : Int) ≤ (k2 : Int) := by omega
            have z7 : (k2 : Int) < (l.length : Int) - (k : Int) := by omega
            have z9 : (k2 : Int) - 1 < ((l.length - k : Nat) : Int) := by omega
            have z10 : (k2 : Int) < ((l.length - k : Nat) : Int) := by omega
            have z8 : ((k2 : Int) - 1).toNat = k2 - 1 := by omega
            cases hd2 : (r0 == s0 && r1 == s1)
            · go_wp2_with fail
              refine wp_region_quiet_lit (by kernel_rfl) (by kernel_rfl) ?_
              repeat (any_goals ((with_reducible refine wpQuiet_step (fun K hK => ?_)); go_simp; first | (with_reducible refine hK _ ?_; clear hK K) | ((with_reducible apply Exists.intro); (with_reducible refine ⟨fun _ => ?_, hK _ ?_⟩); (fail); clear hK K) | ((with_reducible refine (if_neg ?_).mpr (hK _ ?_)); (decide); clear hK K) | (split <;> (with_reducible refine hK _ ?_; clear hK K))))
              all_goals ((with_reducible refine wpQuiet_nil ?_); intro _ hw'; obtain ⟨nq, hw''⟩ := hw'; subst hw'')
              go_wp2
              go_roundw
              case rel =>
                have hs := own_store (w := wr.drewN nq) HW2.out kk (r0, r1)
                have hne : l[k + k2] ≠ l[k + k2 - 1] := by rw [HX2.out, HY2.out]; intro e; injection e with e3 e4; subst e3 e4; simp at hd2
                have hk := HI.out.keep hlt2 (by omega) hne
                rw [HX2.out] at hk
                exact ⟨kk + 1, k2 + 1, ds.set kk (r0, r1), by go_num, by go_num, by omega, by omega, hk, hs.1, grown_trans (grown_drewN HG2.out nq) hs.2⟩
              case measure => simp [intOf]; omega
            · go_wp2_with fail
              refine wp_region_quiet_lit (by kernel_rfl) (by kernel_rfl) ?_
              repeat (any_goals ((with_reducible refine wpQuiet_step (fun K hK => ?_)); go_simp; first | (with_reducible refine hK _ ?_; clear hK K) | ((with_reducible apply Exists.intro); (with_reducible refine ⟨fun _ => ?_, hK _ ?_⟩); (fail); clear hK K) | ((with_reducible refine (if_neg ?_).mpr (hK _ ?_)); (decide); clear hK K) | (split <;> (with_reducible refine hK _ ?_; clear hK K))))
              all_goals ((with_reducible refine wpQuiet_nil ?_); intro _ hw'; obtain ⟨nq, hw''⟩ := hw'; subst hw'')
              go_wp2
              go_roundw
              case rel =>
                exact ⟨kk, k2 + 1, ds, rfl, by go_num, by omega, by omega, HI.out.skip hlt2 (by omega) (by rw [HX2.out, HY2.out]; ext <;> simp_all), HW2.out, grown_drewN HG2.out _⟩
              case measure => simp [intOf]; omega
          · have hend : k + k2 = l.length := by omega
            have hsh := own_short how (k := kk) (by omega)
            have hcl : ∀ ty, (Builtin.clear_ #[24] ty #[.slice (some ⟨g, kk * 2, none⟩) (l.length - kk) (cap - kk)]).run Tryz.prog wr = .ok (.tuple #[]) (wr.setCells g (kk * 2) (Builtin.zeroCells (Value.agg #[.int .i64 0, .int .i64 0]).cells (l.length - kk)).toList) := by
              intro ty
              refine run_clear_dot wr ty g (kk * 2) (l.length - kk) (cap - kk) (by omega) (fun j hj => ?_) (fun j _ => how.frozenAt _)
              have hj2 : kk * 2 + j < (dcells ds).length := by rw [dcells_len]; omega
              have := how.cells (g := g) rfl _ _ (List.getElem?_eq_getElem hj2)
              rw [add_none, Nat.zero_add] at this
              rw [this]; rfl
            have HE := hid hend
            have HS := hid hsh
            have HCL := hid hlen
            have kc1 : (cap = kk) = False := by simp; omega
            have kc2 : (kk : Int) ≤ (cap : Int) := by omega
            have kc3 : (kk : Int) ≤ (l.length : Int) := by omega
            clear hend hsh hI how hgw hlen
            go_wp2
            go_ret
            have hI := HI.out
            have hlow := hI.low
            rw [HE.out, List.take_length] at hlow
            have hlk : (cpt l).length = kk := by rw [← hlow, List.length_take, hI.len]; have := HE.out; omega
            have hb := own_beyond (Builtin.zeroCells (Value.agg #[.int .i64 0, .int .i64 0]).cells (l.length - kk)).toList wr (kk * 2) HS.out (Nat.le_refl _)
            rw [dcells_take, hlow] at hb
            exact ⟨_, rfl, by rw [hlk]; exact hb.1, grown_trans HG2.out hb.2, rfl⟩
    · have hkl : k = l.length := by omega
      have HK := hid hkl
      clear hkl hall how hgw
      go_wp2
      go_ret
      have e : cpt l = l := cpt_same l fun j h => HA.out j h (by have := HK.out; omega)
      exact ⟨_, rfl, by rw [e]; exact HW.out, HG.out, rfl⟩

/-- slices.Compact at Dot over a row that the call owns, nil too. -/
theorem compact_own {B : Nat} {v : Value} (l : List (Int × Int)) (w : World) (hown : w.ownsRow B 78 2 v l.length (dcells l)) (hl : l.length ≤ 140737488355328) :
    Calls Tryz.prog 117 #[v] w (CompactPost B v l w) := by
  by_cases h2 : 2 ≤ l.length
  · rcases hown.2 with ⟨rfl, h0⟩ | ⟨g, cap, cur, rfl, hb, hg, hcap, hm, hs, ht⟩
    · omega
    · exact compact_arr B g cap l w hown hl hcap hm h2
  · have d2 : decide ((l.length : Int) < 2) = true := by simp; omega
    have hv : ∃ A c, v = .slice A l.length c := by
      rcases hown.2 with ⟨rfl, h0⟩ | ⟨g, cap, cur, rfl, hb, hg, hcap, hm, hs, ht⟩
      · exact ⟨none, 0, by rw [h0]⟩
      · exact ⟨_, _, rfl⟩
    obtain ⟨A, c, rfl⟩ := hv
    have HO := hid hown
    clear hown
    go_enter Tryz.func117, Tryz.ntmps117
    go_wp2
    go_ret
    exact ⟨_, rfl, by rw [cpt_small l (by omega)]; exact HO.out, grown_refl _ _, rfl⟩
end Go.Proofs.YtldlmkfigjicgaaGreatDoor
/- dot.packed: what it computes, step by step (no program in sight but for the words), and its walk. -/
namespace Go.Proofs.YtldlmkfigjicgaaGreatDoor
set_option linter.unusedVariables false
open Go.ChangeShapes Go.WideShapes Go.ChangeAt Go.RowKit

def Ctx.inc (c : Ctx) (n : Int) : Ctx :=
  if n = 0 then { c with c0 := c.c0 + 1 } else if n = 1 then { c with c1 := c.c1 + 1 } else if n = 2 then { c with c2 := c.c2 + 1 } else { c with c3 := c.c3 + 1 }
def packStep (c : Ctx) (d : Int × Int) : Ctx :=
  if d.2 ≤ c.at_ d.1 then c else if d.2 = c.at_ d.1 + 1 then c.inc d.1 else { c with cloud := c.cloud ++ [d] }
def packL (c0 c1 c2 c3 : Int) (l : List (Int × Int)) : Ctx := (cpt (l.mergeSort dotLe)).foldl packStep ⟨c0, c1, c2, c3, []⟩

def clkIn (c : Ctx) : Prop := (0 ≤ c.c0 ∧ c.c0 ≤ 1099511627776) ∧ (0 ≤ c.c1 ∧ c.c1 ≤ 1099511627776) ∧ (0 ≤ c.c2 ∧ c.c2 ≤ 1099511627776) ∧ (0 ≤ c.c3 ∧ c.c3 ≤ 1099511627776)
theorem at_in {c : Ctx} (h : clkIn c) (n : Int) : 0 ≤ c.at_ n ∧ c.at_ n ≤ 1099511627776 := by
  obtain ⟨h0, h1, h2, h3⟩ := h
  unfold Ctx.at_
  split <;> (try split) <;> (try split) <;> omega
theorem packStep_in {c : Ctx} {d : Int × Int} (h : clkIn c) (hd : rightB d.1 d.2 = true) : clkIn (packStep c d) := by
  have hR : 0 ≤ d.1 ∧ d.1 < 4 ∧ 1 ≤ d.2 ∧ d.2 ≤ 1099511627776 := by simpa [rightB, and_assoc] using hd
  have ha := at_in h d.1
  unfold packStep
  split
  · exact h
  · split
    · obtain ⟨h0, h1, h2, h3⟩ := h
      rename_i q1 q2
      unfold Ctx.inc
      unfold Ctx.at_ at q2
      split
      · rename_i e; rw [if_pos e] at q2; exact ⟨by dsimp only; omega, h1, h2, h3⟩
      · rename_i e; rw [if_neg e] at q2
        split
        · rename_i e; rw [if_pos e] at q2; exact ⟨h0, by dsimp only; omega, h2, h3⟩
        · rename_i e; rw [if_neg e] at q2
          split
          · rename_i e; rw [if_pos e] at q2; exact ⟨h0, h1, by dsimp only; omega, h3⟩
          · rename_i e; rw [if_neg e] at q2; exact ⟨h0, h1, h2, by dsimp only; omega⟩
    · exact h

theorem cpt_mem : ∀ (l : List (Int × Int)) (d : Int × Int), d ∈ cpt l ↔ d ∈ l
  | [], d => by simp [cpt]
  | [a], d => by simp [cpt]
  | a :: b :: r, d => by
    have ih := cpt_mem (b :: r) d
    rw [cpt]
    split
    · rename_i h; subst h; rw [ih]; simp
    · simp only [List.mem_cons] at ih ⊢; rw [ih]

theorem cpt_length (l : List (Int × Int)) : (cpt l).length ≤ l.length := by
  induction l with
  | nil => simp [cpt]
  | cons a r ih =>
    cases r with
    | nil => simp [cpt]
    | cons b r => rw [cpt]; split <;> simp at ih ⊢ <;> omega

/-- The cells of a context's block, behind one more at a node's clock. -/
theorem inc_cells (c : Ctx) (n : Int) (h0 : 0 ≤ n) (h4 : n < 4) (v : Value) :
    (#[.int .i64 c.c0, .int .i64 c.c1, .int .i64 c.c2, .int .i64 c.c3, v] : Array Value).setIfInBounds n.toNat (.int .i64 (c.at_ n + 1)) = #[.int .i64 (c.inc n).c0, .int .i64 (c.inc n).c1, .int .i64 (c.inc n).c2, .int .i64 (c.inc n).c3, v] := by
  rcases (by omega : n = 0 ∨ n = 1 ∨ n = 2 ∨ n = 3) with h | h | h | h <;> subst h <;> rfl
theorem inc_cloud (c : Ctx) (n : Int) : (c.inc n).cloud = c.cloud := by
  unfold Ctx.inc
  split <;> (try split) <;> (try split) <;> rfl
theorem at_cell (c : Ctx) (n : Int) (h0 : 0 ≤ n) (h4 : n < 4) (v : Value) : (#[.int .i64 c.c0, .int .i64 c.c1, .int .i64 c.c2, .int .i64 c.c3, v] : Array Value)[n.toNat]? = some (.int .i64 (c.at_ n)) := by
  rcases (by omega : n = 0 ∨ n = 1 ∨ n = 2 ∨ n = 3) with h | h | h | h <;> subst h <;> rfl
end Go.Proofs.YtldlmkfigjicgaaGreatDoor
/- dot.packed: the walk. -/
namespace Go.Proofs.YtldlmkfigjicgaaGreatDoor
set_option linter.unusedVariables false
open Go.ChangeShapes Go.WideShapes Go.ChangeAt Go.RowKit

def CtxPost (c : Ctx) (w : World) (e : Ending) (w' : World) : Prop :=
  ∃ A k, e = .returned (cval c A k) ∧ Row w' w'.heap.size A (dcells c.cloud) ∧ Below w.heap.size w w' ∧ NewAt w.heap.size A

theorem Row.of_own {w : World} {B n c : Nat} {T : TypeId} {A : Option Addr} {xs : List Value} (h : w.ownsRow B T 2 (.slice A n c) n xs) : Row w w.heap.size A xs := by
  rcases h.2 with ⟨h', h0⟩ | ⟨g, cap, cur, h', hb, hg, hnc, hcm, hcs, htake⟩
  · have : xs = [] := List.eq_nil_of_length_eq_zero (by rw [h.1, h0])
    exact .inl this
  · injection h' with h1 h2 h3
    subst h1
    have hlt : g < w.heap.size := by
      rcases Nat.lt_or_ge g w.heap.size with h | h
      · exact h
      · rw [Array.getElem?_eq_none h] at hg; cases hg
    refine .inr ⟨g, 0, rfl, hlt, fun j u hu => ?_⟩
    have := h.cells (g := g) rfl j u hu
    rwa [add_none] at this

theorem own_form {w : World} {B n : Nat} {T : TypeId} {v : Value} {xs : List Value} (h : w.ownsRow B T 2 v n xs) : ∃ A c, v = .slice A n c := by
  rcases h.2 with ⟨rfl, rfl⟩ | ⟨g, cap, cur, rfl, _⟩
  · exact ⟨none, 0, rfl⟩
  · exact ⟨_, _, rfl⟩

theorem own_new {w : World} {B B' n c : Nat} {T : TypeId} {A : Option Addr} {xs : List Value} (h : w.ownsRow B T 2 (.slice A n c) n xs) (hB : B' ≤ B) : NewAt B' A := by
  intro b off q e
  subst e
  exact Nat.le_trans hB (h.lt b (by
    rcases h.2 with ⟨h', _⟩ | ⟨g, cap, cur, h', _⟩
    · cases h'
    · injection h' with h1; injection h1 with h1; injection h1 with h1 h2 h3; subst h1 h2 h3; rfl)).1

theorem Row.setCell_new {w : World} {B lo : Nat} {A : Option Addr} {xs : List Value} (h : Row w B A xs) (hn : NewAt lo A) {a : Addr} (ha : a.block < lo) (v : Value) : Row (w.setCell a v) B A xs := by
  rcases h with h | ⟨b, off, h1, h2, h3⟩
  · exact .inl h
  · have hb := hn b off none h1
    refine .inr ⟨b, off, h1, h2, fun j u hu => ?_⟩
    rw [← h3 j u hu]
    unfold World.cell?
    rw [Below.heap_setCell w a v b (by omega)]

theorem Row.of_own_lt {w : World} {B n c P : Nat} {T : TypeId} {A : Option Addr} {xs : List Value} (h : w.ownsRow B T 2 (.slice A n c) n xs) (hlt : ∀ g, (Value.slice A n c).ownBlock = some g → g < P) : Row w P A xs := by
  rcases Row.of_own h with h1 | ⟨b, off, h1, h2, h3⟩
  · exact .inl h1
  · subst h1
    exact .inr ⟨b, off, rfl, hlt b rfl, h3⟩

theorem news_new (w : World) (n s : Int) (T : TypeId) (H : Nat) (hH : w.heap.size = H) : ∀ j u, (dcells [(n, s)])[j]? = some u → (w.alloc (.cells #[.int .i64 n, .int .i64 s] T)).cell? ((⟨H, 0, none⟩ : Addr).add j) = some u := by
  intro j u hu
  subst hH
  rw [add_none, Nat.zero_add, cell_of_row _ _ j _ _ _ (heap_alloc_new w _)]
  simpa using hu

set_option maxHeartbeats 2000000 in
set_option maxRecDepth 100000 in
theorem packed_any (c0 c1 c2 c3 : Int) (l : List (Int × Int)) (A : Option Addr) (k0 : Nat) (w : World) (hr : Row w w.heap.size A (dcells l)) (hl : l.length ≤ 4096) (hc : clkIn ⟨c0, c1, c2, c3, []⟩) (hright : ∀ d ∈ l, rightB d.1 d.2 = true) :
    Calls Tryz.prog 97 #[clkv c0 c1 c2 c3, .slice A l.length k0] w (CtxPost (packL c0 c1 c2 c3 l) w) := by
  have HC := hid hc
  have HRT := hid hright
  have hr2 : Row ((w.alloc (.cells #[.int .i64 c0, .int .i64 c1, .int .i64 c2, .int .i64 c3] 23)).alloc (.cells #[.int .i64 0, .int .i64 0, .int .i64 0, .int .i64 0, .slice none 0 0] 26)) (w.heap.size + 2) A (dcells l) :=
    (hr.below (Below.alloc (Below.alloc (Below.refl _ _) (Nat.le_refl _) _) (by simp) _) (Nat.le_refl _)).more (by omega)
  have HR2 := hid hr2
  clear hc hright hr hr2
  obtain ⟨i0, hi0, hz0, hz1, hz2⟩ := info_parts info_dot
  simp only [clkv] at *
  go_enter Tryz.func97, Tryz.ntmps97
  go_wp2_with fail
  refine (clone_any l A k0 _ (by simpa using HR2.out) (by omega)).mono ?_
  rintro e w1 ⟨v1, rfl, hown1, hb1⟩
  simp at hown1 hb1
  go_wp2_with fail
  refine (sort_own l _ hown1 (by omega)).mono ?_
  rintro e w2 ⟨rfl, hown2, hg2⟩
  have b2 := hb1.grown hg2 (by have := hb1.size; simp at this; omega) (fun g hg => (hown1.lt g hg).1)
  have hlt1 : ∀ g, v1.ownBlock = some g → g < w2.heap.size := fun g hg => Nat.lt_of_lt_of_le (hown1.lt g hg).2 hg2.size
  have hs2 : w.heap.size + 1 + 1 ≤ w2.heap.size := by have := b2.size; simp at this; omega
  have k0 : w2.cell? ⟨w.heap.size, 0, none⟩ = some (.int .i64 c0) := by rw [(bcell b2).1 _ _ (by omega)]; simp [go_sem]
  have k1 : w2.cell? ⟨w.heap.size, 1, none⟩ = some (.int .i64 c1) := by rw [(bcell b2).1 _ _ (by omega)]; simp [go_sem]
  have k2 : w2.cell? ⟨w.heap.size, 2, none⟩ = some (.int .i64 c2) := by rw [(bcell b2).1 _ _ (by omega)]; simp [go_sem]
  have k3 : w2.cell? ⟨w.heap.size, 3, none⟩ = some (.int .i64 c3) := by rw [(bcell b2).1 _ _ (by omega)]; simp [go_sem]
  have hsl : (l.mergeSort dotLe).length = l.length := by simp
  rw [← hsl] at hown2
  have B2 := hid b2
  have H2 := hid hown2
  have HL1 := hid hlt1
  have HO1 := hid hown1
  clear b2 hown2 hb1 hg2 hown1 hlt1
  go_wp2_with fail
  refine (compact_own (l.mergeSort dotLe) _ (H2.out.alloc _) (by omega)).mono ?_
  rintro e w4 ⟨v2, rfl, hown4, hg4, hv2⟩
  obtain ⟨A2, k4, rfl⟩ := own_form hown4
  clear k0 k1 k2 k3
  have hmr : ∀ d ∈ cpt (l.mergeSort dotLe), rightB d.1 d.2 = true := fun d hd => HRT.out d (List.mem_mergeSort.1 ((cpt_mem _ _).1 hd))
  have hml : (cpt (l.mergeSort dotLe)).length ≤ 4096 := by have := cpt_length (l.mergeSort dotLe); omega
  have hpk : packL c0 c1 c2 c3 l = (cpt (l.mergeSort dotLe)).foldl packStep ⟨c0, c1, c2, c3, []⟩ := rfl
  rw [hpk]
  generalize cpt (l.mergeSort dotLe) = m at *
  have hrow : Row w4 w2.heap.size A2 (dcells m) := Row.of_own_lt hown4 (fun g hg => HL1.out g (by rw [hv2] at hg; exact hg))
  have hPne : some w2.heap.size ≠ v1.ownBlock := fun e => by have := HL1.out _ e.symm; omega
  have hP4 : w4.heap[w2.heap.size]? = some (.cells #[.int .i64 c0, .int .i64 c1, .int .i64 c2, .int .i64 c3, .slice none 0 0] 26 (0, 0)) :=
    (hg4.block w2.heap.size (by simp) hPne).trans (heap_alloc_new w2 _)
  have hb4 : Below w.heap.size w w4 := (Below.trans (b := (w.alloc _).alloc _) (by (repeat' (first | (with_reducible exact Below.refl _ _) | (with_reducible assumption) | (with_reducible refine below_drewN ?_ _) | (with_reducible refine Below.drew ?_) | (with_reducible refine Below.alloc ?_ ?_ _) | (with_reducible refine Below.setCell ?_ ?_ _) | (refine Below.trans ?_ (Below.mono (by assumption) ?_)) | go_size))) (B2.out.mono (by omega))).trans
    (((Below.refl w.heap.size w2).alloc (by omega) _).grown hg4 (by simp; omega) (fun g hg => by have := (HO1.out.lt g hg).1; omega))
  have hsz4 : w2.heap.size < w4.heap.size := by have := hg4.size; simp at this; omega
  have HP4 := hid hP4
  have HPK := hid hpk
  have HB4 := hid hb4
  have HROW := hid hrow
  have HMR := hid hmr
  have hr4 : w4.heap[w.heap.size + 1]? = some (.cells #[.int .i64 0, .int .i64 0, .int .i64 0, .int .i64 0, .slice none 0 0] 26 (0, 0)) := by
    refine (hg4.block (w.heap.size + 1) (by simp; omega) (fun e => by have := (HO1.out.lt _ e.symm).1; omega)).trans ?_
    refine (Below.heap_alloc w2 _ _ (by omega)).trans ?_
    refine (B2.out.block _ (by omega)).trans ?_
    have := heap_alloc_new (w.alloc (.cells #[.int .i64 c0, .int .i64 c1, .int .i64 c2, .int .i64 c3] 23)) (.cells #[.int .i64 0, .int .i64 0, .int .i64 0, .int .i64 0, .slice none 0 0] 26)
    simpa using this
  have HR4 := hid hr4
  clear hr4 hmr hpk hrow hPne hP4 hb4 hown4 hg4 hv2 hsl
  go_wp2
  generalize hPe : w2.heap.size = P at *
  clear hPe
  go_loopw [18] (fun s18 wr => ∃ (k kk : Nat) (c : Ctx) (A' : Option Addr), k ≤ m.length ∧ s18 = .int .i64 k ∧ c = (m.take k).foldl packStep ⟨c0, c1, c2, c3, []⟩ ∧ clkIn c ∧ c.cloud.length ≤ k ∧
      wr.heap[P]? = some (.cells #[.int .i64 c.c0, .int .i64 c.c1, .int .i64 c.c2, .int .i64 c.c3, .slice A' c.cloud.length kk] 26 (0, 0)) ∧
      wr.ownsRow (P + 1) 78 2 (.slice A' c.cloud.length kk) c.cloud.length (dcells c.cloud) ∧ Below P w4 wr ∧ P < wr.heap.size) (fun s18 _ => m.length - (intOf s18).toNat)
  case atStart => exact ⟨0, 0, ⟨c0, c1, c2, c3, []⟩, none, by omega, rfl, by simp, HC.out, by simp, HP4.out, World.ownsRow_nil _ _ _ _, Below.refl _ _, hsz4⟩
  case round =>
    obtain ⟨k, kk, c, A', hk, rfl, hce, hcin, hcl, hP, how, hbw, hszr⟩ := hrel
    have HCE := hid hce
    have HP := hid hP
    have HOW := hid how
    have HBW := hid hbw
    by_cases hlt : k < m.length
    · obtain ⟨b, off, rfl, hb, h0, h1⟩ := (HROW.out.below hbw (Nat.le_refl _)).dot hlt
      have hrt := HMR.out m[k] (List.getElem_mem _)
      have htk := List.take_succ_eq_append_getElem hlt
      generalize hd : m[k] = d at *
      obtain ⟨n, s⟩ := d
      have hR : 0 ≤ n ∧ n < 4 ∧ 1 ≤ s ∧ s ≤ 1099511627776 := by simpa [rightB, and_assoc] using hrt
      obtain ⟨n0, n4, s0, s1⟩ := hR
      have en : wr.cell? ⟨P, n.toNat, none⟩ = some (.int .i64 (c.at_ n)) := by rw [cell_of_row wr P n.toNat _ _ _ hP, at_cell c n n0 n4]
      have fn : wr.frozen? ⟨P, n.toNat, none⟩ = false := by simp [World.frozen?, hP]
      have e4 : wr.cell? ⟨P, 4, none⟩ = some (.slice A' c.cloud.length kk) := by rw [cell_of_row wr P 4 _ _ _ hP]; rfl
      have f4 : wr.frozen? ⟨P, 4, none⟩ = false := by simp [World.frozen?, hP]
      have ha := at_in hcin n
      have HTK := hid htk
      have HCIN := hid hcin
      have HST := hid (packStep_in hcin hrt)
      clear hce hcin hP how hbw hd hrt htk
      obtain ⟨a0, a1⟩ := ha
      have hb2 : b < wr.heap.size := by omega
      have hb3 : b < wr.heap.size + 1 := by omega
      have hne1 : (P = wr.heap.size) = False := by simp; omega
      have zw : IntKind.i64.wrap (c.at_ n + 1) = c.at_ n + 1 := IntWalk.i64_in _ (by omega)
      simp only at h0 h1
      generalize hat : c.at_ n = a at *
      have HAT := hid hat
      clear hat
      by_cases q1 : s ≤ a
      · go_wp2
        go_roundw
        case rel =>
          refine ⟨k + 1, kk, c, A', by omega, by go_num, ?_, HCIN.out, by omega, (Below.heap_alloc wr _ P hszr).trans HP.out, HOW.out.alloc _, by have := HBW.out; (repeat' (first | (with_reducible exact Below.refl _ _) | (with_reducible assumption) | (with_reducible refine below_drewN ?_ _) | (with_reducible refine Below.drew ?_) | (with_reducible refine Below.alloc ?_ ?_ _) | (with_reducible refine Below.setCell ?_ ?_ _) | (refine Below.trans ?_ (Below.mono (by assumption) ?_)) | go_size)), by simp; omega⟩
          rw [HTK.out, List.foldl_append, ← HCE.out]
          simp only [List.foldl_cons, List.foldl_nil, packStep]
          rw [if_pos (by rw [HAT.out]; exact q1)]
        case measure => simp [intOf]; omega
      · by_cases q2 : s = a + 1
        · have q3 : (s == a + 1) = true := by simp [q2]
          have Q2 := hid q2
          have q4 : ¬ (s ≤ a) := q1
          clear q2
          go_wp2
          go_roundw
          case rel =>
            refine ⟨k + 1, kk, c.inc n, A', by omega, by go_num, ?_, ?_, by rw [inc_cloud]; omega, ?_, ?_, ?_, by simp; omega⟩
            · rw [HTK.out, List.foldl_append, ← HCE.out]
              simp only [List.foldl_cons, List.foldl_nil, packStep]
              rw [if_neg (by rw [HAT.out]; exact q4), if_pos (by rw [HAT.out]; exact Q2.out)]
            · have := HST.out
              simp only [packStep] at this
              rwa [if_neg (by rw [HAT.out]; exact q4), if_pos (by rw [HAT.out]; exact Q2.out)] at this
            · have e := heap_setCell_same wr P n.toNat _ _ (.int .i64 (a + 1)) HP.out
              have e2 := inc_cells c n n0 n4 (.slice A' c.cloud.length kk)
              rw [HAT.out] at e2
              rw [e2] at e
              rw [inc_cloud]
              exact (Below.heap_alloc _ _ P (by simp; omega)).trans e
            · rw [inc_cloud]
              exact (ownsRow_setCell_below HOW.out (Nat.lt_succ_self P) _).alloc _
            · have := HBW.out
              (repeat' (first | (with_reducible exact Below.refl _ _) | (with_reducible assumption) | (with_reducible refine below_drewN ?_ _) | (with_reducible refine Below.drew ?_) | (with_reducible refine Below.alloc ?_ ?_ _) | (with_reducible refine Below.setCell ?_ ?_ _) | (refine Below.trans ?_ (Below.mono (by assumption) ?_)) | go_size))
          case measure => simp [intOf]; omega
        · have q3 : (s == a + 1) = false := by simp [q2]
          clear q2
          have hob : ∀ g, (Value.slice A' c.cloud.length kk).ownBlock = some g → P + 1 ≤ g := fun g hg => (HOW.out.lt g hg).1
          have HOB := hid hob
          clear hob
          go_wp2_with (at_builtin; refine wpList_append_lies _ rfl _ _ 24 rfl (P + 1) 78 i0 _ 2 16 Tryz.underlying24 hi0 hz0 hz1 hz2 rfl (by decide) (.slice A' c.cloud.length kk) c.cloud.length (dcells c.cloud) rfl ((HOW.out.alloc _).alloc _) ⟨wr.heap.size + 1, 0, none⟩ 1 1 (dcells [(n, s)]) rfl rfl (news_new _ n s _ _ (by simp)) (dcells_one _) (by decide) ?_ ?_ ?_ (wr.heap.size + 1 + 1) (by simp) ?_; rotate_right; intro g5 cap5 w5 hown5 hg5 hat5 hlt5; have hP5 := (hg5.block P (by simp; omega) (fun e => by have := HOB.out _ e.symm; omega)).trans ((Below.heap_alloc _ _ P (by simp; omega)).trans ((Below.heap_alloc wr _ P hszr).trans HP.out)); have e5 : w5.cell? ⟨P, 4, none⟩ = some (.slice A' c.cloud.length kk) := (cell_of_row w5 P 4 _ _ _ hP5).trans rfl; have f5 : w5.frozen? ⟨P, 4, none⟩ = false := frozen_of_row w5 P 4 _ _ hP5; have HP5 := hid hP5; clear hP5; rotate_left; (simp only [maxLen]; omega); (omega); (simp; omega))
          go_roundw
          case rel =>
            have e5 := heap_setCell_same w5 P 4 _ _ (.slice (some ⟨g5, 0, none⟩) (c.cloud.length + 1) cap5) HP5.out
            refine ⟨k + 1, cap5, { c with cloud := c.cloud ++ [(n, s)] }, some ⟨g5, 0, none⟩, by omega, by go_num, ?_, HCIN.out, by simp; omega, ?_, ?_, ?_, ?_⟩
            · rw [HTK.out, List.foldl_append, ← HCE.out]
              simp only [List.foldl_cons, List.foldl_nil, packStep]
              rw [if_neg (by rw [HAT.out]; exact q1), if_neg (by rw [HAT.out]; simpa using q3)]
            · simpa using e5
            · have e6 := ownsRow_setCell_below hown5 (a := ⟨P, 4, none⟩) (Nat.lt_succ_self P) (.slice (some ⟨g5, 0, none⟩) (c.cloud.length + 1) cap5)
              simpa [dcells] using e6
            · have hB := HBW.out
              have hB5 : Below P w4 w5 := (((hB.alloc (by omega) _).alloc (by simp; omega) _).grown hg5 (by simp; omega) (fun g hg => by have := HOB.out g hg; omega))
              exact hB5.setCell (Nat.le_refl _) _
            · have := hg5.size; simp at this ⊢; omega
          case measure => simp [intOf]; omega
    · have hkm : k = m.length := by omega
      have hfin : c = m.foldl packStep ⟨c0, c1, c2, c3, []⟩ := by rw [hce, hkm, List.take_length]
      have HF := hid hfin
      have e0 : wr.cell? ⟨P, 0, none⟩ = some (.int .i64 c.c0) := (cell_of_row wr P 0 _ _ _ hP).trans rfl
      have e1 : wr.cell? ⟨P, 1, none⟩ = some (.int .i64 c.c1) := (cell_of_row wr P 1 _ _ _ hP).trans rfl
      have e2 : wr.cell? ⟨P, 2, none⟩ = some (.int .i64 c.c2) := (cell_of_row wr P 2 _ _ _ hP).trans rfl
      have e3 : wr.cell? ⟨P, 3, none⟩ = some (.int .i64 c.c3) := (cell_of_row wr P 3 _ _ _ hP).trans rfl
      have e4 : wr.cell? ⟨P, 4, none⟩ = some (.slice A' c.cloud.length kk) := (cell_of_row wr P 4 _ _ _ hP).trans rfl
      have hR := (hbw.block (w.heap.size + 1) (by omega)).trans HR4.out
      have r0 : wr.cell? ⟨w.heap.size + 1, 0, none⟩ = some (.int .i64 0) := (cell_of_row wr _ 0 _ _ _ hR).trans rfl
      have r1 : wr.cell? ⟨w.heap.size + 1, 1, none⟩ = some (.int .i64 0) := (cell_of_row wr _ 1 _ _ _ hR).trans rfl
      have r2 : wr.cell? ⟨w.heap.size + 1, 2, none⟩ = some (.int .i64 0) := (cell_of_row wr _ 2 _ _ _ hR).trans rfl
      have r3 : wr.cell? ⟨w.heap.size + 1, 3, none⟩ = some (.int .i64 0) := (cell_of_row wr _ 3 _ _ _ hR).trans rfl
      have r4 : wr.cell? ⟨w.heap.size + 1, 4, none⟩ = some (.slice none 0 0) := (cell_of_row wr _ 4 _ _ _ hR).trans rfl
      have f0 := fun j => frozen_of_row wr (w.heap.size + 1) j _ _ hR
      have HRR := hid hR
      clear hce hkm hfin hcin hP how hbw hR
      go_wp2
      have hq := HPK.out.trans HF.out.symm
      have hle : w.heap.size + 1 < P + 1 := by omega
      have hle2 : w.heap.size ≤ w.heap.size + 1 := by omega
      have hW := heap_setCell_same _ (w.heap.size + 1) 4 _ _ (.slice A' c.cloud.length kk) (heap_setCell_same _ (w.heap.size + 1) 3 _ _ (.int .i64 c.c3) (heap_setCell_same _ (w.heap.size + 1) 2 _ _ (.int .i64 c.c2) (heap_setCell_same _ (w.heap.size + 1) 1 _ _ (.int .i64 c.c1) (heap_setCell_same wr (w.heap.size + 1) 0 _ _ (.int .i64 c.c0) HRR.out))))
      have hO := ownsRow_setCell_below (ownsRow_setCell_below (ownsRow_setCell_below (ownsRow_setCell_below (ownsRow_setCell_below HOW.out (a := ⟨w.heap.size + 1, 0, none⟩) hle (.int .i64 c.c0)) (a := ⟨w.heap.size + 1, 1, none⟩) hle (.int .i64 c.c1)) (a := ⟨w.heap.size + 1, 2, none⟩) hle (.int .i64 c.c2)) (a := ⟨w.heap.size + 1, 3, none⟩) hle (.int .i64 c.c3)) (a := ⟨w.heap.size + 1, 4, none⟩) hle (.slice A' c.cloud.length kk)
      have hB := ((((((HB4.out.trans (HBW.out.mono (by omega))).setCell (p := ⟨w.heap.size + 1, 0, none⟩) hle2 (.int .i64 c.c0)).setCell (p := ⟨w.heap.size + 1, 1, none⟩) hle2 (.int .i64 c.c1)).setCell (p := ⟨w.heap.size + 1, 2, none⟩) hle2 (.int .i64 c.c2)).setCell (p := ⟨w.heap.size + 1, 3, none⟩) hle2 (.int .i64 c.c3)).setCell (p := ⟨w.heap.size + 1, 4, none⟩) hle2 (.slice A' c.cloud.length kk))
      generalize ((((wr.setCell ⟨w.heap.size + 1, 0, none⟩ (.int .i64 c.c0)).setCell ⟨w.heap.size + 1, 1, none⟩ (.int .i64 c.c1)).setCell ⟨w.heap.size + 1, 2, none⟩ (.int .i64 c.c2)).setCell ⟨w.heap.size + 1, 3, none⟩ (.int .i64 c.c3)).setCell ⟨w.heap.size + 1, 4, none⟩ (.slice A' c.cloud.length kk) = W5 at *
      have q0 : W5.cell? ⟨w.heap.size + 1, 0, none⟩ = some (.int .i64 c.c0) := (cell_of_row W5 _ 0 _ _ _ hW).trans rfl
      have q1 : W5.cell? ⟨w.heap.size + 1, 1, none⟩ = some (.int .i64 c.c1) := (cell_of_row W5 _ 1 _ _ _ hW).trans rfl
      have q2 : W5.cell? ⟨w.heap.size + 1, 2, none⟩ = some (.int .i64 c.c2) := (cell_of_row W5 _ 2 _ _ _ hW).trans rfl
      have q3 : W5.cell? ⟨w.heap.size + 1, 3, none⟩ = some (.int .i64 c.c3) := (cell_of_row W5 _ 3 _ _ _ hW).trans rfl
      have q4 : W5.cell? ⟨w.heap.size + 1, 4, none⟩ = some (.slice A' c.cloud.length kk) := (cell_of_row W5 _ 4 _ _ _ hW).trans rfl
      refine bodyPost_ret (v := cval c A' kk) (by simp [results, Tryz.results97, go_sem, q0, q1, q2, q3, q4]) rfl ⟨A', kk, by rw [hq], ?_, hB, own_new hO (by omega)⟩
      rw [hq]
      exact Row.of_own hO
end Go.Proofs.YtldlmkfigjicgaaGreatDoor
/- viewref.Packed: what it computes is what dot.packed computes. No program in sight. -/
namespace Go.Proofs.YtldlmkfigjicgaaGreatDoor
set_option linter.unusedVariables false

def refStep (c : Ctx) (d : Int × Int) : Ctx :=
  if hasB c d = true then c else if d.2 = c.at_ d.1 + 1 then c.inc d.1 else { c with cloud := c.cloud ++ [d] }

theorem before_total (a b : Int × Int) (h1 : before a b = false) (h2 : before b a = false) : a = b := by
  simp [before] at h1 h2
  ext <;> omega
theorem dotLe_trans (a b c : Int × Int) (h1 : dotLe a b = true) (h2 : dotLe b c = true) : dotLe a c = true := by
  simp [dotLe, before] at *
  omega
theorem dotLe_total (a b : Int × Int) : (dotLe a b || dotLe b a) = true := by
  simp [dotLe, before]
  omega
theorem sorted_sort (l : List (Int × Int)) : (l.mergeSort dotLe).Pairwise (fun a b => dotLe a b = true) := List.pairwise_mergeSort dotLe_trans dotLe_total l

theorem sorted_eq {l m : List (Int × Int)} (hp : l.Perm m) (hl : l.Pairwise (fun a b => dotLe a b = true)) (hm : m.Pairwise (fun a b => dotLe a b = true)) : l = m :=
  hp.eq_of_pairwise (le := fun a b => dotLe a b = true) (fun a b _ _ h1 h2 => by
    simp only [dotLe, Bool.not_eq_true'] at h1 h2
    exact (before_total a b h2 h1)) hl hm

theorem sort_min {l : List (Int × Int)} {k : Nat} (hk : k < l.length) (hmin : ∀ x ∈ l, before x l[k] = false) : l.mergeSort dotLe = l[k] :: (l.take k ++ l.drop (k + 1)).mergeSort dotLe := by
  apply sorted_eq
  · refine (List.mergeSort_perm _ _).trans ?_
    have h : l.Perm (l[k] :: (l.take k ++ l.drop (k + 1))) := by
      have e : l = l.take k ++ l[k] :: l.drop (k + 1) := by rw [← List.drop_eq_getElem_cons hk, List.take_append_drop]
      conv => lhs; rw [e]
      exact List.perm_middle
    exact h.trans ((List.mergeSort_perm _ _).symm.cons _)
  · exact sorted_sort l
  · refine List.pairwise_cons.2 ⟨fun x hx => ?_, sorted_sort _⟩
    have hx2 : x ∈ l := by
      have := (List.mem_mergeSort.1 hx)
      rcases List.mem_append.1 this with h | h
      · exact List.mem_of_mem_take h
      · exact List.mem_of_mem_drop h
    simp [dotLe, hmin x hx2]

theorem has_inc {c : Ctx} {n : Int} (h0 : 0 ≤ n) (h4 : n < 4) : (c.inc n).at_ n = c.at_ n + 1 := by
  rcases (by omega : n = 0 ∨ n = 1 ∨ n = 2 ∨ n = 3) with h | h | h | h <;> subst h <;> simp [Ctx.inc, Ctx.at_]

theorem refStep_has {c : Ctx} {d : Int × Int} (hd : rightB d.1 d.2 = true) : hasB (refStep c d) d = true := by
  have hR : 0 ≤ d.1 ∧ d.1 < 4 ∧ 1 ≤ d.2 ∧ d.2 ≤ 1099511627776 := by simpa [rightB, and_assoc] using hd
  unfold refStep
  split
  · assumption
  · split
    · rename_i h
      rw [hasB, decide_eq_true_eq]
      exact Or.inl ⟨hR.1, hR.2.1, hR.2.2.1, by rw [has_inc hR.1 hR.2.1]; omega⟩
    · simp [hasB, Ctx.has]

theorem refStep_same {c : Ctx} {d : Int × Int} (h : hasB c d = true) : refStep c d = c := by simp [refStep, h]

theorem ref_pack {c : Ctx} {d : Int × Int} (hd : rightB d.1 d.2 = true) (hn : d ∉ c.cloud) : refStep c d = packStep c d := by
  have hR : 0 ≤ d.1 ∧ d.1 < 4 ∧ 1 ≤ d.2 ∧ d.2 ≤ 1099511627776 := by simpa [rightB, and_assoc] using hd
  unfold refStep packStep
  by_cases h : d.2 ≤ c.at_ d.1
  · rw [if_pos (by simp [hasB, Ctx.has, h, hR]), if_pos h]
  · rw [if_neg (by simp [hasB, Ctx.has, hn]; omega), if_neg h]

theorem pack_cloud {c : Ctx} {d x : Int × Int} (h : x ∈ (packStep c d).cloud) : x ∈ c.cloud ∨ x = d := by
  unfold packStep at h
  split at h
  · exact .inl h
  · split at h
    · rw [inc_cloud] at h; exact .inl h
    · simpa using h

theorem ref_fold : ∀ (l : List (Int × Int)) (c : Ctx), l.Pairwise (fun a b => dotLe a b = true) → (∀ d ∈ l, rightB d.1 d.2 = true) → (∀ x ∈ c.cloud, ∀ d ∈ l, before x d = true) → l.foldl refStep c = (cpt l).foldl packStep c
  | [], c, _, _, _ => rfl
  | [a], c, _, hr, hc => by
    simp only [cpt, List.foldl_cons, List.foldl_nil]
    exact ref_pack (hr a (by simp)) fun h => by have := hc a h a (by simp); simp [before] at this
  | a :: b :: r, c, hs, hr, hc => by
    have hs2 := (List.pairwise_cons.1 hs).2
    have hna : a ∉ c.cloud := fun h => by have := hc a h a (by simp); simp [before] at this
    rw [cpt]
    split
    · rename_i e
      subst e
      rw [← ref_fold (a :: r) c hs2 (fun d hd => hr d (List.mem_cons_of_mem _ hd)) (fun x hx d hd => hc x hx d (List.mem_cons_of_mem _ hd))]
      simp only [List.foldl_cons]
      rw [refStep_same (c := refStep c a) (refStep_has (hr a (by simp)))]
    · rename_i e
      rw [List.foldl_cons, List.foldl_cons, ref_pack (hr a (by simp)) hna]
      refine ref_fold (b :: r) _ hs2 (fun d hd => hr d (List.mem_cons_of_mem _ hd)) fun x hx d hd => ?_
      rcases pack_cloud hx with h | h
      · exact hc x h d (List.mem_cons_of_mem _ hd)
      · subst h
        have h1 := (List.pairwise_cons.1 hs).1 b (by simp)
        have h2 : dotLe b d = true := by
          rcases List.mem_cons.1 hd with h | h
          · subst h; simp [dotLe, before]
          · exact (List.pairwise_cons.1 hs2).1 d h
        have h3 : before x b = true := by
          cases hq : before x b
          · simp only [dotLe, Bool.not_eq_true'] at h1
            exact absurd (before_total x b hq h1) e
          · rfl
        simp [dotLe, before] at h2 h3 ⊢
        omega

/-- The selection's order and the sort's give one context. -/
theorem ref_packL (c0 c1 c2 c3 : Int) (l : List (Int × Int)) (hr : ∀ d ∈ l, rightB d.1 d.2 = true) : (l.mergeSort dotLe).foldl refStep ⟨c0, c1, c2, c3, []⟩ = packL c0 c1 c2 c3 l :=
  ref_fold _ _ (sorted_sort l) (fun d hd => hr d (List.mem_mergeSort.1 hd)) (fun x hx => by simp at hx)
end Go.Proofs.YtldlmkfigjicgaaGreatDoor
/- viewref.Packed: the walk. -/
namespace Go.Proofs.YtldlmkfigjicgaaGreatDoor
set_option linter.unusedVariables false
open Go.ChangeShapes Go.WideShapes Go.ChangeAt Go.RowKit

/-- The law of append, at a step of a region that draws its order. -/
theorem step_own {P : Program} {w : World} {ops : Array Oper} {o : Oper} {a : Act} {K : Act → World → Prop} {Q : Exit → Act → World → Prop} {E : Prop} (hgd : o.guard = none) (s x : Operand) (t : TypeId)
    (ho : o.op = .call { callee := .builtin .append, args := #[s, x], argTypes := #[t, t] })
    (base : Nat) (e : TypeId) (i : TypeInfo) (z : Value) (size bytes : Nat) (ht : P.underlying t = some (.slice e)) (hi : P.info? e = some i) (hz : i.zero = some z)
    (hsize : i.size = size) (hby : i.bytes = bytes) (hzs : z.cells.size = size) (hsz : 0 < size)
    (v : Value) (n : Nat) (xs : List Value) (hs : a.eval s = v) (hown : w.ownsRow base e size v n xs)
    (ad : Addr) (m c : Nat) (news : List Value) (hx : a.eval x = .slice (some ad) m c) (hl : news.length = m * size) (hnews : ∀ j u, news[j]? = some u → w.cell? (ad.add j) = some u) (h1 : ∀ u ∈ news, u.oneCell' = true)
    (h63 : n + m ≤ maxLen) (hbytes : (n + m) * bytes ≤ 140737488355328) (hbase : base ≤ w.heap.size)
    (h : ∀ v' w', w'.ownsRow base e size v' (n + m) (xs ++ news) → w.grownBy w' v.ownBlock → (v' = .slice none 0 0 ↔ v = .slice none 0 0 ∧ m = 0) → K (a.put o.dst v') w') :
    if Region.wanted o (yielded ops a.tmps) = true then Oper.wp P o a w K Q else E := by
  have hw : Region.wanted o (yielded ops a.tmps) = true := by simp [Region.wanted, hgd]
  rw [if_pos hw]
  exact wp_append_own w s x t ho base e i z size bytes ht hi hz hsize hby hzs hsz v n xs hs hown ad m c news hx hl hnews h1 h63 hbytes hbase h

theorem own_later {w w' : World} {B n : Nat} {T : TypeId} {v : Value} {xs : List Value} (h : w.ownsRow B T 2 v n xs) (hb : Below w.heap.size w w') : w'.ownsRow B T 2 v n xs :=
  h.kept (row := none) ⟨hb.os, hb.tape, hb.output, hb.size, fun k hk _ => hb.block k hk⟩ (by
    by_cases e : v.ownBlock = none
    · exact .inl e
    · exact .inr e)

theorem own_addr {w : World} {B n c : Nat} {T : TypeId} {A : Option Addr} {xs : List Value} (h : w.ownsRow B T 2 (.slice A n c) n xs) (hn : 0 < n) : ∃ g, A = some ⟨g, 0, none⟩ ∧ B ≤ g ∧ g < w.heap.size ∧ n ≤ c ∧ c ≤ maxLen := by
  rcases h.2 with ⟨_, h0⟩ | ⟨g, cap, cur, h', hb, hg, hnc, hcm, hcs, htake⟩
  · omega
  · injection h' with h1 h2 h3
    subst h1 h3
    have hlt : g < w.heap.size := by
      rcases Nat.lt_or_ge g w.heap.size with h | h
      · exact h
      · rw [Array.getElem?_eq_none h] at hg; cases hg
    exact ⟨g, rfl, hb, hlt, hnc, hcm⟩

theorem own_none {w w' : World} {B n : Nat} {T : TypeId} {v : Value} {xs : List Value} (h : w.ownsRow B T 2 v n xs) (hg : w.grownBy w' none) : w'.ownsRow B T 2 v n xs :=
  h.kept hg (by
    by_cases e : v.ownBlock = none
    · exact .inl e
    · exact .inr e)

theorem own_news_take {w : World} {B n c g : Nat} {T : TypeId} {l : List (Int × Int)} (h : w.ownsRow B T 2 (.slice (some ⟨g, 0, none⟩) n c) n (dcells l)) (k : Nat) :
    ∀ j u, (dcells (l.take k))[j]? = some u → w.cell? ((⟨g, 0, none⟩ : Addr).add j) = some u := by
  intro j u hu
  rw [← dcells_take] at hu
  refine h.cells (g := g) rfl j u ?_
  by_cases hj : j < k * 2
  · rwa [List.getElem?_take_of_lt hj] at hu
  · rw [List.getElem?_eq_none (by rw [List.length_take]; omega)] at hu; cases hu

theorem dcells_drop : ∀ (l : List (Int × Int)) (k : Nat), (dcells l).drop (k * 2) = dcells (l.drop k)
  | [], k => by simp
  | a :: l, 0 => by simp
  | a :: l, k + 1 => by
    have ih := dcells_drop l k
    have e : (k + 1) * 2 = k * 2 + 1 + 1 := by omega
    simp only [dcells, List.flatMap_cons, List.drop_succ_cons, e] at ih ⊢
    simpa using ih

theorem own_news_drop {w : World} {B n c g : Nat} {T : TypeId} {l : List (Int × Int)} (h : w.ownsRow B T 2 (.slice (some ⟨g, 0, none⟩) n c) n (dcells l)) (k : Nat) :
    ∀ j u, (dcells (l.drop k))[j]? = some u → w.cell? ((⟨g, k * 2, none⟩ : Addr).add j) = some u := by
  intro j u hu
  rw [← dcells_drop, List.getElem?_drop] at hu
  have := h.cells (g := g) rfl _ u hu
  rw [add_none] at this ⊢
  simpa [Nat.add_comm] using this

theorem own_base {w : World} {B B' n : Nat} {T : TypeId} {v : Value} {xs : List Value} (h : w.ownsRow B T 2 v n xs) (hB : B' ≤ B) : w.ownsRow B' T 2 v n xs := by
  refine ⟨h.1, ?_⟩
  rcases h.2 with h0 | ⟨g, cap, cur, h', hb, rest⟩
  · exact .inl h0
  · exact .inr ⟨g, cap, cur, h', by omega, rest⟩

end Go.Proofs.YtldlmkfigjicgaaGreatDoor
/- dot.Make. -/
namespace Go.Proofs.YtldlmkfigjicgaaGreatDoor
set_option linter.unusedVariables false
open Go.ChangeShapes Go.WideShapes Go.ChangeAt Go.RowKit

/-- A context and an error. -/
def CtxErr (c : Ctx) (x : Int) (w : World) (e : Ending) (w' : World) : Prop :=
  ∃ A k, e = .returned (.tuple #[cval c A k, .int .i64 x]) ∧ Row w' w'.heap.size A (dcells c.cloud) ∧ Below w.heap.size w w' ∧ NewAt w.heap.size A

def makeC (l : List (Int × Int)) : Ctx := if 400 < l.length then ⟨0, 0, 0, 0, []⟩ else if l.any (fun d => !rightB d.1 d.2) = true then ⟨0, 0, 0, 0, []⟩ else packL 0 0 0 0 l
def makeE (l : List (Int × Int)) : Int := if 400 < l.length then 2 else if l.any (fun d => !rightB d.1 d.2) = true then 5 else 0

set_option maxHeartbeats 1000000 in
set_option maxRecDepth 100000 in
theorem make_any (l : List (Int × Int)) (A : Option Addr) (k : Nat) (w : World) (hr : Row w w.heap.size A (dcells l)) (hl : l.length ≤ 9223372036854775807) :
    Calls Tryz.prog 74 #[.slice A l.length k] w (CtxErr (makeC l) (makeE l) w) := by
  have HR := hid hr
  clear hr
  by_cases h4 : 400 < l.length
  · have hc : makeC l = ⟨0, 0, 0, 0, []⟩ := by simp [makeC, h4]
    have he : makeE l = 2 := by simp [makeE, h4]
    rw [hc, he]
    have hd : decide ((400 : Int) < (l.length : Int)) = true := by simp; omega
    clear hc he
    go_enter Tryz.func74, Tryz.ntmps74
    go_wp2
    exact bodyPost_ret (v := .tuple #[cval ⟨0, 0, 0, 0, []⟩ none 0, .int .i64 2]) (by simp [results, Tryz.results74, go_sem]) rfl ⟨none, 0, rfl, Row.nil, by (repeat' (first | (with_reducible exact Below.refl _ _) | (with_reducible assumption) | (with_reducible refine below_drewN ?_ _) | (with_reducible refine Below.drew ?_) | (with_reducible refine Below.alloc ?_ ?_ _) | (with_reducible refine Below.setCell ?_ ?_ _) | (refine Below.trans ?_ (Below.mono (by assumption) ?_)) | go_size)), fun _ _ _ h => by cases h⟩
  · have hd : decide ((400 : Int) < (l.length : Int)) = false := by simp; omega
    have HCF := hid (fun w1 (hb : Below w.heap.size w w1) => containsFunc_any 96 #[] (fun d => !rightB d.1 d.2) l A k w1 ((HR.out.below hb (Nat.le_refl _)).more hb.size) hl enters_makeF (predMake l w1))
    cases hany : l.any (fun d => !rightB d.1 d.2)
    · have hc : makeC l = packL 0 0 0 0 l := by rw [makeC, if_neg h4, if_neg (by simp [hany])]
      have he : makeE l = 0 := by rw [makeE, if_neg h4, if_neg (by simp [hany])]
      rw [hc, he]
      have hrt : ∀ d ∈ l, rightB d.1 d.2 = true := fun d hd => by
        rw [List.any_eq_false] at hany
        have := hany d hd
        simpa using this
      have HP := hid (fun w1 (hb : Below w.heap.size w w1) => packed_any 0 0 0 0 l A k w1 ((HR.out.below hb (Nat.le_refl _)).more hb.size) (by omega) (by simp [clkIn]) hrt)
      rw [hany] at HCF
      have HANY := hid hany
      clear hc he hrt hany
      go_enter Tryz.func74, Tryz.ntmps74
      go_wp2_with fail
      refine (HCF.out _ (by (repeat' (first | (with_reducible exact Below.refl _ _) | (with_reducible assumption) | (with_reducible refine below_drewN ?_ _) | (with_reducible refine Below.drew ?_) | (with_reducible refine Below.alloc ?_ ?_ _) | (with_reducible refine Below.setCell ?_ ?_ _) | (refine Below.trans ?_ (Below.mono (by assumption) ?_)) | go_size)))).mono ?_
      rintro e w1 ⟨rfl, hb1⟩
      go_wp2_with fail
      refine (HP.out _ (by (repeat' (first | (with_reducible exact Below.refl _ _) | (with_reducible assumption) | (with_reducible refine below_drewN ?_ _) | (with_reducible refine Below.drew ?_) | (with_reducible refine Below.alloc ?_ ?_ _) | (with_reducible refine Below.setCell ?_ ?_ _) | (refine Below.trans ?_ (Below.mono (by assumption) ?_)) | go_size)))).mono ?_
      rintro e w2 ⟨A', kk, rfl, hrow, hb2, hnew⟩
      simp at hb1 hb2
      have hB2 := hb1.trans (hb2.mono (by have := hb1.size; simp at this; omega))
      have hBB : Below w.heap.size w w2 := ((Below.refl w.heap.size w).alloc (Nat.le_refl _) _).trans (hB2.mono (by omega))
      have hR : w2.heap[w.heap.size]? = some (.cells #[.int .i64 0, .int .i64 0, .int .i64 0, .int .i64 0, .slice none 0 0] 26 (0, 0)) := (hB2.block w.heap.size (by omega)).trans (heap_alloc_new w _)
      generalize packL 0 0 0 0 l = c at *
      have r0 : w2.cell? ⟨w.heap.size, 0, none⟩ = some (.int .i64 0) := (cell_of_row w2 _ 0 _ _ _ hR).trans rfl
      have r1 : w2.cell? ⟨w.heap.size, 1, none⟩ = some (.int .i64 0) := (cell_of_row w2 _ 1 _ _ _ hR).trans rfl
      have r2 : w2.cell? ⟨w.heap.size, 2, none⟩ = some (.int .i64 0) := (cell_of_row w2 _ 2 _ _ _ hR).trans rfl
      have r3 : w2.cell? ⟨w.heap.size, 3, none⟩ = some (.int .i64 0) := (cell_of_row w2 _ 3 _ _ _ hR).trans rfl
      have r4 : w2.cell? ⟨w.heap.size, 4, none⟩ = some (.slice none 0 0) := (cell_of_row w2 _ 4 _ _ _ hR).trans rfl
      have f0 := fun j => frozen_of_row w2 w.heap.size j _ _ hR
      have HRR := hid hR
      clear hR
      go_wp2
      have hnew' : NewAt (w.heap.size + 1) A' := fun b off q e => by have := hnew b off q e; have := hb1.size; simp at this; omega
      have hW := heap_setCell_same _ w.heap.size 4 _ _ (.slice A' c.cloud.length kk) (heap_setCell_same _ w.heap.size 3 _ _ (.int .i64 c.c3) (heap_setCell_same _ w.heap.size 2 _ _ (.int .i64 c.c2) (heap_setCell_same _ w.heap.size 1 _ _ (.int .i64 c.c1) (heap_setCell_same w2 w.heap.size 0 _ _ (.int .i64 c.c0) HRR.out))))
      have hB := (((((hBB).setCell (p := ⟨w.heap.size, 0, none⟩) (Nat.le_refl _) (.int .i64 c.c0)).setCell (p := ⟨w.heap.size, 1, none⟩) (Nat.le_refl _) (.int .i64 c.c1)).setCell (p := ⟨w.heap.size, 2, none⟩) (Nat.le_refl _) (.int .i64 c.c2)).setCell (p := ⟨w.heap.size, 3, none⟩) (Nat.le_refl _) (.int .i64 c.c3)).setCell (p := ⟨w.heap.size, 4, none⟩) (Nat.le_refl _) (.slice A' c.cloud.length kk)
      have hO := (((((hrow).setCell_new hnew' (a := ⟨w.heap.size, 0, none⟩) (Nat.lt_succ_self _) (.int .i64 c.c0)).setCell_new hnew' (a := ⟨w.heap.size, 1, none⟩) (Nat.lt_succ_self _) (.int .i64 c.c1)).setCell_new hnew' (a := ⟨w.heap.size, 2, none⟩) (Nat.lt_succ_self _) (.int .i64 c.c2)).setCell_new hnew' (a := ⟨w.heap.size, 3, none⟩) (Nat.lt_succ_self _) (.int .i64 c.c3)).setCell_new hnew' (a := ⟨w.heap.size, 4, none⟩) (Nat.lt_succ_self _) (.slice A' c.cloud.length kk)
      have hsz : (((((w2.setCell ⟨w.heap.size, 0, none⟩ (.int .i64 c.c0)).setCell ⟨w.heap.size, 1, none⟩ (.int .i64 c.c1)).setCell ⟨w.heap.size, 2, none⟩ (.int .i64 c.c2)).setCell ⟨w.heap.size, 3, none⟩ (.int .i64 c.c3)).setCell ⟨w.heap.size, 4, none⟩ (.slice A' c.cloud.length kk)).heap.size = w2.heap.size := by simp
      rw [← hsz] at hO
      generalize (((((w2.setCell ⟨w.heap.size, 0, none⟩ (.int .i64 c.c0)).setCell ⟨w.heap.size, 1, none⟩ (.int .i64 c.c1)).setCell ⟨w.heap.size, 2, none⟩ (.int .i64 c.c2)).setCell ⟨w.heap.size, 3, none⟩ (.int .i64 c.c3)).setCell ⟨w.heap.size, 4, none⟩ (.slice A' c.cloud.length kk)) = W5 at *
      have q0 : W5.cell? ⟨w.heap.size, 0, none⟩ = some (.int .i64 c.c0) := (cell_of_row W5 _ 0 _ _ _ hW).trans rfl
      have q1 : W5.cell? ⟨w.heap.size, 1, none⟩ = some (.int .i64 c.c1) := (cell_of_row W5 _ 1 _ _ _ hW).trans rfl
      have q2 : W5.cell? ⟨w.heap.size, 2, none⟩ = some (.int .i64 c.c2) := (cell_of_row W5 _ 2 _ _ _ hW).trans rfl
      have q3 : W5.cell? ⟨w.heap.size, 3, none⟩ = some (.int .i64 c.c3) := (cell_of_row W5 _ 3 _ _ _ hW).trans rfl
      have q4 : W5.cell? ⟨w.heap.size, 4, none⟩ = some (.slice A' c.cloud.length kk) := (cell_of_row W5 _ 4 _ _ _ hW).trans rfl
      exact bodyPost_ret (v := .tuple #[cval c A' kk, .int .i64 0]) (by simp [results, Tryz.results74, go_sem, q0, q1, q2, q3, q4]) rfl ⟨A', kk, rfl, hO, hB, fun b off q e => by have := hnew' b off q e; omega⟩
    · have hc : makeC l = ⟨0, 0, 0, 0, []⟩ := by rw [makeC, if_neg h4, if_pos hany]
      have he : makeE l = 5 := by rw [makeE, if_neg h4, if_pos hany]
      rw [hc, he]
      rw [hany] at HCF
      have HANY := hid hany
      clear hc he hany
      go_enter Tryz.func74, Tryz.ntmps74
      go_wp2_with fail
      refine (HCF.out _ (by (repeat' (first | (with_reducible exact Below.refl _ _) | (with_reducible assumption) | (with_reducible refine below_drewN ?_ _) | (with_reducible refine Below.drew ?_) | (with_reducible refine Below.alloc ?_ ?_ _) | (with_reducible refine Below.setCell ?_ ?_ _) | (refine Below.trans ?_ (Below.mono (by assumption) ?_)) | go_size)))).mono ?_
      rintro e w1 ⟨rfl, hb1⟩
      simp at hb1
      have hBB : Below w.heap.size w w1 := ((Below.refl w.heap.size w).alloc (Nat.le_refl _) _).trans (hb1.mono (by omega))
      have hR : w1.heap[w.heap.size]? = some (.cells #[.int .i64 0, .int .i64 0, .int .i64 0, .int .i64 0, .slice none 0 0] 26 (0, 0)) := (hb1.block w.heap.size (by omega)).trans (heap_alloc_new w _)
      have r0 : w1.cell? ⟨w.heap.size, 0, none⟩ = some (.int .i64 0) := (cell_of_row w1 _ 0 _ _ _ hR).trans rfl
      have r1 : w1.cell? ⟨w.heap.size, 1, none⟩ = some (.int .i64 0) := (cell_of_row w1 _ 1 _ _ _ hR).trans rfl
      have r2 : w1.cell? ⟨w.heap.size, 2, none⟩ = some (.int .i64 0) := (cell_of_row w1 _ 2 _ _ _ hR).trans rfl
      have r3 : w1.cell? ⟨w.heap.size, 3, none⟩ = some (.int .i64 0) := (cell_of_row w1 _ 3 _ _ _ hR).trans rfl
      have r4 : w1.cell? ⟨w.heap.size, 4, none⟩ = some (.slice none 0 0) := (cell_of_row w1 _ 4 _ _ _ hR).trans rfl
      have f0 := fun j => frozen_of_row w1 w.heap.size j _ _ hR
      have HRR := hid hR
      clear hR
      go_wp2
      have hW := heap_setCell_same _ w.heap.size 4 _ _ (.slice none 0 0) (heap_setCell_same _ w.heap.size 3 _ _ (.int .i64 0) (heap_setCell_same _ w.heap.size 2 _ _ (.int .i64 0) (heap_setCell_same _ w.heap.size 1 _ _ (.int .i64 0) (heap_setCell_same w1 w.heap.size 0 _ _ (.int .i64 0) HRR.out))))
      have hB := (((((hBB).setCell (p := ⟨w.heap.size, 0, none⟩) (Nat.le_refl _) (.int .i64 0)).setCell (p := ⟨w.heap.size, 1, none⟩) (Nat.le_refl _) (.int .i64 0)).setCell (p := ⟨w.heap.size, 2, none⟩) (Nat.le_refl _) (.int .i64 0)).setCell (p := ⟨w.heap.size, 3, none⟩) (Nat.le_refl _) (.int .i64 0)).setCell (p := ⟨w.heap.size, 4, none⟩) (Nat.le_refl _) (.slice none 0 0)
      generalize (((((w1.setCell ⟨w.heap.size, 0, none⟩ (.int .i64 0)).setCell ⟨w.heap.size, 1, none⟩ (.int .i64 0)).setCell ⟨w.heap.size, 2, none⟩ (.int .i64 0)).setCell ⟨w.heap.size, 3, none⟩ (.int .i64 0)).setCell ⟨w.heap.size, 4, none⟩ (.slice none 0 0)) = W5 at *
      have q0 : W5.cell? ⟨w.heap.size, 0, none⟩ = some (.int .i64 0) := (cell_of_row W5 _ 0 _ _ _ hW).trans rfl
      have q1 : W5.cell? ⟨w.heap.size, 1, none⟩ = some (.int .i64 0) := (cell_of_row W5 _ 1 _ _ _ hW).trans rfl
      have q2 : W5.cell? ⟨w.heap.size, 2, none⟩ = some (.int .i64 0) := (cell_of_row W5 _ 2 _ _ _ hW).trans rfl
      have q3 : W5.cell? ⟨w.heap.size, 3, none⟩ = some (.int .i64 0) := (cell_of_row W5 _ 3 _ _ _ hW).trans rfl
      have q4 : W5.cell? ⟨w.heap.size, 4, none⟩ = some (.slice none 0 0) := (cell_of_row W5 _ 4 _ _ _ hW).trans rfl
      exact bodyPost_ret (v := .tuple #[cval ⟨0, 0, 0, 0, []⟩ none 0, .int .i64 5]) (by simp [results, Tryz.results74, go_sem, q0, q1, q2, q3, q4]) rfl ⟨none, 0, rfl, Row.nil, hB, fun _ _ _ h => by cases h⟩
end Go.Proofs.YtldlmkfigjicgaaGreatDoor
