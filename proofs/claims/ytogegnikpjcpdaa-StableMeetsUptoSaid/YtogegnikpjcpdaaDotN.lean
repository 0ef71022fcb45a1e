/- slices.Compact at Dot over a row that the call owns: the contract. -/
import Derived.Test.YtogegnikpjcpdaaDotM
namespace Go.Proofs.Ytogegnikpjcpdaa
set_option linter.unusedVariables false
open Go.ChangeShapes Go.WideShapes Go.ChangeAt Go.RowKit

def CompactPost (B : Nat) (v : Value) (l : List (Int × Int)) (w : World) (e : Ending) (w' : World) : Prop :=
  ∃ v', e = .returned v' ∧ w'.ownsRow B 27 2 v' (cpt l).length (dcells (cpt l)) ∧ w.grownBy w' v.ownBlock ∧ v'.ownBlock = v.ownBlock

theorem cpt_small (l : List (Int × Int)) (h : l.length < 2) : cpt l = l := cpt_same l fun j hj => absurd hj (by omega)

theorem dcells_take : ∀ (l : List (Int × Int)) (k : Nat), (dcells l).take (k * 2) = dcells (l.take k)
  | [], k => by simp
  | a :: l, 0 => by simp
  | a :: l, k + 1 => by
    have ih := dcells_take l k
    have e : (k + 1) * 2 = k * 2 + 1 + 1 := by omega
    simp only [dcells, List.flatMap_cons, List.take_succ_cons, e] at ih ⊢
    simpa using ih

theorem CInv.cell {l ds : List (Int × Int)} {m kk B g n cap : Nat} {w : World} {T : TypeId} (hI : CInv l m kk ds) (how : w.ownsRow B T 2 (.slice (some ⟨g, 0, none⟩) n cap) n (dcells ds)) (j a : Nat) (hj : j < l.length) (hm : m ≤ j + 1) (ha : a = j * 2) :
    ∃ r : Int × Int, l[j] = r ∧ w.cell? ⟨g, a, none⟩ = some (.int .i64 r.1) ∧ w.cell? ⟨g, a + 1, none⟩ = some (.int .i64 r.2) := by
  subst ha
  have hj2 : j < ds.length := by rw [hI.len]; exact hj
  obtain ⟨m0, m1⟩ := own_dot how hj2
  have e := hI.high j hj hj2 hm
  exact ⟨l[j], rfl, by rw [m0, e], by rw [m1, e]⟩

set_option maxHeartbeats 2000000 in
set_option maxRecDepth 100000 in
theorem compact_arr (B g cap : Nat) (l : List (Int × Int)) (w : World) (hown : w.ownsRow B 27 2 (.slice (some ⟨g, 0, none⟩) l.length cap) l.length (dcells l)) (hl : l.length ≤ 140737488355328) (hcap : l.length ≤ cap) (hcm : cap ≤ maxLen) (h2 : 2 ≤ l.length) :
    Calls Try.prog 73 #[.slice (some ⟨g, 0, none⟩) l.length cap] w (CompactPost B (.slice (some ⟨g, 0, none⟩) l.length cap) l w) := by
  unfold maxLen at hcm
  have HO := hid hown
  clear hown
  have d2 : decide ((l.length : Int) < 2) = false := by simp; omega
  have g1 := guard_dot
  have g2 := eql_dot
  have g3 := neq_dot
  go_enter Try.func73, Try.ntmps73
  go_wp2
  go_loopw [3] (fun s3 wr => ∃ k : Nat, 1 ≤ k ∧ k ≤ l.length ∧ s3 = .int .i64 k ∧ (∀ j (h : j + 1 < l.length), j + 1 < k → l[j + 1] ≠ l[j]) ∧ wr.ownsRow B 27 2 (.slice (some ⟨g, 0, none⟩) l.length cap) l.length (dcells l) ∧ w.grownBy wr (some g)) (fun s3 _ => l.length - (intOf s3).toNat)
  case atStart => exact ⟨1, Nat.le_refl _, by omega, rfl, fun j _ h => absurd h (by omega), HO.out, grown_refl _ _⟩
  case round =>
    obtain ⟨k, hk1, hk, rfl, hall, how, hgw⟩ := hrel
    have HA := hid hall
    have HW := hid how
    have HG := hid hgw
    by_cases hlt : k < l.length
    · obtain ⟨x0, x1⟩ := own_dot how hlt
      obtain ⟨y0, y1⟩ := own_dot how (k := k - 1) (by omega)
      clear hall how hgw
      have z1 : IntKind.i64.wrap ((k : Int) - 1) = (k : Int) - 1 := IntWalk.i64_in _ (by omega)
      have z2 : (1 : Int) ≤ (k : Int) := by omega
      have z3 : (k : Int) - 1 < (l.length : Int) := by omega
      have z4 : ((k : Int) - 1).toNat = k - 1 := by omega
      generalize hx : l[k] = x at *
      generalize hy : l[k - 1] = y at *
      have HX := hid hx
      have HY := hid hy
      clear hx hy
      obtain ⟨p0, p1⟩ := x
      obtain ⟨q0, q1⟩ := y
      simp only at x0 x1 y0 y1
      have hck : (cap = k) = False := by simp; omega
      have hck2 : (k : Int) ≤ (cap : Int) := by omega
      have hck3 : (k : Int) ≤ (l.length : Int) := by omega
      cases hd : (p0 == q0 && p1 == q1)
      · go_wp2_with fail
        refine wp_region_quiet_lit (by kernel_rfl) (by kernel_rfl) ?_
        repeat (any_goals ((with_reducible refine wpQuiet_step (fun K hK => ?_)); go_simp; first | (with_reducible refine hK _ ?_; clear hK K) | ((with_reducible apply Exists.intro); (with_reducible refine ⟨fun _ => ?_, hK _ ?_⟩); (fail); clear hK K) | ((with_reducible refine (if_neg ?_).mpr (hK _ ?_)); (decide); clear hK K) | (split <;> (with_reducible refine hK _ ?_; clear hK K))))
        all_goals ((with_reducible refine wpQuiet_nil ?_); intro _ hw'; obtain ⟨nq, hw''⟩ := hw'; subst hw'')
        go_wp2
        go_roundw
        case rel =>
          refine ⟨k + 1, by omega, by omega, by go_num, fun j h hj => ?_, HW.out, grown_drewN HG.out _⟩
          by_cases e : j + 1 = k
          · subst e
            rw [HX.out]
            intro e2
            have hy2 : l[j] = (q0, q1) := by have := HY.out; simpa using this
            rw [hy2] at e2
            injection e2 with e3 e4
            subst e3 e4
            simp at hd
          · exact HA.out j h (by omega)
        case measure => simp [intOf]; omega
      · have hxy : l[k] = l[k - 1] := by rw [HX.out, HY.out]; ext <;> simp_all
        have HXY := hid hxy
        clear hxy
        go_wp2_with fail
        refine wp_region_quiet_lit (by kernel_rfl) (by kernel_rfl) ?_
        repeat (any_goals ((with_reducible refine wpQuiet_step (fun K hK => ?_)); go_simp; first | (with_reducible refine hK _ ?_; clear hK K) | ((with_reducible apply Exists.intro); (with_reducible refine ⟨fun _ => ?_, hK _ ?_⟩); (fail); clear hK K) | ((with_reducible refine (if_neg ?_).mpr (hK _ ?_)); (decide); clear hK K) | (split <;> (with_reducible refine hK _ ?_; clear hK K))))
        all_goals ((with_reducible refine wpQuiet_nil ?_); intro _ hw'; obtain ⟨nq, hw''⟩ := hw'; subst hw'')
        go_wp2
        obtain ⟨wo, rfl⟩ : ∃ wo : World, wo = wr := ⟨_, rfl⟩
        go_loopw [3, 5] (fun s3 s5 wr => ∃ (kk k2 : Nat) (ds : List (Int × Int)), s3 = .int .i64 kk ∧ s5 = .int .i64 k2 ∧ 1 ≤ k2 ∧ k + k2 ≤ l.length ∧ CInv l (k + k2) kk ds ∧ wr.ownsRow B 27 2 (.slice (some ⟨g, 0, none⟩) l.length cap) l.length (dcells ds) ∧ w.grownBy wr (some g)) (fun _ s5 _ => l.length - (intOf s5).toNat)
        case atStart => exact ⟨k, 1, l, rfl, rfl, Nat.le_refl _, by omega, CInv.start hlt (by omega) (fun j h hj => HA.out j h hj) HXY.out, HW.out, grown_drewN HG.out _⟩
        case round =>
          obtain ⟨kk, k2, ds, rfl, rfl, h1, hle, hI, how, hgw⟩ := hrel
          have hlen := hI.len
          have hkk := hI.lt
          have HI := hid hI
          have HW2 := hid how
          have HG2 := hid hgw
          by_cases hlt2 : k + k2 < l.length
          · obtain ⟨⟨r0, r1⟩, hx2, m0, m1⟩ := hI.cell how (k + k2) (k * 2 + k2 * 2) hlt2 (by omega) (by omega)
            obtain ⟨⟨s0, s1⟩, hy2, n0, n1⟩ := hI.cell how (k + k2 - 1) (k * 2 + (k2 - 1) * 2) (by omega) (by omega) (by omega)
            have hko := own_dot how (k := kk) (by omega)
            obtain ⟨o0, o1, oc0, oc1⟩ : ∃ o0 o1 : Value, wr.cell? ⟨g, kk * 2, none⟩ = some o0 ∧ wr.cell? ⟨g, kk * 2 + 1, none⟩ = some o1 := ⟨_, _, hko.1, hko.2⟩
            have hfz := how.frozenAt (g := g)
            have f0 := hfz (kk * 2)
            have f1 := hfz (kk * 2 + 1)
            have HX2 := hid hx2
            have HY2 := hid hy2
            clear hx2 hy2 hko hfz hI how hgw
            simp only at m0 m1 n0 n1
            have z5 : IntKind.i64.wrap ((k2 : Int) - 1) = (k2 : Int) - 1 := IntWalk.i64_in _ (by omega)
            have z6 : (1 : Int) ≤ (k2 : Int) := by omega
            have z7 : (k2 : Int) < (l.length : Int) - (k : Int) := by omega
            have z9 : (k2 : Int) - 1 < ((l.length - k : Nat) : Int) := by omega
            have z10 : (k2 : Int) < ((l.length - k : Nat) : Int) := by omega
            have z8 : ((k2 : Int) - 1).toNat = k2 - 1 := by omega
            cases hd2 : (r0 == s0 && r1 == s1)
            · go_wp2_with fail
              refine wp_region_quiet_lit (by kernel_rfl) (by kernel_rfl) ?_
              repeat (any_goals ((with_reducible refine wpQuiet_step (fun K hK => ?_)); go_simp; first | (with_reducible refine hK _ ?_; clear hK K) | ((with_reducible apply Exists.intro); (with_reducible refine ⟨fun _ => ?_, hK _ ?_⟩); (fail); clear hK K) | ((with_reducible refine (if_neg ?_).mpr (hK _ ?_)); (decide); clear hK K) | (split <;> (with_reducible refine hK _ ?_; clear hK K))))
              all_goals ((with_reducible refine wpQuiet_nil ?_); intro _ hw'; obtain ⟨nq, hw''⟩ := hw'; subst hw'')
              go_wp2
              go_roundw
              case rel =>
                have hs := own_store (w := wr.drewN nq) HW2.out kk (r0, r1)
                have hne : l[k + k2] ≠ l[k + k2 - 1] := by rw [HX2.out, HY2.out]; intro e; injection e with e3 e4; subst e3 e4; simp at hd2
                have hk := HI.out.keep hlt2 (by omega) hne
                rw [HX2.out] at hk
                exact ⟨kk + 1, k2 + 1, ds.set kk (r0, r1), by go_num, by go_num, by omega, by omega, hk, hs.1, grown_trans (grown_drewN HG2.out nq) hs.2⟩
              case measure => simp [intOf]; omega
            · go_wp2_with fail
              refine wp_region_quiet_lit (by kernel_rfl) (by kernel_rfl) ?_
              repeat (any_goals ((with_reducible refine wpQuiet_step (fun K hK => ?_)); go_simp; first | (with_reducible refine hK _ ?_; clear hK K) | ((with_reducible apply Exists.intro); (with_reducible refine ⟨fun _ => ?_, hK _ ?_⟩); (fail); clear hK K) | ((with_reducible refine (if_neg ?_).mpr (hK _ ?_)); (decide); clear hK K) | (split <;> (with_reducible refine hK _ ?_; clear hK K))))
              all_goals ((with_reducible refine wpQuiet_nil ?_); intro _ hw'; obtain ⟨nq, hw''⟩ := hw'; subst hw'')
              go_wp2
              go_roundw
              case rel =>
                exact ⟨kk, k2 + 1, ds, rfl, by go_num, by omega, by omega, HI.out.skip hlt2 (by omega) (by rw [HX2.out, HY2.out]; ext <;> simp_all), HW2.out, grown_drewN HG2.out _⟩
              case measure => simp [intOf]; omega
          · have hend : k + k2 = l.length := by omega
            have hsh := own_short how (k := kk) (by omega)
            have hcl : ∀ ty, (Builtin.clear_ #[23] ty #[.slice (some ⟨g, kk * 2, none⟩) (l.length - kk) (cap - kk)]).run Try.prog wr = .ok (.tuple #[]) (wr.setCells g (kk * 2) (Builtin.zeroCells (Value.agg #[.int .i64 0, .int .i64 0]).cells (l.length - kk)).toList) := by
              intro ty
              refine run_clear_dot wr ty g (kk * 2) (l.length - kk) (cap - kk) (by omega) (fun j hj => ?_) (fun j _ => how.frozenAt _)
              have hj2 : kk * 2 + j < (dcells ds).length := by rw [dcells_len]; omega
              have := how.cells (g := g) rfl _ _ (List.getElem?_eq_getElem hj2)
              rw [add_none, Nat.zero_add] at this
              rw [this]; rfl
            have HE := hid hend
            have HS := hid hsh
            have HCL := hid hlen
            have kc1 : (cap = kk) = False := by simp; omega
            have kc2 : (kk : Int) ≤ (cap : Int) := by omega
            have kc3 : (kk : Int) ≤ (l.length : Int) := by omega
            clear hend hsh hI how hgw hlen
            go_wp2
            go_ret
            have hI := HI.out
            have hlow := hI.low
            rw [HE.out, List.take_length] at hlow
            have hlk : (cpt l).length = kk := by rw [← hlow, List.length_take, hI.len]; have := HE.out; omega
            have hb := own_beyond (Builtin.zeroCells (Value.agg #[.int .i64 0, .int .i64 0]).cells (l.length - kk)).toList wr (kk * 2) HS.out (Nat.le_refl _)
            rw [dcells_take, hlow] at hb
            exact ⟨_, rfl, by rw [hlk]; exact hb.1, grown_trans HG2.out hb.2, rfl⟩
    · have hkl : k = l.length := by omega
      have HK := hid hkl
      clear hkl hall how hgw
      go_wp2
      go_ret
      have e : cpt l = l := cpt_same l fun j h => HA.out j h (by have := HK.out; omega)
      exact ⟨_, rfl, by rw [e]; exact HW.out, HG.out, rfl⟩

/-- slices.Compact at Dot over a row that the call owns, nil too. -/
theorem compact_own {B : Nat} {v : Value} (l : List (Int × Int)) (w : World) (hown : w.ownsRow B 27 2 v l.length (dcells l)) (hl : l.length ≤ 140737488355328) :
    Calls Try.prog 73 #[v] w (CompactPost B v l w) := by
  by_cases h2 : 2 ≤ l.length
  · rcases hown.2 with ⟨rfl, h0⟩ | ⟨g, cap, cur, rfl, hb, hg, hcap, hm, hs, ht⟩
    · omega
    · exact compact_arr B g cap l w hown hl hcap hm h2
  · have d2 : decide ((l.length : Int) < 2) = true := by simp; omega
    have hv : ∃ A c, v = .slice A l.length c := by
      rcases hown.2 with ⟨rfl, h0⟩ | ⟨g, cap, cur, rfl, hb, hg, hcap, hm, hs, ht⟩
      · exact ⟨none, 0, by rw [h0]⟩
      · exact ⟨_, _, rfl⟩
    obtain ⟨A, c, rfl⟩ := hv
    have HO := hid hown
    clear hown
    go_enter Try.func73, Try.ntmps73
    go_wp2
    go_ret
    exact ⟨_, rfl, by rw [cpt_small l (by omega)]; exact HO.out, grown_refl _ _, rfl⟩
end Go.Proofs.Ytogegnikpjcpdaa
