/- Cpt, SMa, MergeP, Merge, MrgL -/
import Derived.Test.YtmcdaibdpeeefaaGreatCk09
import Derived.Test.YtmcdaibdpeeefaaGreatCk07
import Derived.Deep.RegionHeld3
/- slices.Compact at Cell over a row that the call owns: the contract. -/
namespace Go.Proofs.YtmcdaibdpeeefaaGreat
set_option linter.unusedVariables false
open Go.ChangeShapes Go.WideShapes Go.ChangeAt Go.RowKit

def CompactPostC (B : Nat) (v : Value) (l : List Cel) (w : World) (e : Ending) (w' : World) : Prop :=
  ∃ v', e = .returned v' ∧ w'.ownsRow B 59 5 v' (cptG l).length (tcells (cptG l)) ∧ w.grownBy w' v.ownBlock ∧ v'.ownBlock = v.ownBlock
theorem cptG_small {α : Type} [DecidableEq α] (l : List α) (h : l.length < 2) : cptG l = l := cptG_same l fun j hj => absurd hj (by omega)

set_option maxHeartbeats 4000000 in
set_option maxRecDepth 100000 in
theorem compactC_arr (B g cap : Nat) (l : List Cel) (w : World) (hown : w.ownsRow B 59 5 (.slice (some ⟨g, 0, none⟩) l.length cap) l.length (tcells l)) (hl : l.length ≤ 1048576) (hcap : l.length ≤ cap) (hcm : cap ≤ maxLen) (h2 : 2 ≤ l.length) :
    Calls Tryz.prog 39 #[.slice (some ⟨g, 0, none⟩) l.length cap] w (CompactPostC B (.slice (some ⟨g, 0, none⟩) l.length cap) l w) := by
  unfold maxLen at hcm
  have HO := hid hown
  clear hown
  have d2 : decide ((l.length : Int) < 2) = false := by simp; omega
  have g1 := guard_cel
  go_enter Tryz.func39, Tryz.ntmps39
  go_wp2
  go_loopw [3] (fun s3 wr => ∃ k : Nat, 1 ≤ k ∧ k ≤ l.length ∧ s3 = .int .i64 k ∧ (∀ j (h : j + 1 < l.length), j + 1 < k → l[j + 1] ≠ l[j]) ∧ wr.ownsRow B 59 5 (.slice (some ⟨g, 0, none⟩) l.length cap) l.length (tcells l) ∧ w.grownBy wr (some g)) (fun s3 _ => l.length - (intOf s3).toNat)
  case atStart => exact ⟨1, Nat.le_refl _, by omega, rfl, fun j _ h => absurd h (by omega), HO.out, grown_refl _ _⟩
  case round =>
    obtain ⟨k, hk1, hk, rfl, hall, how, hgw⟩ := hrel
    have HA := hid hall
    have HW := hid how
    have HG := hid hgw
    by_cases hlt : k < l.length
    · obtain ⟨x0, x1, x2, x3, x4⟩ := own_cel how hlt
      obtain ⟨y0, y1, y2, y3, y4⟩ := own_cel how (k := k - 1) (by omega)
      clear hall how hgw
      have z1 : IntKind.i64.wrap ((k : Int) - 1) = (k : Int) - 1 := IntWalk.i64_in _ (by omega)
      have z2 : (1 : Int) ≤ (k : Int) := by omega
      have z3 : (k : Int) - 1 < (l.length : Int) := by omega
      have z4 : ((k : Int) - 1).toNat = k - 1 := by omega
      have HL1 := hid (fun (j : Nat) (hj : j + 1 = k) (h : j + 1 < l.length) => (⟨by subst hj; rfl, by subst hj; rfl⟩ : l[j + 1] = l[k] ∧ l[j] = l[k - 1]))
      generalize hx : l[k] = x at *
      generalize hy : l[k - 1] = y at *
      have HX := hid hx
      have HY := hid hy
      clear hx hy
      obtain ⟨⟨p0, p1⟩, p2, p3, p4⟩ := x
      obtain ⟨⟨q0, q1⟩, q2, q3, q4⟩ := y
      simp only at x0 x1 x2 x3 x4 y0 y1 y2 y3 y4
      have hck : (cap = k) = False := by simp; omega
      have hck2 : (k : Int) ≤ (cap : Int) := by omega
      have hck3 : (k : Int) ≤ (l.length : Int) := by omega
      have hq := fun w => eql_cel p0 p1 p2 p3 p4 q0 q1 q2 q3 q4 w
      rw [cel_eq] at hq
      by_cases hd : (⟨(p0, p1), p2, p3, p4⟩ : Cel) = ⟨(q0, q1), q2, q3, q4⟩
      rotate_left
      · rw [decide_eq_false hd] at hq
        have HD := hid hd
        clear hd
        go_wp2_with fail
        refine wp_region_quiet_lit (by kernel_rfl) (by kernel_rfl) ?_
        repeat (any_goals ((with_reducible refine wpQuiet_step (fun K hK => ?_)); go_simp; first | (with_reducible refine hK _ ?_; clear hK K) | ((with_reducible apply Exists.intro); (with_reducible refine ⟨fun _ => ?_, hK _ ?_⟩); (fail); clear hK K) | ((with_reducible refine (if_neg ?_).mpr (hK _ ?_)); (decide); clear hK K) | (split <;> (with_reducible refine hK _ ?_; clear hK K))))
        all_goals ((with_reducible refine wpQuiet_nil ?_); intro _ hw'; obtain ⟨nq, hw''⟩ := hw'; subst hw'')
        go_wp2
        go_roundw
        case rel =>
          refine ⟨k + 1, by omega, by omega, by go_num, fun j h hj => ?_, HW.out, grown_drewN HG.out _⟩
          by_cases e : j + 1 = k
          · rw [(HL1.out j e h).1, (HL1.out j e h).2]
            exact fun e2 => HD.out (e2.trans HY.out)
          · exact HA.out j h (by omega)
        case measure => simp [intOf]; omega
      · rw [decide_eq_true hd] at hq
        have hxy : l[k] = l[k - 1] := by rw [HX.out, HY.out, hd]
        have HXY := hid hxy
        clear hxy hd
        go_wp2_with fail
        refine wp_region_quiet_lit (by kernel_rfl) (by kernel_rfl) ?_
        repeat (any_goals ((with_reducible refine wpQuiet_step (fun K hK => ?_)); go_simp; first | (with_reducible refine hK _ ?_; clear hK K) | ((with_reducible apply Exists.intro); (with_reducible refine ⟨fun _ => ?_, hK _ ?_⟩); (fail); clear hK K) | ((with_reducible refine (if_neg ?_).mpr (hK _ ?_)); (decide); clear hK K) | (split <;> (with_reducible refine hK _ ?_; clear hK K))))
        all_goals ((with_reducible refine wpQuiet_nil ?_); intro _ hw'; obtain ⟨nq, hw''⟩ := hw'; subst hw'')
        go_wp2
        obtain ⟨wo, rfl⟩ : ∃ wo : World, wo = wr := ⟨_, rfl⟩
        clear x0 x1 x2 x3 x4 y0 y1 y2 y3 y4 hq
        go_loopw [3, 5] (fun s3 s5 wr => ∃ (kk k2 : Nat) (ds : List Cel), s3 = .int .i64 kk ∧ s5 = .int .i64 k2 ∧ 1 ≤ k2 ∧ k + k2 ≤ l.length ∧ GInv l (k + k2) kk ds ∧ wr.ownsRow B 59 5 (.slice (some ⟨g, 0, none⟩) l.length cap) l.length (tcells ds) ∧ w.grownBy wr (some g)) (fun _ s5 _ => l.length - (intOf s5).toNat)
        case atStart => exact ⟨k, 1, l, rfl, rfl, Nat.le_refl _, by omega, GInv.start hlt (by omega) (fun j h hj => HA.out j h hj) HXY.out, HW.out, grown_drewN HG.out _⟩
        case round =>
          obtain ⟨kk, k2, ds, rfl, rfl, h1, hle, hI, how, hgw⟩ := hrel
          have hlen := hI.len
          have hkk := hI.lt
          have HI := hid hI
          have HW2 := hid how
          have HG2 := hid hgw
          by_cases hlt2 : k + k2 < l.length
          · obtain ⟨⟨⟨r0, r1⟩, r2, r3, r4⟩, hx2, m0, m1, m2, m3, m4⟩ := hI.cell how (k + k2) (k * 5 + k2 * 5) hlt2 (by omega) (by omega)
            obtain ⟨⟨⟨s0, s1⟩, s2, s3, s4⟩, hy2, n0, n1, n2, n3, n4⟩ := hI.cell how (k + k2 - 1) (k * 5 + (k2 - 1) * 5) (by omega) (by omega) (by omega)
            have hko := own_cel how (k := kk) (by omega)
            obtain ⟨o0, o1, o2, o3, o4, oc0, oc1, oc2, oc3, oc4⟩ : ∃ o0 o1 o2 o3 o4 : Value, wr.cell? ⟨g, kk * 5, none⟩ = some o0 ∧ wr.cell? ⟨g, kk * 5 + 1, none⟩ = some o1 ∧ wr.cell? ⟨g, kk * 5 + 2, none⟩ = some o2 ∧ wr.cell? ⟨g, kk * 5 + 3, none⟩ = some o3 ∧ wr.cell? ⟨g, kk * 5 + 4, none⟩ = some o4 := ⟨_, _, _, _, _, hko⟩
            have hfz := how.frozenAt (g := g)
            have f0 := hfz (kk * 5)
            have f1 := hfz (kk * 5 + 1)
            have f2 := hfz (kk * 5 + 2)
            have f3 := hfz (kk * 5 + 3)
            have f4 := hfz (kk * 5 + 4)
            have HX2 := hid hx2
            have HY2 := hid hy2
            clear hx2 hy2 hko hfz hI how hgw
            simp only at m0 m1 m2 m3 m4 n0 n1 n2 n3 n4
            have z5 : IntKind.i64.wrap ((k2 : Int) - 1) = (k2 : Int) - 1 := IntWalk.i64_in _ (by omega)
            have z6 : (1 : Int) ≤ (k2 : Int) := by omega
            have z7 : (k2 : Int) < (l.length : Int) - (k : Int) := by omega
            have z9 : (k2 : Int) - 1 < ((l.length - k : Nat) : Int) := by omega
            have z10 : (k2 : Int) < ((l.length - k : Nat) : Int) := by omega
            have z8 : ((k2 : Int) - 1).toNat = k2 - 1 := by omega
            have hq2 := fun w => neq_cel r0 r1 r2 r3 r4 s0 s1 s2 s3 s4 w
            rw [cel_eq] at hq2
            by_cases hd2 : (⟨(r0, r1), r2, r3, r4⟩ : Cel) = ⟨(s0, s1), s2, s3, s4⟩
            rotate_left
            · rw [decide_eq_false hd2] at hq2
              have HD2 := hid hd2
              clear hd2
              go_wp2_with fail
              refine wp_region_quiet_lit (by kernel_rfl) (by kernel_rfl) ?_
              repeat (any_goals ((with_reducible refine wpQuiet_step (fun K hK => ?_)); go_simp; first | (with_reducible refine hK _ ?_; clear hK K) | ((with_reducible apply Exists.intro); (with_reducible refine ⟨fun _ => ?_, hK _ ?_⟩); (fail); clear hK K) | ((with_reducible refine (if_neg ?_).mpr (hK _ ?_)); (decide); clear hK K) | (split <;> (with_reducible refine hK _ ?_; clear hK K))))
              all_goals ((with_reducible refine wpQuiet_nil ?_); intro _ hw'; obtain ⟨nq, hw''⟩ := hw'; subst hw'')
              go_wp2
              go_roundw
              case rel =>
                have hs := own_storeC (w := wr.drewN nq) HW2.out kk ⟨(r0, r1), r2, r3, r4⟩
                have hne : l[k + k2] ≠ l[k + k2 - 1] := by rw [HX2.out, HY2.out]; exact HD2.out
                have hk := HI.out.keep hlt2 (by omega) hne
                rw [HX2.out] at hk
                exact ⟨kk + 1, k2 + 1, ds.set kk ⟨(r0, r1), r2, r3, r4⟩, by go_num, by go_num, by omega, by omega, hk, hs.1, grown_trans (grown_drewN HG2.out nq) hs.2⟩
              case measure => simp [intOf]; omega
            · rw [decide_eq_true hd2] at hq2
              have HD2 := hid hd2
              clear hd2
              go_wp2_with fail
              refine wp_region_quiet_lit (by kernel_rfl) (by kernel_rfl) ?_
              repeat (any_goals ((with_reducible refine wpQuiet_step (fun K hK => ?_)); go_simp; first | (with_reducible refine hK _ ?_; clear hK K) | ((with_reducible apply Exists.intro); (with_reducible refine ⟨fun _ => ?_, hK _ ?_⟩); (fail); clear hK K) | ((with_reducible refine (if_neg ?_).mpr (hK _ ?_)); (decide); clear hK K) | (split <;> (with_reducible refine hK _ ?_; clear hK K))))
              all_goals ((with_reducible refine wpQuiet_nil ?_); intro _ hw'; obtain ⟨nq, hw''⟩ := hw'; subst hw'')
              go_wp2
              go_roundw
              case rel =>
                exact ⟨kk, k2 + 1, ds, rfl, by go_num, by omega, by omega, HI.out.skip hlt2 (by omega) (by rw [HX2.out, HY2.out, HD2.out]), HW2.out, grown_drewN HG2.out _⟩
              case measure => simp [intOf]; omega
          · have hend : k + k2 = l.length := by omega
            have hsh := own_shortS how (k := kk) (by omega)
            have hcl : ∀ ty, (Builtin.clear_ #[26] ty #[.slice (some ⟨g, kk * 5, none⟩) (l.length - kk) (cap - kk)]).run Tryz.prog wr = .ok (.tuple #[]) (wr.setCells g (kk * 5) (Builtin.zeroCells zCel.cells (l.length - kk)).toList) := by
              intro ty
              refine run_clear_cel wr ty g (kk * 5) (l.length - kk) (cap - kk) (by omega) (fun j hj => ?_) (fun j _ => how.frozenAt _)
              have hj2 : kk * 5 + j < (tcells ds).length := by rw [flat_len Cel.len]; omega
              have := how.cells (g := g) rfl _ _ (List.getElem?_eq_getElem hj2)
              rw [add_none, Nat.zero_add] at this
              rw [this]; rfl
            have HE := hid hend
            have HS := hid hsh
            have HCL := hid hlen
            have kc1 : (cap = kk) = False := by simp; omega
            have kc2 : (kk : Int) ≤ (cap : Int) := by omega
            have kc3 : (kk : Int) ≤ (l.length : Int) := by omega
            clear hend hsh hI how hgw hlen
            go_wp2
            go_ret
            have hI := HI.out
            have hlow := hI.low
            rw [HE.out, List.take_length] at hlow
            have hlk : (cptG l).length = kk := by rw [← hlow, List.length_take, hI.len]; have := HE.out; omega
            have hb := own_beyondS (Builtin.zeroCells zCel.cells (l.length - kk)).toList wr (kk * 5) HS.out (Nat.le_refl _)
            rw [flat_take Cel.len, hlow] at hb
            exact ⟨_, rfl, by rw [hlk]; exact hb.1, grown_trans HG2.out hb.2, rfl⟩
    · have hkl : k = l.length := by omega
      have HK := hid hkl
      clear hkl hall how hgw
      go_wp2
      go_ret
      have e : cptG l = l := cptG_same l fun j h => HA.out j h (by have := HK.out; omega)
      exact ⟨_, rfl, by rw [e]; exact HW.out, HG.out, rfl⟩

/-- slices.Compact at Cell over a row that the call owns, nil too. -/
theorem compactC_own {B : Nat} {v : Value} (l : List Cel) (w : World) (hown : w.ownsRow B 59 5 v l.length (tcells l)) (hl : l.length ≤ 1048576) :
    Calls Tryz.prog 39 #[v] w (CompactPostC B v l w) := by
  by_cases h2 : 2 ≤ l.length
  · rcases hown.2 with ⟨rfl, h0⟩ | ⟨g, cap, cur, rfl, hb, hg, hcap, hm, hs, ht⟩
    · omega
    · exact compactC_arr B g cap l w hown hl hcap hm h2
  · have d2 : decide ((l.length : Int) < 2) = true := by simp; omega
    obtain ⟨A, c, rfl⟩ := own_formS hown
    have HO := hid hown
    clear hown
    go_enter Tryz.func39, Tryz.ntmps39
    go_wp2
    go_ret
    exact ⟨_, rfl, by rw [cptG_small l (by omega)]; exact HO.out, grown_refl _ _, rfl⟩
end Go.Proofs.YtmcdaibdpeeefaaGreat
/- viewkeep.StableMeets: slices.Clone at Context; the plain law. -/
namespace Go.Proofs.YtmcdaibdpeeefaaGreat
set_option linter.unusedVariables false
open Go.ChangeShapes Go.WideShapes Go.ChangeAt Go.RowKit

theorem info_ctx : (Tryz.prog.info? 25).map (fun i => (i.zero, i.size, i.bytes)) = some (some (.agg #[.int .i64 0, .int .i64 0, .int .i64 0, .int .i64 0, .slice none 0 0]), 5, 56) := by kernel_rfl
theorem ccells_len (L : List CR) : (ccells L).length = L.length * 5 := flat_len CR.len L
theorem cr_one (x : CR) : ∀ u ∈ x.cells, u.oneCell' = true := by
  intro u hu
  simp only [CR.cells, List.mem_cons, List.not_mem_nil, or_false] at hu
  rcases hu with rfl | rfl | rfl | rfl | rfl <;> rfl
theorem ccells_one (L : List CR) : ∀ u ∈ ccells L, u.oneCell' = true := by
  intro u hu
  obtain ⟨x, -, hx⟩ := List.mem_flatMap.1 hu
  exact cr_one x u hx

/-! What the law asks. -/
theorem badL_parts {L : List Ctx} (h : badL L = 0) : (∀ c ∈ L, okC c) ∧ ∀ c ∈ L, c.cloud.length ≤ 400 :=
  ⟨fun c hc => ((checkI_iff c).1 (badL_zero.1 h c hc)).1, fun c hc => ((checkI_iff c).1 (badL_zero.1 h c hc)).2⟩
theorem meetE_zero {L : List Ctx} (h : meetE L = 0) : L ≠ [] ∧ badL L = 0 ∧ (meetC L).cloud.length ≤ 400 ∧ meetX L = meetC L := by
  unfold meetE at h
  by_cases h1 : L = []
  · rw [if_pos h1] at h; cases h
  · rw [if_neg h1] at h
    by_cases h2 : badL L = 0
    · rw [if_neg (by simp [h2])] at h
      by_cases h3 : 400 < (meetC L).cloud.length
      · rw [if_pos h3] at h; cases h
      · exact ⟨h1, h2, by omega, by unfold meetX; rw [if_neg (by simp [h1, h2]; omega)]⟩
    · rw [if_pos h2] at h; exact absurd h h2
theorem meet_facts {L : List Ctx} (h : meetE L = 0) : okC (meetX L) ∧ checkI (meetX L) = 0 ∧ ∀ d, hasB (meetX L) d = allB L d := by
  obtain ⟨h1, h2, h3, h4⟩ := meetE_zero h
  obtain ⟨ok, h400⟩ := badL_parts h2
  obtain ⟨k1, k2⟩ := meet_ok h1 ok
  rw [h4]
  refine ⟨k1, (checkI_iff _).2 ⟨k1, h3⟩, fun d => ?_⟩
  rw [Bool.eq_iff_iff, k2, allB_iff]
/-- With one more there is no more. -/
theorem meet_less {L : List Ctx} {c : Ctx} (h : meetE L = 0) (h' : meetE (L ++ [c]) = 0) : twoI (meetX (L ++ [c])) (meetX L) = 0 ∧ lessX (meetX (L ++ [c])) (meetX L) = true := by
  obtain ⟨a1, a2, a3⟩ := meet_facts h
  obtain ⟨b1, b2, b3⟩ := meet_facts h'
  have t : twoI (meetX (L ++ [c])) (meetX L) = 0 := checkI_two b2 a2
  refine ⟨t, ?_⟩
  unfold lessX
  rw [if_neg (by simp [t]), less_iff b1 a1]
  intro d hd
  rw [b3, allB_iff] at hd
  rw [a3, allB_iff]
  exact fun x hx => hd x (List.mem_append_left _ hx)
/-- With one alone it is that one. -/
theorem meet_alone (c : Ctx) : meetE [c] = checkI c ∧ (checkI c = 0 → meetX [c] = c) := by
  by_cases q : checkI c = 0
  · have hb : badL [c] = 0 := by simp [badL, q]
    obtain ⟨ok, h4⟩ := (checkI_iff c).1 q
    obtain ⟨k1, k2⟩ := meet_ok (L := [c]) (by simp) (by simpa using ok)
    have e : meetC [c] = c := okC_ext k1 ok fun d => by rw [Bool.eq_iff_iff, k2]; simp
    constructor
    · unfold meetE
      rw [if_neg (by simp), if_neg (by simp [hb]), e, if_neg (by omega), q]
    · intro _
      unfold meetX
      rw [e, if_neg (by simp [hb]; omega)]
  · have hb : badL [c] = checkI c := by simp only [badL]; rw [if_pos q]
    exact ⟨by unfold meetE; rw [if_neg (by simp), hb, if_pos q], fun h => absurd h q⟩
/-- The two of the law's own. -/
theorem meet_two : meetE [⟨3, 1, 0, 0, []⟩, ⟨2, 0, 0, 0, [(1, 2)]⟩] = 0 ∧ meetX [⟨3, 1, 0, 0, []⟩, ⟨2, 0, 0, 0, [(1, 2)]⟩] = ⟨2, 0, 0, 0, []⟩ := by
  have h1 : checkI ⟨3, 1, 0, 0, []⟩ = 0 := (checkI_iff _).2 ⟨⟨by simp [clkIn], by simp, by simp⟩, by simp⟩
  have h2 : checkI ⟨2, 0, 0, 0, [(1, 2)]⟩ = 0 := (checkI_iff _).2 ⟨⟨by simp [clkIn], by intro d hd; simp only [List.mem_singleton] at hd; subst hd; exact ⟨by decide, by decide⟩, by simp⟩, by simp⟩
  have hb : badL [⟨3, 1, 0, 0, []⟩, ⟨2, 0, 0, 0, [(1, 2)]⟩] = 0 := by simp [badL, h1, h2]
  have hca : cloudAll [⟨3, 1, 0, 0, []⟩, ⟨2, 0, 0, 0, [(1, 2)]⟩] = [] := by decide
  have e : meetC [⟨3, 1, 0, 0, []⟩, ⟨2, 0, 0, 0, [(1, 2)]⟩] = ⟨2, 0, 0, 0, []⟩ := by
    unfold meetC
    rw [hca]
    simp [packL, cpt, minL, minC]
    omega
  constructor
  · unfold meetE
    rw [e, if_neg (by simp), if_neg (by simp [hb])]; simp
  · unfold meetX
    rw [e, if_neg (by simp [hb])]
end Go.Proofs.YtmcdaibdpeeefaaGreat
/- What merging tells (plain); table.Merge's order of cells. -/
namespace Go.Proofs.YtmcdaibdpeeefaaGreat
set_option linter.unusedVariables false
open Go.ChangeShapes Go.WideShapes Go.ChangeAt Go.RowKit
open Go.Shelf Go.Lib
open Go.Sort (grow SWO alloc_eq_grow grow_grow drew_grow)

theorem el_cel : Elem Tryz.prog 26 59 5 40 := by
  obtain ⟨i0, h0, h1, h2, h3⟩ := info_parts info_cel
  exact ⟨Tryz.underlying26, ⟨i0, _, h0, h1, h2, h3, rfl⟩, by decide⟩

def celLe (x y : Cel) : Bool := !celLt y x
def mergeL (a b : Tab) : List Cel := cptG ((staysL a b ++ staysL b a).mergeSort celLe)
def mergeX (a b : Tab) : Tab := if bothE a b ≠ 0 ∨ joinE a.c b.c ≠ 0 ∨ 400 < (mergeL a b).length then zT else ⟨joinX a.c b.c, mergeL a b⟩
def mergeE (a b : Tab) : Int := if bothE a b ≠ 0 then bothE a b else if joinE a.c b.c ≠ 0 then joinE a.c b.c else if 400 < (mergeL a b).length then 2 else 0

theorem celLe_trans (x y z : Cel) (h1 : celLe x y = true) (h2 : celLe y z = true) : celLe x z = true := by
  simp [celLe, celLt, before] at *; omega
theorem celLe_total (x y : Cel) : (celLe x y || celLe y x) = true := by
  cases h : celLe x y
  · cases h2 : celLe y x
    · simp [celLe, celLt, before] at h h2; omega
    · rfl
  · rfl
theorem celLe_same {x y : Cel} (h1 : celLe x y = true) (h2 : celLe y x = true) : x.d = y.d := by
  simp [celLe, celLt, before] at h1 h2
  exact Prod.ext (by omega) (by omega)
/-- One sorted list alone, where one dot has one cell. -/
theorem sort_one {l l' : List Cel} (hu : ∀ x ∈ l, ∀ y ∈ l, x.d = y.d → x = y) (hp : l'.Perm l) (hs : l'.Pairwise (fun x y => celLt y x = false)) : l' = l.mergeSort celLe := by
  refine List.Perm.eq_of_pairwise (le := fun x y => celLe x y = true) ?_ ?_ ?_ (hp.trans (List.mergeSort_perm l celLe).symm)
  · intro x y hx hy h1 h2
    exact hu x (hp.mem_iff.1 hx) y ((List.mergeSort_perm l celLe).mem_iff.1 hy) (celLe_same h1 h2)
  · exact hs.imp fun h => by simp [celLe, h]
  · exact List.pairwise_mergeSort celLe_trans celLe_total l
theorem bothE_zero {a b : Tab} (h : bothE a b = 0) : tabI a = 0 ∧ tabI b = 0 ∧ ∀ x ∈ a.cells, ∀ y ∈ b.cells, x.d = y.d → x = y := by
  unfold bothE at h
  by_cases h1 : tabI a ≠ 0
  · rw [if_pos h1] at h; exact absurd h h1
  · rw [if_neg h1] at h
    by_cases h2 : tabI b ≠ 0
    · rw [if_pos h2] at h; exact absurd h h2
    · rw [if_neg h2] at h
      by_cases h3 : b.cells.any (clashB a b) = true
      · rw [if_pos h3] at h; cases h
      · rw [Bool.not_eq_true, List.any_eq_false] at h3
        refine ⟨by simpa using h1, by simpa using h2, fun x hx y hy e => ?_⟩
        have h4 := h3 y hy
        unfold clashB at h4
        rw [Bool.not_eq_true, List.any_eq_false] at h4
        have h5 := h4 x hx
        simpa [e] using h5
theorem stays_unique {a b : Tab} (h : bothE a b = 0) : ∀ x ∈ staysL a b ++ staysL b a, ∀ y ∈ staysL a b ++ staysL b a, x.d = y.d → x = y := by
  obtain ⟨h1, h2, h3⟩ := bothE_zero h
  have ha := cells_unique h1
  have hb := cells_unique h2
  have m1 : ∀ x ∈ staysL a b, x ∈ a.cells := fun x hx => (List.mem_filter.1 hx).1
  have m2 : ∀ x ∈ staysL b a, x ∈ b.cells := fun x hx => (List.mem_filter.1 hx).1
  intro x hx y hy e
  rcases List.mem_append.1 hx with hx | hx <;> rcases List.mem_append.1 hy with hy | hy
  · exact ha x (m1 x hx) y (m1 y hy) e
  · exact h3 x (m1 x hx) y (m2 y hy) e
  · exact (h3 y (m1 y hy) x (m2 x hx) e.symm).symm
  · exact hb x (m2 x hx) y (m2 y hy) e
theorem staysL_len (a b : Tab) : (staysL a b).length ≤ a.cells.length := List.length_filter_le _ _

set_option maxHeartbeats 400000 in
set_option maxRecDepth 100000 in
theorem merge1_run (x y : Cel) (w : World) : Calls Tryz.prog 38 #[celv x, celv y] w fun e w' => e = .returned (.int .i64 (dotCf x.d y.d)) ∧ ∃ q os', w' = grow (w.drewN q) os' := by
  obtain ⟨⟨a0, a1⟩, a2, a3, a4⟩ := x
  obtain ⟨⟨b0, b1⟩, b2, b3, b4⟩ := y
  simp only [celv]
  go_enter Tryz.func38, Tryz.ntmps38
  go_wp2_with (go_at_call 27; refine (order_grow a0 a1 b0 b1 _).mono ?_; rintro e w' ⟨rfl, q, os', rfl⟩)
  go_ret
  have e : ∀ (w : World) (os : Array Obj) (q : Nat), (grow w os).drewN q = grow (w.drewN q) os := fun _ _ _ => rfl
  exact ⟨rfl, q, _, by rw [alloc_eq_grow, alloc_eq_grow, grow_grow, e, grow_grow]⟩
def cmpMerge : CmpCel 38 where
  cf x y := dotCf x.d y.d
  lt x y := ltOf_dot x.d y.d
  run x y w := merge1_run x y w
  enters := enters_of Tryz.func38 (by kernel_rfl) rfl
end Go.Proofs.YtmcdaibdpeeefaaGreat
/- table.Merge. -/
namespace Go.Proofs.YtmcdaibdpeeefaaGreat
set_option linter.unusedVariables false
open Go.ChangeShapes Go.WideShapes Go.ChangeAt Go.RowKit

set_option maxHeartbeats 4000000 in
set_option maxRecDepth 100000 in
theorem merge_any (a b : Tab) (A : Option Addr) (k : Nat) (B : Option Addr) (m : Nat) (A' : Option Addr) (k' : Nat) (B' : Option Addr) (m' : Nat) (w : World) (ra : Row w w.heap.size A (dcells a.c.cloud)) (la : a.c.cloud.length ≤ 9223372036854775807)
    (rb : Row w w.heap.size B (tcells a.cells)) (lb : a.cells.length ≤ 9223372036854775807) (ra' : Row w w.heap.size A' (dcells b.c.cloud)) (la' : b.c.cloud.length ≤ 9223372036854775807)
    (rb' : Row w w.heap.size B' (tcells b.cells)) (lb' : b.cells.length ≤ 9223372036854775807) :
    Calls Tryz.prog 14 #[tval a A k B m, tval b A' k' B' m'] w (TabErr (mergeX a b) (mergeE a b) w) := by
  have HBO := hid (fun w1 (hb : Below w.heap.size w w1) => both_tab a b A k B m A' k' B' m' w1 (ra.step hb) la (rb.step hb) lb (ra'.step hb) la' (rb'.step hb) lb')
  have HJ := hid (fun w1 (hb : Below w.heap.size w w1) => join_any a.c b.c A A' k k' w1 (ra.step hb) la (ra'.step hb) la')
  have HS1 : Hid (bothE a b = 0 → ∀ w1, Below w.heap.size w w1 → Calls Tryz.prog 36 #[tval a A k B m, tval b A' k' B' m'] w1 (CelsPost (staysL a b) w1)) := hid (fun h w1 hb => stays_any a b A k B m A' k' B' m' w1 (rb.step hb) (tabI_zero (bothE_zero h).1).2.1 (ra'.step hb) la' (rb'.step hb) lb')
  have HS2 : Hid (bothE a b = 0 → ∀ w1, Below w.heap.size w w1 → Calls Tryz.prog 36 #[tval b A' k' B' m', tval a A k B m] w1 (CelsPost (staysL b a) w1)) := hid (fun h w1 hb => stays_any b a A' k' B' m' A k B m w1 (rb'.step hb) (tabI_zero (bothE_zero h).2.1).2.1 (ra.step hb) la (rb.step hb) lb)
  have HLN : Hid (bothE a b = 0 → (staysL a b).length ≤ 400 ∧ (staysL b a).length ≤ 400) := hid (fun h => ⟨Nat.le_trans (staysL_len a b) (tabI_zero (bothE_zero h).1).2.1, Nat.le_trans (staysL_len b a) (tabI_zero (bothE_zero h).2.1).2.1⟩)
  have HUN : Hid (bothE a b = 0 → ∀ x ∈ staysL a b ++ staysL b a, ∀ y ∈ staysL a b ++ staysL b a, x.d = y.d → x = y) := hid (fun h => stays_unique h)
  have HML := hid (show mergeL a b = cptG ((staysL a b ++ staysL b a).mergeSort celLe) from rfl)
  obtain ⟨L1, hL1⟩ : ∃ L, L = staysL a b := ⟨_, rfl⟩
  obtain ⟨L2, hL2⟩ : ∃ L, L = staysL b a := ⟨_, rfl⟩
  rw [← hL1] at HS1 HLN HUN HML
  rw [← hL2] at HS2 HLN HUN HML
  clear hL1 hL2
  have hX1 : (bothE a b ≠ 0 ∨ joinE a.c b.c ≠ 0 ∨ 400 < (mergeL a b).length) → mergeX a b = zT := fun h => by unfold mergeX; rw [if_pos h]
  have hX2 : bothE a b = 0 → joinE a.c b.c = 0 → ¬ 400 < (mergeL a b).length → mergeX a b = ⟨joinX a.c b.c, mergeL a b⟩ := fun h1 h2 h3 => by unfold mergeX; rw [if_neg (by simp [h1, h2, h3])]
  have hE : mergeE a b = if bothE a b ≠ 0 then bothE a b else if joinE a.c b.c ≠ 0 then joinE a.c b.c else if 400 < (mergeL a b).length then 2 else 0 := rfl
  obtain ⟨R, hR⟩ : ∃ R, R = mergeX a b := ⟨_, rfl⟩
  obtain ⟨RE, hRE⟩ : ∃ RE, RE = mergeE a b := ⟨_, rfl⟩
  rw [← hR, ← hRE]
  rw [← hR] at hX1 hX2
  rw [← hRE] at hE
  clear hR hRE
  obtain ⟨ML, hML⟩ : ∃ ML, ML = mergeL a b := ⟨_, rfl⟩
  rw [← hML] at HML hX1 hX2 hE
  clear hML
  obtain ⟨J, hJ⟩ : ∃ J, J = joinX a.c b.c := ⟨_, rfl⟩
  obtain ⟨JE, hJE⟩ : ∃ J, J = joinE a.c b.c := ⟨_, rfl⟩
  rw [← hJ, ← hJE] at HJ
  rw [← hJ] at hX2
  rw [← hJE] at hX1 hX2 hE
  clear hJ hJE
  obtain ⟨BE, hBE⟩ : ∃ J, J = bothE a b := ⟨_, rfl⟩
  rw [← hBE] at HBO HS1 HS2 HLN HUN hX1 hX2 hE
  clear hBE
  have HX1 := hid hX1
  have HX2 := hid hX2
  have HE := hid hE
  clear hX1 hX2 hE ra rb ra' rb'
  obtain ⟨⟨c0, c1, c2, c3, al⟩, l⟩ := a
  obtain ⟨⟨f0, f1, f2, f3, bl⟩, l'⟩ := b
  simp only [tval, cval] at HBO HJ HS1 HS2 ⊢
  go_enter Tryz.func14, Tryz.ntmps14
  go_wp2_with fail
  refine (HBO.out _ (by (repeat' (first | (with_reducible exact Below.refl _ _) | (with_reducible assumption) | (with_reducible refine below_drewN ?_ _) | (with_reducible refine Below.drew ?_) | (with_reducible refine Below.alloc ?_ ?_ _) | (with_reducible refine Below.setCell ?_ ?_ _) | (refine Below.trans ?_ (Below.mono (by assumption) ?_)) | go_size)))).mono ?_
  rintro e w1 ⟨rfl, hb1⟩
  have HBW := hid (show Below w.heap.size w w1 from (by refine Below.step' ?_ hb1; (repeat' (first | (with_reducible exact Below.refl _ _) | (with_reducible assumption) | (with_reducible refine below_drewN ?_ _) | (with_reducible refine Below.drew ?_) | (with_reducible refine Below.alloc ?_ ?_ _) | (with_reducible refine Below.setCell ?_ ?_ _) | (refine Below.trans ?_ (Below.mono (by assumption) ?_)) | go_size))))
  have HXA := hid (Blk.step (w := _) (b := w.heap.size) (cs := #[.int .i64 c0, .int .i64 c1, .int .i64 c2, .int .i64 c3, .slice A al.length k, .slice B l.length m]) (T := 28) (by exact ((Blk.new w _ _).alloc _).alloc _) hb1)
  have HXB := hid (Blk.step (w := _) (b := w.heap.size + 1) (cs := #[.int .i64 f0, .int .i64 f1, .int .i64 f2, .int .i64 f3, .slice A' bl.length k', .slice B' l'.length m']) (T := 28) (by exact (Blk.new' (w.alloc _) _ _ (by simp)).alloc _) hb1)
  have HXR := hid (Blk.step (w := _) (b := w.heap.size + 1 + 1) (cs := #[.int .i64 0, .int .i64 0, .int .i64 0, .int .i64 0, .slice none 0 0, .slice none 0 0]) (T := 28) (by exact Blk.new' ((w.alloc _).alloc _) _ _ (by simp)) hb1)
  clear hb1
  have hs := HBW.out.size
  have hxr := HXR.out.lt
  by_cases qB : BE = 0
  rotate_left
  · have t1 : (BE != 0) = true := by simpa using qB
    have E1 : Hid (R = zT) := hid (HX1.out (.inl qB))
    have E2 : Hid (RE = BE) := hid (by have e := HE.out; rw [if_pos qB] at e; exact e)
    clear qB
    have hR := HXR.out
    obtain ⟨⟨r0, r1, r2, r3, r4, r5⟩, f0, f1, f2, f3, f4, f5⟩ := hR.six
    have HR6 := hid (Blk.set6 hR (.int .i64 0) (.int .i64 0) (.int .i64 0) (.int .i64 0) (.slice none 0 0) (.slice none 0 0))
    have HB6 := hid (Below.set6 HBW.out (show w.heap.size ≤ w.heap.size + 1 + 1 by omega) (.int .i64 0) (.int .i64 0) (.int .i64 0) (.int .i64 0) (.slice none 0 0) (.slice none 0 0))
    clear hR
    go_wp2
    obtain ⟨⟨q0, q1, q2, q3, q4, q5⟩, -⟩ := HR6.out.six
    exact bodyPost_ret (v := .tuple #[tval zT none 0 none 0, .int .i64 BE]) (by simp [results, Tryz.results14, go_sem, q0, q1, q2, q3, q4, q5, zT]) rfl ⟨none, 0, none, 0, by rw [E1.out, E2.out], by rw [E1.out]; exact Row.nil, by rw [E1.out]; exact Row.nil, HB6.out, newAt_none _, newAt_none _⟩
  · subst qB
    have KS1 := hid (HS1.out (by first | rfl | trivial))
    have KS2 := hid (HS2.out (by first | rfl | trivial))
    obtain ⟨hl1, hl2⟩ := HLN.out (by first | rfl | trivial)
    have KUN := hid (HUN.out (by first | rfl | trivial))
    clear HS1 HS2 HLN HUN HBO
    obtain ⟨cHXA, fHXA, sHXA, nHXA⟩ := HXA.out.all
    try simp only [cbox] at cHXA
    obtain ⟨cHXB, fHXB, sHXB, nHXB⟩ := HXB.out.all
    try simp only [cbox] at cHXB
    go_wp2_with fail
    refine (HJ.out _ HBW.out).mono ?_
    rintro e w2 ⟨A2, k2, rfl, hr2, hb2, hn2⟩
    clear cHXA fHXA sHXA nHXA
    clear cHXB fHXB sHXB nHXB
    replace HXA := hid (HXA.out.step hb2)
    replace HXB := hid (HXB.out.step hb2)
    replace HXR := hid (HXR.out.step hb2)
    have hs1 := HBW.out.size
    have hs12 : w1.heap.size ≤ w2.heap.size := hb2.size
    replace HBW := hid (Below.step' HBW.out hb2)
    have HR2 := hid hr2
    have HN2 := hid (show NewAt w1.heap.size A2 from hn2)
    clear hb2 hr2 hn2
    obtain ⟨j0, j1, j2, j3, jl⟩ := J
    simp only [cval] at HR2 ⊢
    by_cases qJ : JE = 0
    rotate_left
    · have t1 : (JE != 0) = true := by simpa using qJ
      have E1 : Hid (R = zT) := hid (HX1.out (.inr (.inl qJ)))
      have E2 : Hid (RE = JE) := hid (by have e := HE.out; rw [if_neg (by simp), if_pos qJ] at e; exact e)
      clear qJ
      replace HXR := hid (HXR.out.alloc (.cells #[.int .i64 j0, .int .i64 j1, .int .i64 j2, .int .i64 j3, .slice A2 jl.length k2] 25))
      replace HBW := hid (HBW.out.alloc HBW.out.size (.cells #[.int .i64 j0, .int .i64 j1, .int .i64 j2, .int .i64 j3, .slice A2 jl.length k2] 25))
      obtain ⟨Wz, hWz⟩ : ∃ Wz : World, Wz = w2.alloc (.cells #[.int .i64 j0, .int .i64 j1, .int .i64 j2, .int .i64 j3, .slice A2 jl.length k2] 25) := ⟨_, rfl⟩
      rw [← hWz] at HXR HBW
      go_upto_region 6 with fail
      rw [← hWz]
      clear hWz
      have hR := HXR.out
      obtain ⟨⟨r0, r1, r2, r3, r4, r5⟩, f0, f1, f2, f3, f4, f5⟩ := hR.six
      have HR6 := hid (Blk.set6 hR (.int .i64 0) (.int .i64 0) (.int .i64 0) (.int .i64 0) (.slice none 0 0) (.slice none 0 0))
      have HB6 := hid (Below.set6 HBW.out (show w.heap.size ≤ w.heap.size + 1 + 1 by omega) (.int .i64 0) (.int .i64 0) (.int .i64 0) (.int .i64 0) (.slice none 0 0) (.slice none 0 0))
      clear hR
      go_wp2
      obtain ⟨⟨q0, q1, q2, q3, q4, q5⟩, -⟩ := HR6.out.six
      exact bodyPost_ret (v := .tuple #[tval zT none 0 none 0, .int .i64 JE]) (by simp [results, Tryz.results14, go_sem, q0, q1, q2, q3, q4, q5, zT]) rfl ⟨none, 0, none, 0, by rw [E1.out, E2.out], by rw [E1.out]; exact Row.nil, by rw [E1.out]; exact Row.nil, HB6.out, newAt_none _, newAt_none _⟩
    · subst qJ
      have hBz : Below w2.heap.size w2 (w2.alloc (.cells #[.int .i64 j0, .int .i64 j1, .int .i64 j2, .int .i64 j3, .slice A2 jl.length k2] 25)) := (Below.refl _ _).alloc (Nat.le_refl _) _
      have HXC := hid (Blk.new w2 #[.int .i64 j0, .int .i64 j1, .int .i64 j2, .int .i64 j3, .slice A2 jl.length k2] 25)
      replace HXA := hid (HXA.out.step hBz)
      replace HXB := hid (HXB.out.step hBz)
      replace HXR := hid (HXR.out.step hBz)
      replace HR2 := hid (HR2.out.step hBz)
      replace HBW := hid (Below.step' HBW.out hBz)
      obtain ⟨W, hW⟩ : ∃ W : World, W = w2.alloc (.cells #[.int .i64 j0, .int .i64 j1, .int .i64 j2, .int .i64 j3, .slice A2 jl.length k2] 25) := ⟨_, rfl⟩
      rw [← hW] at HXA HXB HXR HR2 HBW HXC
      go_upto_region 7 with fail
      rw [← hW]
      have hlc : w2.heap.size < W.heap.size := HXC.out.lt
      clear hW hBz
      have hbw := HBW.out
      have PS1 := hid (fun w1 (hb : Below W.heap.size W w1) => KS1.out w1 (Below.step' hbw hb))
      have PS2 := hid (fun w1 (hb : Below W.heap.size W w1) => KS2.out w1 (Below.step' hbw hb))
      clear hbw KS1 KS2
      have hl63 : L1.length + L2.length ≤ maxLen := by simp only [maxLen]; omega
      have hl47 : (L1.length + L2.length) * 40 ≤ 140737488355328 := by omega
      have hlt2 : (tcells L2).length = L2.length * 5 := flat_len Cel.len L2
      have ho2 := tcells_one L2
      obtain ⟨cHXA, fHXA, sHXA, nHXA⟩ := HXA.out.all
      try simp only [cbox] at cHXA
      obtain ⟨cHXB, fHXB, sHXB, nHXB⟩ := HXB.out.all
      try simp only [cbox] at cHXB
      go_region_held3 (fun w' => (∀ b o, b < W.heap.size → w'.cell? ⟨b, o, none⟩ = W.cell? ⟨b, o, none⟩) ∧ Below W.heap.size W w')
        ((go_split_ands; refine keepS ?_; first | (with_reducible assumption) | (with_reducible exact (Below.refl _ _).drew)))
        (first
          | (go_split_ands; go_at_call 36; (with_reducible refine (PS1.out _ (by with_reducible assumption)).mono ?_); rintro e w5 ⟨v5, rfl, hown5, hb5⟩; obtain ⟨A5, c5, rfl⟩ := own_formS hown5; have hB5 := Below.step' (by with_reducible assumption : Below W.heap.size W _) hb5)
          | (go_split_ands; go_at_call 36; (with_reducible refine (PS2.out _ (by with_reducible assumption)).mono ?_); rintro e w6 ⟨v6, rfl, hown6, hb6⟩; obtain ⟨A6, c6, rfl⟩ := own_formS hown6; have hB6 := Below.step' (by with_reducible assumption : Below W.heap.size W _) hb6; have hown5' := own_laterS hown5 hb6)
          | (go_split_ands; refine step_append_row el_cel (by rfl) _ _ (by rfl) _ (.slice A5 L1.length c5) L1.length (tcells L1) (by rfl) hown5' A6 L2.length c6 _ (tcells L2) (by rfl) hlt2 (Row.of_ownS hown6) ho2 hl63 hl47 (Nat.le_trans (by simp) (by with_reducible assumption : Below W.heap.size W w6).size) ?_; intro v8 w8 hown8 hg8 _; have hB8 := below_grown (by with_reducible assumption : Below W.heap.size W w6) hg8 hown5 (by simp)))
      have hbw8 : Below W.heap.size W w8 := by with_reducible assumption
      have hown8' : w8.ownsRow W.heap.size 59 5 v8 (L1 ++ L2).length (tcells (L1 ++ L2)) := by
        rw [List.length_append, show tcells (L1 ++ L2) = tcells L1 ++ tcells L2 by simp [tcells]]
        exact own_baseS hown8 (by simp)
      have HB8 := hid hbw8
      have HO8 := hid hown8'
      clear hown8 hown8' hbw8 hg8
      have hsz8 := HB8.out.size
      go_wp2_with fail
      refine (sortC_own cmpMerge (L1 ++ L2) _ HO8.out (by rw [List.length_append]; omega)).mono ?_
      rintro e w9 ⟨rfl, M, hperm, hpair, hown9, hg9⟩
      have hMM := sort_one KUN.out hperm hpair
      have hMl : M.length ≤ 800 := by rw [hperm.length_eq, List.length_append]; omega
      have HB9 := hid (below_grown HB8.out hg9 HO8.out (Nat.le_refl _))
      have HO9 := hid hown9
      have HMM := hid (show ML = cptG M by rw [hMM]; exact HML.out)
      clear hperm hpair hown9 hg9 hMM
      go_wp2_with fail
      refine (compactC_own M _ HO9.out (by omega)).mono ?_
      rintro e w10 ⟨v10, rfl, hown10, hg10, -⟩
      have HB10 := hid (below_grown HB9.out hg10 HO9.out (Nat.le_refl _))
      rw [← HMM.out] at hown10
      obtain ⟨A10, c10, rfl⟩ := own_formS hown10
      have HROW := hid (Row.of_ownS hown10)
      have HN10 := hid (own_newS hown10 (Nat.le_refl _))
      have hs10 := HB10.out.size
      have hb10 := HB10.out
      clear hown10 hg10
      replace HXR := hid (HXR.out.step hb10)
      replace HXC := hid (HXC.out.step hb10)
      replace HR2 := hid (HR2.out.step hb10)
      replace HBW := hid (Below.step' HBW.out hb10)
      clear hb10
      by_cases q4 : 400 < ML.length
      · have t1 : decide ((400 : Int) < (ML.length : Int)) = true := by simp; omega
        have E1 : Hid (R = zT) := hid (HX1.out (.inr (.inr q4)))
        have E2 : Hid (RE = 2) := hid (by have e := HE.out; rw [if_neg (by simp), if_neg (by simp), if_pos q4] at e; exact e)
        clear q4
        have hR := HXR.out
        obtain ⟨⟨r0, r1, r2, r3, r4, r5⟩, f0, f1, f2, f3, f4, f5⟩ := hR.six
        have HR6 := hid (Blk.set6 hR (.int .i64 0) (.int .i64 0) (.int .i64 0) (.int .i64 0) (.slice none 0 0) (.slice none 0 0))
        have HB6 := hid (Below.set6 HBW.out (show w.heap.size ≤ w.heap.size + 1 + 1 by omega) (.int .i64 0) (.int .i64 0) (.int .i64 0) (.int .i64 0) (.slice none 0 0) (.slice none 0 0))
        clear hR
        go_wp2
        obtain ⟨⟨q0, q1, q2, q3, q4, q5⟩, -⟩ := HR6.out.six
        exact bodyPost_ret (v := .tuple #[tval zT none 0 none 0, .int .i64 2]) (by simp [results, Tryz.results14, go_sem, q0, q1, q2, q3, q4, q5, zT]) rfl ⟨none, 0, none, 0, by rw [E1.out, E2.out], by rw [E1.out]; exact Row.nil, by rw [E1.out]; exact Row.nil, HB6.out, newAt_none _, newAt_none _⟩
      · have t1 : decide ((400 : Int) < (ML.length : Int)) = false := by simp; omega
        have E1 := hid (HX2.out (by first | rfl | trivial) (by first | rfl | trivial) q4)
        have E2 : Hid (RE = 0) := hid (by have e := HE.out; rw [if_neg (by simp), if_neg (by simp), if_neg q4] at e; exact e)
        clear q4
        have hR := HXR.out
        obtain ⟨⟨r0, r1, r2, r3, r4, r5⟩, f0', f1', f2', f3', f4', f5'⟩ := hR.six
        have HR6 := hid (Blk.set6 hR (.int .i64 j0) (.int .i64 j1) (.int .i64 j2) (.int .i64 j3) (.slice A2 jl.length k2) (.slice A10 ML.length c10))
        have HB6 := hid (Below.set6 HBW.out (show w.heap.size ≤ w.heap.size + 1 + 1 by omega) (.int .i64 j0) (.int .i64 j1) (.int .i64 j2) (.int .i64 j3) (.slice A2 jl.length k2) (.slice A10 ML.length c10))
        have HROW1 := hid (Row.set6 HR2.out HN2.out (show w.heap.size + 1 + 1 < w1.heap.size by omega) (.int .i64 j0) (.int .i64 j1) (.int .i64 j2) (.int .i64 j3) (.slice A2 jl.length k2) (.slice A10 ML.length c10))
        have HROW2 := hid (Row.set6 HROW.out HN10.out (show w.heap.size + 1 + 1 < W.heap.size by omega) (.int .i64 j0) (.int .i64 j1) (.int .i64 j2) (.int .i64 j3) (.slice A2 jl.length k2) (.slice A10 ML.length c10))
        clear hR
        obtain ⟨⟨x0, x1, x2, x3, x4⟩, -⟩ := HXC.out.five
        have bt := fun B n m w => build_tab j0 j1 j2 j3 A2 B jl.length k2 n m w
        have HQ := hid HR6.out.six.1
        go_wp2_with (refine bodyPost_ret (v := .tuple #[tval ⟨⟨j0, j1, j2, j3, jl⟩, ML⟩ A2 k2 A10 c10, .int .i64 0]) ?h1 rfl ?h2)
        case h1 =>
          obtain ⟨q0, q1, q2, q3, q4, q5⟩ := HQ.out
          simp [results, Tryz.results14, go_sem, q0, q1, q2, q3, q4, q5]
        case h2 =>
          exact ⟨A2, k2, A10, c10, by rw [E1.out, E2.out], by rw [E1.out]; exact HROW1.out, by rw [E1.out]; exact HROW2.out,
            HB6.out, fun b off q e => Nat.le_trans hs (HN2.out b off q e), fun b off q e => Nat.le_trans (Nat.le_trans (by omega) (Nat.le_of_lt hlc)) (HN10.out b off q e)⟩
end Go.Proofs.YtmcdaibdpeeefaaGreat
/- The plain law of merging: what it tells is a right table; its dots and its cells; a lattice. -/
namespace Go.Proofs.YtmcdaibdpeeefaaGreat
set_option linter.unusedVariables false
open Go.ChangeShapes Go.WideShapes Go.ChangeAt Go.RowKit

theorem celOk_iff {c : Ctx} {x : Cel} : celOk c x = true ↔ rightB x.d.1 x.d.2 = true ∧ hasB c x.d = true ∧ inB x.key 0 49 = true ∧ inB x.col 0 2 = true ∧ inB x.val (-1000) 1000 = true := by
  simp [celOk, and_assoc]
/-- A right table. -/
theorem tabI_iff {t : Tab} : tabI t = 0 ↔ okC t.c ∧ t.c.cloud.length ≤ 400 ∧ t.cells.length ≤ 400 ∧ (∀ x ∈ t.cells, celOk t.c x = true) ∧ t.cells.Pairwise (fun x y => before x.d y.d = true) := by
  constructor
  · intro h
    obtain ⟨h1, h2, h3⟩ := tabI_zero h
    obtain ⟨h4, h5⟩ := (checkI_iff _).1 h1
    refine ⟨h4, h5, h2, fun x hx => ?_, cells_sorted h⟩
    obtain ⟨i, hi, rfl⟩ := List.getElem_of_mem hx
    have hb := h3 i hi
    rw [badCel_at hi] at hb
    simp only [Bool.or_eq_false_iff, Bool.not_eq_false'] at hb
    exact hb.1
  · rintro ⟨h1, h2, h3, h4, h5⟩
    refine tabI_ok ((checkI_iff _).2 ⟨h1, h2⟩) h3 fun i hi => ?_
    rw [badCel_at hi, h4 _ (List.getElem_mem hi)]
    simp only [Bool.not_true, Bool.false_or, Bool.and_eq_false_iff, decide_eq_false_iff_not, Bool.not_eq_false']
    rcases Nat.eq_zero_or_pos i with h0 | h0
    · left; omega
    · right
      have e : t.cells.getD (i - 1) ⟨(0, 0), 0, 0, 0⟩ = t.cells[i - 1] := by simp [List.getD, show i - 1 < t.cells.length by omega]
      rw [e]
      exact List.pairwise_iff_getElem.1 h5 (i - 1) i (by omega) hi (by omega)
theorem tab_has {t : Tab} (h : tabI t = 0) {x : Cel} (hx : x ∈ t.cells) : hasB t.c x.d = true := (celOk_iff.1 ((tabI_iff.1 h).2.2.2.1 x hx)).2.1

/-- Sorted lists of cells of the same members are one. -/
theorem cells_ext {l m : List Cel} (hl : l.Pairwise (fun x y => before x.d y.d = true)) (hm : m.Pairwise (fun x y => before x.d y.d = true)) (h : ∀ x, x ∈ l ↔ x ∈ m) : l = m := by
  have irr : ∀ d : Int × Int, before d d = true → False := fun d hd => by simp only [before_iff] at hd; omega
  have nd : ∀ {l : List Cel}, l.Pairwise (fun x y => before x.d y.d = true) → l.Nodup := fun {l} h => h.imp fun {x y} hxy e => by subst e; exact irr _ hxy
  have hp : l.Perm m := (List.perm_ext_iff_of_nodup (nd hl) (nd hm)).2 h
  refine List.Perm.eq_of_pairwise (le := fun x y => before x.d y.d = true) ?_ hl hm hp
  intro x y _ _ h1 h2
  simp only [before_iff] at h1 h2
  omega
theorem tab_ext {s t : Tab} (hs : tabI s = 0) (ht : tabI t = 0) (hc : ∀ d, hasB s.c d = hasB t.c d) (hx : ∀ x, x ∈ s.cells ↔ x ∈ t.cells) : s = t := by
  obtain ⟨a1, -, -, -, a5⟩ := tabI_iff.1 hs
  obtain ⟨b1, -, -, -, b5⟩ := tabI_iff.1 ht
  have e1 := okC_ext a1 b1 hc
  have e2 := cells_ext a5 b5 hx
  cases s; cases t; simp only at e1 e2; rw [e1, e2]

theorem cptG_mem {α : Type} [DecidableEq α] (x : α) : ∀ l : List α, x ∈ cptG l ↔ x ∈ l
  | [] => by simp [cptG]
  | [a] => by simp [cptG]
  | a :: b :: r => by
    have ih := cptG_mem x (b :: r)
    unfold cptG
    split
    · rename_i e
      subst e
      rw [ih]; simp
    · rw [List.mem_cons, ih, List.mem_cons (a := x) (b := a)]
theorem cptG_sorted {l : List Cel} (hs : l.Pairwise (fun x y => celLe x y = true)) (hu : ∀ x ∈ l, ∀ y ∈ l, x.d = y.d → x = y) : (cptG l).Pairwise (fun x y => before x.d y.d = true) := by
  induction l with
  | nil => exact List.Pairwise.nil
  | cons a l ih =>
    obtain ⟨h1, h2⟩ := List.pairwise_cons.1 hs
    have ih' := ih h2 fun x hx y hy => hu x (List.mem_cons_of_mem _ hx) y (List.mem_cons_of_mem _ hy)
    cases l with
    | nil => simp [cptG]
    | cons b r =>
      unfold cptG
      split
      · exact ih'
      · rename_i hab
        refine List.Pairwise.cons (fun y hy => ?_) ih'
        rw [cptG_mem] at hy
        have hay := h1 y hy
        have hne : a ≠ y := by
          intro e
          subst e
          rcases List.mem_cons.1 hy with e | hy'
          · exact hab e
          · have hba := (List.pairwise_cons.1 h2).1 a hy'
            have hab' := h1 b (by simp)
            exact hab (hu a (by simp) b (by simp) (celLe_same hab' hba))
        have hd : a.d ≠ y.d := fun e => hne (hu a (by simp) y (List.mem_cons_of_mem _ hy) e)
        simp only [celLe, celLt, Bool.not_eq_true'] at hay
        have hnb : ¬ before y.d a.d = true := by rw [hay]; simp
        rw [before_iff] at hnb ⊢
        have : ¬ (a.d.1 = y.d.1 ∧ a.d.2 = y.d.2) := fun ⟨h, h'⟩ => hd (Prod.ext h h')
        omega
theorem mergeL_mem {a b : Tab} {x : Cel} : x ∈ mergeL a b ↔ (x ∈ a.cells ∧ (hasB b.c x.d = false ∨ x ∈ b.cells)) ∨ (x ∈ b.cells ∧ (hasB a.c x.d = false ∨ x ∈ a.cells)) := by
  unfold mergeL
  rw [cptG_mem, List.mem_mergeSort, List.mem_append]
  unfold staysL
  simp only [List.mem_filter, staysB, Bool.or_eq_true, Bool.not_eq_true', decide_eq_true_eq]
theorem mergeL_sorted {a b : Tab} (h : bothE a b = 0) : (mergeL a b).Pairwise (fun x y => before x.d y.d = true) := by
  unfold mergeL
  refine cptG_sorted (List.pairwise_mergeSort celLe_trans celLe_total _) fun x hx y hy e => ?_
  rw [List.mem_mergeSort] at hx hy
  exact stays_unique h x hx y hy e

/-- When a merge succeeds. -/
theorem mergeE_zero {a b : Tab} : mergeE a b = 0 ↔ bothE a b = 0 ∧ joinE a.c b.c = 0 ∧ (mergeL a b).length ≤ 400 := by
  unfold mergeE
  by_cases h1 : bothE a b = 0
  · rw [if_neg (by simp [h1])]
    by_cases h2 : joinE a.c b.c = 0
    · rw [if_neg (by simp [h2])]
      by_cases h3 : 400 < (mergeL a b).length
      · rw [if_pos h3]; simp; omega
      · rw [if_neg h3]; simp [h1, h2]; omega
    · rw [if_pos h2]; simp [h2]
  · rw [if_pos h1]; simp [h1]
theorem bothE_iff {a b : Tab} : bothE a b = 0 ↔ tabI a = 0 ∧ tabI b = 0 ∧ ∀ x ∈ a.cells, ∀ y ∈ b.cells, x.d = y.d → x = y := by
  refine ⟨bothE_zero, fun ⟨h1, h2, h3⟩ => ?_⟩
  unfold bothE
  rw [if_neg (by simp [h1]), if_neg (by simp [h2]), if_neg]
  rw [Bool.not_eq_true, List.any_eq_false]
  intro y hy
  unfold clashB
  rw [Bool.not_eq_true, List.any_eq_false]
  intro x hx
  by_cases e : x.d = y.d
  · have := h3 x hx y hy e
    simp [this]
  · simp [e]
/-- What a merge that succeeds tells. -/
theorem merge_ok {a b : Tab} (h : mergeE a b = 0) : tabI (mergeX a b) = 0 ∧ (∀ d, hasB (mergeX a b).c d = (hasB a.c d || hasB b.c d)) ∧
    ∀ x, x ∈ (mergeX a b).cells ↔ (x ∈ a.cells ∧ (hasB b.c x.d = false ∨ x ∈ b.cells)) ∨ (x ∈ b.cells ∧ (hasB a.c x.d = false ∨ x ∈ a.cells)) := by
  obtain ⟨h1, h2, h3⟩ := mergeE_zero.1 h
  obtain ⟨t1, t2, -⟩ := bothE_iff.1 h1
  obtain ⟨e, ha, hb, hj, hc, hh⟩ := joinX_ok h2
  have eX : mergeX a b = ⟨joinX a.c b.c, mergeL a b⟩ := by unfold mergeX; rw [if_neg (by simp [h1, h2]; omega)]
  rw [eX]
  simp only
  rw [e]
  refine ⟨tabI_iff.2 ⟨hj, ((checkI_iff _).1 hc).2, h3, fun x hx => ?_, mergeL_sorted h1⟩, hh, fun x => mergeL_mem⟩
  have ok : (x ∈ a.cells ∨ x ∈ b.cells) := by
    rcases mergeL_mem.1 hx with h | h
    · exact .inl h.1
    · exact .inr h.1
  rcases ok with hx | hx
  · have := celOk_iff.1 ((tabI_iff.1 t1).2.2.2.1 x hx)
    exact celOk_iff.2 ⟨this.1, by simp only; rw [hh, this.2.1]; rfl, this.2.2⟩
  · have := celOk_iff.1 ((tabI_iff.1 t2).2.2.2.1 x hx)
    exact celOk_iff.2 ⟨this.1, by simp only; rw [hh, this.2.1]; simp, this.2.2⟩
theorem merge_parts {a b : Tab} (h : mergeE a b = 0) : tabI a = 0 ∧ tabI b = 0 ∧ ∀ x ∈ a.cells, ∀ y ∈ b.cells, x.d = y.d → x = y := bothE_iff.1 (mergeE_zero.1 h).1
theorem mergeL_comm {a b : Tab} (h : bothE a b = 0) (h' : bothE b a = 0) : mergeL a b = mergeL b a :=
  cells_ext (mergeL_sorted h) (mergeL_sorted h') fun x => by rw [mergeL_mem, mergeL_mem]; exact or_comm
theorem bothE_comm {a b : Tab} (h : bothE a b = 0) : bothE b a = 0 := by
  obtain ⟨h1, h2, h3⟩ := bothE_iff.1 h
  exact bothE_iff.2 ⟨h2, h1, fun x hx y hy e => (h3 y hy x hx e.symm).symm⟩
theorem mergeE_comm {a b : Tab} (h : mergeE a b = 0) : mergeE b a = 0 := by
  obtain ⟨h1, h2, h3⟩ := mergeE_zero.1 h
  have h4 := bothE_comm h1
  exact mergeE_zero.2 ⟨h4, joinE_comm.1 h2, by rw [mergeL_comm h4 h1]; exact h3⟩
theorem mergeX_comm {a b : Tab} (h : mergeE a b = 0) : mergeX a b = mergeX b a := by
  obtain ⟨h1, h2, h3⟩ := merge_ok h
  obtain ⟨g1, g2, g3⟩ := merge_ok (mergeE_comm h)
  refine tab_ext h1 g1 (fun d => by rw [h2, g2, Bool.or_comm]) fun x => by rw [h3, g3]; exact or_comm

/-- A merge with a part that is in it already. -/
theorem merge_again {s a : Tab} (hs : tabI s = 0) (ha : tabI a = 0) (hu : ∀ x ∈ s.cells, ∀ y ∈ a.cells, x.d = y.d → x = y) (hc : ∀ d, hasB a.c d = true → hasB s.c d = true)
    (hin : ∀ x ∈ s.cells, hasB a.c x.d = true → x ∈ a.cells) : mergeE s a = 0 ∧ mergeX s a = s := by
  obtain ⟨s1, s2, s3, s4, s5⟩ := tabI_iff.1 hs
  obtain ⟨a1, a2, a3, a4, a5⟩ := tabI_iff.1 ha
  have hb : bothE s a = 0 := bothE_iff.2 ⟨hs, ha, hu⟩
  have ct := checkI_two ((checkI_iff s.c).2 ⟨s1, s2⟩) ((checkI_iff a.c).2 ⟨a1, a2⟩)
  obtain ⟨j1, j2⟩ := join_ok s1 a1
  have ej : joinC s.c a.c = s.c := okC_ext j1 s1 fun d => by
    rw [Bool.eq_iff_iff, j2]
    exact ⟨fun h => h.elim id (hc d), .inl⟩
  have hj : joinE s.c a.c = 0 := joinE_zero.2 ⟨ct, by rw [ej]; exact s2⟩
  have hm : mergeL s a = s.cells := cells_ext (mergeL_sorted hb) s5 fun x => by
    rw [mergeL_mem]
    constructor
    · rintro (h | ⟨h, h'⟩)
      · exact h.1
      · rcases h' with h' | h'
        · have := hc x.d (celOk_iff.1 (a4 x h)).2.1
          rw [h'] at this; cases this
        · exact h'
    · intro h
      left
      refine ⟨h, ?_⟩
      cases q : hasB a.c x.d
      · exact .inl rfl
      · exact .inr (hin x h q)
  have hz : mergeE s a = 0 := mergeE_zero.2 ⟨hb, hj, by rw [hm]; exact s3⟩
  refine ⟨hz, ?_⟩
  unfold mergeX
  rw [if_neg (by simp [hb, hj, hm]; omega), hm, (joinX_ok hj).1, ej]
theorem merge_idem {a b : Tab} (h : mergeE a b = 0) : mergeE (mergeX a b) a = 0 ∧ mergeX (mergeX a b) a = mergeX a b ∧ mergeE (mergeX a b) (mergeX a b) = 0 ∧ mergeX (mergeX a b) (mergeX a b) = mergeX a b := by
  obtain ⟨t1, t2, t3⟩ := merge_parts h
  obtain ⟨h1, h2, h3⟩ := merge_ok h
  have ua := cells_unique t1
  have us := cells_unique h1
  have r1 := merge_again (s := mergeX a b) (a := a) h1 t1 (fun x hx y hy e => by
    rcases (h3 x).1 hx with h | h
    · exact ua x h.1 y hy e
    · exact (t3 y hy x h.1 e.symm).symm) (fun d hd => by rw [h2, hd]; rfl) (fun x hx hd => by
    rcases (h3 x).1 hx with h | ⟨h, h'⟩
    · exact h.1
    · rcases h' with h' | h'
      · rw [hd] at h'; cases h'
      · exact h')
  have r2 := merge_again (s := mergeX a b) (a := mergeX a b) h1 h1 us (fun d hd => hd) (fun x hx _ => hx)
  exact ⟨r1.1, r1.2, r2.1, r2.2⟩
theorem merge_assoc {a b c : Tab} (h : mergeE a b = 0) (h1 : mergeE (mergeX a b) c = 0) (h2 : mergeE b c = 0) (h3 : mergeE a (mergeX b c) = 0) : mergeX (mergeX a b) c = mergeX a (mergeX b c) := by
  obtain ⟨ta, tb, -⟩ := merge_parts h
  obtain ⟨-, tc, -⟩ := merge_parts h2
  obtain ⟨-, p2, p3⟩ := merge_ok h
  obtain ⟨q1, q2, q3⟩ := merge_ok h1
  obtain ⟨-, r2, r3⟩ := merge_ok h2
  obtain ⟨s1, s2, s3⟩ := merge_ok h3
  refine tab_ext q1 s1 (fun d => by rw [q2, s2, p2, r2, Bool.or_assoc]) fun x => ?_
  have ha := fun hx => tab_has ta (x := x) hx
  have hb := fun hx => tab_has tb (x := x) hx
  have hc := fun hx => tab_has tc (x := x) hx
  rw [q3, s3, p3, r3, p2, r2]
  by_cases xa : x ∈ a.cells <;> by_cases xb : x ∈ b.cells <;> by_cases xc : x ∈ c.cells <;> cases ya : hasB a.c x.d <;> cases yb : hasB b.c x.d <;> cases yc : hasB c.c x.d <;> simp_all
end Go.Proofs.YtmcdaibdpeeefaaGreat
