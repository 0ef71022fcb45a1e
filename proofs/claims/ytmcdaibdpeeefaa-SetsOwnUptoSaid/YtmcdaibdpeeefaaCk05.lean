/- Zgr, Frame, OpenI -/
import Derived.Test.YtmcdaibdpeeefaaCk04
import Derived.Test.YtmcdaibdpeeefaaRows
import Derived.Below
import Derived.ChangeSame
import Derived.Carry
import Derived.WalkKit
import Derived.ProofKit
import Derived.OpenShut
import Derived.Test.YtmcdaibdpeeefaaCk02
import Derived.Deep.Slices
import Derived.JoinedCond
/- viewkeep.ZsetGroup: the walk. -/
namespace Go.Proofs.Ytmcdaibdpeeefaa
set_option linter.unusedVariables false
open Go.ChangeShapes Go.WideShapes Go.ChangeAt Go.RowKit

/-- What is known of a list of items of a call's own making, in whatever later world. -/
def Got (w : World) (A : Option Addr) (M : List IR) : Prop := RowI w w.heap.size A M ∧ M.length ≤ 9223372036854775807
theorem Got.step {w w' : World} {A : Option Addr} {M : List IR} (h : Got w A M) (hb : Below w.heap.size w w') : Got w' A M := ⟨h.1.step hb, h.2⟩
/-- A right set, or none: a list of 400 items at most. -/
def ItsSmall (S : List It) (x : Int) (w : World) (e : Ending) (w' : World) : Prop :=
  ∃ (A : Option Addr) (k : Nat) (M : List IR), e = .returned (.tuple #[.slice A M.length k, .int .i64 x]) ∧ its M = S ∧ Got w' A M ∧ Below w.heap.size w w'
theorem ItsErr.small {S : List It} {x : Int} {w : World} (hS : S.length ≤ 400) {e : Ending} {w' : World} (h : ItsErr S x w e w') : ItsSmall S x w e w' := by
  obtain ⟨A, k, M, he, hi, ho, hn, hb⟩ := h
  exact ⟨A, k, M, he, hi, ⟨⟨Row.of_ownS ho, hn.rows⟩, by rw [← its_len, hi]; omega⟩, hb⟩
theorem normX_len (l : List It) : (normX l).length ≤ 400 := by
  by_cases h : normE l = 0
  · exact (setI_zero.1 (norm_set h).1).1
  · unfold normX; rw [if_neg h]; decide
theorem addX_len (a b : List It) : (addX a b).length ≤ 400 := by
  by_cases h : addE a b = 0
  · unfold addX
    rw [if_pos h]
    unfold addE at h
    by_cases h1 : setI a = 0
    · by_cases h2 : setI b = 0
      · rw [if_neg (by simp [h1]), if_neg (by simp [h2])] at h; exact (doneE_zero.1 h).1
      · rw [if_neg (by simp [h1]), if_pos h2] at h; exact absurd h h2
    · rw [if_pos h1] at h; exact absurd h h1
  · unfold addX; rw [if_neg h]; decide
theorem negX_len (a : List It) : (negX a).length ≤ 400 := by
  unfold negX
  by_cases h : setI a = 0
  · rw [if_pos h]; exact (setI_zero.1 (neg_set h)).1
  · rw [if_neg h]; decide
theorem norm_small (M : List IR) (A : Option Addr) (c : Nat) (w : World) (h : Got w A M) : Calls Try.prog 9 #[.slice A M.length c] w (ItsSmall (normX (its M)) (normE (its M)) w) :=
  (norm_any M A c w h.1 h.2).mono fun _ _ h => h.small (normX_len _)
theorem neg_small (M : List IR) (A : Option Addr) (c : Nat) (w : World) (h : Got w A M) : Calls Try.prog 10 #[.slice A M.length c] w (ItsSmall (negX (its M)) (setI (its M)) w) :=
  (neg_any M A c w h.1 h.2).mono fun _ _ h => h.small (negX_len _)
theorem add_small (M1 M2 : List IR) (A1 A2 : Option Addr) (c1 c2 : Nat) (w : World) (h1 : Got w A1 M1) (h2 : Got w A2 M2) : Calls Try.prog 11 #[.slice A1 M1.length c1, .slice A2 M2.length c2] w (ItsSmall (addX (its M1) (its M2)) (addE (its M1) (its M2)) w) :=
  (add_any M1 M2 A1 A2 c1 c2 w h1.1 h1.2 h2.1 h2.2).mono fun _ _ h => h.small (addX_len _ _)
theorem same_true (M1 M2 : List IR) (A1 A2 : Option Addr) (c1 c2 : Nat) (w : World) (h1 : Got w A1 M1) (h2 : Got w A2 M2) (he : its M1 = its M2) : Calls Try.prog 13 #[.slice A1 M1.length c1, .slice A2 M2.length c2] w fun e w' => e = .returned (.bool true) ∧ Below w.heap.size w w' := by
  have := sameSet_any M1 M2 A1 A2 c1 c2 w h1.1 h1.2 h2.1 h2.2
  rwa [decide_eq_true he] at this

def ConstPost (w : World) (e : Ending) (w' : World) : Prop := ∃ b off k, e = .returned (.tuple #[.slice (some ⟨b, off, none⟩) 1 k, .int .i64 0]) ∧ w'.cell? ⟨b, off + 1, none⟩ = some (.int .i64 5) ∧ b < w'.heap.size ∧ Below w.heap.size w w'
theorem const_any (w : World) : Calls Try.prog 9 #[.slice (some ⟨w.heap.size + 1 + 1 + 1, 0, none⟩) 3 3]
    ((((w.alloc (.cells #[.int .i64 2] 3)).alloc (.cells #[.int .i64 1] 3)).alloc (.cells #[.int .i64 2] 3)).alloc (.cells #[.slice (some ⟨w.heap.size, 0, none⟩) 1 1, .int .i64 1, .slice (some ⟨w.heap.size + 1, 0, none⟩) 1 1, .int .i64 5, .slice (some ⟨w.heap.size + 1 + 1, 0, none⟩) 1 1, .int .i64 (-1)] 28)) (ConstPost w) := by
  have r0 : Row (w.alloc (.cells #[.int .i64 2] 3)) (w.alloc (.cells #[.int .i64 2] 3)).heap.size (some ⟨w.heap.size, 0, none⟩) (icells' [2]) := Row.new' _ _ _ rfl rfl (by simp)
  have r1 : Row ((w.alloc (.cells #[.int .i64 2] 3)).alloc (.cells #[.int .i64 1] 3)) ((w.alloc (.cells #[.int .i64 2] 3)).alloc (.cells #[.int .i64 1] 3)).heap.size (some ⟨w.heap.size + 1, 0, none⟩) (icells' [1]) := Row.new' _ _ _ (by simp) rfl (by simp)
  have r2 : Row (((w.alloc (.cells #[.int .i64 2] 3)).alloc (.cells #[.int .i64 1] 3)).alloc (.cells #[.int .i64 2] 3)) (((w.alloc (.cells #[.int .i64 2] 3)).alloc (.cells #[.int .i64 1] 3)).alloc (.cells #[.int .i64 2] 3)).heap.size (some ⟨w.heap.size + 1 + 1, 0, none⟩) (icells' [2]) := Row.new' _ _ _ (by simp) rfl (by simp)
  have h := norm_small [⟨[2], some ⟨w.heap.size, 0, none⟩, 1, 1⟩, ⟨[1], some ⟨w.heap.size + 1, 0, none⟩, 1, 5⟩, ⟨[2], some ⟨w.heap.size + 1 + 1, 0, none⟩, 1, -1⟩] (some ⟨w.heap.size + 1 + 1 + 1, 0, none⟩) 3
    ((((w.alloc (.cells #[.int .i64 2] 3)).alloc (.cells #[.int .i64 1] 3)).alloc (.cells #[.int .i64 2] 3)).alloc (.cells #[.slice (some ⟨w.heap.size, 0, none⟩) 1 1, .int .i64 1, .slice (some ⟨w.heap.size + 1, 0, none⟩) 1 1, .int .i64 5, .slice (some ⟨w.heap.size + 1 + 1, 0, none⟩) 1 1, .int .i64 (-1)] 28))
    ⟨⟨Row.new' _ _ _ (by simp) rfl (by simp), fun x hx => by
      simp only [List.mem_cons, List.not_mem_nil, or_false] at hx
      rcases hx with rfl | rfl | rfl
      · exact ⟨((r0.alloc _).alloc _).alloc _, by simp⟩
      · exact ⟨(r1.alloc _).alloc _, by simp⟩
      · exact ⟨r2.alloc _, by simp⟩⟩, by simp⟩
  have e : its [⟨[2], some ⟨w.heap.size, 0, none⟩, 1, 1⟩, ⟨[1], some ⟨w.heap.size + 1, 0, none⟩, 1, 5⟩, ⟨[2], some ⟨w.heap.size + 1 + 1, 0, none⟩, 1, -1⟩] = [([2], 1), ([1], 5), ([2], -1)] := rfl
  rw [e, group_const.1, group_const.2] at h
  refine h.mono ?_
  rintro e w' ⟨A, k, M, rfl, hi, hg, hb⟩
  have hl : M.length = 1 := by rw [← its_len, hi]; rfl
  obtain ⟨b, off, rfl, hlt, -, h1⟩ := hg.1.1.it (show 0 < M.length by omega)
  have hn : M[0].n = 5 := by
    have h3 : (its M)[0]? = some ([1], 5) := by rw [hi]; rfl
    rw [List.getElem?_eq_getElem (by rw [its_len]; omega)] at h3
    simp only [its, List.getElem_map, IR.it, Option.some.injEq, Prod.mk.injEq] at h3
    exact h3.2
  rw [hn] at h1
  exact ⟨b, off, k, by rw [hl], by simpa using h1, hlt, by refine Below.step' ?_ hb; (repeat' (first | (with_reducible exact Below.refl _ _) | (with_reducible assumption) | (with_reducible refine below_drewN ?_ _) | (with_reducible refine Below.drew ?_) | (with_reducible refine Below.alloc ?_ ?_ _) | (with_reducible refine Below.setCell ?_ ?_ _) | (refine Below.trans ?_ (Below.mono (by assumption) ?_)) | go_size))⟩

set_option maxHeartbeats 4000000 in
set_option maxRecDepth 100000 in
theorem group_any (M1 M2 M3 : List IR) (A1 A2 A3 : Option Addr) (c1 c2 c3 : Nat) (w : World) (h1 : Got w A1 M1) (h2 : Got w A2 M2) (h3 : Got w A3 M3) :
    Calls Try.prog 3 #[.slice A1 M1.length c1, .slice A2 M2.length c2, .slice A3 M3.length c3] w fun e w' => e = .returned (.bool true) ∧ Below w.heap.size w w' := by
  have HN1 := hid (fun w1 (hb : Below w.heap.size w w1) => norm_small M1 A1 c1 w1 (h1.step hb))
  have HN2 := hid (fun w1 (hb : Below w.heap.size w w1) => norm_small M2 A2 c2 w1 (h2.step hb))
  have HN3 := hid (fun w1 (hb : Below w.heap.size w w1) => norm_small M3 A3 c3 w1 (h3.step hb))
  have HS1 : Hid (normE (its M1) = 0 → setI (normX (its M1)) = 0) := hid fun h => (norm_set h).1
  have HS2 : Hid (normE (its M2) = 0 → setI (normX (its M2)) = 0) := hid fun h => (norm_set h).1
  have HS3 : Hid (normE (its M3) = 0 → setI (normX (its M3)) = 0) := hid fun h => (norm_set h).1
  clear h1 h2 h3
  obtain ⟨E1, hE1⟩ : ∃ q, q = normE (its M1) := ⟨_, rfl⟩
  obtain ⟨E2, hE2⟩ : ∃ q, q = normE (its M2) := ⟨_, rfl⟩
  obtain ⟨E3, hE3⟩ : ∃ q, q = normE (its M3) := ⟨_, rfl⟩
  obtain ⟨X1, hX1⟩ : ∃ q, q = normX (its M1) := ⟨_, rfl⟩
  obtain ⟨X2, hX2⟩ : ∃ q, q = normX (its M2) := ⟨_, rfl⟩
  obtain ⟨X3, hX3⟩ : ∃ q, q = normX (its M3) := ⟨_, rfl⟩
  rw [← hE1, ← hX1] at HN1 HS1
  rw [← hE2, ← hX2] at HN2 HS2
  rw [← hE3, ← hX3] at HN3 HS3
  clear hE1 hE2 hE3 hX1 hX2 hX3
  go_enter Try.func3, Try.ntmps3
  go_wp2_with fail
  -- STOP-a
  refine (const_any w).mono ?_
  rintro e w0 ⟨b0, off0, k0, rfl, h50, hb00, hb0⟩
  have HBW := hid hb0
  clear hb0
  go_wp2_with fail
  -- STOP-b
  refine (HN1.out _ HBW.out).mono ?_
  rintro e w1 ⟨Aa, ka, Ma, rfl, hia, hga, hb1⟩
  have HGA := hid hga
  have HIA := hid hia
  replace HBW := hid (Below.step' HBW.out hb1)
  clear hga hia hb1 h50 hb00 HN1
  go_wp2_with fail
  refine (HN2.out _ HBW.out).mono ?_
  rintro e w2 ⟨Ab, kb, Mb, rfl, hib, hgb, hb2⟩
  have HGB := hid hgb
  have HIB := hid hib
  replace HGA := hid (HGA.out.step hb2)
  replace HBW := hid (Below.step' HBW.out hb2)
  clear hgb hib hb2 HN2
  go_wp2_with fail
  refine (HN3.out _ HBW.out).mono ?_
  rintro e w3 ⟨Ac, kc, Mc, rfl, hic, hgc, hb3⟩
  have HGC := hid hgc
  have HIC := hid hic
  replace HGA := hid (HGA.out.step hb3)
  replace HGB := hid (HGB.out.step hb3)
  replace HBW := hid (Below.step' HBW.out hb3)
  clear hgc hic hb3 HN3
  by_cases q1 : E1 = 0
  rotate_left
  · have t1 : (E1 != 0) = true := by simpa using q1
    clear q1
    go_wp2
    go_ret
    exact ⟨rfl, HBW.out⟩
  subst q1
  by_cases q2 : E2 = 0
  rotate_left
  · have t1 : (E2 != 0) = true := by simpa using q2
    clear q2
    go_wp2
    go_ret
    exact ⟨rfl, HBW.out⟩
  subst q2
  by_cases q3 : E3 = 0
  rotate_left
  · have t1 : (E3 != 0) = true := by simpa using q3
    clear q3
    go_wp2
    go_ret
    exact ⟨rfl, HBW.out⟩
  subst q3
  have SA : Hid (setI (its Ma) = 0) := hid (by rw [HIA.out]; exact HS1.out (by first | rfl | trivial))
  have SB : Hid (setI (its Mb) = 0) := hid (by rw [HIB.out]; exact HS2.out (by first | rfl | trivial))
  have SC : Hid (setI (its Mc) = 0) := hid (by rw [HIC.out]; exact HS3.out (by first | rfl | trivial))
  clear HS1 HS2 HS3 HIA HIB HIC
  have hneg := neg_small Ma Aa ka w3 HGA.out
  rw [SA.out, show negX (its Ma) = negL (its Ma) by unfold negX; rw [if_pos SA.out]] at hneg
  have HNG := hid hneg
  clear hneg
  go_wp2_with fail
  -- STOP-c
  refine HNG.out.mono ?_
  rintro e w4 ⟨An, kn, Mn, rfl, hin, hgn, hb4⟩
  have hadd := add_small Ma Mn Aa An ka kn w4 (HGA.out.step hb4) hgn
  rw [hin, (add_neg SA.out).1, (add_neg SA.out).2] at hadd
  have HAD := hid hadd
  replace HGA := hid (HGA.out.step hb4)
  replace HGB := hid (HGB.out.step hb4)
  replace HGC := hid (HGC.out.step hb4)
  replace HBW := hid (Below.step' HBW.out hb4)
  clear hadd hin hgn hb4 HNG
  go_wp2_with fail
  refine HAD.out.mono ?_
  rintro e w5 ⟨Az, kz, Mz, rfl, hiz, hgz, hb5⟩
  obtain rfl : Mz = [] := List.map_eq_nil_iff.1 hiz
  replace HGA := hid (HGA.out.step hb5)
  replace HGB := hid (HGB.out.step hb5)
  replace HGC := hid (HGC.out.step hb5)
  replace HBW := hid (Below.step' HBW.out hb5)
  clear hiz hgz hb5 HAD
  have hck := zcheck_any Ma Aa ka w5 HGA.out.1 HGA.out.2
  rw [SA.out] at hck
  have HCK := hid hck
  clear hck
  go_wp2_with fail
  -- STOP-d
  refine HCK.out.mono ?_
  rintro e w6 ⟨rfl, hb6⟩
  replace HGA := hid (HGA.out.step hb6)
  replace HGB := hid (HGB.out.step hb6)
  replace HGC := hid (HGC.out.step hb6)
  replace HBW := hid (Below.step' HBW.out hb6)
  clear hb6 HCK
  have hadd := add_small Ma Mb Aa Ab ka kb w6 HGA.out HGB.out
  have HST : Hid (addE (its Ma) (its Mb) = 0 → setI (addX (its Ma) (its Mb)) = 0) := hid fun h => (add_set SA.out SB.out h).1
  have hcm := add_comm SA.out SB.out
  have has := fun h h' => add_assoc SA.out SB.out SC.out h h'
  obtain ⟨E4, hE4⟩ : ∃ q, q = addE (its Ma) (its Mb) := ⟨_, rfl⟩
  obtain ⟨X4, hX4⟩ : ∃ q, q = addX (its Ma) (its Mb) := ⟨_, rfl⟩
  obtain ⟨E5, hE5⟩ : ∃ q, q = addE (its Mb) (its Mc) := ⟨_, rfl⟩
  obtain ⟨X5, hX5⟩ : ∃ q, q = addX (its Mb) (its Mc) := ⟨_, rfl⟩
  rw [← hE4, ← hX4] at hadd hcm
  rw [← hE4, ← hE5, ← hX4, ← hX5] at has
  have HAD := hid hadd
  have HCM := hid hcm
  have HAS := hid has
  have HE5 := hid (show addE (its Mb) (its Mc) = E5 from hE5.symm)
  have HX5 := hid (show addX (its Mb) (its Mc) = X5 from hX5.symm)
  clear hadd hcm has hE4 hX4 hE5 hX5 HST
  go_wp2_with fail
  refine HAD.out.mono ?_
  rintro e w7 ⟨Aab, kab, Mab, rfl, hiab, hgab, hb7⟩
  have HGAB := hid hgab
  have HIAB := hid hiab
  replace HGA := hid (HGA.out.step hb7)
  replace HGB := hid (HGB.out.step hb7)
  replace HGC := hid (HGC.out.step hb7)
  replace HBW := hid (Below.step' HBW.out hb7)
  clear hgab hiab hb7 HAD
  have hadd := add_small Mb Mc Ab Ac kb kc w7 HGB.out HGC.out
  rw [HE5.out, HX5.out] at hadd
  have HAD := hid hadd
  clear hadd HE5 HX5
  go_wp2_with fail
  refine HAD.out.mono ?_
  rintro e w8 ⟨Abc, kbc, Mbc, rfl, hibc, hgbc, hb8⟩
  have HGBC := hid hgbc
  have HIBC := hid hibc
  replace HGAB := hid (HGAB.out.step hb8)
  replace HGA := hid (HGA.out.step hb8)
  replace HGB := hid (HGB.out.step hb8)
  replace HGC := hid (HGC.out.step hb8)
  replace HBW := hid (Below.step' HBW.out hb8)
  clear hgbc hibc hb8 HAD
  by_cases q4 : E4 = 0
  rotate_left
  · have t1 : (E4 != 0) = true := by simpa using q4
    clear q4
    go_wp2
    go_ret
    exact ⟨rfl, HBW.out⟩
  subst q4
  by_cases q5 : E5 = 0
  rotate_left
  · have t1 : (E5 != 0) = true := by simpa using q5
    clear q5
    go_wp2
    go_ret
    exact ⟨rfl, HBW.out⟩
  subst q5
  have hadd := add_small Mb Ma Ab Aa kb ka w8 HGB.out HGA.out
  rw [← HCM.out.1, ← HCM.out.2] at hadd
  have HAD := hid hadd
  clear hadd HCM
  go_wp2_with fail
  -- STOP-e
  refine HAD.out.mono ?_
  rintro e w9 ⟨Aba, kba, Mba, rfl, hiba, hgba, hb9⟩
  have HSE := hid (same_true Mab Mba Aab Aba kab kba w9 (HGAB.out.step hb9) hgba (by rw [hiba]; exact HIAB.out))
  replace HGAB := hid (HGAB.out.step hb9)
  replace HGBC := hid (HGBC.out.step hb9)
  replace HGA := hid (HGA.out.step hb9)
  replace HGC := hid (HGC.out.step hb9)
  replace HBW := hid (Below.step' HBW.out hb9)
  clear hiba hgba hb9 HAD HGB
  go_wp2_with fail
  refine (ksum_any _ 0 w9 rfl).mono ?_
  rintro e w9' ⟨rfl, rfl⟩
  go_wp2_with fail
  refine HSE.out.mono ?_
  rintro e w10 ⟨rfl, hb10⟩
  replace HGAB := hid (HGAB.out.step hb10)
  replace HGBC := hid (HGBC.out.step hb10)
  replace HGA := hid (HGA.out.step hb10)
  replace HGC := hid (HGC.out.step hb10)
  replace HBW := hid (Below.step' HBW.out hb10)
  clear hb10 HSE
  have has := HAS.out (by first | rfl | trivial) (by first | rfl | trivial)
  have hadd := add_small Mab Mc Aab Ac kab kc w10 HGAB.out HGC.out
  rw [HIAB.out] at hadd
  have hadd2 := fun w' (hb : Below w10.heap.size w10 w') => add_small Ma Mbc Aa Abc ka kbc w' (HGA.out.step hb) (HGBC.out.step hb)
  rw [HIBC.out] at hadd2
  rw [← has.1, ← has.2] at hadd2
  obtain ⟨E6, hE6⟩ : ∃ q, q = addE X4 (its Mc) := ⟨_, rfl⟩
  obtain ⟨X6, hX6⟩ : ∃ q, q = addX X4 (its Mc) := ⟨_, rfl⟩
  rw [← hE6, ← hX6] at hadd hadd2
  have HAD := hid hadd
  have HAD2 := hid hadd2
  have tE : (E6 != E6) = false := by simp
  clear hadd hadd2 has hE6 hX6 HAS
  go_wp2_with fail
  refine HAD.out.mono ?_
  rintro e w11 ⟨Al, kl, Ml, rfl, hil, hgl, hb11⟩
  have HGL := hid hgl
  have HIL := hid hil
  have HB11 := hid hb11
  replace HBW := hid (Below.step' HBW.out hb11)
  clear hil hgl hb11 HAD
  go_wp2_with fail
  refine (HAD2.out _ HB11.out).mono ?_
  rintro e w12 ⟨Ar, kr, Mr, rfl, hir, hgr, hb12⟩
  have HSE := hid (same_true Ml Mr Al Ar kl kr w12 (HGL.out.step hb12) hgr (by rw [hir]; exact HIL.out))
  replace HBW := hid (Below.step' HBW.out hb12)
  clear hir hgr hb12 HAD2
  go_wp2_with fail
  -- STOP-f
  refine HSE.out.mono ?_
  rintro e w13 ⟨rfl, hb13⟩
  have HB13 := hid (Below.step' HBW.out hb13)
  clear hb13 HSE
  go_wp2
  go_ret
  exact ⟨rfl, HB13.out⟩
end Go.Proofs.Ytmcdaibdpeeefaa
/- The frame that the laws of this seat share: a call that answers true and turns nothing below the heap's size fits the row. No law in sight. -/
namespace Go.Proofs.Ytmcdaibdpeeefaa
set_option linter.unusedVariables false
open Go.ChangeShapes Go.WideShapes Go.ChangeAt Go.RowKit

section
variable {H : Type} {enc : TypeId × Value → H} {P : Program}

theorem trodAll_stays (hl : laidOutB P = true) {W W' : World} (hb : Below W.heap.size W W') {sp : Nat → Bool} :
    ∀ {ts : List TypeId} {vs : List Value} {ds : List (DataW H)} {ps : List MemPlace}, (∀ t ∈ ts, P.readableRec t = true ∧ t < P.types.size) →
      DataW.TrodAll enc P W 0 (fun _ => true) true ts vs ds ps → (∀ x ∈ ps, x.block < W.heap.size) → (∀ x ∈ ps, sp x.block = true) → DataW.TrodAll enc P W' 0 sp true ts vs ds ps
  | [], _, _, _, _, h, _, _ => by
    obtain ⟨rfl, rfl, rfl⟩ := trodAll_nil h
    exact trodAll_mk0
  | t :: ts, _, _, _, ht, h, hlt, hs => by
    obtain ⟨v, vs, d, ds, p, q, rfl, rfl, rfl, h1, h2⟩ := trodAll_cons h
    have ht0 := ht t (by simp)
    exact ⟨p, q, WideElems.Trod_stays hl ht0.1 ht0.2 h1 (fun x hx => hb.same (hlt x (by simp [hx]))) (fun x hx => hs x (by simp [hx])),
      trodAll_stays hl hb (fun u hu => ht u (by simp [hu])) h2 (fun x hx => hlt x (by simp [hx])) (fun x hx => hs x (by simp [hx])), rfl⟩

theorem trodAll_len {W : World} {sp : Nat → Bool} {hd : Bool} {b : Nat} : ∀ {ts : List TypeId} {vs : List Value} {ds : List (DataW H)} {ps : List MemPlace}, DataW.TrodAll enc P W b sp hd ts vs ds ps → ds.length = ts.length
  | [], _, _, _, h => by
    obtain ⟨rfl, rfl, rfl⟩ := trodAll_nil h
    rfl
  | t :: ts, _, _, _, h => by
    obtain ⟨v, vs, d, ds, p, q, rfl, rfl, rfl, h1, h2⟩ := trodAll_cons h
    simp [trodAll_len h2]

theorem law_post {f : Func} {s : ChangeSpec} {W W' : World} {args : Array Value} {ds gs : List (DataW H)} {before : List MemPlace} {tb : TypeId} (hl : laidOutB P = true)
    (hts : ∀ t ∈ f.params.toList, P.readableRec t = true ∧ t < P.types.size) (hres : f.resultTypes = #[tb]) (hbool : P.underlying tb = some .bool) (hvars : s.vars = [])
    (hspec : ∀ es : List (DataW H), es.length = f.params.toList.length → s.fn H es = { results := [.lit (.bool true)], args := es })
    (hW : DataW.Whole enc P f.params.toList s.vars false W args.toList ds gs before) (hb : Below W.heap.size W W') : s.post enc P f false true false false W args (.bool true) W' := by
  have hlt := hW.lt
  have hold : ∀ x ∈ before, (fun b => decide (b < W.heap.size)) x.block = true := fun x hx => by simpa using hlt x hx
  have hW0 := hW
  obtain ⟨p, q, hA, hV, rfl, hz, hn⟩ := hW
  rw [hvars] at hV
  obtain ⟨rfl, rfl⟩ := trodVars_none hV
  have hsp := hspec ds (trodAll_len hA)
  have hargs : ∀ sp : Nat → Bool, (∀ x ∈ p, sp x.block = true) → DataW.TrodAll enc P W' 0 sp true f.params.toList args.toList ds p := fun sp h =>
    trodAll_stays hl hb hts hA (fun x hx => hlt x (by simp [hx])) h
  have hr : ∀ (b : Nat) (sp : Nat → Bool) (hd : Bool), DataW.TrodAll enc P W' b sp hd f.resultTypes.toList ((Value.bool true).resultList f.resultTypes.size) [.lit (.bool true)] [] := by
    intro b sp hd
    rw [hres]
    exact trodAll_cons_mk (shut_bool hbool _) trodAll_mk0
  refine ⟨ds, [], p ++ [], [], p, [], hW0, ?_, ?_, ?_, World.keptBut_mono (fun x hx => ⟨hx, .inr (by simpa using hx)⟩) (hb.frame (· ∈ p ++ [])), fun _ => ?_⟩
  · rw [List.append_nil, hsp]; exact hr _ _ _
  · rw [List.append_nil, hsp]; exact hargs _ (fun x hx => by simpa using hlt x (by simp [hx]))
  · rw [List.append_nil, hsp, hvars]; rfl
  · refine ⟨ok_one hres rfl (okWide_bool_mk hbool _), [.lit (.bool true)] ++ ds, [], p ++ [], ⟨p, [], ?_, by rw [hvars]; rfl, rfl, ?_, fun h => by cases h⟩, fun x hx _ => by simpa using hx⟩
    · have h := trodAll_append (hargs (fun _ => true) (fun _ _ => rfl)) (hr 0 (fun _ => true) true)
      simpa using h
    · intro b off hx
      rw [hb.frozen (hlt _ hx)]
      exact hz b off hx
end

/-- The row's step of a law: its walk, from the arguments as they are read, is all that is left. -/
theorem law_lifted {C : Checked} {os : Os} {f : FuncId} {fn : Func} {s : ChangeSpec} {conds : List PathCond} {H : Type} {enc : TypeId × Value → H} {tb : TypeId}
    (own : ownKnob C.prog.godebug = none) (started : os.Started) (noInit : C.prog.inits.idxOf? f = none) (hfn : C.prog.funcs[f]? = some fn)
    (witness : ∃ (w : World) (tape : Tape) (i : Input), w.os = os ∧ (w.forCall tape i).Shaped C.prog ∧ i.vars = [] ∧ Input.okWide C.prog (w.forCall tape i) .any w.heap.size f i ∧
      s.pre6 enc C.prog fn conds false (w.forCall tape i).memory i.args ∧ ({} : Assume).holds C.prog (lone (Frame.enter C.prog f i.args .normal) [] (w.forCall tape i)))
    (hl : laidOutB C.prog = true) (hts : ∀ t ∈ fn.params.toList, C.prog.readableRec t = true ∧ t < C.prog.types.size) (hres : fn.resultTypes = #[tb]) (hbool : C.prog.underlying tb = some .bool) (hvars : s.vars = [])
    (hspec : ∀ es : List (DataW H), es.length = fn.params.toList.length → s.fn H es = { results := [.lit (.bool true)], args := es })
    (walk : ∀ (W : World) (base : Nat) (args : Array Value) (ds : List (DataW H)) (ps : List MemPlace),
      (∀ (j : Nat) t v, fn.params[j]? = some t → args[j]? = some v → Value.okWide C.prog W .any base t v) → DataW.TrodAll enc C.prog W 0 (fun _ => true) true fn.params.toList args.toList ds ps →
      Calls C.prog f args W fun e W' => e = .returned (.bool true) ∧ Below W.heap.size W W') :
    ReturnsInHanded {} C os f .any (s.pre6 enc C.prog fn conds false) (s.post enc C.prog fn false true false false) := by
  refine returnsInHanded_of_change (C := C) own started noInit hfn witness ?_
  intro W base args ds gs before hval hW hcnd _
  have hW' := hW
  obtain ⟨p, q, hA, _⟩ := hW
  refine (walk W base args ds p hval hA).mono fun e W' ⟨he, hb⟩ => ?_
  exact ⟨_, he, law_post hl hts hres hbool hvars hspec hW' hb⟩
end Go.Proofs.Ytmcdaibdpeeefaa
/- Arguments that are lists of items, or of ints, as a claim reads them. -/
namespace Go.Proofs.Ytmcdaibdpeeefaa
set_option linter.unusedVariables false
open Go.ChangeShapes Go.WideShapes Go.ChangeAt Go.RowKit Go.Deep

theorem bulk_one {H : Type} (d : DataW H) : 1 ≤ Rows.uptoBulk d := by
  cases d with
  | lit l => cases l <;> simp [Rows.uptoBulk]
  | nil => simp [Rows.uptoBulk]
  | ptr d => simp [Rows.uptoBulk]
  | slice elems spare => simp [Rows.uptoBulk]
  | agg parts => simp [Rows.uptoBulk]
  | iface t d => simp [Rows.uptoBulk]
  | map entries => simp [Rows.uptoBulk]
  | held h => simp [Rows.uptoBulk]
theorem bulk_len {H : Type} (l : List (DataW H)) : l.length ≤ Rows.uptoBulkAll l := by
  induction l with
  | nil => simp [Rows.uptoBulkAll]
  | cons x r ih => have := bulk_one x; simp only [Rows.uptoBulkAll, List.length_cons]; omega
theorem bulk_slice {H : Type} (elems spare : List (DataW H)) : elems.length + 1 ≤ Rows.uptoBulk (.slice elems spare) := by
  have h1 := bulk_len elems
  simp only [Rows.uptoBulk]
  omega
theorem bulk_part {H : Type} {d : DataW H} {l : List (DataW H)} (h : d ∈ l) : Rows.uptoBulk d ≤ Rows.uptoBulkAll l := by
  induction l with
  | nil => cases h
  | cons x r ih =>
    simp only [Rows.uptoBulkAll]
    cases List.mem_cons.1 h with
    | inl e => subst e; omega
    | inr e => have := ih e; omega

/-- A slice of things of s cells each, as the claim reads it. -/
theorem open_each {α H : Type} {f : α → List Value} {s : Nat} (hf : ∀ x, (f x).length = s) (hs : 0 < s) {Q : α → Prop} {enc : TypeId × Value → H} {w : World} {base n : Nat} {spare : Nat → Bool} {held : Bool} {cs : List Value} {x : DataW H × List MemPlace} {t e : TypeId}
    (ht : Try.prog.underlying t = some (.slice e)) (hc : Try.prog.cellsOf e = s)
    (ho : ∀ n cs y, DataW.trod enc Try.prog w base spare held n e cs = some y → ∃ z : α, Q z ∧ cs = f z)
    (h : DataW.trod enc Try.prog w base spare held n t cs = some x) :
    ∃ (A : Option Addr) (k : Nat) (l : List α), cs = [.slice A l.length k] ∧ Row w w.heap.size A (l.flatMap f) ∧ (∀ z ∈ l, Q z) ∧ l.length ≤ 9223372036854775807 ∧ l.length ≤ Rows.uptoBulk x.1 := by
  rcases open_slice ht h with ⟨rfl, hx⟩ | ⟨a, len, cap, m, n', D, Pl, rfl, hb, hl, hm, hmm, hx, hi⟩
  · exact ⟨none, 0, [], rfl, Row.nil, by simp, by simp, by simp⟩
  · by_cases h0 : len = 0
    · subst h0
      exact ⟨some a, cap, [], rfl, Row.nil, by simp, by simp, by simp⟩
    · have hlm : len ≤ m := by rw [hmm]; split <;> omega
      have hd : ∀ i, i < len → ∃ z : α, Q z ∧ ∀ j u, (f z)[j]? = some u → w.cell? ((a.add (i * s)).add j) = some u := by
        intro i hil
        obtain ⟨cs', hc', ht'⟩ := hi i (by omega)
        obtain ⟨z, hq, rfl⟩ := ho _ _ _ ht'
        rw [hc] at hc'
        obtain ⟨_, _, hat⟩ := World.cells?_some hc'
        refine ⟨z, hq, fun j u hu => ?_⟩
        have hj : j < s := by
          rcases Nat.lt_or_ge j s with q | q
          · exact q
          · rw [List.getElem?_eq_none (by rw [hf]; exact q)] at hu; cases hu
        rw [hat j hj]; exact hu
      obtain ⟨b, off, spot⟩ := a
      obtain ⟨z0, _, hz0⟩ := hd 0 (by omega)
      have hu0 : (f z0)[0]? = some ((f z0)[0]'(by rw [hf]; exact hs)) := List.getElem?_eq_getElem _
      have hx0 := hz0 0 _ hu0
      have hspot : spot = none := by simpa [Addr.add] using World.cell?_spot hx0
      subst hspot
      have hblk : b < w.heap.size := World.block_lt_of_cell? _ _ (by simpa [Addr.add] using hx0)
      obtain ⟨l, hll, hql, hr⟩ := Row.of_each hf (w := w) (b := b) (off := off) (n := len) hblk (Q := Q) (fun i hil => by
        obtain ⟨z, hq, hz⟩ := hd i hil
        refine ⟨z, hq, fun j u hu => ?_⟩
        have := hz j u hu
        rw [add_none, add_none, Nat.add_assoc] at this
        exact this)
      subst hll
      refine ⟨some ⟨b, off, none⟩, cap, l, rfl, hr, hql, ?_, ?_⟩
      · simp only [maxLen] at hm
        omega
      · rw [hx]
        have := bulk_slice ((List.range l.length).map D) ((List.range (m - l.length)).map fun j => D (l.length + j))
        simp only [List.length_map, List.length_range] at this
        simp only
        omega


set_option maxRecDepth 100000 in
theorem open_ints_cells {H : Type} {enc : TypeId × Value → H} {w : World} {base n : Nat} {spare : Nat → Bool} {held : Bool} {cs : List Value} {x : DataW H × List MemPlace}
    (h : DataW.trod enc Try.prog w base spare held n 26 cs = some x) : ∃ (A : Option Addr) (k : Nat) (l : List Int), cs = [.slice A l.length k] ∧ Row w w.heap.size A (icells' l) ∧ l.length ≤ 9223372036854775807 ∧ l.length ≤ Rows.uptoBulk x.1 := by
  obtain ⟨A, k, l, e, hr, hq, hl, hb⟩ := open_each (f := fun z : Int => [.int .i64 z]) (s := 1) (Q := fun _ => True) (fun _ => rfl) (by decide) Try.underlying26 (by kernel_rfl) (fun n cs y hy => by
    obtain ⟨z, hz, -⟩ := DataW.trod_int Try.underlying3 hy
    exact ⟨z, trivial, hz⟩) h
  exact ⟨A, k, l, e, by rw [show icells' l = l.flatMap (fun z => [Value.int .i64 z]) from List.map_eq_flatMap]; exact hr, hl, hb⟩
set_option maxRecDepth 100000 in
theorem open_item {H : Type} {enc : TypeId × Value → H} {w : World} {base n : Nat} {spare : Nat → Bool} {held : Bool} {cs : List Value} {x : DataW H × List MemPlace}
    (h : DataW.trod enc Try.prog w base spare held n 28 cs = some x) : ∃ z : IR, (Row w w.heap.size z.A (icells' z.row) ∧ z.row.length ≤ 9223372036854775807) ∧ cs = z.cells := by
  obtain ⟨xs, n', _, hx, hlen, hxl, hf⟩ := DataW.trod_struct Try.underlying28 h
  have c2 : Try.prog.cellsOf 28 = 2 := by kernel_rfl
  have c1 : Try.prog.cellsOf 26 = 1 := by kernel_rfl
  have c1' : Try.prog.cellsOf 3 = 1 := by kernel_rfl
  rw [c2] at hlen
  match cs, hlen with
  | [u0, u1], _ =>
    match xs, hxl with
    | [y0, y1], _ =>
      have h0 := hf 0 _ rfl
      have h1 := hf 1 _ rfl
      simp only [List.getElem_toArray, List.getElem_cons_zero, List.getElem_cons_succ, List.getElem?_cons_zero, List.getElem?_cons_succ] at h0 h1
      simp only [c1, c1', List.drop_zero, List.take_succ_cons, List.take_zero, List.drop_succ_cons] at h0 h1
      obtain ⟨A, k, l, e0, r0, l0, -⟩ := open_ints_cells h0
      obtain ⟨z, e1, _⟩ := DataW.trod_int Try.underlying3 h1
      injection e0 with e0
      injection e1 with e1
      subst e0 e1
      exact ⟨⟨l, A, k, z⟩, ⟨r0, l0⟩, rfl⟩
set_option maxRecDepth 100000 in
theorem arg_items {H : Type} {enc : TypeId × Value → H} {w : World} {r : Reach} {b0 base : Nat} {spare : Nat → Bool} {held : Bool} {v : Value} {d : DataW H} {p : List MemPlace}
    (hv : Value.okWide Try.prog w r b0 22 v) (h : DataW.Trod enc Try.prog w base spare held 22 v d p) :
    ∃ (A : Option Addr) (k : Nat) (M : List IR), v = .slice A M.length k ∧ RowI w w.heap.size A M ∧ M.length ≤ 9223372036854775807 := by
  obtain ⟨a, n, c, rfl⟩ := okWide_slice Try.underlying22 hv
  obtain ⟨m, hm⟩ := h
  obtain ⟨A, k, M, e, hr, hq, hl, -⟩ := open_each (f := IR.cells) (Q := fun z : IR => Row w w.heap.size z.A (icells' z.row) ∧ z.row.length ≤ 9223372036854775807) IR.len (by decide) Try.underlying22 (by kernel_rfl) (fun n cs y hy => open_item hy) hm
  simp only [Value.cells, List.cons.injEq, and_true] at e
  exact ⟨A, k, M, e, ⟨hr, hq⟩, hl⟩
end Go.Proofs.Ytmcdaibdpeeefaa
