/- viewkeep.StableMeets: slices.Clone at Context; the plain law. -/
import Derived.Test.YtogegnikpjcpdaaSettled
import Derived.Test.YtogegnikpjcpdaaLat
namespace Go.Proofs.Ytogegnikpjcpdaa
set_option linter.unusedVariables false
open Go.ChangeShapes Go.WideShapes Go.ChangeAt Go.RowKit

theorem info_ctx : (Try.prog.info? 25).map (fun i => (i.zero, i.size, i.bytes)) = some (some (.agg #[.int .i64 0, .int .i64 0, .int .i64 0, .int .i64 0, .slice none 0 0]), 5, 56) := by kernel_rfl
theorem el_ctx : Elem Try.prog 51 25 5 56 := by
  obtain ⟨i0, h0, h1, h2, h3⟩ := info_parts info_ctx
  exact ⟨Try.underlying51, ⟨i0, _, h0, h1, h2, h3, rfl⟩, by decide⟩
theorem ccells_len (L : List CR) : (ccells L).length = L.length * 5 := flat_len CR.len L
theorem cr_one (x : CR) : ∀ u ∈ x.cells, u.oneCell' = true := by
  intro u hu
  simp only [CR.cells, List.mem_cons, List.not_mem_nil, or_false] at hu
  rcases hu with rfl | rfl | rfl | rfl | rfl <;> rfl
theorem ccells_one (L : List CR) : ∀ u ∈ ccells L, u.oneCell' = true := by
  intro u hu
  obtain ⟨x, -, hx⟩ := List.mem_flatMap.1 hu
  exact cr_one x u hx

set_option maxHeartbeats 400000 in
set_option maxRecDepth 100000 in
theorem cloneC_any (l : List CR) (A : Option Addr) (c : Nat) (w : World) (hr : Row w w.heap.size A (ccells l)) (hl : l.length ≤ 1048576) :
    Calls Try.prog 36 #[.slice A l.length c] w fun e w' => ∃ v, e = .returned v ∧ w'.ownsRow w.heap.size 25 5 v l.length (ccells l) ∧ Below w.heap.size w w' := by
  obtain ⟨i0, hi0, hz0, hz1, hz2⟩ := info_parts info_ctx
  rcases A with _ | ad
  · have he : l = [] := by
      rcases hr with h | ⟨b, off, h, _⟩
      · have := congrArg List.length h
        rw [ccells_len] at this
        exact List.eq_nil_of_length_eq_zero (by simp at this; omega)
      · cases h
    subst he
    have hnil := fun (w : World) => Lib.run_eql_slice_nil w (P := Try.prog) (t := 51) (e := 25) none 0 c 0 0 Try.underlying51
    go_enter Try.func36, Try.ntmps36
    go_wp2
    go_ret
    exact ⟨_, rfl, World.ownsRow_nil _ _ _ _, Below.refl _ _⟩
  · have hnil := fun (w : World) => Lib.run_eql_slice_nil w (P := Try.prog) (t := 51) (e := 25) (some ad) l.length c 0 0 Try.underlying51
    have HR := hid hr
    clear hr
    go_enter Try.func36, Try.ntmps36
    go_wp2_with (at_builtin; refine wpList_append_own_at _ rfl _ _ 51 rfl w.heap.size 25 i0 _ 5 56 Try.underlying51 hi0 hz0 hz1 hz2 rfl (by decide) (.slice (some ⟨w.heap.size, 0, none⟩) 0 0) 0 [] rfl (World.ownsRow_made w #[] 0 (Nat.le_refl _) (by decide) rfl) ad l.length c (ccells l) rfl (by rw [ccells_len]) (HR.out.below (Below.alloc (Below.refl _ _) (Nat.le_refl _) _) (Nat.le_refl _)).news (ccells_one l) ?_ ?_ ?_ ?_; rotate_right; intro v1 w1 hown1 hg1 _ hat1; rotate_left; (simp only [maxLen]; omega); (omega); (simp))
    go_ret
    refine ⟨v1, rfl, by simpa using hown1, ((Below.refl _ _).alloc (Nat.le_refl _) _).grown hg1 (by simp) (fun k hk => ?_)⟩
    simp [Value.ownBlock] at hk
    omega

/-! What the law asks. -/
theorem badL_parts {L : List Ctx} (h : badL L = 0) : (∀ c ∈ L, okC c) ∧ ∀ c ∈ L, c.cloud.length ≤ 400 :=
  ⟨fun c hc => ((checkI_iff c).1 (badL_zero.1 h c hc)).1, fun c hc => ((checkI_iff c).1 (badL_zero.1 h c hc)).2⟩
theorem meetE_zero {L : List Ctx} (h : meetE L = 0) : L ≠ [] ∧ badL L = 0 ∧ (meetC L).cloud.length ≤ 400 ∧ meetX L = meetC L := by
  unfold meetE at h
  by_cases h1 : L = []
  · rw [if_pos h1] at h; cases h
  · rw [if_neg h1] at h
    by_cases h2 : badL L = 0
    · rw [if_neg (by simp [h2])] at h
      by_cases h3 : 400 < (meetC L).cloud.length
      · rw [if_pos h3] at h; cases h
      · exact ⟨h1, h2, by omega, by unfold meetX; rw [if_neg (by simp [h1, h2]; omega)]⟩
    · rw [if_pos h2] at h; exact absurd h h2
theorem meet_facts {L : List Ctx} (h : meetE L = 0) : okC (meetX L) ∧ checkI (meetX L) = 0 ∧ ∀ d, hasB (meetX L) d = allB L d := by
  obtain ⟨h1, h2, h3, h4⟩ := meetE_zero h
  obtain ⟨ok, h400⟩ := badL_parts h2
  obtain ⟨k1, k2⟩ := meet_ok h1 ok
  rw [h4]
  refine ⟨k1, (checkI_iff _).2 ⟨k1, h3⟩, fun d => ?_⟩
  rw [Bool.eq_iff_iff, k2, allB_iff]
/-- With one more there is no more. -/
theorem meet_less {L : List Ctx} {c : Ctx} (h : meetE L = 0) (h' : meetE (L ++ [c]) = 0) : twoI (meetX (L ++ [c])) (meetX L) = 0 ∧ lessX (meetX (L ++ [c])) (meetX L) = true := by
  obtain ⟨a1, a2, a3⟩ := meet_facts h
  obtain ⟨b1, b2, b3⟩ := meet_facts h'
  have t : twoI (meetX (L ++ [c])) (meetX L) = 0 := checkI_two b2 a2
  refine ⟨t, ?_⟩
  unfold lessX
  rw [if_neg (by simp [t]), less_iff b1 a1]
  intro d hd
  rw [b3, allB_iff] at hd
  rw [a3, allB_iff]
  exact fun x hx => hd x (List.mem_append_left _ hx)
/-- With one alone it is that one. -/
theorem meet_alone (c : Ctx) : meetE [c] = checkI c ∧ (checkI c = 0 → meetX [c] = c) := by
  by_cases q : checkI c = 0
  · have hb : badL [c] = 0 := by simp [badL, q]
    obtain ⟨ok, h4⟩ := (checkI_iff c).1 q
    obtain ⟨k1, k2⟩ := meet_ok (L := [c]) (by simp) (by simpa using ok)
    have e : meetC [c] = c := okC_ext k1 ok fun d => by rw [Bool.eq_iff_iff, k2]; simp
    constructor
    · unfold meetE
      rw [if_neg (by simp), if_neg (by simp [hb]), e, if_neg (by omega), q]
    · intro _
      unfold meetX
      rw [e, if_neg (by simp [hb]; omega)]
  · have hb : badL [c] = checkI c := by simp only [badL]; rw [if_pos q]
    exact ⟨by unfold meetE; rw [if_neg (by simp), hb, if_pos q], fun h => absurd h q⟩
/-- The two of the law's own. -/
theorem meet_two : meetE [⟨3, 1, 0, 0, []⟩, ⟨2, 0, 0, 0, [(1, 2)]⟩] = 0 ∧ meetX [⟨3, 1, 0, 0, []⟩, ⟨2, 0, 0, 0, [(1, 2)]⟩] = ⟨2, 0, 0, 0, []⟩ := by
  have h1 : checkI ⟨3, 1, 0, 0, []⟩ = 0 := (checkI_iff _).2 ⟨⟨by simp [clkIn], by simp, by simp⟩, by simp⟩
  have h2 : checkI ⟨2, 0, 0, 0, [(1, 2)]⟩ = 0 := (checkI_iff _).2 ⟨⟨by simp [clkIn], by intro d hd; simp only [List.mem_singleton] at hd; subst hd; exact ⟨by decide, by decide⟩, by simp⟩, by simp⟩
  have hb : badL [⟨3, 1, 0, 0, []⟩, ⟨2, 0, 0, 0, [(1, 2)]⟩] = 0 := by simp [badL, h1, h2]
  have hca : cloudAll [⟨3, 1, 0, 0, []⟩, ⟨2, 0, 0, 0, [(1, 2)]⟩] = [] := by decide
  have e : meetC [⟨3, 1, 0, 0, []⟩, ⟨2, 0, 0, 0, [(1, 2)]⟩] = ⟨2, 0, 0, 0, []⟩ := by
    unfold meetC
    rw [hca]
    simp [packL, cpt, minL, minC]
    omega
  constructor
  · unfold meetE
    rw [e, if_neg (by simp), if_neg (by simp [hb])]; simp
  · unfold meetX
    rw [e, if_neg (by simp [hb])]
end Go.Proofs.Ytogegnikpjcpdaa
