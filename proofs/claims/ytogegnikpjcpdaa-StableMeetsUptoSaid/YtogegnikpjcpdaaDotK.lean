/- slices.Clone at Dot. -/
import Derived.Test.YtogegnikpjcpdaaDotJ
import Derived.WalkSpells
import Derived.Maps.AppendAt
namespace Go.Proofs.Ytogegnikpjcpdaa
set_option linter.unusedVariables false
open Go.ChangeShapes Go.WideShapes Go.ChangeAt Go.RowKit

theorem add_none (b off j : Nat) : (⟨b, off, none⟩ : Addr).add j = ⟨b, off + j, none⟩ := by
  unfold Addr.add
  split
  · subst_vars; rfl
  · rfl

theorem info_dot : (Try.prog.info? 27).map (fun i => (i.zero, i.size, i.bytes)) = some (some (.agg #[.int .i64 0, .int .i64 0]), 2, 16) := by kernel_rfl

theorem dcells_one (l : List (Int × Int)) : ∀ u ∈ dcells l, u.oneCell' = true := by
  intro u hu
  obtain ⟨d, _, h⟩ := List.mem_flatMap.1 hu
  simp at h
  rcases h with rfl | rfl <;> rfl

theorem Row.news {w : World} {B : Nat} {ad : Addr} {xs : List Value} (h : Row w B (some ad) xs) : ∀ j u, xs[j]? = some u → w.cell? (ad.add j) = some u := by
  intro j u hu
  rcases h with h | ⟨b, off, h1, _, h3⟩
  · subst h; simp at hu
  · injection h1 with h1
    subst h1
    rw [add_none]
    exact h3 j u hu

set_option maxHeartbeats 400000 in
set_option maxRecDepth 100000 in
theorem clone_any (l : List (Int × Int)) (A : Option Addr) (c : Nat) (w : World) (hr : Row w w.heap.size A (dcells l)) (hl : l.length ≤ 1048576) :
    Calls Try.prog 69 #[.slice A l.length c] w fun e w' => ∃ v, e = .returned v ∧ w'.ownsRow w.heap.size 27 2 v l.length (dcells l) ∧ Below w.heap.size w w' := by
  obtain ⟨i0, hi0, hz0, hz1, hz2⟩ := info_parts info_dot
  rcases A with _ | ad
  · have he : l = [] := by
      rcases hr with h | ⟨b, off, h, _⟩
      · have := congrArg List.length h
        rw [dcells_len] at this
        exact List.eq_nil_of_length_eq_zero (by simp at this; omega)
      · cases h
    subst he
    have hnil := fun (w : World) => Lib.run_eql_slice_nil w (P := Try.prog) (t := 23) (e := 27) none 0 c 0 0 Try.underlying23
    go_enter Try.func69, Try.ntmps69
    go_wp2
    go_ret
    exact ⟨_, rfl, World.ownsRow_nil _ _ _ _, Below.refl _ _⟩
  · have hnil := fun (w : World) => Lib.run_eql_slice_nil w (P := Try.prog) (t := 23) (e := 27) (some ad) l.length c 0 0 Try.underlying23
    have HR := hid hr
    clear hr
    go_enter Try.func69, Try.ntmps69
    go_wp2_with (at_builtin; refine wpList_append_own_at _ rfl _ _ 23 rfl w.heap.size 27 i0 _ 2 16 Try.underlying23 hi0 hz0 hz1 hz2 rfl (by decide) (.slice (some ⟨w.heap.size, 0, none⟩) 0 0) 0 [] rfl (World.ownsRow_made w #[] 0 (Nat.le_refl _) (by decide) rfl) ad l.length c (dcells l) rfl (by rw [dcells_len]; omega) (HR.out.below (Below.alloc (Below.refl _ _) (Nat.le_refl _) _) (Nat.le_refl _)).news (dcells_one l) ?_ ?_ ?_ ?_; rotate_right; intro v1 w1 hown1 hg1 _ hat1; rotate_left; (simp only [maxLen]; omega); (omega); (simp))
    go_ret
    refine ⟨v1, rfl, by simpa using hown1, ((Below.refl _ _).alloc (Nat.le_refl _) _).grown hg1 (by simp) (fun k hk => ?_)⟩
    simp [Value.ownBlock] at hk
    omega
end Go.Proofs.Ytogegnikpjcpdaa
