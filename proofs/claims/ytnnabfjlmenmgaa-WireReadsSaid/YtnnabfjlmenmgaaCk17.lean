/- Wri, Wrl -/
import Derived.Test.YtnnabfjlmenmgaaCk12
import Derived.Test.YtnnabfjlmenmgaaCk08
import Derived.Test.YtnnabfjlmenmgaaCk11
/- viewlaw.samePacket. -/
namespace Go.Proofs.Ytnnabfjlmenmgaa
set_option linter.unusedVariables false
set_option linter.unusedSimpArgs false
open Go.ChangeShapes Go.WideShapes Go.ChangeAt Go.RowKit

set_option maxHeartbeats 2000000 in
set_option maxRecDepth 100000 in
theorem samePacket_any (a b c d : TR) (w : World) (ha : a.ok w) (hb : b.ok w) (hc : c.ok w) (hd : d.ok w) (h1 : sameTB a.t c.t = true) (h2 : sameTB b.t d.t = true) :
    Calls Try.prog 15 #[.agg (pboxT a b), .agg (pboxT c d)] w fun e w' => e = .returned (.bool true) ∧ Below w.heap.size w w' := by
  have HS1 := hid (fun (w1 : World) (h : Below w.heap.size w w1) => sameTab_any a c w1 (ha.step h) (hc.step h))
  have HS2 := hid (fun (w1 : World) (h : Below w.heap.size w w1) => sameTab_any b d w1 (hb.step h) (hd.step h))
  rw [h1] at HS1
  rw [h2] at HS2
  have hi1 := idx_first a b
  have hi2 := idx_second a b
  have hi3 := idx_first c d
  have hi4 := idx_second c d
  clear ha hb hc hd
  obtain ⟨wa, hwa⟩ : ∃ q : World, q = (w.alloc (.cells (pboxT a b) 31)).alloc (.cells (pboxT c d) 31) := ⟨_, rfl⟩
  have hba : Below w.heap.size w wa := by rw [hwa]; exact ((Below.refl _ _).alloc (Nat.le_refl _) _).alloc (by simp) _
  have hbx : Blk wa w.heap.size (pboxT a b) 31 := by rw [hwa]; exact (Blk.new _ _ _).alloc _
  have hby : Blk wa (w.heap.size + 1) (pboxT c d) 31 := by rw [hwa]; exact Blk.new' _ _ _ (by simp)
  go_enter Try.func15, Try.ntmps15
  go_wp2_with fail
  -- STOP-a
  rw [← hwa]
  clear hwa
  refine (HS1.out wa hba).mono ?_
  rintro e w1 ⟨rfl, hb1⟩
  have HB1 := hid (Below.step' hba hb1)
  have HBX := hid (hbx.step hb1)
  have HBY := hid (hby.step hb1)
  clear hb1 hba hbx hby
  obtain ⟨cHBX, fHBX, sHBX, nHBX⟩ := HBX.out.all
  try simp only [cbox] at cHBX
  obtain ⟨cHBY, fHBY, sHBY, nHBY⟩ := HBY.out.all
  try simp only [cbox] at cHBY
  go_wp2_with fail
  -- STOP-b
  refine (HS2.out w1 HB1.out).mono ?_
  rintro e w2 ⟨rfl, hb2⟩
  have HB2 := hid (Below.step' HB1.out hb2)
  clear hb2
  clear cHBX fHBX sHBX nHBX
  clear cHBY fHBY sHBY nHBY
  go_wp2_with fail
  go_ret
  exact ⟨rfl, HB2.out⟩
end Go.Proofs.Ytnnabfjlmenmgaa
/- viewlaw.WireReads, over Decoded. -/
namespace Go.Proofs.Ytnnabfjlmenmgaa
set_option linter.unusedVariables false
set_option linter.unusedSimpArgs false
open Go.ChangeShapes Go.WideShapes Go.ChangeAt Go.RowKit

theorem dpost_same {L : List UInt8} {x y x' y' : TR} {n c n' c' : Int} (h : (∃ k : Nat, decOk L = some k ∧ n = k ∧ c = 0 ∧ (x.t, y.t) = (rdPac L).1) ∨ (decOk L = none ∧ n = 0 ∧ c = 5 ∧ x.t = noTab ∧ y.t = noTab))
    (h' : (∃ k : Nat, decOk L = some k ∧ n' = k ∧ c' = 0 ∧ (x'.t, y'.t) = (rdPac L).1) ∨ (decOk L = none ∧ n' = 0 ∧ c' = 5 ∧ x'.t = noTab ∧ y'.t = noTab)) : x.t = x'.t ∧ y.t = y'.t ∧ n = n' ∧ c = c' := by
  rcases h with ⟨k, e, rfl, rfl, h⟩ | ⟨e, rfl, rfl, h1, h2⟩
  · rcases h' with ⟨k', e', rfl, rfl, h'⟩ | ⟨e', -⟩
    · rw [e] at e'
      injection e' with e'
      subst e'
      rw [← h'] at h
      injection h with h1 h2
      exact ⟨h1, h2, rfl, rfl⟩
    · rw [e] at e'; cases e'
  · rcases h' with ⟨k', e', -⟩ | ⟨e', rfl, rfl, h1', h2'⟩
    · rw [e] at e'; cases e'
    · exact ⟨h1.trans h1'.symm, h2.trans h2'.symm, rfl, rfl⟩
set_option maxHeartbeats 2000000 in
set_option maxRecDepth 100000 in
theorem wireReads_over (L : List UInt8) (hL : L.length ≤ 9223372036854775807) (hdec : ∀ w : World, Calls Try.prog 14 #[.string (bstr L)] w (DPost L w)) (w : World) :
    Calls Try.prog 4 #[.string (bstr L)] w fun e w' => e = .returned (.bool true) ∧ Below w.heap.size w w' := by
  go_enter Try.func4, Try.ntmps4
  go_wp2_with fail
  refine (decode_any L hL w).mono ?_
  rintro e w1 ⟨x, y, n, c, rfl, hx, hy, hb1, h1⟩
  have HX := hid hx
  have HY := hid hy
  have HB1 := hid hb1
  have H1 := hid h1
  clear hx hy hb1 h1
  go_wp2_with fail
  -- STOP-a
  have hal : Below w1.heap.size w1 (w1.alloc (.cells (pboxT x y) 31)) := alloc_below (Below.refl _ _) _
  have hbx : Blk (w1.alloc (.cells (pboxT x y) 31)) w1.heap.size (pboxT x y) 31 := Blk.new _ _ _
  refine (hdec _).mono ?_
  rintro e w2 ⟨x', y', n', c', rfl, hx', hy', hb2', h2⟩
  have hb2 : Below w1.heap.size w1 w2 := Below.step' hal hb2'
  have HBX := hid (hbx.step hb2')
  obtain ⟨e1, e2, rfl, rfl⟩ := dpost_same H1.out h2
  have HSP := hid (fun (w3 : World) (hb : Below w2.heap.size w2 w3) => samePacket_any x y x' y' w3 ((HX.out.step hb2).step hb) ((HY.out.step hb2).step hb) (hx'.step hb) (hy'.step hb) ((sameTB_iff _ _).2 e1) ((sameTB_iff _ _).2 e2))
  have HB2 := hid (Below.step' HB1.out hb2)
  clear hx' hy' hb2 hb2' hal hbx h2 e1 e2 H1 HX HY
  obtain ⟨cHBX, fHBX, sHBX, nHBX⟩ := HBX.out.all
  try simp only [cbox] at cHBX
  go_wp2_with fail
  -- STOP-b
  have hal2 : Below w2.heap.size w2 (w2.alloc (.cells (pboxT x' y') 31)) := alloc_below (Below.refl _ _) _
  refine (HSP.out _ hal2).mono ?_
  rintro e w3 ⟨rfl, hb3⟩
  have HB3 := hid (Below.step' HB2.out (Below.step' hal2 hb3))
  clear cHBX fHBX sHBX nHBX
  clear hb3 HSP
  go_wp2_with fail
  go_ret
  exact ⟨by rfl, HB3.out⟩
end Go.Proofs.Ytnnabfjlmenmgaa
