/- Shelf, Sts, ZsA, ZsB, ZsC -/
import Derived.Test.YtldlmkfigjicgaaGreatDoorIncPlaysCardS03
import Derived.Shelf.SlSortCmp.WholeK
import Derived.Ground.SlsfProg
import Derived.Test.YtldlmkfigjicgaaGreatDoorRows
import Derived.WalkSpells
import Derived.Deep.CutBlock
import Derived.Deep.CutRange
/-
  DERIVED: THE SHELF's CONTRACTS AT THIS DUMP, IN PLAIN WORDS (tools/lay-plain.mjs out of 'YtldlmkfigjicgaaGreatDoorShelf.lean', which tools/lay-shelf.mjs wrote): THE SAME DECLARATIONS UNDER THE SAME NAMES: 'import', 'namespace', 'open', 'def', 'theorem' AND NOTHING ELSE: no command of the shelf's: FOR A HAND-IN. Each laying: the table of numbers ('.._ren') and one theorem, a field a fact of the dump's own or the kernel's comparison; each contract: ONE APPLICATION.
-/
namespace Go.Proofs
open Go.Shelf
def Tryz.sortItem_ren : Go.Shelf.Ren := ⟨fun | 20 => 112 | n => n, fun | 24 => 67 | 22 => 22 | 3 => 3 | 25 => 111 | 4 => 4 | 0 => 0 | n => n, fun | n => n⟩
theorem Tryz.sortItem : Go.Proofs.SlLaysF0.n20 Tryz.prog Tryz.sortItem_ren := {
  mixed := by kernel_rfl
  f20 := ⟨Tryz.f112.name, by decide, Tryz.func112.trans (congrArg some (by kernel_rfl))⟩
  t0 := Tryz.underlying0
  a0 := Tryz.isAgg0
  z0 := Tryz.sizeOf0
  v0 := Tryz.zeroValue0
  t3 := Tryz.underlying3
  a3 := Tryz.isAgg3
  z3 := Tryz.sizeOf3
  v3 := Tryz.zeroValue3
  t4 := Tryz.underlying4
  a4 := Tryz.isAgg4
  z4 := Tryz.sizeOf4
  v4 := Tryz.zeroValue4
  t22 := Tryz.underlying22
  a22 := Tryz.isAgg22
  z22 := Tryz.sizeOf22
  v22 := Tryz.zeroValue22
  t25 := Tryz.underlying111
  a25 := Tryz.isAgg111
  z25 := Tryz.sizeOf111
  v25 := Tryz.zeroValue111 }
end Go.Proofs
/- slices.SortStableFunc at items: the whole sort. -/
namespace Go.Proofs.YtldlmkfigjicgaaGreatDoor
set_option linter.unusedVariables false
open Go.ChangeShapes Go.WideShapes Go.ChangeAt Go.RowKit Go.Shelf Go.Lib Go.Sort
variable {Q : IR → Prop} [Inhabited (QI Q)]

theorem cmpLays_on {cf : QI Q → QI Q → Int} {g : Nat} {cb : Array Value} {blk off : Nat} {d0 D : Array (QI Q)} {w0 W : World} (hC : CmpLays Tryz.prog g cb (QI.cells (Q := Q)) 2 cf blk off d0.size w0) (R : RowK (QI.cells (Q := Q)) 2 w0 blk off d0) (h : SWK (QI.cells (Q := Q)) 2 w0 blk off D W) (hs : D.size = d0.size) :
    CmpLays Tryz.prog g cb (QI.cells (Q := Q)) 2 cf blk off D.size W := fun m os dk hk x y => by
  obtain ⟨m', os', e⟩ := h.on R.hblk m dk os hk
  rw [e]
  exact hC m' os' dk (hk.trans hs) x y

theorem ins_any (cf : QI Q → QI Q → Int) (g : Nat) (cb : Array Value) (blk off cap : Nat) (d0 : Array (QI Q)) (w0 : World) (eg : ∀ args w, (callFunc g args).run Tryz.prog w = .ok (.enter g args) w) (hC : CmpLays Tryz.prog g cb (QI.cells (Q := Q)) 2 cf blk off d0.size w0)
    (R : RowK (QI.cells (Q := Q)) 2 w0 blk off d0) (hS : SWO (ltOf cf)) (hsz : d0.size < 4611686018427387904) (a b : Nat) (d : Array (QI Q)) (w : World) (hab : a ≤ b) (hb : b ≤ d.size) (hs : d.size = d0.size) (S : SWK (QI.cells (Q := Q)) 2 w0 blk off d w) :
    Calls Tryz.prog 112 #[.slice (some ⟨blk, off, none⟩) d.size cap, .int .i64 a, .int .i64 b, .func (.func g) #[] cb] w fun e w' => e = .returned (.tuple #[]) ∧ ∃ d', PermIn a b d d' ∧ SortedIn (ltOf cf) a b d' ∧ SWK (QI.cells (Q := Q)) 2 w0 blk off d' w' := by
  have L : SlLaysF0.n20 Tryz.prog Tryz.sortItem_ren := { Tryz.sortItem with }
  refine (AnyQ.insertionSortCmpFunc L 2 Tryz.isAgg67 Tryz.sizeOf67 (QI.cells (Q := Q)) R.hk R.h1 cf g cb blk off cap a b d w eg (cmpLays_on hC R S hs) (S.holds R.hblk R.hH hs) (S.lt R.hblk) hab hb (by omega)).mono ?_
  rintro e w' ⟨rfl, n, os, rfl⟩
  obtain ⟨h1, h2⟩ := insertionSort_holds hS d a b hab hb
  exact ⟨rfl, _, h1, h2, S.on R.hblk n _ os h1.1⟩

set_option maxHeartbeats 4000000 in
set_option maxRecDepth 100000 in
theorem stable_any (cf : QI Q → QI Q → Int) (g : Nat) (cb : Array Value) (blk off cap : Nat) (d : Array (QI Q)) (w : World) (eg : ∀ args w, (callFunc g args).run Tryz.prog w = .ok (.enter g args) w) (hC : CmpLays Tryz.prog g cb (QI.cells (Q := Q)) 2 cf blk off d.size w)
    (R : RowK (QI.cells (Q := Q)) 2 w blk off d) (hS : SWO (ltOf cf)) (hsz : d.size < 1152921504606846976) :
    Calls Tryz.prog 93 #[.slice (some ⟨blk, off, none⟩) d.size cap, .int .i64 d.size, .func (.func g) #[] cb] w fun e w' => e = .returned (.tuple #[]) ∧ ∃ d', PermIn 0 d.size d d' ∧ SortedIn (ltOf cf) 0 d.size d' ∧ SWK (QI.cells (Q := Q)) 2 w blk off d' w' := by
  have HIN := hid (fun a b D w' h1 h2 h3 h4 => ins_any cf g cb blk off cap d w eg hC R hS (by omega) a b D w' h1 h2 h3 h4)
  have HSY := hid (fun a m b D w' h1 h2 h3 h4 h5 h6 h7 => sym_merge cf g cb blk off cap d w eg hC R hS (by omega) (b - a + 1) a m b D w' (Nat.lt_succ_self _) h1 h2 h3 h4 h5 h6 h7)
  have S0 := hid (SWK.start R.hH)
  obtain ⟨n, hn⟩ : ∃ n, n = d.size := ⟨_, rfl⟩
  have HN := hid hn
  rw [← hn] at hsz ⊢
  clear hC R hn
  go_enter Tryz.func93, Tryz.ntmps93
  go_wp2_with fail
  -- STOP-a
  go_loopw [7, 8] (fun s7 s8 wr => ∃ (a t : Nat) (D : Array (QI Q)), s7 = .int .i64 a ∧ s8 = .int .i64 ((a : Int) + 20) ∧ a ≤ n ∧ Hid (a = t * 20) ∧ Hid (D.size = d.size) ∧ Hid (PermIn 0 d.size d D) ∧ Hid (Blocks (ltOf cf) 20 (t * 20) D) ∧ Hid (SWK (QI.cells (Q := Q)) 2 w blk off D wr)) (fun s7 _ _ => n - (intOf s7).toNat)
  case atStart => exact ⟨0, 0, d, rfl, rfl, by omega, hid rfl, hid rfl, hid (perm_refl _ _ _), hid (fun q hq => by omega), S0⟩
  case round =>
    clear S0
    obtain ⟨a, t, D, rfl, rfl, han, HA, HD, HP, HB, S1⟩ := hrel
    by_cases hlt : a + 20 ≤ n
    · have hc := HIN.out a (a + 20) D wr (by omega) (by rw [HD.out, ← HN.out]; exact hlt) HD.out S1.out
      rw [HD.out, ← HN.out] at hc
      have HC := hid hc
      have hlt2 : (a : Int) + 20 ≤ (n : Int) := by omega
      have ZA : Hid (((a + 20 : Nat) : Int) = (a : Int) + 20) := hid (by omega)
      clear hc
      go_wp2_with fail
      -- STOP-b
      rw [← ZA.out]
      refine HC.out.mono ?_
      rintro e w' ⟨rfl, D2, hperm, hsort, S2⟩
      have HP2 := hid (perm_trans HP.out (perm_mono (Nat.zero_le _) (by rw [← HN.out]; exact hlt) (by rw [HD.out]; exact Nat.le_refl _) hperm))
      have HB2 := hid (by have := HB.out; rw [← HA.out] at this; exact (show Blocks (ltOf cf) 20 (a + 20) D2 by
        have e := HA.out
        rw [e] at hperm hsort this ⊢
        exact blocks_more this hperm hsort))
      have HD2 := hid (hperm.1.trans HD.out)
      have HS2 := hid S2
      clear hperm hsort S2
      rw [ZA.out]
      go_wp2
      go_roundw
      case rel => exact ⟨a + 20, t + 1, D2, by go_num, by congr 1 <;> omega, hlt, hid (by have := HA.out; omega), HD2, HP2, hid (by have := HB2.out; rwa [show (t + 1) * 20 = a + 20 by have := HA.out; omega]), HS2⟩
      case measure => simp [intOf]; omega
    · have hc := HIN.out a n D wr han (by rw [HD.out, ← HN.out]; exact Nat.le_refl _) HD.out S1.out
      rw [HD.out, ← HN.out] at hc
      have HC := hid hc
      have hlt2 : ¬ (a : Int) + 20 ≤ (n : Int) := by omega
      have hlt3 : (n : Int) < (a : Int) + 20 := by omega
      clear hc
      go_wp2_with fail
      -- STOP-c
      refine HC.out.mono ?_
      rintro e w' ⟨rfl, D2, hperm, hsort, S2⟩
      have HP2 := hid (perm_trans HP.out (perm_mono (Nat.zero_le _) (by rw [← HN.out]; exact Nat.le_refl _) (by rw [HD.out]; exact Nat.le_refl _) hperm))
      have HB2 : Hid (BlocksTo (ltOf cf) 20 n D2) := hid (by
        have e := HA.out
        rw [e] at hperm hsort
        exact blocks_end (by omega) HB.out (by omega) (by omega) hperm hsort)
      have HD2 := hid (hperm.1.trans HD.out)
      have HS2 := hid S2
      clear hperm hsort S2 HP HB S1 HA HD HC hlt2 hlt3 hlt
      go_wp2_with fail
      -- STOP-d
      go_loopw [6, 7, 8, 9] (fun s6 s7 s8 s9 wr => ∃ (k : Nat) (D : Array (QI Q)), s6 = .int .i64 k ∧ 0 < k ∧ k ≤ 1152921504606846976 * 2 ∧ Hid (D.size = d.size) ∧ Hid (PermIn 0 d.size d D) ∧ Hid (BlocksTo (ltOf cf) k n D) ∧ Hid (SWK (QI.cells (Q := Q)) 2 w blk off D wr)) (fun s6 _ _ _ _ => n - (intOf s6).toNat)
      case atStart => exact ⟨20, D2, rfl, by omega, by omega, HD2, HP2, HB2, HS2⟩
      case round =>
        clear HD2 HP2 HB2 HS2
        obtain ⟨k, D, rfl, hk0, hk1, HD, HP, HB, S1⟩ := hrel
        obtain ⟨wo, rfl⟩ : ∃ wx : World, wx = wr := ⟨_, rfl⟩
        by_cases hkn : k < n
        · have w2k : IntKind.i64.wrap (2 * (k : Int)) = 2 * (k : Int) := IntWalk.i64_in _ (by omega)
          have wk2 : IntKind.i64.wrap ((k : Int) * 2) = (k : Int) * 2 := IntWalk.i64_in _ (by omega)
          have HPA := hid (pass_start HB.out hk0)
          clear HB
          go_wp2_with fail
          -- STOP-e
          go_loopw [7, 8] (fun s7 s8 wr => ∃ (a t : Nat) (D : Array (QI Q)), s7 = .int .i64 a ∧ s8 = .int .i64 ((a : Int) + 2 * (k : Int)) ∧ a ≤ n ∧ Hid (a = t * (2 * k)) ∧ Hid (D.size = d.size) ∧ Hid (PermIn 0 d.size d D) ∧ Hid (Pass (ltOf cf) k t n D) ∧ Hid (SWK (QI.cells (Q := Q)) 2 w blk off D wr)) (fun s7 _ _ => n - (intOf s7).toNat)
          case atStart => exact ⟨0, 0, D, rfl, by congr 1 <;> omega, by omega, hid (by omega), HD, HP, HPA, S1⟩
          case round =>
            clear HPA HD HP S1
            obtain ⟨a, t, D, rfl, rfl, han, HA, HD, HP, HB, S1⟩ := hrel
            by_cases hlt : a + 2 * k ≤ n
            · obtain ⟨p1, p2⟩ := pass_parts HB.out (by rw [← HA.out]; exact hlt)
              rw [← HA.out] at p1 p2
              have hc := HSY.out a (a + k) (a + 2 * k) D wr (by omega) (by omega) (by rw [HD.out, ← HN.out]; exact hlt) HD.out p1 p2 S1.out
              rw [HD.out, ← HN.out] at hc
              have HC := hid hc
              have hlt2 : (a : Int) + 2 * (k : Int) ≤ (n : Int) := by omega
              have ZA : Hid (((a + 2 * k : Nat) : Int) = (a : Int) + 2 * (k : Int)) := hid (by omega)
              have ZB : Hid (((a + k : Nat) : Int) = (a : Int) + (k : Int)) := hid (by omega)
              clear hc p1 p2
              go_wp2_with fail
              -- STOP-f
              rw [← ZA.out, ← ZB.out]
              refine HC.out.mono ?_
              rintro e w' ⟨rfl, D2, hperm, hsort, S2⟩
              have HP2 := hid (perm_trans HP.out (perm_mono (Nat.zero_le _) (by rw [← HN.out]; exact hlt) (by rw [HD.out]; exact Nat.le_refl _) hperm))
              have HB2 : Hid (Pass (ltOf cf) k (t + 1) n D2) := hid (by
                have e := HA.out
                rw [e] at hperm hsort
                exact pass_more HB.out hperm hsort)
              have HD2 := hid (hperm.1.trans HD.out)
              have HS2 := hid S2
              clear hperm hsort S2
              rw [ZA.out]
              go_wp2
              go_roundw
              case rel => exact ⟨a + 2 * k, t + 1, D2, by rw [ZA.out], by congr 1 <;> omega, hlt, hid (by rw [Nat.succ_mul t (2 * k), ← HA.out]), HD2, HP2, HB2, HS2⟩
              case measure => simp [intOf]; omega
            · have hlt2 : ¬ (a : Int) + 2 * (k : Int) ≤ (n : Int) := by omega
              have hlt3 : (n : Int) < (a : Int) + 2 * (k : Int) := by omega
              by_cases hm : a + k < n
              · obtain ⟨p1, p2⟩ := pass_last HB.out (by rw [← HA.out]; exact hm) (by rw [← HA.out]; omega)
                rw [← HA.out] at p1 p2
                have hc := HSY.out a (a + k) n D wr (by omega) hm (by rw [HD.out, ← HN.out]; exact Nat.le_refl _) HD.out p1 p2 S1.out
                rw [HD.out, ← HN.out] at hc
                have HC := hid hc
                have hm2 : (a : Int) + (k : Int) < (n : Int) := by omega
                have ZB : Hid (((a + k : Nat) : Int) = (a : Int) + (k : Int)) := hid (by omega)
                clear hc p1 p2
                go_wp2_with fail
                -- STOP-g
                rw [← ZB.out]
                refine HC.out.mono ?_
                rintro e w' ⟨rfl, D2, hperm, hsort, S2⟩
                have HP2 := hid (perm_trans HP.out (perm_mono (Nat.zero_le _) (by rw [← HN.out]; exact Nat.le_refl _) (by rw [HD.out]; exact Nat.le_refl _) hperm))
                have HB2 : Hid (BlocksTo (ltOf cf) (2 * k) n D2) := hid (by
                  have e := HA.out
                  rw [e] at hperm hsort han hlt
                  exact pass_end hk0 HB.out han (by omega) hperm hsort)
                have HD2 := hid (hperm.1.trans HD.out)
                have HS2 := hid S2
                clear hperm hsort S2
                go_wp2
                go_roundw
                case rel => exact ⟨2 * k, D2, by congr 1 <;> omega, by omega, by omega, HD2, HP2, HB2, HS2⟩
                case measure => simp [intOf]; omega
              · have hm2 : ¬ (a : Int) + (k : Int) < (n : Int) := by omega
                have hm3 : (n : Int) ≤ (a : Int) + (k : Int) := by omega
                have HB2 : Hid (BlocksTo (ltOf cf) (2 * k) n D) := hid (by
                  have e := HA.out
                  have hs := pass_short HB.out (by rw [← e]; omega)
                  rw [e] at han hlt
                  exact pass_end hk0 HB.out han (by omega) (perm_refl _ _ _) hs)
                go_wp2
                go_roundw
                case rel => exact ⟨2 * k, D, by congr 1 <;> omega, by omega, by omega, HD, HP, HB2, S1⟩
                case measure => simp [intOf]; omega
        · go_wp2
          go_end0
          exact ⟨rfl, D, by have := HP.out; rwa [← HN.out] at this, blocks_all HB.out (by omega), S1.out⟩

/-- slices.SortStableFunc sorts. -/
theorem sortStable_raw (cf : QI Q → QI Q → Int) (g : Nat) (cb : Array Value) (blk off cap : Nat) (d : Array (QI Q)) (w : World) (eg : ∀ args w, (callFunc g args).run Tryz.prog w = .ok (.enter g args) w) (hC : CmpLays Tryz.prog g cb (QI.cells (Q := Q)) 2 cf blk off d.size w)
    (R : RowK (QI.cells (Q := Q)) 2 w blk off d) (hS : SWO (ltOf cf)) (hsz : d.size < 1152921504606846976) :
    Calls Tryz.prog 71 #[.slice (some ⟨blk, off, none⟩) d.size cap, .func (.func g) #[] cb] w fun e w' => e = .returned (.tuple #[]) ∧ ∃ d', PermIn 0 d.size d d' ∧ SortedIn (ltOf cf) 0 d.size d' ∧ SWK (QI.cells (Q := Q)) 2 w blk off d' w' := by
  have HC := hid (stable_any cf g cb blk off cap d w eg hC R hS hsz)
  clear hC R hS
  go_enter Tryz.func71, Tryz.ntmps71
  go_wp2_with fail
  refine HC.out.mono ?_
  rintro e w' ⟨rfl, d', h1, h2, h3⟩
  have H1 := hid h1
  have H2 := hid h2
  have H3 := hid h3
  clear h1 h2 h3
  go_wp2
  go_end0
  exact ⟨rfl, d', H1.out, H2.out, H3.out⟩
end Go.Proofs.YtldlmkfigjicgaaGreatDoor
/- The order that zset.Sum sorts by. -/
namespace Go.Proofs.YtldlmkfigjicgaaGreatDoor
set_option linter.unusedVariables false
set_option linter.unusedSimpArgs false
open Go.ChangeShapes Go.WideShapes Go.ChangeAt Go.RowKit Go.Shelf Go.Lib Go.Sort

set_option maxHeartbeats 400000 in
set_option maxRecDepth 100000 in
theorem sum1_any (x y : IR) (w : World) (hx : Row w w.heap.size x.A (icells' x.row)) (hxl : x.row.length ≤ 9223372036854775807) (hy : Row w w.heap.size y.A (icells' y.row)) (hyl : y.row.length ≤ 9223372036854775807) :
    Calls Tryz.prog 72 #[.agg x.cells.toArray, .agg y.cells.toArray] w fun e w' => e = .returned (.int .i64 (cmpL x.row y.row)) ∧ ∃ q os', w' = grow (w.drewN q) os' := by
  obtain ⟨xr, xA, xk, xn⟩ := x
  obtain ⟨yr, yA, yk, yn⟩ := y
  simp only at hx hxl hy hyl ⊢
  have HC := hid (fun w1 (hb : Below w.heap.size w w1) => orderL_any xr yr xA yA xk yk w1 (hx.step hb) (hy.step hb) hxl hyl)
  clear hx hy
  simp only [IR.cells]
  go_enter Tryz.func72, Tryz.ntmps72
  go_wp2_with (go_at_call 16; refine (HC.out _ (by (repeat' (first | (with_reducible exact Below.refl _ _) | (with_reducible assumption) | (with_reducible refine below_drewN ?_ _) | (with_reducible refine Below.drew ?_) | (with_reducible refine Below.alloc ?_ ?_ _) | (with_reducible refine Below.setCell ?_ ?_ _) | (refine Below.trans ?_ (Below.mono (by assumption) ?_)) | go_size)))).mono ?_; rintro e w' ⟨rfl, rfl⟩)
  go_ret
  exact ⟨rfl, 0, _, by rw [alloc_eq_grow, alloc_eq_grow, grow_grow]; rfl⟩
theorem enters_sum1 : ∀ args w, (callFunc 72 args).run Tryz.prog w = .ok (.enter 72 args) w := enters_of Tryz.func72 (by kernel_rfl) rfl

/-- A world of the sort's: the one that it began with, but for the row's block, and what is new. -/
theorem sortWorldK_grown {α : Type} [Inhabited α] (enc : α → List Value) (k : Nat) (w : World) (g off n : Nat) (l : Array α) (os : Array Obj) : w.grownBy (sortWorldK enc k w g off n l os) (some g) := by
  refine ⟨rfl, rfl, rfl, ?_, ?_⟩
  · unfold sortWorldK grow Sort.putRowK putRow mapBlock Sort.ahead
    simp
  · intro j hj hne
    have hne' : g ≠ j := fun e => hne (by rw [e])
    unfold sortWorldK grow Sort.putRowK putRow mapBlock Sort.ahead
    simp [Array.getElem?_append, hj, Array.getElem_modify, hne']

/-- What is asked of the items that a sort orders: their rows lie below B. -/
def RowQ (w : World) (B : Nat) (x : IR) : Prop := Row w B x.A (icells' x.row) ∧ x.row.length ≤ 9223372036854775807
instance (w : World) (B : Nat) : Inhabited (QI (RowQ w B)) := ⟨⟨⟨[], none, 0, 0⟩, Row.nil, by simp⟩⟩
def itCf {Q : IR → Prop} (x y : QI Q) : Int := cmpL x.1.row y.1.row
theorem swo_itCf {Q : IR → Prop} : SWO (ltOf (itCf (Q := Q))) where
  irrefl x := swo_it.irrefl x.1.it
  trans x y z h1 h2 := swo_it.trans x.1.it y.1.it z.1.it h1 h2
  ntrans x y z h1 h2 := swo_it.ntrans x.1.it y.1.it z.1.it h1 h2
theorem cmpLays_sum1 (w : World) (B blk off size : Nat) (hB : B ≤ w.heap.size) (hblk : B ≤ blk) : CmpLays Tryz.prog 72 #[] (QI.cells (Q := RowQ w B)) 2 itCf blk off size w := fun m os dk hs x y => by
  have hg := sortWorldK_grown (QI.cells (Q := RowQ w B)) 2 w blk off m dk os
  have hr : ∀ z : QI (RowQ w B), Row (sortWorldK (QI.cells (Q := RowQ w B)) 2 w blk off m dk os) (sortWorldK (QI.cells (Q := RowQ w B)) 2 w blk off m dk os).heap.size z.1.A (icells' z.1.row) := fun z =>
    (z.2.1.grown hB hg (fun k e => by injection e with e; omega)).more (Nat.le_trans hB hg.size)
  exact sum1_any x.1 y.1 _ (hr x) x.2.2 (hr y) y.2.2
end Go.Proofs.YtldlmkfigjicgaaGreatDoor
/- The stable sort over a row of items that the call owns, nil too; slices.Clone at int. -/
namespace Go.Proofs.YtldlmkfigjicgaaGreatDoor
set_option linter.unusedVariables false
set_option linter.unusedSimpArgs false
open Go.ChangeShapes Go.WideShapes Go.ChangeAt Go.RowKit Go.Shelf Go.Lib Go.Sort

theorem zflat_flatK {α : Type} [Inhabited α] (f : α → List Value) (k : Nat) (hf : ∀ x, (f x).length = k) (hk : 0 < k) (l : List α) : (l.flatMap f).toArray = flatK f k l.toArray := by
  apply Array.ext
  · rw [List.size_toArray, flat_len hf, size_flatK, List.size_toArray]
  · intro i h1 h2
    have hi : i < l.length * k := by rw [List.size_toArray, flat_len hf] at h1; exact h1
    have hq : i / k < l.length := Nat.div_lt_of_lt_mul (by rw [Nat.mul_comm]; exact hi)
    have e := get_flatK f k l.toArray i (by rw [List.size_toArray]; exact hi)
    rw [getElem!_pos _ i h2] at e
    rw [e]
    have g := flat_get hf l (i / k) hq (i % k) (Nat.mod_lt _ hk)
    rw [Nat.div_add_mod' i k] at g
    have hl : l.toArray[i / k]! = l[i / k] := by simp [hq]
    rw [hl]
    have h3 : i % k < (f l[i / k]).length := by rw [hf]; exact Nat.mod_lt _ hk
    rw [getElem!_pos (f l[i / k]) (i % k) h3]
    have h4 : i < (l.flatMap f).length := by rw [flat_len hf]; exact hi
    rw [List.getElem?_eq_getElem h4, List.getElem?_eq_getElem h3] at g
    injection g with g
theorem take_get {cur : Array Value} {n : Nat} {xs : List Value} (h : cur.toList.take n = xs) {j : Nat} (hj : j < xs.length) : cur[j]? = xs[j]? := by
  subst h
  rw [List.getElem?_take_of_lt (by simp at hj; omega)]
  simp
theorem own_holds {α : Type} [Inhabited α] (f : α → List Value) (hf : ∀ x, (f x).length = 2) {w : World} {g : Nat} {l : List α} {cur : Array Value} {T : TypeId} (hg : w.heap[g]? = some (.cells cur T (0, 0))) (hc : cur.toList.take (l.length * 2) = l.flatMap f) : HoldsK f 2 w g 0 l.toArray := by
  intro j hj
  rw [← zflat_flatK f 2 hf (by decide)] at hj ⊢
  have hj' : j < (l.flatMap f).length := by simpa using hj
  have e := take_get hc hj'
  have e2 : (l.flatMap f).toArray[j]! = (l.flatMap f)[j] := by
    rw [getElem!_pos _ j hj]; simp
  rw [e2]
  constructor
  · rw [Nat.zero_add, cell_of_row w g j cur T (0, 0) hg, e, List.getElem?_eq_getElem hj']; rfl
  · simp [World.frozen?, hg]
theorem own_sorted {α : Type} [Inhabited α] (f : α → List Value) (hf : ∀ x, (f x).length = 2) {w : World} {B cap g n : Nat} {l' : List α} {cur : Array Value} {T : TypeId} {os : Array Obj} (hb : B ≤ g) (hg : w.heap[g]? = some (.cells cur T (0, 0))) (hcap : l'.length ≤ cap) (hm : cap ≤ maxLen) (hs : cur.size = cap * 2) :
    (sortWorldK f 2 w g 0 n l'.toArray os).ownsRow B T 2 (.slice (some ⟨g, 0, none⟩) l'.length cap) l'.length (l'.flatMap f) := by
  have hlt : g < w.heap.size := by
    rcases Nat.lt_or_ge g w.heap.size with h | h
    · exact h
    · rw [Array.getElem?_eq_none h] at hg; cases hg
  have hnew : (sortWorldK f 2 w g 0 n l'.toArray os).heap[g]? = some (.cells (putCells id 0 (flatK f 2 l'.toArray) cur) T (0, 0)) := by
    unfold sortWorldK grow Sort.putRowK putRow mapBlock Sort.ahead
    simp only [Array.getElem?_append, Array.size_modify, hlt, if_true, Array.getElem?_modify, hg, Option.map_some]
    rfl
  refine ⟨by rw [flat_len hf], .inr ⟨g, cap, _, rfl, hb, hnew, hcap, hm, by simp [putCells, hs], ?_⟩⟩
  rw [← zflat_flatK f 2 hf (by decide)]
  apply List.ext_getElem?
  intro j
  by_cases hj : j < (l'.flatMap f).length
  · have hj2 : j < l'.length * 2 := by rw [flat_len hf] at hj; exact hj
    have hjc : j < cur.size := by rw [hs]; omega
    rw [List.getElem?_take_of_lt hj2]
    simp only [putCells, Array.toList_mapIdx, List.getElem?_mapIdx]
    have : cur.toList[j]? = some cur.toList[j] := List.getElem?_eq_getElem (by simpa using hjc)
    rw [this]
    simp only [Option.map_some, Nat.zero_le, Nat.zero_add, List.size_toArray, hj, and_self, if_true, Nat.sub_zero, id]
    rw [getElem!_pos _ j (by simpa using hj), List.getElem?_eq_getElem hj]
    simp
  · rw [List.getElem?_eq_none (Nat.le_of_not_lt hj), List.getElem?_eq_none]
    rw [List.length_take]
    rw [flat_len hf] at hj
    omega

set_option maxRecDepth 100000 in
theorem ins_none (c : Nat) (f : Value) (w : World) : Calls Tryz.prog 112 #[.slice none 0 c, .int .i64 0, .int .i64 0, f] w fun e w' => e = .returned (.tuple #[]) ∧ w = w' := by
  go_enter Tryz.func112, Tryz.ntmps112
  go_wp2
  refine wp_loop_rounds 1 ?_
  rw [rounds_succ]
  go_wp2
  go_end0
  exact ⟨rfl, rfl⟩
set_option maxRecDepth 100000 in
theorem stable_none (c : Nat) (f : Value) (w : World) : Calls Tryz.prog 93 #[.slice none 0 c, .int .i64 0, f] w fun e w' => e = .returned (.tuple #[]) ∧ w = w' := by
  go_enter Tryz.func93, Tryz.ntmps93
  go_wp2
  refine wp_loop_rounds 1 ?_
  rw [rounds_succ]
  go_wp2_with (go_at_call 112; refine (ins_none _ _ _).mono ?_; rintro e w' ⟨rfl, rfl⟩)
  refine wp_loop_rounds 1 ?_
  rw [rounds_succ]
  go_wp2
  go_end0
  exact ⟨rfl, rfl⟩
set_option maxRecDepth 100000 in
theorem sortStable_none (c : Nat) (f : Value) (w : World) : Calls Tryz.prog 71 #[.slice none 0 c, f] w fun e w' => e = .returned (.tuple #[]) ∧ w = w' := by
  go_enter Tryz.func71, Tryz.ntmps71
  go_wp2_with (go_at_call 93; refine (stable_none _ _ _).mono ?_; rintro e w' ⟨rfl, rfl⟩)
  go_end0
  exact ⟨rfl, rfl⟩

theorem perm_all {α : Type} {d d' : Array α} [Inhabited α] (h : PermIn 0 d.size d d') : d'.toList.Perm d.toList := by
  have h2 := h.2.2
  have e1 : d'.extract 0 d.size = d' := by rw [← h.1]; simp
  have e2 : d.extract 0 d.size = d := by simp
  rwa [e1, e2] at h2
theorem attach_val {Q : IR → Prop} : ∀ (L : List IR) (h : ∀ x ∈ L, Q x), (L.attachWith Q h).map Subtype.val = L := fun L h => by simp
theorem cells_val {Q : IR → Prop} (l : List (QI Q)) : l.flatMap (QI.cells (Q := Q)) = rcells (l.map Subtype.val) := by
  rw [rcells, List.flatMap_map]

/-- The stable sort over a row that the call owns (nil too). -/
theorem zsortI_own {B : Nat} {v : Value} (L : List IR) (w : World) (hown : w.ownsRow B 67 2 v L.length (rcells L)) (hr : RowsAt w B L) (hB : B ≤ w.heap.size) (hl : L.length ≤ 1152921504606846975) :
    Calls Tryz.prog 71 #[v, .func (.func 72) #[] #[]] w fun e w' => e = .returned (.tuple #[]) ∧ ∃ L' : List IR, L'.Perm L ∧ Rising (its L') ∧ w'.ownsRow B 67 2 v L.length (rcells L') ∧ w.grownBy w' v.ownBlock := by
  rcases hown.2 with ⟨rfl, h0⟩ | ⟨g, cap, cur, rfl, hb, hg, hcap, hm, hs, ht⟩
  · have hl0 : L = [] := List.eq_nil_of_length_eq_zero h0
    subst hl0
    refine (sortStable_none 0 _ w).mono fun e w' ⟨he, hw⟩ => ?_
    subst hw
    exact ⟨he, [], List.Perm.refl _, fun i j hi _ _ => by simp at hi, hown, ⟨rfl, rfl, rfl, Nat.le_refl _, fun _ _ _ => rfl⟩⟩
  · have hlt : g < w.heap.size := by
      rcases Nat.lt_or_ge g w.heap.size with h | h
      · exact h
      · rw [Array.getElem?_eq_none h] at hg; cases hg
    have hv := attach_val L (Q := RowQ w B) hr
    obtain ⟨l, hL⟩ : ∃ l : List (QI (RowQ w B)), l = L.attachWith (RowQ w B) hr := ⟨_, rfl⟩
    rw [← hL] at hv
    have hln : l.length = L.length := by rw [← hv, List.length_map]
    have hcells : l.flatMap QI.cells = rcells L := by rw [cells_val, hv]
    have R : RowK (QI.cells (Q := RowQ w B)) 2 w g 0 l.toArray := ⟨fun _ => rfl, fun x u hu => by simp only [QI.cells, IR.cells, List.mem_cons, List.not_mem_nil, or_false] at hu; rcases hu with rfl | rfl <;> rfl, own_holds _ (fun _ => rfl) hg (by rw [hln, ht, hcells]), hlt⟩
    have hc := sortStable_raw (itCf (Q := RowQ w B)) 72 #[] g 0 cap l.toArray w enters_sum1 (cmpLays_sum1 w B g 0 l.toArray.size hB hb) R swo_itCf (by rw [List.size_toArray, hln]; omega)
    rw [show l.toArray.size = L.length by rw [List.size_toArray, hln]] at hc
    refine hc.mono fun e w' ⟨he, d', hp, hsrt, n, os, hw⟩ => ?_
    rw [show L.length = l.toArray.size by rw [List.size_toArray, hln]] at hp hsrt
    have hperm := perm_all hp
    have hd : d' = d'.toList.toArray := by simp
    have hdl : d'.toList.length = L.length := by rw [hperm.length_eq]; simpa using hln
    have ho := own_sorted (QI.cells (Q := RowQ w B)) (fun _ => rfl) (l' := d'.toList) (n := n) (os := os) hb hg (by rw [hdl]; exact hcap) hm hs
    rw [← hd, ← hw, cells_val, hdl] at ho
    refine ⟨he, d'.toList.map Subtype.val, ?_, ?_, ho, ?_⟩
    · have := hperm.map Subtype.val
      rw [hv] at this
      exact this
    · intro i j hi hj hij
      simp only [its, List.length_map] at hi hj
      have h1 := hsrt i j (Nat.zero_le _) hij (by rw [List.size_toArray, hln, ← hdl]; exact hj)
      have hi' : i < d'.size := by simpa using hi
      have hj' : j < d'.size := by simpa using hj
      rw [getElem!_pos d' i hi', getElem!_pos d' j hj'] at h1
      have h3 : ¬ (cmpL (d'[j]).1.row (d'[i]).1.row < 0) := of_decide_eq_false h1
      have h2 := cmpL_neg (d'[i]).1.row (d'[j]).1.row
      simp only [its, List.getElem_map, Array.getElem_toList, IR.it]
      omega
    · rw [hw]
      exact sortWorldK_grown _ 2 w g 0 n d' os

theorem elem_int : Elem Tryz.prog 30 3 1 8 := ⟨Tryz.underlying30, by
  obtain ⟨i, hi, hz, hs, hb⟩ := info_parts (P := Tryz.prog) (e := 3) (z := .int .i64 0) (size := 1) (bytes := 8) (by kernel_rfl)
  exact ⟨i, _, hi, hz, hs, hb, rfl⟩, by decide⟩
set_option maxHeartbeats 400000 in
set_option maxRecDepth 100000 in
theorem cloneI_any (l : List Int) (A : Option Addr) (c : Nat) (w : World) (hr : Row w w.heap.size A (icells' l)) (hl : l.length ≤ 1048576) :
    Calls Tryz.prog 40 #[.slice A l.length c] w fun e w' => ∃ A' c', e = .returned (.slice A' l.length c') ∧ RowOwn w' A' l c' ∧ NewAt w.heap.size A' ∧ (∀ b off q, A' = some ⟨b, off, q⟩ → b < w'.heap.size) ∧ Below w.heap.size w w' := by
  rcases A with _ | ad
  · have he : l = [] := by
      rcases hr with h | ⟨b, off, h, _⟩
      · simpa using h
      · cases h
    subst he
    have hnil := fun (w : World) => Lib.run_eql_slice_nil w (P := Tryz.prog) (t := 30) (e := 3) none 0 c 0 0 Tryz.underlying30
    go_enter Tryz.func40, Tryz.ntmps40
    go_wp2
    go_ret
    exact ⟨none, 0, rfl, ⟨Row.nil, World.ownsRow_nil _ _ _ _⟩, newAt_none _, (fun _ _ _ e => by cases e), Below.refl _ _⟩
  · have hnil := fun (w : World) => Lib.run_eql_slice_nil w (P := Tryz.prog) (t := 30) (e := 3) (some ad) l.length c 0 0 Tryz.underlying30
    have HR := hid hr
    clear hr
    go_enter Tryz.func40, Tryz.ntmps40
    go_wp2_with (at_builtin; refine wpList_append_row elem_int rfl _ _ rfl w.heap.size (.slice (some ⟨w.heap.size, 0, none⟩) 0 0) 0 [] rfl (World.ownsRow_made w #[] 0 (Nat.le_refl _) (by decide) rfl) (some ad) l.length c w.heap.size (icells' l) rfl ?_ (HR.out.below (Below.alloc (Below.refl _ _) (Nat.le_refl _) _) (Nat.le_refl _)) ?_ ?_ ?_ ?_ ?_; rotate_right; intro v1 w1 hown1 hg1 hat1; rotate_left; (simp); (intro u hu; obtain ⟨x, -, rfl⟩ := List.mem_map.1 hu; rfl); (simp only [maxLen]; omega); (omega); (simp))
    go_ret
    obtain ⟨A1, c1, rfl⟩ := own_formS hown1
    refine ⟨A1, c1, by simp, ?_, own_newS hown1 (Nat.le_refl _), own_inS hown1, ((Below.refl _ _).alloc (Nat.le_refl _) _).grown hg1 (by simp) (fun k hk => ?_)⟩
    · exact RowOwn.of_own (by simpa using hown1) rfl
    · simp [Value.ownBlock] at hk
      omega
end Go.Proofs.YtldlmkfigjicgaaGreatDoor
/- zset.Sum: each row with its weight in all, in order. -/
namespace Go.Proofs.YtldlmkfigjicgaaGreatDoor
set_option linter.unusedVariables false
set_option linter.unusedSimpArgs false
open Go.ChangeShapes Go.WideShapes Go.ChangeAt Go.RowKit Go.Shelf Go.Lib Go.Sort

/-- A list of items, and where it lies. -/
structure LR where
  L : List IR
  A : Option Addr
  k : Nat
abbrev LR.cells (x : LR) : List Value := [.slice x.A x.L.length x.k]
theorem LR.len (x : LR) : x.cells.length = 1 := rfl
abbrev lrs (LL : List LR) : List IR := LL.flatMap LR.L
theorem Row.lr {w : World} {B : Nat} {A : Option Addr} {LL : List LR} (h : Row w B A (LL.flatMap LR.cells)) {k : Nat} (hk : k < LL.length) :
    ∃ b off, A = some ⟨b, off, none⟩ ∧ b < B ∧ w.cell? ⟨b, off + k, none⟩ = some (.slice LL[k].A LL[k].L.length LL[k].k) := by
  obtain ⟨b, off, h1, h2, h3⟩ := Row.flat LR.len h (by omega) hk
  have := h3 0 _ rfl
  rw [Nat.mul_one, Nat.add_zero] at this
  exact ⟨b, off, h1, h2, this⟩
theorem lrs_take_len (LL : List LR) (j : Nat) : (lrs (LL.take j)).length ≤ (lrs LL).length := by
  have e : lrs LL = lrs (LL.take j) ++ lrs (LL.drop j) := by rw [lrs, lrs, lrs, ← List.flatMap_append, List.take_append_drop]
  rw [e, List.length_append]; omega

theorem grp_at {L : List IR} {i n : Nat} (h : i + n < L.length) : grpSum (its L) i (n + 1) = IntKind.i64.wrap (grpSum (its L) i n + L[i + n].n) := by
  rw [grpSum, List.getElem?_eq_getElem (by rw [its_len]; exact h), Option.map_some, Option.getD_some]
  simp [its]

set_option maxHeartbeats 8000000 in
set_option maxRecDepth 100000 in
theorem sum_any (LL : List LR) (A : Option Addr) (c : Nat) (w : World) (hr : Row w w.heap.size A (LL.flatMap LR.cells)) (hrows : ∀ x ∈ LL, RowI w w.heap.size x.A x.L) (hl : (lrs LL).length ≤ 4194304) (hll : LL.length ≤ 1048576) (hrl : ∀ x ∈ lrs LL, x.row.length ≤ 1048576) :
    Calls Tryz.prog 36 #[.slice A LL.length c] w (ItsPost (sumL (its (lrs LL))) w) := by
  have HR := hid hr
  have HRW := hid hrows
  have HRL := hid hrl
  clear hr hrows hrl
  have hs0 : w.heap.size ≤ w.heap.size := Nat.le_refl _
  obtain ⟨i0, z0, hi0, hz0, hz1, hz2, hz3⟩ := elem_item.hi
  go_enter Tryz.func36, Tryz.ntmps36
  go_wp2_with fail
  -- STOP-a
  go_loopw [3, 11] (fun s3 s11 wr => ∃ j : Nat, j ≤ LL.length ∧ s11 = .int .i64 j ∧ Hid (wr.ownsRow w.heap.size 67 2 s3 (lrs (LL.take j)).length (rcells (lrs (LL.take j)))) ∧ Hid (Below w.heap.size w wr)) (fun _ s11 _ => LL.length - (intOf s11).toNat)
  case atStart => exact ⟨0, by omega, rfl, hid (World.ownsRow_nil _ _ _ _), hid (Below.refl _ _)⟩
  case round =>
    obtain ⟨j, hj, rfl, HOWN, HB⟩ := hrel
    have hsz := HB.out.size
    by_cases hlt : j < LL.length
    · obtain ⟨b, off, rfl, hb, h0⟩ := (HR.out.below HB.out (Nat.le_refl _)).lr hlt
      have HST := hid (show lrs (LL.take (j + 1)) = lrs (LL.take j) ++ LL[j].L by rw [List.take_succ_eq_append_getElem hlt, lrs, List.flatMap_append]; simp)
      have HN := hid ((HRW.out _ (List.getElem_mem hlt)).1.below HB.out (Nat.le_refl _))
      have hl2 : (lrs (LL.take j)).length + LL[j].L.length ≤ 4194304 := by
        have := lrs_take_len LL (j + 1)
        rw [HST.out, List.length_append] at this
        omega
      obtain ⟨O, hO⟩ : ∃ O, O = lrs (LL.take j) := ⟨_, rfl⟩
      rw [← hO] at HOWN HST hl2
      clear hO
      generalize LL[j] = x at *
      obtain ⟨xl, xA, xk⟩ := x
      obtain ⟨A3, c3, rfl⟩ := own_formS HOWN.out
      have hb2 : b < wr.heap.size := by omega
      simp only at h0 HN hl2 HST
      go_wp2_with (at_builtin; refine wpList_append_row elem_item rfl _ _ rfl w.heap.size _ _ _ rfl HOWN.out xA xl.length xk w.heap.size (rcells xl) rfl (rcells_len xl) HN.out (rcells_one xl) ?_ ?_ ?_ ?_; rotate_right; intro v6 w6 hown6 hg6 hif6; rotate_left; (simp only [maxLen]; omega); (omega); (omega))
      go_roundw
      case rel =>
        refine ⟨j + 1, by omega, by go_num, ?_, hid (HB.out.grown hg6 hsz (fun g e => (HOWN.out.lt g e).1))⟩
        rw [HST.out, List.length_append, rcells, List.flatMap_append]
        exact hid hown6
      case measure => simp [intOf]; omega
    · have hJ : LL.take j = LL := List.take_of_length_le (by omega)
      rw [hJ] at HOWN
      obtain ⟨L, hL⟩ : ∃ L, L = lrs LL := ⟨_, rfl⟩
      rw [← hL] at HOWN hl HRL ⊢
      have HRA : Hid (RowsAt w w.heap.size L) := hid (fun x hx => by
        rw [hL] at hx
        obtain ⟨y, hy, hxy⟩ := List.mem_flatMap.1 hx
        exact (HRW.out y hy).2 x hxy)
      obtain ⟨A3, c3, rfl⟩ := own_formS HOWN.out
      have HRA2 := hid (HRA.out.below HB.out (Nat.le_refl _))
      have HLL := hid hL
      clear hL hJ HRW
      go_wp2_with fail
      -- STOP-b
      refine (zsortI_own L _ HOWN.out HRA2.out hsz (by omega)).mono ?_
      rintro e w2 ⟨rfl, L', hperm, hris, hown2, hg2⟩
      have HB2 := hid (HB.out.grown hg2 hsz (fun g e => (HOWN.out.lt g e).1))
      have HPM := hid hperm
      have HRS := hid hris
      have hln : L'.length = L.length := hperm.length_eq
      have HRX := hid (show Row w2 w2.heap.size A3 (rcells L') from Row.of_ownS hown2)
      have HRB : Hid (RowsAt w2 w2.heap.size L') := hid ((((HRA.out.sub fun x hx => hperm.mem_iff.1 hx).below HB2.out (Nat.le_refl _))).more HB2.out.size)
      have HRL2 : Hid (∀ x ∈ L', x.row.length ≤ 1048576) := hid (fun x hx => HRL.out x (hperm.mem_iff.1 hx))
      have HFIN : Hid (∀ S : List It, Summed (its L') (its L').length S → S = sumL (its L)) := hid (fun S h => summed_sumL (hperm.map IR.it) h)
      have HLN := hid hln
      have hs2 : w.heap.size ≤ w2.heap.size := HB2.out.size
      clear hperm hris hown2 hg2 HRA HRA2 HRL HB HOWN hln hsz hlt hj
      go_wp2_with fail
      -- STOP-c
      go_loopw [6, 7] (fun s6 s7 wr => ∃ (i : Nat) (S : List IR), i ≤ L.length ∧ s7 = .int .i64 i ∧ S.length ≤ i ∧ Hid (Summed (its L') i (its S)) ∧ Hid (wr.ownsRow w2.heap.size 67 2 s6 S.length (rcells S)) ∧ Hid (RowsNew wr w2.heap.size s6 S) ∧ Hid (Below w2.heap.size w2 wr)) (fun _ s7 _ => L.length - (intOf s7).toNat)
      case atStart => exact ⟨0, [], by omega, rfl, by simp, hid (summed_nil _), hid (World.ownsRow_nil _ _ _ _), hid (RowsNew.nil _ _ _), hid (Below.refl _ _)⟩
      case round =>
        obtain ⟨i, S, hi, rfl, hSi, HSM, HOWN, HNEW, HB⟩ := hrel
        obtain ⟨wo, rfl⟩ : ∃ wx : World, wx = wr := ⟨_, rfl⟩
        obtain ⟨A6, c6, rfl⟩ := own_formS HOWN.out
        have hs3 := HB.out.size
        by_cases hlt : i < L.length
        · have hlt' : i < L'.length := by have := HLN.out; omega
          have HRXo := hid (HRX.out.step HB.out)
          have HRBo := hid (HRB.out.step HB.out)
          obtain ⟨b, off, rfl, hb, h0, h1⟩ := HRXo.out.it hlt'
          have hbw : b < w2.heap.size := by
            obtain ⟨b2, off2, hA2, hb2, -⟩ := HRX.out.it hlt'
            injection hA2 with hA2
            injection hA2 with hA3
            omega
          have hmem := List.getElem_mem hlt'
          have HRO : Hid (∀ h : i < L'.length, L'[i] = L'[i]) := hid (fun _ => rfl)
          have HROW := hid (HRBo.out _ hmem).1
          have hrl2 := HRL2.out _ hmem
          have HEQ := hid (show ∀ j, (h : j < L'.length) → (its L')[j]'(by rw [its_len]; exact h) = L'[j].it from fun j h => by simp [its])
          obtain ⟨r, hr⟩ : ∃ r, r = L'[i].row := ⟨_, rfl⟩
          have HRR := hid hr
          rw [← hr] at h0 HROW hrl2
          clear hr hmem HRO
          generalize L'[i].A = rA at *
          generalize L'[i].k = rk at *
          generalize L'[i].n = rn at *
          have HCL := hid (cloneI_any r rA rk wo HROW.out hrl2)
          go_wp2_with fail
          -- STOP-d
          refine HCL.out.mono ?_
          rintro e w3 ⟨A5, c5, rfl, hrow5, hnew5, hin5, hb5⟩
          have HIN5 := hid hin5
          have HROW5 := hid hrow5
          have HNEW5 := hid hnew5
          have HB5 := hid hb5
          have hs5 := hb5.size
          clear hrow5 hnew5 hin5 hb5 h0 h1 hb HCL HROW
          go_wp2_with fail
          -- STOP-e
          go_loopw [7] (fun s7 wr => ∃ n : Nat, i + n ≤ L.length ∧ s7 = .int .i64 ((i + n : Nat) : Int) ∧ Hid (InGroup (its L') i (i + n) r) ∧ Hid (Blk wr w3.heap.size #[.slice A5 r.length c5, .int .i64 (grpSum (its L') i n)] 67) ∧ Hid (Below w3.heap.size w3 wr)) (fun s7 _ => L.length - (intOf s7).toNat)
          case atStart => exact ⟨0, by omega, by simp, hid (fun k hk h1 h2 => by omega), hid (Blk.new _ _ _), hid (alloc_below (Below.refl _ _) _)⟩
          case round =>
            obtain ⟨n, hn, rfl, HG, HXB, HB6⟩ := hrel
            obtain ⟨wi, rfl⟩ : ∃ wx : World, wx = wr := ⟨_, rfl⟩
            obtain ⟨j, hj⟩ : ∃ j, j = i + n := ⟨_, rfl⟩
            have HJ := hid hj
            rw [← hj] at hn HG ⊢
            clear hj
            have hs6 := HB6.out.size
            have HB7 := hid (Below.step' HB.out (Below.step' HB5.out HB6.out))
            have HROW6 := hid (HROW5.out.row.step HB6.out)
            have hxl := HXB.out.lt
            obtain ⟨okb, hok⟩ : ∃ okb : Bool, okb = (if h : j < L'.length then decide (cmpL L'[j].row r = 0) else false) := ⟨_, rfl⟩
            have HOK := hid hok
            clear hok
            go_upto_region 12 with fail
            go_cut [46] from 32 to 46 (fun s wx => s = .bool okb ∧ Hid (Below wi.heap.size wi wx))
            case first =>
              by_cases hlt2 : j < L.length
              · have hlt3 : j < L'.length := by have := HLN.out; omega
                obtain ⟨b', off', hA, hb', h0, h1⟩ := (HRX.out.step HB7.out).it hlt3
                injection hA with hA
                injection hA with hA1 hA2
                subst hA1 hA2
                have hokv : okb = decide (cmpL L'[j].row r = 0) := by rw [HOK.out, dif_pos hlt3]
                have hmem := List.getElem_mem hlt3
                have HORD := hid (fun w1 (hb : Below wi.heap.size wi w1) => orderL_any L'[j].row r L'[j].A A5 L'[j].k c5 w1 ((HRB.out.step HB7.out).step hb _ hmem).1 (HROW6.out.step hb) (Nat.le_trans (HRL2.out _ hmem) (by decide)) (by omega))
                obtain ⟨cv, hcv⟩ : ∃ cv, cv = cmpL L'[j].row r := ⟨_, rfl⟩
                rw [← hcv] at HORD hokv
                clear hmem hcv
                generalize L'[j].row = xr at *
                generalize L'[j].A = xA at *
                generalize L'[j].k = xk at *
                generalize L'[j].n = xn at *
                have HOV := hid hokv
                obtain ⟨cx, fx, sx, nx⟩ := HXB.out.all
                by_cases hz : cv = 0
                · have t1 : (cv == 0) = true := by simp [hz]
                  have HZ := hid hz
                  clear hokv hz
                  go_wp2
                  refine region_ext (by kernel_rfl) (by kernel_rfl) (fun hext => ?_)
                  repeat (any_goals ((with_reducible refine wpQuiet_step (fun K hK => ?_)); go_simp; first | (with_reducible refine hK _ ?_; clear hK K) | ((with_reducible apply Exists.intro); (with_reducible refine ⟨fun _ => ?_, hK _ ?_⟩); (go_at_call 16; exact ext_call_same _ (HORD.out _ (Ext.below _))); clear hK K) | ((with_reducible refine (if_neg ?_).mpr (hK _ ?_)); (decide); clear hK K) | (split <;> (with_reducible refine hK _ ?_; clear hK K))))
                  all_goals ((with_reducible refine wpQuiet_nil ?_); clear hext; intro w1 hx1; have hb1 := ext_below hx1; clear hx1)
                  go_wp2
                  all_goals
                    go_meet
                    case rel => exact ⟨by rw [HOV.out, decide_eq_true HZ.out], hid hb1⟩
                · have t1 : (cv == 0) = false := by simp [hz]
                  have HZ := hid hz
                  clear hokv hz
                  go_wp2
                  refine region_ext (by kernel_rfl) (by kernel_rfl) (fun hext => ?_)
                  repeat (any_goals ((with_reducible refine wpQuiet_step (fun K hK => ?_)); go_simp; first | (with_reducible refine hK _ ?_; clear hK K) | ((with_reducible apply Exists.intro); (with_reducible refine ⟨fun _ => ?_, hK _ ?_⟩); (go_at_call 16; exact ext_call_same _ (HORD.out _ (Ext.below _))); clear hK K) | ((with_reducible refine (if_neg ?_).mpr (hK _ ?_)); (decide); clear hK K) | (split <;> (with_reducible refine hK _ ?_; clear hK K))))
                  all_goals ((with_reducible refine wpQuiet_nil ?_); clear hext; intro w1 hx1; have hb1 := ext_below hx1; clear hx1)
                  go_wp2
                  all_goals
                    go_meet
                    case rel => exact ⟨by rw [HOV.out, decide_eq_false HZ.out], hid hb1⟩
              · have hlt3 : ¬ j < L'.length := by have := HLN.out; omega
                have HOV : Hid (okb = false) := hid (by rw [HOK.out, dif_neg hlt3])
                have hd : decide ((j : Int) < (L.length : Int)) = false := decide_eq_false (by omega)
                go_wp2
                refine region_ext (by kernel_rfl) (by kernel_rfl) (fun hext => ?_)
                repeat (any_goals ((with_reducible refine wpQuiet_step (fun K hK => ?_)); go_simp; first | (with_reducible refine hK _ ?_; clear hK K) | ((with_reducible apply Exists.intro); (with_reducible refine ⟨fun _ => ?_, hK _ ?_⟩); (fail); clear hK K) | ((with_reducible refine (if_neg ?_).mpr (hK _ ?_)); (decide); clear hK K) | (split <;> (with_reducible refine hK _ ?_; clear hK K))))
                all_goals ((with_reducible refine wpQuiet_nil ?_); clear hext; intro w1 hx1; have hb1 := ext_below hx1; clear hx1)
                go_wp2
                all_goals
                  go_meet
                  case rel => exact ⟨by rw [HOV.out], hid hb1⟩
            case rest =>
              obtain ⟨rfl, HB8⟩ := hcut
              obtain ⟨wj, rfl⟩ : ∃ wx : World, wx = wc := ⟨_, rfl⟩
              have HXB8 := hid (HXB.out.step HB8.out)
              have HB9 := hid (HB6.out.trans (HB8.out.mono hs6))
              have HB10 := hid (Below.step' HB7.out HB8.out)
              have hs8 := HB8.out.size
              clear HXB HB7 HROW6
              cases okb
              · have hn0 : 0 < n := by
                  rcases Nat.eq_zero_or_pos n with h | h
                  · exfalso
                    have hji : j = i := by have := HJ.out; omega
                    have := HOK.out
                    rw [dif_pos (show j < L'.length by omega)] at this
                    simp only [hji] at this
                    rw [← HRR.out, cmpL_self] at this
                    simp at this
                  · exact h
                have hlenj : i + n ≤ (its L').length := by rw [its_len, HLN.out, ← HJ.out]; exact hn
                have hout : ∀ h : i + n < (its L').length, (its L')[i + n].1 ≠ r := fun h e => by
                  have h2 : j < L'.length := by rw [its_len] at h; rw [HJ.out]; exact h
                  have := HOK.out
                  rw [dif_pos h2] at this
                  have e2 := HEQ.out (i + n) (by rw [its_len] at h; exact h)
                  rw [e2] at e
                  simp only [IR.it] at e
                  simp only [HJ.out, e, cmpL_self] at this
                  simp at this
                have hgrp := HG.out
                rw [HJ.out] at hgrp
                have HSS := hid (summed_step (fun a b ha hb hab => HRS.out a b ha hb hab) HSM.out hn0 hlenj r hgrp hout)
                clear hlenj hout hgrp HOK
                obtain ⟨gs, hgs⟩ : ∃ gs, gs = grpSum (its L') i n := ⟨_, rfl⟩
                rw [← hgs] at HXB8 HSS
                clear hgs
                obtain ⟨cx, fx, sx, nx⟩ := HXB8.out.all
                have HOWN8 := hid (own_laterS HOWN.out (Below.step' HB5.out (Below.trans HB6.out (HB8.out.mono hs6))))
                have HNEW8 := hid (HNEW.out.step (Below.step' HB5.out (Below.trans HB6.out (HB8.out.mono hs6))))
                have HROW8 := hid (HROW5.out.step (Below.trans HB6.out (HB8.out.mono hs6)))
                by_cases hz : gs = 0
                · have t1 : (gs != 0) = false := by simp [hz]
                  have HZ := hid hz
                  clear hz
                  go_wp2_with fail
                  go_roundw
                  case rel =>
                    refine ⟨j, S, hn, rfl, by have := HJ.out; omega, ?_, HOWN8, HNEW8, HB10⟩
                    have := HSS.out
                    rw [if_pos HZ.out, ← HJ.out] at this
                    exact hid this
                  case measure => have := HJ.out; simp [intOf]; omega
                · have t1 : (gs != 0) = true := by simp [hz]
                  have HZ := hid hz
                  clear hz
                  have hj2 := HJ.out
                  have hjn : i < j := by omega
                  clear hj2
                  go_wp2_with (at_builtin; refine wpList_append_row elem_item rfl _ _ rfl w2.heap.size _ _ _ rfl (HOWN8.out.alloc _) (some ⟨wj.heap.size, 0, none⟩) 1 1 (wj.heap.size + 1) [.slice A5 r.length c5, .int .i64 gs] rfl rfl (Row.new' _ _ _ rfl rfl (Nat.lt_succ_self _)) (rcells_one [⟨r, A5, c5, gs⟩]) ?_ ?_ ?_ ?_; rotate_right; intro v7 w7 hown7 hg7 hif7; rotate_left; (simp only [maxLen]; omega); (omega); (simp; omega))
                  -- STOP-f
                  have HNEW9 := hid ((HNEW8.out.step (alloc_below (Below.refl _ _) (.cells #[.slice A5 r.length c5, .int .i64 gs] 67))).grown hg7 hif7)
                  have HROW9 := hid ((HROW8.out.step (alloc_below (Below.refl _ _) (.cells #[.slice A5 r.length c5, .int .i64 gs] 67))))
                  have hA5 : ∀ b off q, A5 = some ⟨b, off, q⟩ → some b ≠ (Value.slice A6 S.length c6).ownBlock := fun b off q e e2 => by
                    have q1 := HNEW5.out b off q e
                    have q2 := (HOWN.out.lt b e2.symm).2
                    omega
                  have HA5 := hid hA5
                  have HIF := hid hif7
                  have HG7 := hid hg7
                  have HOWN9 := hid hown7
                  clear hown7 hg7 hif7 hA5
                  go_roundw
                  case rel =>
                    have HB11 := (HB10.out.alloc (by omega) (.cells #[.slice A5 r.length c5, .int .i64 gs] 67)).grown HG7.out (by simp; omega) (fun g e => (HOWN8.out.lt g e).1)
                    have hsum : Summed (its L') j (its (S ++ [⟨r, A5, c5, gs⟩])) := by
                      have := HSS.out
                      rw [if_neg HZ.out, ← HJ.out] at this
                      show Summed (its L') j ((S ++ [(⟨r, A5, c5, gs⟩ : IR)]).map IR.it)
                      rw [List.map_append]
                      exact this
                    have hr9 := (HROW9.out.grown_ne (Nat.le_refl _) HG7.out HA5.out).more HG7.out.size
                    refine ⟨j, S ++ [⟨r, A5, c5, gs⟩], hn, rfl, by simp; omega, hid hsum, ?_, hid ?_, hid HB11⟩
                    · rw [rcells_snoc, List.length_append]
                      exact HOWN9
                    · refine RowsNew.snoc HNEW9.out (x := (⟨r, A5, c5, gs⟩ : IR)) hr9 (newAt_le HNEW5.out hs3) (fun b off q e => ?_) hrl2
                      have hlt9 := HIN5.out b off q e
                      have hsz7 := HG7.out.size
                      simp at hsz7
                      refine ⟨?_, by omega⟩
                      rcases HIF.out with h | h
                      · rw [h]; exact HA5.out b off q e
                      · rw [h]; intro e2; injection e2 with e2; simp at e2; omega
                  case measure => have := HJ.out; simp [intOf]; omega
              · have hlt3 : j < L'.length := by
                  rcases Nat.lt_or_ge j L'.length with h | h
                  · exact h
                  · have := HOK.out; rw [dif_neg (by omega)] at this; cases this
                have hlt2 : j < L.length := by have := HLN.out; omega
                have hrow : L'[j].row = r := by
                  have := HOK.out
                  rw [dif_pos hlt3] at this
                  exact cmpL_eq _ _ (by simpa using this.symm)
                obtain ⟨b', off', hA, hb', h0, h1⟩ := (HRX.out.step HB10.out).it hlt3
                injection hA with hA
                injection hA with hA1 hA2
                subst hA1 hA2
                have HGR : Hid (InGroup (its L') i (j + 1) r) := hid (fun k hk h1 h2 => by
                  by_cases e : k = j
                  · subst e; rw [HEQ.out k hlt3]; exact hrow
                  · exact HG.out k hk h1 (by omega))
                have HGA : Hid (grpSum (its L') i (n + 1) = IntKind.i64.wrap (grpSum (its L') i n + L'[j].n)) := hid (by
                  have := HJ.out
                  subst this
                  exact grp_at hlt3)
                clear hrow HOK
                obtain ⟨gs, hgs⟩ : ∃ gs, gs = grpSum (its L') i n := ⟨_, rfl⟩
                rw [← hgs] at HXB8 HGA
                clear hgs
                generalize L'[j].row = xr at *
                generalize L'[j].A = xA at *
                generalize L'[j].k = xk at *
                generalize L'[j].n = xn at *
                obtain ⟨cx, fx, sx, nx⟩ := HXB8.out.all
                have hne : (w3.heap.size = b) = False := by simp; omega
                have hne' : (b = w3.heap.size) = False := by simp; omega
                have hb3 : b < wj.heap.size := by omega
                go_wp2_with fail
                -- STOP-g
                go_big_region
                go_wp2
                go_roundw
                case rel =>
                  refine ⟨n + 1, by have := HJ.out; omega, by have := HJ.out; go_num, hid (by have := HGR.out; rwa [HJ.out] at this), hid ?_, hid (HB9.out.setCell (p := ⟨w3.heap.size, 1, none⟩) (Nat.le_refl _) _).drew⟩
                  rw [HGA.out, IntWalk.i64_left]
                  exact (HXB8.out.set 1 _).drew
                case measure => have := HJ.out; simp [intOf]; omega
        · have hli : i = (its L').length := by rw [its_len, HLN.out]; omega
          have HF := hid (HFIN.out (its S) (by rw [← hli]; exact HSM.out))
          clear hli
          go_wp2
          go_ret
          exact ⟨A6, c6, S, rfl, by rw [← HLL.out]; exact HF.out, own_baseS HOWN.out hs2, fun x hx => by
            obtain ⟨q1, q2, q3, q4⟩ := HNEW.out x hx
            exact ⟨q1, newAt_le q2 hs2, q3, q4⟩, HB2.out.trans (HB.out.mono hs2)⟩
end Go.Proofs.YtldlmkfigjicgaaGreatDoor
