/- TWn -/
import Derived.Test.YtogegnikpjcpdaaCk13
import Derived.Test.YtogegnikpjcpdaaCk17
import Derived.Test.YtogegnikpjcpdaaCk18
/- viewkeep.TableWins: the walk. -/
namespace Go.Proofs.Ytogegnikpjcpdaa
set_option linter.unusedVariables false
open Go.ChangeShapes Go.WideShapes Go.ChangeAt Go.RowKit

theorem merge_small {a b : Tab} (ha : a.c.cloud.length ≤ 400 ∧ a.cells.length ≤ 400) (hb : b.c.cloud.length ≤ 400 ∧ b.cells.length ≤ 400) (A : Option Addr) (k : Nat) (B : Option Addr) (m : Nat) (A' : Option Addr) (k' : Nat) (B' : Option Addr) (m' : Nat) (w : World)
    (h1 : Row w w.heap.size A (dcells a.c.cloud)) (h2 : Row w w.heap.size B (tcells a.cells)) (h3 : Row w w.heap.size A' (dcells b.c.cloud)) (h4 : Row w w.heap.size B' (tcells b.cells)) :
    Calls Try.prog 54 #[tval a A k B m, tval b A' k' B' m'] w (TabErr (mergeX a b) (mergeE a b) w) :=
  merge_any a b A k B m A' k' B' m' w h1 (by omega) h2 (by omega) h3 (by omega) h4 (by omega)
theorem equalI_lit2 {L : List Int} {x y : Int} {A : Option Addr} {c b X : Nat} {w : World} (hl : L.length ≤ 400) (ho : w.ownsRow b 3 1 (.slice A L.length c) L.length (icells L)) (hX : Blk w X #[.int .i64 x, .int .i64 y] 3) :
    Calls Try.prog 49 #[.slice A L.length c, .slice (some ⟨X, 0, none⟩) 2 2] w fun e w' => e = .returned (.bool (decide (L = [x, y]))) ∧ Below w.heap.size w w' := by
  have hr : Row w w.heap.size (some ⟨X, 0, none⟩) (icells [x, y]) := .inr ⟨X, 0, rfl, hX.lt, fun i v h => by
    match i, h with
    | 0, h => rw [← h]; exact hX.cells.1 0
    | 1, h => rw [← h]; exact hX.cells.1 1⟩
  exact equalI_any L [x, y] A (some ⟨X, 0, none⟩) c 2 w (Row.of_ownS ho) hr (by omega) (by simp)

set_option maxHeartbeats 8000000 in
set_option maxRecDepth 100000 in
theorem twn_any (l : List Ed) (A : Option Addr) (k0 : Nat) (key col v u : Int) (w : World) (hr : Row w w.heap.size A (ecells l)) (hl : l.length ≤ 9223372036854775807) (hcap : l.length ≤ k0) :
    Calls Try.prog 13 #[.slice A l.length k0, .int .i64 key, .int .i64 col, .int .i64 v, .int .i64 u] w fun e w' => e = .returned (.bool true) ∧ Below w.heap.size w w' := by
  have HE := hid (fun w1 (hb : Below w.heap.size w w1) => edited_any l A k0 w1 (hr.step hb) hl hcap)
  have hrt := editX_right l
  clear hr
  obtain ⟨t, ht⟩ : ∃ t, t = editX l := ⟨_, rfl⟩
  rw [← ht] at HE hrt
  clear ht
  have ts := tab_small hrt
  have sp : ∀ n val, (putX t n key col val).c.cloud.length ≤ 400 ∧ (putX t n key col val).cells.length ≤ 400 := fun n val => ⟨(putX_len t n key col val).1, by have := (putX_len t n key col val).2; omega⟩
  have HL : Hid (putE t 2 key col v = 0 → putE t 3 key col u = 0 → (mergeE t (putX t 2 key col v) ≠ 0 → mergeE t (putX t 2 key col v) = 2) ∧ (mergeE t (putX t 3 key col u) ≠ 0 → mergeE t (putX t 3 key col u) = 2)) :=
    hid (fun h h' => ⟨merge_large hrt (put_ok h).1 (put_apart h), merge_large hrt (put_ok h').1 (put_apart h')⟩)
  have HW := hid (fun h1 h2 g1 g2 => wins_law (t := t) (key := key) (col := col) (v := v) (w := u) h1 h2 g1 g2 _ _ rfl rfl)
  have HPU := hid (fun A2 k2 B2 m2 (w1 : World) (h1 : Row w1 w1.heap.size A2 (dcells t.c.cloud)) (h2 : Row w1 w1.heap.size B2 (tcells t.cells)) => put_any t 2 key col v A2 k2 B2 m2 w1 h1 (by omega) h2 (by omega))
  have HQU := hid (fun A2 k2 B2 m2 (w1 : World) (h1 : Row w1 w1.heap.size A2 (dcells t.c.cloud)) (h2 : Row w1 w1.heap.size B2 (tcells t.cells)) => put_any t 3 key col u A2 k2 B2 m2 w1 h1 (by omega) h2 (by omega))
  have HM1 := hid (merge_small ts (sp 2 v))
  have HM2 := hid (merge_small ts (sp 3 u))
  obtain ⟨P, hP⟩ : ∃ P, P = putX t 2 key col v := ⟨_, rfl⟩
  obtain ⟨EP, hEP⟩ : ∃ PE, PE = putE t 2 key col v := ⟨_, rfl⟩
  obtain ⟨Q, hQ⟩ : ∃ P, P = putX t 3 key col u := ⟨_, rfl⟩
  obtain ⟨EQ, hEQ⟩ : ∃ PE, PE = putE t 3 key col u := ⟨_, rfl⟩
  simp only [← hP, ← hEP, ← hQ, ← hEQ] at HL HW HPU HQU HM1 HM2
  clear hP hEP hQ hEQ sp
  obtain ⟨M, hA⟩ : ∃ X, X = mergeX t P := ⟨_, rfl⟩
  obtain ⟨GA, hGA⟩ : ∃ X, X = mergeE t P := ⟨_, rfl⟩
  obtain ⟨N, hB⟩ : ∃ X, X = mergeX t Q := ⟨_, rfl⟩
  obtain ⟨GB, hGB⟩ : ∃ X, X = mergeE t Q := ⟨_, rfl⟩
  simp only [← hA, ← hGA, ← hB, ← hGB] at HL HW HM1 HM2
  clear hA hGA hB hGB hrt ts
  have HMX := hid (fun (ha : tabI M = 0) (hb : tabI N = 0) => merge_small (tab_small ha) (tab_small hb))
  have HDE := hid (fun (hb : tabI N = 0) A2 k2 B2 m2 (w1 : World) (h1 : Row w1 w1.heap.size A2 (dcells N.c.cloud)) (h2 : Row w1 w1.heap.size B2 (tcells N.cells)) => del_any N key A2 k2 B2 m2 w1 h1 (by have := (tab_small hb).1; omega) h2 (by have := (tab_small hb).2; omega))
  have HMG := hid (fun (hb : tabI N = 0) => merge_small (b := delX N key) (tab_small hb) ⟨(delX_len N key).1, by have := (delX_len N key).2; omega⟩)
  have HXT : Hid (mergeE M N = 0 → tabI (mergeX M N) = 0) := hid (fun h => (merge_ok h).1)
  obtain ⟨X, hX⟩ : ∃ X, X = mergeX M N := ⟨_, rfl⟩
  obtain ⟨EX, hEX⟩ : ∃ X, X = mergeE M N := ⟨_, rfl⟩
  obtain ⟨D, hD⟩ : ∃ X, X = delX N key := ⟨_, rfl⟩
  obtain ⟨DE, hDE⟩ : ∃ X, X = delE N key := ⟨_, rfl⟩
  simp only [← hX, ← hEX, ← hD, ← hDE] at HW HMX HDE HMG HXT
  clear hX hEX hD hDE
  obtain ⟨G, hG⟩ : ∃ X, X = mergeX N D := ⟨_, rfl⟩
  obtain ⟨GE, hGE⟩ : ∃ X, X = mergeE N D := ⟨_, rfl⟩
  simp only [← hG, ← hGE] at HW HMG
  clear hG hGE
  have HMY := hid (fun (ha : tabI G = 0) (hb : tabI M = 0) => merge_small (tab_small ha) (tab_small hb))
  have HYT : Hid (mergeE G M = 0 → tabI (mergeX G M) = 0) := hid (fun h => (merge_ok h).1)
  obtain ⟨Y, hY⟩ : ∃ X, X = mergeX G M := ⟨_, rfl⟩
  obtain ⟨EY, hEY⟩ : ∃ X, X = mergeE G M := ⟨_, rfl⟩
  simp only [← hY, ← hEY] at HW HMY HYT
  clear hY hEY
  have HVX := hid (fun (hx : tabI X = 0) A2 k2 B2 m2 (w1 : World) (h2 : Row w1 w1.heap.size B2 (tcells X.cells)) => values_any X key col A2 k2 B2 m2 w1 h2 (by have := (tab_small hx).2; omega))
  have HVY := hid (fun (hx : tabI Y = 0) A2 k2 B2 m2 (w1 : World) (h2 : Row w1 w1.heap.size B2 (tcells Y.cells)) => values_any Y key col A2 k2 B2 m2 w1 h2 (by have := (tab_small hx).2; omega))
  obtain ⟨VX, hVX⟩ : ∃ Z, Z = valsL X key col := ⟨_, rfl⟩
  obtain ⟨VY, hVY⟩ : ∃ Z, Z = valsL Y key col := ⟨_, rfl⟩
  simp only [← hVX, ← hVY] at HW HVX HVY
  clear hVX hVY
  obtain ⟨⟨c0, c1, c2, c3, cl⟩, cs⟩ := t
  obtain ⟨⟨p0, p1, p2, p3, pl⟩, ps⟩ := P
  obtain ⟨⟨q0, q1, q2, q3, ql⟩, qs⟩ := Q
  obtain ⟨⟨a0, a1, a2, a3, al⟩, as'⟩ := M
  obtain ⟨⟨b0, b1, b2, b3, bl⟩, bs⟩ := N
  obtain ⟨⟨x0, x1, x2, x3, xl⟩, xs⟩ := X
  obtain ⟨⟨d0, d1, d2, d3, dl⟩, ds⟩ := D
  obtain ⟨⟨g0, g1, g2, g3, gl⟩, gs⟩ := G
  obtain ⟨⟨y0, y1, y2, y3, yl⟩, ys⟩ := Y
  simp only [tval] at HPU HQU HM1 HM2 HMX HDE HMG HMY HVX HVY
  go_enter Try.func13, Try.ntmps13
  go_wp2_with fail
  refine (puts_any _).mono ?_
  rintro e w1 ⟨rfl, hb1⟩
  have HBW := hid (show Below w.heap.size w w1 from (by refine Below.step' ?_ hb1; (repeat' (first | (with_reducible exact Below.refl _ _) | (with_reducible assumption) | (with_reducible refine below_drewN ?_ _) | (with_reducible refine Below.drew ?_) | (with_reducible refine Below.alloc ?_ ?_ _) | (with_reducible refine Below.setCell ?_ ?_ _) | (refine Below.trans ?_ (Below.mono (by assumption) ?_)) | go_size))))
  clear hb1
  go_wp2_with fail
  refine (HE.out _ HBW.out).mono ?_
  rintro e w2 ⟨A2, k2, B2, m2, rfl, hr2, hs2, hb2, -, -⟩
  simp only [tval] at hr2 hs2 ⊢
  replace HBW := hid (Below.step' HBW.out hb2)
  have HR2 := hid hr2
  have HS2 := hid hs2
  clear hr2 hs2 hb2 HE
  go_wp2_with fail
  refine (HPU.out _ _ _ _ _ (HR2.out.alloc _) (HS2.out.alloc _)).mono ?_
  rintro e w3 ⟨A3, k3, B3, m3, rfl, hr3, hs3, hb3, -, -⟩
  simp only [tval] at hr3 hs3 ⊢
  have hB3 : Below w2.heap.size w2 w3 := (by refine Below.step' ?_ hb3; (repeat' (first | (with_reducible exact Below.refl _ _) | (with_reducible assumption) | (with_reducible refine below_drewN ?_ _) | (with_reducible refine Below.drew ?_) | (with_reducible refine Below.alloc ?_ ?_ _) | (with_reducible refine Below.setCell ?_ ?_ _) | (refine Below.trans ?_ (Below.mono (by assumption) ?_)) | go_size)))
  have HXc := hid (Blk.step (Blk.new w2 #[.int .i64 c0, .int .i64 c1, .int .i64 c2, .int .i64 c3, .slice A2 cl.length k2, .slice B2 cs.length m2] 59) hb3)
  replace HR2 := hid (HR2.out.step hB3)
  replace HS2 := hid (HS2.out.step hB3)
  replace HBW := hid (Below.step' HBW.out hB3)
  have HR3 := hid hr3
  have HS3 := hid hs3
  clear hr3 hs3 hb3 hB3 HPU
  obtain ⟨cHXc, fHXc, sHXc, nHXc⟩ := HXc.out.all
  try simp only [cbox] at cHXc
  go_wp2_with fail
  refine (HQU.out _ _ _ _ _ (HR2.out.alloc _) (HS2.out.alloc _)).mono ?_
  rintro e w4 ⟨A4, k4, B4, m4, rfl, hr4, hs4, hb4, -, -⟩
  simp only [tval] at hr4 hs4 ⊢
  clear cHXc fHXc sHXc nHXc
  have hB4 : Below w3.heap.size w3 w4 := (by refine Below.step' ?_ hb4; (repeat' (first | (with_reducible exact Below.refl _ _) | (with_reducible assumption) | (with_reducible refine below_drewN ?_ _) | (with_reducible refine Below.drew ?_) | (with_reducible refine Below.alloc ?_ ?_ _) | (with_reducible refine Below.setCell ?_ ?_ _) | (refine Below.trans ?_ (Below.mono (by assumption) ?_)) | go_size)))
  have HXp := hid (Blk.step (Blk.new w3 #[.int .i64 p0, .int .i64 p1, .int .i64 p2, .int .i64 p3, .slice A3 pl.length k3, .slice B3 ps.length m3] 59) hb4)
  replace HXc := hid (HXc.out.step hB4)
  replace HR2 := hid (HR2.out.step hB4)
  replace HS2 := hid (HS2.out.step hB4)
  replace HR3 := hid (HR3.out.step hB4)
  replace HS3 := hid (HS3.out.step hB4)
  replace HBW := hid (Below.step' HBW.out hB4)
  have HR4 := hid hr4
  have HS4 := hid hs4
  clear hr4 hs4 hb4 hB4 HQU
  have HXq := hid (Blk.new w4 #[.int .i64 q0, .int .i64 q1, .int .i64 q2, .int .i64 q3, .slice A4 ql.length k4, .slice B4 qs.length m4] 59)
  by_cases qP : EP = 0
  rotate_left
  · have t1 : (EP != 0) = true := by simpa using qP
    clear qP
    go_wp2
    go_ret
    exact ⟨rfl, HBW.out.alloc HBW.out.size _⟩
  by_cases qQ : EQ = 0
  rotate_left
  · have t1 : (EQ != 0) = true := by simpa using qQ
    subst qP
    clear qQ
    go_wp2
    go_ret
    exact ⟨rfl, HBW.out.alloc HBW.out.size _⟩
  subst qP qQ
  obtain ⟨hla, hlb⟩ := HL.out (by first | rfl | trivial) (by first | rfl | trivial)
  have KW := hid (HW.out (by first | rfl | trivial) (by first | rfl | trivial))
  have HLA := hid hla
  have HLB := hid hlb
  clear hla hlb HL HW
  obtain ⟨cHXc, fHXc, sHXc, nHXc⟩ := HXc.out.all
  try simp only [cbox] at cHXc
  obtain ⟨cHXp, fHXp, sHXp, nHXp⟩ := HXp.out.all
  try simp only [cbox] at cHXp
  go_wp2_with fail
  refine (HM1.out _ _ _ _ _ _ _ _ _ (HR2.out.alloc _) (HS2.out.alloc _) (HR3.out.alloc _) (HS3.out.alloc _)).mono ?_
  rintro e w5 ⟨A5, k5, B5, m5, rfl, hr5, hs5, hb5, -, -⟩
  simp only [tval] at hr5 hs5 ⊢
  clear cHXc fHXc sHXc nHXc
  clear cHXp fHXp sHXp nHXp
  have hB5 : Below w4.heap.size w4 w5 := (by refine Below.step' ?_ hb5; (repeat' (first | (with_reducible exact Below.refl _ _) | (with_reducible assumption) | (with_reducible refine below_drewN ?_ _) | (with_reducible refine Below.drew ?_) | (with_reducible refine Below.alloc ?_ ?_ _) | (with_reducible refine Below.setCell ?_ ?_ _) | (refine Below.trans ?_ (Below.mono (by assumption) ?_)) | go_size)))
  replace HXq := hid (HXq.out.step hb5)
  replace HXc := hid (HXc.out.step hB5)
  replace HR2 := hid (HR2.out.step hB5)
  replace HS2 := hid (HS2.out.step hB5)
  replace HR4 := hid (HR4.out.step hB5)
  replace HS4 := hid (HS4.out.step hB5)
  replace HBW := hid (Below.step' HBW.out hB5)
  have HR5 := hid hr5
  have HS5 := hid hs5
  clear hr5 hs5 hb5 hB5 HM1 HR3 HS3 HXp
  obtain ⟨cHXc, fHXc, sHXc, nHXc⟩ := HXc.out.all
  try simp only [cbox] at cHXc
  obtain ⟨cHXq, fHXq, sHXq, nHXq⟩ := HXq.out.all
  try simp only [cbox] at cHXq
  go_wp2_with fail
  refine (HM2.out _ _ _ _ _ _ _ _ _ (HR2.out.alloc _) (HS2.out.alloc _) (HR4.out.alloc _) (HS4.out.alloc _)).mono ?_
  rintro e w6 ⟨A6, k6, B6, m6, rfl, hr6, hs6, hb6, -, -⟩
  simp only [tval] at hr6 hs6 ⊢
  clear cHXc fHXc sHXc nHXc
  clear cHXq fHXq sHXq nHXq
  have hB6 : Below w5.heap.size w5 w6 := (by refine Below.step' ?_ hb6; (repeat' (first | (with_reducible exact Below.refl _ _) | (with_reducible assumption) | (with_reducible refine below_drewN ?_ _) | (with_reducible refine Below.drew ?_) | (with_reducible refine Below.alloc ?_ ?_ _) | (with_reducible refine Below.setCell ?_ ?_ _) | (refine Below.trans ?_ (Below.mono (by assumption) ?_)) | go_size)))
  have HXa := hid (Blk.step (Blk.new w5 #[.int .i64 a0, .int .i64 a1, .int .i64 a2, .int .i64 a3, .slice A5 al.length k5, .slice B5 as'.length m5] 59) hb6)
  replace HR5 := hid (HR5.out.step hB6)
  replace HS5 := hid (HS5.out.step hB6)
  replace HBW := hid (Below.step' HBW.out hB6)
  have HR6 := hid hr6
  have HS6 := hid hs6
  clear hr6 hs6 hb6 hB6 HM2 HR4 HS4 HXq HXc HR2 HS2
  have HXb := hid (Blk.new w6 #[.int .i64 b0, .int .i64 b1, .int .i64 b2, .int .i64 b3, .slice A6 bl.length k6, .slice B6 bs.length m6] 59)
  by_cases qA : GA = 0
  rotate_left
  · have e2 := HLA.out qA
    have t1 : (GA != 0) = true := by simpa using qA
    have t2 : (GA == 2) = true := by simpa using e2
    clear qA e2
    go_wp2
    go_ret
    exact ⟨rfl, HBW.out.alloc HBW.out.size _⟩
  by_cases qB : GB = 0
  rotate_left
  · have e2 := HLB.out qB
    have t1 : (GB != 0) = true := by simpa using qB
    have t2 : (GB == 2) = true := by simpa using e2
    subst qA
    clear qB e2
    go_wp2
    go_ret
    exact ⟨rfl, HBW.out.alloc HBW.out.size _⟩
  subst qA qB
  obtain ⟨tA, tB, fX, fV, z1, z2, tG, fY, fW⟩ := KW.out (by first | rfl | trivial) (by first | rfl | trivial)
  have JMX := hid (HMX.out tA tB)
  have JDE := hid (HDE.out tB)
  have JMG := hid (HMG.out tB)
  have JMY := hid (HMY.out tG tA)
  have FX := hid fX
  have FV := hid fV
  have Z1 := hid z1
  have Z2 := hid z2
  have FY := hid fY
  have FW := hid fW
  clear tA tB fX fV z1 z2 tG fY fW KW HMX HDE HMG HMY HLA HLB
  obtain ⟨cHXa, fHXa, sHXa, nHXa⟩ := HXa.out.all
  try simp only [cbox] at cHXa
  obtain ⟨cHXb, fHXb, sHXb, nHXb⟩ := HXb.out.all
  try simp only [cbox] at cHXb
  go_wp2_with fail
  refine (JMX.out _ _ _ _ _ _ _ _ _ (HR5.out.alloc _) (HS5.out.alloc _) (HR6.out.alloc _) (HS6.out.alloc _)).mono ?_
  rintro e w7 ⟨A7, k7, B7, m7, rfl, hr7, hs7, hb7, -, -⟩
  simp only [tval] at hr7 hs7 ⊢
  clear cHXa fHXa sHXa nHXa
  clear cHXb fHXb sHXb nHXb
  have hB7 : Below w6.heap.size w6 w7 := (by refine Below.step' ?_ hb7; (repeat' (first | (with_reducible exact Below.refl _ _) | (with_reducible assumption) | (with_reducible refine below_drewN ?_ _) | (with_reducible refine Below.drew ?_) | (with_reducible refine Below.alloc ?_ ?_ _) | (with_reducible refine Below.setCell ?_ ?_ _) | (refine Below.trans ?_ (Below.mono (by assumption) ?_)) | go_size)))
  replace HXb := hid (HXb.out.step hb7)
  replace HXa := hid (HXa.out.step hB7)
  replace HR5 := hid (HR5.out.step hB7)
  replace HS5 := hid (HS5.out.step hB7)
  replace HR6 := hid (HR6.out.step hB7)
  replace HS6 := hid (HS6.out.step hB7)
  replace HBW := hid (Below.step' HBW.out hB7)
  have HS7 := hid hs7
  clear hr7 hs7 hb7 hB7 JMX
  by_cases qX : EX = 0
  rotate_left
  · have e2 := FX.out qX
    have t1 : (EX != 0) = true := by simpa using qX
    have t2 : (EX == 2) = true := by simpa using e2
    clear qX e2
    go_wp2
    go_ret
    exact ⟨rfl, HBW.out.alloc HBW.out.size _⟩
  subst qX
  have fv := FV.out (by first | rfl | trivial)
  have tX := HXT.out (by first | rfl | trivial)
  have JVX := hid (HVX.out tX)
  clear tX HXT FV FX HVX
  have FV := hid fv
  clear fv
  go_wp2_with fail
  refine (JVX.out _ _ _ _ _ (HS7.out.alloc _)).mono ?_
  rintro e w8 ⟨va, rfl, oa, hb8⟩
  obtain ⟨A8, c8, rfl⟩ := own_formS oa
  have hB8 : Below w7.heap.size w7 w8 := (by refine Below.step' ?_ hb8; (repeat' (first | (with_reducible exact Below.refl _ _) | (with_reducible assumption) | (with_reducible refine below_drewN ?_ _) | (with_reducible refine Below.drew ?_) | (with_reducible refine Below.alloc ?_ ?_ _) | (with_reducible refine Below.setCell ?_ ?_ _) | (refine Below.trans ?_ (Below.mono (by assumption) ?_)) | go_size)))
  replace HXa := hid (HXa.out.step hB8)
  replace HXb := hid (HXb.out.step hB8)
  replace HR5 := hid (HR5.out.step hB8)
  replace HS5 := hid (HS5.out.step hB8)
  replace HR6 := hid (HR6.out.step hB8)
  replace HS6 := hid (HS6.out.step hB8)
  replace HBW := hid (Below.step' HBW.out hB8)
  have OA := hid oa
  clear oa hb8 hB8 JVX HS7
  -- STOP1
  go_upto_region 16 with fail
  obtain ⟨W, hW⟩ : ∃ W : World, W = w8 := ⟨_, rfl⟩
  subst hW
  go_cut [108] from 87 to 108 (fun s wx => s = .bool false ∧ Below W.heap.size W wx)
  case first =>
    by_cases qv : v = u
    · have hV : VX = [v] := FV.out.1 qv
      have hE2 : decide (VX = [min v u, max v u]) = false := by rw [hV]; simp
      have hl400 : VX.length ≤ 400 := by rw [hV]; simp
      have t1 : (v != u) = false := by simpa using qv
      have HE2 := hid hE2
      have HV := hid hV
      have HL4 := hid hl400
      clear hV hE2 qv hl400
      go_wp2_with fail
      have hq := equalI_lit2 HL4.out (OA.out.alloc (.cells #[.int .i64 (min v u), .int .i64 (max v u)] 3)) (Blk.new W #[.int .i64 (min v u), .int .i64 (max v u)] 3)
      rw [HE2.out] at hq
      refine hq.mono ?_
      clear hq
      rintro e w9 ⟨rfl, hb9⟩
      have hB9 : Below W.heap.size W w9 := (by refine Below.step' ?_ hb9; (repeat' (first | (with_reducible exact Below.refl _ _) | (with_reducible assumption) | (with_reducible refine below_drewN ?_ _) | (with_reducible refine Below.drew ?_) | (with_reducible refine Below.alloc ?_ ?_ _) | (with_reducible refine Below.setCell ?_ ?_ _) | (refine Below.trans ?_ (Below.mono (by assumption) ?_)) | go_size)))
      have OA9 := hid (own_laterS OA.out hB9)
      have HB9 := hid hB9
      clear hb9 hB9
      go_wp2_with fail
      refine (equalI_lit HV.out (OA9.out.alloc (.cells #[.int .i64 v] 3)) (Blk.new w9 #[.int .i64 v] 3)).mono ?_
      rintro e w10 ⟨rfl, hb10⟩
      have hB10 : Below W.heap.size W w10 := Below.step' (alloc_below HB9.out (.cells #[.int .i64 v] 3)) hb10
      have HB10 := hid hB10
      clear hb10 hB10
      go_wp2
      go_meet
      case rel => exact ⟨rfl, HB10.out⟩
    · have hV : VX = [min v u, max v u] := FV.out.2 qv
      have hE2 : decide (VX = [min v u, max v u]) = true := by simp [hV]
      have hl400 : VX.length ≤ 400 := by rw [hV]; simp
      have HE2 := hid hE2
      have HL4 := hid hl400
      clear hV hE2 qv hl400
      go_wp2_with fail
      have hq := equalI_lit2 HL4.out (OA.out.alloc (.cells #[.int .i64 (min v u), .int .i64 (max v u)] 3)) (Blk.new W #[.int .i64 (min v u), .int .i64 (max v u)] 3)
      rw [HE2.out] at hq
      refine hq.mono ?_
      clear hq
      rintro e w9 ⟨rfl, hb9⟩
      have hB9 : Below W.heap.size W w9 := (by refine Below.step' ?_ hb9; (repeat' (first | (with_reducible exact Below.refl _ _) | (with_reducible assumption) | (with_reducible refine below_drewN ?_ _) | (with_reducible refine Below.drew ?_) | (with_reducible refine Below.alloc ?_ ?_ _) | (with_reducible refine Below.setCell ?_ ?_ _) | (refine Below.trans ?_ (Below.mono (by assumption) ?_)) | go_size)))
      have HB9 := hid hB9
      clear hb9 hB9
      go_wp2
      go_meet
      case rel => exact ⟨rfl, HB9.out⟩
  case rest =>
    obtain ⟨rfl, hb⟩ := hcut
    obtain ⟨w9, rfl⟩ : ∃ wx : World, wx = wc := ⟨_, rfl⟩
    replace HXa := hid (HXa.out.step hb)
    replace HXb := hid (HXb.out.step hb)
    replace HR5 := hid (HR5.out.step hb)
    replace HS5 := hid (HS5.out.step hb)
    replace HR6 := hid (HR6.out.step hb)
    replace HS6 := hid (HS6.out.step hb)
    replace HBW := hid (Below.step' HBW.out hb)
    clear hb OA FV
    -- STOP2
    obtain ⟨cHXb, fHXb, sHXb, nHXb⟩ := HXb.out.all
    try simp only [cbox] at cHXb
    go_wp2_with fail
    refine (JDE.out _ _ _ _ _ HR6.out HS6.out).mono ?_
    rintro e w10 ⟨A9, k9, B9, m9, rfl, hr9, hs9, hb9, -, -⟩
    simp only [tval] at hr9 hs9 ⊢
    clear cHXb fHXb sHXb nHXb
    replace HXa := hid (HXa.out.step hb9)
    replace HXb := hid (HXb.out.step hb9)
    replace HR5 := hid (HR5.out.step hb9)
    replace HS5 := hid (HS5.out.step hb9)
    replace HR6 := hid (HR6.out.step hb9)
    replace HS6 := hid (HS6.out.step hb9)
    replace HBW := hid (Below.step' HBW.out hb9)
    have HR9 := hid hr9
    have HS9 := hid hs9
    have z1 := Z1.out
    subst z1
    clear hr9 hs9 hb9 JDE Z1
    obtain ⟨cHXb, fHXb, sHXb, nHXb⟩ := HXb.out.all
    try simp only [cbox] at cHXb
    go_wp2_with fail
    refine (JMG.out _ _ _ _ _ _ _ _ _ (HR6.out.alloc _) (HS6.out.alloc _) (HR9.out.alloc _) (HS9.out.alloc _)).mono ?_
    rintro e w11 ⟨A10, k10, B10, m10, rfl, hr10, hs10, hb10, -, -⟩
    simp only [tval] at hr10 hs10 ⊢
    clear cHXb fHXb sHXb nHXb
    have hB10 : Below w10.heap.size w10 w11 := (by refine Below.step' ?_ hb10; (repeat' (first | (with_reducible exact Below.refl _ _) | (with_reducible assumption) | (with_reducible refine below_drewN ?_ _) | (with_reducible refine Below.drew ?_) | (with_reducible refine Below.alloc ?_ ?_ _) | (with_reducible refine Below.setCell ?_ ?_ _) | (refine Below.trans ?_ (Below.mono (by assumption) ?_)) | go_size)))
    replace HXa := hid (HXa.out.step hB10)
    replace HR5 := hid (HR5.out.step hB10)
    replace HS5 := hid (HS5.out.step hB10)
    replace HBW := hid (Below.step' HBW.out hB10)
    have HR10 := hid hr10
    have HS10 := hid hs10
    have z2 := Z2.out
    subst z2
    clear hr10 hs10 hb10 hB10 JMG Z2 HXb HR6 HS6 HR9 HS9
    obtain ⟨cHXa, fHXa, sHXa, nHXa⟩ := HXa.out.all
    try simp only [cbox] at cHXa
    go_wp2_with fail
    refine (JMY.out _ _ _ _ _ _ _ _ _ (HR10.out.alloc _) (HS10.out.alloc _) (HR5.out.alloc _) (HS5.out.alloc _)).mono ?_
    rintro e w12 ⟨A11, k11, B11, m11, rfl, hr11, hs11, hb11, -, -⟩
    simp only [tval] at hr11 hs11 ⊢
    clear cHXa fHXa sHXa nHXa
    have hB11 : Below w11.heap.size w11 w12 := (by refine Below.step' ?_ hb11; (repeat' (first | (with_reducible exact Below.refl _ _) | (with_reducible assumption) | (with_reducible refine below_drewN ?_ _) | (with_reducible refine Below.drew ?_) | (with_reducible refine Below.alloc ?_ ?_ _) | (with_reducible refine Below.setCell ?_ ?_ _) | (refine Below.trans ?_ (Below.mono (by assumption) ?_)) | go_size)))
    replace HBW := hid (Below.step' HBW.out hB11)
    have HS11 := hid hs11
    clear hr11 hs11 hb11 hB11 JMY HXa HR5 HS5 HR10 HS10
    by_cases qY : EY = 0
    rotate_left
    · have e2 := FY.out qY
      subst e2
      clear qY FY FW HYT HVY
      go_wp2
      go_ret
      exact ⟨rfl, HBW.out.alloc HBW.out.size _⟩
    subst qY
    have fw := FW.out (by first | rfl | trivial)
    have tY := HYT.out (by first | rfl | trivial)
    have JVY := hid (HVY.out tY)
    have HV := hid fw
    clear fw tY FY FW HYT HVY
    go_wp2_with fail
    refine (JVY.out _ _ _ _ _ (HS11.out.alloc _)).mono ?_
    rintro e w13 ⟨va, rfl, oa, hb13⟩
    obtain ⟨A13, c13, rfl⟩ := own_formS oa
    have hB13 : Below w12.heap.size w12 w13 := (by refine Below.step' ?_ hb13; (repeat' (first | (with_reducible exact Below.refl _ _) | (with_reducible assumption) | (with_reducible refine below_drewN ?_ _) | (with_reducible refine Below.drew ?_) | (with_reducible refine Below.alloc ?_ ?_ _) | (with_reducible refine Below.setCell ?_ ?_ _) | (refine Below.trans ?_ (Below.mono (by assumption) ?_)) | go_size)))
    replace HBW := hid (Below.step' HBW.out hB13)
    have OA := hid oa
    clear oa hb13 hB13 JVY HS11
    go_wp2_with fail
    refine (equalI_lit HV.out (OA.out.alloc (.cells #[.int .i64 v] 3)) (Blk.new w13 #[.int .i64 v] 3)).mono ?_
    rintro e w14 ⟨rfl, hb14⟩
    have hB14 : Below w13.heap.size w13 w14 := (by refine Below.step' ?_ hb14; (repeat' (first | (with_reducible exact Below.refl _ _) | (with_reducible assumption) | (with_reducible refine below_drewN ?_ _) | (with_reducible refine Below.drew ?_) | (with_reducible refine Below.alloc ?_ ?_ _) | (with_reducible refine Below.setCell ?_ ?_ _) | (refine Below.trans ?_ (Below.mono (by assumption) ?_)) | go_size)))
    replace HBW := hid (Below.step' HBW.out hB14)
    clear hb14 hB14
    go_wp2
    go_ret
    exact ⟨rfl, HBW.out⟩
end Go.Proofs.Ytogegnikpjcpdaa
