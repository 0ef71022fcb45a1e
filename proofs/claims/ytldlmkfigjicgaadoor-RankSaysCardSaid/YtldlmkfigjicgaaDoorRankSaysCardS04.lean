/- ZsH, RkE, ToO, RnA, RnB, RnC -/
import Derived.Test.YtldlmkfigjicgaaDoorRankSaysCardS03
import Derived.Lib.AppendZerosOnto
import Derived.Lib.Overlaps
import Derived.Laws.Externs
import Derived.Laws.CopyOwn
import Derived.Laws.NewBlocks
/- slices.Equal at int, EqualFunc at Item, viewref.SameSet. -/
namespace Go.Proofs.YtldlmkfigjicgaaDoor
set_option linter.unusedVariables false
set_option linter.unusedSimpArgs false
open Go.ChangeShapes Go.WideShapes Go.ChangeAt Go.RowKit

set_option maxHeartbeats 400000 in
set_option maxRecDepth 100000 in
theorem equalN_any (l m : List Int) (A B : Option Addr) (c e : Nat) (w : World) (hr : Row w w.heap.size A (icells' l)) (hs : Row w w.heap.size B (icells' m)) (hl : l.length ≤ 9223372036854775807) (hm : m.length ≤ 9223372036854775807) :
    Calls Tryd.prog 9 #[.slice A l.length c, .slice B m.length e] w fun e w' => e = .returned (.bool (decide (l = m))) ∧ Below w.heap.size w w' := by
  have HR := hid hr
  have HS := hid hs
  clear hr hs
  by_cases hlen : l.length = m.length
  · have hne : ((l.length : Int) != (m.length : Int)) = false := by simp [hlen]
    have HL := hid hlen
    clear hlen
    go_enter Tryd.func9, Tryd.ntmps9
    go_wp2
    go_loopw [13] (fun i wr => (∃ k : Nat, k ≤ l.length ∧ i = .int .i64 k ∧ ∀ j (h : j < l.length) (h' : j < m.length), j < k → l[j] = m[j]) ∧ Below w.heap.size w wr) (fun i _ => l.length - (intOf i).toNat)
    case atStart => exact ⟨⟨0, by omega, rfl, fun j _ _ h => absurd h (by omega)⟩, Below.refl _ _⟩
    case round =>
      obtain ⟨⟨k, hk, rfl, hno⟩, hbw⟩ := hrel
      by_cases hlt : k < l.length
      · have hlt' : k < m.length := by have := HL.out; omega
        obtain ⟨b, off, rfl, hb, h0⟩ := (HR.out.below hbw (Nat.le_refl _)).int' hlt
        obtain ⟨b', off', rfl, hb', h0'⟩ := (HS.out.below hbw (Nat.le_refl _)).int' hlt'
        have HN := hid hno
        have HB := hid hbw
        clear hno hbw
        generalize hd : l[k] = d at *
        generalize hd' : m[k] = d' at *
        have HD := hid hd
        have HD' := hid hd'
        clear hd hd'
        by_cases hq : d = d'
        · have q : (d != d') = false := by simp [hq]
          have HQ := hid hq
          clear hq
          go_wp2
          refine wp_region_quiet_lit (by kernel_rfl) (by kernel_rfl) ?_
          repeat (any_goals ((with_reducible refine wpQuiet_step (fun K hK => ?_)); go_simp; first | (with_reducible refine hK _ ?_; clear hK K) | ((with_reducible apply Exists.intro); (with_reducible refine ⟨fun _ => ?_, hK _ ?_⟩); (fail); clear hK K) | ((with_reducible refine (if_neg ?_).mpr (hK _ ?_)); (decide); clear hK K) | (split <;> (with_reducible refine hK _ ?_; clear hK K))))
          all_goals ((with_reducible refine wpQuiet_nil ?_); intro _ hw'; obtain ⟨nq, hw''⟩ := hw'; subst hw'')
          go_wp2
          go_roundw
          case rel =>
            refine ⟨⟨k + 1, by omega, by go_num, fun j h h' hj => ?_⟩, below_drewN HB.out _⟩
            by_cases e : j = k
            · subst e; rw [HD.out, HD'.out]; exact HQ.out
            · exact HN.out j h h' (by omega)
          case measure => simp [intOf]; omega
        · have q : (d != d') = true := by simp [hq]
          have HQ := hid hq
          clear hq
          go_wp2
          refine wp_region_quiet_lit (by kernel_rfl) (by kernel_rfl) ?_
          repeat (any_goals ((with_reducible refine wpQuiet_step (fun K hK => ?_)); go_simp; first | (with_reducible refine hK _ ?_; clear hK K) | ((with_reducible apply Exists.intro); (with_reducible refine ⟨fun _ => ?_, hK _ ?_⟩); (fail); clear hK K) | ((with_reducible refine (if_neg ?_).mpr (hK _ ?_)); (decide); clear hK K) | (split <;> (with_reducible refine hK _ ?_; clear hK K))))
          all_goals ((with_reducible refine wpQuiet_nil ?_); intro _ hw'; obtain ⟨nq, hw''⟩ := hw'; subst hw'')
          go_wp2
          go_ret
          refine ⟨ret_bool ?_, below_drewN HB.out _⟩
          symm
          rw [decide_eq_false_iff_not]
          rintro rfl
          exact HQ.out (HD.out.symm.trans HD'.out)
      · go_wp2
        go_ret
        refine ⟨ret_bool ?_, hbw⟩
        have : l = m := List.ext_getElem HL.out fun j h h' => hno j h h' (by omega)
        simp [this]
  · have hne : ((l.length : Int) != (m.length : Int)) = true := by simp; omega
    go_enter Tryd.func9, Tryd.ntmps9
    go_wp2
    go_ret
    exact ⟨ret_bool (by symm; simp; rintro rfl; exact hlen rfl), Below.refl _ _⟩


end Go.Proofs.YtldlmkfigjicgaaDoor
/- viewkeep.RankSorts: what it calls besides. -/
namespace Go.Proofs.YtldlmkfigjicgaaDoor
set_option linter.unusedVariables false
open Go.ChangeShapes Go.WideShapes Go.ChangeAt Go.RowKit

/-- Rows in memory. -/
def RowR (w : World) (B : Nat) (A : Option Addr) (M : List IR) : Prop := Row w B A (kcells M) ∧ RowsAt w B M
theorem RowR.step {w w' : World} {A : Option Addr} {M : List IR} (h : RowR w w.heap.size A M) (hb : Below w.heap.size w w') : RowR w' w'.heap.size A M := ⟨h.1.step hb, h.2.step hb⟩
theorem Row.nr {w : World} {B : Nat} {A : Option Addr} {M : List IR} (h : Row w B A (kcells M)) {k : Nat} (hk : k < M.length) :
    ∃ b off, A = some ⟨b, off, none⟩ ∧ b < B ∧ w.cell? ⟨b, off + k, none⟩ = some (.slice M[k].A M[k].row.length M[k].k) := by
  obtain ⟨b, off, h1, h2, h3⟩ := Row.flat (f := fun x : IR => [Value.slice x.A x.row.length x.k]) (n := 1) (fun x => rfl) h (by omega) hk
  have := h3 0 _ rfl
  rw [Nat.mul_one, Nat.add_zero] at this
  exact ⟨b, off, h1, h2, this⟩
theorem Row.take {w : World} {B : Nat} {A : Option Addr} {xs : List Value} (h : Row w B A xs) (n : Nat) : Row w B A (xs.take n) := by
  rcases h with h | ⟨b, off, h1, h2, h3⟩
  · subst h; exact .inl (by simp)
  · refine .inr ⟨b, off, h1, h2, fun j u hu => h3 j u ?_⟩
    rw [List.getElem?_take] at hu
    split at hu
    · exact hu
    · cases hu
theorem ncells_take (M : List IR) (n : Nat) : (kcells M).take n = kcells (M.take n) := by
  have := flat_take (f := fun x : IR => [Value.slice x.A x.row.length x.k]) (n := 1) (fun x => rfl) M n
  rwa [Nat.mul_one] at this
theorem RowR.take {w : World} {B : Nat} {A : Option Addr} {M : List IR} (h : RowR w B A M) (n : Nat) : RowR w B A (M.take n) := ⟨by rw [← ncells_take]; exact h.1.take n, h.2.sub fun x hx => List.mem_of_mem_take hx⟩
theorem own_capS {w : World} {B n c s : Nat} {T : TypeId} {A : Option Addr} {xs : List Value} (h : w.ownsRow B T s (.slice A n c) n xs) : n ≤ c ∧ c ≤ maxLen := by
  rcases h.2 with ⟨e, h0⟩ | ⟨b, cap, cur, e, hb, hg, hcap, hm, -, -⟩
  · injection e with e1 e2 e3
    subst e3; subst h0; exact ⟨Nat.le_refl _, by decide⟩
  · injection e with e1 e2 e3
    subst e3; exact ⟨hcap, hm⟩
theorem nrows_len (M : List IR) : (nrows M).length = M.length := List.length_map ..

end Go.Proofs.YtldlmkfigjicgaaDoor
/- viewref.Order. -/
namespace Go.Proofs.YtldlmkfigjicgaaDoor
set_option linter.unusedVariables false
set_option linter.unusedSimpArgs false
open Go.ChangeShapes Go.WideShapes Go.ChangeAt Go.RowKit

set_option maxHeartbeats 1000000 in
set_option maxRecDepth 100000 in
theorem Rorder_any (l m : List Int) (A B : Option Addr) (c e : Nat) (w : World) (hr : Row w w.heap.size A (icells' l)) (hs : Row w w.heap.size B (icells' m)) (hl : l.length ≤ 9223372036854775807) (hm : m.length ≤ 9223372036854775807) :
    Calls Tryd.prog 44 #[.slice A l.length c, .slice B m.length e] w fun e w' => e = .returned (.int .i64 (cmpL l m)) ∧ ∃ q, w' = w.drewN q := by
  have HR := hid hr
  have HS := hid hs
  obtain ⟨R, hR⟩ : ∃ R, R = cmpL l m := ⟨_, rfl⟩
  rw [← hR]
  have HR0 := hid hR
  clear hr hs hR
  go_enter Tryd.func44, Tryd.ntmps44
  go_wp2_with fail
  -- STOP-a
  go_loopw [5] (fun s5 wr => ∃ k : Nat, k ≤ l.length ∧ k ≤ m.length ∧ s5 = .int .i64 k ∧ Hid (R = cmpL (l.drop k) (m.drop k)) ∧ ∃ n, wr = w.drewN n) (fun s5 _ => l.length - (intOf s5).toNat)
  case atStart => exact ⟨0, by omega, by omega, rfl, HR0, 0, rfl⟩
  case round =>
    obtain ⟨k, hkl, hkm, rfl, HK, n, rfl⟩ := hrel
    by_cases h1 : k < l.length
    · have t1 : ((k : Int) < (l.length : Int)) = True := eq_true (by omega)
      by_cases h2 : k < m.length
      · have t2 : ((k : Int) < (m.length : Int)) = True := eq_true (by omega)
        obtain ⟨b, off, rfl, hb, c0⟩ := HR.out.int' h1
        obtain ⟨b', off', rfl, hb', c1⟩ := HS.out.int' h2
        have HC := hid (show R = if l[k] < m[k] then -1 else if m[k] < l[k] then 1 else cmpL (l.drop (k + 1)) (m.drop (k + 1)) by rw [HK.out, List.drop_eq_getElem_cons h1, List.drop_eq_getElem_cons h2, cmpL])
        generalize l[k] = x at *
        generalize m[k] = y at *
        clear HK HR0
        by_cases q1 : x < y
        · have t3 : (x < y) = True := eq_true q1
          have he : Hid (R = -1) := hid (by rw [HC.out, if_pos q1])
          clear HC q1
          go_wp2_with fail
          -- STOP-b
          refine wp_region_quiet_lit (by kernel_rfl) (by kernel_rfl) ?_
          repeat (any_goals ((with_reducible refine wpQuiet_step (fun K hK => ?_)); go_simp; first | (with_reducible refine hK _ ?_; clear hK K) | ((with_reducible apply Exists.intro); (with_reducible refine ⟨fun _ => ?_, hK _ ?_⟩); (fail); clear hK K) | ((with_reducible refine (if_neg ?_).mpr (hK _ ?_)); (decide); clear hK K) | (split <;> (with_reducible refine hK _ ?_; clear hK K))))
          all_goals ((with_reducible refine wpQuiet_nil ?_); intro _ hw'; obtain ⟨nq, hw''⟩ := hw'; subst hw'')
          all_goals
            go_wp2_with fail
            go_ret
            exact ⟨ret_int he.out.symm, _, by first | rfl | (simp only [World.drewN_drewN, World.drew_drewN, World.drewN_drew]; rfl)⟩
        · by_cases q2 : y < x
          · have t3 : (x < y) = False := eq_false q1
            have t4 : (y < x) = True := eq_true q2
            have he : Hid (R = 1) := hid (by rw [HC.out, if_neg q1, if_pos q2])
            clear HC q1 q2
            go_wp2_with fail
            refine wp_region_quiet_lit (by kernel_rfl) (by kernel_rfl) ?_
            repeat (any_goals ((with_reducible refine wpQuiet_step (fun K hK => ?_)); go_simp; first | (with_reducible refine hK _ ?_; clear hK K) | ((with_reducible apply Exists.intro); (with_reducible refine ⟨fun _ => ?_, hK _ ?_⟩); (fail); clear hK K) | ((with_reducible refine (if_neg ?_).mpr (hK _ ?_)); (decide); clear hK K) | (split <;> (with_reducible refine hK _ ?_; clear hK K))))
            all_goals ((with_reducible refine wpQuiet_nil ?_); intro _ hw'; obtain ⟨nq, hw''⟩ := hw'; subst hw'')
            all_goals
              go_wp2_with fail
              refine wp_region_quiet_lit (by kernel_rfl) (by kernel_rfl) ?_
              repeat (any_goals ((with_reducible refine wpQuiet_step (fun K hK => ?_)); go_simp; first | (with_reducible refine hK _ ?_; clear hK K) | ((with_reducible apply Exists.intro); (with_reducible refine ⟨fun _ => ?_, hK _ ?_⟩); (fail); clear hK K) | ((with_reducible refine (if_neg ?_).mpr (hK _ ?_)); (decide); clear hK K) | (split <;> (with_reducible refine hK _ ?_; clear hK K))))
              all_goals ((with_reducible refine wpQuiet_nil ?_); intro _ hw'; obtain ⟨nq, hw''⟩ := hw'; subst hw'')
              all_goals
                go_wp2_with fail
                go_ret
                exact ⟨ret_int he.out.symm, _, by first | rfl | (simp only [World.drewN_drewN, World.drew_drewN, World.drewN_drew]; rfl)⟩
          · have t3 : (x < y) = False := eq_false q1
            have t4 : (y < x) = False := eq_false q2
            have he : Hid (R = cmpL (l.drop (k + 1)) (m.drop (k + 1))) := hid (by rw [HC.out, if_neg q1, if_neg q2])
            clear HC q1 q2
            go_wp2_with fail
            refine wp_region_quiet_lit (by kernel_rfl) (by kernel_rfl) ?_
            repeat (any_goals ((with_reducible refine wpQuiet_step (fun K hK => ?_)); go_simp; first | (with_reducible refine hK _ ?_; clear hK K) | ((with_reducible apply Exists.intro); (with_reducible refine ⟨fun _ => ?_, hK _ ?_⟩); (fail); clear hK K) | ((with_reducible refine (if_neg ?_).mpr (hK _ ?_)); (decide); clear hK K) | (split <;> (with_reducible refine hK _ ?_; clear hK K))))
            all_goals ((with_reducible refine wpQuiet_nil ?_); intro _ hw'; obtain ⟨nq, hw''⟩ := hw'; subst hw'')
            all_goals
              go_wp2_with fail
              refine wp_region_quiet_lit (by kernel_rfl) (by kernel_rfl) ?_
              repeat (any_goals ((with_reducible refine wpQuiet_step (fun K hK => ?_)); go_simp; first | (with_reducible refine hK _ ?_; clear hK K) | ((with_reducible apply Exists.intro); (with_reducible refine ⟨fun _ => ?_, hK _ ?_⟩); (fail); clear hK K) | ((with_reducible refine (if_neg ?_).mpr (hK _ ?_)); (decide); clear hK K) | (split <;> (with_reducible refine hK _ ?_; clear hK K))))
              all_goals ((with_reducible refine wpQuiet_nil ?_); intro _ hw'; obtain ⟨nq, hw''⟩ := hw'; subst hw'')
              all_goals
                go_wp2_with fail
                -- STOP-c
                go_roundw
                case rel => exact ⟨k + 1, by omega, by omega, by go_num, he, _, by first | rfl | (simp only [World.drewN_drewN, World.drew_drewN, World.drewN_drew]; rfl)⟩
                case measure => simp [intOf]; omega
      · have t2 : ((k : Int) < (m.length : Int)) = False := eq_false (by omega)
        have he : Hid (R = 1) := hid (by rw [HK.out, List.drop_eq_getElem_cons h1, show m.drop k = [] from List.drop_eq_nil_of_le (by omega)]; rfl)
        have t3 : ((l.length : Int) < (m.length : Int)) = False := eq_false (by omega)
        have t4 : ((m.length : Int) < (l.length : Int)) = True := eq_true (by omega)
        clear HK HR0
        go_wp2_with fail
        -- STOP-d
        go_ret
        exact ⟨ret_int he.out.symm, _, rfl⟩
    · have t1 : ((k : Int) < (l.length : Int)) = False := eq_false (by omega)
      by_cases h2 : l.length < m.length
      · have he : Hid (R = -1) := hid (by rw [HK.out, show l.drop k = [] from List.drop_eq_nil_of_le (by omega), List.drop_eq_getElem_cons (show k < m.length by omega)]; rfl)
        have t3 : ((l.length : Int) < (m.length : Int)) = True := eq_true (by omega)
        clear HK HR0
        go_wp2_with fail
        go_ret
        exact ⟨ret_int he.out.symm, _, rfl⟩
      · have he : Hid (R = 0) := hid (by rw [HK.out, show l.drop k = [] from List.drop_eq_nil_of_le (by omega), show m.drop k = [] from List.drop_eq_nil_of_le (by omega)]; rfl)
        have t3 : ((l.length : Int) < (m.length : Int)) = False := eq_false (by omega)
        have t4 : ((m.length : Int) < (l.length : Int)) = False := eq_false (by omega)
        clear HK HR0
        go_wp2_with fail
        go_ret
        exact ⟨ret_int he.out.symm, _, rfl⟩
end Go.Proofs.YtldlmkfigjicgaaDoor
/- viewref.ahead. -/
namespace Go.Proofs.YtldlmkfigjicgaaDoor
set_option linter.unusedVariables false
set_option linter.unusedSimpArgs false
open Go.ChangeShapes Go.WideShapes Go.ChangeAt Go.RowKit

set_option maxHeartbeats 2000000 in
set_option maxRecDepth 100000 in
theorem ahead_any (bs xr yr : List Int) (bA xA yA : Option Addr) (bc xk yk : Nat) (w : World) (hb : Row w w.heap.size bA (icells' bs)) (hbl : bs.length ≤ 9223372036854775807)
    (hx : Row w w.heap.size xA (icells' xr)) (hxl : xr.length ≤ 1048576) (hy : Row w w.heap.size yA (icells' yr)) (hyx : yr.length = xr.length) (hok : ByOk xr.length bs) :
    Calls Tryd.prog 32 #[.slice xA xr.length xk, .slice yA yr.length yk, .slice bA bs.length bc] w fun e w' => e = .returned (.bool (decide (cmpBy bs xr yr < 0))) ∧ Below w.heap.size w w' := by
  have HRX := hid hx
  have HRY := hid hy
  have HRB := hid hb
  have HOK := hid hok
  have HCO := hid (fun w1 (hb : Below w.heap.size w w1) => Rorder_any xr yr xA yA xk yk w1 (hx.step hb) (hy.step hb) (by omega) (by omega))
  have hy1 : yr.length ≤ xr.length := Nat.le_of_eq hyx
  have hy2 : xr.length ≤ yr.length := Nat.le_of_eq hyx.symm
  obtain ⟨R, hR⟩ : ∃ R, R = decide (cmpBy bs xr yr < 0) := ⟨_, rfl⟩
  rw [← hR]
  have HR0 : Hid (R = decide (cmpBy (bs.drop 0) xr yr < 0)) := hid hR
  clear hx hy hb hok hR hyx
  go_enter Tryd.func32, Tryd.ntmps32
  go_wp2_with fail
  -- STOP-a
  go_loopw [7] (fun s7 wr => ∃ k : Nat, k ≤ bs.length ∧ s7 = .int .i64 k ∧ Hid (R = decide (cmpBy (bs.drop k) xr yr < 0)) ∧ Hid (Below w.heap.size w wr)) (fun s7 _ => bs.length - (intOf s7).toNat)
  case atStart => exact ⟨0, by omega, rfl, HR0, hid (Below.refl _ _)⟩
  case round =>
    clear HR0
    obtain ⟨k, hk, rfl, HK, HB⟩ := hrel
    by_cases hlt : k < bs.length
    · have t0 : ((k : Int) < (bs.length : Int)) = True := eq_true (by omega)
      obtain ⟨b, off, rfl, hb, h0⟩ := (HRB.out.step HB.out).int' hlt
      obtain ⟨n0, n1, n2⟩ := HOK.out bs[k] (List.getElem_mem hlt)
      have HD := hid (List.drop_eq_getElem_cons hlt)
      replace HK : Hid (R = decide ((if colv bs[k] xr < colv bs[k] yr then -1 else if colv bs[k] yr < colv bs[k] xr then 1 else cmpBy (bs.drop (k + 1)) xr yr) < 0)) := hid (by rw [HK.out, HD.out, cmpBy_cons])
      clear HD
      generalize bs[k] = n at *
      by_cases hn : n < 0
      · have tn : (n < 0) = True := eq_true hn
        obtain ⟨j, hj⟩ : ∃ j : Nat, (j : Int) = -n - 1 := ⟨(-n - 1).toNat, by omega⟩
        have hjn : (-n - 1).toNat = j := by omega
        have jx : j < xr.length := by omega
        have jy : j < yr.length := by omega
        obtain ⟨bx, ox, rfl, hbx, vx⟩ := (HRX.out.step HB.out).int' jx
        obtain ⟨by', oy, rfl, hby, vy⟩ := (HRY.out.step HB.out).int' jy
        have ex : colv n xr = -xr[j] := by rw [colv, if_pos hn, hjn, List.getD_eq_getElem?_getD, List.getElem?_eq_getElem jx]; rfl
        have ey : colv n yr = -yr[j] := by rw [colv, if_pos hn, hjn, List.getD_eq_getElem?_getD, List.getElem?_eq_getElem jy]; rfl
        rw [ex, ey] at HK
        clear ex ey
        generalize xr[j] = u at *
        generalize yr[j] = v at *
        have w1 : IntKind.i64.wrap (-n) = -n := IntWalk.i64_in _ (by omega)
        have w3 : IntKind.i64.wrap (-n - 1) = (j : Int) := by rw [hj]; exact IntWalk.i64_in _ (by omega)
        have p1 : (j : Int) < (xr.length : Int) := by omega
        have p2 : (j : Int) < (yr.length : Int) := by omega
        have p3 : (0 : Int) ≤ (j : Int) := by omega
        have w4 : decide (0 < n) = false := decide_eq_false (by omega)
        have w5 : (0 < n) = False := eq_false (by omega)
        clear hj hjn
        by_cases huv : u = v
        · have t1 : (u != v) = false := by simp [huv]
          have HUV := hid huv
          clear huv
          go_wp2_with fail
          -- STOP-b
          refine wp_region_quiet_lit (by kernel_rfl) (by kernel_rfl) ?_
          repeat (any_goals ((with_reducible refine wpQuiet_step (fun K hK => ?_)); go_simp; first | (with_reducible refine hK _ ?_; clear hK K) | ((with_reducible apply Exists.intro); (with_reducible refine ⟨fun _ => ?_, hK _ ?_⟩); (fail); clear hK K) | ((with_reducible refine (if_neg ?_).mpr (hK _ ?_)); (decide); clear hK K) | (split <;> (with_reducible refine hK _ ?_; clear hK K))))
          all_goals ((with_reducible refine wpQuiet_nil ?_); intro _ hw'; obtain ⟨nq, hw''⟩ := hw'; subst hw'')
          go_wp2_with fail
          go_roundw
          -- STOP-r
          case rel => exact ⟨k + 1, by omega, by go_num, hid (by rw [HK.out, HUV.out]; simp), hid (below_drewN HB.out _)⟩
          case measure => simp [intOf]; omega
        · have t1 : (u != v) = true := by simp [huv]
          have HUV := hid huv
          clear huv
          go_wp2_with fail
          refine wp_region_quiet_lit (by kernel_rfl) (by kernel_rfl) ?_
          repeat (any_goals ((with_reducible refine wpQuiet_step (fun K hK => ?_)); go_simp; first | (with_reducible refine hK _ ?_; clear hK K) | ((with_reducible apply Exists.intro); (with_reducible refine ⟨fun _ => ?_, hK _ ?_⟩); (fail); clear hK K) | ((with_reducible refine (if_neg ?_).mpr (hK _ ?_)); (decide); clear hK K) | (split <;> (with_reducible refine hK _ ?_; clear hK K))))
          all_goals ((with_reducible refine wpQuiet_nil ?_); intro _ hw'; obtain ⟨nq, hw''⟩ := hw'; subst hw'')
          go_wp2_with fail
          -- STOP-c
          go_ret
          refine ⟨ret_bool ?_, below_drewN HB.out _⟩
          rw [HK.out]
          have := HUV.out
          by_cases q : u < v <;> simp [q] <;> omega
      · have tn : (n < 0) = False := eq_false hn
        obtain ⟨j, hj⟩ : ∃ j : Nat, (j : Int) = n - 1 := ⟨(n - 1).toNat, by omega⟩
        have hjn : (n - 1).toNat = j := by omega
        have jx : j < xr.length := by omega
        have jy : j < yr.length := by omega
        obtain ⟨bx, ox, rfl, hbx, vx⟩ := (HRX.out.step HB.out).int' jx
        obtain ⟨by', oy, rfl, hby, vy⟩ := (HRY.out.step HB.out).int' jy
        have ex : colv n xr = xr[j] := by rw [colv, if_neg hn, hjn, List.getD_eq_getElem?_getD, List.getElem?_eq_getElem jx]; rfl
        have ey : colv n yr = yr[j] := by rw [colv, if_neg hn, hjn, List.getD_eq_getElem?_getD, List.getElem?_eq_getElem jy]; rfl
        rw [ex, ey] at HK
        clear ex ey
        generalize xr[j] = u at *
        generalize yr[j] = v at *
        have w3 : IntKind.i64.wrap (n - 1) = (j : Int) := by rw [hj]; exact IntWalk.i64_in _ (by omega)
        have p1 : (j : Int) < (xr.length : Int) := by omega
        have p2 : (j : Int) < (yr.length : Int) := by omega
        have p3 : (0 : Int) ≤ (j : Int) := by omega
        have w4 : decide (0 < n) = true := decide_eq_true (by omega)
        have w5 : (0 < n) = True := eq_true (by omega)
        clear hj hjn
        by_cases huv : u = v
        · have t1 : (u != v) = false := by simp [huv]
          have HUV := hid huv
          clear huv
          go_wp2_with fail
          -- STOP-d
          refine wp_region_quiet_lit (by kernel_rfl) (by kernel_rfl) ?_
          repeat (any_goals ((with_reducible refine wpQuiet_step (fun K hK => ?_)); go_simp; first | (with_reducible refine hK _ ?_; clear hK K) | ((with_reducible apply Exists.intro); (with_reducible refine ⟨fun _ => ?_, hK _ ?_⟩); (fail); clear hK K) | ((with_reducible refine (if_neg ?_).mpr (hK _ ?_)); (decide); clear hK K) | (split <;> (with_reducible refine hK _ ?_; clear hK K))))
          all_goals ((with_reducible refine wpQuiet_nil ?_); intro _ hw'; obtain ⟨nq, hw''⟩ := hw'; subst hw'')
          go_wp2_with fail
          go_roundw
          -- STOP-s
          case rel => exact ⟨k + 1, by omega, by go_num, hid (by rw [HK.out, HUV.out]; simp), hid (below_drewN HB.out _)⟩
          case measure => simp [intOf]; omega
        · have t1 : (u != v) = true := by simp [huv]
          have HUV := hid huv
          clear huv
          go_wp2_with fail
          refine wp_region_quiet_lit (by kernel_rfl) (by kernel_rfl) ?_
          repeat (any_goals ((with_reducible refine wpQuiet_step (fun K hK => ?_)); go_simp; first | (with_reducible refine hK _ ?_; clear hK K) | ((with_reducible apply Exists.intro); (with_reducible refine ⟨fun _ => ?_, hK _ ?_⟩); (fail); clear hK K) | ((with_reducible refine (if_neg ?_).mpr (hK _ ?_)); (decide); clear hK K) | (split <;> (with_reducible refine hK _ ?_; clear hK K))))
          all_goals ((with_reducible refine wpQuiet_nil ?_); intro _ hw'; obtain ⟨nq, hw''⟩ := hw'; subst hw'')
          go_wp2_with fail
          -- STOP-e
          go_ret
          refine ⟨ret_bool ?_, below_drewN HB.out _⟩
          rw [HK.out]
          have := HUV.out
          by_cases q : u < v <;> simp [q] <;> omega
    · have t0 : ((k : Int) < (bs.length : Int)) = False := eq_false (by omega)
      have hkb : k = bs.length := by omega
      have HR1 : Hid (R = decide (cmpL xr yr < 0)) := hid (by rw [HK.out, hkb, List.drop_length, cmpBy_nil])
      have HCW := hid (HCO.out wr HB.out)
      clear HK hkb hk hlt
      go_wp2_with fail
      -- STOP-f
      refine HCW.out.mono ?_
      rintro e w1 ⟨rfl, q, rfl⟩
      have HB1 := hid (below_drewN HB.out q)
      go_wp2_with fail
      go_ret
      exact ⟨ret_bool HR1.out.symm, HB1.out⟩
end Go.Proofs.YtldlmkfigjicgaaDoor
/- slices.Insert at [][]int, one row at a time. -/
namespace Go.Proofs.YtldlmkfigjicgaaDoor
set_option linter.unusedVariables false
set_option linter.unusedSimpArgs false
open Go.ChangeShapes Go.WideShapes Go.ChangeAt Go.RowKit

theorem grown_setRow (w : World) (g : Nat) (cs : Array Value) : w.grownBy (w.setRow g cs) (some g) :=
  ⟨rfl, rfl, rfl, by simp [World.setRow], fun k hk hne => setRow_other w g k cs (fun e => hne (by rw [e]))⟩
/-- A copy into a row that is known whole, as a step of a walk: the row's block alone turns. -/
theorem wp_copy_g {P : Program} {w : World} {o : Oper} {a : Act} {K : Act → World → Prop} {Q : Exit → Act → World → Prop} (d s : Operand) (dT sT : TypeId)
    (ho : o.op = .call { callee := .builtin .copy, args := #[d, s], argTypes := #[dT, sT] }) (elem : TypeId) (hu : P.underlying dT = some (.slice elem)) (hsz : (P.info? elem).map (·.size) = some 1)
    (g off dLen dCap : Nat) (ad : Addr) (sLen sCap : Nat) (hd : a.eval d = .slice (some ⟨g, off, none⟩) dLen dCap) (hs : a.eval s = .slice (some ad) sLen sCap)
    (cur : List Value) (t : TypeId) (hg : w.heap[g]? = some (.cells cur.toArray t (0, 0))) (cs : List Value) (hn : cs.length = Nat.min sLen dLen)
    (hsrc : ∀ j v, cs[j]? = some v → w.cell? (ad.add j) = some v) (hfit : off + cs.length ≤ cur.length) (h1 : ∀ v ∈ cs, v.oneCell' = true)
    (h : ∀ w', Hid (w'.heap[g]? = some (.cells (splice cur off cs).toArray t (0, 0))) → w.grownBy w' (some g) → K (a.put o.dst (goInt cs.length)) w') : o.wp P a w K Q := by
  have hrun := run_copy_row (P := P) w dT sT o.type elem g off dLen dCap ad sLen sCap cur.toArray t cs hu hsz hg hn hsrc (by simpa using hfit) h1
  unfold Oper.wp
  simp [execOp, ho, resolve, invoke, builtin, hd, hs, hrun, Result.andThen]
  exact h _ (hid (by simpa [splice] using setRow_heap w g _ _ t _ hg)) (grown_setRow _ _ _)
theorem wpList_copy_g {P : Program} {w : World} {ops : Array Oper} {rest : List Oper} {o : Oper} {a : Act} {Q : Exit → Act → World → Prop} (hgd : o.guard = none) (d s : Operand) (dT sT : TypeId)
    (ho : o.op = .call { callee := .builtin .copy, args := #[d, s], argTypes := #[dT, sT] }) (elem : TypeId) (hu : P.underlying dT = some (.slice elem)) (hsz : (P.info? elem).map (·.size) = some 1)
    (g off dLen dCap : Nat) (ad : Addr) (sLen sCap : Nat) (hd : a.eval d = .slice (some ⟨g, off, none⟩) dLen dCap) (hs : a.eval s = .slice (some ad) sLen sCap)
    (cur : List Value) (t : TypeId) (hg : w.heap[g]? = some (.cells cur.toArray t (0, 0))) (cs : List Value) (hn : cs.length = Nat.min sLen dLen)
    (hsrc : ∀ j v, cs[j]? = some v → w.cell? (ad.add j) = some v) (hfit : off + cs.length ≤ cur.length) (h1 : ∀ v ∈ cs, v.oneCell' = true)
    (h : ∀ w', Hid (w'.heap[g]? = some (.cells (splice cur off cs).toArray t (0, 0))) → w.grownBy w' (some g) → wpList P ops Q rest (a.put o.dst (goInt cs.length)) w') : wpList P ops Q (o :: rest) a w :=
  wpList_plain hgd fun K hK => wp_copy_g d s dT sT ho elem hu hsz g off dLen dCap ad sLen sCap hd hs cur t hg cs hn hsrc hfit h1 fun w' h1 h2 => hK _ _ (h w' h1 h2)
theorem step_copy_g {P : Program} {ops : Array Oper} {o : Oper} {a : Act} {w : World} {K : Act → World → Prop} {Q : Exit → Act → World → Prop} {E : Prop} (hgd : o.guard = none) (d s : Operand) (dT sT : TypeId)
    (ho : o.op = .call { callee := .builtin .copy, args := #[d, s], argTypes := #[dT, sT] }) (elem : TypeId) (hu : P.underlying dT = some (.slice elem)) (hsz : (P.info? elem).map (·.size) = some 1)
    (g off dLen dCap : Nat) (ad : Addr) (sLen sCap : Nat) (hd : a.eval d = .slice (some ⟨g, off, none⟩) dLen dCap) (hs : a.eval s = .slice (some ad) sLen sCap)
    (cur : List Value) (t : TypeId) (hg : w.heap[g]? = some (.cells cur.toArray t (0, 0))) (cs : List Value) (hn : cs.length = Nat.min sLen dLen)
    (hsrc : ∀ j v, cs[j]? = some v → w.cell? (ad.add j) = some v) (hfit : off + cs.length ≤ cur.length) (h1 : ∀ v ∈ cs, v.oneCell' = true)
    (h : ∀ w', Hid (w'.heap[g]? = some (.cells (splice cur off cs).toArray t (0, 0))) → w.grownBy w' (some g) → K (a.put o.dst (goInt cs.length)) w') :
    if Region.wanted o (yielded ops a.tmps) = true then Oper.wp P o a w K Q else E := by
  have hw : Region.wanted o (yielded ops a.tmps) = true := by simp [Region.wanted, hgd]
  rw [if_pos hw]
  exact wp_copy_g d s dT sT ho elem hu hsz g off dLen dCap ad sLen sCap hd hs cur t hg cs hn hsrc hfit h1 h

/-- A list with one put in at a place: what two splices leave. -/
theorem splice_ins (L xs : List Value) (x : Value) (n i : Nat) (hi : i ≤ n) (hL : n + 1 ≤ L.length) (hx : L.take n = xs) :
    (splice (splice L (i + 1) (xs.drop i)) i [x]).take (n + 1) = xs.take i ++ ([x] ++ xs.drop i) ∧ (splice (splice L (i + 1) (xs.drop i)) i [x]).length = L.length := by
  have hl : xs.length = n := by rw [← hx, List.length_take]; omega
  have hd : (xs.drop i).length = n - i := by rw [List.length_drop, hl]
  have l1 : (splice L (i + 1) (xs.drop i)).length = L.length := length_splice _ _ _ (by rw [hd]; omega)
  refine ⟨?_, by rw [length_splice _ _ _ (by rw [l1]; simp; omega), l1]⟩
  have e1 : (splice L (i + 1) (xs.drop i)).take i = xs.take i := by
    unfold splice
    rw [List.take_append_of_le_length (by rw [List.length_take]; omega), List.take_take, Nat.min_eq_left (by omega), ← hx, List.take_take, Nat.min_eq_left hi]
  have e2 : (splice L (i + 1) (xs.drop i)).drop (i + 1) = xs.drop i ++ L.drop (i + 1 + (n - i)) := by
    unfold splice
    rw [hd, List.drop_append_of_le_length (by rw [List.length_take]; omega), List.drop_of_length_le (by rw [List.length_take]; omega), List.nil_append]
  rw [show splice (splice L (i + 1) (xs.drop i)) i [x] = (splice L (i + 1) (xs.drop i)).take i ++ ([x] ++ (splice L (i + 1) (xs.drop i)).drop (i + 1)) from rfl, e1, e2]
  have hti : (xs.take i).length = i := by rw [List.length_take]; omega
  have hall : (xs.take i ++ ([x] ++ xs.drop i)).length = n + 1 := by rw [List.length_append, List.length_append, hti, hd, List.length_singleton]; omega
  rw [show xs.take i ++ ([x] ++ (xs.drop i ++ L.drop (i + 1 + (n - i)))) = (xs.take i ++ ([x] ++ xs.drop i)) ++ L.drop (i + 1 + (n - i)) by simp only [List.append_assoc], List.take_append_of_le_length (Nat.le_of_eq hall.symm), List.take_of_length_le (Nat.le_of_eq hall)]
/-- The same where the row is new: first the one, then what stood behind. -/
theorem splice_ins' (L xs : List Value) (x : Value) (n i : Nat) (hi : i ≤ n) (hL : n + 1 ≤ L.length) (hx : L.take i = xs.take i) (hl : xs.length = n) :
    (splice (splice L i [x]) (i + 1) (xs.drop i)).take (n + 1) = xs.take i ++ ([x] ++ xs.drop i) ∧ (splice (splice L i [x]) (i + 1) (xs.drop i)).length = L.length := by
  have hd : (xs.drop i).length = n - i := by rw [List.length_drop, hl]
  have l1 : (splice L i [x]).length = L.length := length_splice _ _ _ (by simp; omega)
  refine ⟨?_, by rw [length_splice _ _ _ (by rw [l1, hd]; omega), l1]⟩
  have hti : (xs.take i).length = i := by rw [List.length_take]; omega
  have e1 : (splice L i [x]).take (i + 1) = xs.take i ++ [x] := by
    unfold splice
    rw [hx, ← List.append_assoc, List.take_append_of_le_length (by rw [List.length_append, hti]; simp), List.take_of_length_le (by rw [List.length_append, hti]; simp)]
  rw [show splice (splice L i [x]) (i + 1) (xs.drop i) = (splice L i [x]).take (i + 1) ++ (xs.drop i ++ (splice L i [x]).drop (i + 1 + (xs.drop i).length)) from rfl, e1]
  have hall : (xs.take i ++ [x] ++ xs.drop i).length = n + 1 := by rw [List.length_append, List.length_append, hti, hd, List.length_singleton]; omega
  rw [show ∀ Z : List Value, xs.take i ++ [x] ++ (xs.drop i ++ Z) = (xs.take i ++ [x] ++ xs.drop i) ++ Z from fun Z => by simp only [List.append_assoc], List.take_append_of_le_length (Nat.le_of_eq hall.symm), List.take_of_length_le (Nat.le_of_eq hall), List.append_assoc]

theorem ints_u : Tryd.prog.underlying 24 = some (.slice 23) := elem_ints.ht
theorem ints_sz : (Tryd.prog.info? 23).map (·.size) = some 1 := by
  obtain ⟨i, z, h1, h2, h3, h4, h5⟩ := elem_ints.hi
  rw [h1]; simp [h3]
theorem ints_size : ∀ w, (Go.sizeOf 23).run Tryd.prog w = .ok 1 w := fun w => by
  obtain ⟨i, z, h1, h2, h3, h4, h5⟩ := elem_ints.hi
  simp [Go.sizeOf, typeInfo, h1, h3]
theorem shape_of {w : World} {b : Nat} {cs : Array Value} {T : TypeId} {d : Nat × Nat} (h : w.heap[b]? = some (.cells cs T d)) : w.shape? b = some (T, cs.size) := by
  unfold World.shape?; rw [h]
theorem cell_of {w : World} {b j : Nat} {cs : List Value} {T : TypeId} {v : Value} (h : w.heap[b]? = some (.cells cs.toArray T (0, 0))) (hv : cs[j]? = some v) : w.cell? ⟨b, j, none⟩ = some v := by
  have := (show Blk w b cs.toArray T from h).cells.1 j
  rw [this]; simpa using hv
theorem overlaps_apart (w : World) (vb g off lb cb : Nat) (x : Value) (cur : List Value) (hne : vb ≠ g) (hx : Blk w vb #[x] 23) (hg : w.heap[g]? = some (.cells cur.toArray 23 (0, 0))) (hl : cur.length ≠ 0) :
    (callFunc 59 #[.slice (some ⟨vb, 0, none⟩) 1 1, .slice (some ⟨g, off, none⟩) lb cb]).run Tryd.prog w = .ok (.value (.bool false)) w := by
  rw [run_callFunc_extern Tryd.func59 (by kernel_rfl) (by kernel_rfl) (by kernel_rfl) (e := Extern.SlicesOverlaps.overlaps #[24, 24] #[4]) (by kernel_rfl),
    Lib.run_overlaps_apart w 24 4 23 ints_u 1 ints_size ⟨vb, 0, none⟩ ⟨g, off, none⟩ 1 1 lb cb hne 23 23 1 cur.length (by rw [shape_of hx]; rfl) (by rw [shape_of hg]; simp) hl (hx.cells.2 0) (hx.cells.2 1)]
  rfl
set_option maxHeartbeats 4000000 in
set_option maxRecDepth 100000 in
/-- There is room behind the row: in place. -/
theorem insert_shift (g n c i vb : Nat) (cur : List Value) (x : Value) (w : World) (hi : i < n) (hroom : n + 1 ≤ c) (hc63 : c ≤ 9223372036854775807) (hvb : vb ≠ g) (hg : w.heap[g]? = some (.cells cur.toArray 23 (0, 0))) (hcs : cur.length = c)
    (hx : Blk w vb #[x] 23) (h1x : x.oneCell' = true) (xs : List Value) (hxs : cur.take n = xs) (h1c : ∀ v ∈ xs, v.oneCell' = true) :
    Calls Tryd.prog 33 #[.slice (some ⟨g, 0, none⟩) n c, .int .i64 i, .slice (some ⟨vb, 0, none⟩) 1 1] w fun e w' =>
      e = .returned (.slice (some ⟨g, 0, none⟩) (n + 1) c) ∧ w'.heap[g]? = some (.cells (splice (splice cur (i + 1) (xs.drop i)) i [x]).toArray 23 (0, 0)) ∧ w.grownBy w' (some g) := by
  have hxl : xs.length = n := by rw [← hxs, List.length_take]; omega
  have hov := fun lb cb => overlaps_apart w vb g (i + 1) lb cb x cur hvb hx hg (by omega)
  have hz2 : ¬ ((i : Int) = (n : Int)) := by omega
  have hw1 : IntKind.i64.wrap ((i : Int) + 1) = (i : Int) + 1 := by rw [IntKind.wrap_i64]; omega
  have hw2 : IntKind.i64.wrap ((n : Int) + 1) = (n : Int) + 1 := by rw [IntKind.wrap_i64]; omega
  have hb1 : (0 : Int) ≤ (i : Int) + 1 := by omega
  have hin : i ≤ n := by omega
  have htn : ((i : Int) + 1).toNat = i + 1 := by omega
  have htn2 : ((n : Int) + 1).toNat = n + 1 := by omega
  have hb2 : ¬ (c = i + 1) := by omega
  have hb3 : (i : Int) ≤ (n : Int) + 1 := by omega
  have hb4 : ¬ (c = i) := by omega
  have hb5 : ¬ ((c : Int) < (n : Int) + 1) := by omega
  have hb6 : (n : Int) + 1 ≤ (c : Int) := by omega
  have HG := hid hg
  have HXB := hid hx
  have hdl : (xs.drop i).length = n - i := by rw [List.length_drop, hxl]
  have hl1 : (splice cur (i + 1) (xs.drop i)).length = c := by rw [length_splice _ _ _ (by rw [hdl]; omega), hcs]
  obtain ⟨Y, hY⟩ : ∃ Y, Y = xs.drop i := ⟨_, rfl⟩
  have hYs : ∀ j v, Y[j]? = some v → w.cell? ⟨g, i + j, none⟩ = some v := fun j v h => cell_of hg (by
    rw [hY, List.getElem?_drop, ← hxs, List.getElem?_take] at h
    split at h
    · exact h
    · cases h)
  have hY1 : ∀ v ∈ Y, v.oneCell' = true := fun v hv => h1c v (List.mem_of_mem_drop (by rw [← hY]; exact hv))
  rw [← hY] at hdl hl1 ⊢
  clear hY hg hx
  go_enter Tryd.func33, Tryd.ntmps33
  go_wp2_with (simp only [hov])
  -- STOP-a
  go_region_law (refine step_copy_g rfl _ _ 24 24 rfl 23 ints_u ints_sz g (i + 1) (n + 1 - (i + 1)) (c - (i + 1)) ⟨g, i, none⟩ (n + 1 - i) (c - i) (by simp [Act.eval, Act.put]) (by simp [Act.eval, Act.put]) cur 23 HG.out Y (by rw [hdl]; simp only [Nat.min_def]; split <;> omega) (fun j v h => by rw [addr_add]; exact hYs j v h) (by rw [hdl]; omega) hY1 ?_; intro w4 hg4 hb4)
  -- STOP-b
  have HX4 := hid ((show Blk w.drew vb #[x] 23 from HXB.out).grown hb4 (fun e => by injection e with e; exact hvb e))
  go_wp2_with ((with_reducible show wpList _ _ _ _ _ _); refine wpList_copy_g rfl _ _ 24 24 rfl 23 ints_u ints_sz g i (n + 1 - i) (c - i) ⟨vb, 0, none⟩ 1 1 rfl rfl (splice cur (i + 1) Y) 23 hg4.out [x] (by simp only [List.length_singleton, Nat.min_def]; split <;> omega) (fun j v h => by
      rw [addr_add]
      have hx4 := HX4.out.cells.1 j
      rw [Nat.zero_add, hx4]; simpa using h) (by rw [hl1]; simp; omega) (fun v hv => by rw [List.mem_singleton.1 hv]; exact h1x) ?_; intro w5 hg5 hb5)
  -- STOP-c
  go_ret
  exact ⟨rfl, hg5.out, World.grownBy.trans (World.grownBy.trans (show w.grownBy w.drew (some g) from ⟨rfl, rfl, rfl, Nat.le_refl _, fun _ _ _ => rfl⟩) hb4) hb5⟩
set_option maxHeartbeats 4000000 in
set_option maxRecDepth 100000 in
/-- There is no room: a new row. -/
theorem insert_grow (g n i vb : Nat) (cur : List Value) (x : Value) (w : World) (hi : i < n) (hbig : (n + 1) * 24 ≤ 140737488355328) (hvl : vb < w.heap.size) (hg : w.heap[g]? = some (.cells cur.toArray 23 (0, 0))) (hcs : cur.length = n)
    (hx : Blk w vb #[x] 23) (h1x : x.oneCell' = true) (h1c : ∀ v ∈ cur, v.oneCell' = true) :
    Calls Tryd.prog 33 #[.slice (some ⟨g, 0, none⟩) n n, .int .i64 i, .slice (some ⟨vb, 0, none⟩) 1 1] w fun e w' =>
      ∃ (G : Nat) (ROW : List Value), e = .returned (.slice (some ⟨w.heap.size, 0, none⟩) (n + 1) G) ∧ n + 1 ≤ G ∧ G ≤ maxLen ∧ ROW.length = G ∧ ROW.take i = cur.take i ∧ w'.heap[w.heap.size]? = some (.cells (splice (splice ROW i [x]) (i + 1) (cur.drop i)).toArray 23 (0, 0)) ∧ Below w.heap.size w w' := by
  obtain ⟨i0, z, hi0, hz0, hzs, hzb, hzc⟩ := elem_ints.hi
  have hz2 : ¬ ((i : Int) = (n : Int)) := by omega
  have hw1 : IntKind.i64.wrap ((i : Int) + 1) = (i : Int) + 1 := by rw [IntKind.wrap_i64]; omega
  have hw2 : IntKind.i64.wrap ((n : Int) + 1) = (n : Int) + 1 := by rw [IntKind.wrap_i64]; omega
  have hw3 : IntKind.i64.wrap ((n : Int) + 1 - (i : Int)) = (n : Int) + 1 - (i : Int) := by rw [IntKind.wrap_i64]; omega
  have hgl : g < w.heap.size := (show Blk w g cur.toArray 23 from hg).lt
  have hkk : (n : Int) + 1 - (i : Int) = ((n + 1 - i : Nat) : Int) := by omega
  have hik : i + (n + 1 - i) = n + 1 := by omega
  have hold : (Builtin.firstCells i0.size i (.slice (some ⟨g, 0, none⟩) i n)).run Tryd.prog w.drew = .ok (cur.take i).toArray w.drew := by
    rw [hzs]
    exact run_firstCells_some w.drew 1 i ⟨g, 0, none⟩ i n (cur.take i) (by rw [List.length_take]; omega) (fun j v hj => by
      rw [addr_add, Nat.zero_add]
      rw [List.getElem?_take] at hj
      split at hj
      · exact cell_of (w := w) hg hj
      · cases hj)
  have hrz : ∀ ty, (Builtin.append_ #[24, 3] ty #[.slice (some ⟨g, 0, none⟩) i n, .int .i64 ((n : Int) + 1 - (i : Int))]).run Tryd.prog w =
      .ok (.slice (some ⟨w.heap.size, 0, none⟩) (n + 1) (grownCap w (n + 1) n 23)) (w.drew.alloc (.cells ((cur.take i).toArray ++ Builtin.zeroCells z.cells (n + 1 - i) ++ Builtin.zeroCells z.cells (grownCap w (n + 1) n 23 - (n + 1))) 23)) := fun ty => by
    have h := Lib.run_append_grow_zeros w 24 3 ty 23 i0 z .i64 .i64 ints_u (Tryd.underlying3) hi0 hz0 (some ⟨g, 0, none⟩) i n (cur.take i) hold (n + 1 - i) (by omega) (by omega) (by omega) (by omega) (by rw [hzb]; omega) (by rw [hzb, hik]; exact growslice_fits (by omega) hbig)
    rw [hik] at h
    rw [hkk]
    exact h
  have hGn : n + 1 ≤ grownCap w (n + 1) n 23 := grownCap_ge w _ _ _
  have hG63 : grownCap w (n + 1) n 23 ≤ maxLen := grownCap_le_maxLen w (n + 1) n 23 (by unfold maxLen; omega)
  obtain ⟨G, hG⟩ : ∃ G, G = grownCap w (n + 1) n 23 := ⟨_, rfl⟩
  rw [← hG] at hrz hGn hG63
  obtain ⟨ROW, hROW⟩ : ∃ ROW : List Value, ROW = cur.take i ++ (Builtin.zeroCells z.cells (n + 1 - i)).toList ++ (Builtin.zeroCells z.cells (G - (n + 1))).toList := ⟨_, rfl⟩
  have hRa : (cur.take i).toArray ++ Builtin.zeroCells z.cells (n + 1 - i) ++ Builtin.zeroCells z.cells (G - (n + 1)) = ROW.toArray := by
    rw [hROW]
    apply Array.ext'
    simp
  rw [hRa] at hrz
  have hRt : ROW.take i = cur.take i := by
    have e : (cur.take i).length = i := by rw [List.length_take]; omega
    rw [hROW, List.append_assoc, List.take_append_of_le_length (by omega), List.take_of_length_le (by omega)]
  have hRl : ROW.length = G := by
    have e : (cur.take i).length = i := by rw [List.length_take]; omega
    have ez : ∀ k, (Builtin.zeroCells z.cells k).size = k := fun k => by
      simp [Builtin.zeroCells, hzc]
    rw [hROW, List.length_append, List.length_append, e, Array.length_toList, Array.length_toList, ez, ez]
    omega
  clear hRa hROW hold hG hkk hik
  obtain ⟨W1, hW1⟩ : ∃ W1, W1 = w.drew.alloc (.cells ROW.toArray 23) := ⟨_, rfl⟩
  rw [← hW1] at hrz
  have HB1 := hid (show Below w.heap.size w W1 by rw [hW1]; exact alloc_below (Below.drew (Below.refl _ _)) _)
  have HG1 := hid (show W1.heap[w.heap.size]? = some (.cells ROW.toArray 23 (0, 0)) by rw [hW1]; exact Blk.new w.drew _ _)
  have HO0 := hid hg
  have HX1 := hid (show Blk W1 vb #[x] 23 from hx.step HB1.out)
  have HO1 := hid (show W1.heap[g]? = some (.cells cur.toArray 23 (0, 0)) from (show Blk w g cur.toArray 23 from hg).step HB1.out)
  clear hW1
  obtain ⟨h, hh⟩ : ∃ h, h = w.heap.size := ⟨_, rfl⟩
  rw [← hh] at hrz HB1 HG1 hgl ⊢
  have HH := hid hh
  clear hh
  have hm63 : G ≤ 9223372036854775807 := hG63
  have hGi : ¬ (G = i) := by omega
  have hGim : ¬ (G = i + 1) := by omega
  have hci : ¬ (n = i) := by omega
  have hbN : g ≠ h := by omega
  have hb1 : (0 : Int) ≤ (i : Int) + 1 := by omega
  have hin : i ≤ n := by omega
  have htn : ((i : Int) + 1).toNat = i + 1 := by omega
  have hb3 : (i : Int) ≤ (n : Int) + 1 := by omega
  have hb5 : (n : Int) < (n : Int) + 1 := by omega
  obtain ⟨Y, hY⟩ : ∃ Y, Y = cur.drop i := ⟨_, rfl⟩
  have hdl : Y.length = n - i := by rw [hY, List.length_drop, hcs]
  have hYs : ∀ j v, Y[j]? = some v → cur[i + j]? = some v := fun j v q => by rwa [hY, List.getElem?_drop] at q
  have hY1 : ∀ v ∈ Y, v.oneCell' = true := fun v hv => h1c v (List.mem_of_mem_drop (by rw [← hY]; exact hv))
  have hl1 : (splice ROW i [x]).length = G := by rw [length_splice _ _ _ (by simp; omega), hRl]
  rw [← hY]
  clear hY hg hx
  go_enter Tryd.func33, Tryd.ntmps33
  go_wp2_with (first
    | (at_builtin; refine Lib.wpList_append_run _ rfl _ _ _ _ rfl _ _ rfl rfl _ _ (hrz _) ?_)
    | ((with_reducible show wpList _ _ _ _ _ _); refine wpList_copy_splice (by rfl) (.tmp 43) (.tmp 44) 24 24 (by rfl) 23 ints_u ints_sz (some ⟨h, i, none⟩) (some ⟨vb, 0, none⟩) (n + 1 - i) (G - i) 1 1 (by rfl) (by rfl) h i ROW 23 HG1.out [x] (by simp only [List.length_singleton, Nat.min_def]; split <;> omega) (fun _ => ⟨rfl, _, rfl, fun j v q => by
      rw [addr_add]
      have hx4 := HX1.out.cells.1 j
      rw [Nat.zero_add, hx4]; simpa using q⟩) (by simp; omega) (fun v hv => by rw [List.mem_singleton.1 hv]; exact h1x) h w HB1.out (Nat.le_refl _) ?_; intro w2 HG2 hB2))
  -- STOP-d
  have HO2 := hid ((show Blk w g cur.toArray 23 from HO0.out).thru hB2 hgl)
  go_region_law (refine step_copy_splice rfl (.tmp 50) (.tmp 53) 24 24 rfl 23 ints_u ints_sz (some ⟨h, i + 1, none⟩) (some ⟨g, i, none⟩) (n + 1 - (i + 1)) (G - (i + 1)) (n - i) (n - i) (by simp [Act.eval, Act.put]) (by simp [Act.eval, Act.put]) h (i + 1) (splice ROW i [x]) 23 HG2.out Y (by rw [hdl]; simp only [Nat.min_def]; split <;> omega) (fun _ => ⟨rfl, _, rfl, fun j v q => by rw [addr_add]; exact cell_of (w := w2) HO2.out (hYs j v q)⟩) (by rw [hl1, hdl]; omega) hY1 h w (Below.drew hB2) (Nat.le_refl _) ?_; intro w4 HG4 hB4)
  -- STOP-e
  go_wp2_with fail
  go_ret
  exact ⟨G, ROW, rfl, hGn, hG63, hRl, hRt, HG4.out, hB4⟩
end Go.Proofs.YtldlmkfigjicgaaDoor
/- slices.Insert at [][]int: into an owned row, at whatever place. -/
namespace Go.Proofs.YtldlmkfigjicgaaDoor
set_option linter.unusedVariables false
set_option linter.unusedSimpArgs false
open Go.ChangeShapes Go.WideShapes Go.ChangeAt Go.RowKit

theorem own_capS' {w : World} {B n c s : Nat} {T : TypeId} {A : Option Addr} {xs : List Value} (h : w.ownsRow B T s (.slice A n c) n xs) : n ≤ c ∧ c ≤ maxLen := by
  rcases h.2 with ⟨e, h0⟩ | ⟨b, cap, cur, e, hb, hg, hcap, hm, -, -⟩
  · injection e with e1 e2 e3
    subst e3; subst h0; exact ⟨Nat.le_refl _, by decide⟩
  · injection e with e1 e2 e3
    subst e3; exact ⟨hcap, hm⟩
set_option maxHeartbeats 2000000 in
set_option maxRecDepth 100000 in
theorem insert_end (lo n c vb : Nat) (A : Option Addr) (xs : List Value) (x : Value) (w : World) (hown : w.ownsRow lo 23 1 (.slice A n c) n xs) (hlo : lo ≤ w.heap.size) (hn : n ≤ 1048576) (hx : Blk w vb #[x] 23) (h1x : x.oneCell' = true) :
    Calls Tryd.prog 33 #[.slice A n c, .int .i64 n, .slice (some ⟨vb, 0, none⟩) 1 1] w fun e w' =>
      ∃ (A' : Option Addr) (c' : Nat), e = .returned (.slice A' (n + 1) c') ∧ w'.ownsRow lo 23 1 (.slice A' (n + 1) c') (n + 1) (xs ++ [x]) ∧ w.grownBy w' (Value.slice A n c).ownBlock ∧ ((Value.slice A' (n + 1) c').ownBlock = (Value.slice A n c).ownBlock ∨ (Value.slice A' (n + 1) c').ownBlock = some w.heap.size) := by
  have HO := hid hown
  have HXR := hid (show Row w w.heap.size (some ⟨vb, 0, none⟩) [x] from .inr ⟨vb, 0, rfl, hx.lt, fun j u hu => by
    have := hx.cells.1 j
    rw [Nat.zero_add, this]; simpa using hu⟩)
  have hnn : n ≤ c := (own_capS' hown).1
  have hcc : c ≤ 9223372036854775807 := (own_capS' hown).2
  have hz : ∀ k : Nat, A = none → n = 0 ∧ c = 0 := fun _ e => by
    rcases hown.2 with ⟨e1, h0⟩ | ⟨g, cap, cur, e1, -⟩
    · injection e1 with _ e2 e3; exact ⟨h0, e3⟩
    · injection e1 with e1; rw [e] at e1; cases e1
  have h1 : ∀ u ∈ [x], u.oneCell' = true := fun u hu => by rw [List.mem_singleton.1 hu]; exact h1x
  clear hown hx
  cases A with
  | none =>
    obtain ⟨rfl, rfl⟩ := hz 0 rfl
    clear hz
    go_enter Tryd.func33, Tryd.ntmps33
    go_wp2_with (at_builtin; refine wpList_append_row elem_ints rfl _ _ rfl lo (.slice none 0 0) 0 xs rfl HO.out (some ⟨vb, 0, none⟩) 1 1 w.heap.size [x] rfl rfl HXR.out h1 ?_ ?_ ?_ ?_; rotate_right; intro v7 w7 hown7 hg7 hif7; obtain ⟨A7, c7, rfl⟩ := own_formS hown7; rotate_left; (simp only [maxLen]; omega); (omega); (exact hlo))
    -- STOP-a
    go_ret
    exact ⟨A7, c7, rfl, hown7, hg7, hif7⟩
  | some a =>
    obtain ⟨ab, ao, asp⟩ := a
    clear hz
    go_enter Tryd.func33, Tryd.ntmps33
    go_wp2_with (at_builtin; refine wpList_append_row elem_ints rfl _ _ rfl lo (.slice (some ⟨ab, ao, asp⟩) n c) n xs rfl HO.out (some ⟨vb, 0, none⟩) 1 1 w.heap.size [x] rfl rfl HXR.out h1 ?_ ?_ ?_ ?_; rotate_right; intro v7 w7 hown7 hg7 hif7; obtain ⟨A7, c7, rfl⟩ := own_formS hown7; rotate_left; (simp only [maxLen]; omega); (omega); (exact hlo))
    -- STOP-b
    all_goals
      go_ret
      exact ⟨A7, c7, rfl, hown7, hg7, hif7⟩
theorem insert_any (lo n c i vb : Nat) (A : Option Addr) (xs : List Value) (x : Value) (w : World) (hown : w.ownsRow lo 23 1 (.slice A n c) n xs) (hlo : lo ≤ w.heap.size) (hn : n ≤ 1048576) (hi : i ≤ n) (hx : Blk w vb #[x] 23) (h1x : x.oneCell' = true)
    (hne : ∀ g, (Value.slice A n c).ownBlock = some g → vb ≠ g) (h1c : ∀ v ∈ xs, v.oneCell' = true) :
    Calls Tryd.prog 33 #[.slice A n c, .int .i64 i, .slice (some ⟨vb, 0, none⟩) 1 1] w fun e w' =>
      ∃ (A' : Option Addr) (c' : Nat), e = .returned (.slice A' (n + 1) c') ∧ w'.ownsRow lo 23 1 (.slice A' (n + 1) c') (n + 1) (xs.take i ++ ([x] ++ xs.drop i)) ∧ w.grownBy w' (Value.slice A n c).ownBlock ∧ ((Value.slice A' (n + 1) c').ownBlock = (Value.slice A n c).ownBlock ∨ (Value.slice A' (n + 1) c').ownBlock = some w.heap.size) := by
  have hxl : xs.length = n := by have := hown.1; omega
  by_cases hin : i = n
  · subst hin
    refine (insert_end lo i c vb A xs x w hown hlo hn hx h1x).mono ?_
    rintro e w' ⟨A', c', h1, h2, h3, h4⟩
    refine ⟨A', c', h1, ?_, h3, h4⟩
    rw [List.take_of_length_le (by omega), List.drop_of_length_le (by omega), List.append_nil]
    exact h2
  · have hlt : i < n := by omega
    have hil : (xs.take i ++ ([x] ++ xs.drop i)).length = n + 1 := by rw [List.length_append, List.length_append, List.length_take, List.length_drop, List.length_singleton]; omega
    rcases hown.2 with ⟨e1, h0⟩ | ⟨g, cap, cur, e1, hb, hg, hcap, hmx, hsz, htk⟩
    · omega
    · injection e1 with e1 e2 e3
      subst e1 e3
      rw [Nat.mul_one] at hsz htk
      have hgl : w.heap[g]? = some (.cells cur.toList.toArray 23 (0, 0)) := by rw [Array.toArray_toList]; exact hg
      have hcl : cur.toList.length = c := by rw [Array.length_toList]; exact hsz
      have hvg : vb ≠ g := hne g rfl
      by_cases hroom : n + 1 ≤ c
      · refine (insert_shift g n c i vb cur.toList x w hlt hroom hmx hvg hgl hcl hx h1x xs htk h1c).mono ?_
        rintro e w' ⟨rfl, h2, h3⟩
        obtain ⟨s1, s2⟩ := splice_ins cur.toList xs x n i hi (by omega) htk
        refine ⟨_, _, rfl, ⟨by rw [hil]; omega, .inr ⟨g, c, _, rfl, hb, h2, hroom, hmx, ?_, ?_⟩⟩, h3, .inl rfl⟩
        · rw [Nat.mul_one]
          have : (splice (splice cur.toList (i + 1) (xs.drop i)) i [x]).toArray.size = (splice (splice cur.toList (i + 1) (xs.drop i)) i [x]).length := List.size_toArray ..
          rw [this, s2, hcl]
        · rw [Nat.mul_one]
          show List.take (n + 1) (splice (splice cur.toList (i + 1) (xs.drop i)) i [x]).toArray.toList = _
          rw [List.toList_toArray]
          exact s1
      · have hcn : c = n := by omega
        subst hcn
        have hcx : cur.toList = xs := by rw [← htk, List.take_of_length_le (by omega)]
        refine (insert_grow g c i vb cur.toList x w hlt (by omega) hx.lt hgl hcl hx h1x (by rw [hcx]; exact h1c)).mono ?_
        rintro e w' ⟨G, ROW, rfl, hG, hG2, hRl, hRt, h2, h3⟩
        rw [hcx] at hRt h2
        obtain ⟨s1, s2⟩ := splice_ins' ROW xs x c i hi (by omega) hRt hxl
        refine ⟨_, _, rfl, ⟨by rw [hil]; omega, .inr ⟨w.heap.size, G, _, rfl, hlo, h2, hG, hG2, ?_, ?_⟩⟩, ?_, .inr rfl⟩
        · rw [Nat.mul_one]
          have : (splice (splice ROW i [x]) (i + 1) (xs.drop i)).toArray.size = (splice (splice ROW i [x]) (i + 1) (xs.drop i)).length := List.size_toArray ..
          rw [this, s2, hRl]
        · rw [Nat.mul_one]
          show List.take (c + 1) (splice (splice ROW i [x]) (i + 1) (xs.drop i)).toArray.toList = _
          rw [List.toList_toArray]
          exact s1
        · exact ⟨h3.os, h3.tape, h3.output, h3.size, fun k hk _ => h3.block k hk⟩
end Go.Proofs.YtldlmkfigjicgaaDoor
