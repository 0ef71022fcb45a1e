/- Wrd -/
import Derived.Test.YtnnabfjlmenmgaaCk15
import Derived.Test.YtnnabfjlmenmgaaCk11
import Derived.Test.YtnnabfjlmenmgaaCk06
import Derived.Laws.EntriesVeiled
/- viewref.Decoded. -/
namespace Go.Proofs.Ytnnabfjlmenmgaa
set_option linter.unusedVariables false
set_option linter.unusedSimpArgs false
open Go.ChangeShapes Go.WideShapes Go.ChangeAt Go.RowKit

/-- Are the first j bytes of the sum just these? -/
def okB (L : List UInt8) (a M j : Nat) : Bool := decide ((L.drop a).take j = (sum4 M).take j)
theorem okB_zero (L : List UInt8) (a M : Nat) : okB L a M 0 = true := by simp [okB]
theorem okB_four (L : List UInt8) (a M : Nat) : okB L a M 4 = decide ((L.drop a).take 4 = sum4 M) := rfl
theorem okB_step (L : List UInt8) (a M j : Nat) (hj : j < 4) (h : a + 4 ≤ L.length) : okB L a M (j + 1) = (okB L a M j && decide ((L[a + j]'(by omega)).toNat = M / 256 ^ j % 256)) := by
  have e1 : (L.drop a).take (j + 1) = (L.drop a).take j ++ [L[a + j]'(by omega)] := by
    rw [List.take_add_one, List.getElem?_drop, List.getElem?_eq_getElem (by omega)]; rfl
  have e2 : (sum4 M).take (j + 1) = (sum4 M).take j ++ [UInt8.ofNat (M / 256 ^ j % 256)] := by
    match j, hj with
    | 0, _ => simp [sum4]
    | 1, _ => simp [sum4]
    | 2, _ => simp [sum4]
    | 3, _ => simp [sum4]
  have e3 : ∀ b : UInt8, (b = UInt8.ofNat (M / 256 ^ j % 256)) ↔ b.toNat = M / 256 ^ j % 256 := fun b => by
    constructor
    · intro e; rw [e, b8_of _ (Nat.mod_lt _ (by omega))]
    · intro e; rw [← e, b8_to]
  have hl : ((L.drop a).take j).length = ((sum4 M).take j).length := by simp [sum4]; omega
  unfold okB
  rw [e1, e2, ← Bool.decide_and]
  congr 1
  apply propext
  constructor
  · intro e
    obtain ⟨h1, h2⟩ := List.append_inj e hl
    exact ⟨h1, (e3 _).1 (by injection h2)⟩
  · rintro ⟨h1, h2⟩
    rw [h1, (e3 _).2 h2]
abbrev z6 : Array Value := #[.int .i64 0, .int .i64 0, .int .i64 0, .int .i64 0, .slice none 0 0, .slice none 0 0]
/-- A table in blocks of its own. -/
def TOwn (w : World) (lo : Nat) (z : TR) : Prop := w.ownsRow lo 51 2 (.slice z.A z.t.c.cloud.length z.k) z.t.c.cloud.length (dcells z.t.c.cloud) ∧ w.ownsRow lo 53 5 (.slice z.B z.t.cells.length z.m) z.t.cells.length (tcells z.t.cells)
theorem TOwn.none (w : World) (lo : Nat) : TOwn w lo nTR := ⟨World.ownsRow_nil _ _ _ _, World.ownsRow_nil _ _ _ _⟩
def tst (L : List UInt8) (i : Nat) : Option Nat := if i = 0 then some 0 else if i = 1 then (rdTab L (some 0)).2 else (rdPac L).2
/-- The packet when i tables have been read. -/
def PT (L : List UInt8) (i lo : Nat) (wr : World) (PC : Array Value) : Prop := (i = 0 ∧ PC = pboxT nTR nTR) ∨ (i = 1 ∧ ∃ z : TR, PC = pboxT z nTR ∧ TOwn wr lo z ∧ z.t = (rdTab L (some 0)).1) ∨ (i = 2 ∧ ∃ z y : TR, PC = pboxT z y ∧ TOwn wr lo z ∧ TOwn wr lo y ∧ (z.t, y.t) = (rdPac L).1)
theorem tst_next (L : List UInt8) {i : Nat} (h : i < 2) : tst L (i + 1) = (rdTab L (tst L i)).2 := by
  match i, h with
  | 0, _ => rfl
  | 1, _ => rfl
theorem PT.next {L : List UInt8} {i pb : Nat} {wo : World} {PC : Array Value} (h : PT L i (pb + 1) wo PC) (hi : i < 2) (hp : pb < wo.heap.size) :
    ∃ pre post : Array Value, i * 6 = pre.size ∧ PC = pre ++ z6 ++ post ∧ ∀ (wr : World) (t : TR), Keep (pb + 1) wo wr → TOwn wr wo.heap.size t → t.t = (rdTab L (tst L i)).1 → PT L (i + 1) (pb + 1) wr (pre ++ tbox t.t t.A t.k t.B t.m ++ post) := by
  rcases h with ⟨rfl, rfl⟩ | ⟨rfl, z, rfl, hz, hzt⟩ | ⟨rfl, -⟩
  · exact ⟨#[], z6, rfl, rfl, fun wr t hk ht e => .inr (.inl ⟨rfl, t, rfl, ⟨own_baseS ht.1 hp, own_baseS ht.2 hp⟩, e⟩)⟩
  · refine ⟨tbox z.t z.A z.k z.B z.m, #[], rfl, rfl, fun wr t hk ht e => .inr (.inr ⟨rfl, z, t, rfl, ⟨own_keep hz.1 hk (Nat.le_refl _), own_keep hz.2 hk (Nat.le_refl _)⟩, ⟨own_baseS ht.1 hp, own_baseS ht.2 hp⟩, ?_⟩)⟩
    rw [hzt, e]; rfl
  · omega
theorem rdTab_atD {L : List UInt8} {st : Option Nat} {m n : Nat} {s4 s5 : Option Nat} (h1 : (m, s4) = mn L (ns L st 4)) (h2 : (n, s5) = mn L (rdDots L s4 m).2) :
    rdTab L st = (⟨⟨nv L st 0, nv L st 1, nv L st 2, nv L st 3, (rdDots L s4 m).1⟩, (rdCels L s5 n).1⟩, (rdCels L s5 n).2) := by
  unfold rdTab
  simp only [rdClk_ns]
  rw [← h1]
  simp only
  rw [← h2]
theorem rdDots_l (L : List UInt8) (s : Option Nat) : ∀ k, (rdDots L s k).1.length = k
  | 0 => rfl
  | k + 1 => by rw [rdDots, List.length_append, rdDots_l L s k]; rfl
theorem rdCels_l (L : List UInt8) (s : Option Nat) : ∀ k, (rdCels L s k).1.length = k
  | 0 => rfl
  | k + 1 => by rw [rdCels, List.length_append, rdCels_l L s k]; rfl
set_option maxHeartbeats 16000000 in
set_option maxRecDepth 100000 in
theorem decoded_any (L : List UInt8) (hL : L.length ≤ 9223372036854775807) (w : World) : Calls Try.prog 14 #[.string (bstr L)] w (DPost L w) := by
  have hsz := bstr_size L
  go_enter Try.func14, Try.ntmps14
  go_wp2_with fail
  -- STOP-a
  obtain ⟨W, hW⟩ : ∃ W : World, W = (((((w.alloc (.cells #[.string (bstr L)] 9)).alloc (.cells z12 31)).alloc (.cells #[.int .i64 0] 3)).alloc (.cells #[.bool true] 4)).alloc
    (.cells #[.func (.func 26) #[] #[.pointer (some ⟨w.heap.size + 1 + 1 + 1, 0, none⟩), .pointer (some ⟨w.heap.size, 0, none⟩), .pointer (some ⟨w.heap.size + 1 + 1, 0, none⟩)]] 68)).alloc (.cells z12 31) := ⟨_, rfl⟩
  have HDB := hid (show DB L w W w.heap.size (w.heap.size + 1) (w.heap.size + 1 + 1) (w.heap.size + 1 + 1 + 1) (w.heap.size + 1 + 1 + 1 + 1) (w.heap.size + 1 + 1 + 1 + 1 + 1) (some 0) z12 by
    rw [hW]
    refine ⟨⟨0, true, ?_, ?_, by omega, .inl ⟨rfl, rfl⟩⟩, ?_, ?_, ?_, ?_, ?_, by omega⟩
    · exact (((Blk.new' _ _ _ (by simp)).alloc _).alloc _).alloc _
    · exact ((Blk.new' _ _ _ (by simp)).alloc _).alloc _
    · exact (((((Blk.new _ _ _).alloc _).alloc _).alloc _).alloc _).alloc _
    · exact ((((Blk.new' _ _ _ (by simp)).alloc _).alloc _).alloc _).alloc _
    · exact (Blk.new' _ _ _ (by simp)).alloc _
    · exact Blk.new' _ _ _ (by simp)
    · exact alloc_below (alloc_below (alloc_below (alloc_below (alloc_below (alloc_below (Below.refl _ _) _) _) _) _) _) _)
  rw [← hW]
  clear hW
  generalize w.heap.size + 1 + 1 + 1 + 1 + 1 = pb at HDB ⊢
  generalize w.heap.size + 1 + 1 + 1 + 1 = nb at HDB ⊢
  generalize w.heap.size + 1 + 1 + 1 = ob at HDB ⊢
  generalize w.heap.size + 1 + 1 = ab at HDB ⊢
  generalize w.heap.size + 1 = rb at HDB ⊢
  -- STOP-b
  go_loopw [10] (fun s10 wr => ∃ (i : Nat) (PC : Array Value), i ≤ 2 ∧ s10 = .int .i64 i ∧ Hid (DB L w wr w.heap.size rb ab ob nb pb (tst L i) PC) ∧ Hid (PT L i (pb + 1) wr PC)) (fun s10 _ => 2 - (intOf s10).toNat)
  case atStart => exact ⟨0, z12, by omega, rfl, HDB, hid (.inl ⟨rfl, rfl⟩)⟩
  case round =>
    clear HDB
    obtain ⟨i, PC, hi, rfl, HDB, HPT⟩ := hrel
    obtain ⟨wo, rfl⟩ : ∃ wx : World, wx = wr := ⟨_, rfl⟩
    by_cases hlt : i < 2
    · have t2 : ((i : Int) < 2) = True := eq_true (by omega)
      obtain ⟨pre, post, hpre, hPC, hnxt⟩ := HPT.out.next hlt HDB.out.p.lt
      have HNXT := hid hnxt
      subst hPC
      clear hnxt HPT
      have hc := HDB.out.cells
      have hpb : pb < wo.heap.size := HDB.out.p.lt
      have hix : (0 : Int) ≤ (i : Int) := by omega
      go_wp2_with fail
      -- STOP-c
      clear hc
      have HO := hid hpre
      clear hpre
      obtain ⟨st, hst⟩ : ∃ st, st = tst L i := ⟨_, rfl⟩
      rw [← hst] at HDB
      have HST := hid hst
      clear hst
      go_loopw [12] (fun s12 wr => ∃ k : Nat, k ≤ 4 ∧ s12 = .int .i64 k ∧ Hid (DB L w wr w.heap.size rb ab ob nb pb (ns L st k) (pre ++ ck6 L st k ++ post)) ∧ Hid (Keep (pb + 1) wo wr)) (fun s12 _ => 4 - (intOf s12).toNat)
      case atStart =>
        refine ⟨0, by omega, rfl, hid ?_, hid (Keep.refl _ _)⟩
        have e : ck6 L st 0 = z6 := by simp [ck6, ckc]
        rw [e]
        exact HDB.out
      case round =>
        clear HDB
        obtain ⟨k, hk, rfl, HDB, HKP⟩ := hrel
        obtain ⟨w1, rfl⟩ : ∃ wx : World, wx = wr := ⟨_, rfl⟩
        by_cases hk4 : k < 4
        · have t4 : ((k : Int) < 4) = True := eq_true (by omega)
          have hk0 : (0 : Int) ≤ (k : Int) := by omega
          have hk4' : (k : Int) < 4 := by omega
          have HN := hid (fun w2 (hb : Below w1.heap.size w1 w2) => (HDB.out.step hb).next hL)
          have HNB := hid (show Blk w1 nb #[.func (.func 26) #[] #[.pointer (some ⟨ob, 0, none⟩), .pointer (some ⟨w.heap.size, 0, none⟩), .pointer (some ⟨ab, 0, none⟩)]] 68 from HDB.out.n)
          obtain ⟨cHNB, fHNB, sHNB, nHNB⟩ := HNB.out.all
          try simp only [cbox] at cHNB
          go_wp2_with fail
          -- STOP-d
          have hbd : Below w1.heap.size w1 w1.drew := (Below.refl _ _).drew
          obtain ⟨v0, hv0⟩ : ∃ v0, (ck6 L st k)[k]? = some v0 := ⟨_, Array.getElem?_eq_getElem (by show k < 6; omega)⟩
          have hwk : ∀ w2, DB L w w2 w.heap.size rb ab ob nb pb (nx L (ns L st k)).2 (pre ++ ck6 L st k ++ post) → w2.cell? ⟨pb, pre.size + k, none⟩ = some v0 ∧ w2.frozen? ⟨pb, pre.size + k, none⟩ = false := fun w2 h => ⟨(h.cells.1 k (by show k < 6; omega)).trans hv0, h.cells.2 _⟩
          go_region_law
            (first
              | (go_simp; go_at_call 26; (with_reducible refine (HN.out _ hbd).mono ?_); rintro e w5 ⟨rfl, hdb, hbu⟩; obtain ⟨hcw, hfw⟩ := hwk w5 hdb))
          -- STOP-e
          all_goals
            go_wp2_with fail
            go_roundw
            case rel =>
              have ho := HDB.out.ord
              refine ⟨k + 1, by omega, by go_num, hid ?_, hid ?_⟩
              · have h1 := hdb.putw k (by show k < 6; omega) (.int .i64 (nx L (ns L st k)).1)
                rw [show (Value.int .i64 (nx L (ns L st k)).1) = .int .i64 (nv L st k) from rfl, ck6_set L st k hk4] at h1
                exact h1
              · exact ((HKP.out.below hbd).but hbu (by omega) (by omega)).set ⟨pb, pre.size + k, none⟩ _ (.inl (by simp))
            case measure => simp [intOf]; omega
        · have hk5 : k = 4 := by omega
          have t4 : ((k : Int) < 4) = False := eq_false (by omega)
          have hdbk := HDB.out
          rw [hk5] at hdbk
          replace HDB := hid hdbk
          clear hdbk hk5
          have hMN := HDB.out.many hL
          go_wp2_with fail
          -- STOP-f
          refine hMN.mono ?_
          rintro e w2 ⟨rfl, hdb2, hbu2⟩
          have HK2 := hid (HKP.out.but hbu2 (by have := HDB.out.ord; omega) (by have := HDB.out.ord; omega))
          have hm4 := mn_le L (ns L st 4)
          have HMN := hid (show ∃ q, q = mn L (ns L st 4) from ⟨_, rfl⟩)
          obtain ⟨M, hM⟩ := HMN.out
          rw [← hM] at hdb2 hm4 ⊢
          have HMQ := hid hM
          obtain ⟨m, s4⟩ := M
          simp only at hdb2 hm4 ⊢
          have HD2 := hid hdb2
          have hz2 : wo.heap.size ≤ w2.heap.size := HK2.out.size
          clear hdb2 hbu2 hMN HMN hM HDB HKP
          go_wp2_with fail
          -- STOP-g
          go_loopw [14] (fun s14 wr => ∃ (j : Nat) (A : Option Addr) (ak : Nat), j ≤ m ∧ s14 = .int .i64 j ∧ Hid (wr.ownsRow wo.heap.size 51 2 (.slice A j ak) j (dcells (rdDots L s4 j).1)) ∧
            Hid (DB L w wr w.heap.size rb ab ob nb pb (rdDots L s4 j).2 (pre ++ #[.int .i64 (nv L st 0), .int .i64 (nv L st 1), .int .i64 (nv L st 2), .int .i64 (nv L st 3), .slice A j ak, .slice none 0 0] ++ post)) ∧ Hid (Keep (pb + 1) wo wr)) (fun s14 _ => m - (intOf s14).toNat)
          case atStart => exact ⟨0, none, 0, by omega, rfl, hid (World.ownsRow_nil _ _ _ _), HD2, HK2⟩
          case round =>
            clear HD2 HK2
            obtain ⟨j, A, ak, hj, rfl, HOW, HDB, HKP⟩ := hrel
            obtain ⟨w3, rfl⟩ : ∃ wx : World, wx = wr := ⟨_, rfl⟩
            by_cases hjm : j < m
            · have tj : ((j : Int) < (m : Int)) = True := eq_true (by omega)
              have HN1 := hid (HDB.out.next hL)
              have HNB := hid (show Blk w3 nb #[.func (.func 26) #[] #[.pointer (some ⟨ob, 0, none⟩), .pointer (some ⟨w.heap.size, 0, none⟩), .pointer (some ⟨ab, 0, none⟩)]] 68 from HDB.out.n)
              obtain ⟨cHNB, fHNB, sHNB, nHNB⟩ := HNB.out.all
              try simp only [cbox] at cHNB
              go_wp2_with fail
              -- STOP-h
              refine HN1.out.mono ?_
              rintro e w4 ⟨rfl, hdb4, hbu4⟩
              clear cHNB fHNB sHNB nHNB
              have hord := HDB.out.ord
              have HB4 := hid (HKP.out.but hbu4 (by omega) (by omega))
              have HD4 := hid hdb4
              have HO4 := hid (own_but HOW.out hbu4 (by omega) (by omega))
              have hz4 : wo.heap.size ≤ w4.heap.size := HB4.out.size
              have HR1 := hid (show rdDots L s4 (j + 1) = ((rdDots L s4 j).1 ++ [((nx L (rdDots L s4 j).2).1, (nx L (nx L (rdDots L s4 j).2).2).1)], (nx L (nx L (rdDots L s4 j).2).2).2) from rfl)
              generalize (nx L (rdDots L s4 j).2).1 = n1 at HR1 ⊢
              generalize (nx L (rdDots L s4 j).2).2 = q1 at HR1 HD4 hdb4
              have hlob : ob < wo.heap.size := by omega
              have hloa : ab < wo.heap.size := by omega
              clear hdb4 hbu4 HN1 HOW HDB HKP
              go_upto_region 19 with fail
              -- STOP-i
              have hbd : Below w4.heap.size w4 w4.drew := (Below.refl _ _).drew
              have HN2 := hid (fun w5 (hb : Below w4.heap.size w4 w5) => (HD4.out.step hb).next hL)
              have HNB := hid (show Blk w4 nb #[.func (.func 26) #[] #[.pointer (some ⟨ob, 0, none⟩), .pointer (some ⟨w.heap.size, 0, none⟩), .pointer (some ⟨ab, 0, none⟩)]] 68 from HD4.out.n)
              have hcf : ∀ w2 st', DB L w w2 w.heap.size rb ab ob nb pb st' (pre ++ #[.int .i64 (nv L st 0), .int .i64 (nv L st 1), .int .i64 (nv L st 2), .int .i64 (nv L st 3), .slice A j ak, .slice none 0 0] ++ post) → w2.cell? ⟨pb, pre.size + 4, none⟩ = some (.slice A j ak) ∧ w2.frozen? ⟨pb, pre.size + 4, none⟩ = false := fun w2 st' h => ⟨h.cells.1 4 (by show 4 < 6; omega), h.cells.2 _⟩
              have hpg : ∀ g, (Value.slice A j ak).ownBlock = some g → pb < g := fun g e => by have := (HO4.out.lt g e).1; omega
              obtain ⟨hc4, hf4⟩ := hcf w4 _ HD4.out
              generalize hn2 : (nx L q1).1 = n2 at HN2 HR1
              generalize hq2 : (nx L q1).2 = q2 at HN2 HR1
              clear hn2 hq2
              have hmx : j + 1 ≤ maxLen := by simp only [maxLen]; omega
              have hby : (j + 1) * 16 ≤ 140737488355328 := by omega
              obtain ⟨cHNB, fHNB, sHNB, nHNB⟩ := HNB.out.all
              try simp only [cbox] at cHNB
              -- STOP-j
              obtain ⟨DL, hDL⟩ : ∃ q, q = (rdDots L s4 j).1 := ⟨_, rfl⟩
              rw [← hDL] at HO4 HR1
              clear hDL
              go_region_law
                (first
                  | (refine step_append_row elem_dotW (by rfl) _ _ (by rfl) wo.heap.size (.slice A j ak) j (dcells DL) (by rfl) (World.ownsRow.alloc how5 _) (some ⟨w5.heap.size, 0, none⟩) 1 1 (w5.heap.size + 1) [.int .i64 n1, .int .i64 n2] (by rfl) (by rfl) (Row.new' w5 _ _ rfl rfl (Nat.lt_succ_self _)) (two_oneW n1 n2) hmx hby hs5 ?_; intro v7 w7 hown7 hg7 hif7; obtain ⟨A7, k7, rfl⟩ := own_formS hown7; have hdb7 := DB.grown (DB.step hdb5 (alloc_below (Below.refl _ _) (.cells #[.int .i64 n1, .int .i64 n2] 51))) hg7 hpg; obtain ⟨x7, x7'⟩ := hcf w7 _ hdb7)
                  | (go_simp; go_at_call 26; (with_reducible refine (HN2.out _ hbd).mono ?_); rintro e w5 ⟨rfl, hdb5, hbu5⟩; have how5 := own_but (own_drew HO4.out) hbu5 hlob hloa; obtain ⟨x5, x5'⟩ := hcf w5 _ hdb5; obtain ⟨x6, x6'⟩ := hcf _ _ (DB.step hdb5 (alloc_below (Below.refl _ _) (.cells #[.int .i64 n1, .int .i64 n2] 51))); have hs5 : wo.heap.size ≤ (w5.alloc (.cells #[.int .i64 n1, .int .i64 n2] 51)).heap.size := Nat.le_trans hz4 (Nat.le_trans hbu5.size (le_alloc _ _))))
              -- STOP-k
              all_goals
                go_wp2_with fail
                -- STOP-m
                go_roundw
                -- STOP-n
                case rel =>
                  refine ⟨j + 1, A7, k7, by omega, by go_num, hid ?_, hid ?_, hid ?_⟩
                  · rw [HR1.out]
                    have hE3 : dcells (DL ++ [(n1, n2)]) = dcells DL ++ [.int .i64 n1, .int .i64 n2] := by rw [dcells, List.flatMap_append]; rfl
                    show World.ownsRow _ _ _ _ _ _ (dcells (DL ++ [(n1, n2)]))
                    rw [hE3]
                    exact own_setlo hown7 ⟨pb, pre.size + 4, none⟩ _ hpb
                  · rw [HR1.out]
                    exact hdb7.putw 4 (by show 4 < 6; omega) (.slice A7 (j + 1) k7)
                  · exact ((((HB4.out.below hbd).but hbu5 (by omega) (by omega)).below (alloc_below (Below.refl _ _) _)).grown hg7 (fun g e => (HO4.out.lt g e).1)).set ⟨pb, pre.size + 4, none⟩ _ (.inl (by simp))
                case measure => simp [intOf]; omega
            · have hjm2 : j = m := by omega
              have tj : ((j : Int) < (m : Int)) = False := eq_false (by omega)
              have hdbk := HDB.out
              have hown := HOW.out
              rw [hjm2] at hdbk hown
              have HJM := hid hjm2
              replace HDB := hid hdbk
              replace HOW := hid hown
              clear hdbk hown hjm2
              have hord := HDB.out.ord
              have hMN := HDB.out.many hL
              go_wp2_with fail
              -- STOP-l
              refine hMN.mono ?_
              rintro e w4 ⟨rfl, hdb4, hbu4⟩
              have HK4 := hid (HKP.out.but hbu4 (by omega) (by omega))
              have HO4 := hid (own_but HOW.out hbu4 (by omega) (by omega))
              have hn4 := mn_le L (rdDots L s4 m).2
              obtain ⟨N, hN⟩ : ∃ q, q = mn L (rdDots L s4 m).2 := ⟨_, rfl⟩
              rw [← hN] at hdb4 hn4 ⊢
              have HNQ := hid hN
              obtain ⟨n, s5⟩ := N
              simp only at hdb4 hn4 ⊢
              have HD4 := hid hdb4
              clear hdb4 hbu4 hMN hN HDB HKP HOW
              go_wp2_with fail
              -- STOP-o
              go_loopw [16] (fun s16 wr => ∃ (i2 : Nat) (B : Option Addr) (bk : Nat), i2 ≤ n ∧ s16 = .int .i64 i2 ∧ Hid (wr.ownsRow wo.heap.size 51 2 (.slice A m ak) m (dcells (rdDots L s4 m).1)) ∧ Hid (wr.ownsRow wo.heap.size 53 5 (.slice B i2 bk) i2 (tcells (rdCels L s5 i2).1)) ∧
                Hid (DB L w wr w.heap.size rb ab ob nb pb (rdCels L s5 i2).2 (pre ++ #[.int .i64 (nv L st 0), .int .i64 (nv L st 1), .int .i64 (nv L st 2), .int .i64 (nv L st 3), .slice A m ak, .slice B i2 bk] ++ post)) ∧ Hid (Keep (pb + 1) wo wr)) (fun s16 _ => n - (intOf s16).toNat)
              case atStart => exact ⟨0, none, 0, by omega, rfl, HO4, hid (World.ownsRow_nil _ _ _ _), HD4, HK4⟩
              case round =>
                clear HD4 HK4 HO4
                obtain ⟨i2, B, bk, hi2, rfl, HOD, HOC, HDB, HKP⟩ := hrel
                obtain ⟨w5, rfl⟩ : ∃ wx : World, wx = wr := ⟨_, rfl⟩
                by_cases hin : i2 < n
                · have ti : ((i2 : Int) < (n : Int)) = True := eq_true (by omega)
                  have hz5 : wo.heap.size ≤ w5.heap.size := HKP.out.size
                  obtain ⟨W5, hW5⟩ : ∃ q : World, q = w5.alloc (.cells #[.int .i64 0, .int .i64 0, .int .i64 0, .int .i64 0, .int .i64 0] 53) := ⟨_, rfl⟩
                  have hbW : Below w5.heap.size w5 W5 := by rw [hW5]; exact alloc_below (Below.refl _ _) _
                  have HRC := hid (show RC L w wo W5 w.heap.size rb ab ob nb pb (rdCels L s5 i2).2 (pre ++ #[.int .i64 (nv L st 0), .int .i64 (nv L st 1), .int .i64 (nv L st 2), .int .i64 (nv L st 3), .slice A m ak, .slice B i2 bk] ++ post) (.slice A m ak) m (dcells (rdDots L s4 m).1) (.slice B i2 bk) i2 (tcells (rdCels L s5 i2).1) w5.heap.size #[.int .i64 0, .int .i64 0, .int .i64 0, .int .i64 0, .int .i64 0] from
                    ⟨HDB.out.step hbW, own_laterS HOD.out hbW, own_laterS HOC.out hbW, HKP.out.below hbW, by rw [hW5]; exact Blk.new _ _ _, ⟨hpb, hz5⟩, fun g e e2 => by injection e2 with e2; have := (HOD.out.lt g e).2; omega, fun g e e2 => by injection e2 with e2; have := (HOC.out.lt g e).2; omega⟩)
                  go_upto_region 25 with fail
                  rw [← hW5]
                  clear hW5 hbW HDB HKP HOD HOC
                  -- STOP-p
                  have HE := hid (show rdCels L s5 (i2 + 1) = ((rdCels L s5 i2).1 ++ [⟨(nv L (rdCels L s5 i2).2 0, nv L (rdCels L s5 i2).2 1), nv L (rdCels L s5 i2).2 2, nv L (rdCels L s5 i2).2 3, nv L (rdCels L s5 i2).2 4⟩], ns L (rdCels L s5 i2).2 5) from rfl)
                  obtain ⟨sc, hsc⟩ : ∃ q, q = (rdCels L s5 i2).2 := ⟨_, rfl⟩
                  obtain ⟨XL, hXL⟩ : ∃ q, q = (rdCels L s5 i2).1 := ⟨_, rfl⟩
                  rw [← hsc] at HRC HE
                  rw [← hXL] at HRC HE
                  clear hsc hXL
                  obtain ⟨PC, hPC⟩ : ∃ PC, PC = pre ++ #[.int .i64 (nv L st 0), .int .i64 (nv L st 1), .int .i64 (nv L st 2), .int .i64 (nv L st 3), .slice A m ak, .slice B i2 bk] ++ post := ⟨_, rfl⟩
                  rw [← hPC] at HRC
                  have HPC := hid hPC
                  clear hPC
                  obtain ⟨cb, hcb⟩ : ∃ q, q = w5.heap.size := ⟨_, rfl⟩
                  rw [← hcb] at HRC ⊢
                  clear hcb
                  replace HRC := hid (show RC L w wo W5 w.heap.size rb ab ob nb pb (ns L sc 0) PC _ _ _ _ _ _ cb #[.int .i64 0, .int .i64 0, .int .i64 0, .int .i64 0, .int .i64 0] from HRC.out)
                  have HNB := hid (show Blk W5 nb #[.func (.func 26) #[] #[.pointer (some ⟨ob, 0, none⟩), .pointer (some ⟨w.heap.size, 0, none⟩), .pointer (some ⟨ab, 0, none⟩)]] 68 from HRC.out.db.n)
                  have HC0 := HRC.out.next hL
                  obtain ⟨cHNB, fHNB, sHNB, nHNB⟩ := HNB.out.all
                  try simp only [cbox] at cHNB
                  go_wp2_with fail
                  refine HC0.mono ?_
                  rintro e w106 ⟨rfl, hrc⟩
                  clear cHNB fHNB sHNB nHNB
                  clear HNB HC0 HRC
                  rw [show (nx L (ns L sc 0)).1 = nv L sc 0 from rfl]
                  generalize nv L sc 0 = n0 at HE ⊢
                  have HCB := hid hrc.c
                  obtain ⟨cHCB, fHCB, sHCB, nHCB⟩ := HCB.out.all
                  try simp only [cbox] at cHCB
                  go_upto_region 26 with fail
                  clear cHCB fHCB sHCB nHCB
                  obtain ⟨W6, hW6⟩ : ∃ q : World, q = w106.setCell ⟨cb, 0, none⟩ (.int .i64 n0) := ⟨_, rfl⟩
                  rw [← hW6]
                  have HRC := hid (show RC L w wo W6 w.heap.size rb ab ob nb pb (ns L sc 1) PC _ _ _ _ _ _ cb #[.int .i64 n0, .int .i64 0, .int .i64 0, .int .i64 0, .int .i64 0] from by rw [hW6]; exact hrc.put 0 (.int .i64 n0))
                  clear hW6 hrc HCB
                  have HNB := hid (show Blk W6 nb #[.func (.func 26) #[] #[.pointer (some ⟨ob, 0, none⟩), .pointer (some ⟨w.heap.size, 0, none⟩), .pointer (some ⟨ab, 0, none⟩)]] 68 from HRC.out.db.n)
                  have HC1 := HRC.out.next hL
                  obtain ⟨cHNB, fHNB, sHNB, nHNB⟩ := HNB.out.all
                  try simp only [cbox] at cHNB
                  go_wp2_with fail
                  refine HC1.mono ?_
                  rintro e w107 ⟨rfl, hrc⟩
                  clear cHNB fHNB sHNB nHNB
                  clear HNB HC1 HRC
                  rw [show (nx L (ns L sc 1)).1 = nv L sc 1 from rfl]
                  generalize nv L sc 1 = n1 at HE ⊢
                  have HCB := hid hrc.c
                  obtain ⟨cHCB, fHCB, sHCB, nHCB⟩ := HCB.out.all
                  try simp only [cbox] at cHCB
                  go_upto_region 27 with fail
                  clear cHCB fHCB sHCB nHCB
                  obtain ⟨W7, hW7⟩ : ∃ q : World, q = w107.setCell ⟨cb, 1, none⟩ (.int .i64 n1) := ⟨_, rfl⟩
                  rw [← hW7]
                  have HRC := hid (show RC L w wo W7 w.heap.size rb ab ob nb pb (ns L sc 2) PC _ _ _ _ _ _ cb #[.int .i64 n0, .int .i64 n1, .int .i64 0, .int .i64 0, .int .i64 0] from by rw [hW7]; exact hrc.put 1 (.int .i64 n1))
                  clear hW7 hrc HCB
                  have HNB := hid (show Blk W7 nb #[.func (.func 26) #[] #[.pointer (some ⟨ob, 0, none⟩), .pointer (some ⟨w.heap.size, 0, none⟩), .pointer (some ⟨ab, 0, none⟩)]] 68 from HRC.out.db.n)
                  have HC2 := HRC.out.next hL
                  obtain ⟨cHNB, fHNB, sHNB, nHNB⟩ := HNB.out.all
                  try simp only [cbox] at cHNB
                  go_wp2_with fail
                  refine HC2.mono ?_
                  rintro e w108 ⟨rfl, hrc⟩
                  clear cHNB fHNB sHNB nHNB
                  clear HNB HC2 HRC
                  rw [show (nx L (ns L sc 2)).1 = nv L sc 2 from rfl]
                  generalize nv L sc 2 = n2 at HE ⊢
                  have HCB := hid hrc.c
                  obtain ⟨cHCB, fHCB, sHCB, nHCB⟩ := HCB.out.all
                  try simp only [cbox] at cHCB
                  go_upto_region 28 with fail
                  clear cHCB fHCB sHCB nHCB
                  obtain ⟨W8, hW8⟩ : ∃ q : World, q = w108.setCell ⟨cb, 2, none⟩ (.int .i64 n2) := ⟨_, rfl⟩
                  rw [← hW8]
                  have HRC := hid (show RC L w wo W8 w.heap.size rb ab ob nb pb (ns L sc 3) PC _ _ _ _ _ _ cb #[.int .i64 n0, .int .i64 n1, .int .i64 n2, .int .i64 0, .int .i64 0] from by rw [hW8]; exact hrc.put 2 (.int .i64 n2))
                  clear hW8 hrc HCB
                  have HNB := hid (show Blk W8 nb #[.func (.func 26) #[] #[.pointer (some ⟨ob, 0, none⟩), .pointer (some ⟨w.heap.size, 0, none⟩), .pointer (some ⟨ab, 0, none⟩)]] 68 from HRC.out.db.n)
                  have HC3 := HRC.out.next hL
                  obtain ⟨cHNB, fHNB, sHNB, nHNB⟩ := HNB.out.all
                  try simp only [cbox] at cHNB
                  go_wp2_with fail
                  refine HC3.mono ?_
                  rintro e w109 ⟨rfl, hrc⟩
                  clear cHNB fHNB sHNB nHNB
                  clear HNB HC3 HRC
                  rw [show (nx L (ns L sc 3)).1 = nv L sc 3 from rfl]
                  generalize nv L sc 3 = n3 at HE ⊢
                  have HCB := hid hrc.c
                  obtain ⟨cHCB, fHCB, sHCB, nHCB⟩ := HCB.out.all
                  try simp only [cbox] at cHCB
                  go_upto_region 29 with fail
                  clear cHCB fHCB sHCB nHCB
                  obtain ⟨W9, hW9⟩ : ∃ q : World, q = w109.setCell ⟨cb, 3, none⟩ (.int .i64 n3) := ⟨_, rfl⟩
                  rw [← hW9]
                  have HRC := hid (show RC L w wo W9 w.heap.size rb ab ob nb pb (ns L sc 4) PC _ _ _ _ _ _ cb #[.int .i64 n0, .int .i64 n1, .int .i64 n2, .int .i64 n3, .int .i64 0] from by rw [hW9]; exact hrc.put 3 (.int .i64 n3))
                  clear hW9 hrc HCB
                  have HNB := hid (show Blk W9 nb #[.func (.func 26) #[] #[.pointer (some ⟨ob, 0, none⟩), .pointer (some ⟨w.heap.size, 0, none⟩), .pointer (some ⟨ab, 0, none⟩)]] 68 from HRC.out.db.n)
                  have HC4 := HRC.out.next hL
                  obtain ⟨cHNB, fHNB, sHNB, nHNB⟩ := HNB.out.all
                  try simp only [cbox] at cHNB
                  go_wp2_with fail
                  refine HC4.mono ?_
                  rintro e w110 ⟨rfl, hrc⟩
                  clear cHNB fHNB sHNB nHNB
                  clear HNB HC4 HRC
                  rw [show (nx L (ns L sc 4)).1 = nv L sc 4 from rfl]
                  generalize nv L sc 4 = n4 at HE ⊢
                  have HCB := hid hrc.c
                  obtain ⟨cHCB, fHCB, sHCB, nHCB⟩ := HCB.out.all
                  try simp only [cbox] at cHCB
                  go_upto_region 30 with fail
                  clear cHCB fHCB sHCB nHCB
                  obtain ⟨W10, hW10⟩ : ∃ q : World, q = w110.setCell ⟨cb, 4, none⟩ (.int .i64 n4) := ⟨_, rfl⟩
                  rw [← hW10]
                  have HRC := hid (show RC L w wo W10 w.heap.size rb ab ob nb pb (ns L sc 5) PC _ _ _ _ _ _ cb #[.int .i64 n0, .int .i64 n1, .int .i64 n2, .int .i64 n3, .int .i64 n4] from by rw [hW10]; exact hrc.put 4 (.int .i64 n4))
                  clear hW10 hrc HCB
                  -- STOP-q
                  have hrc := HRC.out
                  rw [HPC.out] at hrc
                  have HRD := hid hrc
                  clear HRC hrc
                  have hal : Below W10.heap.size W10 (W10.alloc (.cells #[.int .i64 n0, .int .i64 n1, .int .i64 n2, .int .i64 n3, .int .i64 n4] 53)).drew := Below.drew (alloc_below (Below.refl _ _) _)
                  have howA : (W10.alloc (.cells #[.int .i64 n0, .int .i64 n1, .int .i64 n2, .int .i64 n3, .int .i64 n4] 53)).drew.ownsRow wo.heap.size 53 5 (.slice B i2 bk) i2 (tcells XL) := own_laterS HRD.out.oc hal
                  have howD : (W10.alloc (.cells #[.int .i64 n0, .int .i64 n1, .int .i64 n2, .int .i64 n3, .int .i64 n4] 53)).drew.ownsRow wo.heap.size 51 2 (.slice A m ak) m (dcells (rdDots L s4 m).1) := own_laterS HRD.out.od hal
                  have rdA : Row (W10.alloc (.cells #[.int .i64 n0, .int .i64 n1, .int .i64 n2, .int .i64 n3, .int .i64 n4] 53)).drew (W10.heap.size + 1) (some ⟨W10.heap.size, 0, none⟩) [.int .i64 n0, .int .i64 n1, .int .i64 n2, .int .i64 n3, .int .i64 n4] := Row.drew (Row.new' W10 _ _ rfl rfl (Nat.lt_succ_self _))
                  have hsA : wo.heap.size ≤ (W10.alloc (.cells #[.int .i64 n0, .int .i64 n1, .int .i64 n2, .int .i64 n3, .int .i64 n4] 53)).drew.heap.size := Nat.le_trans HRD.out.kp.size hal.size
                  have hmx : i2 + 1 ≤ maxLen := by simp only [maxLen]; omega
                  have hby : (i2 + 1) * 40 ≤ 140737488355328 := by omega
                  have hpg : ∀ g, (Value.slice B i2 bk).ownBlock = some g → pb < g := fun g e => by have := (HRD.out.oc.lt g e).1; omega
                  have hcf : ∀ w2 st', DB L w w2 w.heap.size rb ab ob nb pb st' (pre ++ #[.int .i64 (nv L st 0), .int .i64 (nv L st 1), .int .i64 (nv L st 2), .int .i64 (nv L st 3), .slice A m ak, .slice B i2 bk] ++ post) → w2.cell? ⟨pb, pre.size + 5, none⟩ = some (.slice B i2 bk) ∧ w2.frozen? ⟨pb, pre.size + 5, none⟩ = false := fun w2 st' h => ⟨h.cells.1 5 (by show 5 < 6; omega), h.cells.2 _⟩
                  have hdA := DB.step HRD.out.db hal
                  obtain ⟨hc0, hf0⟩ := hcf W10 _ HRD.out.db
                  have HCB := hid HRD.out.c
                  have hal0 : Below W10.heap.size W10 (W10.alloc (.cells #[.int .i64 n0, .int .i64 n1, .int .i64 n2, .int .i64 n3, .int .i64 n4] 53)) := alloc_below (Below.refl _ _) _
                  obtain ⟨hc1, hf1⟩ := hcf _ _ (DB.step HRD.out.db hal0)
                  have hnp : (pb = W10.heap.size) = False := eq_false (by have := HRD.out.db.p.lt; omega)
                  obtain ⟨cHCB, fHCB, sHCB, nHCB⟩ := HCB.out.all
                  try simp only [cbox] at cHCB
                  go_region_law
                    (first
                      | (refine step_append_row elem_celW (by rfl) _ _ (by rfl) wo.heap.size (.slice B i2 bk) i2 (tcells XL) (by rfl) howA (some ⟨W10.heap.size, 0, none⟩) 1 1 (W10.heap.size + 1) [.int .i64 n0, .int .i64 n1, .int .i64 n2, .int .i64 n3, .int .i64 n4] (by rfl) (by rfl) rdA (five_oneW n0 n1 n2 n3 n4) hmx hby hsA ?_; intro v11 w11 hown11 hg11 hif11; obtain ⟨B9, k9, rfl⟩ := own_formS hown11; have hdb11 := DB.grown hdA hg11 hpg; obtain ⟨x11, x11'⟩ := hcf w11 _ hdb11))
                  -- STOP-r
                  all_goals
                    go_wp2_with fail
                    go_roundw
                    case rel =>
                      refine ⟨i2 + 1, B9, k9, by omega, by go_num, hid ?_, hid ?_, hid ?_, hid ?_⟩
                      · exact own_setlo (own_keptW howD hg11 (own_apart howD howA ne_dot_cel)) ⟨pb, pre.size + 5, none⟩ _ hpb
                      · rw [HE.out]
                        have hE3 : tcells (XL ++ [(⟨(n0, n1), n2, n3, n4⟩ : Cel)]) = tcells XL ++ [.int .i64 n0, .int .i64 n1, .int .i64 n2, .int .i64 n3, .int .i64 n4] := by rw [tcells, List.flatMap_append]; rfl
                        show World.ownsRow _ _ _ _ _ _ (tcells (XL ++ [(⟨(n0, n1), n2, n3, n4⟩ : Cel)]))
                        rw [hE3]
                        exact own_setlo hown11 ⟨pb, pre.size + 5, none⟩ _ hpb
                      · rw [HE.out]
                        exact hdb11.putw 5 (by show 5 < 6; omega) (.slice B9 (i2 + 1) k9)
                      · exact ((HRD.out.kp.below hal).grown hg11 (fun g e => (HRD.out.oc.lt g e).1)).set ⟨pb, pre.size + 5, none⟩ _ (.inl (by simp))
                    case measure => simp [intOf]; omega
                · have hin2 : i2 = n := by omega
                  have ti : ((i2 : Int) < (n : Int)) = False := eq_false (by omega)
                  have hdbk := HDB.out
                  have hown := HOC.out
                  rw [hin2] at hdbk hown
                  replace HDB := hid hdbk
                  replace HOC := hid hown
                  clear hdbk hown hin2
                  go_wp2_with fail
                  -- STOP-s
                  go_roundw
                  -- STOP-t
                  case rel =>
                    have hT := rdTab_atD HMQ.out HNQ.out
                    have hTN := tst_next L hlt
                    rw [← HST.out, hT] at hTN
                    refine ⟨i + 1, _, by omega, by go_num, hid ?_, hid (HNXT.out w5 ⟨⟨⟨nv L st 0, nv L st 1, nv L st 2, nv L st 3, (rdDots L s4 m).1⟩, (rdCels L s5 n).1⟩, A, ak, B, bk⟩ HKP.out ⟨?_, ?_⟩ ?_)⟩
                    · rw [hTN]
                      show DB L w w5 w.heap.size rb ab ob nb pb (rdCels L s5 n).2 (pre ++ #[.int .i64 (nv L st 0), .int .i64 (nv L st 1), .int .i64 (nv L st 2), .int .i64 (nv L st 3), .slice A (rdDots L s4 m).1.length ak, .slice B (rdCels L s5 n).1.length bk] ++ post)
                      rw [rdDots_l, rdCels_l]
                      exact HDB.out
                    · show World.ownsRow _ _ _ _ (.slice A (rdDots L s4 m).1.length ak) (rdDots L s4 m).1.length _
                      rw [rdDots_l]
                      exact HOD.out
                    · show World.ownsRow _ _ _ _ (.slice B (rdCels L s5 n).1.length bk) (rdCels L s5 n).1.length _
                      rw [rdCels_l]
                      exact HOC.out
                    · rw [← HST.out, hT]
                  case measure =>
                    show 2 - ((i : Int) + 1).toNat < 2 - (i : Int).toNat
                    omega
    · have hi2 : i = 2 := by omega
      have t2 : ((i : Int) < 2) = False := eq_false (by omega)
      rcases HPT.out with ⟨e, -⟩ | ⟨e, -⟩ | ⟨-, z, y, hPC, hz, hy, hzy⟩
      · omega
      · omega
      have hts : tst L i = (rdPac L).2 := by rw [hi2]; rfl
      rw [hts, hPC] at HDB
      have HZ := hid hz
      have HY := hid hy
      have HZY := hid hzy
      clear hPC hz hy hzy hts HPT hi2
      obtain ⟨a, ok, ha, ho, hal, hd⟩ := HDB.out.ex
      have HA := hid ha
      have HO := hid ho
      have HS := hid HDB.out.s
      have HR := hid HDB.out.r
      have HP := hid HDB.out.p
      clear ha ho
      rcases hd with ⟨hst, rfl⟩ | ⟨hst, rfl⟩
      rotate_left
      · have HDN := hid (decOk_none (show rdPac L = ((z.t, y.t), none) from Prod.ext HZY.out.symm hst))
        clear hst
        obtain ⟨cHO, fHO, sHO, nHO⟩ := HO.out.all
        try simp only [cbox] at cHO
        obtain ⟨cHR, fHR, sHR, nHR⟩ := HR.out.all
        try simp only [cbox] at cHR
        go_wp2_with fail
        -- STOP-u
        refine bodyPost_ret (results_cell3 rfl _ _ rb _ z12 (0, 0) rfl (putZ_blk HR.out) (by kernel_rfl)) rfl ?_
        exact dpost_bad HDN.out (putZ_below HDB.out.bel (by have := HDB.out.ord; omega))
      · have HST := hid (show rdPac L = ((z.t, y.t), some a) from Prod.ext HZY.out.symm hst)
        clear hst
        -- STOP-v
        have HDS := hid (decOk_some HST.out)
        have ha5 : a ≤ 50508 := rdPac_far HST.out
        have w4' : IntKind.i64.wrap ((a : Int) + 4) = (a : Int) + 4 := IntWalk.i64_in _ (by omega)
        by_cases hlen : a + 4 ≤ L.length
        rotate_left
        · have HDN := hid (show decOk L = none by rw [HDS.out, if_neg (fun h => hlen h.1)])
          have g1' : ((L.length : Int) < (a : Int) + 4) = True := eq_true (by omega)
          obtain ⟨cHO, fHO, sHO, nHO⟩ := HO.out.all
          try simp only [cbox] at cHO
          obtain ⟨cHR, fHR, sHR, nHR⟩ := HR.out.all
          try simp only [cbox] at cHR
          obtain ⟨cHS, fHS, sHS, nHS⟩ := HS.out.all
          try simp only [cbox] at cHS
          obtain ⟨cHA, fHA, sHA, nHA⟩ := HA.out.all
          try simp only [cbox] at cHA
          go_wp2_with fail
          -- STOP-w
          refine bodyPost_ret (results_cell3 rfl _ _ rb _ z12 (0, 0) rfl (putZ_blk HR.out) (by kernel_rfl)) rfl ?_
          exact dpost_bad HDN.out (putZ_below HDB.out.bel (by have := HDB.out.ord; omega))
        · have g1' : ((L.length : Int) < (a : Int) + 4) = False := eq_false (by omega)
          have hex := bstr_take L a hal
          have HSM := hid (Rsum_any (L.take a) wo (by rw [List.length_take]; omega))
          have HSL := hid (sumB_lt (L.take a))
          obtain ⟨M, hM⟩ : ∃ q, q = sumB (L.take a) := ⟨_, rfl⟩
          rw [← hM] at HSM HSL HDS
          clear hM
          have HLEN := hid hlen
          obtain ⟨cHO, fHO, sHO, nHO⟩ := HO.out.all
          try simp only [cbox] at cHO
          obtain ⟨cHS, fHS, sHS, nHS⟩ := HS.out.all
          try simp only [cbox] at cHS
          obtain ⟨cHA, fHA, sHA, nHA⟩ := HA.out.all
          try simp only [cbox] at cHA
          go_wp2_with fail
          -- STOP-x
          refine HSM.out.mono ?_
          rintro e w3 ⟨rfl, hw3⟩
          subst hw3
          clear HSM
          clear cHO fHO sHO nHO
          clear cHS fHS sHS nHS
          clear cHA fHA sHA nHA
          go_wp2_with fail
          -- STOP-y
          go_loopw [18, 19] (fun s18 s19 wr => ∃ j : Nat, j ≤ 4 ∧ s18 = .int .u32 ((M / 256 ^ j : Nat) : Int) ∧ s19 = .int .i64 j ∧ Hid (Blk wr ob #[.bool (okB L a M j)] 4) ∧ Hid (But w3 wr ob ob)) (fun _ s19 _ => 4 - (intOf s19).toNat)
          case atStart => exact ⟨0, by omega, by simp, rfl, hid (by rw [okB_zero]; exact HO.out), hid (But.refl _ _ _)⟩
          case round =>
            obtain ⟨j, hj, rfl, rfl, HOJ, HBJ⟩ := hrel
            obtain ⟨wq, rfl⟩ : ∃ wx : World, wx = wr := ⟨_, rfl⟩
            have hord := HDB.out.ord
            by_cases hj4 : j < 4
            · have t4 : ((j : Int) < 4) = True := eq_true (by omega)
              have HAJ := hid (HA.out.but HBJ.out (by omega) (by omega))
              have HSJ := hid (HS.out.but HBJ.out (by omega) (by omega))
              have hpl : a + j < L.length := by have := HLEN.out; omega
              have gj := bstr_get L (a + j) hpl
              have HST4 := hid (okB_step L a M j hj4 HLEN.out)
              obtain ⟨b, hb⟩ : ∃ q, q = L[a + j]'hpl := ⟨_, rfl⟩
              rw [← hb] at gj HST4
              clear hb
              have hbl := b8_lt b
              obtain ⟨p, ip, up, qp, gp⟩ : ∃ p : Nat, (a : Int) + (j : Int) = (p : Int) ∧ (p : Int) ≤ 9223372036854775807 ∧ ∃ h : p < L.length, (bstr L)[p]'h = b := ⟨a + j, by omega, by omega, hpl, gj⟩
              have wp' : IntKind.i64.wrap (p : Int) = (p : Int) := IntWalk.i64_in _ (by omega)
              clear gj hpl
              obtain ⟨N, hN⟩ : ∃ N, N = M / 256 ^ j := ⟨_, rfl⟩
              have HN := hid hN
              rw [← hN] at HST4 ⊢
              clear hN
              have hNl : N < 4294967296 := by rw [HN.out]; exact Nat.lt_of_le_of_lt (Nat.div_le_self _ _) HSL.out
              obtain ⟨okj, hokj⟩ : ∃ q, q = okB L a M j := ⟨_, rfl⟩
              rw [← hokj] at HOJ HST4
              clear hokj
              cases okj
              · skip
                obtain ⟨cHOJ, fHOJ, sHOJ, nHOJ⟩ := HOJ.out.all
                try simp only [cbox] at cHOJ
                go_wp2_with fail
                -- STOP-z
                go_roundw
                case rel => exact ⟨j + 1, by omega, by rw [Nat.pow_succ, ← Nat.div_div_eq_div_mul, ← HN.out]; first | rfl | (congr 1 <;> omega), by go_num, hid (by rw [HST4.out]; exact HOJ.out.set 0 _), hid (HBJ.out.set _ _ (.inl rfl))⟩
                case measure => simp [intOf]; omega
              · have HEQ := hid (show ((b.toNat : Int) == (N : Int) % 256) = decide (b.toNat = N % 256) by rw [Bool.eq_iff_iff, beq_iff_eq, decide_eq_true_eq]; omega)
                obtain ⟨cHOJ, fHOJ, sHOJ, nHOJ⟩ := HOJ.out.all
                try simp only [cbox] at cHOJ
                obtain ⟨cHAJ, fHAJ, sHAJ, nHAJ⟩ := HAJ.out.all
                try simp only [cbox] at cHAJ
                obtain ⟨cHSJ, fHSJ, sHSJ, nHSJ⟩ := HSJ.out.all
                try simp only [cbox] at cHSJ
                go_wp2_with fail
                -- STOP-aa
                go_roundw
                case rel => exact ⟨j + 1, by omega, by rw [Nat.pow_succ, ← Nat.div_div_eq_div_mul, ← HN.out]; first | rfl | (congr 1 <;> omega), by go_num, hid (by rw [HST4.out, Bool.true_and, ← HEQ.out]; exact HOJ.out.set 0 _), hid (HBJ.out.set _ _ (.inl rfl))⟩
                case measure => simp [intOf]; omega
            · have t4 : ((j : Int) < 4) = False := eq_false (by omega)
              have hj5 : j = 4 := by omega
              have HO2 := HOJ.out
              rw [hj5, okB_four] at HO2
              replace HOJ := hid HO2
              clear HO2 hj5
              have HRJ := hid (HR.out.but HBJ.out (by omega) (by omega))
              by_cases hsum : (L.drop a).take 4 = sum4 M
              rotate_left
              · have HDN := hid (show decOk L = none by rw [HDS.out, if_neg (fun h => hsum h.2.1)])
                rw [decide_eq_false hsum] at HOJ
                clear hsum
                obtain ⟨cHOJ, fHOJ, sHOJ, nHOJ⟩ := HOJ.out.all
                try simp only [cbox] at cHOJ
                obtain ⟨cHRJ, fHRJ, sHRJ, nHRJ⟩ := HRJ.out.all
                try simp only [cbox] at cHRJ
                go_wp2_with fail
                -- STOP-ab
                refine bodyPost_ret (results_cell3 rfl _ _ rb _ z12 (0, 0) rfl (putZ_blk HRJ.out) (by kernel_rfl)) rfl ?_
                exact dpost_bad HDN.out (putZ_below (HBJ.out.bel HDB.out.bel HDB.out.bel.size (by omega) (by omega)) (by omega))
              · rw [decide_eq_true hsum] at HOJ
                have HSUM := hid hsum
                clear hsum
                have HPJ := hid (HP.out.but HBJ.out (by omega) (by omega))
                have hpw : pb < w3.heap.size := HP.out.lt
                have HZD := hid (own_but HZ.out.1 HBJ.out (by omega) (by omega))
                have HZC := hid (own_but HZ.out.2 HBJ.out (by omega) (by omega))
                have HYD := hid (own_but HY.out.1 HBJ.out (by omega) (by omega))
                have HYC := hid (own_but HY.out.2 HBJ.out (by omega) (by omega))
                have HAJ := hid (HA.out.but HBJ.out (by omega) (by omega))
                have HBQ := hid (HBJ.out.bel HDB.out.bel HDB.out.bel.size (by omega) (by omega))
                obtain ⟨t1, A1, k1, B1, m1⟩ := z
                obtain ⟨t2, A2, k2, B2, m2⟩ := y
                have HOK1 := hid (ok_own ⟨t1, A1, k1, B1, m1⟩ HZD.out HZC.out)
                have HOK2 := hid (ok_own ⟨t2, A2, k2, B2, m2⟩ HYD.out HYC.out)
                have HCK1 := hid (fun w1 (hb : Below wq.heap.size wq w1) => rtable_any t1 A1 k1 B1 m1 w1 (HOK1.out.step hb).1 HOK1.out.2.1 (HOK1.out.step hb).2.2.1 HOK1.out.2.2.2)
                have HCK2 := hid (fun w1 (hb : Below wq.heap.size wq w1) => rtable_any t2 A2 k2 B2 m2 w1 (HOK2.out.step hb).1 HOK2.out.2.1 (HOK2.out.step hb).2.2.1 HOK2.out.2.2.2)
                obtain ⟨E1, hE1⟩ : ∃ q, q = tabI t1 := ⟨_, rfl⟩
                obtain ⟨E2, hE2⟩ : ∃ q, q = tabI t2 := ⟨_, rfl⟩
                simp only at HDS HCK1 HCK2
                rw [← hE1, ← hE2] at HDS
                rw [← hE1] at HCK1
                rw [← hE2] at HCK2
                clear hE1 hE2
                obtain ⟨cHOJ, fHOJ, sHOJ, nHOJ⟩ := HOJ.out.all
                try simp only [cbox] at cHOJ
                obtain ⟨cHPJ, fHPJ, sHPJ, nHPJ⟩ := HPJ.out.all
                try simp only [cbox] at cHPJ
                go_wp2_with fail
                -- STOP-ac
                refine (HCK1.out _ (Below.refl _ _)).mono ?_
                rintro e w4 ⟨rfl, hb4⟩
                have HB4 := hid hb4
                clear hb4 HCK1
                clear cHOJ fHOJ sHOJ nHOJ
                clear cHPJ fHPJ sHPJ nHPJ
                by_cases hq1 : E1 = 0
                rotate_left
                · have HDN := hid (show decOk L = none by rw [HDS.out, if_neg (fun h => hq1 h.2.2.1)])
                  have g3' : (E1 != 0) = true := by simpa using hq1
                  have HY2 := hid (HRJ.out.step HB4.out)
                  clear hq1
                  obtain ⟨cHY2, fHY2, sHY2, nHY2⟩ := HY2.out.all
                  try simp only [cbox] at cHY2
                  go_wp2_with fail
                  -- STOP-ad
                  refine bodyPost_ret (results_cell3 rfl _ _ rb _ z12 (0, 0) rfl (putZ_blk HY2.out) (by kernel_rfl)) rfl ?_
                  exact dpost_bad HDN.out (putZ_below (Below.step' HBQ.out HB4.out) (by omega))
                · subst hq1
                  have HPJ4 := hid (HPJ.out.step HB4.out)
                  obtain ⟨cHPJ4, fHPJ4, sHPJ4, nHPJ4⟩ := HPJ4.out.all
                  try simp only [cbox] at cHPJ4
                  go_wp2_with fail
                  -- STOP-ae
                  refine (HCK2.out _ HB4.out).mono ?_
                  rintro e w5 ⟨rfl, hb5⟩
                  have HB5 := hid (Below.step' HB4.out hb5)
                  clear hb5 HCK2
                  clear cHPJ4 fHPJ4 sHPJ4 nHPJ4
                  have HY2 := hid (HRJ.out.step HB5.out)
                  by_cases hq2 : E2 = 0
                  rotate_left
                  · have HDN := hid (show decOk L = none by rw [HDS.out, if_neg (fun h => hq2 h.2.2.2)])
                    have g3' : (E2 != 0) = true := by simpa using hq2
                    clear hq2
                    obtain ⟨cHY2, fHY2, sHY2, nHY2⟩ := HY2.out.all
                    try simp only [cbox] at cHY2
                    go_wp2_with fail
                    -- STOP-af
                    refine bodyPost_ret (results_cell3 rfl _ _ rb _ z12 (0, 0) rfl (putZ_blk HY2.out) (by kernel_rfl)) rfl ?_
                    exact dpost_bad HDN.out (putZ_below (Below.step' HBQ.out HB5.out) (by omega))
                  · subst hq2
                    have HDN := hid (show decOk L = some (a + 4) by rw [HDS.out, if_pos ⟨HLEN.out, HSUM.out, by first | rfl | trivial, by first | rfl | trivial⟩])
                    have HY6 := hid (HPJ.out.step HB5.out)
                    have HYA := hid (HAJ.out.step HB5.out)
                    go_wp2_with fail
                    -- STOP-ag
                    obtain ⟨cHY2, fHY2, sHY2, nHY2⟩ := HY2.out.all
                    try simp only [cbox] at cHY2
                    obtain ⟨cHY6, fHY6, sHY6, nHY6⟩ := HY6.out.all
                    try simp only [cbox] at cHY6
                    obtain ⟨cHYA, fHYA, sHYA, nHYA⟩ := HYA.out.all
                    try simp only [cbox] at cHYA
                    go_region
                    -- STOP-ah
                    all_goals
                      go_wp2_with fail
                      -- STOP-ai
                      refine bodyPost_ret (results_cell3 rfl _ _ rb _ #[.int .i64 t1.c.c0, .int .i64 t1.c.c1, .int .i64 t1.c.c2, .int .i64 t1.c.c3, .slice A1 t1.c.cloud.length k1, .slice B1 t1.cells.length m1, .int .i64 t2.c.c0, .int .i64 t2.c.c1, .int .i64 t2.c.c2, .int .i64 t2.c.c3, .slice A2 t2.c.cloud.length k2, .slice B2 t2.cells.length m2] (0, 0) rfl (Blk.drew (put6_hi (put6_lo HY2.out))) (by kernel_rfl)) rfl ?_
                      have hrl : rb < w.heap.size + rb + 1 := by omega
                      have hwq := HBQ.out.size
                      refine ⟨⟨t1, A1, k1, B1, m1⟩, ⟨t2, A2, k2, B2, m2⟩, (a : Int) + 4, 0, rfl, ?_, ?_, ?_, .inl ⟨a + 4, HDN.out, by omega, rfl, by rw [HST.out]⟩⟩
                      · exact ok_own ⟨t1, A1, k1, B1, m1⟩ (own_drew (put6_own (put6_own (own_laterS HZD.out HB5.out) (by omega)) (by omega))) (own_drew (put6_own (put6_own (own_laterS HZC.out HB5.out) (by omega)) (by omega)))
                      · exact ok_own ⟨t2, A2, k2, B2, m2⟩ (own_drew (put6_own (put6_own (own_laterS HYD.out HB5.out) (by omega)) (by omega))) (own_drew (put6_own (put6_own (own_laterS HYC.out HB5.out) (by omega)) (by omega)))
                      · exact Below.drew (put6_below (put6_below (Below.step' HBQ.out HB5.out) (by omega)) (by omega))
end Go.Proofs.Ytnnabfjlmenmgaa
