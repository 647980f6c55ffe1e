/- The draws of a tiling out of a code. -/
import Derived.Test.YtikifkbgmniobaaGreatDrw
import Derived.Test.YtikifkbgmniobaaGreatRts
import Derived.Test.YtikifkbgmniobaaGreatEvs
import Derived.Test.YtikifkbgmniobaaGreatPtLL
import Derived.Test.YtikifkbgmniobaaGreatLws
import Derived.Deep.DeepCutAuto
namespace Go.Proofs.YtikifkbgmniobaaGreat
open Go.RowKit
set_option maxRecDepth 20000

set_option maxHeartbeats 1000000 in
theorem l01Below_all (g : Nat) (A : Option Addr) (n c m : Nat) (w : World) (h1 : 1 ≤ m) (hm : m ≤ 1000000) (h : Cur w g A n c) :
    Calls Tryz.prog 47 #[.pointer (some ⟨g, 0, none⟩), .int .i64 m] w fun e w' => ∃ x : Nat, x < m ∧ e = .returned (.int .i64 x) ∧ Cur w' g A n c ∧ Only w w' (some ⟨g, 0, none⟩) := by
  by_cases hs : m ≤ 256
  · exact l01Below_any g A n c m w h1 hs h
  · have HC := Bx.mk h
    clear h
    have hm0 : ¬ (m : Int) ≤ 0 := by omega
    have hm1 : ¬ (m : Int) ≤ 256 := by omega
    have hmn : ¬ (m : Int) = 0 := by omega
    have hmn2 : ¬ m = 0 := by omega
    go_enter Tryz.func47, Tryz.ntmps47
    go_wp2_with fail
    refine (l01Byte_any g A n c _ (by exact HC.out)).mono ?_
    rintro e w1 ⟨x, hx, rfl, hc, o⟩
    have HC1 := Bx.mk hc
    have HO1 := Bx.mk o
    clear hc o
    go_wp2_with fail
    refine (l01Byte_any g A n c _ (by exact HC1.out)).mono ?_
    rintro e w2 ⟨y, hy, rfl, hc, o⟩
    have HC2 := Bx.mk hc
    have HO2 := Bx.mk (HO1.out.trans o)
    clear hc o
    go_wp2_with fail
    refine (l01Byte_any g A n c _ (by exact HC2.out)).mono ?_
    rintro e w3 ⟨z, hz, rfl, hc, o⟩
    have HC3 := Bx.mk hc
    have HO3 := Bx.mk (HO2.out.trans o)
    clear hc o
    go_wp2_with fail
    refine (l01Byte_any g A n c _ (by exact HC3.out)).mono ?_
    rintro e w4 ⟨u, hu, rfl, hc, o⟩
    have HC4 := Bx.mk hc
    have HO4 := Bx.mk (HO3.out.trans o)
    clear hc o
    obtain ⟨V, hV⟩ : ∃ V : Nat, V = x * 16777216 + y * 65536 + z * 256 + u := ⟨_, rfl⟩
    have hVi : (x : Int) * 16777216 + (y : Int) * 65536 + (z : Int) * 256 + (u : Int) = (V : Int) := by omega
    have hlt : V % m < m := Nat.mod_lt _ (by omega)
    obtain ⟨r, hr⟩ : ∃ r, r = V % m := ⟨_, rfl⟩
    have hmod : (V : Int).tmod (m : Int) = (r : Int) := by rw [hr]; exact (Int.ofNat_tmod V m).symm
    have hmod2 : (V : Int) % (m : Int) = (r : Int) := by rw [hr]; exact (Int.natCast_emod V m).symm
    rw [← hr] at hlt
    clear hV hr
    go_wp2_with fail
    go_ret
    exact ⟨r, hlt, ret_int (by first | exact hmod2 | exact hmod | rfl | (rw [hVi]; first | exact hmod2 | exact hmod)), HC4.out, HO4.out⟩
set_option maxHeartbeats 1000000 in
theorem l01Pick_any (g : Nat) (A B : Option Addr) (n c d : Nat) (xs : List Int) (w : World) (h1 : 1 ≤ xs.length) (hm : xs.length ≤ 256) (h : Cur w g A n c) (hx : IR w B xs) (hne : ∀ x, B = some x → x.block ≠ g) :
    Calls Tryz.prog 48 #[.pointer (some ⟨g, 0, none⟩), .slice B xs.length d] w fun e w' => ∃ x, x ∈ xs ∧ e = .returned (.int .i64 x) ∧ Cur w' g A n c ∧ Only w w' (some ⟨g, 0, none⟩) := by
  have HC := Bx.mk h
  have HX := Bx.mk hx
  have HN := Bx.mk hne
  clear h hx hne
  go_enter Tryz.func48, Tryz.ntmps48
  go_wp2_with fail
  refine (l01Below_any g A n c xs.length _ h1 hm (by exact HC.out)).mono ?_
  rintro e w1 ⟨k, hk, rfl, hc, o⟩
  have HC1 := Bx.mk hc
  have HO1 := Bx.mk o
  have hx1 := HX.out.only o (fun a b ha hb => by injection hb with hb; subst hb; exact HN.out a ha)
  obtain ⟨b, p, z, rfl, hb, cz, H⟩ := hx1.one (k := k) hk
  have hki : (k : Int) < xs.length := by omega
  have HM : Bx (z ∈ xs) := ⟨List.mem_of_getElem? H.out⟩
  clear hc o hx1 H
  go_wp2_with fail
  go_ret
  exact ⟨z, HM.out, rfl, HC1.out, HO1.out⟩
def tileSz (s : Nat) : Prop := s = 1 ∨ s = 2 ∨ s = 4 ∨ s = 6 ∨ s = 8 ∨ s = 9 ∨ s = 12
def GivesTile (w : World) (g : Nat) (e : Ending) (w' : World) : Prop :=
  ∃ (s : Nat) (a b : List Int) (A1 : Option Addr) (c1 : Nat) (A2 : Option Addr) (c2 : Nat), tileSz s ∧ Bx (rhOk s a = true ∧ rhOk s b = true ∧ tilesB s a b = true) ∧ e = .returned (.tuple #[.agg #[.int .i64 s, .slice A1 a.length c1], .agg #[.int .i64 s, .slice A2 b.length c2]]) ∧ IR w' A1 a ∧ IR w' A2 b ∧ (∀ x, A1 = some x → w.heap.size ≤ x.block) ∧ (∀ x, A2 = some x → w.heap.size ≤ x.block) ∧ Only w w' (some ⟨g, 0, none⟩)
def allTile (s : Nat) : Bool := rhOk s (selTo (memB [0]) s) && rhOk s (evL s s s) && tilesB s (selTo (memB [0]) s) (evL s s s)
theorem all_tile {s : Nat} (h : tileSz s) : rhOk s (selTo (memB [0]) s) = true ∧ rhOk s (evL s s s) = true ∧ tilesB s (selTo (memB [0]) s) (evL s s s) = true := by
  have key : ((List.range 13).all fun s => s == 0 || allTile s) = true := by decide +kernel
  rw [List.all_eq_true] at key
  have := key s (List.mem_range.2 (by unfold tileSz at h; omega))
  unfold allTile at this
  simp only [Bool.or_eq_true, beq_iff_eq, Bool.and_eq_true] at this
  rcases this with h0 | ⟨⟨h1, h2⟩, h3⟩
  · unfold tileSz at h; omega
  · exact ⟨h1, h2, h3⟩
theorem lst_ir {w : World} {xs : List Int} (hl : xs.length ≤ 100) : IR (w.alloc (.cells (ints xs).toArray 3)) (some ⟨w.heap.size, 0, none⟩) xs := by
  refine ⟨by omega, fun _ => ⟨w.heap.size, 0, rfl, by simp, fun k hk => ?_⟩⟩
  rw [cell_of_row _ w.heap.size (0 + k) (ints xs).toArray _ (0, 0) (heap_alloc_new w _), Nat.zero_add]
  simp only [List.getElem?_toArray]
  exact ints_get hk
theorem IR.setFar {w : World} {A : Option Addr} {xs : List Int} {g i : Nat} {v : Value} (h : IR w A xs) (hne : ∀ x, A = some x → x.block ≠ g) : IR (w.setCell ⟨g, i, none⟩ v) A xs :=
  h.only ((Only.refl w (some ⟨g, 0, none⟩)).set v) (fun a b ha hb => by injection hb with hb; subst hb; exact hne a ha)
set_option maxHeartbeats 8000000 in
theorem l09Tile_any (g : Nat) (A : Option Addr) (n c : Nat) (w : World) (h : Cur w g A n c) :
    Calls Tryz.prog 23 #[.pointer (some ⟨g, 0, none⟩)] w (GivesTile w g) := by
  have hgl := h.lt
  obtain ⟨W0, hW0⟩ : ∃ W0, W0 = (w.alloc (.cells #[.int .i64 0, .slice none 0 0] 26)).alloc (.cells #[.int .i64 0, .slice none 0 0] 26) := ⟨_, rfl⟩
  have bw : Below w.heap.size w W0 := by rw [hW0]; exact (below_alloc _ _).alloc (by simp) _
  have hz : w.heap.size + 2 ≤ W0.heap.size := by rw [hW0]; simp
  have R2 : Blk W0 w.heap.size 26 #[.int .i64 0, .slice none 0 0] := by rw [hW0]; exact (Blk.new w 26 #[.int .i64 0, .slice none 0 0]).alloc (.cells #[.int .i64 0, .slice none 0 0] 26)
  have R3 : Blk W0 (w.heap.size + 1) 26 #[.int .i64 0, .slice none 0 0] := by rw [hW0]; have := Blk.new (w.alloc (.cells #[.int .i64 0, .slice none 0 0] 26)) 26 #[.int .i64 0, .slice none 0 0]; simpa using this
  obtain ⟨g2, hg2⟩ : ∃ g2, g2 = w.heap.size := ⟨_, rfl⟩
  obtain ⟨g3, hg3⟩ : ∃ g3, g3 = w.heap.size + 1 := ⟨_, rfl⟩
  rw [← hg2] at R2
  rw [← hg3] at R3
  have hgg2 : g < g2 := by omega
  have hg23 : g2 < g3 := by omega
  have hg30 : g3 < W0.heap.size := by omega
  have hwg2 : w.heap.size ≤ g2 := by omega
  obtain ⟨W1, hW1⟩ : ∃ W1, W1 = W0.alloc (.cells #[.int .i64 1, .int .i64 2, .int .i64 4, .int .i64 6, .int .i64 8, .int .i64 9, .int .i64 12] 3) := ⟨_, rfl⟩
  have b1 : Below W0.heap.size W0 W1 := by rw [hW1]; exact below_alloc _ _
  have HL : Bx (IR W1 (some ⟨W0.heap.size, 0, none⟩) [1, 2, 4, 6, 8, 9, 12]) := ⟨by rw [hW1]; exact lst_ir (by decide)⟩
  have HC := Bx.mk ((h.below bw).below b1)
  have HR2 := Bx.mk (R2.below b1 (by omega))
  have HR3 := Bx.mk (R3.below b1 hg30)
  have HO := Bx.mk (Only.of_below (some ⟨g, 0, none⟩) (bw.trans (b1.mono bw.size)))
  have hz1 := b1.size
  clear h R2 R3 b1
  go_enter Tryz.func23, Tryz.ntmps23
  go_upto_region 1 with (fail)
  rw [← hW0, ← hg3, ← hg2]
  clear hW0 hg2 hg3
  go_wp2_with fail
  rw [← hW1]
  clear hW1
  refine (l01Pick_any g A _ n c _ [1, 2, 4, 6, 8, 9, 12] _ (by decide) (by decide) (by exact HC.out) (by exact HL.out) (fun x hx => by injection hx with hx; subst hx; simp; omega)).mono ?_
  rintro e w1 ⟨z, hzm, rfl, hc, o⟩
  obtain ⟨s, rfl, hs⟩ : ∃ s : Nat, z = s ∧ tileSz s := ⟨z.toNat, by simp at hzm; omega, by unfold tileSz; simp at hzm; omega⟩
  have HC1 := Bx.mk hc
  have R2 := Bx.mk (HR2.out.onlyAt o (by omega))
  have R3 := Bx.mk (HR3.out.onlyAt o (by omega))
  have HO1 := Bx.mk (HO.out.trans o)
  have hz2 := o.size
  have hs1 : 1 ≤ s := by unfold tileSz at hs; omega
  have hs12 : s ≤ 12 := by unfold tileSz at hs; omega
  have HS := Bx.mk hs
  clear hzm hc o hs HL HC HR2 HR3 HO
  go_wp2_with fail
  go_loopw [5] (fun iv wr => ∃ i : Nat, i ≤ 6 ∧ iv = .int .i64 i ∧ Bx (Cur wr g A n c) ∧ Bx (Blk wr g2 26 #[.int .i64 0, .slice none 0 0]) ∧ Bx (Blk wr g3 26 #[.int .i64 0, .slice none 0 0]) ∧ Bx (Only w wr (some ⟨g, 0, none⟩)) ∧ W0.heap.size ≤ wr.heap.size) (fun iv _ => 6 - (intOf iv).toNat)
  case atStart => exact ⟨0, by omega, rfl, HC1, R2, R3, HO1, by omega⟩
  case round =>
    clear HC1 R2 R3 HO1 hz2
    obtain ⟨i, hi, rfl, HC, R2, R3, HO, hzr⟩ := hrel
    by_cases hlt : i < 6
    · have hli : (i : Int) < 6 := by omega
      go_wp2_with fail
      refine (l01Below_any g A n c s _ hs1 (by omega) (by exact HC.out)).mono ?_
      rintro e w2 ⟨x, hx, rfl, hc, o⟩
      have HC2 := Bx.mk hc
      have HO2 := Bx.mk o
      clear hc o
      go_wp2_with fail
      refine (l01Below_any g A n c s _ hs1 (by omega) (by exact HC2.out)).mono ?_
      rintro e w3 ⟨y, hy, rfl, hc, o⟩
      have HC3 := Bx.mk hc
      have HO3 := Bx.mk (HO2.out.trans o)
      clear hc o HC2 HO2
      go_wp2_with fail
      refine (l01Below_any g A n c s _ hs1 (by omega) (by exact HC3.out)).mono ?_
      rintro e w4 ⟨u, hu, rfl, hc, o⟩
      have o4 := HO3.out.trans o
      obtain ⟨W5, hW5⟩ : ∃ W5, W5 = w4.alloc (.cells #[.int .i64 0, .int .i64 x, .int .i64 y, .int .i64 u] 3) := ⟨_, rfl⟩
      have b5 : Below w4.heap.size w4 W5 := by rw [hW5]; exact below_alloc _ _
      have HL : Bx (IR W5 (some ⟨w4.heap.size, 0, none⟩) [0, (x : Int), (y : Int), (u : Int)]) := ⟨by rw [hW5]; exact lst_ir (by simp)⟩
      obtain ⟨a, ha⟩ : ∃ a, a = selTo (memB [0, (x : Int), (y : Int), (u : Int)]) s := ⟨_, rfl⟩
      have HOF : Bx (∀ B d W, IR W B [0, (x : Int), (y : Int), (u : Int)] → Calls Tryz.prog 49 #[.int .i64 s, .slice B 4 d] W (GivesRh W s a)) := ⟨fun B d W h => by rw [ha]; exact l02Of_any s B d [0, (x : Int), (y : Int), (u : Int)] W hs1 (by omega) h⟩
      have HAOK : Bx (rhOk s a = true) := ⟨by rw [ha]; have := selTo_ok (s := (s : Int)) ⟨by omega, by omega⟩ (memB [0, (x : Int), (y : Int), (u : Int)]); rw [Int.toNat_natCast] at this; exact this⟩
      have hal : 0 < a.length := by
        rw [ha]
        exact List.length_pos_iff.2 (List.ne_nil_of_mem (selTo_mem.2 ⟨0, by omega, rfl, by rw [memB_iff]; exact List.mem_cons_self⟩))
      have hal2 : a.length ≤ 24 := (rhOk_len HAOK.out).1
      have HC5 := Bx.mk (hc.below b5)
      have R2q := Bx.mk ((R2.out.onlyAt o4 (by omega)).below b5 (by have := o4.size; omega))
      have R3q := Bx.mk ((R3.out.onlyAt o4 (by omega)).below b5 (by have := o4.size; omega))
      have HO5 := Bx.mk ((HO.out.trans o4).trans (Only.of_below _ b5))
      have hz5 : W0.heap.size ≤ W5.heap.size := by have := o4.size; have := b5.size; omega
      clear hc o o4 b5 ha HC3 HO3 HC R2 R3 HO
      go_wp2_with fail
      rw [← hW5]
      clear hW5
      refine (HOF.out _ _ _ (by exact HL.out)).mono ?_
      rintro e w6 ⟨A6, c6, rfl, io6, b6⟩
      obtain ⟨W7, hW7⟩ : ∃ W7, W7 = w6.alloc (.cells #[.int .i64 s, .slice A6 a.length c6] 26) := ⟨_, rfl⟩
      obtain ⟨g6, hg6⟩ : ∃ g6, g6 = w6.heap.size := ⟨_, rfl⟩
      have b7 : Below w6.heap.size w6 W7 := by rw [hW7]; exact below_alloc _ _
      have k60 : W7.cell? ⟨g6, 0, none⟩ = some (.int .i64 s) := by rw [hW7, hg6]; simp [go_sem]
      have k61 : W7.cell? ⟨g6, 1, none⟩ = some (.slice A6 a.length c6) := by rw [hW7, hg6]; simp [go_sem]
      have hg67 : g6 < W7.heap.size := by rw [hW7, hg6]; simp
      have b57 : Below W5.heap.size W5 W7 := b6.trans (b7.mono b6.size)
      have hg65 : W5.heap.size ≤ g6 := by rw [hg6]; exact b6.size
      have HC7 := Bx.mk (HC5.out.below b57)
      have R27 := Bx.mk (R2q.out.below b57 (by omega))
      have R37 := Bx.mk (R3q.out.below b57 (by omega))
      have HO7 := Bx.mk (HO5.out.trans (Only.of_below _ b57))
      have HA7 := Bx.mk (io6.reads.below b7)
      have HAG : Bx (∀ x, A6 = some x → W5.heap.size ≤ x.block) := ⟨fun x hx => io6.ge x hx⟩
      have hz7 : W0.heap.size ≤ W7.heap.size := by omega
      clear io6 b6 b7 b57 HC5 R2q R3q HO5 HL HOF
      obtain ⟨r, hr⟩ : ∃ r : Nat, r = s % a.length := ⟨_, rfl⟩
      have hrt : (s : Int).tmod (a.length : Int) = (r : Int) := by rw [hr]; exact (Int.ofNat_tmod s a.length).symm
      have hre : (s : Int) % (a.length : Int) = (r : Int) := by rw [hr]; exact (Int.natCast_emod s a.length).symm
      have hai : ¬ (a.length : Int) = 0 := by omega
      have hai2 : ¬ a.length = 0 := by omega
      clear hr
      by_cases hr0 : r = 0
      · have hrb : (((r : Nat) : Int) != 0) = false := by rw [bne_eq_false_iff_eq]; omega
        obtain ⟨L, hL⟩ : ∃ L, L = ptL s a (2 ^ s) := ⟨_, rfl⟩
        have HPT : Bx (∀ B d W, IR W B a → Calls Tryz.prog 50 #[.agg #[.int .i64 s, .slice B a.length d]] W (GivesRl W s L)) := ⟨fun B d W h => by rw [hL]; exact specPtListL_any s B d a W hs12 HAOK.out h⟩
        have HLM : Bx (∀ ys ∈ L, rhOk s ys = true ∧ tilesB s a ys = true) := ⟨fun ys hy => by
          rw [hL, ← ptsL_in HAOK.out hs12] at hy
          exact ⟨(ptsL_mem hy).2.2.1, (ptsL_mem hy).2.2.2.2⟩⟩
        have hLl : L.length ≤ 4096 := by rw [hL, ← ptsL_in HAOK.out hs12]; exact ptsL_len _ _
        clear hL hr0
        go_wp2_with fail
        rw [← hW7, ← hg6]
        clear hW7 hg6
        refine (HPT.out _ _ _ (by exact HA7.out)).mono ?_
        rintro e w8 ⟨A8, c8, rfl, hrd, b8⟩
        replace k60 := ((bcell b8).1 _ _ hg67).trans k60
        replace k61 := ((bcell b8).1 _ _ hg67).trans k61
        have HC8 := Bx.mk (HC7.out.below b8)
        have R28 := Bx.mk (R27.out.below b8 (by omega))
        have R38 := Bx.mk (R37.out.below b8 (by omega))
        have HO8 := Bx.mk (HO7.out.trans (Only.of_below _ b8))
        have HA8 := Bx.mk (HA7.out.below b8)
        have HRD := Bx.mk hrd
        have hz8 := b8.size
        clear b8 hrd HC7 R27 R37 HO7 HA7 HPT
        by_cases hL0 : 0 < L.length
        · have hL0i : (L.length : Int) > 0 := by omega
          have HC8d := Bx.mk (HC8.out.below (Below.refl _ _).drew)
          go_upto_region 9 with (fail)
          go_region_with (go_at_call 47; refine (l01Below_all g A n c L.length _ (by omega) (by omega) (by exact HC8d.out)).mono ?_; rintro e w9 ⟨q, hq, rfl, hc9, o9⟩; have o9d : Only w8 w9 (some ⟨g, 0, none⟩) := (Only.of_below _ (Below.refl _ _).drew).trans o9; have hqi : (q : Int) < L.length := (by omega); obtain ⟨ys, hys⟩ : ∃ ys, L[q]? = some ys := ⟨_, List.getElem?_eq_getElem hq⟩; obtain ⟨g8, B8, cB8, rfl, hg81, hg82, kr0, kr1, hir, hB8⟩ := HRD.out q ys hys; have hne8 : g8 ≠ g := (by omega); replace kr0 := (World.cell?_of_block (w := w8) (o9d.block g8 hg82 (by simp; omega))).trans kr0; replace kr1 := (World.cell?_of_block (w := w8) (o9d.block g8 hg82 (by simp; omega))).trans kr1; have q60 := (World.cell?_of_block (w := w8) (o9d.block g6 (by omega) (by simp; omega))).trans k60; have q61 := (World.cell?_of_block (w := w8) (o9d.block g6 (by omega) (by simp; omega))).trans k61; have R29 := R28.out.onlyAt o9d (by omega); have R39 := R38.out.onlyAt o9d (by omega); have HO9 := Bx.mk (HO8.out.trans o9d); have HA9 := Bx.mk (HA8.out.only o9d (fun a b ha hb => by injection hb with hb; subst hb; have := HAG.out a ha; simp; omega)); have HB9 := Bx.mk (hir.only o9d (fun a b ha hb => by injection hb with hb; subst hb; have := hB8 a ha; simp; omega)); have HB8 := Bx.mk hB8; have HYM := Bx.mk (HLM.out ys (List.mem_of_getElem? hys)); have t20 := R29.at_ (i := 0) rfl; have t21 := R29.at_ (i := 1) rfl; have f20 := R29.frozen 0; have f21 := R29.frozen 1; have t30 := R39.at_ (i := 0) rfl; have t31 := R39.at_ (i := 1) rfl; have f30 := R39.frozen 0; have f31 := R39.frozen 1; have R29x := Bx.mk R29; have R39x := Bx.mk R39; clear hc9 o9 R29 R39 hir hB8)
          all_goals have HF2 := Bx.mk (Blk.setAt (i := 1) (Blk.setAt (i := 0) ((R29x.out.set 0 (.int .i64 s)).set 1 (.slice A6 a.length c6)) (.int .i64 s) (show g2 ≠ g3 by omega)) (.slice B8 ys.length cB8) (show g2 ≠ g3 by omega))
          all_goals have HF3 := Bx.mk ((((R39x.out.setAt (i := 0) (.int .i64 s) (show g3 ≠ g2 by omega)).setAt (i := 1) (.slice A6 a.length c6) (show g3 ≠ g2 by omega)).set 0 (.int .i64 s)).set 1 (.slice B8 ys.length cB8))
          all_goals have HOF := Bx.mk (only_set (only_set (only_set (only_set HO9.out hwg2 0 (.int .i64 s)) hwg2 1 (.slice A6 a.length c6)) (show w.heap.size ≤ g3 by omega) 0 (.int .i64 s)) (show w.heap.size ≤ g3 by omega) 1 (.slice B8 ys.length cB8))
          all_goals have HAF := Bx.mk (((((HA9.out).setFar (g := g2) (i := 0) (v := .int .i64 s) (fun x hx => by have := HAG.out x hx; omega)).setFar (g := g2) (i := 1) (v := .slice A6 a.length c6) (fun x hx => by have := HAG.out x hx; omega)).setFar (g := g3) (i := 0) (v := .int .i64 s) (fun x hx => by have := HAG.out x hx; omega)).setFar (g := g3) (i := 1) (v := .slice B8 ys.length cB8) (fun x hx => by have := HAG.out x hx; omega))
          all_goals have HBF := Bx.mk (((((HB9.out).setFar (g := g2) (i := 0) (v := .int .i64 s) (fun x hx => by have := HB8.out x hx; omega)).setFar (g := g2) (i := 1) (v := .slice A6 a.length c6) (fun x hx => by have := HB8.out x hx; omega)).setFar (g := g3) (i := 0) (v := .int .i64 s) (fun x hx => by have := HB8.out x hx; omega)).setFar (g := g3) (i := 1) (v := .slice B8 ys.length cB8) (fun x hx => by have := HB8.out x hx; omega))
          all_goals go_wp2_with fail
          all_goals exact bodyPost_ret (v := .tuple #[.agg #[.int .i64 s, .slice A6 a.length c6], .agg #[.int .i64 s, .slice B8 ys.length cB8]]) (by simp [results, Tryz.results23, go_sem, HF2.out.at_ (i := 0) rfl, HF2.out.at_ (i := 1) rfl, HF3.out.at_ (i := 0) rfl, HF3.out.at_ (i := 1) rfl]) rfl ⟨s, a, ys, A6, c6, B8, cB8, HS.out, ⟨HAOK.out, HYM.out.1, HYM.out.2⟩, rfl, HAF.out, HBF.out, fun x hx => (by have := HAG.out x hx; omega), fun x hx => (by have := HB8.out x hx; omega), HOF.out⟩
        · have hL0i : ¬ (L.length : Int) > 0 := by omega
          go_wp2_with fail
          go_roundw
          case rel => exact ⟨i + 1, by omega, by go_num, HC8, R28, R38, HO8, by omega⟩
          case measure => simp [intOf]; omega
      · have hrb : (((r : Nat) : Int) != 0) = true := by rw [bne_iff_ne]; omega
        go_wp2_with fail
        rw [← hW7]
        go_roundw
        case rel => exact ⟨i + 1, by omega, by go_num, HC7, R27, R37, HO7, hz7⟩
        case measure => simp [intOf]; omega
    · have hli : ¬ (i : Int) < 6 := by omega
      obtain ⟨W5, hW5⟩ : ∃ W5, W5 = wr.alloc (.cells #[.int .i64 0] 3) := ⟨_, rfl⟩
      have b5 : Below wr.heap.size wr W5 := by rw [hW5]; exact below_alloc _ _
      have HL : Bx (IR W5 (some ⟨wr.heap.size, 0, none⟩) [0]) := ⟨by rw [hW5]; exact lst_ir (by simp)⟩
      obtain ⟨a, ha⟩ : ∃ a, a = selTo (memB [0]) s := ⟨_, rfl⟩
      obtain ⟨ys, hy⟩ : ∃ ys, ys = evL s s s := ⟨_, rfl⟩
      have HOF1 : Bx (∀ B d W, IR W B [0] → Calls Tryz.prog 49 #[.int .i64 s, .slice B 1 d] W (GivesRh W s a)) := ⟨fun B d W h => by rw [ha]; exact l02Of_any s B d [0] W hs1 (by omega) h⟩
      have HEV : Bx (∀ W, Calls Tryz.prog 51 #[.int .i64 s, .int .i64 s, .int .i64 0] W (GivesRh W s ys)) := ⟨fun W => by rw [hy]; exact l06Even_any s s hs1 (by omega) (Nat.le_refl _) W⟩
      have HAT : Bx (rhOk s a = true ∧ rhOk s ys = true ∧ tilesB s a ys = true) := ⟨by rw [ha, hy]; exact all_tile HS.out⟩
      have R25 := Bx.mk (R2.out.below b5 (by omega))
      have R35 := Bx.mk (R3.out.below b5 (by omega))
      have HO5 := Bx.mk (HO.out.trans (Only.of_below _ b5))
      have hz5 : W0.heap.size ≤ W5.heap.size := by have := b5.size; omega
      clear b5 ha hy HC R2 R3 HO
      go_wp2_with fail
      rw [← hW5]
      clear hW5
      refine (HOF1.out _ _ _ (by exact HL.out)).mono ?_
      rintro e w6 ⟨A6, c6, rfl, io6, b6⟩
      have HA6 := Bx.mk io6.reads
      have HAG : Bx (∀ x, A6 = some x → W5.heap.size ≤ x.block) := ⟨fun x hx => io6.ge x hx⟩
      have R26 := Bx.mk (R25.out.below b6 (by omega))
      have R36 := Bx.mk (R35.out.below b6 (by omega))
      have HO6 := Bx.mk (HO5.out.trans (Only.of_below _ b6))
      have hz6 := b6.size
      clear io6 b6 R25 R35 HO5 HL HOF1
      go_wp2_with fail
      refine (HEV.out _).mono ?_
      rintro e w7 ⟨B7, c7, rfl, io7, b7⟩
      have HA7 := Bx.mk (HA6.out.below b7)
      have HB7 := Bx.mk io7.reads
      have HBG : Bx (∀ x, B7 = some x → w6.heap.size ≤ x.block) := ⟨fun x hx => io7.ge x hx⟩
      have R27 := R26.out.below b7 (by omega)
      have R37 := R36.out.below b7 (by omega)
      have HO7 := Bx.mk (HO6.out.trans (Only.of_below _ b7))
      have t20 := R27.at_ (i := 0) rfl
      have t21 := R27.at_ (i := 1) rfl
      have f20 := R27.frozen 0
      have f21 := R27.frozen 1
      have t30 := R37.at_ (i := 0) rfl
      have t31 := R37.at_ (i := 1) rfl
      have f30 := R37.frozen 0
      have f31 := R37.frozen 1
      have R27x := Bx.mk R27
      have R37x := Bx.mk R37
      clear io7 b7 R26 R36 HO6 HA6 R27 R37
      have HF2 := Bx.mk (Blk.setAt (i := 1) (Blk.setAt (i := 0) ((R27x.out.set 0 (.int .i64 s)).set 1 (.slice A6 a.length c6)) (.int .i64 s) (show g2 ≠ g3 by omega)) (.slice B7 ys.length c7) (show g2 ≠ g3 by omega))
      have HF3 := Bx.mk ((((R37x.out.setAt (i := 0) (.int .i64 s) (show g3 ≠ g2 by omega)).setAt (i := 1) (.slice A6 a.length c6) (show g3 ≠ g2 by omega)).set 0 (.int .i64 s)).set 1 (.slice B7 ys.length c7))
      have HOF := Bx.mk (only_set (only_set (only_set (only_set HO7.out hwg2 0 (.int .i64 s)) hwg2 1 (.slice A6 a.length c6)) (show w.heap.size ≤ g3 by omega) 0 (.int .i64 s)) (show w.heap.size ≤ g3 by omega) 1 (.slice B7 ys.length c7))
      have HAF := Bx.mk (((((HA7.out).setFar (g := g2) (i := 0) (v := .int .i64 s) (fun x hx => by have := HAG.out x hx; omega)).setFar (g := g2) (i := 1) (v := .slice A6 a.length c6) (fun x hx => by have := HAG.out x hx; omega)).setFar (g := g3) (i := 0) (v := .int .i64 s) (fun x hx => by have := HAG.out x hx; omega)).setFar (g := g3) (i := 1) (v := .slice B7 ys.length c7) (fun x hx => by have := HAG.out x hx; omega))
      have HBF := Bx.mk (((((HB7.out).setFar (g := g2) (i := 0) (v := .int .i64 s) (fun x hx => by have := HBG.out x hx; omega)).setFar (g := g2) (i := 1) (v := .slice A6 a.length c6) (fun x hx => by have := HBG.out x hx; omega)).setFar (g := g3) (i := 0) (v := .int .i64 s) (fun x hx => by have := HBG.out x hx; omega)).setFar (g := g3) (i := 1) (v := .slice B7 ys.length c7) (fun x hx => by have := HBG.out x hx; omega))
      go_wp2_with fail
      exact bodyPost_ret (v := .tuple #[.agg #[.int .i64 s, .slice A6 a.length c6], .agg #[.int .i64 s, .slice B7 ys.length c7]]) (by simp [results, Tryz.results23, go_sem, HF2.out.at_ (i := 0) rfl, HF2.out.at_ (i := 1) rfl, HF3.out.at_ (i := 0) rfl, HF3.out.at_ (i := 1) rfl]) rfl ⟨s, a, ys, A6, c6, B7, c7, HS.out, HAT, rfl, HAF.out, HBF.out, fun x hx => (by have := HAG.out x hx; omega), fun x hx => (by have := HBG.out x hx; omega), HOF.out⟩
def GivesTiles (w : World) (e : Ending) (w' : World) : Prop :=
  ∃ (s : Nat) (a b : List Int) (A1 : Option Addr) (c1 : Nat) (A2 : Option Addr) (c2 : Nat), tileSz s ∧ Bx (rhOk s a = true ∧ rhOk s b = true ∧ tilesB s a b = true) ∧ e = .returned (.tuple #[.agg #[.int .i64 s, .slice A1 a.length c1], .agg #[.int .i64 s, .slice A2 b.length c2]]) ∧ IR w' A1 a ∧ IR w' A2 b ∧ Below w.heap.size w w' ∧ (∀ x, A1 = some x → w.heap.size ≤ x.block) ∧ ∀ x, A2 = some x → w.heap.size ≤ x.block
set_option maxHeartbeats 4000000 in
theorem makeTile_any (A : Option Addr) (n c k : Nat) (w : World) (hk : k ≤ 1000) (hb : BR w A n) :
    Calls Tryz.prog 6 #[.slice A n c, .int .i64 k] w (GivesTiles w) := by
  obtain ⟨W0, hW0⟩ : ∃ W0, W0 = (w.alloc (.cells #[.int .i64 0, .slice none 0 0] 26)).alloc (.cells #[.int .i64 0, .slice none 0 0] 26) := ⟨_, rfl⟩
  have bw : Below w.heap.size w W0 := by rw [hW0]; exact (below_alloc _ _).alloc (by simp) _
  have hz : w.heap.size + 2 ≤ W0.heap.size := by rw [hW0]; simp
  have R2 : Blk W0 w.heap.size 26 #[.int .i64 0, .slice none 0 0] := by rw [hW0]; exact (Blk.new w 26 #[.int .i64 0, .slice none 0 0]).alloc (.cells #[.int .i64 0, .slice none 0 0] 26)
  have R3 : Blk W0 (w.heap.size + 1) 26 #[.int .i64 0, .slice none 0 0] := by rw [hW0]; have := Blk.new (w.alloc (.cells #[.int .i64 0, .slice none 0 0] 26)) 26 #[.int .i64 0, .slice none 0 0]; simpa using this
  obtain ⟨g2, hg2⟩ : ∃ g2, g2 = w.heap.size := ⟨_, rfl⟩
  obtain ⟨g3, hg3⟩ : ∃ g3, g3 = w.heap.size + 1 := ⟨_, rfl⟩
  rw [← hg2] at R2
  rw [← hg3] at R3
  have hg23 : g2 < g3 := by omega
  have hg30 : g3 < W0.heap.size := by omega
  have hwg2 : w.heap.size ≤ g2 := by omega
  have HB := Bx.mk (hb.below bw)
  have HR2 := Bx.mk R2
  have HR3 := Bx.mk R3
  clear hb R2 R3
  go_enter Tryz.func6, Tryz.ntmps6
  go_upto_region 1 with (fail)
  rw [← hW0, ← hg3, ← hg2]
  clear hW0 hg2 hg3
  go_wp2_with fail
  refine (l31New_any A n c k _ hk (by exact HB.out)).mono ?_
  rintro e w1 ⟨g, rfl, hg, hc, b1⟩
  have HC1 := Bx.mk hc
  have HR21 := Bx.mk (HR2.out.below b1 (by omega))
  have HR31 := Bx.mk (HR3.out.below b1 (by omega))
  have bw1 := bw.trans (b1.mono bw.size)
  clear hc b1 HR2 HR3
  go_wp2_with fail
  refine (l09Tile_any g A n c _ (by exact HC1.out)).mono ?_
  rintro e w2 ⟨s, a, b, A1, c1, A2, c2, hs, HP, rfl, h1, h2, hA1, hA2, o⟩
  have bw2 := bw1.trans (o.below bw1.size (fun x hx => by injection hx with hx; subst hx; simp; omega))
  have R2 := HR21.out.onlyAt o (by omega)
  have R3 := HR31.out.onlyAt o (by omega)
  have t20 := R2.at_ (i := 0) rfl
  have t21 := R2.at_ (i := 1) rfl
  have f20 := R2.frozen 0
  have f21 := R2.frozen 1
  have t30 := R3.at_ (i := 0) rfl
  have t31 := R3.at_ (i := 1) rfl
  have f30 := R3.frozen 0
  have f31 := R3.frozen 1
  have HF2 := Bx.mk (Blk.setAt (i := 1) (Blk.setAt (i := 0) ((R2.set 0 (.int .i64 s)).set 1 (.slice A1 a.length c1)) (.int .i64 s) (show g2 ≠ g3 by omega)) (.slice A2 b.length c2) (show g2 ≠ g3 by omega))
  have HF3 := Bx.mk ((((R3.setAt (i := 0) (.int .i64 s) (show g3 ≠ g2 by omega)).setAt (i := 1) (.slice A1 a.length c1) (show g3 ≠ g2 by omega)).set 0 (.int .i64 s)).set 1 (.slice A2 b.length c2))
  have HBF := Bx.mk ((((bw2.setCell (p := ⟨g2, 0, none⟩) hwg2 (.int .i64 s)).setCell (p := ⟨g2, 1, none⟩) hwg2 (.slice A1 a.length c1)).setCell (p := ⟨g3, 0, none⟩) (show w.heap.size ≤ g3 by omega) (.int .i64 s)).setCell (p := ⟨g3, 1, none⟩) (show w.heap.size ≤ g3 by omega) (.slice A2 b.length c2))
  have hz1 := HR21.out.lt
  have hz2 := HR31.out.lt
  have HAF := Bx.mk ((((h1.setFar (g := g2) (i := 0) (v := .int .i64 s) (fun x hx => by have := hA1 x hx; omega)).setFar (g := g2) (i := 1) (v := .slice A1 a.length c1) (fun x hx => by have := hA1 x hx; omega)).setFar (g := g3) (i := 0) (v := .int .i64 s) (fun x hx => by have := hA1 x hx; omega)).setFar (g := g3) (i := 1) (v := .slice A2 b.length c2) (fun x hx => by have := hA1 x hx; omega))
  have HAG := Bx.mk ((((h2.setFar (g := g2) (i := 0) (v := .int .i64 s) (fun x hx => by have := hA2 x hx; omega)).setFar (g := g2) (i := 1) (v := .slice A1 a.length c1) (fun x hx => by have := hA2 x hx; omega)).setFar (g := g3) (i := 0) (v := .int .i64 s) (fun x hx => by have := hA2 x hx; omega)).setFar (g := g3) (i := 1) (v := .slice A2 b.length c2) (fun x hx => by have := hA2 x hx; omega))
  have HLA : Bx ((∀ x, A1 = some x → w.heap.size ≤ x.block) ∧ ∀ x, A2 = some x → w.heap.size ≤ x.block) := ⟨fun x hx => by have := hA1 x hx; have := bw1.size; omega, fun x hx => by have := hA2 x hx; have := bw1.size; omega⟩
  have HS := Bx.mk hs
  clear hs hA1 hA2 h1 h2 bw2 R2 R3 HR21 HR31 o
  go_wp2_with fail
  exact bodyPost_ret (v := .tuple #[.agg #[.int .i64 s, .slice A1 a.length c1], .agg #[.int .i64 s, .slice A2 b.length c2]]) (by simp [results, Tryz.results6, go_sem, HF2.out.at_ (i := 0) rfl, HF2.out.at_ (i := 1) rfl, HF3.out.at_ (i := 0) rfl, HF3.out.at_ (i := 1) rfl]) rfl ⟨s, a, b, A1, c1, A2, c2, HS.out, HP, rfl, HAF.out, HAG.out, HBF.out, HLA.out.1, HLA.out.2⟩
end Go.Proofs.YtikifkbgmniobaaGreat
