/- The law's helpers on canons: copy, size, compare. -/
import Derived.Test.YtmgemafkaddfjaaLawRh
import Derived.Test.YtmgemafkaddfjaaObjs
import Derived.Test.YtmgemafkaddfjaaSum
namespace Go.Proofs.Ytmgemafkaddfjaa
open Go.RowKit

def GivesCn (w : World) (s t : Int) (xs ys : List Int) (e : Ending) (w' : World) : Prop :=
  ∃ A c B d mid, e = .returned (.agg #[.int .i64 s, .slice A xs.length c, .int .i64 t, .slice B ys.length d]) ∧ (w.heap.size ≤ mid ∧ mid ≤ w'.heap.size) ∧ OB w.heap.size mid w' A c xs ∧ OB mid w'.heap.size w' B d ys ∧ Below w.heap.size w w'
theorem Blk.setAt {w : World} {g g' i : Nat} {t : TypeId} {cs : Array Value} (h : Blk w g t cs) (u : Value) (hne : g ≠ g') : Blk (w.setCell ⟨g', i, none⟩ u) g t cs := (Below.heap_setCell w ⟨g', i, none⟩ u g hne).trans h
theorem OB.low {lo hi c : Nat} {w : World} {A : Option Addr} {xs : List Int} (h : OB lo hi w A c xs) {p : Addr} (hp : p.block < lo) (u : Value) : OB lo hi (w.setCell p u) A c xs := ⟨h.1.setLow hp u, h.2⟩
theorem OB.mono0 {lo lo' hi c : Nat} {w : World} {A : Option Addr} {xs : List Int} (h : OB lo hi w A c xs) (hl : lo' ≤ lo) : OB lo' hi w A c xs := ⟨h.1.mono hl, h.2⟩
theorem OB.monoHi {lo hi hi' c : Nat} {w : World} {A : Option Addr} {xs : List Int} (h : OB lo hi w A c xs) (hl : hi ≤ hi') : OB lo hi' w A c xs := ⟨h.1, fun x hx => Nat.lt_of_lt_of_le (h.2 x hx) hl⟩
set_option maxHeartbeats 1000000 in
theorem toCanon_any (s t : Int) (A B : Option Addr) (c d : Nat) (xs ys : List Int) (w : World) (hx : IR w A xs) (hy : IR w B ys) :
    Calls Try.prog 17 #[.agg #[.int .i64 s, .slice A xs.length c, .int .i64 t, .slice B ys.length d]] w (GivesCn w s t xs ys) := by
  obtain ⟨W0, hW0⟩ : ∃ W0, W0 = ((w.alloc (.cells #[.int .i64 s, .slice A xs.length c, .int .i64 t, .slice B ys.length d] 26)).alloc (.cells #[.int .i64 0, .slice none 0 0, .int .i64 0, .slice none 0 0] 31)).alloc (.cells #[.int .i64 0, .slice none 0 0, .int .i64 0, .slice none 0 0] 31) := ⟨_, rfl⟩
  have bw : Below w.heap.size w W0 := by rw [hW0]; exact ((below_alloc _ _).alloc (by simp) _).alloc (by simp <;> omega) _
  have hz : W0.heap.size = w.heap.size + 3 := by rw [hW0]; simp
  have P0 : Blk W0 w.heap.size 26 #[.int .i64 s, .slice A xs.length c, .int .i64 t, .slice B ys.length d] := by rw [hW0]; exact ((Blk.new w _ _).alloc _).alloc _
  have R0 : Blk W0 (w.heap.size + 1) 31 #[.int .i64 0, .slice none 0 0, .int .i64 0, .slice none 0 0] := by rw [hW0]; have := (Blk.new (w.alloc (.cells #[.int .i64 s, .slice A xs.length c, .int .i64 t, .slice B ys.length d] 26)) 31 #[.int .i64 0, .slice none 0 0, .int .i64 0, .slice none 0 0]).alloc (.cells #[.int .i64 0, .slice none 0 0, .int .i64 0, .slice none 0 0] 31); simpa using this
  have G0 : Blk W0 (w.heap.size + 1 + 1) 31 #[.int .i64 0, .slice none 0 0, .int .i64 0, .slice none 0 0] := by rw [hW0]; have := Blk.new ((w.alloc (.cells #[.int .i64 s, .slice A xs.length c, .int .i64 t, .slice B ys.length d] 26)).alloc (.cells #[.int .i64 0, .slice none 0 0, .int .i64 0, .slice none 0 0] 31)) 31 #[.int .i64 0, .slice none 0 0, .int .i64 0, .slice none 0 0]; simpa using this
  have HX := Bx.mk (hx.below bw)
  have HY := Bx.mk ((RB.of_ir hy).below bw (Nat.le_refl _))
  clear hx hy
  go_enter Try.func17, Try.ntmps17
  go_wp2_with fail
  rw [← hW0]
  clear hW0
  refine (toRhythm_any _ _ _ _ _ (by exact HX.out)).mono ?_
  rintro e w1 ⟨A1, c1, rfl, io1, b1⟩
  have bw1 := bw.trans (b1.mono bw.size)
  have hz1 := b1.size
  replace P0 := P0.below b1 (by omega)
  replace R0 := R0.below b1 (by omega)
  replace G0 := G0.below b1 (by omega)
  replace HY := Bx.mk (HY.out.below b1 (by omega))
  have G1 := (G0.set 0 (.int .i64 s)).set 1 (.slice A1 xs.length c1)
  have P1 := P0.setAt (g' := w.heap.size + 1 + 1) (i := 0) (.int .i64 s) (by omega)
  replace P1 := P1.setAt (g' := w.heap.size + 1 + 1) (i := 1) (.slice A1 xs.length c1) (by omega)
  have R1 := R0.setAt (g' := w.heap.size + 1 + 1) (i := 0) (.int .i64 s) (by omega)
  replace R1 := R1.setAt (g' := w.heap.size + 1 + 1) (i := 1) (.slice A1 xs.length c1) (by omega)
  have ho1 := ((Only.refl w1 (some ⟨w.heap.size + 1 + 1, 0, none⟩)).set (i := 0) (.int .i64 s)).set (i := 1) (.slice A1 xs.length c1)
  have HY1 := Bx.mk (IR.onlyAt HY.out ho1 (by omega))
  have bw2 := (bw1.setCell (p := ⟨w.heap.size + 1 + 1, 0, none⟩) (show w.heap.size ≤ w.heap.size + 1 + 1 by omega) (.int .i64 s)).setCell (p := ⟨w.heap.size + 1 + 1, 1, none⟩) (show w.heap.size ≤ w.heap.size + 1 + 1 by omega) (.slice A1 xs.length c1)
  have io2 := (io1.setLow (p := ⟨w.heap.size + 1 + 1, 0, none⟩) (show w.heap.size + 1 + 1 < W0.heap.size by omega) (.int .i64 s)).setLow (p := ⟨w.heap.size + 1 + 1, 1, none⟩) (show w.heap.size + 1 + 1 < W0.heap.size by omega) (.slice A1 xs.length c1)
  have cg0 := G0.at_ (i := 0) rfl
  have cg1 := G0.at_ (i := 1) rfl
  have fg0 := G0.frozen 0
  have fg1 := G0.frozen 1
  have cp0 := P0.at_ (i := 2) rfl
  have cp1 := P0.at_ (i := 3) rfl
  clear G0 P0 R0
  go_wp2_with fail
  obtain ⟨W2, hW2⟩ : ∃ W2, W2 = (w1.setCell ⟨w.heap.size + 1 + 1, 0, none⟩ (.int .i64 s)).setCell ⟨w.heap.size + 1 + 1, 1, none⟩ (.slice A1 xs.length c1) := ⟨_, rfl⟩
  have hz2 : W2.heap.size = w1.heap.size := by rw [hW2]; simp
  rw [← hW2] at G1 P1 R1 HY1 bw2 io2
  rw [← hW2]
  clear hW2 cg0 cg1 fg0 fg1 cp0 cp1 ho1 HY bw1 io1 b1
  refine (toRhythm_any _ _ _ _ _ (by exact HY1.out)).mono ?_
  rintro e w2 ⟨B2, d2, rfl, io3, b2⟩
  have bw3 := bw2.trans (b2.mono bw2.size)
  have o1 := (OB.of io2 (Nat.le_refl _)).below b2 (Nat.le_refl _)
  have hz3 := b2.size
  have R2 := R1.below b2 (by omega)
  have G2 := G1.below b2 (by omega)
  clear R1 G1 P1 HY1 bw2 io2 b2
  have cg0 := G2.at_ (i := 0) rfl
  have cg1 := G2.at_ (i := 1) rfl
  have cg2 := G2.at_ (i := 2) rfl
  have cg3 := G2.at_ (i := 3) rfl
  have fg2 := G2.frozen 2
  have fg3 := G2.frozen 3
  have cr0 := R2.at_ (i := 0) rfl
  have cr1 := R2.at_ (i := 1) rfl
  have cr2 := R2.at_ (i := 2) rfl
  have cr3 := R2.at_ (i := 3) rfl
  have fr0 := R2.frozen 0
  have fr1 := R2.frozen 1
  have fr2 := R2.frozen 2
  have fr3 := R2.frozen 3
  have RF := Bx.mk ((((((R2.setAt (g' := w.heap.size + 1 + 1) (i := 2) (.int .i64 t) (by omega)).setAt (g' := w.heap.size + 1 + 1) (i := 3) (.slice B2 ys.length d2) (by omega)).set 0 (.int .i64 s)).set 1 (.slice A1 xs.length c1)).set 2 (.int .i64 t)).set 3 (.slice B2 ys.length d2))
  have o3 := OB.of io3 (Nat.le_refl _)
  have hbl : w.heap.size + 1 + 1 < W0.heap.size := by omega
  have hbl2 : w.heap.size + 1 + 1 < W2.heap.size := by omega
  have O1 := Bx.mk ((((((o1.low (p := ⟨w.heap.size + 1 + 1, 2, none⟩) (show w.heap.size + 1 + 1 < W0.heap.size by omega) (.int .i64 t)).low (p := ⟨w.heap.size + 1 + 1, 3, none⟩) (show w.heap.size + 1 + 1 < W0.heap.size by omega) (.slice B2 ys.length d2)).low (p := ⟨w.heap.size + 1, 0, none⟩) (show w.heap.size + 1 < W0.heap.size by omega) (.int .i64 s)).low (p := ⟨w.heap.size + 1, 1, none⟩) (show w.heap.size + 1 < W0.heap.size by omega) (.slice A1 xs.length c1)).low (p := ⟨w.heap.size + 1, 2, none⟩) (show w.heap.size + 1 < W0.heap.size by omega) (.int .i64 t)).low (p := ⟨w.heap.size + 1, 3, none⟩) (show w.heap.size + 1 < W0.heap.size by omega) (.slice B2 ys.length d2))
  have O3 := Bx.mk ((((((o3.low (p := ⟨w.heap.size + 1 + 1, 2, none⟩) (show w.heap.size + 1 + 1 < W2.heap.size by omega) (.int .i64 t)).low (p := ⟨w.heap.size + 1 + 1, 3, none⟩) (show w.heap.size + 1 + 1 < W2.heap.size by omega) (.slice B2 ys.length d2)).low (p := ⟨w.heap.size + 1, 0, none⟩) (show w.heap.size + 1 < W2.heap.size by omega) (.int .i64 s)).low (p := ⟨w.heap.size + 1, 1, none⟩) (show w.heap.size + 1 < W2.heap.size by omega) (.slice A1 xs.length c1)).low (p := ⟨w.heap.size + 1, 2, none⟩) (show w.heap.size + 1 < W2.heap.size by omega) (.int .i64 t)).low (p := ⟨w.heap.size + 1, 3, none⟩) (show w.heap.size + 1 < W2.heap.size by omega) (.slice B2 ys.length d2))
  have BF := Bx.mk ((((((bw3.setCell (p := ⟨w.heap.size + 1 + 1, 2, none⟩) (show w.heap.size ≤ w.heap.size + 1 + 1 by omega) (.int .i64 t)).setCell (p := ⟨w.heap.size + 1 + 1, 3, none⟩) (show w.heap.size ≤ w.heap.size + 1 + 1 by omega) (.slice B2 ys.length d2)).setCell (p := ⟨w.heap.size + 1, 0, none⟩) (show w.heap.size ≤ w.heap.size + 1 by omega) (.int .i64 s)).setCell (p := ⟨w.heap.size + 1, 1, none⟩) (show w.heap.size ≤ w.heap.size + 1 by omega) (.slice A1 xs.length c1)).setCell (p := ⟨w.heap.size + 1, 2, none⟩) (show w.heap.size ≤ w.heap.size + 1 by omega) (.int .i64 t)).setCell (p := ⟨w.heap.size + 1, 3, none⟩) (show w.heap.size ≤ w.heap.size + 1 by omega) (.slice B2 ys.length d2))
  clear R2 G2 o1 o3 io3 bw3
  go_wp2_with fail
  refine bodyPost_ret (v := .agg #[.int .i64 s, .slice A1 xs.length c1, .int .i64 t, .slice B2 ys.length d2]) (by simp [results, Try.results17, go_sem, RF.out.at_ (i := 0) rfl, RF.out.at_ (i := 1) rfl, RF.out.at_ (i := 2) rfl, RF.out.at_ (i := 3) rfl]) rfl ⟨A1, c1, B2, d2, W2.heap.size, rfl, ⟨by omega, by simp; omega⟩, O1.out.mono0 (by omega), O3.out.monoHi (by simp), BF.out⟩
set_option maxHeartbeats 1000000 in
theorem szCanon_yes (s t : Int) (A B : Option Addr) (c d : Nat) (n m : Nat) (hn : n ≤ maxLen) (hm : m ≤ maxLen) (L : Int) (hL : 0 ≤ L ∧ L ≤ 1048576) (h : (n : Int) + (m : Int) ≤ L) (w : World) :
    Calls Try.prog 15 #[.agg #[.int .i64 s, .slice A n c, .int .i64 t, .slice B m d], .int .i64 L] w fun e w' => e = .returned (.int .i64 (L - (n : Int) - (m : Int))) ∧ Below w.heap.size w w' := by
  have hW := below_alloc w (.cells #[.int .i64 s, .slice A n c, .int .i64 t, .slice B m d] 26)
  have P0 := Blk.new w 26 #[.int .i64 s, .slice A n c, .int .i64 t, .slice B m d]
  have hz : w.heap.size + 1 ≤ (w.alloc (.cells #[.int .i64 s, .slice A n c, .int .i64 t, .slice B m d] 26)).heap.size := by simp
  go_enter Try.func15, Try.ntmps15
  go_wp2_with fail
  refine (szRhythm_yes _ _ _ _ hn _ hL (by omega) _).mono ?_
  rintro e w1 ⟨rfl, b⟩
  replace P0 := P0.below b (by omega)
  replace hW := hW.trans (b.mono hW.size)
  have cp0 := P0.at_ (i := 2) rfl
  have cp1 := P0.at_ (i := 3) rfl
  clear b P0
  go_wp2_with fail
  refine (szRhythm_yes _ _ _ _ hm _ (by omega) (by omega) _).mono ?_
  rintro e w2 ⟨rfl, b⟩
  go_wp2_with fail
  go_ret
  exact ⟨rfl, hW.trans (b.mono hW.size)⟩
set_option maxHeartbeats 1000000 in
theorem szCanon_no (s t : Int) (A B : Option Addr) (c d : Nat) (n m : Nat) (hn : n ≤ maxLen) (hm : m ≤ maxLen) (L : Int) (hL : 0 ≤ L ∧ L ≤ 1048576) (h : L < (n : Int) + (m : Int)) (w : World) :
    Calls Try.prog 15 #[.agg #[.int .i64 s, .slice A n c, .int .i64 t, .slice B m d], .int .i64 L] w fun e w' => e = .returned (.int .i64 (-1)) ∧ Below w.heap.size w w' := by
  have hW := below_alloc w (.cells #[.int .i64 s, .slice A n c, .int .i64 t, .slice B m d] 26)
  have P0 := Blk.new w 26 #[.int .i64 s, .slice A n c, .int .i64 t, .slice B m d]
  have hz : w.heap.size + 1 ≤ (w.alloc (.cells #[.int .i64 s, .slice A n c, .int .i64 t, .slice B m d] 26)).heap.size := by simp
  by_cases h1 : (n : Int) ≤ L
  · go_enter Try.func15, Try.ntmps15
    go_wp2_with fail
    refine (szRhythm_yes _ _ _ _ hn _ hL h1 _).mono ?_
    rintro e w1 ⟨rfl, b⟩
    replace P0 := P0.below b (by omega)
    replace hW := hW.trans (b.mono hW.size)
    have cp0 := P0.at_ (i := 2) rfl
    have cp1 := P0.at_ (i := 3) rfl
    clear b P0
    go_wp2_with fail
    refine (szRhythm_no _ _ _ _ hm _ (by omega) (by omega) _).mono ?_
    rintro e w2 ⟨rfl, b⟩
    go_wp2_with fail
    go_ret
    exact ⟨rfl, hW.trans (b.mono hW.size)⟩
  · go_enter Try.func15, Try.ntmps15
    go_wp2_with fail
    refine (szRhythm_no _ _ _ _ hn _ hL (by omega) _).mono ?_
    rintro e w1 ⟨rfl, b⟩
    go_wp2_with fail
    go_ret
    exact ⟨rfl, hW.trans (b.mono hW.size)⟩
set_option maxHeartbeats 1000000 in
theorem eqCanon_same (s t : Int) (A B A' B' : Option Addr) (c d c' d' : Nat) (xs ys : List Int) (w : World) (h1 : IR w A xs) (h2 : IR w B ys) (h3 : IR w A' xs) (h4 : IR w B' ys) :
    Calls Try.prog 19 #[.agg #[.int .i64 s, .slice A xs.length c, .int .i64 t, .slice B ys.length d], .agg #[.int .i64 s, .slice A' xs.length c', .int .i64 t, .slice B' ys.length d']] w fun e w' => e = .returned (.bool true) ∧ Below w.heap.size w w' := by
  obtain ⟨W0, hW0⟩ : ∃ W0, W0 = (w.alloc (.cells #[.int .i64 s, .slice A xs.length c, .int .i64 t, .slice B ys.length d] 31)).alloc (.cells #[.int .i64 s, .slice A' xs.length c', .int .i64 t, .slice B' ys.length d'] 31) := ⟨_, rfl⟩
  have bw : Below w.heap.size w W0 := by rw [hW0]; exact (below_alloc _ _).alloc (by simp) _
  have hz : w.heap.size + 2 ≤ W0.heap.size := by rw [hW0]; simp
  have P0 : Blk W0 w.heap.size 31 #[.int .i64 s, .slice A xs.length c, .int .i64 t, .slice B ys.length d] := by rw [hW0]; exact (Blk.new w _ _).alloc _
  have Q0 : Blk W0 (w.heap.size + 1) 31 #[.int .i64 s, .slice A' xs.length c', .int .i64 t, .slice B' ys.length d'] := by rw [hW0]; have := Blk.new (w.alloc (.cells #[.int .i64 s, .slice A xs.length c, .int .i64 t, .slice B ys.length d] 31)) 31 #[.int .i64 s, .slice A' xs.length c', .int .i64 t, .slice B' ys.length d']; simpa using this
  have H1 := Bx.mk (h1.below bw)
  have H2 := Bx.mk (h2.below bw)
  have H3 := Bx.mk (h3.below bw)
  have H4 := Bx.mk (h4.below bw)
  clear h1 h2 h3 h4
  go_enter Try.func19, Try.ntmps19
  go_wp2_with fail
  rw [← hW0]
  clear hW0
  refine (eqRhythm_any _ _ _ _ _ _ _ _ _ (by exact H1.out) (by exact H3.out)).mono ?_
  rintro e w1 ⟨rfl, b⟩
  replace P0 := P0.below b (by omega)
  replace Q0 := Q0.below b (by omega)
  replace H2 := Bx.mk (H2.out.below b)
  replace H4 := Bx.mk (H4.out.below b)
  replace bw := bw.trans (b.mono bw.size)
  have cp0 := P0.at_ (i := 2) rfl
  have cp1 := P0.at_ (i := 3) rfl
  have cq0 := Q0.at_ (i := 2) rfl
  have cq1 := Q0.at_ (i := 3) rfl
  clear b P0 Q0
  go_wp2_with fail
  refine (eqRhythm_any _ _ _ _ _ _ _ _ _ (by exact H2.out) (by exact H4.out)).mono ?_
  rintro e w2 ⟨rfl, b⟩
  go_wp2_with fail
  go_ret
  exact ⟨rfl, bw.trans (b.mono bw.size)⟩
end Go.Proofs.Ytmgemafkaddfjaa
