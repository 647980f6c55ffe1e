/- Generated rhythms: the program's and the reference's. -/
import Derived.Test.YtpejnhcmelkmeaaGenPlain
import Derived.Test.YtpejnhcmelkmeaaRts
import Derived.Test.YtpejnhcmelkmeaaBas
namespace Go.Proofs.Ytpejnhcmelkmeaa
open Go.RowKit

def gI (g : Int) (k : Nat) : List Int := (List.range k).map fun (i : Nat) => (i : Int) * g
theorem gI_len (g : Int) (k : Nat) : (gI g k).length = k := by simp [gI]
theorem gI_succ (g : Int) (k : Nat) : gI g (k + 1) = gI g k ++ [(k : Int) * g] := by simp [gI, List.range_succ]
theorem gI_mod (n g : Int) (k : Nat) : modL n (gI g k) = gL n g k := by
  unfold modL gI gL
  rw [List.map_map]; rfl
theorem mul_bd {a b : Nat} (ha : a ≤ 24) (hb : b ≤ 24) : a * b ≤ 576 := by
  have := Nat.mul_le_mul ha hb
  omega
theorem gI_bd {g k : Nat} (hg : g ≤ 24) (hk : k ≤ 24) : ∀ x ∈ gI (g : Int) k, -1000000000000 ≤ x ∧ x ≤ 1000000000000 := by
  intro x hx
  unfold gI at hx
  obtain ⟨i, hi, rfl⟩ := List.mem_map.1 hx
  rw [List.mem_range] at hi
  have h1 := mul_bd (show i ≤ 24 by omega) hg
  have h2 : (i : Int) * (g : Int) = ((i * g : Nat) : Int) := by simp
  rw [h2]
  omega
theorem GivesRB.gno {w w' : World} {n k g : Int} (h : genOk n k g = false) (hb : Below w.heap.size w w') : GivesRB w (genS n k g) (genL n k g) (genOk n k g) (.returned (.tuple #[.agg #[.int .i64 0, .slice none 0 0], .bool false])) w' := by
  have h1 : genS n k g = 0 := by simp [genS, h]
  have h2 : genL n k g = [] := by simp [genL, h]
  rw [h1, h2, h]
  exact ⟨none, 0, rfl, IO.nil _ _, hb⟩
theorem GivesRB.gyes {w w' : World} {n k g : Int} {A : Option Addr} {c : Nat} {L : List Int} (h : genOk n k g = true) (hL : genL n k g = L) (io : IO w' w.heap.size A c L) (hb : Below w.heap.size w w') : GivesRB w (genS n k g) (genL n k g) (genOk n k g) (.returned (.tuple #[.agg #[.int .i64 n, .slice A L.length c], .bool true])) w' := by
  have h1 : genS n k g = n := by simp [genS, h]
  rw [h1, hL, h]
  exact ⟨A, c, rfl, io, hb⟩
theorem genOk_in {n k g : Nat} (hn1 : 1 ≤ n) (hn : n ≤ 24) (hk : k ≤ n) (hg1 : 1 ≤ g) (hg : g ≤ n) : genOk n k g = genFresh n g k := by
  unfold genOk
  rw [Int.toNat_natCast, show decide (1 ≤ (n : Int) ∧ (n : Int) ≤ 24 ∧ 0 ≤ (k : Int) ∧ (k : Int) ≤ n ∧ 1 ≤ (g : Int) ∧ (g : Int) ≤ n) = true by simp; omega]
  rfl
theorem genL_in {n k g : Nat} (h : genOk n k g = true) : genL n k g = coll (gL n g k) := by
  unfold genL
  rw [if_pos h, Int.toNat_natCast]
theorem genOk_out {n k g : Int} (h : ¬ (1 ≤ n ∧ n ≤ 24 ∧ 0 ≤ k ∧ k ≤ n ∧ 1 ≤ g ∧ g ≤ n)) : genOk n k g = false := by
  unfold genOk
  rw [show decide (1 ≤ n ∧ n ≤ 24 ∧ 0 ≤ k ∧ k ≤ n ∧ 1 ≤ g ∧ g ≤ n) = false from decide_eq_false h]; rfl
set_option maxHeartbeats 2000000 in
theorem implGen_in (n k g : Nat) (hn1 : 1 ≤ n) (hn : n ≤ 24) (hk : k ≤ n) (hg1 : 1 ≤ g) (hg : g ≤ n) (w : World) :
    Calls Try.prog 5 #[.int .i64 n, .int .i64 k, .int .i64 g] w (GivesRB w (genS n k g) (genL n k g) (genOk n k g)) := by
  have i1 : inB n 1 24 = true := inB_yes (by omega)
  have i2 : inB k 0 n = true := inB_yes (by omega)
  have i3 : inB g 1 n = true := inB_yes (by omega)
  obtain ⟨W0, hW0⟩ : ∃ W0, W0 = w.alloc (.cells #[.int .i64 0, .slice none 0 0] 26) := ⟨_, rfl⟩
  have bw : Below w.heap.size w W0 := by rw [hW0]; exact below_alloc _ _
  have hz : w.heap.size < W0.heap.size := by rw [hW0]; simp
  have R0 : Blk W0 w.heap.size 26 #[.int .i64 0, .slice none 0 0] := by rw [hW0]; exact Blk.new w _ _
  go_enter Try.func5, Try.ntmps5
  go_wp2_with fail
  rw [← hW0]
  clear hW0
  go_wp2_with (go_at_call 25; refine (within_any _ _ _ _).mono ?_; rintro e w' ⟨rfl, rfl⟩)
  clear i1 i2 i3
  go_loopw [8, 28] (fun v i wr => ∃ j : Nat, j ≤ k ∧ i = .int .i64 j ∧ Row wr W0.heap.size v (gI g j) ∧ Below W0.heap.size W0 wr) (fun _ i _ => k - (intOf i).toNat)
  case atStart => exact ⟨0, by omega, rfl, Row.nil _ _, Below.refl _ _⟩
  case round =>
    obtain ⟨j, hj, rfl, hrow, hbb⟩ := hrel
    have hlen : (gI g j).length ≤ 24 := by rw [gI_len]; omega
    have hzr := hbb.size
    by_cases hlt : j < k
    · have hji : (j : Int) < (k : Int) := by omega
      obtain ⟨m, hm⟩ : ∃ m : Nat, m = j * g := ⟨_, rfl⟩
      have hmb : m ≤ 576 := by rw [hm]; exact mul_bd (by omega) (by omega)
      have hmi : (j : Int) * (g : Int) = (m : Int) := by rw [hm]; simp
      have hwm : IntKind.i64.wrap ((j : Int) * (g : Int)) = (m : Int) := by rw [hmi]; exact IntWalk.i64_in _ (by omega)
      have HN : Bx (gI g (j + 1) = gI g j ++ [(m : Int)]) := ⟨by rw [gI_succ, hmi]⟩
      have HO := Bx.mk hrow
      have HB := Bx.mk hbb
      clear hrow hbb hm
      go_wp2_with (at_builtin; go_must (refine wpList_app1 rfl _ _ rfl W0.heap.size _ (gI g j) (m : Int) rfl rfl (by exact HO.out) (by omega) (by exact hzr) ?_); intro v1 w4 hown1 hb1)
      have R := Bx.mk (And.intro hown1 (HB.out.trans hb1))
      clear hown1 hb1
      go_wp2_with fail
      go_roundw
      case rel => exact ⟨j + 1, by omega, by go_num, by rw [HN.out]; exact R.out.1, R.out.2⟩
      case measure => simp [intOf]; omega
    · have hke : j = k := by omega
      subst hke
      obtain ⟨A1, c1, rfl, io1⟩ := hrow.io (by omega)
      have HI := Bx.mk io1.reads
      have HB := Bx.mk hbb
      have HG := Bx.mk (gI_bd (g := g) (k := j) (by omega) (by omega))
      replace R0 := R0.below hbb hz
      have hs12 : 1 ≤ (n : Int) ∧ (n : Int) ≤ 24 := ⟨by omega, by omega⟩
      clear hrow io1 hbb
      go_wp2_with fail
      refine (rhythmOf_any _ _ _ _ _ hs12 HG.out (by omega) HI.out).mono ?_
      rintro e w2 ⟨A2, c2, rfl, io, b⟩
      rw [gI_mod] at io ⊢
      obtain ⟨L, hL⟩ : ∃ L, L = coll (gL n g j) := ⟨_, rfl⟩
      rw [← hL] at io ⊢
      have HF : Bx (genOk n j g = decide (¬ ((L.length : Int) < (j : Int)))) := ⟨by rw [genOk_in hn1 hn hk hg1 hg, genFresh_iff, hL]⟩
      have HL := Bx.mk hL
      clear hL HG HI
      obtain ⟨W3, hW3⟩ : ∃ W3, W3 = w2.alloc (.cells #[.int .i64 n, .slice A2 L.length c2] 26) := ⟨_, rfl⟩
      have b3 : Below w2.heap.size w2 W3 := by rw [hW3]; exact below_alloc _ _
      have hN3 : Blk W3 w2.heap.size 26 #[.int .i64 n, .slice A2 L.length c2] := by rw [hW3]; exact Blk.new w2 26 #[.int .i64 n, .slice A2 L.length c2]
      have bs := b.size
      replace R0 := R0.below b (by omega)
      replace R0 := R0.below b3 (by omega)
      have IO3 := io.below b3 (Nat.le_refl _)
      have hw3 := b3.size
      have bw3 : Below w.heap.size w W3 := ((bw.trans (HB.out.mono bw.size)).trans (b.mono (by omega))).trans (b3.mono (by omega))
      have n0 := hN3.at_ (i := 0) rfl
      have n1 := hN3.at_ (i := 1) rfl
      by_cases hfail : (L.length : Int) < (j : Int)
      · have HNO : Bx (genOk n j g = false) := ⟨by rw [HF.out]; simp; omega⟩
        have cr0 := R0.at_ (i := 0) rfl
        have cr1 := R0.at_ (i := 1) rfl
        have fr0 := R0.frozen 0
        have fr1 := R0.frozen 1
        have RF := Bx.mk ((R0.set 0 (.int .i64 0)).set 1 (.slice none 0 0))
        have BF := Bx.mk ((bw3.setCell (p := ⟨w.heap.size, 0, none⟩) (show w.heap.size ≤ w.heap.size by omega) (.int .i64 0)).setCell (p := ⟨w.heap.size, 1, none⟩) (show w.heap.size ≤ w.heap.size by omega) (.slice none 0 0))
        clear R0 io b b3 hN3 bw3 IO3
        subst hW3
        go_wp2_with fail
        refine bodyPost_ret (v := .tuple #[.agg #[.int .i64 0, .slice none 0 0], .bool false]) (by simp [results, Try.results5, go_sem, RF.out.at_ (i := 0) rfl, RF.out.at_ (i := 1) rfl]) rfl (GivesRB.gno HNO.out BF.out)
      · have HYES : Bx (genOk n j g = true) := ⟨by rw [HF.out]; simp; omega⟩
        have HLL : Bx (genL n j g = L) := ⟨by rw [genL_in HYES.out, HL.out]⟩
        have cr0 := R0.at_ (i := 0) rfl
        have cr1 := R0.at_ (i := 1) rfl
        have fr0 := R0.frozen 0
        have fr1 := R0.frozen 1
        have RF := Bx.mk ((R0.set 0 (.int .i64 n)).set 1 (.slice A2 L.length c2))
        have BF := Bx.mk ((bw3.setCell (p := ⟨w.heap.size, 0, none⟩) (show w.heap.size ≤ w.heap.size by omega) (.int .i64 n)).setCell (p := ⟨w.heap.size, 1, none⟩) (show w.heap.size ≤ w.heap.size by omega) (.slice A2 L.length c2))
        have HIO := Bx.mk (((IO3.setLow (p := ⟨w.heap.size, 0, none⟩) (show w.heap.size < wr.heap.size by omega) (.int .i64 n)).setLow (p := ⟨w.heap.size, 1, none⟩) (show w.heap.size < wr.heap.size by omega) (.slice A2 L.length c2)).mono (show w.heap.size ≤ wr.heap.size by omega))
        clear R0 io b b3 hN3 bw3 IO3
        subst hW3
        go_wp2_with fail
        refine bodyPost_ret (v := .tuple #[.agg #[.int .i64 n, .slice A2 L.length c2], .bool true]) (by simp [results, Try.results5, go_sem, RF.out.at_ (i := 0) rfl, RF.out.at_ (i := 1) rfl]) rfl (GivesRB.gyes HYES.out HLL.out HIO.out BF.out)
set_option maxHeartbeats 1000000 in
theorem implGen_any (n k g : Int) (w : World) :
    Calls Try.prog 5 #[.int .i64 n, .int .i64 k, .int .i64 g] w (GivesRB w (genS n k g) (genL n k g) (genOk n k g)) := by
  by_cases h1 : inB n 1 24 = true
  · have b1 := inB_iff.1 h1
    by_cases h2 : inB k 0 n = true
    · have b2 := inB_iff.1 h2
      by_cases h3 : inB g 1 n = true
      · have b3 := inB_iff.1 h3
        obtain ⟨n', rfl⟩ := Int.eq_ofNat_of_zero_le (show 0 ≤ n by omega)
        obtain ⟨k', rfl⟩ := Int.eq_ofNat_of_zero_le (show 0 ≤ k by omega)
        obtain ⟨g', rfl⟩ := Int.eq_ofNat_of_zero_le (show 0 ≤ g by omega)
        exact implGen_in n' k' g' (by omega) (by omega) (by omega) (by omega) (by omega) w
      · have HN : Bx (genOk n k g = false) := ⟨genOk_out (by rw [inB_iff] at h3; omega)⟩
        rw [Bool.not_eq_true] at h3
        obtain ⟨W0, hW0⟩ : ∃ W0, W0 = w.alloc (.cells #[.int .i64 0, .slice none 0 0] 26) := ⟨_, rfl⟩
        have bw : Below w.heap.size w W0 := by rw [hW0]; exact below_alloc _ _
        have hz : w.heap.size < W0.heap.size := by rw [hW0]; simp
        have R0 : Blk W0 w.heap.size 26 #[.int .i64 0, .slice none 0 0] := by rw [hW0]; exact Blk.new w _ _
        go_enter Try.func5, Try.ntmps5
        go_wp2_with fail
        rw [← hW0]
        clear hW0
        have cr0 := R0.at_ (i := 0) rfl
        have cr1 := R0.at_ (i := 1) rfl
        have fr0 := R0.frozen 0
        have fr1 := R0.frozen 1
        have RF := Bx.mk ((R0.set 0 (.int .i64 0)).set 1 (.slice none 0 0))
        have BF := Bx.mk ((bw.setCell (p := ⟨w.heap.size, 0, none⟩) (show w.heap.size ≤ w.heap.size by omega) (.int .i64 0)).setCell (p := ⟨w.heap.size, 1, none⟩) (show w.heap.size ≤ w.heap.size by omega) (.slice none 0 0))
        clear R0
        go_wp2_with (go_at_call 25; refine (within_any _ _ _ _).mono ?_; rintro e w' ⟨rfl, rfl⟩)
        exact bodyPost_ret (v := .tuple #[.agg #[.int .i64 0, .slice none 0 0], .bool false]) (by simp [results, Try.results5, go_sem, RF.out.at_ (i := 0) rfl, RF.out.at_ (i := 1) rfl]) rfl (GivesRB.gno HN.out BF.out)
    · have HN : Bx (genOk n k g = false) := ⟨genOk_out (by rw [inB_iff] at h2; omega)⟩
      rw [Bool.not_eq_true] at h2
      obtain ⟨W0, hW0⟩ : ∃ W0, W0 = w.alloc (.cells #[.int .i64 0, .slice none 0 0] 26) := ⟨_, rfl⟩
      have bw : Below w.heap.size w W0 := by rw [hW0]; exact below_alloc _ _
      have hz : w.heap.size < W0.heap.size := by rw [hW0]; simp
      have R0 : Blk W0 w.heap.size 26 #[.int .i64 0, .slice none 0 0] := by rw [hW0]; exact Blk.new w _ _
      go_enter Try.func5, Try.ntmps5
      go_wp2_with fail
      rw [← hW0]
      clear hW0
      have cr0 := R0.at_ (i := 0) rfl
      have cr1 := R0.at_ (i := 1) rfl
      have fr0 := R0.frozen 0
      have fr1 := R0.frozen 1
      have RF := Bx.mk ((R0.set 0 (.int .i64 0)).set 1 (.slice none 0 0))
      have BF := Bx.mk ((bw.setCell (p := ⟨w.heap.size, 0, none⟩) (show w.heap.size ≤ w.heap.size by omega) (.int .i64 0)).setCell (p := ⟨w.heap.size, 1, none⟩) (show w.heap.size ≤ w.heap.size by omega) (.slice none 0 0))
      clear R0
      go_wp2_with (go_at_call 25; refine (within_any _ _ _ _).mono ?_; rintro e w' ⟨rfl, rfl⟩)
      exact bodyPost_ret (v := .tuple #[.agg #[.int .i64 0, .slice none 0 0], .bool false]) (by simp [results, Try.results5, go_sem, RF.out.at_ (i := 0) rfl, RF.out.at_ (i := 1) rfl]) rfl (GivesRB.gno HN.out BF.out)
  · have HN : Bx (genOk n k g = false) := ⟨genOk_out (by rw [inB_iff] at h1; omega)⟩
    rw [Bool.not_eq_true] at h1
    obtain ⟨W0, hW0⟩ : ∃ W0, W0 = w.alloc (.cells #[.int .i64 0, .slice none 0 0] 26) := ⟨_, rfl⟩
    have bw : Below w.heap.size w W0 := by rw [hW0]; exact below_alloc _ _
    have hz : w.heap.size < W0.heap.size := by rw [hW0]; simp
    have R0 : Blk W0 w.heap.size 26 #[.int .i64 0, .slice none 0 0] := by rw [hW0]; exact Blk.new w _ _
    go_enter Try.func5, Try.ntmps5
    go_wp2_with fail
    rw [← hW0]
    clear hW0
    have cr0 := R0.at_ (i := 0) rfl
    have cr1 := R0.at_ (i := 1) rfl
    have fr0 := R0.frozen 0
    have fr1 := R0.frozen 1
    have RF := Bx.mk ((R0.set 0 (.int .i64 0)).set 1 (.slice none 0 0))
    have BF := Bx.mk ((bw.setCell (p := ⟨w.heap.size, 0, none⟩) (show w.heap.size ≤ w.heap.size by omega) (.int .i64 0)).setCell (p := ⟨w.heap.size, 1, none⟩) (show w.heap.size ≤ w.heap.size by omega) (.slice none 0 0))
    clear R0
    go_wp2_with (go_at_call 25; refine (within_any _ _ _ _).mono ?_; rintro e w' ⟨rfl, rfl⟩)
    exact bodyPost_ret (v := .tuple #[.agg #[.int .i64 0, .slice none 0 0], .bool false]) (by simp [results, Try.results5, go_sem, RF.out.at_ (i := 0) rfl, RF.out.at_ (i := 1) rfl]) rfl (GivesRB.gno HN.out BF.out)
end Go.Proofs.Ytpejnhcmelkmeaa
