/- The first rhythm that avoids an interval. -/
import Derived.Test.YtlgiijibekobfaaTls
import Derived.Test.YtlgiijibekobfaaOnes
import Derived.Test.YtlgiijibekobfaaBas
import Derived.Test.YtlgiijibekobfaaHasB
import Derived.Deep.RegionHeld3
import Derived.Deep.DeepCutAuto
import Derived.Deep.AppendLies
namespace Go.Proofs.Ytlgiijibekobfaa
open Go.RowKit

def firstO (n d k : Int) : Option (List Int) := if inB n 2 16 = true ∧ inB d 1 (n - 1) = true ∧ inB k 0 n = true then firstR n.toNat d.toNat k.toNat else none
def oS (n : Int) (o : Option (List Int)) : Int := match o with | some _ => n | none => 0
def oL (o : Option (List Int)) : List Int := o.getD []
theorem GivesRB.none {w w' : World} {n : Int} {o : Option (List Int)} (ho : o = none) (hb : Below w.heap.size w w') : GivesRB w (oS n o) (oL o) o.isSome (.returned (.tuple #[.agg #[.int .i64 0, .slice none 0 0], .bool false])) w' := by
  subst ho
  exact ⟨Option.none, 0, rfl, IO.nil _ _, hb⟩
theorem fd_hit {P : Nat → Bool} {m : Nat} (h : P m = true) : fd P 0 (m + 1) = some m := by simp [fd, h]
theorem fd_miss {P : Nat → Bool} {m : Nat} (h : P m = false) : fd P 0 (m + 1) = fd P 0 m := by simp [fd, h]
set_option maxHeartbeats 1000000 in
theorem implFirst_in (n d k : Nat) (h2 : 2 ≤ n) (h16 : n ≤ 16) (hd : 1 ≤ d) (hdn : d < n) (hk : k ≤ n) (w : World) :
    Calls Try.prog 12 #[.int .i64 n, .int .i64 d, .int .i64 k] w (GivesRB w (oS n (firstR n d k)) (oL (firstR n d k)) (firstR n d k).isSome) := by
  have i1 : inB n 2 16 = true := inB_yes (by omega)
  have i2 : inB d 1 ((n : Int) - 1) = true := inB_yes (by omega)
  have i3 : inB k 0 n = true := inB_yes (by omega)
  obtain ⟨W0, hW0⟩ : ∃ W0, W0 = w.alloc (.cells #[.int .i64 0, .slice none 0 0] 30) := ⟨_, rfl⟩
  have bw : Below w.heap.size w W0 := by rw [hW0]; exact below_alloc _ _
  have hz : w.heap.size < W0.heap.size := by rw [hW0]; simp
  have R0 : Blk W0 w.heap.size 30 #[.int .i64 0, .slice none 0 0] := by rw [hW0]; exact Blk.new w _ _
  have hM := wrap_pow (n := n) (by omega)
  have hMle : 2 ^ n ≤ 65536 := Nat.pow_le_pow_right (n := 2) (by omega) h16
  have hM1 : 1 ≤ 2 ^ n := Nat.two_pow_pos n
  have hC2 : ∃ M : Nat, wrap64 ((2 : Int) ^ n) = (M : Int) ∧ Hid (firstR n d k = (fd (fP n d k) 0 M).map (bt n)) ∧ M ≤ 65536 ∧ 1 ≤ M ∧ Hid (M = 2 ^ n) := ⟨2 ^ n, hM, rfl, hMle, hM1, rfl⟩
  clear hM hMle hM1
  obtain ⟨M, hM, HR, hMle, hM1, HM⟩ := hC2
  go_enter Try.func12, Try.ntmps12
  go_wp2_with fail
  rw [← hW0]
  clear hW0
  go_wp2_with (go_at_call 55; refine (within_any _ _ _ _).mono ?_; rintro e w' ⟨rfl, rfl⟩)
  simp only [hM]
  clear hM i1 i2 i3
  go_loopw [8] (fun i wr => ∃ m : Nat, m ≤ M ∧ i = .int .i64 ((m : Int) - 1) ∧ Bx (fd (fP n d k) 0 M = fd (fP n d k) 0 m) ∧ Below W0.heap.size W0 wr) (fun i _ => (intOf i + 1).toNat)
  case atStart => exact ⟨M, by omega, rfl, ⟨rfl⟩, Below.refl _ _⟩
  case round =>
    obtain ⟨m, hmM, rfl, HF, hb⟩ := hrel
    replace R0 := R0.below hb hz
    have bw2 := Bx.mk (bw.trans (hb.mono bw.size))
    have hzr := hb.size
    by_cases h0 : m = 0
    · have hm0 : (m : Int) - 1 = -1 := by omega
      have HN : Bx (firstR n d k = Option.none) := ⟨by rw [HR.out, HF.out, h0]; rfl⟩
      clear h0
      rw [hm0]
      clear hm0
      have cr0 := R0.at_ (i := 0) rfl
      have cr1 := R0.at_ (i := 1) rfl
      have fr0 := R0.frozen 0
      have fr1 := R0.frozen 1
      have RF := Bx.mk ((R0.set 0 (.int .i64 0)).set 1 (.slice none 0 0))
      have BF := Bx.mk ((bw2.out.setCell (p := ⟨w.heap.size, 0, none⟩) (show w.heap.size ≤ w.heap.size by omega) (.int .i64 0)).setCell (p := ⟨w.heap.size, 1, none⟩) (show w.heap.size ≤ w.heap.size by omega) (.slice none 0 0))
      clear R0
      go_wp2_with fail
      exact bodyPost_ret (v := .tuple #[.agg #[.int .i64 0, .slice none 0 0], .bool false]) (by simp [results, Try.results12, go_sem, RF.out.at_ (i := 0) rfl, RF.out.at_ (i := 1) rfl]) rfl (GivesRB.none HN.out BF.out)
    · obtain ⟨c, rfl⟩ : ∃ c, m = c + 1 := ⟨m - 1, by omega⟩
      have hci : ((c + 1 : Nat) : Int) - 1 = (c : Int) := by omega
      rw [hci]
      clear hci h0
      have hcn : Bx (c < 2 ^ n) := ⟨by rw [← HM.out]; omega⟩
      have hcM : c < M := by omega
      obtain ⟨p, HP, HO⟩ : ∃ p : Nat, Bx (popc 24 c = p) ∧ Bx (∀ W, Calls Try.prog 57 #[.int .u64 (c : Int)] W fun e w' => e = .returned (.int .i64 (p : Int)) ∧ W = w') :=
        ⟨popc 24 c, ⟨rfl⟩, ⟨fun W => (ones_any (c : Int) (by omega) (by omega) W)⟩⟩
      by_cases hp : p = k
      · subst hp
        cases ha : av n d c with
        | true =>
          have HS : Bx (firstR n d p = some (bt n c)) := ⟨by rw [HR.out, HF.out, fd_hit (by simp [fP, HP.out, ha])]; rfl⟩
          go_wp2_with (go_at_call 57; refine (HO.out _).mono ?_; rintro e w' ⟨rfl, rfl⟩)
          refine (avoids_any _ _ _ (by omega) hd hdn hcn.out _).mono ?_
          rw [ha]
          rintro e w2 ⟨rfl, m1, rfl⟩
          have bw3 : Below w.heap.size w (wr.drewN m1) := bw2.out.trans (bdrewN_refl _ _)
          have R3 : Blk (wr.drewN m1) w.heap.size 30 #[.int .i64 0, .slice none 0 0] := R0
          have hz3 : w.heap.size < (wr.drewN m1).heap.size := by simp; omega
          clear R0 bw2
          generalize wr.drewN m1 = w3 at *
          go_wp2_with fail
          refine (rhythmAt_any _ _ _ (by omega) (by omega) hcn.out).mono ?_
          rintro e w4 ⟨A4, c4, rfl, io, b⟩
          have bw4 := bw3.trans (b.mono bw3.size)
          replace R3 := R3.below b hz3
          have cr0 := R3.at_ (i := 0) rfl
          have cr1 := R3.at_ (i := 1) rfl
          have fr0 := R3.frozen 0
          have fr1 := R3.frozen 1
          have RF := Bx.mk ((R3.set 0 (.int .i64 n)).set 1 (.slice A4 (bt n c).length c4))
          have BF := Bx.mk ((bw4.setCell (p := ⟨w.heap.size, 0, none⟩) (show w.heap.size ≤ w.heap.size by omega) (.int .i64 n)).setCell (p := ⟨w.heap.size, 1, none⟩) (show w.heap.size ≤ w.heap.size by omega) (.slice A4 (bt n c).length c4))
          have HIO := Bx.mk ((io.setLow (p := ⟨w.heap.size, 0, none⟩) hz3 (.int .i64 n)).setLow (p := ⟨w.heap.size, 1, none⟩) hz3 (.slice A4 (bt n c).length c4))
          have hwm : w.heap.size ≤ w3.heap.size := by omega
          clear R3
          go_wp2_with fail
          refine bodyPost_ret (v := .tuple #[.agg #[.int .i64 n, .slice A4 (bt n c).length c4], .bool true]) (by simp [results, Try.results12, go_sem, RF.out.at_ (i := 0) rfl, RF.out.at_ (i := 1) rfl]) rfl ?_
          rw [HS.out]
          exact ⟨A4, c4, rfl, HIO.out.mono hwm, BF.out⟩
        | false =>
          have HS : Bx (fd (fP n d p) 0 M = fd (fP n d p) 0 c) := ⟨by rw [HF.out, fd_miss (by simp [fP, ha])]⟩
          go_wp2_with (go_at_call 57; refine (HO.out _).mono ?_; rintro e w' ⟨rfl, rfl⟩)
          refine (avoids_any _ _ _ (by omega) hd hdn hcn.out _).mono ?_
          rw [ha]
          rintro e w2 ⟨rfl, m1, rfl⟩
          have hb2 : Below W0.heap.size W0 (wr.drewN m1) := hb.trans (bdrewN_refl _ _)
          go_wp2_with fail
          go_roundw
          case rel => exact ⟨c, by omega, by go_num, HS, hb2⟩
          case measure => simp [intOf]
      · have HS : Bx (fd (fP n d k) 0 M = fd (fP n d k) 0 c) := ⟨by
          have := HP.out
          rw [HF.out, fd_miss (by simp [fP, this, hp])]⟩
        have hpb : ((p : Int) == (k : Int)) = false := by simp; omega
        clear hp
        go_wp2_with (go_at_call 57; refine (HO.out _).mono ?_; rintro e w' ⟨rfl, rfl⟩)
        go_roundw
        case rel => exact ⟨c, by omega, by go_num, HS, hb⟩
        case measure => simp [intOf]
set_option maxHeartbeats 1000000 in
theorem implFirst_any (n d k : Int) (w : World) :
    Calls Try.prog 12 #[.int .i64 n, .int .i64 d, .int .i64 k] w (GivesRB w (oS n (firstO n d k)) (oL (firstO n d k)) (firstO n d k).isSome) := by
  by_cases h1 : inB n 2 16 = true
  · by_cases h2 : inB d 1 (n - 1) = true
    · by_cases h3 : inB k 0 n = true
      · have b1 := inB_iff.1 h1; have b2 := inB_iff.1 h2; have b3 := inB_iff.1 h3
        have hv : firstO n d k = firstR n.toNat d.toNat k.toNat := by simp [firstO, h1, h2, h3]
        rw [hv]
        obtain ⟨n', rfl⟩ := Int.eq_ofNat_of_zero_le (show 0 ≤ n by omega)
        obtain ⟨d', rfl⟩ := Int.eq_ofNat_of_zero_le (show 0 ≤ d by omega)
        obtain ⟨k', rfl⟩ := Int.eq_ofNat_of_zero_le (show 0 ≤ k by omega)
        simp only [Int.toNat_natCast]
        exact implFirst_in n' d' k' (by omega) (by omega) (by omega) (by omega) (by omega) w
      · rw [Bool.not_eq_true] at h3
        have HN : Bx (firstO n d k = Option.none) := ⟨by simp [firstO, h3]⟩
        have b1 := inB_iff.1 h1
        obtain ⟨W0, hW0⟩ : ∃ W0, W0 = w.alloc (.cells #[.int .i64 0, .slice none 0 0] 30) := ⟨_, rfl⟩
        have bw : Below w.heap.size w W0 := by rw [hW0]; exact below_alloc _ _
        have hz : w.heap.size < W0.heap.size := by rw [hW0]; simp
        have R0 : Blk W0 w.heap.size 30 #[.int .i64 0, .slice none 0 0] := by rw [hW0]; exact Blk.new w _ _
        go_enter Try.func12, Try.ntmps12
        go_wp2_with fail
        rw [← hW0]
        clear hW0
        have cr0 := R0.at_ (i := 0) rfl
        have cr1 := R0.at_ (i := 1) rfl
        have fr0 := R0.frozen 0
        have fr1 := R0.frozen 1
        have RF := Bx.mk ((R0.set 0 (.int .i64 0)).set 1 (.slice none 0 0))
        have BF := Bx.mk ((bw.setCell (p := ⟨w.heap.size, 0, none⟩) (show w.heap.size ≤ w.heap.size by omega) (.int .i64 0)).setCell (p := ⟨w.heap.size, 1, none⟩) (show w.heap.size ≤ w.heap.size by omega) (.slice none 0 0))
        clear R0
        go_wp2_with (go_at_call 55; refine (within_any _ _ _ _).mono ?_; rintro e w' ⟨rfl, rfl⟩)
        exact bodyPost_ret (v := .tuple #[.agg #[.int .i64 0, .slice none 0 0], .bool false]) (by simp [results, Try.results12, go_sem, RF.out.at_ (i := 0) rfl, RF.out.at_ (i := 1) rfl]) rfl (GivesRB.none HN.out BF.out)
    · rw [Bool.not_eq_true] at h2
      have HN : Bx (firstO n d k = Option.none) := ⟨by simp [firstO, h2]⟩
      have b1 := inB_iff.1 h1
      obtain ⟨W0, hW0⟩ : ∃ W0, W0 = w.alloc (.cells #[.int .i64 0, .slice none 0 0] 30) := ⟨_, rfl⟩
      have bw : Below w.heap.size w W0 := by rw [hW0]; exact below_alloc _ _
      have hz : w.heap.size < W0.heap.size := by rw [hW0]; simp
      have R0 : Blk W0 w.heap.size 30 #[.int .i64 0, .slice none 0 0] := by rw [hW0]; exact Blk.new w _ _
      go_enter Try.func12, Try.ntmps12
      go_wp2_with fail
      rw [← hW0]
      clear hW0
      have cr0 := R0.at_ (i := 0) rfl
      have cr1 := R0.at_ (i := 1) rfl
      have fr0 := R0.frozen 0
      have fr1 := R0.frozen 1
      have RF := Bx.mk ((R0.set 0 (.int .i64 0)).set 1 (.slice none 0 0))
      have BF := Bx.mk ((bw.setCell (p := ⟨w.heap.size, 0, none⟩) (show w.heap.size ≤ w.heap.size by omega) (.int .i64 0)).setCell (p := ⟨w.heap.size, 1, none⟩) (show w.heap.size ≤ w.heap.size by omega) (.slice none 0 0))
      clear R0
      go_wp2_with (go_at_call 55; refine (within_any _ _ _ _).mono ?_; rintro e w' ⟨rfl, rfl⟩)
      exact bodyPost_ret (v := .tuple #[.agg #[.int .i64 0, .slice none 0 0], .bool false]) (by simp [results, Try.results12, go_sem, RF.out.at_ (i := 0) rfl, RF.out.at_ (i := 1) rfl]) rfl (GivesRB.none HN.out BF.out)
  · rw [Bool.not_eq_true] at h1
    have HN : Bx (firstO n d k = Option.none) := ⟨by simp [firstO, h1]⟩
    obtain ⟨W0, hW0⟩ : ∃ W0, W0 = w.alloc (.cells #[.int .i64 0, .slice none 0 0] 30) := ⟨_, rfl⟩
    have bw : Below w.heap.size w W0 := by rw [hW0]; exact below_alloc _ _
    have hz : w.heap.size < W0.heap.size := by rw [hW0]; simp
    have R0 : Blk W0 w.heap.size 30 #[.int .i64 0, .slice none 0 0] := by rw [hW0]; exact Blk.new w _ _
    go_enter Try.func12, Try.ntmps12
    go_wp2_with fail
    rw [← hW0]
    clear hW0
    have cr0 := R0.at_ (i := 0) rfl
    have cr1 := R0.at_ (i := 1) rfl
    have fr0 := R0.frozen 0
    have fr1 := R0.frozen 1
    have RF := Bx.mk ((R0.set 0 (.int .i64 0)).set 1 (.slice none 0 0))
    have BF := Bx.mk ((bw.setCell (p := ⟨w.heap.size, 0, none⟩) (show w.heap.size ≤ w.heap.size by omega) (.int .i64 0)).setCell (p := ⟨w.heap.size, 1, none⟩) (show w.heap.size ≤ w.heap.size by omega) (.slice none 0 0))
    clear R0
    go_wp2_with (go_at_call 55; refine (within_any _ _ _ _).mono ?_; rintro e w' ⟨rfl, rfl⟩)
    exact bodyPost_ret (v := .tuple #[.agg #[.int .i64 0, .slice none 0 0], .bool false]) (by simp [results, Try.results12, go_sem, RF.out.at_ (i := 0) rfl, RF.out.at_ (i := 1) rfl]) rfl (GivesRB.none HN.out BF.out)
end Go.Proofs.Ytlgiijibekobfaa
