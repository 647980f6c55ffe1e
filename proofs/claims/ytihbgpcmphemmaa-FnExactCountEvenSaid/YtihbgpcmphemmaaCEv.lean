/- How many even rhythms there are: both sides. -/
import Derived.Test.YtihbgpcmphemmaaEv
import Derived.Test.YtihbgpcmphemmaaGen
namespace Go.Proofs.Ytihbgpcmphemmaa
open Go.RowKit

def cntEv (k n : Int) : Int := if evOk k n = true then n / gcdI k n else -1
theorem cntEv_per {k n : Nat} (hn1 : 1 ≤ n) (hn : n ≤ 24) (hk : k ≤ n) : cntEv k n = ((perL n (evL n k k) : Nat) : Int) := by
  unfold cntEv
  rw [if_pos (evOk_in hn1 hn hk).1, ev_per hn1 hn hk, show gcdI (k : Int) (n : Int) = ((Nat.gcd k n : Nat) : Int) from rfl, Int.natCast_ediv]
set_option maxHeartbeats 1000000 in
theorem implCntEv_any (k n : Int) (w : World) : Calls Try.prog 15 #[.int .i64 k, .int .i64 n] w fun e w' => e = .returned (.int .i64 (cntEv k n)) ∧ Below w.heap.size w w' := by
  cases h : evOk k n with
  | false =>
    have HR : Bx (cntEv k n = -1) := ⟨by simp [cntEv, h]⟩
    have HG : Bx (∀ W, Calls Try.prog 46 #[.int .i64 k, .int .i64 n] W (GivesRB W 0 [] false)) := ⟨fun W => by
      have := implEvn_any k n W
      rw [show evS k n = 0 by simp [evS, h], show evLL k n = [] by simp [evLL, h], h] at this
      exact this⟩
    clear h
    go_enter Try.func15, Try.ntmps15
    go_wp2_with fail
    refine (HG.out _).mono ?_
    rintro e w2 ⟨A2, c2, rfl, io, b⟩
    simp only [List.length_nil] at io ⊢
    have hb := Bx.mk (b.alloc b.size (.cells #[.int .i64 0, .slice A2 0 c2] 26))
    clear io b
    go_wp2_with fail
    go_ret
    exact ⟨ret_int HR.out.symm, hb.out⟩
  | true =>
    have hin : 1 ≤ n ∧ n ≤ 24 ∧ 0 ≤ k ∧ k ≤ n := by
      unfold evOk at h
      rw [Bool.and_eq_true] at h
      have h1 := inB_iff.1 h.1
      have h2 := inB_iff.1 h.2
      omega
    obtain ⟨n', rfl⟩ := Int.eq_ofNat_of_zero_le (show 0 ≤ n by omega)
    obtain ⟨k', rfl⟩ := Int.eq_ofNat_of_zero_le (show 0 ≤ k by omega)
    obtain ⟨e1, e2, e3⟩ := evOk_in (n := n') (k := k') (by omega) (by omega) (by omega)
    obtain ⟨q, hq⟩ : ∃ q : Int, q = ((perL n' (evL n' k' k') : Nat) : Int) := ⟨_, rfl⟩
    have HR : Bx (cntEv k' n' = q) := ⟨by rw [hq]; exact cntEv_per (by omega) (by omega) (by omega)⟩
    obtain ⟨L, hL⟩ : ∃ L, L = evL n' k' k' := ⟨_, rfl⟩
    have HG : Bx (∀ W, Calls Try.prog 46 #[.int .i64 k', .int .i64 n'] W (GivesRB W n' L true)) := ⟨fun W => by
      have := implEvn_any k' n' W
      rw [e1, e2, e3, ← hL] at this
      exact this⟩
    have HPE : Bx (∀ A c W, IR W A L → Calls Try.prog 47 #[.agg #[.int .i64 n', .slice A L.length c]] W fun e w' => e = .returned (.int .i64 q) ∧ Below W.heap.size W w') := ⟨fun A c W h => by rw [hq, ← hL]; exact implPeriod_any n' A c L W (by rw [hL]; exact evL_ok (by omega) (by omega) (by omega)) h⟩
    clear h hin e1 e2 e3 hq hL
    go_enter Try.func15, Try.ntmps15
    go_wp2_with fail
    refine (HG.out _).mono ?_
    rintro e w2 ⟨A2, c2, rfl, io, b⟩
    obtain ⟨W3, hW3⟩ : ∃ W3, W3 = w2.alloc (.cells #[.int .i64 n', .slice A2 L.length c2] 26) := ⟨_, rfl⟩
    have hb := Bx.mk (b.alloc b.size (.cells #[.int .i64 n', .slice A2 L.length c2] 26))
    have HI := Bx.mk (io.reads.alloc (.cells #[.int .i64 n', .slice A2 L.length c2] 26))
    rw [← hW3] at hb HI
    clear io b HG
    go_wp2_with fail
    rw [← hW3]
    clear hW3
    refine (HPE.out _ _ _ (by exact HI.out)).mono ?_
    rintro e w4 ⟨rfl, b⟩
    have hb2 := Bx.mk (hb.out.trans (b.mono hb.out.size))
    clear b
    go_wp2_with fail
    go_ret
    exact ⟨ret_int HR.out.symm, hb2.out⟩
set_option maxHeartbeats 1000000 in
theorem specCntEv_any (k n : Int) (w : World) : Calls Try.prog 14 #[.int .i64 k, .int .i64 n] w fun e w' => e = .returned (.int .i64 (cntEv k n)) ∧ Below w.heap.size w w' := by
  cases h : evOk k n with
  | false =>
    have HR : Bx (cntEv k n = -1) := ⟨by simp [cntEv, h]⟩
    have HG : Bx (∀ W, Calls Try.prog 44 #[.int .i64 k, .int .i64 n] W fun e w' => e = .returned (.bool false) ∧ W = w') := ⟨fun W => by rw [← h]; exact l06Ok_any k n W⟩
    clear h
    go_enter Try.func14, Try.ntmps14
    go_wp2_with fail
    refine (HG.out _).mono ?_
    rintro e w2 ⟨rfl, rfl⟩
    go_wp2_with fail
    go_ret
    exact ⟨ret_int HR.out.symm, Below.refl _ _⟩
  | true =>
    have HG : Bx (∀ W, Calls Try.prog 44 #[.int .i64 k, .int .i64 n] W fun e w' => e = .returned (.bool true) ∧ W = w') := ⟨fun W => by rw [← h]; exact l06Ok_any k n W⟩
    have hin : 1 ≤ n ∧ n ≤ 24 ∧ 0 ≤ k ∧ k ≤ n := by
      unfold evOk at h
      rw [Bool.and_eq_true] at h
      have h1 := inB_iff.1 h.1
      have h2 := inB_iff.1 h.2
      omega
    obtain ⟨hn1, hn2, hk1, hk2⟩ := hin
    have HR : Bx (cntEv k n = n / gcdI k n) := ⟨by simp [cntEv, h]⟩
    obtain ⟨n', rfl⟩ := Int.eq_ofNat_of_zero_le (show 0 ≤ n by omega)
    obtain ⟨k', rfl⟩ := Int.eq_ofNat_of_zero_le (show 0 ≤ k by omega)
    obtain ⟨d', hd⟩ : ∃ d' : Nat, d' = Nat.gcd k' n' := ⟨_, rfl⟩
    have hgd : gcdI (k' : Int) (n' : Int) = (d' : Int) := by rw [hd]; rfl
    have HD : Bx (∀ W, Calls Try.prog 45 #[.int .i64 k', .int .i64 n'] W fun e w' => e = .returned (.int .i64 d') ∧ W = w') := ⟨fun W => by rw [← hgd]; exact l02Gcd_any k' n' hk1 (by omega) (by omega) (by omega) W⟩
    have hd1 : 0 < d' := by rw [hd]; exact Nat.gcd_pos_of_pos_right _ (by omega)
    have hd2 : d' ≤ n' := by rw [hd]; exact Nat.gcd_le_right _ (by omega)
    have hdz : ¬ (d' : Int) = 0 := by omega
    have hdn : ¬ d' = 0 := by omega
    have hqd : (n' : Int).tdiv (d' : Int) = ((n' / d' : Nat) : Int) := (Int.ofNat_tdiv n' d').symm
    obtain ⟨q, hq⟩ : ∃ q : Nat, q = n' / d' := ⟨_, rfl⟩
    have hqb : q ≤ 24 := by rw [hq]; exact Nat.le_trans (Nat.div_le_self _ _) (by omega)
    have hwq : IntKind.i64.wrap (q : Int) = (q : Int) := IntWalk.i64_in _ (by omega)
    have HR2 : Bx (cntEv k' n' = (q : Int)) := ⟨by rw [HR.out, hgd, hq, Int.natCast_ediv]⟩
    rw [← hq] at hqd
    clear h hd hq hgd HR
    go_enter Try.func14, Try.ntmps14
    go_wp2_with fail
    refine (HG.out _).mono ?_
    rintro e w2 ⟨rfl, rfl⟩
    go_wp2_with fail
    refine (HD.out _).mono ?_
    rintro e w2 ⟨rfl, rfl⟩
    go_wp2_with fail
    go_ret
    exact ⟨ret_int HR2.out.symm, Below.refl _ _⟩
end Go.Proofs.Ytihbgpcmphemmaa
