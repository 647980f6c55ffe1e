/- The prime of a power: the program's and the reference's are one number. -/
import Derived.Test.YtgfdmjhdfddopaaPrimePlain
namespace Go.Proofs.Ytgfdmjhdfddopaa
open Go.RowKit
set_option maxRecDepth 20000

theorem divs_cell {w : World} {A : Option Addr} {c B : Nat} {n p : Int} (h : IO w B A c (divs n)) (hp : IsLp n p) (hn : n ≤ 1000) :
    ∃ g, A = some ⟨g, 0, none⟩ ∧ w.cell? ⟨g, 1, none⟩ = some (.int .i64 p) ∧ 1 < (divs n).length := by
  obtain ⟨t, ht⟩ := divs_two n p hp hn
  have hl : 1 < (divs n).length := by rw [ht]; simp
  rcases h.2.2 with ⟨_, e⟩ | ⟨g, cur, e, _⟩
  · rw [ht] at e; cases e
  · obtain ⟨b, o, e', _, hc⟩ := h.reads.at_ (by omega)
    rw [e] at e'; injection e' with e'; injection e' with e1 e2; subst e1 e2
    have := hc 1 hl
    rw [ht] at this
    exact ⟨g, e, by simpa using this, hl⟩

set_option maxHeartbeats 400000 in
theorem implPrimeOf_any (n : Int) (w : World) :
    Calls Try.prog 15 #[.int .i64 n] w fun e w' => e = .returned (.int .i64 (primeI n)) ∧ Below w.heap.size w w' := by
  by_cases h1 : inB n 2 1000 = true
  · have b1 := inB_iff.1 h1
    obtain ⟨b1l, b1r⟩ := b1
    obtain ⟨p, hp⟩ := lp_exists n b1l
    have hp2 := hp.two
    have hp3 := hp.le
    go_enter Try.func15, Try.ntmps15
    go_wp2_with (first | (go_at_call 38; refine (within_any _ _ _ _).mono ?_; rintro e w' ⟨rfl, rfl⟩) | (go_at_call 11; refine (implDivisorsOf_any _ _).mono ?_; rintro e w1 ⟨A1, c1, rfl, io1, hb1⟩; obtain ⟨g, rfl, hcell, hlen⟩ := divs_cell io1 hp b1r))
    go_loop [0] (fun x => ∃ m : Int, 1 ≤ m ∧ m ≤ n ∧ x = .int .i64 m ∧ strip p m = strip p n) (fun x => (intOf x).toNat)
    case atStart => exact ⟨n, by omega, by omega, rfl, rfl⟩
    case round =>
      obtain ⟨m, hm1, hm2, rfl, hs⟩ := hrel
      have HS := Lib.hid hs
      clear hs
      by_cases hd : m % p = 0
      · have hdv := div_pos_of hp2 (by omega) hd
        have HD := Lib.hid hd
        have hdb : (m % p == 0) = true := by simp [hd]
        clear hd
        go_wp2
        go_round
        case rel => exact ⟨m / p, by omega, by omega, rfl, by rw [← HS.out, strip_step hp2 (by omega) HD.out]⟩
        case measure => simp [intOf]; omega
      · have HD := Lib.hid (strip_stop hd)
        have hdb : (m % p == 0) = false := by simp [hd]
        clear hd
        go_wp2
        · have hgt : 1 < m := by assumption
          go_ret
          exact ⟨ret_int (primeI_hi hp b1r m (HS.out.symm.trans HD.out) hgt).symm, hb1⟩
        · have hgt : m ≤ 1 := by omega
          go_ret
          exact ⟨ret_int (primeI_lo hp b1r m (HS.out.symm.trans HD.out) hgt).symm, hb1⟩
  · rw [Bool.not_eq_true] at h1
    have HR := Lib.hid (primeI_no h1)
    go_enter Try.func15, Try.ntmps15
    go_wp2_with (go_at_call 38; refine (within_any _ _ _ _).mono ?_; rintro e w' ⟨rfl, rfl⟩)
    go_ret
    exact ⟨ret_int HR.out.symm, Below.refl _ _⟩
end Go.Proofs.Ytgfdmjhdfddopaa
