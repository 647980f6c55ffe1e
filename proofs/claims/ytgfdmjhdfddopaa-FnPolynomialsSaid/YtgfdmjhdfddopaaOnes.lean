/- The number of bits: the library's sums, walked. -/
import Derived.Test.YtgfdmjhdfddopaaBas
namespace Go.Proofs.Ytgfdmjhdfddopaa
open Go.RowKit
set_option maxRecDepth 20000

theorem u64w (n : Nat) (h : n < 18446744073709551616) : IntKind.u64.wrap (n : Int) = n := IntWalk.u64_in _ (by omega)
theorem w_1 (x : Nat) (hx : x < 16777216) : IntKind.u64.wrap (bits .and .u64 ((x : Int) / 2) 6148914691236517205 + bits .and .u64 (x : Int) 6148914691236517205) = ((ps1 x : Nat) : Int) := by
  have h1 := u64_and_nat (x / 2) 6148914691236517205 (by omega) (by omega)
  have h2 := u64_and_nat x 6148914691236517205 (by omega) (by omega)
  have e : ((x / 2 : Nat) : Int) = (x : Int) / 2 := by omega
  rw [e] at h1
  have l1 : (x / 2) &&& 6148914691236517205 ≤ x / 2 := Nat.and_le_left
  have l2 : x &&& 6148914691236517205 ≤ x := Nat.and_le_left
  have h3 := u64w (((x / 2) &&& 6148914691236517205) + (x &&& 6148914691236517205)) (by omega)
  rw [Int.natCast_add] at h3
  rw [show (6148914691236517205 : Int) = ((6148914691236517205 : Nat) : Int) from rfl, h1, h2, h3]
  rfl
theorem w_2 (x : Nat) (hx : x < 16777216) : IntKind.u64.wrap (bits .and .u64 ((x : Int) / 4) 3689348814741910323 + bits .and .u64 (x : Int) 3689348814741910323) = ((ps2 x : Nat) : Int) := by
  have h1 := u64_and_nat (x / 4) 3689348814741910323 (by omega) (by omega)
  have h2 := u64_and_nat x 3689348814741910323 (by omega) (by omega)
  have e : ((x / 4 : Nat) : Int) = (x : Int) / 4 := by omega
  rw [e] at h1
  have l1 : (x / 4) &&& 3689348814741910323 ≤ x / 4 := Nat.and_le_left
  have l2 : x &&& 3689348814741910323 ≤ x := Nat.and_le_left
  have h3 := u64w (((x / 4) &&& 3689348814741910323) + (x &&& 3689348814741910323)) (by omega)
  rw [Int.natCast_add] at h3
  rw [show (3689348814741910323 : Int) = ((3689348814741910323 : Nat) : Int) from rfl, h1, h2, h3]
  rfl
theorem w_3 (x : Nat) (hx : x < 16777216) : bits .and .u64 (IntKind.u64.wrap ((x : Int) / 16 + (x : Int))) 1085102592571150095 = ((ps3 x : Nat) : Int) := by
  have h3 := u64w (x / 16 + x) (by omega)
  rw [Int.natCast_add, show ((x / 16 : Nat) : Int) = (x : Int) / 16 by omega] at h3
  have h1 := u64_and_nat (x / 16 + x) 1085102592571150095 (by omega) (by omega)
  rw [Int.natCast_add, show ((x / 16 : Nat) : Int) = (x : Int) / 16 by omega] at h1
  rw [h3, show (1085102592571150095 : Int) = ((1085102592571150095 : Nat) : Int) from rfl, h1]
  rfl
theorem w_4 (x d : Nat) (hx : x < 1099511627776) (_hd : 0 < d) : IntKind.u64.wrap ((x : Int) + (x : Int) / (d : Int)) = ((x + x / d : Nat) : Int) := by
  have : x / d ≤ x := Nat.div_le_self _ _
  have h3 := u64w (x + x / d) (by omega)
  rw [Int.natCast_add, Int.natCast_ediv] at h3
  rw [h3, Int.natCast_add, Int.natCast_ediv]
theorem w_7 (x : Nat) (hx : x < 1099511627776) : bits .and .i64 (wrap64 (x : Int)) 127 = ((x % 128 : Nat) : Int) := by
  rw [IntWalk.wrap64_in _ (by omega)]
  have h1 : (BitVec.ofInt 64 (x : Int)).toNat = x := by rw [BitVec.ofInt_natCast, BitVec.toNat_ofNat]; exact Nat.mod_eq_of_lt (by omega)
  show IntKind.i64.wrap ((BitVec.ofInt 64 (x : Int) &&& BitVec.ofInt 64 (127 : Int)).toNat : Int) = _
  rw [BitVec.toNat_and, h1, show (BitVec.ofInt 64 (127 : Int)).toNat = 127 from rfl, show x &&& 127 = x % 128 from Nat.and_two_pow_sub_one_eq_mod x 7, IntWalk.i64_in _ (by omega)]

theorem ones_tail (y3 p q r n : Nat) (h3 : y3 = p + 256 * (q + 256 * r)) (hs : p + q + r = n) (hp : p ≤ 8) (hq : q ≤ 8) (hr : r ≤ 8) : ∃ y4 y5 y6 : Nat,
    IntKind.u64.wrap ((y3 : Int) + (y3 : Int) / 256) = (y4 : Int) ∧ IntKind.u64.wrap ((y4 : Int) + (y4 : Int) / 65536) = (y5 : Int) ∧
    IntKind.u64.wrap ((y5 : Int) + (y5 : Int) / 4294967296) = (y6 : Int) ∧ bits .and .i64 (wrap64 (y6 : Int)) 127 = (n : Int) := by
  have b3 : y3 < 600000 := by omega
  obtain ⟨y4, a4⟩ : ∃ y4, y4 = y3 + y3 / 256 := ⟨_, rfl⟩
  have b4 : y4 < 700000 := by omega
  obtain ⟨y5, a5⟩ : ∃ y5, y5 = y4 + y4 / 65536 := ⟨_, rfl⟩
  have b5 : y5 < 800000 := by omega
  have d4 : y4 = (p + q) + 256 * (q + r) + 65536 * r := by omega
  have d5 : y5 = (p + q + r) + 256 * (q + r) + 65536 * r := by omega
  have d6 : y5 / 4294967296 = 0 := by omega
  have d7 : y5 % 128 = n := by omega
  have e4 := w_4 y3 256 (by omega) (by omega)
  have e5 := w_4 y4 65536 (by omega) (by omega)
  have e6 := w_4 y5 4294967296 (by omega) (by omega)
  have e7 := w_7 y5 (by omega)
  rw [← a4] at e4
  rw [← a5] at e5
  rw [d6, Nat.add_zero] at e6
  rw [d7] at e7
  exact ⟨y4, y5, y5, e4, e5, e6, e7⟩
theorem ones_facts (x : Nat) (hx : x < 16777216) : ∃ y1 y2 y3 y4 y5 y6 n : Nat, n = popc 24 x ∧
    IntKind.u64.wrap (bits .and .u64 ((x : Int) / 2) 6148914691236517205 + bits .and .u64 (x : Int) 6148914691236517205) = (y1 : Int) ∧
    IntKind.u64.wrap (bits .and .u64 ((y1 : Int) / 4) 3689348814741910323 + bits .and .u64 (y1 : Int) 3689348814741910323) = (y2 : Int) ∧
    bits .and .u64 (IntKind.u64.wrap ((y2 : Int) / 16 + (y2 : Int))) 1085102592571150095 = (y3 : Int) ∧
    IntKind.u64.wrap ((y3 : Int) + (y3 : Int) / 256) = (y4 : Int) ∧ IntKind.u64.wrap ((y4 : Int) + (y4 : Int) / 65536) = (y5 : Int) ∧
    IntKind.u64.wrap ((y5 : Int) + (y5 : Int) / 4294967296) = (y6 : Int) ∧ bits .and .i64 (wrap64 (y6 : Int)) 127 = (n : Int) := by
  obtain ⟨p, q, r, h3, hs, hp, hq, hr, l1, l2⟩ := sums x hx
  have e1 := w_1 x hx
  have e2 := w_2 _ l1
  have e3 := w_3 _ l2
  obtain ⟨y4, y5, y6, e4, e5, e6, e7⟩ := ones_tail _ p q r _ h3 hs hp hq hr
  exact ⟨_, _, _, y4, y5, y6, _, rfl, e1, e2, e3, e4, e5, e6, e7⟩

set_option maxHeartbeats 400000 in
theorem ones64_any (x : Nat) (hx : x < 16777216) (w : World) :
    Calls Try.prog 80 #[.int .u64 x] w fun e w' => e = .returned (.int .i64 (popc 24 x)) ∧ w = w' := by
  obtain ⟨y1, y2, y3, y4, y5, y6, n, hn, e1, e2, e3, e4, e5, e6, e7⟩ := ones_facts x hx
  rw [← hn]
  clear hn hx
  go_enter Try.func80, Try.ntmps80
  go_wp2
  go_ret
  exact ⟨rfl, rfl⟩
set_option maxHeartbeats 400000 in
theorem ones_any (x : Int) (h0 : 0 ≤ x) (hx : x < 16777216) (w : World) :
    Calls Try.prog 67 #[.int .u64 x] w fun e w' => e = .returned (.int .i64 (popc 24 x.toNat)) ∧ w = w' := by
  obtain ⟨n, rfl⟩ := Int.eq_ofNat_of_zero_le h0
  rw [Int.toNat_natCast]
  have hn : n < 16777216 := by omega
  have HN := Lib.hid hn
  clear hn hx h0
  go_enter Try.func67, Try.ntmps67
  go_wp2_with (go_at_call 80; refine (ones64_any _ HN.out _).mono ?_; rintro e w' ⟨rfl, rfl⟩)
  go_ret
  exact ⟨rfl, rfl⟩
end Go.Proofs.Ytgfdmjhdfddopaa
