/- The program's test whether a code avoids a difference. -/
import Derived.Test.YtihbgpcmphemmaaAvPlain
import Derived.Deep.QuietTactic
import Derived.BigQuiet
namespace Go.Proofs.Ytihbgpcmphemmaa
open Go.RowKit

theorem i64_and (a b : Nat) (ha : a < 9223372036854775808) (hb : b < 9223372036854775808) : bits .and .i64 (a : Int) (b : Int) = ((a &&& b : Nat) : Int) := by
  have h1 : (BitVec.ofInt 64 (a : Int)).toNat = a := by rw [BitVec.ofInt_natCast, BitVec.toNat_ofNat]; exact Nat.mod_eq_of_lt (by omega)
  have h2 : (BitVec.ofInt 64 (b : Int)).toNat = b := by rw [BitVec.ofInt_natCast, BitVec.toNat_ofNat]; exact Nat.mod_eq_of_lt (by omega)
  have hx : a &&& b ≤ a := Nat.and_le_left
  show IntKind.i64.wrap ((BitVec.ofInt 64 (a : Int) &&& BitVec.ofInt 64 (b : Int)).toNat : Int) = _
  rw [BitVec.toNat_and, h1, h2, IntWalk.i64_in _ (by omega)]
theorem i64_or (a b : Nat) (ha : a < 4611686018427387904) (hb : b < 4611686018427387904) : bits .or .i64 (a : Int) (b : Int) = ((a ||| b : Nat) : Int) := by
  have h1 : (BitVec.ofInt 64 (a : Int)).toNat = a := by rw [BitVec.ofInt_natCast, BitVec.toNat_ofNat]; exact Nat.mod_eq_of_lt (by omega)
  have h2 : (BitVec.ofInt 64 (b : Int)).toNat = b := by rw [BitVec.ofInt_natCast, BitVec.toNat_ofNat]; exact Nat.mod_eq_of_lt (by omega)
  have hx : a ||| b < 2 ^ 62 := Nat.or_lt_two_pow (by omega) (by omega)
  show IntKind.i64.wrap ((BitVec.ofInt 64 (a : Int) ||| BitVec.ofInt 64 (b : Int)).toNat : Int) = _
  rw [BitVec.toNat_or, h1, h2, IntWalk.i64_in _ (by omega)]
theorem pow_le_24 {n : Nat} (h : n ≤ 24) : 2 ^ n ≤ 16777216 := Nat.pow_le_pow_right (n := 2) (by omega) h
theorem wrap_pow {n : Nat} (h : n ≤ 24) : wrap64 ((2 : Int) ^ n) = ((2 ^ n : Nat) : Int) := by
  have := pow_le_24 h
  have e : ((2 ^ n : Nat) : Int) = (2 : Int) ^ n := Int.natCast_pow 2 n
  rw [← e]
  clear e
  generalize 2 ^ n = m at *
  exact IntWalk.wrap64_in _ (by omega)
theorem av_form {n d c : Nat} (hn : n ≤ 24) (_hd : d ≤ n) (hc : c < 2 ^ n) :
    (bits .and .i64 (c : Int) (bits .or .i64 ((c : Int) / 2 ^ d) (bits .and .i64 (wrap64 ((c : Int) * 2 ^ (n - d))) (wrap64 (wrap64 (2 ^ n) - 1)))) == 0) = av n d c := by
  have h24 := pow_le_24 hn
  have hp := Nat.two_pow_pos n
  have hnd : 2 ^ (n - d) ≤ 16777216 := pow_le_24 (by omega)
  have hm : c * 2 ^ (n - d) ≤ 16777216 * 16777216 := Nat.mul_le_mul (by omega) hnd
  have e1 : (c : Int) / 2 ^ d = ((c / 2 ^ d : Nat) : Int) := by rw [Int.natCast_ediv, Int.natCast_pow]; rfl
  have e2 : (c : Int) * 2 ^ (n - d) = ((c * 2 ^ (n - d) : Nat) : Int) := by rw [Int.natCast_mul, Int.natCast_pow]; rfl
  have e3 : wrap64 (wrap64 ((2 : Int) ^ n) - 1) = ((2 ^ n - 1 : Nat) : Int) := by
    rw [wrap_pow hn]
    clear e1 e2 hm hnd hc
    generalize 2 ^ n = m at *
    rw [IntWalk.wrap64_in _ (by omega)]; omega
  have hdv : c / 2 ^ d ≤ c := Nat.div_le_self _ _
  have l1 : (c * 2 ^ (n - d)) &&& (2 ^ n - 1) ≤ 2 ^ n - 1 := Nat.and_le_right
  rw [e1, e2, e3, IntWalk.wrap64_in _ (by omega), i64_and _ _ (by omega) (by omega), i64_or _ _ (by omega) (by omega),
    i64_and _ _ (by omega) (Nat.lt_of_lt_of_le (Nat.or_lt_two_pow (n := 62) (by omega) (by omega)) (by omega))]
  unfold av
  rw [Bool.eq_iff_iff]
  simp
end Go.Proofs.Ytihbgpcmphemmaa
