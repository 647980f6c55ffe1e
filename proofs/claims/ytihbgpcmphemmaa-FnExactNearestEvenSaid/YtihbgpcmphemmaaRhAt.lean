/- The rhythm with a code. -/
import Derived.Test.YtihbgpcmphemmaaFirstPlain
import Derived.Test.YtihbgpcmphemmaaSum
import Derived.Test.YtihbgpcmphemmaaBas
namespace Go.Proofs.Ytihbgpcmphemmaa
open Go.RowKit

theorem bit_form {n c k : Nat} (_hk : k < n) (hn : n ≤ 24) (hc : c < 2 ^ n) : (bits .and .i64 ((c : Int) / 2 ^ (n - 1 - k)) 1 == 1) = c.testBit (n - 1 - k) := by
  have h24 := pow_le_24 hn
  have e1 : (c : Int) / 2 ^ (n - 1 - k) = ((c / 2 ^ (n - 1 - k) : Nat) : Int) := by rw [Int.natCast_ediv, Int.natCast_pow]; rfl
  have hdv : c / 2 ^ (n - 1 - k) ≤ c := Nat.div_le_self _ _
  rw [e1, show (1 : Int) = ((1 : Nat) : Int) from rfl, i64_and _ _ (by omega) (by omega), Nat.testBit_eq_decide_div_mod_eq]
  rw [Nat.and_one_is_mod]
  rw [Bool.eq_iff_iff]
  simp
  omega
end Go.Proofs.Ytihbgpcmphemmaa
