/- Even rhythms: the program's and the reference's. -/
import Derived.Test.YtgfdmjhdfddopaaEvPlain
import Derived.Test.YtgfdmjhdfddopaaRts
import Derived.Test.YtgfdmjhdfddopaaBas
import Derived.Test.YtgfdmjhdfddopaaStepLaw
import Derived.Deep.RegionLaw
import Derived.Deep.RegionHeld3
namespace Go.Proofs.Ytgfdmjhdfddopaa
open Go.RowKit
set_option maxRecDepth 20000

def evOk (k n : Int) : Bool := inB n 1 24 && inB k 0 n
theorem mul_bdE {a b : Nat} (ha : a ≤ 24) (hb : b ≤ 24) : a * b ≤ 576 := by
  have := Nat.mul_le_mul ha hb
  omega

def evS (k n : Int) : Int := if evOk k n = true then n else 0
def evLL (k n : Int) : List Int := if evOk k n = true then evL n.toNat k.toNat k.toNat else []
theorem GivesRB.evno {w w' : World} {k n : Int} (h : evOk k n = false) (hb : Below w.heap.size w w') : GivesRB w (evS k n) (evLL k n) (evOk k n) (.returned (.tuple #[.agg #[.int .i64 0, .slice none 0 0], .bool false])) w' := by
  have h1 : evS k n = 0 := by simp [evS, h]
  have h2 : evLL k n = [] := by simp [evLL, h]
  rw [h1, h2, h]
  exact ⟨none, 0, rfl, IO.nil _ _, hb⟩
theorem evOk_in {k n : Nat} (hn1 : 1 ≤ n) (hn : n ≤ 24) (hk : k ≤ n) : evOk k n = true ∧ evS k n = n ∧ evLL k n = evL n k k := by
  have h : evOk (k : Int) (n : Int) = true := by
    unfold evOk
    rw [show inB (n : Int) 1 24 = true from inB_yes (by omega), show inB (k : Int) 0 n = true from inB_yes (by omega)]; rfl
  exact ⟨h, by simp [evS, h], by simp [evLL, h]⟩
end Go.Proofs.Ytgfdmjhdfddopaa
