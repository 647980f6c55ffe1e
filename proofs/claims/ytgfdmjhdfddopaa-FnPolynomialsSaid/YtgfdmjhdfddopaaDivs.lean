/- The divisors of a number: the program's list and the reference's are one list. -/
import Derived.Test.YtgfdmjhdfddopaaBas
import Derived.Deep.QuietTactic
import Derived.BigQuiet
import Derived.Deep.DeepMust
namespace Go.Proofs.Ytgfdmjhdfddopaa
open Go.RowKit
set_option maxRecDepth 20000

def divTo (n : Int) : Nat → List Int
  | 0 => []
  | k + 1 => divTo n k ++ (if n % (k + 1 : Nat) = 0 then [((k + 1 : Nat) : Int)] else [])
theorem divTo_len (n : Int) (k : Nat) : (divTo n k).length ≤ k := by
  induction k with
  | zero => simp [divTo]
  | succ k ih => simp only [divTo, List.length_append]; split <;> simp <;> omega
theorem divTo_hit (n : Int) (k : Nat) (h : n % ((k : Int) + 1) = 0) : divTo n (k + 1) = divTo n k ++ [(k : Int) + 1] := by
  have : n % (k + 1 : Nat) = 0 := by simpa using h
  simp [divTo, h]
theorem divTo_miss (n : Int) (k : Nat) (h : n % ((k : Int) + 1) ≠ 0) : divTo n (k + 1) = divTo n k := by
  simp [divTo, h]
def divs (n : Int) : List Int := if inB n 1 1000 = true then divTo n n.toNat else []
theorem divs_len (n : Int) : (divs n).length ≤ 1000 := by
  unfold divs
  split
  · rename_i h; have := inB_iff.1 h; have := divTo_len n n.toNat; omega
  · simp

set_option maxHeartbeats 400000 in
theorem implDivisorsOf_any (n : Int) (w : World) :
    Calls Try.prog 11 #[.int .i64 n] w (GivesInts w (divs n)) := by
  have hlx := divs_len n
  by_cases h1 : inB n 1 1000 = true
  · have b1 := inB_iff.1 h1
    obtain ⟨b1l, b1r⟩ := b1
    go_enter Try.func11, Try.ntmps11
    go_wp2_with (go_at_call 38; refine (within_any _ _ _ _).mono ?_; rintro e w' ⟨rfl, rfl⟩)
    go_loopw [3, 4] (fun v d wr => ∃ k : Nat, (k : Int) ≤ n ∧ d = .int .i64 ((k : Int) + 1) ∧ Row wr w.heap.size v (divTo n k) ∧ Below w.heap.size w wr) (fun _ d _ => (n + 1 - intOf d).toNat)
    case atStart => exact ⟨0, by omega, rfl, Row.nil _ _, Below.refl _ _⟩
    case round =>
      obtain ⟨k, hk, rfl, hown, hb⟩ := hrel
      have hlen := divTo_len n k
      have hsz := hb.size
      by_cases hlt : (k : Int) + 1 ≤ n
      · by_cases hd : n % ((k : Int) + 1) = 0
        · have HD := Lib.hid hd
          have hdb : (n % ((k : Int) + 1) == 0) = true := by simp [hd]
          clear hd
          go_wp2_with (at_builtin; go_must (refine wpList_app1 rfl _ _ rfl w.heap.size _ (divTo n k) ((k : Int) + 1) rfl rfl (by exact hown) (by omega) (by exact hsz) ?_); intro v1 w1 hown1 hb1)
          have R := Lib.hid (And.intro hown1 (hb.trans hb1))
          clear hown1 hb1 hown hb
          go_wp2
          go_roundw
          case rel => exact ⟨k + 1, by omega, by go_num, by rw [divTo_hit n k HD.out]; exact R.out.1, R.out.2⟩
          case measure => simp [intOf]; omega
        · have HD := Lib.hid hd
          have hdb : (n % ((k : Int) + 1) == 0) = false := by simp [hd]
          clear hd
          go_wp2
          go_roundw
          case rel => exact ⟨k + 1, by omega, by go_num, by rw [divTo_miss n k HD.out]; exact hown, hb⟩
          case measure => simp [intOf]; omega
      · have hkn : k = n.toNat := by omega
        have HR : Hid (divs n = divTo n k) := by simp [Hid, divs, h1, hkn]
        clear hkn
        go_wp2
        go_ret
        exact GivesInts.of_row (by rw [HR.out]; exact hown) (by omega) hb
  · rw [Bool.not_eq_true] at h1
    have HR : Hid (divs n = []) := by simp [Hid, divs, h1]
    go_enter Try.func11, Try.ntmps11
    go_wp2_with (go_at_call 38; refine (within_any _ _ _ _).mono ?_; rintro e w' ⟨rfl, rfl⟩)
    go_ret
    exact GivesInts.of_row (by rw [HR.out]; exact Row.nil _ _) (by omega) (Below.refl _ _)
end Go.Proofs.Ytgfdmjhdfddopaa
