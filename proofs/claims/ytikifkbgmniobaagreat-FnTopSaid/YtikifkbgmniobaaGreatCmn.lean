/- The code of a rhythm and the beats that two have in common: both sides. -/
import Derived.Test.YtikifkbgmniobaaGreatCmnPlain
import Derived.Test.YtikifkbgmniobaaGreatCms
import Derived.Test.YtikifkbgmniobaaGreatBas
import Derived.Deep.RegionHeld3
import Derived.Deep.DeepCutAuto
import Derived.Deep.RegionWith
namespace Go.Proofs.YtikifkbgmniobaaGreat
open Go.RowKit
set_option maxRecDepth 20000

theorem pow_small : ∀ q : Nat, q < 24 → 2 ^ q ≤ 8388608 := by decide
theorem take_snoc {xs : List Int} {j : Nat} (hj : j < xs.length) : xs.take (j + 1) = xs.take j ++ [xs[j]?.getD 0] := by
  rw [List.take_add_one, List.getElem?_eq_getElem hj]; rfl
set_option maxHeartbeats 1000000 in
theorem codeN_any (n : Nat) (A : Option Addr) (c : Nat) (xs : List Int) (w : World) (hn1 : 1 ≤ n) (hn : n ≤ 24) (hb : ∀ x ∈ xs, 0 ≤ x ∧ x < n) (hl : xs.length ≤ 1000) (hx : IR w A xs) :
    Calls Tryz.prog 26 #[.agg #[.int .i64 n, .slice A xs.length c]] w fun e w' => e = .returned (.int .i64 (codeN n xs : Nat)) ∧ Below w.heap.size w w' := by
  obtain ⟨W0, hW0⟩ : ∃ W0, W0 = w.alloc (.cells #[.int .i64 n, .slice A xs.length c] 26) := ⟨_, rfl⟩
  have bw : Below w.heap.size w W0 := by rw [hW0]; exact below_alloc _ _
  have k0 : W0.cell? ⟨w.heap.size, 0, none⟩ = some (.int .i64 n) := by rw [hW0]; simp [go_sem]
  have k1 : W0.cell? ⟨w.heap.size, 1, none⟩ = some (.slice A xs.length c) := by rw [hW0]; simp [go_sem]
  have HX := Bx.mk (hx.below bw)
  have HMB : Bx (∀ i, i < xs.length → 0 ≤ xs[i]?.getD 0 ∧ xs[i]?.getD 0 < n) := ⟨fun i hi => by rw [List.getElem?_eq_getElem hi]; exact hb _ (List.getElem_mem hi)⟩
  clear hx hb
  go_enter Tryz.func26, Tryz.ntmps26
  go_wp2_with fail
  rw [← hW0]
  clear hW0
  go_loopw [3, 9] (fun a i wr => ∃ j : Nat, j ≤ xs.length ∧ i = .int .i64 j ∧ a = .int .i64 (codeN n (xs.take j) : Nat) ∧ wr = W0) (fun _ i _ => xs.length - (intOf i).toNat)
  case atStart => exact ⟨0, by omega, rfl, by simp [codeN], rfl⟩
  case round =>
    obtain ⟨j, hj, rfl, rfl, rfl⟩ := hrel
    by_cases hlt : j < xs.length
    · have hji : (j : Int) < (xs.length : Int) := by omega
      obtain ⟨b, o, rfl, hbk, hc⟩ := HX.out.at_ (by omega)
      have cj := hc j hlt
      obtain ⟨hx1, hx2⟩ := HMB.out j hlt
      have HN : Bx (codeN n (xs.take (j + 1)) = codeN n (xs.take j) ||| 2 ^ (n - 1 - (xs[j]?.getD 0).toNat)) := ⟨by rw [take_snoc hlt, codeN_snoc]⟩
      obtain ⟨x, hxe⟩ : ∃ x, x = xs[j]?.getD 0 := ⟨_, rfl⟩
      rw [← hxe] at cj hx1 hx2 HN
      obtain ⟨q, hq⟩ : ∃ q, q = n - 1 - x.toNat := ⟨_, rfl⟩
      have hqi : (n : Int) - 1 - x = (q : Int) := by omega
      have hqb : q < 24 := by omega
      obtain ⟨m, hm⟩ : ∃ m : Nat, m = 2 ^ q := ⟨_, rfl⟩
      have hmb : m ≤ 8388608 := by rw [hm]; exact pow_small q hqb
      have hsh : wrap64 ((2 : Int) ^ q) = (m : Int) := by rw [hm]; exact wrap_pow (by omega)
      have hab := codeN_lt hn (xs.take j)
      obtain ⟨a, ha⟩ : ∃ a, a = codeN n (xs.take j) := ⟨_, rfl⟩
      rw [← ha] at hab HN ⊢
      rw [← hq, ← hm] at HN
      have hor : bits .or .i64 (a : Int) (m : Int) = ((a ||| m : Nat) : Int) := i64_or a m (Nat.lt_of_lt_of_le hab (by decide)) (Nat.lt_of_le_of_lt hmb (by decide))
      have hw1 : IntKind.i64.wrap ((n : Int) - 1) = (n : Int) - 1 := IntWalk.i64_in _ (by omega)
      have hw2 : IntKind.i64.wrap ((n : Int) - 1 - x) = (q : Int) := (IntWalk.i64_in _ (by omega)).trans hqi
      obtain ⟨r, hr⟩ : ∃ r, r = a ||| m := ⟨_, rfl⟩
      rw [← hr] at hor HN
      clear hc hxe hq hm ha hr
      go_wp2_with fail
      go_roundw
      case rel => exact ⟨j + 1, by omega, by go_num, by rw [HN.out], by first | rfl | trivial⟩
      case measure => simp [intOf]; omega
    · have HR : Bx (codeN n xs = codeN n (xs.take j)) := ⟨by rw [List.take_of_length_le (by omega)]⟩
      have hji : ¬ (j : Int) < (xs.length : Int) := by omega
      go_wp2_with fail
      go_ret
      exact ⟨by rw [HR.out] <;> rfl, bw⟩
end Go.Proofs.YtikifkbgmniobaaGreat
