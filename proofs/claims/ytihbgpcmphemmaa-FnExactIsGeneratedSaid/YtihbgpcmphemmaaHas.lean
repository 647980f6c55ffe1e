/- Whether a rhythm has a beat on a pulse, around; the code of a rhythm; whether it avoids a difference. -/
import Derived.Test.YtihbgpcmphemmaaRh
import Derived.Test.YtihbgpcmphemmaaMem
import Derived.Test.YtihbgpcmphemmaaAvoids
import Derived.Test.YtihbgpcmphemmaaGate
import Derived.Deep.RegionHeld3
import Derived.Deep.DeepCutAuto
namespace Go.Proofs.Ytihbgpcmphemmaa
open Go.RowKit

def hasR (s : Int) (xs : List Int) (k : Int) : Bool := memB xs (k % s)
set_option maxHeartbeats 400000 in
theorem has_any (s : Int) (A : Option Addr) (c : Nat) (xs : List Int) (k : Int) (w : World) (hs : 1 ≤ s ∧ s ≤ 24) (hk : -1000000000 ≤ k ∧ k ≤ 1000000000) (hx : IR w A xs) :
    Calls Try.prog 70 #[.agg #[.int .i64 s, .slice A xs.length c], .int .i64 k] w fun e w' => e = .returned (.bool (hasR s xs k)) ∧ Below w.heap.size w w' := by
  have hx1 := Bx.mk (hx.below (below_alloc w (.cells #[.int .i64 s, .slice A xs.length c] 26)))
  obtain ⟨hs1, hs2⟩ := hs
  go_enter Try.func70, Try.ntmps70
  go_wp2
  go_quiet ((first | (go_at_call 73; exact q_same (remainder_any _ _ hs1 (by omega) (by omega) _)) | (go_at_call 69; exact q_same (contains_any _ _ _ _ _ (by exact hx1.out)))))
  go_wp2
  go_ret
  exact ⟨rfl, below_alloc_drewN _ _ _⟩
theorem shl_one (k : Nat) (hk : k ≤ 24) : wrap64 ((2 : Int) ^ k) = ((2 ^ k : Nat) : Int) := wrap_pow hk
theorem code_step {n : Nat} {xs : List Int} {k : Nat} {x : Int} (hn : n ≤ 24) (h1 : 1 ≤ n) (hx : xs[k]? = some x) (hr : 0 ≤ x ∧ x < n) :
    bits .or .i64 ((codeTo n xs k : Nat) : Int) (wrap64 ((2 : Int) ^ ((n : Int) - 1 - x).toNat)) = ((codeTo n xs (k + 1) : Nat) : Int) := by
  have e : ((n : Int) - 1 - x).toNat = n - 1 - x.toNat := by omega
  have hlt := codeTo_lt n h1 xs k
  have h24 := pow_le_24 hn
  have hp := pow_le_24 (n := n - 1 - x.toNat) (by omega)
  rw [e, shl_one _ (by omega), i64_or _ _ (by omega) (by omega)]
  simp only [codeTo, hx, Option.getD_some]
set_option maxHeartbeats 400000 in
theorem code_any (s : Int) (A : Option Addr) (c : Nat) (xs : List Int) (w : World) (hok : rhOk s xs = true) (hx : IR w A xs) :
    Calls Try.prog 85 #[.agg #[.int .i64 s, .slice A xs.length c]] w fun e w' => e = .returned (.int .i64 (codeR s xs : Nat)) ∧ Below w.heap.size w w' := by
  have hW := below_alloc w (.cells #[.int .i64 s, .slice A xs.length c] 26)
  have hlx := hx.len
  obtain ⟨⟨hs1, hs2⟩, hmem, _⟩ := rhOk_iff.1 hok
  have HM := Bx.mk hmem
  obtain ⟨n, rfl⟩ := Int.eq_ofNat_of_zero_le (show 0 ≤ s by omega)
  have HR : Bx (codeR (n : Int) xs = codeTo n xs xs.length) := ⟨by simp [codeR]⟩
  clear hmem hok
  go_enter Try.func85, Try.ntmps85
  go_wp2
  go_loop [3, 9] (fun v i => ∃ k : Nat, k ≤ xs.length ∧ i = .int .i64 k ∧ v = .int .i64 (codeTo n xs k : Nat)) (fun _ i => xs.length - (intOf i).toNat)
  case atStart => exact ⟨0, by omega, rfl, rfl⟩
  case round =>
    obtain ⟨k, hk, rfl, rfl⟩ := hrel
    by_cases hlt : k < xs.length
    · obtain ⟨b, o, x, rfl, hb, c1, H1⟩ := hx.one hlt
      have H2 := Bx.mk H1.out
      have hkl : (k : Int) < xs.length := by omega
      have hxr := HM.out x (List.mem_of_getElem? H2.out)
      obtain ⟨hxr1, hxr2⟩ := hxr
      have HS := Bx.mk (code_step (n := n) (by omega) (by omega) H2.out ⟨hxr1, hxr2⟩)
      have hd : 0 ≤ (n : Int) - 1 - x := by omega
      have hd2 : (n : Int) - 1 - x ≤ 23 := by omega
      generalize codeTo n xs k = ck at *
      go_wp2
      go_round
      case rel => exact ⟨k + 1, by omega, by go_num, by rw [← HS.out]⟩
      case measure => simp [intOf]; omega
    · have hkx : k = xs.length := by omega
      subst hkx
      go_wp2
      go_ret
      exact ⟨ret_int (by rw [HR.out]), hW⟩
end Go.Proofs.Ytihbgpcmphemmaa
