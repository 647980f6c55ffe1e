/- Whether a number is in a list: the library's search and the reference's; remainders. -/
import Derived.Test.YtihbgpcmphemmaaEqInt
import Derived.Test.YtihbgpcmphemmaaNum
namespace Go.Proofs.Ytihbgpcmphemmaa
open Go.RowKit

def memB (xs : List Int) (x : Int) : Bool := xs.contains x
theorem memB_iff {xs : List Int} {x : Int} : memB xs x = true ↔ x ∈ xs := by simp [memB]
theorem memB_take_succ {xs : List Int} {k : Nat} {x y : Int} (h : memB (xs.take k) x = false) (hy : xs[k]? = some y) (hne : x ≠ y) : memB (xs.take (k + 1)) x = false := by
  rw [Bool.eq_false_iff] at *
  rw [Ne, memB_iff] at *
  rw [List.take_add_one, hy]
  simp [h, hne]
theorem memB_hit {xs : List Int} {k : Nat} {x : Int} (hy : xs[k]? = some x) : memB xs x = true := memB_iff.2 (List.mem_of_getElem? hy)
theorem memB_none {xs : List Int} {k : Nat} {x : Int} (h : memB (xs.take k) x = false) (hk : xs.length ≤ k) : memB xs x = false := by rwa [List.take_of_length_le hk] at h

def FoundAt (xs : List Int) (x : Int) (w : World) (e : Ending) (w' : World) : Prop := ∃ r : Int, e = .returned (.int .i64 r) ∧ decide (0 ≤ r) = memB xs x ∧ w = w'
set_option maxHeartbeats 400000 in
theorem index_any (A : Option Addr) (c : Nat) (xs : List Int) (x : Int) (w : World) (hx : IR w A xs) :
    Calls Try.prog 86 #[.slice A xs.length c, .int .i64 x] w (FoundAt xs x w) := by
  have hlx := hx.len
  go_enter Try.func86, Try.ntmps86
  go_wp2
  go_loop [8] (fun i => ∃ k : Nat, k ≤ xs.length ∧ i = .int .i64 k ∧ memB (xs.take k) x = false) (fun i => xs.length - (intOf i).toNat)
  case atStart => exact ⟨0, by omega, rfl, rfl⟩
  case round =>
    obtain ⟨k, hk, rfl, hm⟩ := hrel
    have HM := Bx.mk hm
    clear hm
    by_cases hlt : k < xs.length
    · obtain ⟨b, o, y, rfl, hb, c1, H1⟩ := hx.one hlt
      have H2 := Bx.mk H1.out
      have hkl : (k : Int) < xs.length := by omega
      by_cases hxy : x = y
      · subst hxy
        have HH := Bx.mk (memB_hit H2.out)
        go_wp2
        go_ret
        exact ⟨_, rfl, by rw [HH.out]; simp, rfl⟩
      · have hb : (x == y) = false := by simpa using hxy
        have HS := Bx.mk (memB_take_succ HM.out H2.out hxy)
        clear hxy
        go_wp2
        go_round
        case rel => exact ⟨k + 1, by omega, by go_num, HS.out⟩
        case measure => simp [intOf]; omega
    · have HH := Bx.mk (memB_none HM.out (by omega))
      go_wp2
      go_ret
      exact ⟨_, rfl, by rw [HH.out]; simp, rfl⟩
theorem contains_any (A : Option Addr) (c : Nat) (xs : List Int) (x : Int) (w : World) (hx : IR w A xs) :
    Calls Try.prog 69 #[.slice A xs.length c, .int .i64 x] w fun e w' => e = .returned (.bool (memB xs x)) ∧ w = w' := by
  go_enter Try.func69, Try.ntmps69
  go_wp2_with (go_at_call 86; refine (index_any _ _ _ _ _ (by exact hx)).mono ?_; rintro e w' ⟨r, rfl, hr, rfl⟩)
  go_ret
  exact ⟨ret_bool (by simp), rfl⟩
set_option maxHeartbeats 400000 in
theorem l02Has_any (A : Option Addr) (c : Nat) (xs : List Int) (x : Int) (w : World) (hx : IR w A xs) :
    Calls Try.prog 49 #[.slice A xs.length c, .int .i64 x] w fun e w' => e = .returned (.bool (memB xs x)) ∧ w = w' := by
  have hlx := hx.len
  go_enter Try.func49, Try.ntmps49
  go_wp2
  go_loop [9] (fun i => ∃ k : Nat, k ≤ xs.length ∧ i = .int .i64 k ∧ memB (xs.take k) x = false) (fun i => xs.length - (intOf i).toNat)
  case atStart => exact ⟨0, by omega, rfl, rfl⟩
  case round =>
    obtain ⟨k, hk, rfl, hm⟩ := hrel
    have HM := Bx.mk hm
    clear hm
    by_cases hlt : k < xs.length
    · obtain ⟨b, o, y, rfl, hb, c1, H1⟩ := hx.one hlt
      have H2 := Bx.mk H1.out
      have hkl : (k : Int) < xs.length := by omega
      by_cases hxy : x = y
      · subst hxy
        have HH := Bx.mk (memB_hit H2.out)
        go_wp2
        go_ret
        exact ⟨ret_bool HH.out.symm, rfl⟩
      · have hb : (x == y) = false := by simpa using hxy
        have HS := Bx.mk (memB_take_succ HM.out H2.out hxy)
        clear hxy
        go_wp2
        go_round
        case rel => exact ⟨k + 1, by omega, by go_num, HS.out⟩
        case measure => simp [intOf]; omega
    · have HH := Bx.mk (memB_none HM.out (by omega))
      go_wp2
      go_ret
      exact ⟨ret_bool HH.out.symm, rfl⟩
theorem tmod_rem (k n : Int) (hn : 1 ≤ n) : (k.tmod n + n) % n = k % n ∧ -n < k.tmod n ∧ k.tmod n < n := by
  have h1 : (k.tmod n) = k - n * (k.tdiv n) := by have := Int.mul_tdiv_add_tmod k n; omega
  have h2 : (k.tmod n + n) % n = k % n := by
    rw [Int.add_emod_right, h1]
    exact Int.sub_mul_emod_self_left k n _
  refine ⟨h2, Int.lt_tmod_of_pos k (by omega), Int.tmod_lt_of_pos k (by omega)⟩
theorem remainder_any (k n : Int) (hn : 1 ≤ n) (hn2 : n ≤ 1000000) (_hk : -1000000000000 ≤ k ∧ k ≤ 1000000000000) (w : World) :
    Calls Try.prog 73 #[.int .i64 k, .int .i64 n] w fun e w' => e = .returned (.int .i64 (k % n)) ∧ w = w' := by
  have hr := tmod_rem k n hn
  go_enter Try.func73, Try.ntmps73
  go_wp2
  go_ret
  exact ⟨ret_int hr.1, rfl⟩
end Go.Proofs.Ytihbgpcmphemmaa
