/- The law's helpers on lists of ints. -/
import Derived.Test.YtpejnhcmelkmeaaLws
import Derived.Test.YtpejnhcmelkmeaaBas
namespace Go.Proofs.Ytpejnhcmelkmeaa
open Go.RowKit

theorem memB_take_no {xs : List Int} {i : Nat} {x k : Int} (h : xs[i]? = some x) (h0 : memB (xs.take i) k = false) (hx : x ≠ k) : memB (xs.take (i + 1)) k = false := by
  rw [Bool.eq_false_iff] at h0 ⊢
  intro hm
  rw [memB_iff, List.take_add_one, h, List.mem_append] at hm
  rcases hm with hm | hm
  · exact h0 (memB_iff.2 hm)
  · simp at hm; exact hx hm.symm
set_option maxHeartbeats 400000 in
theorem lawHas_any (A : Option Addr) (c : Nat) (xs : List Int) (k : Int) (w : World) (hx : IR w A xs) :
    Calls Try.prog 12 #[.slice A xs.length c, .int .i64 k] w fun e w' => e = .returned (.bool (memB xs k)) ∧ w = w' := by
  have hlx := hx.len
  have HX := Bx.mk hx
  clear hx
  go_enter Try.func12, Try.ntmps12
  go_wp2_with fail
  go_loop [9] (fun iv => ∃ (i : Nat), i ≤ xs.length ∧ iv = .int .i64 i ∧ Bx (memB (xs.take i) k = false)) (fun iv => xs.length - (intOf iv).toNat)
  case atStart => exact ⟨0, by omega, rfl, ⟨by simp [memB]⟩⟩
  case round =>
    obtain ⟨i, hi, rfl, HM⟩ := hrel
    by_cases hlt : i < xs.length
    · obtain ⟨b, o, x, rfl, hb, c1, H3⟩ := HX.out.one hlt
      have H4 := Bx.mk H3.out
      clear H3
      have hli : (i : Int) < xs.length := by omega
      by_cases hxk : x = k
      · subst hxk
        have HR : Bx (memB xs x = true) := ⟨memB_iff.2 (List.mem_of_getElem? H4.out)⟩
        go_wp2_with fail
        go_ret
        exact ⟨ret_bool HR.out.symm, rfl⟩
      · have hxb : (x == k) = false := beq_eq_false_iff_ne.2 hxk
        have HM2 := Bx.mk (memB_take_no H4.out HM.out hxk)
        go_wp2_with fail
        go_round
        case rel => exact ⟨i + 1, by omega, by go_num, HM2⟩
        case measure => simp [intOf]; omega
    · have hie : i = xs.length := by omega
      have HR : Bx (memB xs k = false) := ⟨by have := HM.out; rw [hie, List.take_length] at this; exact this⟩
      have hli : ¬ (i : Int) < xs.length := by omega
      clear hie
      go_wp2_with fail
      go_ret
      exact ⟨ret_bool HR.out.symm, rfl⟩
theorem sum_take_bd {xs : List Int} (h : ∀ x ∈ xs, 0 ≤ x ∧ x ≤ 100000) : ∀ i, 0 ≤ (xs.take i).sum ∧ (xs.take i).sum ≤ (i : Int) * 100000 := by
  intro i
  induction i with
  | zero => simp
  | succ i ih =>
    rw [List.take_add_one]
    cases hx : xs[i]? with
    | none => simp; omega
    | some x =>
      have := h x (List.mem_of_getElem? hx)
      rw [List.sum_append]
      simp only [Option.toList_some, List.sum_cons, List.sum_nil]
      omega
theorem sum_take_succ {xs : List Int} {i : Nat} {x : Int} (h : xs[i]? = some x) : (xs.take (i + 1)).sum = (xs.take i).sum + x := by
  rw [List.take_add_one, h, List.sum_append]; simp
set_option maxHeartbeats 400000 in
theorem lawGcd_any (a b : Int) (w : World) (ha : 0 ≤ a ∧ a ≤ 1000000) (hb : 0 ≤ b ∧ b ≤ 1000000) :
    Calls Try.prog 6 #[.int .i64 a, .int .i64 b] w fun e w' => e = .returned (.int .i64 (gcdI a b)) ∧ w = w' := by
  go_enter Try.func6, Try.ntmps6
  go_wp2_with fail
  go_loop [0, 1] (fun av bv => ∃ (x y : Int), 0 ≤ x ∧ x ≤ 1000000 ∧ 0 ≤ y ∧ y ≤ 1000000 ∧ av = .int .i64 x ∧ bv = .int .i64 y ∧ Bx (gcdI x y = gcdI a b)) (fun _ bv => (intOf bv).toNat)
  case atStart => exact ⟨a, b, ha.1, ha.2, hb.1, hb.2, rfl, rfl, ⟨rfl⟩⟩
  case round =>
    obtain ⟨x, y, hx0, hx1, hy0, hy1, rfl, rfl, HG⟩ := hrel
    by_cases hy : y = 0
    · subst hy
      have HR : Bx (x = gcdI a b) := ⟨by rw [← HG.out]; unfold gcdI; rw [Int.gcd_zero_right]; omega⟩
      go_wp2_with fail
      go_ret
      exact ⟨ret_int HR.out, rfl⟩
    · have hyp : 0 < y := by omega
      have hr0 := Int.emod_nonneg x hy
      have hr1 := Int.emod_lt_of_pos x hyp
      have HG2 : Bx (gcdI y (x % y) = gcdI a b) := ⟨by rw [gcdI_step x y hx0 hyp]; exact HG.out⟩
      go_wp2_with fail
      go_round
      case rel => exact ⟨y, x % y, hy0, hy1, hr0, by omega, rfl, rfl, HG2⟩
      case measure => simp [intOf]; omega
end Go.Proofs.Ytpejnhcmelkmeaa
