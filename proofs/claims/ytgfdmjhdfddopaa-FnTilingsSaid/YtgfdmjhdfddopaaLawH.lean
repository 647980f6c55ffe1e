/- The law's helpers on lists of ints. -/
import Derived.Test.YtgfdmjhdfddopaaLawRh
import Derived.Test.YtgfdmjhdfddopaaBas
namespace Go.Proofs.Ytgfdmjhdfddopaa
open Go.RowKit
set_option maxRecDepth 20000

theorem memB_take_no {xs : List Int} {i : Nat} {x k : Int} (h : xs[i]? = some x) (h0 : memB (xs.take i) k = false) (hx : x ≠ k) : memB (xs.take (i + 1)) k = false := by
  rw [Bool.eq_false_iff] at h0 ⊢
  intro hm
  rw [memB_iff, List.take_add_one, h, List.mem_append] at hm
  rcases hm with hm | hm
  · exact h0 (memB_iff.2 hm)
  · simp at hm; exact hx hm.symm
set_option maxHeartbeats 400000 in
theorem lawHas_any (A : Option Addr) (c : Nat) (xs : List Int) (k : Int) (w : World) (hx : IR w A xs) :
    Calls Try.prog 12 #[.slice A xs.length c, .int .i64 k] w fun e w' => e = .returned (.bool (memB xs k)) ∧ w = w' := by
  have hlx := hx.len
  have HX := Bx.mk hx
  clear hx
  go_enter Try.func12, Try.ntmps12
  go_wp2_with fail
  go_loop [9] (fun iv => ∃ (i : Nat), i ≤ xs.length ∧ iv = .int .i64 i ∧ Bx (memB (xs.take i) k = false)) (fun iv => xs.length - (intOf iv).toNat)
  case atStart => exact ⟨0, by omega, rfl, ⟨by simp [memB]⟩⟩
  case round =>
    obtain ⟨i, hi, rfl, HM⟩ := hrel
    by_cases hlt : i < xs.length
    · obtain ⟨b, o, x, rfl, hb, c1, H3⟩ := HX.out.one hlt
      have H4 := Bx.mk H3.out
      clear H3
      have hli : (i : Int) < xs.length := by omega
      by_cases hxk : x = k
      · subst hxk
        have HR : Bx (memB xs x = true) := ⟨memB_iff.2 (List.mem_of_getElem? H4.out)⟩
        go_wp2_with fail
        go_ret
        exact ⟨ret_bool HR.out.symm, rfl⟩
      · have hxb : (x == k) = false := beq_eq_false_iff_ne.2 hxk
        have HM2 := Bx.mk (memB_take_no H4.out HM.out hxk)
        go_wp2_with fail
        go_round
        case rel => exact ⟨i + 1, by omega, by go_num, HM2⟩
        case measure => simp [intOf]; omega
    · have hie : i = xs.length := by omega
      have HR : Bx (memB xs k = false) := ⟨by have := HM.out; rw [hie, List.take_length] at this; exact this⟩
      have hli : ¬ (i : Int) < xs.length := by omega
      clear hie
      go_wp2_with fail
      go_ret
      exact ⟨ret_bool HR.out.symm, rfl⟩
theorem sum_take_bd {xs : List Int} (h : ∀ x ∈ xs, 0 ≤ x ∧ x ≤ 100000) : ∀ i, 0 ≤ (xs.take i).sum ∧ (xs.take i).sum ≤ (i : Int) * 100000 := by
  intro i
  induction i with
  | zero => simp
  | succ i ih =>
    rw [List.take_add_one]
    cases hx : xs[i]? with
    | none => simp; omega
    | some x =>
      have := h x (List.mem_of_getElem? hx)
      rw [List.sum_append]
      simp only [Option.toList_some, List.sum_cons, List.sum_nil]
      omega
theorem sum_take_succ {xs : List Int} {i : Nat} {x : Int} (h : xs[i]? = some x) : (xs.take (i + 1)).sum = (xs.take i).sum + x := by
  rw [List.take_add_one, h, List.sum_append]; simp
end Go.Proofs.Ytgfdmjhdfddopaa
