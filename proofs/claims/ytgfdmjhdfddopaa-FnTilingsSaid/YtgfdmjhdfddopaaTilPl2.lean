/- What the law on tilings says, in plain words. -/
import Derived.Test.YtgfdmjhdfddopaaTilPl
import Derived.Test.YtgfdmjhdfddopaaCms
import Derived.Test.YtgfdmjhdfddopaaRts
namespace Go.Proofs.Ytgfdmjhdfddopaa
open Go.RowKit
set_option maxRecDepth 20000

theorem btw_tiles {n : Nat} {xs ys : List Int} (hx : rhOk n xs = true) (hy : rhOk n ys = true) : btw n xs n ys 1 1 = tilesB n xs ys := by
  rw [btw_all hx hy, tiles_btw hx]
theorem tile_left {n : Nat} (h12 : n ≤ 12) {xs ys : List Int} (hx : rhOk n xs = true) (hy : rhOk n ys = true) : tilesB n xs ys = (decide ((leftI n xs n ys).length = 0) && decide (xs.length * ys.length = n)) := by
  by_cases hl : xs.length * ys.length = n
  · rw [decide_eq_true hl, Bool.and_true, Bool.eq_iff_iff, decide_eq_true_iff, (tile_iff h12 hx hy hl).1, left_nil hx hy]
  · rw [decide_eq_false hl, Bool.and_false]
    unfold tilesB
    refine decide_eq_false fun h => hl ?_
    have : ((xs.length * ys.length : Nat) : Int) = n := by rw [Int.natCast_mul]; exact h.1
    omega
theorem tiles_mul {n : Nat} {xs ys : List Int} (ht : tilesB n xs ys = true) : xs.length * ys.length = n := by
  unfold tilesB at ht
  rw [decide_eq_true_iff] at ht
  have : ((xs.length * ys.length : Nat) : Int) = n := by rw [Int.natCast_mul]; exact ht.1
  omega
theorem ord_no1 {n : Nat} {xs : List Int} (hok : rhOk n xs = true) : memB (ordI n xs) 1 = false := by
  refine Bool.eq_false_iff.2 fun h => ?_
  rw [memB_iff] at h
  obtain ⟨d, e, h1, _⟩ := ord_bd hok 1 h
  omega
theorem divs_case {n : Nat} (h1 : 1 ≤ n) (h : n ≤ 24) {x : Int} (hx : x ∈ divs (n : Int)) : x = 1 ∨ ∃ d : Nat, x = d ∧ 2 ≤ d ∧ d ≤ 24 ∧ d ∈ dvs n := by
  rw [divs_dvs h1 h] at hx
  rcases List.mem_cons.1 hx with h | h
  · exact .inl h
  · obtain ⟨d, hd, rfl⟩ := List.mem_map.1 h
    have := dvs_bd hd
    exact .inr ⟨d, rfl, by omega, by omega, hd⟩
theorem pTab_two : ((List.range 25).all fun d => pTab[d]?.getD 0 == 0 || decide (2 ≤ pTab[d]?.getD 0)) = true := by decide +kernel
theorem pp_two {n : Nat} {xs : List Int} (hok : rhOk n xs = true) {x : Int} (hx : x ∈ ppI n xs) : 2 ≤ primeI x ∧ primeI x ≤ 1000 ∧ memB (ordI n xs) x = true := by
  unfold ppI at hx
  obtain ⟨h1, h2⟩ := List.mem_filter.1 hx
  obtain ⟨d, rfl, h3, h4⟩ := ord_bd hok x h1
  unfold qn ppP at h2
  rw [prime_tab d (by omega) h4] at h2 ⊢
  have := pTab_two
  rw [List.all_eq_true] at this
  have := this d (List.mem_range.2 (by omega))
  have hb : ((List.range 25).all fun d => decide (pTab[d]?.getD 0 ≤ 1000)) = true := by decide +kernel
  rw [List.all_eq_true] at hb
  have hb := hb d (List.mem_range.2 (by omega))
  simp only [Bool.or_eq_true, beq_iff_eq, decide_eq_true_eq, Bool.not_eq_true', beq_eq_false_iff_ne] at this h2 hb
  refine ⟨?_, hb, memB_iff.2 h1⟩
  rcases this with e | e
  · exact absurd e h2
  · exact e
theorem cm_42 : cmI 4 2 = 3 := by decide +kernel
end Go.Proofs.Ytgfdmjhdfddopaa
