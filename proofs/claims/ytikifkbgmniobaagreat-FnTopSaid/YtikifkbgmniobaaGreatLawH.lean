/- The law's helpers on lists of ints. -/
import Derived.Test.YtikifkbgmniobaaGreatLws
import Derived.Test.YtikifkbgmniobaaGreatBas
namespace Go.Proofs.YtikifkbgmniobaaGreat
open Go.RowKit
set_option maxRecDepth 20000

theorem memB_take_no {xs : List Int} {i : Nat} {x k : Int} (h : xs[i]? = some x) (h0 : memB (xs.take i) k = false) (hx : x ≠ k) : memB (xs.take (i + 1)) k = false := by
  rw [Bool.eq_false_iff] at h0 ⊢
  intro hm
  rw [memB_iff, List.take_add_one, h, List.mem_append] at hm
  rcases hm with hm | hm
  · exact h0 (memB_iff.2 hm)
  · simp at hm; exact hx hm.symm
set_option maxHeartbeats 400000 in
theorem lawSame_any (A B : Option Addr) (c d : Nat) (xs ys : List Int) (w : World) (hx : IR w A xs) (hy : IR w B ys) :
    Calls Tryz.prog 41 #[.slice A xs.length c, .slice B ys.length d] w fun e w' => e = .returned (.bool (decide (xs = ys))) ∧ w = w' := by
  have hlx := hx.len
  have hly := hy.len
  have HX := Bx.mk hx
  have HY := Bx.mk hy
  clear hx hy
  by_cases hl : xs.length = ys.length
  · have HL := Bx.mk hl
    rw [← hl]
    clear hl hly
    go_enter Tryz.func41, Tryz.ntmps41
    go_wp2_with fail
    go_loop [14] (fun iv => ∃ (i : Nat), i ≤ xs.length ∧ iv = .int .i64 i ∧ Bx (xs.take i = ys.take i)) (fun iv => xs.length - (intOf iv).toNat)
    case atStart => exact ⟨0, by omega, rfl, ⟨by simp⟩⟩
    case round =>
      obtain ⟨i, hi, rfl, HM⟩ := hrel
      by_cases hlt : i < xs.length
      · obtain ⟨b, o, x, rfl, hb, c1, H3⟩ := HX.out.one hlt
        obtain ⟨b', o', y, rfl, hb', c1', H3'⟩ := HY.out.one (k := i) (by rw [← HL.out]; exact hlt)
        have H4 := Bx.mk H3.out
        have H5 := Bx.mk H3'.out
        clear H3 H3'
        have hli : (i : Int) < xs.length := by omega
        by_cases hxk : x = y
        · subst hxk
          have HM2 : Bx (xs.take (i + 1) = ys.take (i + 1)) := ⟨by rw [List.take_add_one, List.take_add_one, HM.out, H4.out, H5.out]⟩
          go_wp2_with fail
          go_round
          case rel => exact ⟨i + 1, by omega, by go_num, HM2⟩
          case measure => simp [intOf]; omega
        · have hxb : (x == y) = false := beq_eq_false_iff_ne.2 hxk
          have hxb2 : (x != y) = true := by rw [bne_iff_ne]; exact hxk
          have HR : Bx (decide (xs = ys) = false) := ⟨by
            rw [decide_eq_false_iff_not]
            intro e
            have h4 := H4.out
            rw [e, H5.out] at h4
            injection h4 with h4
            exact hxk h4.symm⟩
          go_wp2_with fail
          go_ret
          exact ⟨ret_bool HR.out.symm, rfl⟩
      · have hie : i = xs.length := by omega
        have HR : Bx (decide (xs = ys) = true) := ⟨by
          rw [decide_eq_true_iff]
          have := HM.out
          rw [hie, List.take_length, HL.out, List.take_length] at this
          exact this⟩
        have hli : ¬ (i : Int) < xs.length := by omega
        clear hie
        go_wp2_with fail
        go_ret
        exact ⟨ret_bool HR.out.symm, rfl⟩
  · have HR : Bx (decide (xs = ys) = false) := ⟨by rw [decide_eq_false_iff_not]; intro e; exact hl (by rw [e])⟩
    have hlb : (((xs.length : Nat) : Int) == ((ys.length : Nat) : Int)) = false := beq_eq_false_iff_ne.2 (by omega)
    have hlb2 : (((xs.length : Nat) : Int) != ((ys.length : Nat) : Int)) = true := by rw [bne_iff_ne]; omega
    go_enter Tryz.func41, Tryz.ntmps41
    go_wp2_with fail
    go_ret
    exact ⟨ret_bool HR.out.symm, rfl⟩
theorem sum_take_bd {xs : List Int} (h : ∀ x ∈ xs, 0 ≤ x ∧ x ≤ 100000) : ∀ i, 0 ≤ (xs.take i).sum ∧ (xs.take i).sum ≤ (i : Int) * 100000 := by
  intro i
  induction i with
  | zero => simp
  | succ i ih =>
    rw [List.take_add_one]
    cases hx : xs[i]? with
    | none => simp; omega
    | some x =>
      have := h x (List.mem_of_getElem? hx)
      rw [List.sum_append]
      simp only [Option.toList_some, List.sum_cons, List.sum_nil]
      omega
theorem sum_take_succ {xs : List Int} {i : Nat} {x : Int} (h : xs[i]? = some x) : (xs.take (i + 1)).sum = (xs.take i).sum + x := by
  rw [List.take_add_one, h, List.sum_append]; simp
set_option maxHeartbeats 400000 in
theorem lawRhythms_any (s t : Int) (A B : Option Addr) (c d : Nat) (xs ys : List Int) (w : World) (hx : IR w A xs) (hy : IR w B ys) :
    Calls Tryz.prog 15 #[.agg #[.int .i64 s, .slice A xs.length c], .agg #[.int .i64 t, .slice B ys.length d]] w fun e w' => e = .returned (.bool (decide (s = t ∧ xs = ys))) ∧ Below w.heap.size w w' := by
  obtain ⟨W2, hW2⟩ : ∃ W2, W2 = ((w.alloc (.cells #[.int .i64 s, .slice A xs.length c] 26)).alloc (.cells #[.int .i64 t, .slice B ys.length d] 26)) := ⟨_, rfl⟩
  have b2 : Below w.heap.size w W2 := by rw [hW2]; exact ((Below.refl _ _).alloc (Nat.le_refl _) _).alloc (by simp) _
  have k0 : W2.cell? ⟨w.heap.size, 0, none⟩ = some (.int .i64 s) := by rw [hW2]; simp [go_sem]
  have k1 : W2.cell? ⟨w.heap.size, 1, none⟩ = some (.slice A xs.length c) := by rw [hW2]; simp [go_sem]
  have k2 : W2.cell? ⟨w.heap.size + 1, 0, none⟩ = some (.int .i64 t) := by rw [hW2]; simp [go_sem]
  have k3 : W2.cell? ⟨w.heap.size + 1, 1, none⟩ = some (.slice B ys.length d) := by rw [hW2]; simp [go_sem]
  have HX := Bx.mk (hx.below b2)
  have HY := Bx.mk (hy.below b2)
  clear hx hy
  by_cases hst : s = t
  · subst hst
    have hss : (s == s) = true := by simp
    have HR : Bx (decide (s = s ∧ xs = ys) = decide (xs = ys)) := ⟨by simp⟩
    go_enter Tryz.func15, Tryz.ntmps15
    go_wp2_with fail
    rw [← hW2]
    clear hW2
    refine (lawSame_any _ _ _ _ _ _ _ (by exact HX.out) (by exact HY.out)).mono ?_
    rintro e w' ⟨rfl, rfl⟩
    go_wp2_with fail
    go_ret
    exact ⟨ret_bool HR.out.symm, b2⟩
  · have hss : (s == t) = false := beq_eq_false_iff_ne.2 hst
    have HR : Bx (decide (s = t ∧ xs = ys) = false) := ⟨by simp [hst]⟩
    go_enter Tryz.func15, Tryz.ntmps15
    go_wp2_with fail
    rw [← hW2]
    go_ret
    exact ⟨ret_bool HR.out.symm, b2⟩
end Go.Proofs.YtikifkbgmniobaaGreat
