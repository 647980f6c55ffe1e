/- The law's helpers on lists of ints. -/
import Derived.Test.YtlgiijibekobfaaLawRh
import Derived.Test.YtlgiijibekobfaaBas
namespace Go.Proofs.Ytlgiijibekobfaa
open Go.RowKit

theorem memB_take_no {xs : List Int} {i : Nat} {x k : Int} (h : xs[i]? = some x) (h0 : memB (xs.take i) k = false) (hx : x ≠ k) : memB (xs.take (i + 1)) k = false := by
  rw [Bool.eq_false_iff] at h0 ⊢
  intro hm
  rw [memB_iff, List.take_add_one, h, List.mem_append] at hm
  rcases hm with hm | hm
  · exact h0 (memB_iff.2 hm)
  · simp at hm; exact hx hm.symm
set_option maxHeartbeats 400000 in
theorem lawHas_any (A : Option Addr) (c : Nat) (xs : List Int) (k : Int) (w : World) (hx : IR w A xs) :
    Calls Try.prog 10 #[.slice A xs.length c, .int .i64 k] w fun e w' => e = .returned (.bool (memB xs k)) ∧ w = w' := by
  have hlx := hx.len
  have HX := Bx.mk hx
  clear hx
  go_enter Try.func10, Try.ntmps10
  go_wp2_with fail
  go_loop [9] (fun iv => ∃ (i : Nat), i ≤ xs.length ∧ iv = .int .i64 i ∧ Bx (memB (xs.take i) k = false)) (fun iv => xs.length - (intOf iv).toNat)
  case atStart => exact ⟨0, by omega, rfl, ⟨by simp [memB]⟩⟩
  case round =>
    obtain ⟨i, hi, rfl, HM⟩ := hrel
    by_cases hlt : i < xs.length
    · obtain ⟨b, o, x, rfl, hb, c1, H3⟩ := HX.out.one hlt
      have H4 := Bx.mk H3.out
      clear H3
      have hli : (i : Int) < xs.length := by omega
      by_cases hxk : x = k
      · subst hxk
        have HR : Bx (memB xs x = true) := ⟨memB_iff.2 (List.mem_of_getElem? H4.out)⟩
        go_wp2_with fail
        go_ret
        exact ⟨ret_bool HR.out.symm, rfl⟩
      · have hxb : (x == k) = false := beq_eq_false_iff_ne.2 hxk
        have HM2 := Bx.mk (memB_take_no H4.out HM.out hxk)
        go_wp2_with fail
        go_round
        case rel => exact ⟨i + 1, by omega, by go_num, HM2⟩
        case measure => simp [intOf]; omega
    · have hie : i = xs.length := by omega
      have HR : Bx (memB xs k = false) := ⟨by have := HM.out; rw [hie, List.take_length] at this; exact this⟩
      have hli : ¬ (i : Int) < xs.length := by omega
      clear hie
      go_wp2_with fail
      go_ret
      exact ⟨ret_bool HR.out.symm, rfl⟩
set_option maxHeartbeats 400000 in
theorem lawSame_any (A B : Option Addr) (c d : Nat) (xs ys : List Int) (w : World) (hx : IR w A xs) (hy : IR w B ys) :
    Calls Try.prog 80 #[.slice A xs.length c, .slice B ys.length d] w fun e w' => e = .returned (.bool (decide (xs = ys))) ∧ w = w' := by
  have hlx := hx.len
  have hly := hy.len
  have HX := Bx.mk hx
  have HY := Bx.mk hy
  clear hx hy
  by_cases hl : xs.length = ys.length
  · have HL := Bx.mk hl
    rw [← hl]
    clear hl hly
    go_enter Try.func80, Try.ntmps80
    go_wp2_with fail
    go_loop [14] (fun iv => ∃ (i : Nat), i ≤ xs.length ∧ iv = .int .i64 i ∧ Bx (xs.take i = ys.take i)) (fun iv => xs.length - (intOf iv).toNat)
    case atStart => exact ⟨0, by omega, rfl, ⟨by simp⟩⟩
    case round =>
      obtain ⟨i, hi, rfl, HM⟩ := hrel
      by_cases hlt : i < xs.length
      · obtain ⟨b, o, x, rfl, hb, c1, H3⟩ := HX.out.one hlt
        obtain ⟨b', o', y, rfl, hb', c1', H3'⟩ := HY.out.one (k := i) (by rw [← HL.out]; exact hlt)
        have H4 := Bx.mk H3.out
        have H5 := Bx.mk H3'.out
        clear H3 H3'
        have hli : (i : Int) < xs.length := by omega
        by_cases hxk : x = y
        · subst hxk
          have HM2 : Bx (xs.take (i + 1) = ys.take (i + 1)) := ⟨by rw [List.take_add_one, List.take_add_one, HM.out, H4.out, H5.out]⟩
          go_wp2_with fail
          go_round
          case rel => exact ⟨i + 1, by omega, by go_num, HM2⟩
          case measure => simp [intOf]; omega
        · have hxb : (x == y) = false := beq_eq_false_iff_ne.2 hxk
          have hxb2 : (x != y) = true := by rw [bne_iff_ne]; exact hxk
          have HR : Bx (decide (xs = ys) = false) := ⟨by
            rw [decide_eq_false_iff_not]
            intro e
            have h4 := H4.out
            rw [e, H5.out] at h4
            injection h4 with h4
            exact hxk h4.symm⟩
          go_wp2_with fail
          go_ret
          exact ⟨ret_bool HR.out.symm, rfl⟩
      · have hie : i = xs.length := by omega
        have HR : Bx (decide (xs = ys) = true) := ⟨by
          rw [decide_eq_true_iff]
          have := HM.out
          rw [hie, List.take_length, HL.out, List.take_length] at this
          exact this⟩
        have hli : ¬ (i : Int) < xs.length := by omega
        clear hie
        go_wp2_with fail
        go_ret
        exact ⟨ret_bool HR.out.symm, rfl⟩
  · have HR : Bx (decide (xs = ys) = false) := ⟨by rw [decide_eq_false_iff_not]; intro e; exact hl (by rw [e])⟩
    have hlb : (((xs.length : Nat) : Int) == ((ys.length : Nat) : Int)) = false := beq_eq_false_iff_ne.2 (by omega)
    have hlb2 : (((xs.length : Nat) : Int) != ((ys.length : Nat) : Int)) = true := by rw [bne_iff_ne]; omega
    go_enter Try.func80, Try.ntmps80
    go_wp2_with fail
    go_ret
    exact ⟨ret_bool HR.out.symm, rfl⟩
theorem sum_take_bd {xs : List Int} (h : ∀ x ∈ xs, 0 ≤ x ∧ x ≤ 100000) : ∀ i, 0 ≤ (xs.take i).sum ∧ (xs.take i).sum ≤ (i : Int) * 100000 := by
  intro i
  induction i with
  | zero => simp
  | succ i ih =>
    rw [List.take_add_one]
    cases hx : xs[i]? with
    | none => simp; omega
    | some x =>
      have := h x (List.mem_of_getElem? hx)
      rw [List.sum_append]
      simp only [Option.toList_some, List.sum_cons, List.sum_nil]
      omega
theorem sum_take_succ {xs : List Int} {i : Nat} {x : Int} (h : xs[i]? = some x) : (xs.take (i + 1)).sum = (xs.take i).sum + x := by
  rw [List.take_add_one, h, List.sum_append]; simp
set_option maxHeartbeats 400000 in
theorem lawSum_any (A : Option Addr) (c : Nat) (xs : List Int) (w : World) (hb : ∀ x ∈ xs, 0 ≤ x ∧ x ≤ 100000) (hl : xs.length ≤ 1000) (hx : IR w A xs) :
    Calls Try.prog 40 #[.slice A xs.length c] w fun e w' => e = .returned (.int .i64 xs.sum) ∧ w = w' := by
  have HX := Bx.mk hx
  have HB := Bx.mk (sum_take_bd hb)
  have HBB := Bx.mk hb
  clear hx hb
  go_enter Try.func40, Try.ntmps40
  go_wp2_with fail
  go_loop [3, 8] (fun nv iv => ∃ (i : Nat), i ≤ xs.length ∧ iv = .int .i64 i ∧ nv = .int .i64 (xs.take i).sum) (fun _ iv => xs.length - (intOf iv).toNat)
  case atStart => exact ⟨0, by omega, rfl, by simp⟩
  case round =>
    obtain ⟨i, hi, rfl, rfl⟩ := hrel
    have hbi := HB.out i
    by_cases hlt : i < xs.length
    · obtain ⟨b, o, x, rfl, hb, c1, H3⟩ := HX.out.one hlt
      have hxb := HBB.out x (List.mem_of_getElem? H3.out)
      have HS := Bx.mk (sum_take_succ H3.out)
      clear H3
      have hli : (i : Int) < xs.length := by omega
      generalize hq : (xs.take i).sum = q at *
      go_wp2_with fail
      go_round
      case rel => exact ⟨i + 1, by omega, by go_num, by rw [HS.out]⟩
      case measure => simp [intOf]; omega
    · have hie : i = xs.length := by omega
      have HR : Bx ((xs.take i).sum = xs.sum) := ⟨by rw [hie, List.take_length]⟩
      have hli : ¬ (i : Int) < xs.length := by omega
      clear hie
      go_wp2_with fail
      go_ret
      exact ⟨ret_int HR.out, rfl⟩
set_option maxHeartbeats 400000 in
theorem lawGcd_any (a b : Int) (w : World) (ha : 0 ≤ a ∧ a ≤ 1000000) (hb : 0 ≤ b ∧ b ≤ 1000000) :
    Calls Try.prog 9 #[.int .i64 a, .int .i64 b] w fun e w' => e = .returned (.int .i64 (gcdI a b)) ∧ w = w' := by
  go_enter Try.func9, Try.ntmps9
  go_wp2_with fail
  go_loop [0, 1] (fun av bv => ∃ (x y : Int), 0 ≤ x ∧ x ≤ 1000000 ∧ 0 ≤ y ∧ y ≤ 1000000 ∧ av = .int .i64 x ∧ bv = .int .i64 y ∧ Bx (gcdI x y = gcdI a b)) (fun _ bv => (intOf bv).toNat)
  case atStart => exact ⟨a, b, ha.1, ha.2, hb.1, hb.2, rfl, rfl, ⟨rfl⟩⟩
  case round =>
    obtain ⟨x, y, hx0, hx1, hy0, hy1, rfl, rfl, HG⟩ := hrel
    by_cases hy : y = 0
    · subst hy
      have HR : Bx (x = gcdI a b) := ⟨by rw [← HG.out]; unfold gcdI; rw [Int.gcd_zero_right]; omega⟩
      go_wp2_with fail
      go_ret
      exact ⟨ret_int HR.out, rfl⟩
    · have hyp : 0 < y := by omega
      have hr0 := Int.emod_nonneg x hy
      have hr1 := Int.emod_lt_of_pos x hyp
      have HG2 : Bx (gcdI y (x % y) = gcdI a b) := ⟨by rw [gcdI_step x y hx0 hyp]; exact HG.out⟩
      go_wp2_with fail
      go_round
      case rel => exact ⟨y, x % y, hy0, hy1, hr0, by omega, rfl, rfl, HG2⟩
      case measure => simp [intOf]; omega
set_option maxHeartbeats 400000 in
theorem lawRhythms_any (s t : Int) (A B : Option Addr) (c d : Nat) (xs ys : List Int) (w : World) (hx : IR w A xs) (hy : IR w B ys) :
    Calls Try.prog 39 #[.agg #[.int .i64 s, .slice A xs.length c], .agg #[.int .i64 t, .slice B ys.length d]] w fun e w' => e = .returned (.bool (decide (s = t ∧ xs = ys))) ∧ Below w.heap.size w w' := by
  obtain ⟨W2, hW2⟩ : ∃ W2, W2 = ((w.alloc (.cells #[.int .i64 s, .slice A xs.length c] 30)).alloc (.cells #[.int .i64 t, .slice B ys.length d] 30)) := ⟨_, rfl⟩
  have b2 : Below w.heap.size w W2 := by rw [hW2]; exact ((Below.refl _ _).alloc (Nat.le_refl _) _).alloc (by simp) _
  have k0 : W2.cell? ⟨w.heap.size, 0, none⟩ = some (.int .i64 s) := by rw [hW2]; simp [go_sem]
  have k1 : W2.cell? ⟨w.heap.size, 1, none⟩ = some (.slice A xs.length c) := by rw [hW2]; simp [go_sem]
  have k2 : W2.cell? ⟨w.heap.size + 1, 0, none⟩ = some (.int .i64 t) := by rw [hW2]; simp [go_sem]
  have k3 : W2.cell? ⟨w.heap.size + 1, 1, none⟩ = some (.slice B ys.length d) := by rw [hW2]; simp [go_sem]
  have HX := Bx.mk (hx.below b2)
  have HY := Bx.mk (hy.below b2)
  clear hx hy
  by_cases hst : s = t
  · subst hst
    have hss : (s == s) = true := by simp
    have HR : Bx (decide (s = s ∧ xs = ys) = decide (xs = ys)) := ⟨by simp⟩
    go_enter Try.func39, Try.ntmps39
    go_wp2_with fail
    rw [← hW2]
    clear hW2
    refine (lawSame_any _ _ _ _ _ _ _ (by exact HX.out) (by exact HY.out)).mono ?_
    rintro e w' ⟨rfl, rfl⟩
    go_wp2_with fail
    go_ret
    exact ⟨ret_bool HR.out.symm, b2⟩
  · have hss : (s == t) = false := beq_eq_false_iff_ne.2 hst
    have HR : Bx (decide (s = t ∧ xs = ys) = false) := ⟨by simp [hst]⟩
    go_enter Try.func39, Try.ntmps39
    go_wp2_with fail
    rw [← hW2]
    go_ret
    exact ⟨ret_bool HR.out.symm, b2⟩
end Go.Proofs.Ytlgiijibekobfaa
