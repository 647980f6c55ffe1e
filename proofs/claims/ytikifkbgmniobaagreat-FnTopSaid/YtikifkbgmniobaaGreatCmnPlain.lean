/- How many beats two rhythms have in common: by their codes, and one by one. -/
import Derived.Test.YtikifkbgmniobaaGreatBas
namespace Go.Proofs.YtikifkbgmniobaaGreat
open Go.RowKit
set_option maxRecDepth 20000

theorem mod2_bit (X : Nat) : X % 2 = if X.testBit 0 = true then 1 else 0 := by
  rw [Nat.testBit_zero]
  by_cases h : X % 2 = 1
  · simp [h]
  · simp [h]
    omega
theorem popc_set : ∀ (f X j : Nat), j < f → X.testBit j = false → popc f (X ||| 2 ^ j) = popc f X + 1 := by
  intro f
  induction f with
  | zero => intro X j h; omega
  | succ f ih =>
    intro X j hj hb
    simp only [popc]
    cases j with
    | zero =>
      have e1 : (X ||| 2 ^ 0) / 2 = X / 2 := by
        refine Nat.eq_of_testBit_eq fun i => ?_
        rw [← Nat.testBit_succ, ← Nat.testBit_succ, Nat.testBit_or, Nat.testBit_two_pow]
        simp
      have e2 : (X ||| 2 ^ 0).testBit 0 = true := by rw [Nat.testBit_or, Nat.testBit_two_pow]; simp
      rw [e1, mod2_bit (X ||| 2 ^ 0), mod2_bit X, e2, hb, if_pos rfl, if_neg (by decide)]
      omega
    | succ j =>
      have e1 : (X ||| 2 ^ (j + 1)) / 2 = X / 2 ||| 2 ^ j := by
        refine Nat.eq_of_testBit_eq fun i => ?_
        rw [← Nat.testBit_succ, Nat.testBit_or, Nat.testBit_or, Nat.testBit_two_pow, Nat.testBit_two_pow, Nat.testBit_succ]
        simp
      have e2 : (X ||| 2 ^ (j + 1)).testBit 0 = X.testBit 0 := by rw [Nat.testBit_or, Nat.testBit_two_pow]; simp
      rw [e1, ih (X / 2) j (by omega) (by rw [← Nat.testBit_succ]; exact hb)]
      rw [mod2_bit (X ||| 2 ^ (j + 1)), mod2_bit X, e2]
      omega
def codeN (n : Nat) (xs : List Int) : Nat := xs.foldl (fun a x => a ||| 2 ^ (n - 1 - x.toNat)) 0
theorem codeN_snoc (n : Nat) (xs : List Int) (x : Int) : codeN n (xs ++ [x]) = codeN n xs ||| 2 ^ (n - 1 - x.toNat) := by simp [codeN, List.foldl_append]
theorem foldl_bit (n : Nat) : ∀ (xs : List Int) (a j : Nat), (xs.foldl (fun a x => a ||| 2 ^ (n - 1 - x.toNat)) a).testBit j = (a.testBit j || xs.any fun x => decide (n - 1 - x.toNat = j)) := by
  intro xs
  induction xs with
  | nil => intro a j; simp
  | cons x r ih =>
    intro a j
    rw [List.foldl_cons, ih, Nat.testBit_or, Nat.testBit_two_pow, List.any_cons, Bool.or_assoc]
theorem codeN_bit (n : Nat) (xs : List Int) (j : Nat) : (codeN n xs).testBit j = xs.any fun x => decide (n - 1 - x.toNat = j) := by
  unfold codeN
  rw [foldl_bit]; simp
theorem codeN_at {n : Nat} {ys : List Int} (hy : ∀ y ∈ ys, 0 ≤ y ∧ y < n) {x : Int} (h0 : 0 ≤ x) (hx : x < n) : (codeN n ys).testBit (n - 1 - x.toNat) = memB ys x := by
  rw [codeN_bit, Bool.eq_iff_iff, List.any_eq_true, memB_iff]
  constructor
  · rintro ⟨y, hy1, hy2⟩
    have := hy y hy1
    have h2 : n - 1 - y.toNat = n - 1 - x.toNat := by simpa using hy2
    have : y = x := by omega
    rw [← this]; exact hy1
  · intro h
    exact ⟨x, h, by simp⟩
theorem foldl_lt (n : Nat) (hn : n ≤ 24) : ∀ (xs : List Int) (a : Nat), a < 2 ^ 24 → xs.foldl (fun a x => a ||| 2 ^ (n - 1 - x.toNat)) a < 2 ^ 24 := by
  intro xs
  induction xs with
  | nil => intro a h; exact h
  | cons x r ih =>
    intro a h
    rw [List.foldl_cons]
    refine ih _ (Nat.or_lt_two_pow h ?_)
    exact Nat.pow_lt_pow_right (by omega) (by omega)
theorem codeN_lt {n : Nat} (hn : n ≤ 24) (xs : List Int) : codeN n xs < 16777216 := foldl_lt n hn xs 0 (by decide)
def cmN (xs ys : List Int) : Nat := (xs.filter fun x => memB ys x).length
theorem cmN_snoc (xs ys : List Int) (x : Int) : cmN (xs ++ [x]) ys = cmN xs ys + if memB ys x = true then 1 else 0 := by
  unfold cmN
  rw [List.filter_append, List.length_append]
  by_cases h : memB ys x = true
  · simp [h]
  · simp [h]
theorem cmN_le (xs ys : List Int) : cmN xs ys ≤ xs.length := List.length_filter_le _ _
theorem popc24_zero : popc 24 0 = 0 := by decide
theorem codes_take {n : Nat} (hn : n ≤ 24) {ys : List Int} (hy : ∀ y ∈ ys, 0 ≤ y ∧ y < n) (zs : List Int) (hbz : ∀ x ∈ zs, 0 ≤ x ∧ x < n) (haz : zs.Pairwise (· < ·)) : ∀ k, k ≤ zs.length → popc 24 (codeN n (zs.take k) &&& codeN n ys) = cmN (zs.take k) ys := by
  intro k
  induction k with
  | zero =>
    intro _
    simp only [List.take_zero, codeN, List.foldl_nil, Nat.zero_and]
    exact popc24_zero
  | succ k ih0 =>
    intro hk
    have hkl : k < zs.length := hk
    obtain ⟨x, hxe⟩ : ∃ x, x = zs[k] := ⟨_, rfl⟩
    obtain ⟨xs, hxs⟩ : ∃ xs, xs = zs.take k := ⟨_, rfl⟩
    have hte : zs.take (k + 1) = xs ++ [x] := by rw [List.take_add_one, List.getElem?_eq_getElem hkl, hxs, hxe]; rfl
    have hb : ∀ z ∈ xs ++ [x], 0 ≤ z ∧ z < n := fun z hz => hbz z (by rw [← hte] at hz; exact List.mem_of_mem_take hz)
    have ha : (xs ++ [x]).Pairwise (· < ·) := by rw [← hte]; exact haz.sublist (List.take_sublist _ _)
    have ih := ih0 (by omega)
    rw [← hxs] at ih
    rw [hte]
    have hx := hb x (by simp)
    rw [List.pairwise_append] at ha
    have hb' : ∀ z ∈ xs, 0 ≤ z ∧ z < n := fun z hz => hb z (List.mem_append_left _ hz)
    have ih' := ih
    have hnot : (codeN n xs).testBit (n - 1 - x.toNat) = false := by
      rw [codeN_at hb' hx.1 hx.2]
      cases hm : memB xs x with
      | false => rfl
      | true =>
        have := ha.2.2 x (memB_iff.1 hm) x (by simp)
        omega
    rw [codeN_snoc, cmN_snoc, Nat.and_or_distrib_right, ← ih']
    have hbit := codeN_at hy hx.1 hx.2
    by_cases hm : memB ys x = true
    · rw [if_pos hm]
      rw [hm] at hbit
      have e : 2 ^ (n - 1 - x.toNat) &&& codeN n ys = 2 ^ (n - 1 - x.toNat) := by
        refine Nat.eq_of_testBit_eq fun i => ?_
        rw [Nat.testBit_and, Nat.testBit_two_pow]
        by_cases h : n - 1 - x.toNat = i
        · subst h; simp [hbit]
        · simp [h]
      rw [e]
      exact popc_set 24 _ _ (by omega) (by rw [Nat.testBit_and, hnot]; rfl)
    · rw [if_neg hm, Nat.add_zero]
      rw [Bool.not_eq_true] at hm
      rw [hm] at hbit
      have e : 2 ^ (n - 1 - x.toNat) &&& codeN n ys = 0 := by
        refine Nat.eq_of_testBit_eq fun i => ?_
        rw [Nat.testBit_and, Nat.testBit_two_pow, Nat.zero_testBit]
        by_cases h : n - 1 - x.toNat = i
        · subst h; simp [hbit]
        · simp [h]
      rw [e, Nat.or_zero]
theorem codes_common {n : Nat} (hn : n ≤ 24) {ys : List Int} (hy : ∀ y ∈ ys, 0 ≤ y ∧ y < n) (xs : List Int) (hb : ∀ x ∈ xs, 0 ≤ x ∧ x < n) (ha : xs.Pairwise (· < ·)) : popc 24 (codeN n xs &&& codeN n ys) = cmN xs ys := by
  have := codes_take hn hy xs hb ha xs.length (Nat.le_refl _)
  rwa [List.take_length] at this
end Go.Proofs.YtikifkbgmniobaaGreat
