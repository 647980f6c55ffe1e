/- Differences of beats: their row, their sum, and those of the other pulses. -/
import Derived.Test.YtlgiijibekobfaaIvPl
import Derived.Test.YtlgiijibekobfaaCmPlain
import Derived.Test.YtlgiijibekobfaaTls
namespace Go.Proofs.Ytlgiijibekobfaa
open Go.RowKit

/-- the row of the differences -/
def difC (s : Int) (xs : List Int) : List Int := sumC s xs (xs.map fun q => -q)
theorem difC_len (s : Int) (xs : List Int) : (difC s xs).length = s.toNat := sumC_len _ _ _
theorem pr_neg (s : Int) (xs : List Int) (i : Int) : prI s xs (xs.map fun q => -q) i = dfI s xs i := by
  unfold prI dfI
  congr 1
  refine List.map_congr_left fun p _ => ?_
  rw [List.filter_map, List.length_map]
  congr 1
theorem difC_at {s : Int} {xs : List Int} (hs : 1 ≤ s) {j : Nat} (hj : j < s.toNat) : (difC s xs)[j]?.getD 0 = ((dfI s xs j : Nat) : Int) := by
  unfold difC
  rw [sumC_at hs hj, pr_neg]
theorem difC_sum {s : Int} {xs : List Int} (hs : 1 ≤ s) : (difC s xs).sum = ((xs.length * xs.length : Nat) : Int) := by
  unfold difC
  rw [sumC_sum hs, List.length_map]
theorem cu_or (P Q : Nat → Bool) : ∀ n, cu P n + cu Q n = cu (fun j => P j || Q j) n + cu (fun j => P j && Q j) n := by
  intro n
  induction n with
  | zero => rfl
  | succ n ih =>
    simp only [cu]
    by_cases hp : P n = true <;> by_cases hq : Q n = true <;> simp [hp, hq] <;> omega
theorem cu_not (P : Nat → Bool) : ∀ n, cu P n + cu (fun j => !P j) n = n := by
  intro n
  induction n with
  | zero => rfl
  | succ n ih =>
    simp only [cu]
    by_cases hp : P n = true <;> simp [hp] <;> omega
theorem cu_congr {P Q : Nat → Bool} {n : Nat} (h : ∀ j, j < n → P j = Q j) : cu P n = cu Q n := by
  induction n with
  | zero => rfl
  | succ n ih => simp only [cu]; rw [h n (by omega), ih fun j hj => h j (by omega)]
theorem sel_cu (P : Int → Bool) : ∀ n, (selTo P n).length = cu (fun j : Nat => P (j : Int)) n := by
  intro n
  induction n with
  | zero => rfl
  | succ n ih =>
    cases h : P (n : Int) with
    | true => rw [selTo_hit h, List.length_append, cu_hit (P := fun j : Nat => P (j : Int)) h, ih]; simp; omega
    | false => rw [selTo_miss h, cu_miss (P := fun j : Nat => P (j : Int)) h, ih]
/-- a selection of an ascending row, counted over the pulses -/
theorem filter_cu {n : Nat} {xs : List Int} (hb : ∀ x ∈ xs, 0 ≤ x ∧ x < n) (ha : xs.Pairwise (· < ·)) (f : Int → Bool) : (xs.filter f).length = cu (fun j : Nat => memB xs (j : Int) && f (j : Int)) n := by
  rw [← sel_cu (fun p => memB xs p && f p) n]
  congr 1
  refine asc_ext (ha.filter f) (selTo_asc _ _) fun x => ?_
  rw [List.mem_filter, selTo_mem]
  constructor
  · rintro ⟨h1, h2⟩
    obtain ⟨i, rfl⟩ := Int.eq_ofNat_of_zero_le (hb x h1).1
    exact ⟨i, by have := (hb _ h1).2; omega, rfl, by rw [memB_iff.2 h1, h2]; rfl⟩
  · rintro ⟨i, _, rfl, h⟩
    rw [Bool.and_eq_true, memB_iff] at h
    exact h
theorem len_cu {n : Nat} {xs : List Int} (hb : ∀ x ∈ xs, 0 ≤ x ∧ x < n) (ha : xs.Pairwise (· < ·)) : xs.length = cu (fun j : Nat => memB xs (j : Int)) n := by
  have := filter_cu hb ha fun _ => true
  rw [filter_all fun _ _ => rfl] at this
  rw [this]
  exact cu_congr fun j _ => Bool.and_true _
/-- the pulses whose image under a step is a beat are as many as the beats -/
theorem shift_cu {n : Nat} {xs : List Int} {i : Int} (hx : rhOk n xs = true) : cu (fun j : Nat => memB xs (((j : Int) - i) % n)) n = xs.length := by
  obtain ⟨hn, hb, ha⟩ := rhOk_iff.1 hx
  have hok := rot_ok (n := n) (xs := xs) (by omega) (by omega) i
  obtain ⟨_, hb2, ha2⟩ := rhOk_iff.1 hok
  have h1 : (rotL n xs i).length = xs.length := by
    refine len_bij (asc_nodup ha2) (asc_nodup ha) (fun p => (p - i) % n) (fun p => (p + i) % n) (fun p hp => ?_) (fun p hp => ?_)
    · obtain ⟨q, hq, e1⟩ := rot_mem'.1 hp
      have f1 : (p - i) % (n : Int) = q := by rw [← e1, Int.emod_sub_emod, show q + i - i = q by omega, Int.emod_eq_of_lt (hb q hq).1 (hb q hq).2]
      exact ⟨by rw [f1]; exact hq, by rw [Int.emod_add_emod, show p - i + i = p by omega, Int.emod_eq_of_lt (hb2 p hp).1 (hb2 p hp).2]⟩
    · exact ⟨rot_mem'.2 ⟨p, hp, rfl⟩, by rw [Int.emod_sub_emod, show p + i - i = p by omega, Int.emod_eq_of_lt (hb p hp).1 (hb p hp).2]⟩
  rw [← h1, len_cu hb2 ha2]
  refine cu_congr fun j hj => ?_
  rw [Bool.eq_iff_iff, memB_iff, memB_iff, rot_mem']
  constructor
  · intro h
    exact ⟨_, h, by rw [Int.emod_add_emod, show (j : Int) - i + i = j by omega, Int.emod_eq_of_lt (by omega) (by omega)]⟩
  · rintro ⟨q, hq, e⟩
    rw [← e, Int.emod_sub_emod, show q + i - i = q by omega, Int.emod_eq_of_lt (hb q hq).1 (hb q hq).2]
    exact hq
theorem oth_ok {n : Nat} (h1 : 1 ≤ n) (h24 : n ≤ 24) (xs : List Int) : rhOk n (othL n xs) = true := by
  unfold othL
  exact selTo_ok ⟨by omega, by omega⟩ _
theorem oth_mem {n : Nat} {xs : List Int} {x : Int} : memB (othL n xs) x = (decide (0 ≤ x ∧ x < n) && !memB xs x) := by
  unfold othL
  rw [Int.toNat_natCast, Bool.eq_iff_iff, memB_iff, selTo_mem, Bool.and_eq_true, decide_eq_true_iff]
  constructor
  · rintro ⟨i, hi, rfl, h⟩; exact ⟨⟨by omega, by omega⟩, h⟩
  · rintro ⟨hb, h⟩
    obtain ⟨i, rfl⟩ := Int.eq_ofNat_of_zero_le hb.1
    exact ⟨i, by omega, rfl, h⟩
/-- the differences of the other pulses -/
theorem df_oth {n : Nat} {xs : List Int} {i : Int} (hx : rhOk n xs = true) (hi : 0 ≤ i ∧ i < n) : dfI n (othL n xs) i + 2 * xs.length = n + dfI n xs i := by
  obtain ⟨hn, hb, ha⟩ := rhOk_iff.1 hx
  have hok := oth_ok (n := n) (by omega) (by omega) xs
  obtain ⟨_, hb2, ha2⟩ := rhOk_iff.1 hok
  rw [df_count hok hi, df_count hx hi, filter_cu hb2 ha2, filter_cu hb ha]
  have h1 := cu_or (fun j : Nat => memB xs (j : Int)) (fun j : Nat => memB xs (((j : Int) - i) % n)) n
  rw [shift_cu hx, ← len_cu hb ha] at h1
  have h2 := cu_not (fun j : Nat => memB xs (j : Int) || memB xs (((j : Int) - i) % n)) n
  have h3 : cu (fun j : Nat => memB (othL n xs) (j : Int) && memB (othL n xs) (((j : Int) - i) % n)) n = cu (fun j : Nat => !(memB xs (j : Int) || memB xs (((j : Int) - i) % n))) n := by
    refine cu_congr fun j hj => ?_
    rw [oth_mem, oth_mem]
    have e1 : decide (0 ≤ (j : Int) ∧ (j : Int) < n) = true := by simp; omega
    have e2 : decide (0 ≤ ((j : Int) - i) % n ∧ ((j : Int) - i) % n < n) = true := by
      rw [decide_eq_true_iff]; exact ⟨Int.emod_nonneg _ (by omega), Int.emod_lt_of_pos _ (by omega)⟩
    rw [e1, e2, Bool.true_and, Bool.true_and, Bool.not_or]
  rw [h3]
  omega
end Go.Proofs.Ytlgiijibekobfaa
