/- Distances of beats: the plain laws of the vector. -/
import Derived.Test.YtlgiijibekobfaaIvPl2
namespace Go.Proofs.Ytlgiijibekobfaa
open Go.RowKit

def vin (s p : Int) (ys l : List Int) : Nat → List Int
  | 0 => l
  | b + 1 => inc (vin s p ys l b) (min (p - ys[b]?.getD 0) (s + ys[b]?.getD 0 - p) - 1).toNat
def vout (s : Int) (xs : List Int) : Nat → List Int
  | 0 => List.replicate (s / 2).toNat 0
  | a + 1 => vin s (xs[a]?.getD 0) xs (vout s xs a) a
/-- for each distance up to half the bar how many pairs of beats have it -/
def vecC (s : Int) (xs : List Int) : List Int := vout s xs xs.length
theorem vin_len (s p : Int) (ys l : List Int) (b : Nat) : (vin s p ys l b).length = l.length := by
  induction b with
  | zero => rfl
  | succ b ih => simp only [vin, inc_len, ih]
theorem vout_len (s : Int) (xs : List Int) (a : Nat) : (vout s xs a).length = (s / 2).toNat := by
  induction a with
  | zero => simp [vout]
  | succ a ih => simp only [vout, vin_len, ih]
theorem vecC_len (s : Int) (xs : List Int) : (vecC s xs).length = (s / 2).toNat := vout_len _ _ _
/-- how many pairs of beats, the later one first, are d apart -/
def apI (xs : List Int) (d : Int) : Nat := (xs.map fun p => (xs.filter fun q => p - q == d).length).sum
def vI (s : Int) (xs : List Int) (j : Int) : Nat := (xs.map fun p => (xs.filter fun q => decide (q < p) && (min (p - q) (s + q - p) == j)).length).sum
theorem filter_take_asc {xs : List Int} (ha : xs.Pairwise (· < ·)) {a : Nat} (h : a < xs.length) (f : Int → Bool) : ((xs.take a).filter f).length = (xs.filter fun q => decide (q < xs[a]) && f q).length := by
  have e : xs = xs.take a ++ xs.drop a := (List.take_append_drop a xs).symm
  have h1 : ∀ q ∈ xs.take a, q < xs[a] := fun q hq => by
    obtain ⟨i, hi, rfl⟩ := List.getElem_of_mem hq
    rw [List.length_take] at hi
    rw [List.getElem_take]
    exact List.pairwise_iff_getElem.1 ha i a (by omega) h (by omega)
  have h2 : ∀ q ∈ xs.drop a, ¬ q < xs[a] := fun q hq => by
    obtain ⟨i, hi, rfl⟩ := List.getElem_of_mem hq
    rw [List.length_drop] at hi
    rw [List.getElem_drop]
    by_cases hi0 : i = 0
    · subst hi0; simp
    · have := List.pairwise_iff_getElem.1 ha a (a + i) h (by omega) (by omega)
      omega
  obtain ⟨z, hz⟩ : ∃ z, z = xs[a] := ⟨_, rfl⟩
  rw [← hz] at h1 h2 ⊢
  clear hz
  have e3 : (xs.drop a).filter (fun q => decide (q < z) && f q) = [] := List.filter_eq_nil_iff.2 fun q hq => by
    have := h2 q hq
    simp [this]
  have e4 : (xs.take a).filter (fun q => decide (q < z) && f q) = (xs.take a).filter f := List.filter_congr fun q hq => by
    have := h1 q hq
    simp [this]
  rw [← e4]
  conv => rhs; rw [e, List.filter_append, e3, List.append_nil]
theorem vin_at {s p : Int} {ys l : List Int} (j : Nat) (hj : j < l.length) (hp : ∀ b : Nat, b < ys.length → ys[b]?.getD 0 < p → 1 ≤ min (p - ys[b]?.getD 0) (s + ys[b]?.getD 0 - p)) : ∀ b, b ≤ ys.length → (∀ i : Nat, i < b → ys[i]?.getD 0 < p) →
    (vin s p ys l b)[j]?.getD 0 = l[j]?.getD 0 + (((ys.take b).filter fun q => min (p - q) (s + q - p) == ((j : Int) + 1)).length : Int) := by
  intro b
  induction b with
  | zero => intro _ _; simp [vin]
  | succ b ih =>
    intro hb hlt
    have hx := List.getElem?_eq_getElem (l := ys) (i := b) (by omega)
    have hm := hp b (by omega) (hlt b (by omega))
    rw [filter_take_snoc _ hx]
    simp only [vin]
    rw [inc_atP, vin_len, hx]
    rw [hx] at hm
    simp only [Option.getD_some] at hm ⊢
    have ih := ih (by omega) fun i hi => hlt i (by omega)
    by_cases e : min (p - ys[b]) (s + ys[b] - p) = (j : Int) + 1
    · rw [if_pos ⟨by omega, by omega⟩, if_pos (by rw [beq_iff_eq]; exact e)]
      rw [show (min (p - ys[b]) (s + ys[b] - p) - 1).toNat = j by omega, ih]
      omega
    · rw [if_neg (fun h => e (by omega)), if_neg (by rw [beq_iff_eq]; exact e), ih]
      omega
theorem vout_at {n : Nat} {xs : List Int} (hx : rhOk n xs = true) (j : Nat) (hj : j < ((n : Int) / 2).toNat) : ∀ a, a ≤ xs.length → (vout n xs a)[j]?.getD 0 = ((((xs.take a).map fun p => (xs.filter fun q => decide (q < p) && (min (p - q) ((n : Int) + q - p) == (j : Int) + 1)).length).sum : Nat) : Int) := by
  obtain ⟨hn, hb, ha⟩ := rhOk_iff.1 hx
  intro a
  induction a with
  | zero => intro _; simp [vout, hj]
  | succ a ih =>
    intro hal
    have hxa := List.getElem?_eq_getElem (l := xs) (i := a) (by omega)
    have hpa := hb _ (List.getElem_mem (show a < xs.length by omega))
    simp only [vout]
    rw [hxa]
    simp only [Option.getD_some]
    rw [vin_at j (by rw [vout_len]; exact hj) (fun b hbl hlt => ?_) a (by omega) (fun i hi => ?_), ih (by omega), filter_take_asc ha (by omega), List.take_add_one, hxa, List.map_append, List.sum_append]
    · simp
    · have hxb := List.getElem?_eq_getElem (l := xs) (i := b) hbl
      have := hb _ (List.getElem_mem hbl)
      rw [hxb] at hlt ⊢
      simp only [Option.getD_some] at hlt ⊢
      omega
    · have hxi := List.getElem?_eq_getElem (l := xs) (i := i) (by omega)
      rw [hxi]
      exact List.pairwise_iff_getElem.1 ha i a (by omega) (by omega) hi
theorem vecC_at {n : Nat} {xs : List Int} (hx : rhOk n xs = true) (j : Nat) (hj : j < ((n : Int) / 2).toNat) : (vecC n xs)[j]?.getD 0 = ((vI n xs ((j : Int) + 1) : Nat) : Int) := by
  unfold vecC
  rw [vout_at hx j hj _ (Nat.le_refl _), List.take_length]
  rfl
theorem sum_congr {f g : Int → Nat} {xs : List Int} (h : ∀ x ∈ xs, f x = g x) : (xs.map f).sum = (xs.map g).sum := by rw [List.map_congr_left h]
theorem filter_or {f g : Int → Bool} {xs : List Int} (h : ∀ x ∈ xs, ¬ (f x = true ∧ g x = true)) : (xs.filter fun x => f x || g x).length = (xs.filter f).length + (xs.filter g).length := by
  induction xs with
  | nil => rfl
  | cons x r ih =>
    have ih := ih fun y hy => h y (List.mem_cons_of_mem _ hy)
    have hx := h x List.mem_cons_self
    by_cases hf : f x = true <;> by_cases hg : g x = true
    · exact absurd ⟨hf, hg⟩ hx
    · simp [hf, hg, ih]; omega
    · simp [hf, hg, ih]; omega
    · simp [hf, hg, ih]
/-- a difference round the bar is one on the line, either way -/
theorem df_ap {n : Nat} {xs : List Int} (hx : rhOk n xs = true) {d : Int} (hd : 1 ≤ d ∧ d < n) : dfI n xs d = apI xs d + apI xs (n - d) := by
  obtain ⟨hn, hb, ha⟩ := rhOk_iff.1 hx
  have sw : apI xs (n - d) = (xs.map fun p => (xs.filter fun q => q - p == (n : Int) - d).length).sum := by
    unfold apI
    exact pairs_swap (fun p q => p - q == (n : Int) - d) xs xs
  rw [sw]
  unfold dfI apI
  rw [← sum_add]
  refine sum_congr fun p hp => ?_
  rw [← filter_or fun q hq => ?_]
  · congr 1
    refine List.filter_congr fun q hq => ?_
    have h1 := hb p hp
    have h2 := hb q hq
    rw [Bool.eq_iff_iff, Bool.or_eq_true, beq_iff_eq, beq_iff_eq, beq_iff_eq]
    by_cases hpq : q ≤ p
    · rw [Int.emod_eq_of_lt (by omega) (by omega)]; omega
    · have : (p - q) % (n : Int) = p - q + n := by
        rw [← Int.add_emod_right, Int.emod_eq_of_lt (by omega) (by omega)]
      rw [this]; omega
  · rw [beq_iff_eq, beq_iff_eq]
    omega
theorem vI_ap {n : Nat} {xs : List Int} (hx : rhOk n xs = true) {j : Int} (hj : 1 ≤ j ∧ 2 * j ≤ n) : vI n xs j = if 2 * j = n then apI xs j else apI xs j + apI xs (n - j) := by
  obtain ⟨hn, hb, ha⟩ := rhOk_iff.1 hx
  by_cases h2 : 2 * j = n
  · rw [if_pos h2]
    unfold vI apI
    refine sum_congr fun p hp => ?_
    congr 1
    refine List.filter_congr fun q hq => ?_
    rw [Bool.eq_iff_iff, Bool.and_eq_true, decide_eq_true_iff, beq_iff_eq, beq_iff_eq]
    omega
  · rw [if_neg h2]
    unfold vI apI
    rw [← sum_add]
    refine sum_congr fun p hp => ?_
    rw [← filter_or fun q hq => ?_]
    · congr 1
      refine List.filter_congr fun q hq => ?_
      have h1 := hb p hp
      have h3 := hb q hq
      rw [Bool.eq_iff_iff, Bool.or_eq_true, Bool.and_eq_true, decide_eq_true_iff, beq_iff_eq, beq_iff_eq, beq_iff_eq]
      omega
    · rw [beq_iff_eq, beq_iff_eq]
      omega
/-- the vector follows from the differences -/
theorem vI_df {n : Nat} {xs : List Int} (hx : rhOk n xs = true) {j : Int} (hj : 1 ≤ j ∧ 2 * j ≤ n) : vI n xs j = if 2 * j = n then dfI n xs j / 2 else dfI n xs j := by
  have h1 := vI_ap hx hj
  have h2 := df_ap hx (d := j) ⟨hj.1, by omega⟩
  by_cases h : 2 * j = n
  · rw [if_pos h] at h1 ⊢
    rw [show (n : Int) - j = j by omega] at h2
    omega
  · rw [if_neg h] at h1 ⊢
    omega
theorem vec_same {n : Nat} {xs ys : List Int} (hx : rhOk n xs = true) (hy : rhOk n ys = true) (h : ∀ i : Int, 0 ≤ i ∧ i < n → dfI n xs i = dfI n ys i) : vecC n xs = vecC n ys := by
  refine ext_getD (by rw [vecC_len, vecC_len]) fun i hi => ?_
  rw [vecC_len] at hi
  rw [vecC_at hx i hi, vecC_at hy i hi, vI_df hx ⟨by omega, by omega⟩, vI_df hy ⟨by omega, by omega⟩, h _ ⟨by omega, by omega⟩]
theorem vin_sum {s p : Int} {ys l : List Int} : ∀ b, (∀ i : Nat, i < b → (min (p - ys[i]?.getD 0) (s + ys[i]?.getD 0 - p) - 1).toNat < l.length) → (vin s p ys l b).sum = l.sum + b := by
  intro b
  induction b with
  | zero => intro _; simp [vin]
  | succ b ih =>
    intro h
    simp only [vin]
    rw [inc_sum (by rw [vin_len]; exact h b (by omega)), ih fun i hi => h i (by omega)]
    omega
theorem vec_sum {n : Nat} {xs : List Int} (hx : rhOk n xs = true) : 2 * (vecC n xs).sum = (xs.length : Int) * ((xs.length : Int) - 1) := by
  obtain ⟨hn, hb, ha⟩ := rhOk_iff.1 hx
  have key : ∀ a, a ≤ xs.length → 2 * (vout n xs a).sum = (a : Int) * ((a : Int) - 1) := by
    intro a
    induction a with
    | zero => intro _; simp [vout]
    | succ a ih =>
      intro hal
      have hxa := List.getElem?_eq_getElem (l := xs) (i := a) (by omega)
      have hpa := hb _ (List.getElem_mem (show a < xs.length by omega))
      simp only [vout]
      rw [vin_sum a fun i hi => ?_]
      · have := ih (by omega)
        have e : ((a + 1 : Nat) : Int) * (((a + 1 : Nat) : Int) - 1) = (a : Int) * ((a : Int) - 1) + 2 * a := by
          rw [Int.natCast_add, show (a : Int) + (1 : Nat) - 1 = (a : Int) by omega, Int.mul_sub, Int.add_mul]
          omega
        rw [e, ← this]
        omega
      · have hxi := List.getElem?_eq_getElem (l := xs) (i := i) (by omega)
        have := hb _ (List.getElem_mem (show i < xs.length by omega))
        have hlt := List.pairwise_iff_getElem.1 ha i a (by omega) (by omega) hi
        rw [vout_len, hxa, hxi]
        simp only [Option.getD_some]
        omega
  exact key _ (Nat.le_refl _)
end Go.Proofs.Ytlgiijibekobfaa
