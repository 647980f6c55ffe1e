/- Differences of beats: the plain laws of FnIntervals. -/
import Derived.Test.YtlgiijibekobfaaSumsPl
namespace Go.Proofs.Ytlgiijibekobfaa
open Go.RowKit

/-- the pulses that the beats are carried to -/
theorem df_row {n : Nat} {xs : List Int} {i p : Int} (hb : ∀ x ∈ xs, 0 ≤ x ∧ x < n) (ha : xs.Pairwise (· < ·)) (hi : 0 ≤ i ∧ i < n) : (xs.filter fun q => (p - q) % (n : Int) == i).length = if memB xs ((p - i) % n) = true then 1 else 0 := by
  induction xs with
  | nil => rfl
  | cons x r ih =>
    have hr := ih (fun y hy => hb y (List.mem_cons_of_mem _ hy)) (List.pairwise_cons.1 ha).2
    have hxb := hb x List.mem_cons_self
    have hlt := (List.pairwise_cons.1 ha).1
    have key : ∀ y : Int, 0 ≤ y ∧ y < n → ((p - y) % (n : Int) = i ↔ (p - i) % (n : Int) = y) := fun y hy => by
      constructor
      · intro h; rw [← h, Int.sub_emod_emod, show p - (p - y) = y by omega, Int.emod_eq_of_lt hy.1 hy.2]
      · intro h; rw [← h, Int.sub_emod_emod, show p - (p - i) = i by omega, Int.emod_eq_of_lt hi.1 hi.2]
    by_cases e : (p - x) % (n : Int) = i
    · have hx := (key x hxb).1 e
      rw [List.filter_cons_of_pos (by rw [beq_iff_eq]; exact e), List.length_cons, hr, hx]
      have h0 : memB r x = false := by
        rw [Bool.eq_false_iff]
        intro h
        have := hlt x (memB_iff.1 h)
        omega
      have h1 : memB (x :: r) x = true := memB_iff.2 List.mem_cons_self
      rw [h0, h1]; rfl
    · rw [List.filter_cons_of_neg (by rw [beq_iff_eq]; exact e), hr]
      have : memB (x :: r) ((p - i) % n) = memB r ((p - i) % n) := by
        rw [Bool.eq_iff_iff, memB_iff, memB_iff, List.mem_cons]
        constructor
        · rintro (h | h)
          · exact absurd ((key x hxb).2 h) e
          · exact h
        · exact .inr
      rw [this]
/-- a difference is counted at its beats -/
theorem df_count {n : Nat} {xs : List Int} {i : Int} (hx : rhOk n xs = true) (hi : 0 ≤ i ∧ i < n) : dfI n xs i = (xs.filter fun p => memB xs ((p - i) % n)).length := by
  obtain ⟨_, hb, ha⟩ := rhOk_iff.1 hx
  unfold dfI
  rw [filter_sum]
  congr 1
  exact List.map_congr_left fun p _ => df_row hb ha hi
theorem asc_nodup {ys : List Int} (h : ys.Pairwise (· < ·)) : ys.Nodup := h.imp (fun hab e => by omega)
theorem filter_all {xs : List Int} {f : Int → Bool} (h : ∀ x ∈ xs, f x = true) : (xs.filter f).length = xs.length := by rw [List.filter_eq_self.2 h]
theorem df_zero {n : Nat} {xs : List Int} (hx : rhOk n xs = true) : dfI n xs 0 = xs.length := by
  obtain ⟨hn, hb, _⟩ := rhOk_iff.1 hx
  rw [df_count hx ⟨by omega, by omega⟩]
  refine filter_all fun x hx' => ?_
  rw [Int.sub_zero, Int.emod_eq_of_lt (hb x hx').1 (hb x hx').2]
  exact memB_iff.2 hx'
/-- two selections of one size -/
theorem len_bij {xs ys : List Int} (hx : xs.Nodup) (hy : ys.Nodup) (f g : Int → Int) (hf : ∀ x ∈ xs, f x ∈ ys ∧ g (f x) = x) (hg : ∀ y ∈ ys, g y ∈ xs ∧ f (g y) = y) : xs.length = ys.length := by
  have h1 : (xs.map f).Perm ys := by
    refine (List.perm_ext_iff_of_nodup ?_ hy).2 fun y => ?_
    · rw [List.Nodup, List.pairwise_map]
      refine List.Pairwise.imp_of_mem (fun {a b} ha hb hne e => ?_) hx
      apply hne
      rw [← (hf a ha).2, ← (hf b hb).2, e]
    · rw [List.mem_map]
      constructor
      · rintro ⟨x, hx', rfl⟩; exact (hf x hx').1
      · intro h; exact ⟨g y, (hg y h).1, (hg y h).2⟩
  have := h1.length_eq
  rw [List.length_map] at this
  exact this
theorem df_sym {n : Nat} {xs : List Int} {i : Int} (hx : rhOk n xs = true) (hi : 0 ≤ i ∧ i < n) : dfI n xs ((n - i) % n) = dfI n xs i := by
  obtain ⟨hn, hb, ha⟩ := rhOk_iff.1 hx
  have hj : 0 ≤ ((n : Int) - i) % n ∧ ((n : Int) - i) % n < n := ⟨Int.emod_nonneg _ (by omega), Int.emod_lt_of_pos _ (by omega)⟩
  rw [df_count hx hj, df_count hx hi]
  have back : ∀ p : Int, (p - ((n : Int) - i) % n) % n = (p + i) % n := fun p => by
    rw [Int.sub_emod_emod, show p - ((n : Int) - i) = p + i - n by omega, Int.sub_emod_right]
  refine len_bij ((asc_nodup ha).filter _) ((asc_nodup ha).filter _) (fun p => (p + i) % n) (fun p => (p - i) % n) (fun p hp => ?_) (fun p hp => ?_)
  · obtain ⟨h1, h2⟩ := List.mem_filter.1 hp
    rw [back] at h2
    have h3 := memB_iff.1 h2
    have e : ((p + i) % (n : Int) - i) % n = p := by rw [Int.emod_sub_emod, show p + i - i = p by omega, Int.emod_eq_of_lt (hb p h1).1 (hb p h1).2]
    exact ⟨List.mem_filter.2 ⟨h3, by rw [e]; exact memB_iff.2 h1⟩, e⟩
  · obtain ⟨h1, h2⟩ := List.mem_filter.1 hp
    have h3 := memB_iff.1 h2
    have e : ((p - i) % (n : Int) + i) % n = p := by rw [Int.emod_add_emod, show p - i + i = p by omega, Int.emod_eq_of_lt (hb p h1).1 (hb p h1).2]
    exact ⟨List.mem_filter.2 ⟨h3, by rw [back, e]; exact memB_iff.2 h1⟩, e⟩
/-- the beats that a rotation leaves on beats -/
theorem df_common {n : Nat} {xs : List Int} {i : Int} (hx : rhOk n xs = true) (hi : 0 ≤ i ∧ i < n) : (xs.filter fun p => memB (rotL n xs i) p).length = dfI n xs i := by
  obtain ⟨hn, hb, ha⟩ := rhOk_iff.1 hx
  rw [df_count hx hi]
  congr 1
  refine List.filter_congr fun p hp => ?_
  rw [Bool.eq_iff_iff, memB_iff, memB_iff, rot_mem']
  constructor
  · rintro ⟨q, hq, e⟩
    rw [← e, Int.emod_sub_emod, show q + i - i = q by omega, Int.emod_eq_of_lt (hb q hq).1 (hb q hq).2]
    exact hq
  · intro h
    exact ⟨_, h, by rw [Int.emod_add_emod, show p - i + i = p by omega, Int.emod_eq_of_lt (hb p hp).1 (hb p hp).2]⟩
theorem rot_ok {n : Nat} {xs : List Int} (h1 : 1 ≤ n) (h24 : n ≤ 24) (k : Int) : rhOk n (rotL n xs k) = true := by
  refine rhOk_iff.2 ⟨⟨by omega, by omega⟩, fun x hx => ?_, coll_asc _⟩
  obtain ⟨p, _, rfl⟩ := rot_mem'.1 hx
  exact ⟨Int.emod_nonneg _ (by omega), Int.emod_lt_of_pos _ (by omega)⟩
/-- differences stay as a rhythm is rotated -/
theorem df_rot {n : Nat} {xs : List Int} {i : Int} (hx : rhOk n xs = true) (hi : 0 ≤ i ∧ i < n) (k : Int) : dfI n (rotL n xs k) i = dfI n xs i := by
  obtain ⟨hn, hb, ha⟩ := rhOk_iff.1 hx
  have hok := rot_ok (n := n) (xs := xs) (by omega) (by omega) k
  obtain ⟨_, hb2, ha2⟩ := rhOk_iff.1 hok
  rw [df_count hok hi, df_count hx hi]
  refine len_bij ((asc_nodup ha2).filter _) ((asc_nodup ha).filter _) (fun p => (p - k) % n) (fun p => (p + k) % n) (fun p hp => ?_) (fun p hp => ?_)
  · obtain ⟨h1, h2⟩ := List.mem_filter.1 hp
    have e : ((p - k) % (n : Int) + k) % n = p := by rw [Int.emod_add_emod, show p - k + k = p by omega, Int.emod_eq_of_lt (hb2 p h1).1 (hb2 p h1).2]
    obtain ⟨q, hq, e1⟩ := rot_mem'.1 h1
    obtain ⟨q2, hq2, e2⟩ := rot_mem'.1 (memB_iff.1 h2)
    have f1 : (p - k) % (n : Int) = q := by rw [← e1, Int.emod_sub_emod, show q + k - k = q by omega, Int.emod_eq_of_lt (hb q hq).1 (hb q hq).2]
    have f2 : ((p - k) % (n : Int) - i) % n = q2 := by
      rw [Int.emod_sub_emod, show p - k - i = (p - i) - k by omega, ← Int.emod_sub_emod, ← e2, Int.emod_sub_emod, show q2 + k - k = q2 by omega, Int.emod_eq_of_lt (hb q2 hq2).1 (hb q2 hq2).2]
    exact ⟨List.mem_filter.2 ⟨by rw [f1]; exact hq, by rw [f2]; exact memB_iff.2 hq2⟩, e⟩
  · obtain ⟨h1, h2⟩ := List.mem_filter.1 hp
    have e : ((p + k) % (n : Int) - k) % n = p := by rw [Int.emod_sub_emod, show p + k - k = p by omega, Int.emod_eq_of_lt (hb p h1).1 (hb p h1).2]
    refine ⟨List.mem_filter.2 ⟨rot_mem'.2 ⟨p, h1, rfl⟩, memB_iff.2 (rot_mem'.2 ⟨_, memB_iff.1 h2, ?_⟩)⟩, e⟩
    rw [Int.emod_add_emod, Int.emod_sub_emod, show p - i + k = p + k - i by omega]
end Go.Proofs.Ytlgiijibekobfaa
