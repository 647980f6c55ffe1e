/- Words that many parts of the proof share. -/
import Derived.Test.YtpejnhcmelkmeaaRts
import Derived.Test.YtpejnhcmelkmeaaCms
import Derived.Test.YtpejnhcmelkmeaaTls
namespace Go.Proofs.Ytpejnhcmelkmeaa
open Go.RowKit

/- Differences of beats: the plain laws of FnIntervals. -/
/-- the pulses that the beats are carried to -/
theorem df_row {n : Nat} {xs : List Int} {i p : Int} (hb : ∀ x ∈ xs, 0 ≤ x ∧ x < n) (ha : xs.Pairwise (· < ·)) (hi : 0 ≤ i ∧ i < n) : (xs.filter fun q => (p - q) % (n : Int) == i).length = if memB xs ((p - i) % n) = true then 1 else 0 := by
  induction xs with
  | nil => rfl
  | cons x r ih =>
    have hr := ih (fun y hy => hb y (List.mem_cons_of_mem _ hy)) (List.pairwise_cons.1 ha).2
    have hxb := hb x List.mem_cons_self
    have hlt := (List.pairwise_cons.1 ha).1
    have key : ∀ y : Int, 0 ≤ y ∧ y < n → ((p - y) % (n : Int) = i ↔ (p - i) % (n : Int) = y) := fun y hy => by
      constructor
      · intro h; rw [← h, Int.sub_emod_emod, show p - (p - y) = y by omega, Int.emod_eq_of_lt hy.1 hy.2]
      · intro h; rw [← h, Int.sub_emod_emod, show p - (p - i) = i by omega, Int.emod_eq_of_lt hi.1 hi.2]
    by_cases e : (p - x) % (n : Int) = i
    · have hx := (key x hxb).1 e
      rw [List.filter_cons_of_pos (by rw [beq_iff_eq]; exact e), List.length_cons, hr, hx]
      have h0 : memB r x = false := by
        rw [Bool.eq_false_iff]
        intro h
        have := hlt x (memB_iff.1 h)
        omega
      have h1 : memB (x :: r) x = true := memB_iff.2 List.mem_cons_self
      rw [h0, h1]; rfl
    · rw [List.filter_cons_of_neg (by rw [beq_iff_eq]; exact e), hr]
      have : memB (x :: r) ((p - i) % n) = memB r ((p - i) % n) := by
        rw [Bool.eq_iff_iff, memB_iff, memB_iff, List.mem_cons]
        constructor
        · rintro (h | h)
          · exact absurd ((key x hxb).2 h) e
          · exact h
        · exact .inr
      rw [this]
/-- a difference is counted at its beats -/
theorem df_count {n : Nat} {xs : List Int} {i : Int} (hx : rhOk n xs = true) (hi : 0 ≤ i ∧ i < n) : dfI n xs i = (xs.filter fun p => memB xs ((p - i) % n)).length := by
  obtain ⟨_, hb, ha⟩ := rhOk_iff.1 hx
  unfold dfI
  rw [filter_sum]
  congr 1
  exact List.map_congr_left fun p _ => df_row hb ha hi
theorem asc_nodup {ys : List Int} (h : ys.Pairwise (· < ·)) : ys.Nodup := h.imp (fun hab e => by omega)
theorem filter_all {xs : List Int} {f : Int → Bool} (h : ∀ x ∈ xs, f x = true) : (xs.filter f).length = xs.length := by rw [List.filter_eq_self.2 h]
theorem df_zero {n : Nat} {xs : List Int} (hx : rhOk n xs = true) : dfI n xs 0 = xs.length := by
  obtain ⟨hn, hb, _⟩ := rhOk_iff.1 hx
  rw [df_count hx ⟨by omega, by omega⟩]
  refine filter_all fun x hx' => ?_
  rw [Int.sub_zero, Int.emod_eq_of_lt (hb x hx').1 (hb x hx').2]
  exact memB_iff.2 hx'
/-- two selections of one size -/
theorem len_bij {xs ys : List Int} (hx : xs.Nodup) (hy : ys.Nodup) (f g : Int → Int) (hf : ∀ x ∈ xs, f x ∈ ys ∧ g (f x) = x) (hg : ∀ y ∈ ys, g y ∈ xs ∧ f (g y) = y) : xs.length = ys.length := by
  have h1 : (xs.map f).Perm ys := by
    refine (List.perm_ext_iff_of_nodup ?_ hy).2 fun y => ?_
    · rw [List.Nodup, List.pairwise_map]
      refine List.Pairwise.imp_of_mem (fun {a b} ha hb hne e => ?_) hx
      apply hne
      rw [← (hf a ha).2, ← (hf b hb).2, e]
    · rw [List.mem_map]
      constructor
      · rintro ⟨x, hx', rfl⟩; exact (hf x hx').1
      · intro h; exact ⟨g y, (hg y h).1, (hg y h).2⟩
  have := h1.length_eq
  rw [List.length_map] at this
  exact this
theorem df_sym {n : Nat} {xs : List Int} {i : Int} (hx : rhOk n xs = true) (hi : 0 ≤ i ∧ i < n) : dfI n xs ((n - i) % n) = dfI n xs i := by
  obtain ⟨hn, hb, ha⟩ := rhOk_iff.1 hx
  have hj : 0 ≤ ((n : Int) - i) % n ∧ ((n : Int) - i) % n < n := ⟨Int.emod_nonneg _ (by omega), Int.emod_lt_of_pos _ (by omega)⟩
  rw [df_count hx hj, df_count hx hi]
  have back : ∀ p : Int, (p - ((n : Int) - i) % n) % n = (p + i) % n := fun p => by
    rw [Int.sub_emod_emod, show p - ((n : Int) - i) = p + i - n by omega, Int.sub_emod_right]
  refine len_bij ((asc_nodup ha).filter _) ((asc_nodup ha).filter _) (fun p => (p + i) % n) (fun p => (p - i) % n) (fun p hp => ?_) (fun p hp => ?_)
  · obtain ⟨h1, h2⟩ := List.mem_filter.1 hp
    rw [back] at h2
    have h3 := memB_iff.1 h2
    have e : ((p + i) % (n : Int) - i) % n = p := by rw [Int.emod_sub_emod, show p + i - i = p by omega, Int.emod_eq_of_lt (hb p h1).1 (hb p h1).2]
    exact ⟨List.mem_filter.2 ⟨h3, by rw [e]; exact memB_iff.2 h1⟩, e⟩
  · obtain ⟨h1, h2⟩ := List.mem_filter.1 hp
    have h3 := memB_iff.1 h2
    have e : ((p - i) % (n : Int) + i) % n = p := by rw [Int.emod_add_emod, show p - i + i = p by omega, Int.emod_eq_of_lt (hb p h1).1 (hb p h1).2]
    exact ⟨List.mem_filter.2 ⟨h3, by rw [back, e]; exact memB_iff.2 h1⟩, e⟩
/-- the beats that a rotation leaves on beats -/
theorem df_common {n : Nat} {xs : List Int} {i : Int} (hx : rhOk n xs = true) (hi : 0 ≤ i ∧ i < n) : (xs.filter fun p => memB (rotL n xs i) p).length = dfI n xs i := by
  obtain ⟨hn, hb, ha⟩ := rhOk_iff.1 hx
  rw [df_count hx hi]
  congr 1
  refine List.filter_congr fun p hp => ?_
  rw [Bool.eq_iff_iff, memB_iff, memB_iff, rot_mem']
  constructor
  · rintro ⟨q, hq, e⟩
    rw [← e, Int.emod_sub_emod, show q + i - i = q by omega, Int.emod_eq_of_lt (hb q hq).1 (hb q hq).2]
    exact hq
  · intro h
    exact ⟨_, h, by rw [Int.emod_add_emod, show p - i + i = p by omega, Int.emod_eq_of_lt (hb p hp).1 (hb p hp).2]⟩
theorem rot_ok {n : Nat} {xs : List Int} (h1 : 1 ≤ n) (h24 : n ≤ 24) (k : Int) : rhOk n (rotL n xs k) = true := by
  refine rhOk_iff.2 ⟨⟨by omega, by omega⟩, fun x hx => ?_, coll_asc _⟩
  obtain ⟨p, _, rfl⟩ := rot_mem'.1 hx
  exact ⟨Int.emod_nonneg _ (by omega), Int.emod_lt_of_pos _ (by omega)⟩
/-- differences stay as a rhythm is rotated -/
theorem df_rot {n : Nat} {xs : List Int} {i : Int} (hx : rhOk n xs = true) (hi : 0 ≤ i ∧ i < n) (k : Int) : dfI n (rotL n xs k) i = dfI n xs i := by
  obtain ⟨hn, hb, ha⟩ := rhOk_iff.1 hx
  have hok := rot_ok (n := n) (xs := xs) (by omega) (by omega) k
  obtain ⟨_, hb2, ha2⟩ := rhOk_iff.1 hok
  rw [df_count hok hi, df_count hx hi]
  refine len_bij ((asc_nodup ha2).filter _) ((asc_nodup ha).filter _) (fun p => (p - k) % n) (fun p => (p + k) % n) (fun p hp => ?_) (fun p hp => ?_)
  · obtain ⟨h1, h2⟩ := List.mem_filter.1 hp
    have e : ((p - k) % (n : Int) + k) % n = p := by rw [Int.emod_add_emod, show p - k + k = p by omega, Int.emod_eq_of_lt (hb2 p h1).1 (hb2 p h1).2]
    obtain ⟨q, hq, e1⟩ := rot_mem'.1 h1
    obtain ⟨q2, hq2, e2⟩ := rot_mem'.1 (memB_iff.1 h2)
    have f1 : (p - k) % (n : Int) = q := by rw [← e1, Int.emod_sub_emod, show q + k - k = q by omega, Int.emod_eq_of_lt (hb q hq).1 (hb q hq).2]
    have f2 : ((p - k) % (n : Int) - i) % n = q2 := by
      rw [Int.emod_sub_emod, show p - k - i = (p - i) - k by omega, ← Int.emod_sub_emod, ← e2, Int.emod_sub_emod, show q2 + k - k = q2 by omega, Int.emod_eq_of_lt (hb q2 hq2).1 (hb q2 hq2).2]
    exact ⟨List.mem_filter.2 ⟨by rw [f1]; exact hq, by rw [f2]; exact memB_iff.2 hq2⟩, e⟩
  · obtain ⟨h1, h2⟩ := List.mem_filter.1 hp
    have e : ((p + k) % (n : Int) - k) % n = p := by rw [Int.emod_sub_emod, show p + k - k = p by omega, Int.emod_eq_of_lt (hb p h1).1 (hb p h1).2]
    refine ⟨List.mem_filter.2 ⟨rot_mem'.2 ⟨p, h1, rfl⟩, memB_iff.2 (rot_mem'.2 ⟨_, memB_iff.1 h2, ?_⟩)⟩, e⟩
    rw [Int.emod_add_emod, Int.emod_sub_emod, show p - i + k = p + k - i by omega]

/- Differences of beats: their row, their sum, and those of the other pulses. -/
/-- the row of the differences -/
def difC (s : Int) (xs : List Int) : List Int := sumC s xs (xs.map fun q => -q)
theorem difC_len (s : Int) (xs : List Int) : (difC s xs).length = s.toNat := sumC_len _ _ _
theorem pr_neg (s : Int) (xs : List Int) (i : Int) : prI s xs (xs.map fun q => -q) i = dfI s xs i := by
  unfold prI dfI
  congr 1
  refine List.map_congr_left fun p _ => ?_
  rw [List.filter_map, List.length_map]
  congr 1
theorem difC_at {s : Int} {xs : List Int} (hs : 1 ≤ s) {j : Nat} (hj : j < s.toNat) : (difC s xs)[j]?.getD 0 = ((dfI s xs j : Nat) : Int) := by
  unfold difC
  rw [sumC_at hs hj, pr_neg]
theorem difC_sum {s : Int} {xs : List Int} (hs : 1 ≤ s) : (difC s xs).sum = ((xs.length * xs.length : Nat) : Int) := by
  unfold difC
  rw [sumC_sum hs, List.length_map]
theorem cu_or (P Q : Nat → Bool) : ∀ n, cu P n + cu Q n = cu (fun j => P j || Q j) n + cu (fun j => P j && Q j) n := by
  intro n
  induction n with
  | zero => rfl
  | succ n ih =>
    simp only [cu]
    by_cases hp : P n = true <;> by_cases hq : Q n = true <;> simp [hp, hq] <;> omega
theorem cu_not (P : Nat → Bool) : ∀ n, cu P n + cu (fun j => !P j) n = n := by
  intro n
  induction n with
  | zero => rfl
  | succ n ih =>
    simp only [cu]
    by_cases hp : P n = true <;> simp [hp] <;> omega
theorem cu_congr {P Q : Nat → Bool} {n : Nat} (h : ∀ j, j < n → P j = Q j) : cu P n = cu Q n := by
  induction n with
  | zero => rfl
  | succ n ih => simp only [cu]; rw [h n (by omega), ih fun j hj => h j (by omega)]
theorem sel_cu (P : Int → Bool) : ∀ n, (selTo P n).length = cu (fun j : Nat => P (j : Int)) n := by
  intro n
  induction n with
  | zero => rfl
  | succ n ih =>
    cases h : P (n : Int) with
    | true => rw [selTo_hit h, List.length_append, cu_hit (P := fun j : Nat => P (j : Int)) h, ih]; simp; omega
    | false => rw [selTo_miss h, cu_miss (P := fun j : Nat => P (j : Int)) h, ih]
/-- a selection of an ascending row, counted over the pulses -/
theorem filter_cu {n : Nat} {xs : List Int} (hb : ∀ x ∈ xs, 0 ≤ x ∧ x < n) (ha : xs.Pairwise (· < ·)) (f : Int → Bool) : (xs.filter f).length = cu (fun j : Nat => memB xs (j : Int) && f (j : Int)) n := by
  rw [← sel_cu (fun p => memB xs p && f p) n]
  congr 1
  refine asc_ext (ha.filter f) (selTo_asc _ _) fun x => ?_
  rw [List.mem_filter, selTo_mem]
  constructor
  · rintro ⟨h1, h2⟩
    obtain ⟨i, rfl⟩ := Int.eq_ofNat_of_zero_le (hb x h1).1
    exact ⟨i, by have := (hb _ h1).2; omega, rfl, by rw [memB_iff.2 h1, h2]; rfl⟩
  · rintro ⟨i, _, rfl, h⟩
    rw [Bool.and_eq_true, memB_iff] at h
    exact h
theorem len_cu {n : Nat} {xs : List Int} (hb : ∀ x ∈ xs, 0 ≤ x ∧ x < n) (ha : xs.Pairwise (· < ·)) : xs.length = cu (fun j : Nat => memB xs (j : Int)) n := by
  have := filter_cu hb ha fun _ => true
  rw [filter_all fun _ _ => rfl] at this
  rw [this]
  exact cu_congr fun j _ => Bool.and_true _
/-- the pulses whose image under a step is a beat are as many as the beats -/
theorem shift_cu {n : Nat} {xs : List Int} {i : Int} (hx : rhOk n xs = true) : cu (fun j : Nat => memB xs (((j : Int) - i) % n)) n = xs.length := by
  obtain ⟨hn, hb, ha⟩ := rhOk_iff.1 hx
  have hok := rot_ok (n := n) (xs := xs) (by omega) (by omega) i
  obtain ⟨_, hb2, ha2⟩ := rhOk_iff.1 hok
  have h1 : (rotL n xs i).length = xs.length := by
    refine len_bij (asc_nodup ha2) (asc_nodup ha) (fun p => (p - i) % n) (fun p => (p + i) % n) (fun p hp => ?_) (fun p hp => ?_)
    · obtain ⟨q, hq, e1⟩ := rot_mem'.1 hp
      have f1 : (p - i) % (n : Int) = q := by rw [← e1, Int.emod_sub_emod, show q + i - i = q by omega, Int.emod_eq_of_lt (hb q hq).1 (hb q hq).2]
      exact ⟨by rw [f1]; exact hq, by rw [Int.emod_add_emod, show p - i + i = p by omega, Int.emod_eq_of_lt (hb2 p hp).1 (hb2 p hp).2]⟩
    · exact ⟨rot_mem'.2 ⟨p, hp, rfl⟩, by rw [Int.emod_sub_emod, show p + i - i = p by omega, Int.emod_eq_of_lt (hb p hp).1 (hb p hp).2]⟩
  rw [← h1, len_cu hb2 ha2]
  refine cu_congr fun j hj => ?_
  rw [Bool.eq_iff_iff, memB_iff, memB_iff, rot_mem']
  constructor
  · intro h
    exact ⟨_, h, by rw [Int.emod_add_emod, show (j : Int) - i + i = j by omega, Int.emod_eq_of_lt (by omega) (by omega)]⟩
  · rintro ⟨q, hq, e⟩
    rw [← e, Int.emod_sub_emod, show q + i - i = q by omega, Int.emod_eq_of_lt (hb q hq).1 (hb q hq).2]
    exact hq
theorem oth_ok {n : Nat} (h1 : 1 ≤ n) (h24 : n ≤ 24) (xs : List Int) : rhOk n (othL n xs) = true := by
  unfold othL
  exact selTo_ok ⟨by omega, by omega⟩ _
theorem oth_mem {n : Nat} {xs : List Int} {x : Int} : memB (othL n xs) x = (decide (0 ≤ x ∧ x < n) && !memB xs x) := by
  unfold othL
  rw [Int.toNat_natCast, Bool.eq_iff_iff, memB_iff, selTo_mem, Bool.and_eq_true, decide_eq_true_iff]
  constructor
  · rintro ⟨i, hi, rfl, h⟩; exact ⟨⟨by omega, by omega⟩, h⟩
  · rintro ⟨hb, h⟩
    obtain ⟨i, rfl⟩ := Int.eq_ofNat_of_zero_le hb.1
    exact ⟨i, by omega, rfl, h⟩
/-- the differences of the other pulses -/
theorem df_oth {n : Nat} {xs : List Int} {i : Int} (hx : rhOk n xs = true) (hi : 0 ≤ i ∧ i < n) : dfI n (othL n xs) i + 2 * xs.length = n + dfI n xs i := by
  obtain ⟨hn, hb, ha⟩ := rhOk_iff.1 hx
  have hok := oth_ok (n := n) (by omega) (by omega) xs
  obtain ⟨_, hb2, ha2⟩ := rhOk_iff.1 hok
  rw [df_count hok hi, df_count hx hi, filter_cu hb2 ha2, filter_cu hb ha]
  have h1 := cu_or (fun j : Nat => memB xs (j : Int)) (fun j : Nat => memB xs (((j : Int) - i) % n)) n
  rw [shift_cu hx, ← len_cu hb ha] at h1
  have h2 := cu_not (fun j : Nat => memB xs (j : Int) || memB xs (((j : Int) - i) % n)) n
  have h3 : cu (fun j : Nat => memB (othL n xs) (j : Int) && memB (othL n xs) (((j : Int) - i) % n)) n = cu (fun j : Nat => !(memB xs (j : Int) || memB xs (((j : Int) - i) % n))) n := by
    refine cu_congr fun j hj => ?_
    rw [oth_mem, oth_mem]
    have e1 : decide (0 ≤ (j : Int) ∧ (j : Int) < n) = true := by simp; omega
    have e2 : decide (0 ≤ ((j : Int) - i) % n ∧ ((j : Int) - i) % n < n) = true := by
      rw [decide_eq_true_iff]; exact ⟨Int.emod_nonneg _ (by omega), Int.emod_lt_of_pos _ (by omega)⟩
    rw [e1, e2, Bool.true_and, Bool.true_and, Bool.not_or]
  rw [h3]
  omega

/- Distances of beats: the plain laws of the vector. -/
def vin (s p : Int) (ys l : List Int) : Nat → List Int
  | 0 => l
  | b + 1 => inc (vin s p ys l b) (min (p - ys[b]?.getD 0) (s + ys[b]?.getD 0 - p) - 1).toNat
def vout (s : Int) (xs : List Int) : Nat → List Int
  | 0 => List.replicate (s / 2).toNat 0
  | a + 1 => vin s (xs[a]?.getD 0) xs (vout s xs a) a
/-- for each distance up to half the bar how many pairs of beats have it -/
def vecC (s : Int) (xs : List Int) : List Int := vout s xs xs.length
theorem vin_len (s p : Int) (ys l : List Int) (b : Nat) : (vin s p ys l b).length = l.length := by
  induction b with
  | zero => rfl
  | succ b ih => simp only [vin, inc_len, ih]
theorem vout_len (s : Int) (xs : List Int) (a : Nat) : (vout s xs a).length = (s / 2).toNat := by
  induction a with
  | zero => simp [vout]
  | succ a ih => simp only [vout, vin_len, ih]
theorem vecC_len (s : Int) (xs : List Int) : (vecC s xs).length = (s / 2).toNat := vout_len _ _ _
/-- how many pairs of beats, the later one first, are d apart -/
def apI (xs : List Int) (d : Int) : Nat := (xs.map fun p => (xs.filter fun q => p - q == d).length).sum
def vI (s : Int) (xs : List Int) (j : Int) : Nat := (xs.map fun p => (xs.filter fun q => decide (q < p) && (min (p - q) (s + q - p) == j)).length).sum
theorem filter_take_asc {xs : List Int} (ha : xs.Pairwise (· < ·)) {a : Nat} (h : a < xs.length) (f : Int → Bool) : ((xs.take a).filter f).length = (xs.filter fun q => decide (q < xs[a]) && f q).length := by
  have e : xs = xs.take a ++ xs.drop a := (List.take_append_drop a xs).symm
  have h1 : ∀ q ∈ xs.take a, q < xs[a] := fun q hq => by
    obtain ⟨i, hi, rfl⟩ := List.getElem_of_mem hq
    rw [List.length_take] at hi
    rw [List.getElem_take]
    exact List.pairwise_iff_getElem.1 ha i a (by omega) h (by omega)
  have h2 : ∀ q ∈ xs.drop a, ¬ q < xs[a] := fun q hq => by
    obtain ⟨i, hi, rfl⟩ := List.getElem_of_mem hq
    rw [List.length_drop] at hi
    rw [List.getElem_drop]
    by_cases hi0 : i = 0
    · subst hi0; simp
    · have := List.pairwise_iff_getElem.1 ha a (a + i) h (by omega) (by omega)
      omega
  obtain ⟨z, hz⟩ : ∃ z, z = xs[a] := ⟨_, rfl⟩
  rw [← hz] at h1 h2 ⊢
  clear hz
  have e3 : (xs.drop a).filter (fun q => decide (q < z) && f q) = [] := List.filter_eq_nil_iff.2 fun q hq => by
    have := h2 q hq
    simp [this]
  have e4 : (xs.take a).filter (fun q => decide (q < z) && f q) = (xs.take a).filter f := List.filter_congr fun q hq => by
    have := h1 q hq
    simp [this]
  rw [← e4]
  conv => rhs; rw [e, List.filter_append, e3, List.append_nil]
theorem vin_at {s p : Int} {ys l : List Int} (j : Nat) (hj : j < l.length) (hp : ∀ b : Nat, b < ys.length → ys[b]?.getD 0 < p → 1 ≤ min (p - ys[b]?.getD 0) (s + ys[b]?.getD 0 - p)) : ∀ b, b ≤ ys.length → (∀ i : Nat, i < b → ys[i]?.getD 0 < p) →
    (vin s p ys l b)[j]?.getD 0 = l[j]?.getD 0 + (((ys.take b).filter fun q => min (p - q) (s + q - p) == ((j : Int) + 1)).length : Int) := by
  intro b
  induction b with
  | zero => intro _ _; simp [vin]
  | succ b ih =>
    intro hb hlt
    have hx := List.getElem?_eq_getElem (l := ys) (i := b) (by omega)
    have hm := hp b (by omega) (hlt b (by omega))
    rw [filter_take_snoc _ hx]
    simp only [vin]
    rw [inc_atP, vin_len, hx]
    rw [hx] at hm
    simp only [Option.getD_some] at hm ⊢
    have ih := ih (by omega) fun i hi => hlt i (by omega)
    by_cases e : min (p - ys[b]) (s + ys[b] - p) = (j : Int) + 1
    · rw [if_pos ⟨by omega, by omega⟩, if_pos (by rw [beq_iff_eq]; exact e)]
      rw [show (min (p - ys[b]) (s + ys[b] - p) - 1).toNat = j by omega, ih]
      omega
    · rw [if_neg (fun h => e (by omega)), if_neg (by rw [beq_iff_eq]; exact e), ih]
      omega
theorem vout_at {n : Nat} {xs : List Int} (hx : rhOk n xs = true) (j : Nat) (hj : j < ((n : Int) / 2).toNat) : ∀ a, a ≤ xs.length → (vout n xs a)[j]?.getD 0 = ((((xs.take a).map fun p => (xs.filter fun q => decide (q < p) && (min (p - q) ((n : Int) + q - p) == (j : Int) + 1)).length).sum : Nat) : Int) := by
  obtain ⟨hn, hb, ha⟩ := rhOk_iff.1 hx
  intro a
  induction a with
  | zero => intro _; simp [vout, hj]
  | succ a ih =>
    intro hal
    have hxa := List.getElem?_eq_getElem (l := xs) (i := a) (by omega)
    have hpa := hb _ (List.getElem_mem (show a < xs.length by omega))
    simp only [vout]
    rw [hxa]
    simp only [Option.getD_some]
    rw [vin_at j (by rw [vout_len]; exact hj) (fun b hbl hlt => ?_) a (by omega) (fun i hi => ?_), ih (by omega), filter_take_asc ha (by omega), List.take_add_one, hxa, List.map_append, List.sum_append]
    · simp
    · have hxb := List.getElem?_eq_getElem (l := xs) (i := b) hbl
      have := hb _ (List.getElem_mem hbl)
      rw [hxb] at hlt ⊢
      simp only [Option.getD_some] at hlt ⊢
      omega
    · have hxi := List.getElem?_eq_getElem (l := xs) (i := i) (by omega)
      rw [hxi]
      exact List.pairwise_iff_getElem.1 ha i a (by omega) (by omega) hi
theorem vecC_at {n : Nat} {xs : List Int} (hx : rhOk n xs = true) (j : Nat) (hj : j < ((n : Int) / 2).toNat) : (vecC n xs)[j]?.getD 0 = ((vI n xs ((j : Int) + 1) : Nat) : Int) := by
  unfold vecC
  rw [vout_at hx j hj _ (Nat.le_refl _), List.take_length]
  rfl
theorem sum_congr {f g : Int → Nat} {xs : List Int} (h : ∀ x ∈ xs, f x = g x) : (xs.map f).sum = (xs.map g).sum := by rw [List.map_congr_left h]
theorem filter_or {f g : Int → Bool} {xs : List Int} (h : ∀ x ∈ xs, ¬ (f x = true ∧ g x = true)) : (xs.filter fun x => f x || g x).length = (xs.filter f).length + (xs.filter g).length := by
  induction xs with
  | nil => rfl
  | cons x r ih =>
    have ih := ih fun y hy => h y (List.mem_cons_of_mem _ hy)
    have hx := h x List.mem_cons_self
    by_cases hf : f x = true <;> by_cases hg : g x = true
    · exact absurd ⟨hf, hg⟩ hx
    · simp [hf, hg, ih]; omega
    · simp [hf, hg, ih]; omega
    · simp [hf, hg, ih]
/-- a difference round the bar is one on the line, either way -/
theorem df_ap {n : Nat} {xs : List Int} (hx : rhOk n xs = true) {d : Int} (hd : 1 ≤ d ∧ d < n) : dfI n xs d = apI xs d + apI xs (n - d) := by
  obtain ⟨hn, hb, ha⟩ := rhOk_iff.1 hx
  have sw : apI xs (n - d) = (xs.map fun p => (xs.filter fun q => q - p == (n : Int) - d).length).sum := by
    unfold apI
    exact pairs_swap (fun p q => p - q == (n : Int) - d) xs xs
  rw [sw]
  unfold dfI apI
  rw [← sum_add]
  refine sum_congr fun p hp => ?_
  rw [← filter_or fun q hq => ?_]
  · congr 1
    refine List.filter_congr fun q hq => ?_
    have h1 := hb p hp
    have h2 := hb q hq
    rw [Bool.eq_iff_iff, Bool.or_eq_true, beq_iff_eq, beq_iff_eq, beq_iff_eq]
    by_cases hpq : q ≤ p
    · rw [Int.emod_eq_of_lt (by omega) (by omega)]; omega
    · have : (p - q) % (n : Int) = p - q + n := by
        rw [← Int.add_emod_right, Int.emod_eq_of_lt (by omega) (by omega)]
      rw [this]; omega
  · rw [beq_iff_eq, beq_iff_eq]
    omega
theorem vI_ap {n : Nat} {xs : List Int} (hx : rhOk n xs = true) {j : Int} (hj : 1 ≤ j ∧ 2 * j ≤ n) : vI n xs j = if 2 * j = n then apI xs j else apI xs j + apI xs (n - j) := by
  obtain ⟨hn, hb, ha⟩ := rhOk_iff.1 hx
  by_cases h2 : 2 * j = n
  · rw [if_pos h2]
    unfold vI apI
    refine sum_congr fun p hp => ?_
    congr 1
    refine List.filter_congr fun q hq => ?_
    rw [Bool.eq_iff_iff, Bool.and_eq_true, decide_eq_true_iff, beq_iff_eq, beq_iff_eq]
    omega
  · rw [if_neg h2]
    unfold vI apI
    rw [← sum_add]
    refine sum_congr fun p hp => ?_
    rw [← filter_or fun q hq => ?_]
    · congr 1
      refine List.filter_congr fun q hq => ?_
      have h1 := hb p hp
      have h3 := hb q hq
      rw [Bool.eq_iff_iff, Bool.or_eq_true, Bool.and_eq_true, decide_eq_true_iff, beq_iff_eq, beq_iff_eq, beq_iff_eq]
      omega
    · rw [beq_iff_eq, beq_iff_eq]
      omega
/-- the vector follows from the differences -/
theorem vI_df {n : Nat} {xs : List Int} (hx : rhOk n xs = true) {j : Int} (hj : 1 ≤ j ∧ 2 * j ≤ n) : vI n xs j = if 2 * j = n then dfI n xs j / 2 else dfI n xs j := by
  have h1 := vI_ap hx hj
  have h2 := df_ap hx (d := j) ⟨hj.1, by omega⟩
  by_cases h : 2 * j = n
  · rw [if_pos h] at h1 ⊢
    rw [show (n : Int) - j = j by omega] at h2
    omega
  · rw [if_neg h] at h1 ⊢
    omega
theorem vec_same {n : Nat} {xs ys : List Int} (hx : rhOk n xs = true) (hy : rhOk n ys = true) (h : ∀ i : Int, 0 ≤ i ∧ i < n → dfI n xs i = dfI n ys i) : vecC n xs = vecC n ys := by
  refine ext_getD (by rw [vecC_len, vecC_len]) fun i hi => ?_
  rw [vecC_len] at hi
  rw [vecC_at hx i hi, vecC_at hy i hi, vI_df hx ⟨by omega, by omega⟩, vI_df hy ⟨by omega, by omega⟩, h _ ⟨by omega, by omega⟩]
theorem vin_sum {s p : Int} {ys l : List Int} : ∀ b, (∀ i : Nat, i < b → (min (p - ys[i]?.getD 0) (s + ys[i]?.getD 0 - p) - 1).toNat < l.length) → (vin s p ys l b).sum = l.sum + b := by
  intro b
  induction b with
  | zero => intro _; simp [vin]
  | succ b ih =>
    intro h
    simp only [vin]
    rw [inc_sum (by rw [vin_len]; exact h b (by omega)), ih fun i hi => h i (by omega)]
    omega
theorem vec_sum {n : Nat} {xs : List Int} (hx : rhOk n xs = true) : 2 * (vecC n xs).sum = (xs.length : Int) * ((xs.length : Int) - 1) := by
  obtain ⟨hn, hb, ha⟩ := rhOk_iff.1 hx
  have key : ∀ a, a ≤ xs.length → 2 * (vout n xs a).sum = (a : Int) * ((a : Int) - 1) := by
    intro a
    induction a with
    | zero => intro _; simp [vout]
    | succ a ih =>
      intro hal
      have hxa := List.getElem?_eq_getElem (l := xs) (i := a) (by omega)
      have hpa := hb _ (List.getElem_mem (show a < xs.length by omega))
      simp only [vout]
      rw [vin_sum a fun i hi => ?_]
      · have := ih (by omega)
        have e : ((a + 1 : Nat) : Int) * (((a + 1 : Nat) : Int) - 1) = (a : Int) * ((a : Int) - 1) + 2 * a := by
          rw [Int.natCast_add, show (a : Int) + (1 : Nat) - 1 = (a : Int) by omega, Int.mul_sub, Int.add_mul]
          omega
        rw [e, ← this]
        omega
      · have hxi := List.getElem?_eq_getElem (l := xs) (i := i) (by omega)
        have := hb _ (List.getElem_mem (show i < xs.length by omega))
        have hlt := List.pairwise_iff_getElem.1 ha i a (by omega) (by omega) hi
        rw [vout_len, hxa, hxi]
        simp only [Option.getD_some]
        omega
  exact key _ (Nat.le_refl _)
end Go.Proofs.Ytpejnhcmelkmeaa
