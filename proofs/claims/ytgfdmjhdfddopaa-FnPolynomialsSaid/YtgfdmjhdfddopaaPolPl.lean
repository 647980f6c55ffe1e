/- A power minus 1 is the product of cyclotomic polynomials; the values of a rhythm's polynomial: plain laws. -/
import Derived.Test.YtgfdmjhdfddopaaVanPl
import Derived.Test.YtgfdmjhdfddopaaOrd
import Derived.Test.YtgfdmjhdfddopaaTimes
import Derived.Test.YtgfdmjhdfddopaaValueAt
import Derived.Test.YtgfdmjhdfddopaaTotient
namespace Go.Proofs.Ytgfdmjhdfddopaa
open Go.RowKit
set_option maxRecDepth 20000

def polT : List (List (List Int)) := [[], [[1], [-1, 1]], [[1], [-1, 1], [-1, 0, 1]], [[1], [-1, 1], [-1, 0, 0, 1]], [[1], [-1, 1], [-1, 0, 1], [-1, 0, 0, 0, 1]], [[1], [-1, 1], [-1, 0, 0, 0, 0, 1]], [[1], [-1, 1], [-1, 0, 1], [-1, -1, 0, 1, 1], [-1, 0, 0, 0, 0, 0, 1]], [[1], [-1, 1], [-1, 0, 0, 0, 0, 0, 0, 1]], [[1], [-1, 1], [-1, 0, 1], [-1, 0, 0, 0, 1], [-1, 0, 0, 0, 0, 0, 0, 0, 1]], [[1], [-1, 1], [-1, 0, 0, 1], [-1, 0, 0, 0, 0, 0, 0, 0, 0, 1]], [[1], [-1, 1], [-1, 0, 1], [-1, -1, 0, 0, 0, 1, 1], [-1, 0, 0, 0, 0, 0, 0, 0, 0, 0, 1]], [[1], [-1, 1], [-1, 0, 0, 0, 0, 0, 0, 0, 0, 0, 0, 1]], [[1], [-1, 1], [-1, 0, 1], [-1, -1, 0, 1, 1], [-1, -1, -1, 0, 1, 1, 1], [-1, 0, -1, 0, 0, 0, 1, 0, 1], [-1, 0, 0, 0, 0, 0, 0, 0, 0, 0, 0, 0, 1]], [[1], [-1, 1], [-1, 0, 0, 0, 0, 0, 0, 0, 0, 0, 0, 0, 0, 1]], [[1], [-1, 1], [-1, 0, 1], [-1, -1, 0, 0, 0, 0, 0, 1, 1], [-1, 0, 0, 0, 0, 0, 0, 0, 0, 0, 0, 0, 0, 0, 1]], [[1], [-1, 1], [-1, 0, 0, 1], [-1, -1, -1, 0, 0, 1, 1, 1], [-1, 0, 0, 0, 0, 0, 0, 0, 0, 0, 0, 0, 0, 0, 0, 1]], [[1], [-1, 1], [-1, 0, 1], [-1, 0, 0, 0, 1], [-1, 0, 0, 0, 0, 0, 0, 0, 1], [-1, 0, 0, 0, 0, 0, 0, 0, 0, 0, 0, 0, 0, 0, 0, 0, 1]], [[1], [-1, 1], [-1, 0, 0, 0, 0, 0, 0, 0, 0, 0, 0, 0, 0, 0, 0, 0, 0, 1]], [[1], [-1, 1], [-1, 0, 1], [-1, -1, 0, 1, 1], [-1, 0, 0, 0, 0, 0, 1], [-1, 0, 0, -1, 0, 0, 0, 0, 0, 1, 0, 0, 1], [-1, 0, 0, 0, 0, 0, 0, 0, 0, 0, 0, 0, 0, 0, 0, 0, 0, 0, 1]], [[1], [-1, 1], [-1, 0, 0, 0, 0, 0, 0, 0, 0, 0, 0, 0, 0, 0, 0, 0, 0, 0, 0, 1]], [[1], [-1, 1], [-1, 0, 1], [-1, 0, 0, 0, 1], [-1, -1, -1, -1, 0, 1, 1, 1, 1], [-1, 0, -1, 0, 0, 0, 0, 0, 0, 0, 1, 0, 1], [-1, 0, 0, 0, 0, 0, 0, 0, 0, 0, 0, 0, 0, 0, 0, 0, 0, 0, 0, 0, 1]], [[1], [-1, 1], [-1, 0, 0, 1], [-1, -1, -1, 0, 0, 0, 0, 1, 1, 1], [-1, 0, 0, 0, 0, 0, 0, 0, 0, 0, 0, 0, 0, 0, 0, 0, 0, 0, 0, 0, 0, 1]], [[1], [-1, 1], [-1, 0, 1], [-1, -1, 0, 0, 0, 0, 0, 0, 0, 0, 0, 1, 1], [-1, 0, 0, 0, 0, 0, 0, 0, 0, 0, 0, 0, 0, 0, 0, 0, 0, 0, 0, 0, 0, 0, 1]], [[1], [-1, 1], [-1, 0, 0, 0, 0, 0, 0, 0, 0, 0, 0, 0, 0, 0, 0, 0, 0, 0, 0, 0, 0, 0, 0, 1]], [[1], [-1, 1], [-1, 0, 1], [-1, -1, 0, 1, 1], [-1, -1, -1, 0, 1, 1, 1], [-1, 0, -1, 0, 0, 0, 1, 0, 1], [-1, 0, -1, 0, -1, 0, 0, 0, 1, 0, 1, 0, 1], [-1, 0, 0, 0, -1, 0, 0, 0, 0, 0, 0, 0, 1, 0, 0, 0, 1], [-1, 0, 0, 0, 0, 0, 0, 0, 0, 0, 0, 0, 0, 0, 0, 0, 0, 0, 0, 0, 0, 0, 0, 0, 1]]]
/-- the product of the first i cyclotomic polynomials of n's divisors -/
def pT (n i : Nat) : List Int := (polT[n]?.getD [])[i]?.getD []
def dvAt (n i : Nat) : Int := (divs n)[i]?.getD 0
def dT (n : Nat) : Nat → Int
  | 0 => 0
  | i + 1 => dT n i + tot (dvAt n i)
def polStep (n i : Nat) : Bool := decide (1 ≤ dvAt n i) && decide (dvAt n i ≤ 24) && decide (((cyc (dvAt n i).toNat).length : Int) = tot (dvAt n i) + 1) && decide (lastI (cyc (dvAt n i).toNat) = 1) && timesOk (pT n i) (cyc (dvAt n i).toNat) && decide (timesL (pT n i) (cyc (dvAt n i).toNat) = pT n (i + 1)) && decide (0 ≤ dT n i) && decide (dT n i ≤ 100) && decide (0 ≤ tot (dvAt n i)) && decide (tot (dvAt n i) ≤ 100)
def polB : Bool := (List.range 25).all fun n => n == 0 || (decide (pT n 0 = [1]) && decide ((divs n).length ≤ 24) && ((List.range (divs n).length).all fun i => polStep n i) && decide ((pT n (divs n).length).length = n + 1) && decide (dT n (divs n).length = n) && decide ((pT n (divs n).length)[0]? = some (-1)) && decide ((pT n (divs n).length)[n]? = some 1) && ((List.range n).all fun i => i == 0 || decide ((pT n (divs n).length)[i]? = some 0)))
set_option maxRecDepth 100000 in
theorem polB_all : polB = true := by decide +kernel
structure PolAt (n i : Nat) : Prop where
  dv : 1 ≤ dvAt n i ∧ dvAt n i ≤ 24
  len : ((cyc (dvAt n i).toNat).length : Int) = tot (dvAt n i) + 1
  last : lastI (cyc (dvAt n i).toNat) = 1
  ok : timesOk (pT n i) (cyc (dvAt n i).toNat) = true
  next : timesL (pT n i) (cyc (dvAt n i).toNat) = pT n (i + 1)
  deg : 0 ≤ dT n i ∧ dT n i ≤ 100
  tot : 0 ≤ tot (dvAt n i) ∧ tot (dvAt n i) ≤ 100
structure PolEnd (n : Nat) : Prop where
  start : pT n 0 = [1]
  dl : (divs n).length ≤ 24
  step : ∀ i, i < (divs n).length → PolAt n i
  len : (pT n (divs n).length).length = n + 1
  deg : dT n (divs n).length = n
  low : (pT n (divs n).length)[0]? = some (-1)
  high : (pT n (divs n).length)[n]? = some 1
  mid : ∀ i, 1 ≤ i → i < n → (pT n (divs n).length)[i]? = some 0
theorem pol_facts {n : Nat} (h1 : 1 ≤ n) (h : n ≤ 24) : PolEnd n := by
  have := polB_all
  unfold polB at this
  rw [List.all_eq_true] at this
  have := this n (List.mem_range.2 (by omega))
  simp only [Bool.or_eq_true, beq_iff_eq, Bool.and_eq_true, decide_eq_true_eq, List.all_eq_true, List.mem_range] at this
  rcases this with h0 | ⟨⟨⟨⟨⟨⟨⟨a1, a2⟩, a3⟩, a4⟩, a5⟩, a6⟩, a7⟩, a8⟩
  · omega
  · refine ⟨a1, a2, fun i hi => ?_, a4, a5, a6, a7, fun i h1 hi => ?_⟩
    · have := a3 i hi
      unfold polStep at this
      simp only [Bool.and_eq_true, decide_eq_true_eq] at this
      obtain ⟨⟨⟨⟨⟨⟨⟨⟨⟨b1, b2⟩, b3⟩, b4⟩, b5⟩, b6⟩, b7⟩, b8⟩, b9⟩, b10⟩ := this
      exact ⟨⟨b1, b2⟩, b3, b4, b5, b6, ⟨b7, b8⟩, ⟨b9, b10⟩⟩
    · rcases a8 i hi with e | e
      · omega
      · exact e
/-! the values at 1 and at -1 -/
theorem lin_mul (f : Nat → Int) (c : Int) : ∀ (r : List Int) (o : Nat), lin (fun i => c * f i) r o = c * lin f r o := by
  intro r
  induction r with
  | nil => intro o; simp [lin]
  | cons x r ih => intro o; simp only [lin]; rw [ih, Int.mul_add, Int.mul_left_comm]
theorem lin_shift (f : Nat → Int) : ∀ (r : List Int) (o : Nat), lin f r (o + 1) = lin (fun i => f (i + 1)) r o := by
  intro r
  induction r with
  | nil => intro o; rfl
  | cons x r ih => intro o; simp only [lin]; rw [ih]
theorem horn_lin (x : Int) (a : List Int) : ∀ m, m ≤ a.length → hornTo x a m = lin (fun i => x ^ i) (a.drop (a.length - m)) 0 := by
  intro m
  induction m with
  | zero => intro _; simp [hornTo, lin]
  | succ m ih =>
    intro h
    have hi : a.length - (m + 1) < a.length := by omega
    rw [hornTo_succ x a m a[a.length - (m + 1)] (List.getElem?_eq_getElem hi), ih (by omega), List.drop_eq_getElem_cons hi, show a.length - (m + 1) + 1 = a.length - m by omega]
    simp only [lin]
    rw [lin_shift]
    have : (fun i : Nat => x ^ (i + 1)) = fun i => x * x ^ i := by funext i; rw [Int.pow_succ, Int.mul_comm]
    have e := lin_mul (fun i : Nat => x ^ i) x (a.drop (a.length - m)) 0
    rw [this, show lin (fun i => x * x ^ i) (a.drop (a.length - m)) 0 = x * lin (fun i : Nat => x ^ i) (a.drop (a.length - m)) 0 from e, Int.pow_zero, Int.mul_one, Int.mul_comm, Int.add_comm]
theorem horn_sum {n : Nat} {xs : List Int} (hok : rhOk n xs = true) (x : Int) : hornTo x (polyL n xs) (polyL n xs).length = (xs.map fun p => x ^ p.toNat).sum := by
  obtain ⟨hn, hb, ha⟩ := rhOk_iff.1 hok
  rw [horn_lin x _ _ (Nat.le_refl _), Nat.sub_self, List.drop_zero]
  unfold polyL
  rw [lin_trim, Int.toNat_natCast, (poly_lin _ hb ha xs.length (Nat.le_refl _)).1, List.take_length]
/-- how many of the first k beats are odd -/
def oddTo (xs : List Int) (k : Nat) : Int := ((xs.take k).map fun p => p % 2).sum
theorem oddTo_succ {xs : List Int} {k : Nat} {x : Int} (h : xs[k]? = some x) : oddTo xs (k + 1) = oddTo xs k + x % 2 := by
  unfold oddTo; rw [List.take_add_one, h]; simp
theorem oddTo_bd {xs : List Int} : ∀ k, 0 ≤ oddTo xs k ∧ oddTo xs k ≤ k := by
  intro k
  induction k with
  | zero => simp [oddTo]
  | succ k ih =>
    unfold oddTo at *
    rw [List.take_add_one]
    cases xs[k]? with
    | none => simp only [Option.toList_none, List.append_nil]; omega
    | some x => simp only [Option.toList_some, List.map_append, List.map_cons, List.map_nil, List.sum_append, List.sum_cons, List.sum_nil]; omega
theorem neg_pow (q : Nat) : (-1 : Int) ^ q = 1 - 2 * ((q % 2 : Nat) : Int) := by
  induction q with
  | zero => rfl
  | succ q ih => rw [Int.pow_succ, ih]; omega
theorem sum_signs {xs : List Int} (f : Int → Int) (h : ∀ x ∈ xs, f x = 1 - 2 * (x % 2)) : (xs.map f).sum = xs.length - 2 * (xs.map fun p => p % 2).sum := by
  induction xs with
  | nil => rfl
  | cons x r ih =>
    have h1 := ih fun y hy => h y (List.mem_cons_of_mem _ hy)
    have h2 := h x List.mem_cons_self
    simp only [List.map_cons, List.sum_cons, List.length_cons]
    rw [h1, h2]; omega
theorem oddTo_all (xs : List Int) : oddTo xs xs.length = (xs.map fun p => p % 2).sum := by unfold oddTo; rw [List.take_length]
theorem horn_one {n : Nat} {xs : List Int} (hok : rhOk n xs = true) : hornTo 1 (polyL n xs) (polyL n xs).length = xs.length := by
  rw [horn_sum hok]
  clear hok
  induction xs with
  | nil => rfl
  | cons x r ih => simp only [List.map_cons, List.sum_cons, List.length_cons]; rw [ih, Int.one_pow]; omega
theorem horn_neg {n : Nat} {xs : List Int} (hok : rhOk n xs = true) : hornTo (-1) (polyL n xs) (polyL n xs).length = xs.length - 2 * oddTo xs xs.length := by
  obtain ⟨hn, hb, ha⟩ := rhOk_iff.1 hok
  rw [horn_sum hok, oddTo_all]
  refine sum_signs _ fun x hx => ?_
  have := hb x hx
  obtain ⟨q, rfl⟩ := Int.eq_ofNat_of_zero_le this.1
  rw [Int.toNat_natCast, neg_pow]; omega
def signB : Bool := (List.range 24).all fun q => decide (vR 2 q 0 = 1 - 2 * (((q : Nat) : Int) % 2))
theorem signB_all : signB = true := by decide +kernel
theorem van_two {n : Nat} {xs : List Int} (hok : rhOk n xs = true) : vanI n xs 2 = decide (2 * oddTo xs xs.length = xs.length) := by
  obtain ⟨hn, hb, ha⟩ := rhOk_iff.1 hok
  have h1 := van_iff hok (d := 2) (by omega) (by omega)
  rw [Bool.eq_iff_iff, decide_eq_true_iff]
  refine Iff.trans h1 ?_
  have e : vSum 2 xs 0 = xs.length - 2 * oddTo xs xs.length := by
    rw [oddTo_all]
    refine sum_signs _ fun x hx => ?_
    have h3 := hb x hx
    obtain ⟨q, rfl⟩ := Int.eq_ofNat_of_zero_le h3.1
    rw [Int.toNat_natCast]
    have h2 := signB_all
    unfold signB at h2
    rw [List.all_eq_true] at h2
    have := h2 q (List.mem_range.2 (by omega))
    simpa using this
  have hd : vDeg 2 = 1 := by decide +kernel
  constructor
  · intro h
    have := h 0 (by omega)
    omega
  · intro h j hj
    have : j = 0 := by omega
    subst this
    omega
theorem divs_has2 {n : Nat} (h1 : 1 ≤ n) (h : n ≤ 24) (h2 : n % 2 = 0) : (2 : Int) ∈ divs n := by
  have : ((List.range 25).all fun n => n == 0 || n % 2 != 0 || (divs n).contains 2) = true := by decide +kernel
  rw [List.all_eq_true] at this
  have := this n (List.mem_range.2 (by omega))
  simp only [Bool.or_eq_true, beq_iff_eq, bne_iff_ne, List.contains_iff_mem] at this
  rcases this with (h | h) | h
  · omega
  · omega
  · exact h
theorem ord_two {n : Nat} {xs : List Int} (hok : rhOk n xs = true) (h2 : n % 2 = 0) : memB (ordI n xs) 2 = decide (2 * oddTo xs xs.length = xs.length) := by
  obtain ⟨hn, hb, ha⟩ := rhOk_iff.1 hok
  rw [← van_two hok]
  unfold ordI ordL
  rw [if_pos hok, Bool.eq_iff_iff, memB_iff, List.mem_filter]
  constructor
  · rintro ⟨_, h⟩
    unfold qn vq at h
    simpa using h
  · intro h
    refine ⟨divs_has2 (by omega) (by omega) h2, ?_⟩
    unfold qn vq
    rw [h]; rfl
theorem endLen_last (xs : List Int) : ∀ n m, endLen xs n = m + 1 → xs[m]?.getD 0 ≠ 0 := by
  intro n
  induction n with
  | zero => intro m h; simp [endLen] at h
  | succ n ih =>
    intro m h
    simp only [endLen] at h
    split at h
    · exact ih m h
    · have : n = m := by omega
      subst this
      assumption
theorem polyTo_01 {n : Nat} {xs : List Int} : ∀ k, ∀ x ∈ polyTo n xs k, x = 0 ∨ x = 1 := by
  intro k
  induction k with
  | zero => intro x hx; simp only [polyTo] at hx; exact .inl (List.eq_of_mem_replicate hx)
  | succ k ih =>
    intro x hx
    simp only [polyTo] at hx
    rcases List.mem_or_eq_of_mem_set hx with h | h
    · exact ih x h
    · exact .inr h
theorem polyL_ok {n : Nat} {xs : List Int} (hok : rhOk n xs = true) : polyOk (polyL n xs) = true := by
  obtain ⟨hn, hb, ha⟩ := rhOk_iff.1 hok
  have hl := polyL_len (s := (n : Int)) (xs := xs) hn
  refine polyOk_iff.2 ⟨by omega, fun x hx => ?_, ?_⟩
  · unfold polyL trim at hx
    rcases polyTo_01 _ x (List.mem_of_mem_take hx) with h | h <;> omega
  · by_cases h0 : (polyL n xs).length = 0
    · exact .inl (List.length_eq_zero_iff.1 h0)
    · refine .inr ?_
      obtain ⟨m, hm⟩ : ∃ m, (polyL n xs).length = m + 1 := ⟨(polyL n xs).length - 1, by omega⟩
      unfold lastI
      rw [hm, Nat.add_sub_cancel]
      unfold polyL at hm ⊢
      have h2 := hm
      rw [trim_len] at h2
      have := endLen_last _ _ _ h2
      unfold trim
      rw [h2, List.getElem?_take, if_pos (by omega)]
      exact this
end Go.Proofs.Ytgfdmjhdfddopaa
