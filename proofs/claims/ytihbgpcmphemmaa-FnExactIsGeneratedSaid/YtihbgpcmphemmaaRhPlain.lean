/- Rhythms as a size and a list of beats: plain laws. -/
import Derived.Test.YtihbgpcmphemmaaAvPlain
import Derived.Test.YtihbgpcmphemmaaNum
namespace Go.Proofs.Ytihbgpcmphemmaa
open Go.RowKit

/-- the beats ascend from above p on and stay below s -/
def okFrom (s : Int) : Int → List Int → Bool
  | _, [] => true
  | p, x :: r => decide (p < x ∧ x < s) && okFrom s x r
def rhOk (s : Int) (xs : List Int) : Bool := inB s 1 24 && okFrom s (-1) xs
theorem okFrom_iff (s : Int) (xs : List Int) : ∀ p, okFrom s p xs = true ↔ (∀ x ∈ xs, p < x ∧ x < s) ∧ xs.Pairwise (· < ·) := by
  induction xs with
  | nil => intro p; simp [okFrom]
  | cons x r ih =>
    intro p
    simp only [okFrom, Bool.and_eq_true, decide_eq_true_eq, ih x, List.pairwise_cons, List.mem_cons, forall_eq_or_imp]
    constructor
    · rintro ⟨⟨h1, h2⟩, h3, h4⟩
      exact ⟨⟨⟨h1, h2⟩, fun y hy => ⟨by have := (h3 y hy).1; omega, (h3 y hy).2⟩⟩, fun y hy => (h3 y hy).1, h4⟩
    · rintro ⟨⟨⟨h1, h2⟩, h3⟩, h4, h5⟩
      exact ⟨⟨h1, h2⟩, fun y hy => ⟨h4 y hy, (h3 y hy).2⟩, h5⟩
theorem rhOk_iff {s : Int} {xs : List Int} : rhOk s xs = true ↔ (1 ≤ s ∧ s ≤ 24) ∧ (∀ x ∈ xs, 0 ≤ x ∧ x < s) ∧ xs.Pairwise (· < ·) := by
  simp only [rhOk, Bool.and_eq_true, inB_iff, okFrom_iff]
  constructor
  · rintro ⟨h1, h2, h3⟩; exact ⟨h1, fun x hx => by have := h2 x hx; omega, h3⟩
  · rintro ⟨h1, h2, h3⟩; exact ⟨h1, fun x hx => by have := h2 x hx; omega, h3⟩
theorem rhOk_size {s : Int} {xs : List Int} (h : inB s 1 24 = false) : rhOk s xs = false := by simp [rhOk, h]
theorem rhOk_mem {s : Int} {xs : List Int} {x : Int} {k : Nat} (hx : xs[k]? = some x) (h : ¬ (0 ≤ x ∧ x < s)) : rhOk s xs = false := by
  rw [Bool.eq_false_iff]; intro h'
  exact h ((rhOk_iff.1 h').2.1 x (List.mem_of_getElem? hx))
theorem rhOk_asc {s : Int} {xs : List Int} {x y : Int} {k : Nat} (hx : xs[k]? = some x) (hy : xs[k + 1]? = some y) (h : ¬ x < y) : rhOk s xs = false := by
  rw [Bool.eq_false_iff]; intro h'
  have hp := (rhOk_iff.1 h').2.2
  obtain ⟨h1, e1⟩ := List.getElem?_eq_some_iff.1 hx
  obtain ⟨h2, e2⟩ := List.getElem?_eq_some_iff.1 hy
  have := List.pairwise_iff_getElem.1 hp k (k + 1) h1 h2 (by omega)
  omega
/-- the first k beats are fit -/
def FitTo (s : Int) (xs : List Int) (k : Nat) : Prop := (∀ x ∈ xs.take k, 0 ≤ x ∧ x < s) ∧ (xs.take k).Pairwise (· < ·)
theorem FitTo.zero (s : Int) (xs : List Int) : FitTo s xs 0 := ⟨by simp, by simp⟩
theorem FitTo.step {s : Int} {xs : List Int} {k : Nat} {x : Int} (h : FitTo s xs k) (hx : xs[k]? = some x) (hr : 0 ≤ x ∧ x < s) (hp : ∀ j y, k = j + 1 → xs[j]? = some y → y < x) : FitTo s xs (k + 1) := by
  have hk := (List.getElem?_eq_some_iff.1 hx).1
  have e : xs.take (k + 1) = xs.take k ++ [x] := by rw [List.take_add_one, hx]; rfl
  unfold FitTo
  rw [e]
  refine ⟨fun y hy => ?_, ?_⟩
  · rcases List.mem_append.1 hy with h1 | h1
    · exact h.1 y h1
    · simp at h1; subst h1; exact hr
  · rw [List.pairwise_append]
    refine ⟨h.2, by simp, fun y hy z hz => ?_⟩
    simp at hz
    subst hz
    obtain ⟨j, hj⟩ := List.mem_iff_getElem?.1 hy
    have hjl := (List.getElem?_eq_some_iff.1 hj).1
    rw [List.length_take] at hjl
    cases k with
    | zero => omega
    | succ k =>
      obtain ⟨v, hv⟩ : ∃ v, xs[k]? = some v := ⟨_, List.getElem?_eq_getElem (by omega)⟩
      have hvx := hp k v rfl hv
      by_cases hjk : j = k
      · subst hjk
        rw [List.getElem?_take] at hj
        split at hj
        · rw [hv] at hj; injection hj with hj; omega
        · cases hj
      · have hpw := List.pairwise_iff_getElem.1 h.2 j k (by rw [List.length_take]; omega) (by rw [List.length_take]; omega) (by omega)
        have e1 : (xs.take (k + 1))[j]'(by rw [List.length_take]; omega) = y := (List.getElem?_eq_some_iff.1 hj).2
        have e2 : (xs.take (k + 1))[k]'(by rw [List.length_take]; omega) = v := by
          have : (xs.take (k + 1))[k]? = some v := by rw [List.getElem?_take]; simp [hv]
          exact (List.getElem?_eq_some_iff.1 this).2
        rw [e1, e2] at hpw
        omega
theorem FitTo.all {s : Int} {xs : List Int} {k : Nat} (h : FitTo s xs k) (hk : xs.length ≤ k) : rhOk s xs = inB s 1 24 := by
  unfold FitTo at h
  rw [List.take_of_length_le hk] at h
  have : okFrom s (-1) xs = true := (okFrom_iff s xs (-1)).2 ⟨fun x hx => by have := h.1 x hx; omega, h.2⟩
  simp [rhOk, this]
theorem asc_len (n : Nat) : ∀ (lo : Int) (xs : List Int), (∀ x ∈ xs, lo ≤ x ∧ x < lo + n) → xs.Pairwise (· < ·) → xs.length ≤ n := by
  induction n with
  | zero =>
    intro lo xs h1 _
    cases xs with
    | nil => simp
    | cons x r => have := h1 x (List.mem_cons_self); omega
  | succ n ih =>
    intro lo xs h1 h2
    cases xs with
    | nil => simp
    | cons x r =>
      have hx := h1 x (List.mem_cons_self)
      have := ih (lo + 1) r (fun y hy => by
        have a := h1 y (List.mem_cons_of_mem _ hy)
        have b := (List.pairwise_cons.1 h2).1 y hy
        omega) (List.pairwise_cons.1 h2).2
      simp; omega
theorem rhOk_len {s : Int} {xs : List Int} (h : rhOk s xs = true) : xs.length ≤ 24 ∧ (xs.length : Int) ≤ s := by
  obtain ⟨h1, h2, h3⟩ := rhOk_iff.1 h
  have := asc_len s.toNat 0 xs (fun x hx => by have := h2 x hx; omega) h3
  omega

/-! the code of a rhythm -/
def codeL (n : Nat) : List Int → Nat
  | [] => 0
  | p :: r => 2 ^ (n - 1 - p.toNat) ||| codeL n r
/-- the first k beats laid -/
def codeTo (n : Nat) (xs : List Int) : Nat → Nat
  | 0 => 0
  | k + 1 => codeTo n xs k ||| 2 ^ (n - 1 - (xs[k]?.getD 0).toNat)
theorem codeTo_tb (n : Nat) (xs : List Int) (k q : Nat) : (codeTo n xs k).testBit q = true ↔ ∃ j x, j < k ∧ xs[j]?.getD 0 = x ∧ n - 1 - x.toNat = q := by
  induction k with
  | zero => simp [codeTo]
  | succ k ih =>
    simp only [codeTo, Nat.testBit_or, Bool.or_eq_true, ih, Nat.testBit_two_pow, decide_eq_true_eq]
    constructor
    · rintro (⟨j, x, h1, h2, h3⟩ | h)
      · exact ⟨j, x, by omega, h2, h3⟩
      · exact ⟨k, _, by omega, rfl, h⟩
    · rintro ⟨j, x, h1, h2, h3⟩
      by_cases hj : j = k
      · subst hj; right; rw [h2]; exact h3
      · left; exact ⟨j, x, by omega, h2, h3⟩
theorem codeTo_lt (n : Nat) (hn : 1 ≤ n) (xs : List Int) (k : Nat) : codeTo n xs k < 2 ^ n := by
  induction k with
  | zero => exact Nat.two_pow_pos n
  | succ k ih => exact Nat.or_lt_two_pow ih (Nat.pow_lt_pow_right (by omega) (by omega))
def codeR (s : Int) (xs : List Int) : Nat := codeTo s.toNat xs xs.length
theorem codeR_tb {s : Int} {xs : List Int} (h : rhOk s xs = true) (q : Nat) (hq : (q : Int) < s) : (codeR s xs).testBit q = true ↔ (s - 1 - q) ∈ xs := by
  obtain ⟨h1, h2, h3⟩ := rhOk_iff.1 h
  unfold codeR
  rw [codeTo_tb]
  constructor
  · rintro ⟨j, x, hj, hx, e⟩
    have hxj : xs[j]? = some x := by rw [List.getElem?_eq_getElem hj] at hx ⊢; simpa using hx
    have hm := List.mem_of_getElem? hxj
    have := h2 x hm
    rwa [show s - 1 - q = x by omega]
  · intro hm
    obtain ⟨j, hj⟩ := List.mem_iff_getElem?.1 hm
    exact ⟨j, s - 1 - q, (List.getElem?_eq_some_iff.1 hj).1, by rw [hj]; rfl, by omega⟩
theorem codeR_lt {s : Int} {xs : List Int} (h : rhOk s xs = true) : codeR s xs < 2 ^ s.toNat := by
  obtain ⟨h1, _, _⟩ := rhOk_iff.1 h
  exact codeTo_lt _ (by omega) _ _

/-- no two beats are d pulses apart -/
def avoidsL (s d : Int) (xs : List Int) : Bool := xs.all fun p => !xs.contains ((p + d) % s)
theorem avoidsL_iff {s d : Int} {xs : List Int} : avoidsL s d xs = true ↔ ∀ p ∈ xs, (p + d) % s ∉ xs := by simp [avoidsL]
theorem emod_of (a n : Int) (q : Int) (h0 : 0 ≤ a - n * q) (h1 : a - n * q < n) : a % n = a - n * q := by
  have : a = (a - n * q) + n * q := by omega
  rw [this, Int.add_mul_emod_self_left]
  rw [Int.emod_eq_of_lt h0 h1]
  omega
theorem av_code {s d : Int} {xs : List Int} (h : rhOk s xs = true) (hd : 1 ≤ d ∧ d < s) : av s.toNat d.toNat (codeR s xs) = avoidsL s d xs := by
  obtain ⟨h1, h2, h3⟩ := rhOk_iff.1 h
  rw [Bool.eq_iff_iff, av_iff (by omega) (codeR_lt h), avoidsL_iff]
  have key : ∀ x : Int, 0 ≤ x → x < s → ((codeR s xs).testBit (s - 1 - x).toNat = true ↔ x ∈ xs) := by
    intro x hx0 hx1
    rw [codeR_tb h _ (by omega), show s - 1 - ((s - 1 - x).toNat : Int) = x by omega]
  constructor
  · intro hh p hp hpd
    have hpr := h2 p hp
    have hb := h2 _ hpd
    -- the pulse p + d, in bits
    have e1 : ((s - 1 - (p + d) % s).toNat + d.toNat) % s.toNat = (s - 1 - p).toNat := by
      by_cases hw : p + d < s
      · rw [Int.emod_eq_of_lt (by omega) hw, Nat.mod_eq_of_lt (by omega)]; omega
      · rw [emod_of (p + d) s 1 (by omega) (by omega), Nat.mod_eq_sub_mod (by omega), Nat.mod_eq_of_lt (by omega)]; omega
    exact hh (s - 1 - (p + d) % s).toNat (by omega) ⟨(key _ hb.1 hb.2).2 hpd, by rw [e1]; exact (key p hpr.1 hpr.2).2 hp⟩
  · intro hh q hq ⟨hb1, hb2⟩
    have hx1 := (codeR_tb h q (by omega)).1 hb1
    have hm : (q + d.toNat) % s.toNat < s.toNat := Nat.mod_lt _ (by omega)
    have hx2 := (codeR_tb h _ (by omega)).1 hb2
    have e1 : (s - 1 - ((q + d.toNat) % s.toNat : Nat) + d) % s = s - 1 - q := by
      by_cases hw : q + d.toNat < s.toNat
      · rw [Nat.mod_eq_of_lt hw, Int.emod_eq_of_lt (by omega) (by omega)]; omega
      · rw [Nat.mod_eq_sub_mod (by omega), Nat.mod_eq_of_lt (by omega), emod_of _ s 1 (by omega) (by omega)]; omega
    exact hh _ hx2 (by rw [e1]; exact hx1)
end Go.Proofs.Ytihbgpcmphemmaa
