/- Division of polynomials, and the cyclotomic ones: plain laws. -/
import Derived.Test.YtbgfhbaaacmndaaBas
namespace Go.Proofs.Ytbgfhbaaacmndaa
open Go.RowKit

def sm (z x y : Int) : Int := IntKind.i64.wrap (z - IntKind.i64.wrap (x * y))
def dRow (b : List Int) (x : Int) (i : Nat) (r : List Int) : Nat → List Int
  | 0 => r
  | k + 1 => (dRow b x i r k).set (i + k) (sm ((dRow b x i r k)[i + k]?.getD 0) x (b[k]?.getD 0))
def dTo (b : List Int) (n : Nat) (a : List Int) : Nat → List Int
  | 0 => a
  | m + 1 => dRow b ((dTo b n a m)[n - m + b.length - 1]?.getD 0) (n - m) (dTo b n a m) b.length
/-- the coefficient that step m finds -/
def dq (b : List Int) (n : Nat) (a : List Int) (m : Nat) : Int := (dTo b n a m)[n - m + b.length - 1]?.getD 0
def qArr (la : Nat) (b : List Int) (n : Nat) (a : List Int) : Nat → List Int
  | 0 => List.replicate la 0
  | m + 1 => (qArr la b n a m).set (n - m) (dq b n a m)
def qSp (b : List Int) (n : Nat) (a : List Int) : Nat → List Int
  | 0 => []
  | m + 1 => dq b n a m :: qSp b n a m
def steps (a b : List Int) : Nat := a.length + 1 - b.length
def restL (a b : List Int) : List Int := trim (dTo b (a.length - b.length) a (steps a b))
def quotI (a b : List Int) : List Int := trim (qArr a.length b (a.length - b.length) a (steps a b))
def quotS (a b : List Int) : List Int := qSp b (a.length - b.length) a (steps a b)
theorem dRow_len (b : List Int) (x : Int) (i : Nat) (r : List Int) (k : Nat) : (dRow b x i r k).length = r.length := by
  induction k with
  | zero => rfl
  | succ k ih => simp [dRow, ih]
theorem dTo_len (b : List Int) (n : Nat) (a : List Int) (m : Nat) : (dTo b n a m).length = a.length := by
  induction m with
  | zero => rfl
  | succ m ih => simp only [dTo, dRow_len, ih]
theorem qArr_len (la : Nat) (b : List Int) (n : Nat) (a : List Int) (m : Nat) : (qArr la b n a m).length = la := by
  induction m with
  | zero => simp [qArr]
  | succ m ih => simp [qArr, ih]
theorem qSp_len (b : List Int) (n : Nat) (a : List Int) (m : Nat) : (qSp b n a m).length = m := by
  induction m with
  | zero => rfl
  | succ m ih => simp [qSp, ih]
theorem quotS_len (a b : List Int) : (quotS a b).length = steps a b := qSp_len _ _ _ _
theorem restL_len (a b : List Int) : (restL a b).length ≤ a.length := by
  unfold restL
  rw [trim_len]
  have := endLen_le (dTo b (a.length - b.length) a (steps a b)) (dTo b (a.length - b.length) a (steps a b)).length
  rw [dTo_len] at this
  rwa [dTo_len]
theorem qArr_form (la : Nat) (b : List Int) (n : Nat) (a : List Int) (hn : n + 1 ≤ la) : ∀ m, m ≤ n + 1 → qArr la b n a m = List.replicate (n + 1 - m) 0 ++ qSp b n a m ++ List.replicate (la - (n + 1)) 0 := by
  intro m
  induction m with
  | zero => intro _; simp only [qArr, qSp, List.append_nil, List.replicate_append_replicate]; congr 1; omega
  | succ m ih =>
    intro h
    simp only [qArr]
    rw [ih (by omega)]
    have e : n + 1 - m = (n + 1 - (m + 1)) + 1 := by omega
    rw [e, List.replicate_succ', List.append_assoc, List.append_assoc, List.set_append_right _ _ (by simp <;> omega)]
    simp only [List.length_replicate]
    rw [show n - m - (n + 1 - (m + 1)) = 0 by omega]
    simp [qSp]
theorem endLen_append (xs : List Int) (k : Nat) : endLen (xs ++ List.replicate k 0) (xs.length + k) = endLen xs xs.length := by
  induction k with
  | zero => simp
  | succ k ih =>
    rw [← Nat.add_assoc]
    have h : ∀ n, n ≤ xs.length + k → endLen (xs ++ List.replicate (k + 1) 0) n = endLen (xs ++ List.replicate k 0) n := by
      intro n
      induction n with
      | zero => intro _; rfl
      | succ n ihn =>
        intro hn
        have : (xs ++ List.replicate (k + 1) 0)[n]? = (xs ++ List.replicate k 0)[n]? := by
          rw [List.replicate_succ', ← List.append_assoc, List.getElem?_append_left (by simp; omega)]
        simp only [endLen, this, ihn (by omega)]
    have hz : (xs ++ List.replicate (k + 1) 0)[xs.length + k]? = some 0 := by
      rw [List.getElem?_append_right (by omega)]; simp
    rw [endLen_zero hz rfl, h _ (Nat.le_refl _), ih]
theorem trim_zeros (xs : List Int) (k : Nat) : trim (xs ++ List.replicate k 0) = trim xs := by
  unfold trim
  rw [List.length_append, List.length_replicate, endLen_append, List.take_append_of_le_length (endLen_le _ _)]
theorem trim_self {xs : List Int} {x : Int} (h : xs[xs.length - 1]? = some x) (hx : x ≠ 0) : trim xs = xs := by
  unfold trim
  have h0 : 0 < xs.length := by
    rcases xs with _ | ⟨y, r⟩
    · simp at h
    · simp
  obtain ⟨n, hn⟩ : ∃ n, xs.length = n + 1 := ⟨xs.length - 1, by omega⟩
  rw [hn, Nat.add_sub_cancel] at h
  rw [hn, endLen_stop h hx, ← hn, List.take_length]
theorem qSp_last (b : List Int) (n : Nat) (a : List Int) (m : Nat) : (qSp b n a (m + 1))[m]? = some (dq b n a 0) := by
  induction m with
  | zero => rfl
  | succ m ih => rw [qSp, List.getElem?_cons_succ]; exact ih
/-- both quotients are one where the dividend ends in a number that is not 0 -/
theorem quot_same {a b : List Int} {x : Int} (hb : 1 ≤ b.length) (ha : a[a.length - 1]? = some x) (hx : x ≠ 0) : quotI a b = quotS a b := by
  unfold quotI quotS
  by_cases hl : b.length ≤ a.length
  · have hs : steps a b = (a.length - b.length) + 1 := by unfold steps; omega
    rw [hs, qArr_form _ _ _ _ (by omega) _ (Nat.le_refl _), Nat.sub_self, List.replicate_zero, List.nil_append, trim_zeros]
    refine trim_self (x := x) ?_ hx
    rw [qSp_len, Nat.add_sub_cancel, qSp_last]
    unfold dq dTo
    rw [show a.length - b.length - 0 + b.length - 1 = a.length - 1 by omega, ha]; rfl
  · have hs : steps a b = 0 := by unfold steps; omega
    rw [hs]
    simp only [qArr, qSp]
    have := trim_zeros [] a.length
    rw [List.nil_append] at this
    rw [this]; rfl
/-! the cyclotomic polynomials -/
def cycInit (n : Nat) : List Int := ((List.replicate (n + 1) 0).set 0 (-1)).set n 1
def cycB (T : List (List Int)) (n : Nat) : Nat → List Int
  | 0 => cycInit n
  | d + 1 => if d ≠ 0 ∧ n % d = 0 then quotS (cycB T n d) (T[d]?.getD []) else cycB T n d
def cycT : List (List Int) := [[], [-1, 1], [1, 1], [1, 1, 1], [1, 0, 1], [1, 1, 1, 1, 1], [1, -1, 1], [1, 1, 1, 1, 1, 1, 1], [1, 0, 0, 0, 1], [1, 0, 0, 1, 0, 0, 1], [1, -1, 1, -1, 1], [1, 1, 1, 1, 1, 1, 1, 1, 1, 1, 1], [1, 0, -1, 0, 1], [1, 1, 1, 1, 1, 1, 1, 1, 1, 1, 1, 1, 1], [1, -1, 1, -1, 1, -1, 1], [1, -1, 0, 1, -1, 1, 0, -1, 1], [1, 0, 0, 0, 0, 0, 0, 0, 1], [1, 1, 1, 1, 1, 1, 1, 1, 1, 1, 1, 1, 1, 1, 1, 1, 1], [1, 0, 0, -1, 0, 0, 1], [1, 1, 1, 1, 1, 1, 1, 1, 1, 1, 1, 1, 1, 1, 1, 1, 1, 1, 1], [1, 0, -1, 0, 1, 0, -1, 0, 1], [1, -1, 0, 1, -1, 0, 1, 0, -1, 1, 0, -1, 1], [1, -1, 1, -1, 1, -1, 1, -1, 1, -1, 1], [1, 1, 1, 1, 1, 1, 1, 1, 1, 1, 1, 1, 1, 1, 1, 1, 1, 1, 1, 1, 1, 1, 1], [1, 0, 0, 0, -1, 0, 0, 0, 1]]
def cyc (n : Nat) : List Int := cycT[n]?.getD []
def cycStep (n d : Nat) : Bool := decide (1 ≤ (cycB cycT n d).length) && decide ((cycB cycT n d).length ≤ 25) && decide ((cycB cycT n d)[(cycB cycT n d).length - 1]?.getD 0 = 1) && decide (1 ≤ (cyc d).length) && decide ((cyc d).length ≤ 25)
def cycAt (n : Nat) : Bool := decide (cycB cycT n n = cyc n) && (List.range (n + 1)).all fun d => d == 0 || cycStep n d
def cycAll : Bool := (List.range 25).all fun n => n == 0 || cycAt n
set_option maxRecDepth 100000 in
theorem cyc_all : cycAll = true := by decide +kernel
theorem cyc_at {n : Nat} (h1 : 1 ≤ n) (h : n ≤ 24) : cycAt n = true := by
  have := cyc_all
  unfold cycAll at this
  rw [List.all_eq_true] at this
  have := this n (List.mem_range.2 (by omega))
  simp only [Bool.or_eq_true, beq_iff_eq] at this
  rcases this with h0 | h0
  · omega
  · exact h0
theorem cyc_eq {n : Nat} (h1 : 1 ≤ n) (h : n ≤ 24) : cycB cycT n n = cyc n := by
  have := cyc_at h1 h
  unfold cycAt at this
  rw [Bool.and_eq_true, decide_eq_true_eq] at this
  exact this.1
theorem cyc_step {n d : Nat} (hd : 1 ≤ d) (hdn : d ≤ n) (h : n ≤ 24) : 1 ≤ (cycB cycT n d).length ∧ (cycB cycT n d).length ≤ 25 ∧ (cycB cycT n d)[(cycB cycT n d).length - 1]? = some 1 ∧ 1 ≤ (cyc d).length ∧ (cyc d).length ≤ 25 := by
  have := cyc_at (Nat.le_trans hd hdn) h
  unfold cycAt at this
  rw [Bool.and_eq_true, List.all_eq_true] at this
  have := this.2 d (List.mem_range.2 (by omega))
  simp only [Bool.or_eq_true, beq_iff_eq] at this
  rcases this with h0 | h0
  · omega
  · unfold cycStep at h0
    simp only [Bool.and_eq_true, decide_eq_true_eq] at h0
    obtain ⟨⟨⟨⟨a1, a2⟩, a3⟩, a4⟩, a5⟩ := h0
    refine ⟨a1, a2, ?_, a4, a5⟩
    have hlt : (cycB cycT n d).length - 1 < (cycB cycT n d).length := by omega
    rw [List.getElem?_eq_getElem hlt] at a3 ⊢
    rw [← a3]; rfl
theorem cyc_next {n d : Nat} (hd : 1 ≤ d) (h0 : n % d = 0) : cycB cycT n (d + 1) = quotS (cycB cycT n d) (cyc d) := by
  simp only [cycB]; rw [if_pos ⟨by omega, h0⟩]; rfl
theorem cyc_skip {n d : Nat} (h0 : n % d ≠ 0) : cycB cycT n (d + 1) = cycB cycT n d := by
  simp only [cycB]; rw [if_neg (fun h => h0 h.2)]
theorem cyc_one (n : Nat) : cycB cycT n 1 = cycInit n := by
  simp [cycB]
end Go.Proofs.Ytbgfhbaaacmndaa
