/- The law's helpers on lists of lists of ints. -/
import Derived.Test.YtikifkbgmniobaaGreatCms
import Derived.Test.YtikifkbgmniobaaGreatBas
namespace Go.Proofs.YtikifkbgmniobaaGreat
open Go.RowKit
set_option maxRecDepth 20000

/-- the marks that a list of lists is given from k on -/
def markRows : Int → List (List Int) → List (List Int)
  | _, [] => []
  | k, xs :: r => marksFrom k xs.length :: markRows (k + xs.length) r
def totLen : List (List Int) → Nat
  | [] => 0
  | xs :: r => xs.length + totLen r
theorem markRows_len (k : Int) (xss : List (List Int)) : (markRows k xss).length = xss.length := by
  induction xss generalizing k with
  | nil => rfl
  | cons xs r ih => simp [markRows, ih]
theorem totLen_take (xss : List (List Int)) : ∀ (i : Nat) (xs : List Int), xss[i]? = some xs → totLen (xss.take (i + 1)) = totLen (xss.take i) + xs.length := by
  induction xss with
  | nil => intro i xs h; simp at h
  | cons ys r ih =>
    intro i xs h
    cases i with
    | zero => simp at h; subst h; simp [totLen]
    | succ i => simp at h; simp only [List.take_succ_cons, totLen]; rw [ih i xs h]; omega
theorem markRows_set (xss : List (List Int)) : ∀ (k : Int) (i : Nat) (xs : List Int), xss[i]? = some xs →
    (markRows k (xss.take i) ++ xss.drop i).set i (marksFrom (k + totLen (xss.take i)) xs.length) = markRows k (xss.take (i + 1)) ++ xss.drop (i + 1) := by
  induction xss with
  | nil => intro k i xs h; simp at h
  | cons ys r ih =>
    intro k i xs h
    cases i with
    | zero => simp at h; subst h; simp [markRows, totLen]
    | succ i =>
      simp at h
      have := ih (k + ys.length) i xs h
      simp only [List.take_succ_cons, List.drop_succ_cons, markRows, totLen, List.cons_append, List.set_cons_succ]
      rw [← this]
      congr 3
      omega
theorem markRows_at (xss : List (List Int)) (k : Int) (i : Nat) : (markRows k (xss.take i) ++ xss.drop i)[i]? = xss[i]? := by
  by_cases h : i ≤ xss.length
  · rw [List.getElem?_append_right (by rw [markRows_len, List.length_take]; omega), markRows_len, List.length_take, Nat.min_eq_left h, List.getElem?_drop]
    simp
  · rw [List.getElem?_eq_none (by simp [markRows_len]; omega), List.getElem?_eq_none (by omega)]
theorem markRows_get (xss : List (List Int)) : ∀ (k : Int) (i : Nat) (xs : List Int), xss[i]? = some xs → (markRows k xss)[i]? = some (marksFrom (k + totLen (xss.take i)) xs.length) := by
  induction xss with
  | nil => intro k i xs h; simp at h
  | cons ys r ih =>
    intro k i xs h
    cases i with
    | zero => simp at h; subst h; simp [markRows, totLen]
    | succ i =>
      simp at h
      have := ih (k + ys.length) i xs h
      simp only [markRows, List.getElem?_cons_succ, this, List.take_succ_cons, totLen]
      congr 2
      omega
/-- the lists are short: no count over them wraps -/
structure Short (xss : List (List Int)) : Prop where
  one : ∀ (i : Nat) (xs : List Int), xss[i]? = some xs → xs.length ≤ 1000000
  tot : ∀ i, totLen (xss.take i) ≤ 100000000
  len : xss.length ≤ 1000000
end Go.Proofs.YtikifkbgmniobaaGreat
