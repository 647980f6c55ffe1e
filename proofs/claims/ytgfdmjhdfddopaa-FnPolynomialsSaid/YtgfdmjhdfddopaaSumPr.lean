/- How often a pulse is a sum of two beats, as a count of pairs. -/
import Derived.Test.YtgfdmjhdfddopaaBas
namespace Go.Proofs.Ytgfdmjhdfddopaa
open Go.RowKit
set_option maxRecDepth 20000

def prI (s : Int) (xs ys : List Int) (i : Int) : Nat := (xs.map fun p => (ys.filter fun q => (p + q) % s == i).length).sum
theorem inc_atP (l : List Int) (i j : Nat) : (inc l i)[j]?.getD 0 = if i = j ∧ i < l.length then l[i]?.getD 0 + 1 else l[j]?.getD 0 := by
  unfold inc
  by_cases hij : i = j
  · subst hij
    by_cases hl : i < l.length
    · rw [List.getElem?_set_self hl, if_pos ⟨rfl, hl⟩]; rfl
    · rw [if_neg (fun h => hl h.2), List.set_eq_of_length_le (by omega)]
  · rw [List.getElem?_set_ne hij, if_neg (fun h => hij h.1)]
theorem filter_take_snoc {ys : List Int} {b : Nat} {x : Int} (f : Int → Bool) (h : ys[b]? = some x) : ((ys.take (b + 1)).filter f).length = ((ys.take b).filter f).length + (if f x = true then 1 else 0) := by
  rw [List.take_add_one, h, List.filter_append, List.length_append]
  congr 1
  simp only [Option.toList_some]
  by_cases e : f x = true
  · rw [if_pos e, List.filter_cons_of_pos e]; rfl
  · rw [if_neg e, List.filter_cons_of_neg e]; rfl
theorem inC_at {s p : Int} {ys l : List Int} (hs : 1 ≤ s) (hl : l.length = s.toNat) (j : Nat) (hj : j < s.toNat) : ∀ b, b ≤ ys.length →
    (inC s p ys l b)[j]?.getD 0 = l[j]?.getD 0 + (((ys.take b).filter fun q => (p + q) % s == (j : Int)).length : Int) := by
  intro b
  induction b with
  | zero => intro _; simp [inC]
  | succ b ih =>
    intro hb
    have hx := List.getElem?_eq_getElem (l := ys) (i := b) (by omega)
    rw [filter_take_snoc _ hx]
    simp only [inC]
    rw [inc_atP, inC_len, hl, hx]
    simp only [Option.getD_some]
    have hm1 := Int.emod_nonneg (p + ys[b]) (show s ≠ 0 by omega)
    have hm2 := Int.emod_lt_of_pos (p + ys[b]) (show 0 < s by omega)
    have ih := ih (by omega)
    by_cases e : (p + ys[b]) % s = (j : Int)
    · have he : ((p + ys[b]) % s).toNat = j := by omega
      rw [he, if_pos ⟨rfl, hj⟩, ih, if_pos (by rw [beq_iff_eq]; exact e)]
      omega
    · rw [if_neg (fun h => e (by omega)), ih, if_neg (by rw [beq_iff_eq]; exact e)]
      omega
theorem outC_at {s : Int} {xs ys : List Int} (hs : 1 ≤ s) (j : Nat) (hj : j < s.toNat) : ∀ a, a ≤ xs.length → (outC s xs ys a)[j]?.getD 0 = ((prI s (xs.take a) ys j : Nat) : Int) := by
  intro a
  induction a with
  | zero => intro _; simp [outC, prI, hj]
  | succ a ih =>
    intro ha
    have hx := List.getElem?_eq_getElem (l := xs) (i := a) (by omega)
    simp only [outC]
    rw [inC_at hs (outC_len _ _ _ _) j hj _ (Nat.le_refl _), List.take_length, ih (by omega), hx]
    unfold prI
    rw [List.take_add_one, hx, List.map_append, List.sum_append]
    simp
theorem sumC_at {s : Int} {xs ys : List Int} (hs : 1 ≤ s) {j : Nat} (hj : j < s.toNat) : (sumC s xs ys)[j]?.getD 0 = ((prI s xs ys j : Nat) : Int) := by
  unfold sumC
  rw [outC_at hs j hj _ (Nat.le_refl _), List.take_length]
theorem sum_zero (ys : List Int) : (ys.map fun _ => 0).sum = 0 := by
  induction ys with
  | nil => rfl
  | cons y r ih => rw [List.map_cons, List.sum_cons, ih]
theorem sum_add (f g : Int → Nat) (ys : List Int) : (ys.map fun q => f q + g q).sum = (ys.map f).sum + (ys.map g).sum := by
  induction ys with
  | nil => rfl
  | cons y r ih => simp only [List.map_cons, List.sum_cons, ih]; omega
theorem filter_sum (f : Int → Bool) (ys : List Int) : (ys.filter f).length = (ys.map fun q => if f q = true then 1 else 0).sum := by
  induction ys with
  | nil => rfl
  | cons y r ih =>
    by_cases e : f y = true
    · simp [List.filter_cons_of_pos e, ih, e]; omega
    · simp [List.filter_cons_of_neg e, ih, e]
/-- pairs are counted from either side -/
theorem pairs_swap (f : Int → Int → Bool) (xs ys : List Int) : (xs.map fun p => (ys.filter fun q => f p q).length).sum = (ys.map fun q => (xs.filter fun p => f p q).length).sum := by
  induction xs with
  | nil => simp [sum_zero]
  | cons x r ih =>
    simp only [List.map_cons, List.sum_cons, ih]
    rw [filter_sum (fun q => f x q), ← sum_add]
    congr 1
    refine List.map_congr_left fun q _ => ?_
    by_cases e : f x q = true
    · rw [if_pos e, List.filter_cons_of_pos (by exact e), List.length_cons]; omega
    · rw [if_neg e, List.filter_cons_of_neg (by exact e)]; omega
theorem prI_swap (s : Int) (xs ys : List Int) (i : Int) : prI s xs ys i = (ys.map fun q => (xs.filter fun p => (p + q) % s == i).length).sum := pairs_swap (fun p q => (p + q) % s == i) xs ys
theorem prI_comm (s : Int) (xs ys : List Int) (i : Int) : prI s xs ys i = prI s ys xs i := by
  rw [prI_swap]
  unfold prI
  congr 1
  refine List.map_congr_left fun q _ => ?_
  congr 2
  funext p
  rw [Int.add_comm]
/-- a beat of xs is carried to i by q -/
def hit (s : Int) (xs : List Int) (i q : Int) : Bool := xs.any fun p => (p + q) % s == i
theorem filter_one {s : Int} {xs : List Int} {i q : Int} (hb : ∀ x ∈ xs, 0 ≤ x ∧ x < s) (ha : xs.Pairwise (· < ·)) : (xs.filter fun p => (p + q) % s == i).length = if hit s xs i q = true then 1 else 0 := by
  induction xs with
  | nil => rfl
  | cons x r ih =>
    have hr := ih (fun y hy => hb y (List.mem_cons_of_mem _ hy)) (List.pairwise_cons.1 ha).2
    have hxb := hb x List.mem_cons_self
    by_cases e : ((x + q) % s == i) = true
    · rw [List.filter_cons_of_pos (by exact e), List.length_cons, hr]
      have h0 : hit s r i q = false := by
        rw [Bool.eq_false_iff]
        intro h
        obtain ⟨y, hy, h2⟩ := List.any_eq_true.1 h
        have hyb := hb y (List.mem_cons_of_mem _ hy)
        have hlt := (List.pairwise_cons.1 ha).1 y hy
        rw [beq_iff_eq] at e h2
        have : (y + q) % s = (x + q) % s := by rw [h2, e]
        have h3 : s ∣ (y + q) - (x + q) := Int.dvd_of_emod_eq_zero (by rw [Int.sub_emod, this]; simp)
        rw [show (y + q) - (x + q) = y - x by omega] at h3
        have := Int.le_of_dvd (by omega) h3
        omega
      rw [h0, if_neg (by simp), if_pos (by unfold hit; rw [List.any_cons, e]; rfl)]
    · rw [List.filter_cons_of_neg (by exact e), hr]
      have : hit s (x :: r) i q = hit s r i q := by unfold hit; rw [List.any_cons, Bool.eq_false_iff.2 e, Bool.false_or]
      rw [this]
theorem prI_hit {s : Int} {xs ys : List Int} {i : Int} (hb : ∀ x ∈ xs, 0 ≤ x ∧ x < s) (ha : xs.Pairwise (· < ·)) : prI s xs ys i = (ys.filter fun q => hit s xs i q).length := by
  rw [prI_swap, filter_sum]
  congr 1
  exact List.map_congr_left fun q _ => filter_one hb ha
end Go.Proofs.Ytgfdmjhdfddopaa
