/- The texts of rhythms are in the order of their codes: plain laws. -/
import Derived.Test.YtikifkbgmniobaaGreatFmR
import Derived.Test.YtikifkbgmniobaaGreatTopPl
namespace Go.Proofs.YtikifkbgmniobaaGreat
open Go.RowKit
set_option maxRecDepth 20000

def tb (n c : Nat) : List UInt8 := (List.range n).map fun j => if c.testBit (n - 1 - j) = true then 120 else 46
theorem fmTo_get (n : Nat) (xs : List Int) (j : Nat) (hj : j < n) : ∀ k, k ≤ xs.length → (fmTo n xs k)[j]? = some (if (xs.take k).any (fun x => x.toNat == j) = true then 120 else 46) := by
  intro k
  induction k with
  | zero => intro _; simp [fmTo, hj]
  | succ k ih =>
    intro h
    have hx : xs[k]? = some xs[k] := List.getElem?_eq_getElem (by omega)
    simp only [fmTo]
    rw [hx, Option.getD_some, List.take_add_one, hx, List.any_append, List.getElem?_set, fmTo_len]
    by_cases e : xs[k].toNat = j
    · subst e
      rw [if_pos rfl, if_pos hj]
      simp
    · rw [if_neg e, ih (by omega)]
      have : (xs[k].toNat == j) = false := beq_eq_false_iff_ne.2 e
      simp [this]
theorem fm_tb {n c : Nat} : fmTo n (bt n c) (bt n c).length = tb n c := by
  refine List.ext_getElem? fun j => ?_
  by_cases hj : j < n
  · rw [fmTo_get n _ j hj _ (Nat.le_refl _), List.take_length]
    unfold tb
    rw [List.getElem?_map, List.getElem?_range hj]
    simp only [Option.map_some]
    congr 1
    have : ((bt n c).any fun x => x.toNat == j) = c.testBit (n - 1 - j) := by
      rw [Bool.eq_iff_iff, List.any_eq_true]
      unfold bt
      constructor
      · rintro ⟨x, hx, e⟩
        obtain ⟨i, hi, rfl, hp⟩ := selTo_mem.1 hx
        unfold btP at hp
        rw [beq_iff_eq, Int.toNat_natCast] at e
        rw [Int.toNat_natCast, e] at hp
        exact hp
      · intro h
        exact ⟨(j : Int), selTo_mem.2 ⟨j, hj, rfl, by unfold btP; rw [Int.toNat_natCast]; exact h⟩, by rw [Int.toNat_natCast]; exact beq_self_eq_true j⟩
    rw [this]
  · rw [List.getElem?_eq_none (by rw [fmTo_len]; omega), List.getElem?_eq_none (by unfold tb; rw [List.length_map, List.length_range]; omega)]
theorem tb_succ (n c : Nat) : tb (n + 1) c = (if c.testBit n = true then 120 else 46) :: tb n c := by
  unfold tb
  rw [List.range_succ_eq_map, List.map_cons, List.map_map]
  refine congr (congrArg _ ?_) ?_
  · rw [show n + 1 - 1 - 0 = n by omega]
  · refine List.map_congr_left fun j hj => ?_
    rw [List.mem_range] at hj
    simp only [Function.comp]
    rw [show n + 1 - 1 - (j + 1) = n - 1 - j by omega]
theorem tb_mod (n c : Nat) : tb n (c % 2 ^ n) = tb n c := by
  unfold tb
  refine List.map_congr_left fun j hj => ?_
  rw [List.mem_range] at hj
  rw [Nat.testBit_mod_two_pow, show decide (n - 1 - j < n) = true from decide_eq_true (by omega), Bool.true_and]
def leqB (a b : List UInt8) : Bool := Op.bytesLess a b || a == b
theorem tb_less : ∀ {n c1 c2 : Nat}, c1 < 2 ^ n → c2 < c1 → leqB (tb n c1) (tb n c2) = false := by
  intro n
  induction n with
  | zero => intro c1 c2 h1 h2; simp at h1; omega
  | succ n ih =>
    intro c1 c2 h1 h2
    rw [tb_succ, tb_succ]
    have hp : 2 ^ (n + 1) = 2 ^ n + 2 ^ n := by rw [Nat.pow_succ]; omega
    have t1 : c1.testBit n = decide (2 ^ n ≤ c1) := by
      rw [Nat.testBit_eq_decide_div_mod_eq]
      congr 1
      by_cases h : 2 ^ n ≤ c1
      · rw [show c1 / 2 ^ n = 1 from Nat.div_eq_of_lt_le (by omega) (by omega)]; simp [h]
      · rw [Nat.div_eq_of_lt (by omega)]; simp; omega
    have t2 : c2.testBit n = decide (2 ^ n ≤ c2) := by
      rw [Nat.testBit_eq_decide_div_mod_eq]
      congr 1
      by_cases h : 2 ^ n ≤ c2
      · rw [show c2 / 2 ^ n = 1 from Nat.div_eq_of_lt_le (by omega) (by omega)]; simp [h]
      · rw [Nat.div_eq_of_lt (by omega)]; simp; omega
    rw [t1, t2]
    unfold leqB
    by_cases a1 : 2 ^ n ≤ c1
    · by_cases a2 : 2 ^ n ≤ c2
      · rw [decide_eq_true a1, decide_eq_true a2]
        have := ih (c1 := c1 % 2 ^ n) (c2 := c2 % 2 ^ n) (Nat.mod_lt _ (by omega)) (by
          rw [Nat.mod_eq_sub_mod a1, Nat.mod_eq_of_lt (show c1 - 2 ^ n < 2 ^ n by omega), Nat.mod_eq_sub_mod a2, Nat.mod_eq_of_lt (show c2 - 2 ^ n < 2 ^ n by omega)]; omega)
        rw [tb_mod, tb_mod] at this
        unfold leqB at this
        simpa [Op.bytesLess] using this
      · rw [decide_eq_true a1, decide_eq_false a2]
        simp [Op.bytesLess]
    · rw [decide_eq_false a1, decide_eq_false (show ¬ 2 ^ n ≤ c2 by omega)]
      have := ih (c1 := c1) (c2 := c2) (by omega) h2
      unfold leqB at this
      simpa [Op.bytesLess] using this
theorem dn_desc {P : Nat → Bool} : ∀ m, (dn P m).Pairwise (· > ·) := by
  intro m
  induction m with
  | zero => exact List.Pairwise.nil
  | succ m ih =>
    cases h : P m with
    | true =>
      rw [dn_hit h]
      exact List.pairwise_cons.2 ⟨fun c hc => (dn_mem.1 hc).1, ih⟩
    | false => rw [dn_miss h]; exact ih
theorem pts_order {n : Nat} (h12 : n ≤ 12) {xs x y : List Int} (hok : rhOk n xs = true) {k : Nat} (hx : (ptsL n xs)[k]? = some x) (hy : (ptsL n xs)[k + 1]? = some y) : (Op.bytesLess (fmT n x).toList (fmT n y).toList || (fmT n x).toList == (fmT n y).toList) = false := by
  have hn := (rhOk_iff.1 hok).1
  rw [ptsL_in hok h12] at hx hy
  unfold ptL at hx hy
  rw [List.getElem?_map] at hx hy
  obtain ⟨c1, h1, rfl⟩ := Option.map_eq_some_iff.1 hx
  obtain ⟨c2, h2, rfl⟩ := Option.map_eq_some_iff.1 hy
  obtain ⟨i1, e1⟩ := List.getElem?_eq_some_iff.1 h1
  obtain ⟨i2, e2⟩ := List.getElem?_eq_some_iff.1 h2
  have hlt := (List.pairwise_iff_getElem.1 (dn_desc (P := ptP n xs) (2 ^ n))) k (k + 1) i1 i2 (by omega)
  rw [e1, e2] at hlt
  have hm := (dn_mem.1 (List.mem_of_getElem? h1)).1
  have := tb_less hm hlt
  unfold fmT
  rw [fm_tb, fm_tb]
  simpa [leqB] using this
end Go.Proofs.YtikifkbgmniobaaGreat
