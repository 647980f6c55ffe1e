/- The steps of a rhythm: the plain laws of FnSteps. -/
import Derived.Test.YtbfaagdcifpcgaaGreatDoorSteps
import Derived.Test.YtbfaagdcifpcgaaGreatDoorSpans
import Derived.Test.YtbfaagdcifpcgaaGreatDoorSizesT
import Derived.Test.YtbfaagdcifpcgaaGreatDoorRotTo
import Derived.Test.YtbfaagdcifpcgaaGreatDoorMv
import Derived.Test.YtbfaagdcifpcgaaGreatDoorIvPl4
import Derived.Test.YtbfaagdcifpcgaaGreatDoorInsPlain
namespace Go.Proofs.YtbfaagdcifpcgaaGreatDoor
open Go.RowKit
set_option maxRecDepth 20000

/-- where the k-th step begins, once around -/
def stB (n : Nat) (xs : List Int) (k : Nat) : Int := if k < xs.length then xs[k]?.getD 0 else n + xs[0]?.getD 0
theorem stepAt_B {n : Nat} {xs : List Int} {k : Nat} (hk : k < xs.length) : stepAt n xs k = stB n xs (k + 1) - stB n xs k := by
  unfold stepAt nxtB stB
  rw [if_pos hk]
theorem st_cum {n : Nat} {xs : List Int} : ∀ {k : Nat}, k ≤ xs.length → (stepsTo n xs k).sum = stB n xs k - stB n xs 0
  | 0, _ => by simp [stepsTo]
  | k + 1, hk => by
    rw [stepsTo_succ, List.sum_append, st_cum (by omega), stepAt_B (by omega)]
    simp only [List.sum_cons, List.sum_nil]
    omega
theorem st_B0 {n : Nat} {xs : List Int} (h0 : 0 < xs.length) : stB n xs 0 = xs[0]?.getD 0 := by unfold stB; rw [if_pos h0]
theorem st_Bm {n : Nat} {xs : List Int} : stB n xs xs.length = n + xs[0]?.getD 0 := by unfold stB; rw [if_neg (by omega)]
theorem st_sum {n : Nat} {xs : List Int} (h0 : 0 < xs.length) : (stepsTo n xs xs.length).sum = n := by
  rw [st_cum (Nat.le_refl _), st_Bm, st_B0 h0]; omega
theorem st_one {n : Nat} {xs : List Int} (hok : rhOk n xs = true) {k : Nat} (hk : k < xs.length) : 1 ≤ stepAt n xs k ∧ stepAt n xs k ≤ n := by
  obtain ⟨_, hb, ha⟩ := rhOk_iff.1 hok
  have g : ∀ i, i < xs.length → 0 ≤ xs[i]?.getD 0 ∧ xs[i]?.getD 0 < n := fun i hi => by
    rw [List.getElem?_eq_getElem hi]; exact hb _ (List.getElem_mem hi)
  have m : ∀ i j, i < j → j < xs.length → xs[i]?.getD 0 < xs[j]?.getD 0 := fun i j h1 h2 => by
    rw [List.getElem?_eq_getElem h2, List.getElem?_eq_getElem (by omega)]
    exact List.pairwise_iff_getElem.1 ha i j (by omega) h2 h1
  have a := g k hk
  have b := g 0 (by omega)
  unfold stepAt nxtB
  split
  · rename_i h
    have := m k (k + 1) (by omega) h
    have := g _ h
    omega
  · by_cases hk0 : k = 0
    · subst hk0; omega
    · have := m 0 k (by omega) hk
      omega
theorem st_get {n : Nat} {xs : List Int} {m k : Nat} (hk : k < m) : (stepsTo n xs m)[k]?.getD 0 = stepAt n xs k := by
  unfold stepsTo
  rw [List.getElem?_map, List.getElem?_range hk]; rfl
theorem st_mem {n : Nat} {xs : List Int} (hok : rhOk n xs = true) : ∀ x ∈ stepsTo n xs xs.length, 1 ≤ x ∧ x ≤ n := by
  intro x hx
  unfold stepsTo at hx
  obtain ⟨k, hk, rfl⟩ := List.mem_map.1 hx
  exact st_one hok (List.mem_range.1 hk)
theorem st_take {n : Nat} {xs : List Int} {m k : Nat} (hk : k ≤ m) : (stepsTo n xs m).take k = stepsTo n xs k := by
  unfold stepsTo
  rw [← List.map_take, List.take_range, Nat.min_eq_left hk]
/-- the beats that some steps lead to -/
def frTo (L : List Int) (f : Int) (k : Nat) : List Int := (List.range k).map fun i => f + (L.take i).sum
theorem frTo_succ (L : List Int) (f : Int) (k : Nat) : frTo L f (k + 1) = frTo L f k ++ [f + (L.take k).sum] := by simp [frTo, List.range_succ]
theorem frTo_len (L : List Int) (f : Int) (k : Nat) : (frTo L f k).length = k := by simp [frTo]
theorem fr_back {n : Nat} {xs : List Int} (h0 : 0 < xs.length) : frTo (stepsTo n xs xs.length) (xs[0]?.getD 0) xs.length = xs := by
  refine List.ext_getElem? fun k => ?_
  by_cases hk : k < xs.length
  · unfold frTo
    rw [List.getElem?_map, List.getElem?_range hk, Option.map_some, st_take (by omega), st_cum (by omega), st_B0 h0, List.getElem?_eq_getElem hk]
    unfold stB
    rw [if_pos hk, List.getElem?_eq_getElem hk]
    simp
    omega
  · rw [List.getElem?_eq_none (by rw [frTo_len]; omega), List.getElem?_eq_none (by omega)]
/-- the beats of the steps turned -/
def tuTo (L : List Int) (f : Int) (k : Nat) : List Int := (List.range k).map fun j => f + (L.drop (L.length - j)).sum
theorem tuTo_succ (L : List Int) (f : Int) (k : Nat) : tuTo L f (k + 1) = tuTo L f k ++ [f + (L.drop (L.length - k)).sum] := by simp [tuTo, List.range_succ]
theorem tuTo_len (L : List Int) (f : Int) (k : Nat) : (tuTo L f k).length = k := by simp [tuTo]
theorem drop_next {L : List Int} {k : Nat} (hk : k < L.length) : (L.drop (L.length - (k + 1))).sum = (L.drop (L.length - k)).sum + L[L.length - (k + 1)]?.getD 0 := by
  rw [List.drop_eq_getElem_cons (show L.length - (k + 1) < L.length by omega), List.getElem?_eq_getElem (by omega), show L.length - (k + 1) + 1 = L.length - k by omega]
  simp only [List.sum_cons, Option.getD_some]
  omega
theorem tu_get {n : Nat} {xs : List Int} (h0 : 0 < xs.length) {j : Nat} (hj : j < xs.length) :
    xs[0]?.getD 0 + ((stepsTo n xs xs.length).drop (xs.length - j)).sum = n + 2 * xs[0]?.getD 0 - stB n xs (xs.length - j) := by
  have h1 := congrArg List.sum (List.take_append_drop (xs.length - j) (stepsTo n xs xs.length))
  rw [List.sum_append, st_sum h0, st_take (by omega), st_cum (by omega), st_B0 h0] at h1
  omega
def turnR (n : Nat) (xs : List Int) : List Int := coll (modL n (tuTo (stepsTo n xs xs.length) (xs[0]?.getD 0) xs.length))
theorem turn_ok {n : Nat} {xs : List Int} (hok : rhOk n xs = true) : rhOk n (turnR n xs) = true := by
  obtain ⟨hs, _, _⟩ := rhOk_iff.1 hok
  refine rhOk_iff.2 ⟨hs, fun x hx => ?_, coll_asc _⟩
  have := (coll_mem _ _).1 hx
  unfold modL at this
  obtain ⟨y, _, rfl⟩ := List.mem_map.1 this
  exact ⟨Int.emod_nonneg _ (by omega), Int.emod_lt_of_pos _ (by omega)⟩
theorem turn_mem {n : Nat} {xs : List Int} (h0 : 0 < xs.length) {x : Int} : x ∈ turnR n xs ↔ ∃ y ∈ xs, x = (2 * xs[0]?.getD 0 - y) % (n : Int) := by
  unfold turnR
  rw [coll_mem]
  unfold modL tuTo
  rw [List.map_map, List.mem_map]
  have hl : (stepsTo n xs xs.length).length = xs.length := stepsTo_len _ _ _
  constructor
  · rintro ⟨j, hj, rfl⟩
    have hj := List.mem_range.1 hj
    rw [Function.comp_apply, hl, tu_get h0 hj]
    by_cases hj0 : j = 0
    · subst hj0
      refine ⟨xs[0]?.getD 0, by rw [List.getElem?_eq_getElem h0]; exact List.getElem_mem h0, ?_⟩
      rw [Nat.sub_zero, st_Bm]
      congr 1; omega
    · refine ⟨xs[xs.length - j]?.getD 0, by rw [List.getElem?_eq_getElem (by omega)]; exact List.getElem_mem (by omega), ?_⟩
      unfold stB
      rw [if_pos (by omega), show (n : Int) + 2 * xs[0]?.getD 0 - xs[xs.length - j]?.getD 0 = (2 * xs[0]?.getD 0 - xs[xs.length - j]?.getD 0) + n by omega, Int.add_emod_right]
  · rintro ⟨y, hy, rfl⟩
    obtain ⟨i, hi, rfl⟩ := List.mem_iff_getElem.1 hy
    by_cases hi0 : i = 0
    · subst hi0
      refine ⟨0, List.mem_range.2 h0, ?_⟩
      rw [Function.comp_apply, hl, tu_get h0 h0, Nat.sub_zero, st_Bm, List.getElem?_eq_getElem h0]
      simp only [Option.getD_some]
      congr 1; omega
    · refine ⟨xs.length - i, List.mem_range.2 (by omega), ?_⟩
      rw [Function.comp_apply, hl, tu_get h0 (by omega), show xs.length - (xs.length - i) = i by omega]
      unfold stB
      rw [if_pos hi, List.getElem?_eq_getElem hi]
      simp only [Option.getD_some]
      rw [show (n : Int) + 2 * xs[0]?.getD 0 - xs[i] = (2 * xs[0]?.getD 0 - xs[i]) + n by omega, Int.add_emod_right]
theorem turn_mir {n : Nat} {xs : List Int} (hok : rhOk n xs = true) (h0 : 0 < xs.length) : ∃ k : Nat, k < n ∧ rotL n (turnR n xs) (k : Int) = mirL n xs := by
  obtain ⟨⟨hs1, hs2⟩, hb, _⟩ := rhOk_iff.1 hok
  obtain ⟨k, hk⟩ := Int.eq_ofNat_of_zero_le (Int.emod_nonneg (-(2 * xs[0]?.getD 0)) (show (n : Int) ≠ 0 by omega))
  have hkn := Int.emod_lt_of_pos (-(2 * xs[0]?.getD 0)) (show (0 : Int) < n by omega)
  refine ⟨k, by omega, asc_ext (coll_asc _) (coll_asc _) fun x => ?_⟩
  rw [← hk]
  have hx2 : x ∈ mirL n xs ↔ ∃ y ∈ xs, x = (-y) % (n : Int) := by
    unfold mirL
    rw [coll_mem]
    unfold modL negL
    rw [List.map_map, List.mem_map]
    exact ⟨fun ⟨y, hy, e⟩ => ⟨y, hy, e.symm⟩, fun ⟨y, hy, e⟩ => ⟨y, hy, e.symm⟩⟩
  show x ∈ rotL n (turnR n xs) _ ↔ _
  rw [hx2]
  unfold rotL
  rw [coll_mem]
  unfold modL addL
  rw [List.map_map, List.mem_map]
  have key : ∀ y : Int, ((2 * xs[0]?.getD 0 - y) % (n : Int) + (-(2 * xs[0]?.getD 0)) % (n : Int)) % (n : Int) = (-y) % (n : Int) := fun y => by
    rw [← Int.add_emod, show 2 * xs[0]?.getD 0 - y + -(2 * xs[0]?.getD 0) = -y by omega]
  constructor
  · rintro ⟨z, hz, rfl⟩
    obtain ⟨y, hy, rfl⟩ := (turn_mem h0).1 hz
    exact ⟨y, hy, by rw [Function.comp_apply]; exact key y⟩
  · rintro ⟨y, hy, rfl⟩
    exact ⟨_, (turn_mem h0).2 ⟨y, hy, rfl⟩, by rw [Function.comp_apply]; exact key y⟩
theorem turn_rot {n : Nat} {xs : List Int} (hok : rhOk n xs = true) (h0 : 0 < xs.length) : rotB n (turnR n xs) (mirL n xs) = true := by
  obtain ⟨k, hk, e⟩ := turn_mir hok h0
  rw [← e]; exact rotB_rot hk
theorem turn_len {n : Nat} {xs : List Int} (hok : rhOk n xs = true) (h0 : 0 < xs.length) : (turnR n xs).length = xs.length := by
  obtain ⟨⟨hs1, hs2⟩, _, _⟩ := rhOk_iff.1 hok
  obtain ⟨k, hk, e⟩ := turn_mir hok h0
  have h1 := df_rot (turn_ok hok) (i := 0) ⟨by omega, by omega⟩ (k : Int)
  have h2 := df_mir hok (i := 0) ⟨by omega, by omega⟩
  rw [e, df_zero (mir_ok (by omega) (by omega) xs), df_zero (turn_ok hok)] at h1
  rw [df_zero (mir_ok (by omega) (by omega) xs), df_zero hok] at h2
  omega
/-- spans -/
theorem span_one {L : List Int} {i : Nat} (hi : i < L.length) : spanAt L i 1 = L[i]?.getD 0 := by
  unfold spanAt
  simp only [List.range_one, List.map_cons, List.map_nil, List.sum_cons, List.sum_nil, Nat.add_zero]
  rw [Nat.mod_eq_of_lt hi]; omega
theorem span_all {L : List Int} {i : Nat} (hi : i < L.length) : spanAt L i L.length = L.sum := by
  have e : ((List.range L.length).map fun j => L[(i + j) % L.length]?.getD 0) = L.drop i ++ L.take i := by
    refine List.ext_getElem? fun j => ?_
    by_cases hj : j < L.length
    · rw [List.getElem?_map, List.getElem?_range hj, Option.map_some]
      by_cases hij : i + j < L.length
      · rw [List.getElem?_append_left (by rw [List.length_drop]; omega), List.getElem?_drop, Nat.mod_eq_of_lt hij, List.getElem?_eq_getElem hij]; rfl
      · rw [List.getElem?_append_right (by rw [List.length_drop]; omega), List.length_drop, List.getElem?_take, if_pos (by omega)]
        have : (i + j) % L.length = j - (L.length - i) := by
          rw [Nat.mod_eq_sub_mod (by omega), Nat.mod_eq_of_lt (by omega)]; omega
        rw [this, List.getElem?_eq_getElem (by omega)]; rfl
    · rw [List.getElem?_eq_none (by simp; omega), List.getElem?_eq_none (by simp; omega)]
  unfold spanAt
  rw [e, List.sum_append]
  have := congrArg List.sum (List.take_append_drop i L)
  rw [List.sum_append] at this
  omega
theorem spans_one (L : List Int) : spansTo L 1 L.length = L := by
  refine List.ext_getElem? fun j => ?_
  by_cases hj : j < L.length
  · unfold spansTo
    rw [List.getElem?_map, List.getElem?_range hj, Option.map_some, span_one hj, List.getElem?_eq_getElem hj]; rfl
  · rw [List.getElem?_eq_none (by rw [spansTo_len]; omega), List.getElem?_eq_none (by omega)]
theorem spans_all {L : List Int} (h0 : 0 < L.length) : (coll (spansTo L L.length L.length)).length = 1 := by
  have h1 : ∀ x ∈ spansTo L L.length L.length, x = L.sum := fun x hx => by
    unfold spansTo at hx
    obtain ⟨i, hi, rfl⟩ := List.mem_map.1 hx
    exact span_all (List.mem_range.1 hi)
  have h2 : flatB (spansTo L L.length L.length) = true := flat_iff.2 fun x hx y hy => by rw [h1 x hx, h1 y hy]
  unfold flatB at h2
  have h3 := of_decide_eq_true h2
  have h4 : 0 < (coll (spansTo L L.length L.length)).length := coll_pos (by rw [spansTo_len]; exact h0)
  omega
/-- the greatest, the least and the rests, step by step -/
def mxTo (L : List Int) : Nat → Int
  | 0 => 0
  | k + 1 => max (mxTo L k) (L[k]?.getD 0)
def mnTo (L : List Int) : Nat → Int
  | 0 => 99
  | k + 1 => min (mnTo L k) (L[k]?.getD 0)
def reTo (L : List Int) : Nat → Nat
  | 0 => 0
  | k + 1 => if 1 < L[k]?.getD 0 then reTo L k + 1 else reTo L k
theorem mx_spec {L : List Int} (h : ∀ x ∈ L, 1 ≤ x ∧ x ≤ 24) : ∀ {k : Nat}, k ≤ L.length → (0 ≤ mxTo L k ∧ mxTo L k ≤ 24) ∧ (∀ i, i < k → L[i]?.getD 0 ≤ mxTo L k) ∧ (0 < k → ∃ i, i < k ∧ L[i]?.getD 0 = mxTo L k)
  | 0, _ => ⟨⟨by simp [mxTo], by simp [mxTo]⟩, fun i hi => by omega, fun hk => by omega⟩
  | k + 1, hk => by
    obtain ⟨h1, h2, h3⟩ := mx_spec h (k := k) (by omega)
    have hx : 1 ≤ L[k]?.getD 0 ∧ L[k]?.getD 0 ≤ 24 := by rw [List.getElem?_eq_getElem (by omega)]; exact h _ (List.getElem_mem _)
    simp only [mxTo]
    refine ⟨by omega, fun i hi => ?_, fun _ => ?_⟩
    · by_cases hik : i = k
      · subst hik; omega
      · have := h2 i (by omega); omega
    · by_cases hge : mxTo L k ≤ L[k]?.getD 0
      · exact ⟨k, by omega, by omega⟩
      · by_cases hk0 : k = 0
        · subst hk0; simp only [mxTo] at hge; omega
        · obtain ⟨i, hi, e⟩ := h3 (by omega)
          exact ⟨i, by omega, by omega⟩
theorem mn_spec {L : List Int} (h : ∀ x ∈ L, 1 ≤ x ∧ x ≤ 24) : ∀ {k : Nat}, k ≤ L.length → (1 ≤ mnTo L k ∧ mnTo L k ≤ 99) ∧ (∀ i, i < k → mnTo L k ≤ L[i]?.getD 0) ∧ (0 < k → ∃ i, i < k ∧ L[i]?.getD 0 = mnTo L k)
  | 0, _ => ⟨⟨by simp [mnTo], by simp [mnTo]⟩, fun i hi => by omega, fun hk => by omega⟩
  | k + 1, hk => by
    obtain ⟨h1, h2, h3⟩ := mn_spec h (k := k) (by omega)
    have hx : 1 ≤ L[k]?.getD 0 ∧ L[k]?.getD 0 ≤ 24 := by rw [List.getElem?_eq_getElem (by omega)]; exact h _ (List.getElem_mem _)
    simp only [mnTo]
    refine ⟨by omega, fun i hi => ?_, fun _ => ?_⟩
    · by_cases hik : i = k
      · subst hik; omega
      · have := h2 i (by omega); omega
    · by_cases hge : L[k]?.getD 0 ≤ mnTo L k
      · exact ⟨k, by omega, by omega⟩
      · by_cases hk0 : k = 0
        · subst hk0; simp only [mnTo] at hge; omega
        · obtain ⟨i, hi, e⟩ := h3 (by omega)
          exact ⟨i, by omega, by omega⟩
theorem re_bd (L : List Int) : ∀ k, reTo L k ≤ k
  | 0 => Nat.le_refl _
  | k + 1 => by
    have := re_bd L k
    simp only [reTo]
    split <;> omega
theorem coll_ends {L : List Int} (h : ∀ x ∈ L, 1 ≤ x ∧ x ≤ 24) (h0 : 0 < L.length) :
    0 < (coll L).length ∧ (coll L)[0]?.getD 0 = mnTo L L.length ∧ (coll L)[(coll L).length - 1]?.getD 0 = mxTo L L.length := by
  have hp : 0 < (coll L).length := coll_pos h0
  obtain ⟨_, a2, a3⟩ := mx_spec h (Nat.le_refl _)
  obtain ⟨_, b2, b3⟩ := mn_spec h (Nat.le_refl _)
  obtain ⟨i, hi, ei⟩ := a3 h0
  obtain ⟨j, hj, ej⟩ := b3 h0
  have hmi : mxTo L L.length ∈ coll L := (coll_mem _ _).2 (by rw [← ei, List.getElem?_eq_getElem hi]; exact List.getElem_mem hi)
  have hmj : mnTo L L.length ∈ coll L := (coll_mem _ _).2 (by rw [← ej, List.getElem?_eq_getElem hj]; exact List.getElem_mem hj)
  have hup : ∀ x ∈ coll L, mnTo L L.length ≤ x ∧ x ≤ mxTo L L.length := fun x hx => by
    obtain ⟨q, hq, rfl⟩ := List.mem_iff_getElem.1 ((coll_mem _ _).1 hx)
    have u1 := a2 q hq
    have u2 := b2 q hq
    rw [List.getElem?_eq_getElem hq] at u1 u2
    exact ⟨u2, u1⟩
  have hasc := List.pairwise_iff_getElem.1 (coll_asc L)
  refine ⟨hp, ?_, ?_⟩
  · rw [List.getElem?_eq_getElem hp]
    simp only [Option.getD_some]
    obtain ⟨q, hq, e⟩ := List.mem_iff_getElem.1 hmj
    have u := hup _ (List.getElem_mem hp)
    by_cases hq0 : q = 0
    · subst hq0; exact e
    · have := hasc 0 q hp hq (by omega); omega
  · have hl : (coll L).length - 1 < (coll L).length := by omega
    rw [List.getElem?_eq_getElem hl]
    simp only [Option.getD_some]
    obtain ⟨q, hq, e⟩ := List.mem_iff_getElem.1 hmi
    have u := hup _ (List.getElem_mem hl)
    by_cases hq0 : q = (coll L).length - 1
    · subst hq0; exact e
    · have := hasc q _ hq hl (by omega); omega
end Go.Proofs.YtbfaagdcifpcgaaGreatDoor
