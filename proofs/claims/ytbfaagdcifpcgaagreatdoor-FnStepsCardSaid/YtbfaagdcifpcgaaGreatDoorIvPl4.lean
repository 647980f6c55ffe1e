/- Mirrors, flat rhythms and overlaps: what else FnIntervals says, in plain words. -/
import Derived.Test.YtbfaagdcifpcgaaGreatDoorIvs
import Derived.Test.YtbfaagdcifpcgaaGreatDoorMv
import Derived.Test.YtbfaagdcifpcgaaGreatDoorCmnPlain
import Derived.Test.YtbfaagdcifpcgaaGreatDoorRotTo
namespace Go.Proofs.YtbfaagdcifpcgaaGreatDoor
open Go.RowKit
set_option maxRecDepth 20000

theorem mir_ok {n : Nat} (h1 : 1 ≤ n) (h24 : n ≤ 24) (xs : List Int) : rhOk n (mirL n xs) = true := by
  refine rhOk_iff.2 ⟨⟨by omega, by omega⟩, fun x hx => ?_, coll_asc _⟩
  have := (coll_mem _ _).1 hx
  unfold modL at this
  obtain ⟨y, _, rfl⟩ := List.mem_map.1 this
  exact ⟨Int.emod_nonneg _ (by omega), Int.emod_lt_of_pos _ (by omega)⟩
theorem neg_neg_emod {n : Nat} {x : Int} (_h1 : 1 ≤ n) (hx : 0 ≤ x ∧ x < n) : (-((-x) % (n : Int))) % (n : Int) = x := by
  rw [← Int.zero_sub, Int.sub_emod, Int.emod_emod, ← Int.sub_emod, Int.zero_sub, Int.neg_neg, Int.emod_eq_of_lt hx.1 hx.2]
theorem mir_mem {n : Nat} {xs : List Int} {x : Int} (h1 : 1 ≤ n) (hb : ∀ y ∈ xs, 0 ≤ y ∧ y < n) (hx : 0 ≤ x ∧ x < n) : x ∈ mirL n xs ↔ (-x) % (n : Int) ∈ xs := by
  unfold mirL
  rw [coll_mem]
  unfold modL negL
  rw [List.map_map, List.mem_map]
  constructor
  · rintro ⟨y, hy, rfl⟩
    rw [Function.comp_apply, neg_neg_emod h1 (hb y hy)]
    exact hy
  · intro h
    exact ⟨_, h, by rw [Function.comp_apply]; exact neg_neg_emod h1 hx⟩
theorem df_mir {n : Nat} {xs : List Int} {i : Int} (hx : rhOk n xs = true) (hi : 0 ≤ i ∧ i < n) : dfI n (mirL n xs) i = dfI n xs i := by
  obtain ⟨⟨hn1, hn2⟩, hb, ha⟩ := rhOk_iff.1 hx
  have hm := mir_ok (n := n) (by omega) (by omega) xs
  obtain ⟨_, hmb, hma⟩ := rhOk_iff.1 hm
  have key : ∀ x : Int, 0 ≤ x ∧ x < n → 0 ≤ (i - x) % (n : Int) ∧ (i - x) % (n : Int) < n := fun x _ => ⟨Int.emod_nonneg _ (by omega), Int.emod_lt_of_pos _ (by omega)⟩
  have e1 : ∀ x : Int, 0 ≤ x ∧ x < n → (i - (i - x) % (n : Int)) % (n : Int) = x := fun x h => by
    rw [Int.sub_emod, Int.emod_emod, ← Int.sub_emod, show i - (i - x) = x by omega, Int.emod_eq_of_lt h.1 h.2]
  have e2 : ∀ x : Int, (-(((x - i) % (n : Int)))) % (n : Int) = (i - x) % (n : Int) := fun x => by
    rw [← Int.zero_sub, Int.sub_emod, Int.emod_emod, ← Int.sub_emod, show (0 : Int) - (x - i) = i - x by omega]
  have e3 : ∀ x : Int, ((i - x) % (n : Int) - i) % (n : Int) = (-x) % (n : Int) := fun x => by
    rw [Int.sub_emod, Int.emod_emod, ← Int.sub_emod, show i - x - i = -x by omega]
  have e4 : ∀ x : Int, (-((i - x) % (n : Int))) % (n : Int) = (x - i) % (n : Int) := fun x => by
    rw [← Int.zero_sub, Int.sub_emod, Int.emod_emod, ← Int.sub_emod, show (0 : Int) - (i - x) = x - i by omega]
  rw [df_count hm hi, df_count hx hi]
  refine len_bij ((asc_nodup hma).filter _) ((asc_nodup ha).filter _) (fun x => (i - x) % (n : Int)) (fun x => (i - x) % (n : Int)) (fun x h => ?_) (fun y h => ?_)
  · obtain ⟨h1, h2⟩ := List.mem_filter.1 h
    have hxb := hmb x h1
    have h3 := (mir_mem (by omega) hb hxb).1 h1
    have h4 := (mir_mem (by omega) hb ⟨Int.emod_nonneg _ (by omega), Int.emod_lt_of_pos _ (by omega)⟩).1 (memB_iff.1 h2)
    rw [e2] at h4
    exact ⟨List.mem_filter.2 ⟨h4, by rw [memB_iff, e3]; exact h3⟩, e1 x hxb⟩
  · obtain ⟨h1, h2⟩ := List.mem_filter.1 h
    have hyb := hb y h1
    refine ⟨List.mem_filter.2 ⟨(mir_mem (by omega) hb (key y hyb)).2 ?_, ?_⟩, e1 y hyb⟩
    · rw [e4]; exact memB_iff.1 h2
    · rw [memB_iff, e3]
      refine (mir_mem (by omega) hb ⟨Int.emod_nonneg _ (by omega), Int.emod_lt_of_pos _ (by omega)⟩).2 ?_
      rw [neg_neg_emod (by omega) hyb]; exact h1
theorem st_mir {n u : Nat} (hn : u + 1 = n) (xs : List Int) : stL n xs (u : Int) = mirL n xs := by
  unfold stL mirL
  congr 1
  unfold modL mulL negL
  rw [List.map_map, List.map_map]
  refine List.map_congr_left fun x _ => ?_
  simp only [Function.comp_apply]
  have e : (u : Int) = (n : Int) - 1 := by omega
  rw [e, Int.sub_mul, Int.one_mul, Int.sub_emod, Int.mul_emod_right, ← Int.zero_emod (n : Int), ← Int.sub_emod, Int.zero_sub]
/-- at most one value -/
def flatB (l : List Int) : Bool := decide ((coll l).length ≤ 1)
theorem flat_iff {l : List Int} : flatB l = true ↔ ∀ x ∈ l, ∀ y ∈ l, x = y := by
  unfold flatB
  rw [decide_eq_true_iff]
  constructor
  · intro h x hx y hy
    have h1 := (coll_mem l x).2 hx
    have h2 := (coll_mem l y).2 hy
    match hc : coll l, h, h1, h2 with
    | [], _, h1, _ => cases h1
    | [z], _, h1, h2 => rw [List.mem_singleton] at h1 h2; omega
    | _ :: _ :: _, h, _, _ => simp at h
  · intro h
    match hc : coll l with
    | [] => simp
    | [_] => simp
    | a :: b :: r =>
      exfalso
      have ha := (coll_mem l a).1 (by rw [hc]; simp)
      have hb := (coll_mem l b).1 (by rw [hc]; simp)
      have := coll_asc l
      rw [hc] at this
      have := List.rel_of_pairwise_cons this (show b ∈ b :: r by simp)
      have := h a ha b hb
      omega
theorem flat_oth {n : Nat} {xs : List Int} (hx : rhOk n xs = true) : flatB ((difC n (othL n xs)).drop 1) = flatB ((difC n xs).drop 1) := by
  obtain ⟨⟨hn1, hn2⟩, _, _⟩ := rhOk_iff.1 hx
  have key : ∀ k, k < n → (difC n (othL n xs))[k]?.getD 0 + 2 * xs.length = n + (difC n xs)[k]?.getD 0 := fun k hk => by
    rw [difC_at (by omega) (by rw [Int.toNat_natCast]; exact hk), difC_at (by omega) (by rw [Int.toNat_natCast]; exact hk)]
    have := df_oth hx (i := (k : Int)) ⟨by omega, by omega⟩
    omega
  have l1 : (difC n (othL n xs)).length = n := by rw [difC_len, Int.toNat_natCast]
  have l2 : (difC n xs).length = n := by rw [difC_len, Int.toNat_natCast]
  have at_ : ∀ (l : List Int) (x : Int), l.length = n → (x ∈ l.drop 1 ↔ ∃ k, 1 ≤ k ∧ k < n ∧ l[k]?.getD 0 = x) := fun l x hl => by
    rw [List.mem_iff_getElem?]
    constructor
    · rintro ⟨k, hk⟩
      rw [List.getElem?_drop] at hk
      have := (List.getElem?_eq_some_iff.1 hk).1
      exact ⟨1 + k, by omega, by omega, by rw [hk]; rfl⟩
    · rintro ⟨k, h1, h2, h3⟩
      refine ⟨k - 1, ?_⟩
      rw [List.getElem?_drop, show 1 + (k - 1) = k by omega, List.getElem?_eq_getElem (by omega)]
      rw [List.getElem?_eq_getElem (by omega)] at h3
      simpa using h3
  rw [Bool.eq_iff_iff, flat_iff, flat_iff]
  constructor
  · intro h x hx' y hy'
    obtain ⟨k, k1, k2, rfl⟩ := (at_ _ _ l2).1 hx'
    obtain ⟨j, j1, j2, rfl⟩ := (at_ _ _ l2).1 hy'
    have e := h _ ((at_ _ _ l1).2 ⟨k, k1, k2, rfl⟩) _ ((at_ _ _ l1).2 ⟨j, j1, j2, rfl⟩)
    have := key k k2
    have := key j j2
    omega
  · intro h x hx' y hy'
    obtain ⟨k, k1, k2, rfl⟩ := (at_ _ _ l1).1 hx'
    obtain ⟨j, j1, j2, rfl⟩ := (at_ _ _ l1).1 hy'
    have e := h _ ((at_ _ _ l2).2 ⟨k, k1, k2, rfl⟩) _ ((at_ _ _ l2).2 ⟨j, j1, j2, rfl⟩)
    have := key k k2
    have := key j j2
    omega
/-- how many beats each rotation has in common -/
def ovTo (n : Int) (xs : List Int) (k : Nat) : List Int := (List.range k).map fun (j : Nat) => ((cmN xs (rotL n xs (j : Int)) : Nat) : Int)
theorem ovTo_succ (n : Int) (xs : List Int) (k : Nat) : ovTo n xs (k + 1) = ovTo n xs k ++ [((cmN xs (rotL n xs (k : Int)) : Nat) : Int)] := by simp [ovTo, List.range_succ]
theorem ovTo_len (n : Int) (xs : List Int) (k : Nat) : (ovTo n xs k).length = k := by simp [ovTo]
theorem cm_rot {n : Nat} {xs : List Int} (hx : rhOk n xs = true) {i : Nat} (hi : i < n) : cmN xs (rotL n xs (i : Int)) = dfI n xs i := df_common hx ⟨by omega, by omega⟩
theorem ov_dif {n : Nat} {xs : List Int} (hx : rhOk n xs = true) : ovTo n xs n = difC n xs := by
  obtain ⟨⟨hn1, hn2⟩, _, _⟩ := rhOk_iff.1 hx
  refine List.ext_getElem? fun k => ?_
  by_cases hk : k < n
  · have h1 : k < (ovTo n xs n).length := by rw [ovTo_len]; exact hk
    have h2 : k < (difC n xs).length := by rw [difC_len, Int.toNat_natCast]; exact hk
    have h3 := difC_at (s := (n : Int)) (xs := xs) (by omega) (j := k) (by rw [Int.toNat_natCast]; exact hk)
    rw [List.getElem?_eq_getElem h2] at h3 ⊢
    rw [List.getElem?_eq_getElem h1]
    simp only [Option.getD_some] at h3
    rw [h3]
    simp [ovTo, cm_rot hx hk]
  · rw [List.getElem?_eq_none (by rw [ovTo_len]; omega), List.getElem?_eq_none (by rw [difC_len, Int.toNat_natCast]; omega)]
theorem rotB_rot {n : Nat} {xs : List Int} {i : Nat} (hi : i < n) : rotB n xs (rotL n xs (i : Int)) = true := by
  unfold rotB
  rw [Int.toNat_natCast]
  exact anyTo_hit hi (by unfold rotP; simp)
end Go.Proofs.YtbfaagdcifpcgaaGreatDoor
