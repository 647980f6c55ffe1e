/- Words that many parts of the proof share. -/
import Derived.Test.YtikifkbgmniobaaGreatTls
import Derived.Test.YtikifkbgmniobaaGreatCms
namespace Go.Proofs.YtikifkbgmniobaaGreat
open Go.RowKit
set_option maxRecDepth 20000

/- Partners of a rhythm: how many there are, by codes and by a search. -/
def ptP (n : Nat) (xs : List Int) (c : Nat) : Bool := hasR n (bt n c) 0 && tilesB n xs (bt n c)
def LeL (l m : List Int) : Prop := l.length = m.length ∧ ∀ i : Nat, l[i]?.getD 0 ≤ m[i]?.getD 0
theorem LeL.refl (l : List Int) : LeL l l := ⟨rfl, fun _ => Int.le_refl _⟩
theorem LeL.trans {a b c : List Int} (h : LeL a b) (k : LeL b c) : LeL a c := ⟨h.1.trans k.1, fun i => Int.le_trans (h.2 i) (k.2 i)⟩
theorem inc_at (l : List Int) (i j : Nat) : (inc l i)[j]?.getD 0 = if i = j ∧ i < l.length then l[i]?.getD 0 + 1 else l[j]?.getD 0 := by
  unfold inc
  by_cases hij : i = j
  · subst hij
    by_cases hl : i < l.length
    · rw [List.getElem?_set_self hl, if_pos ⟨rfl, hl⟩]; rfl
    · rw [if_neg (fun h => hl h.2), List.set_eq_of_length_le (by omega)]
  · rw [List.getElem?_set_ne hij, if_neg (fun h => hij h.1)]
theorem inc_mono {l m : List Int} (h : LeL l m) (i : Nat) : LeL (inc l i) (inc m i) := by
  refine ⟨by rw [inc_len, inc_len]; exact h.1, fun j => ?_⟩
  rw [inc_at, inc_at, h.1]
  have h1 := h.2 i
  have h2 := h.2 j
  split <;> omega
theorem inc_ge (l : List Int) (i : Nat) : LeL l (inc l i) := by
  refine ⟨(inc_len l i).symm, fun j => ?_⟩
  rw [inc_at]
  split
  · rename_i h; rw [h.1]; omega
  · exact Int.le_refl _
theorem inC_mono {s p : Int} {ys l m : List Int} (h : LeL l m) (b : Nat) : LeL (inC s p ys l b) (inC s p ys m b) := by
  induction b with
  | zero => exact h
  | succ b ih => exact inc_mono ih _
theorem inC_ge {s p : Int} {ys l : List Int} (a b : Nat) : LeL (inC s p ys l a) (inC s p ys l (a + b)) := by
  induction b with
  | zero => exact LeL.refl _
  | succ b ih => exact ih.trans (inc_ge _ _)
theorem inC_app {s p : Int} {ys zs l : List Int} (b : Nat) (hb : b ≤ ys.length) : inC s p (ys ++ zs) l b = inC s p ys l b := by
  induction b with
  | zero => rfl
  | succ b ih =>
    simp only [inC]
    rw [ih (by omega), List.getElem?_append_left (by omega)]
theorem inC_ext {s p : Int} {ys zs l m : List Int} (h : LeL l m) : LeL (inC s p ys l ys.length) (inC s p (ys ++ zs) m (ys ++ zs).length) := by
  rw [List.length_append]
  refine LeL.trans ?_ (inC_ge ys.length zs.length)
  rw [inC_app _ (Nat.le_refl _)]
  exact inC_mono h _
theorem outC_ext {s : Int} {xs ys zs : List Int} (a : Nat) : LeL (outC s xs ys a) (outC s xs (ys ++ zs) a) := by
  induction a with
  | zero => exact LeL.refl _
  | succ a ih => exact inC_ext ih
def drct (n : Nat) (xs ys : List Int) : Bool := (sumC n xs ys).all fun v => inB v 0 1
theorem drct_iff {n : Nat} {xs ys : List Int} : drct n xs ys = true ↔ ∀ i : Nat, i < (sumC n xs ys).length → 0 ≤ (sumC n xs ys)[i]?.getD 0 ∧ (sumC n xs ys)[i]?.getD 0 ≤ 1 := by
  unfold drct
  rw [List.all_eq_true]
  constructor
  · intro h i hi
    rw [List.getElem?_eq_getElem hi]
    exact inB_iff.1 (h _ (List.getElem_mem hi))
  · intro h x hx
    obtain ⟨i, hi, rfl⟩ := List.getElem_of_mem hx
    have := h i hi
    rw [List.getElem?_eq_getElem hi] at this
    exact inB_yes this
theorem drct_ext {n : Nat} {xs ys zs : List Int} (h : drct n xs (ys ++ zs) = true) : drct n xs ys = true := by
  rw [drct_iff] at h ⊢
  intro i hi
  have hle := outC_ext (s := (n : Int)) (xs := xs) (ys := ys) (zs := zs) xs.length
  have h1 := h i (by rw [sumC_len] at hi ⊢; exact hi)
  have h2 := outC_bd (n : Int) xs ys xs.length i _ (List.getElem?_eq_getElem hi)
  have h3 := hle.2 i
  change (sumC n xs ys)[i]?.getD 0 ≤ (sumC n xs (ys ++ zs))[i]?.getD 0 at h3
  rw [List.getElem?_eq_getElem hi] at h3 ⊢
  simp only [Option.getD_some] at h3 ⊢
  omega
theorem tiles_drct {n : Nat} {xs ys : List Int} (hx : rhOk n xs = true) (h : tilesB n xs ys = true) : drct n xs ys = true := by
  rw [tiles_btw hx, List.all_eq_true] at h
  unfold drct
  rw [List.all_eq_true]
  intro x hx
  have := inB_iff.1 (h x hx)
  exact inB_yes (by omega)
theorem le_sum1 {l : List Int} (h : ∀ x ∈ l, x ≤ 1) : l.sum ≤ l.length := by
  induction l with
  | nil => simp
  | cons x r ih =>
    have h1 := h x (by simp)
    have h2 := ih fun y hy => h y (by simp [hy])
    rw [List.sum_cons, List.length_cons]
    omega
theorem all_one {l : List Int} (h : ∀ x ∈ l, x ≤ 1) (hs : l.sum = l.length) : ∀ x ∈ l, x = 1 := by
  induction l with
  | nil => simp
  | cons x r ih =>
    have h1 := h x (by simp)
    have h2 := le_sum1 fun y hy => h y (List.mem_cons_of_mem x hy)
    rw [List.sum_cons, List.length_cons] at hs
    intro y hy
    rcases List.mem_cons.1 hy with e | e
    · omega
    · exact ih (fun z hz => h z (by simp [hz])) (by omega) y e
theorem drct_tiles {n : Nat} {xs ys : List Int} (hx : rhOk n xs = true) (hd : drct n xs ys = true) (hl : xs.length * ys.length = n) : tilesB n xs ys = true := by
  rw [tiles_btw hx, List.all_eq_true]
  unfold drct at hd
  rw [List.all_eq_true] at hd
  have hn := (rhOk_iff.1 hx).1
  have h1 := all_one (l := sumC n xs ys) (fun x hx => (inB_iff.1 (hd x hx)).2) (by rw [sumC_sum (by omega), sumC_len, hl, Int.toNat_natCast])
  intro x hx
  have := h1 x hx
  exact inB_yes (by omega)
theorem tiles_len {n : Nat} {xs ys : List Int} (h : tilesB n xs ys = true) : xs.length * ys.length = n := by
  unfold tilesB at h
  have h1 := (of_decide_eq_true h).1
  rw [← Int.natCast_mul] at h1
  omega
theorem bt_pre {n : Nat} : ∀ m hi, m ≤ n → 2 ^ m ∣ hi → ∀ j, j < 2 ^ m → ∃ zs, bt n (hi + j) = bt n hi ++ zs ∧ zs.length ≤ m ∧ (0 < j → 0 < zs.length) := by
  intro m
  induction m with
  | zero =>
    intro hi _ _ j hj
    have : j = 0 := by simpa using hj
    subst this
    exact ⟨[], by simp, by simp, fun h => by omega⟩
  | succ m ih =>
    intro hi hmn hdv j hj
    have hdv' : 2 ^ m ∣ hi := Nat.dvd_trans (Nat.pow_dvd_pow 2 (by omega)) hdv
    have hp : 2 ^ (m + 1) = 2 ^ m + 2 ^ m := by rw [Nat.pow_succ]; omega
    by_cases hjl : j < 2 ^ m
    · obtain ⟨zs, h1, h2, h3⟩ := ih hi (by omega) hdv' j hjl
      exact ⟨zs, h1, by omega, h3⟩
    · obtain ⟨zs, h1, h2, _⟩ := ih (hi + 2 ^ m) (by omega) ((Nat.dvd_add_right hdv').2 (Nat.dvd_refl _)) (j - 2 ^ m) (by omega)
      refine ⟨[((n - (m + 1) : Nat) : Int)] ++ zs, ?_, by simp; omega, fun _ => by simp⟩
      rw [show hi + j = hi + 2 ^ m + (j - 2 ^ m) by omega, h1, bt_next (by omega) hdv, List.append_assoc]
theorem cu_split (P : Nat → Bool) (a : Nat) : ∀ b, cu P (a + b) = cu P a + cu (fun j => P (a + j)) b := by
  intro b
  induction b with
  | zero => simp [cu]
  | succ b ih =>
    rw [← Nat.add_assoc]
    simp only [cu]
    rw [ih]
    omega
theorem cu_only {P : Nat → Bool} {M : Nat} (hM : 1 ≤ M) (h0 : P 0 = true) (h : ∀ j, 0 < j → j < M → P j = false) : cu P M = 1 := by
  rw [show M = 1 + (M - 1) by omega, cu_split, cu_none (P := fun j => P (1 + j)) fun i hi => h (1 + i) (by omega) (by omega)]
  simp [cu, h0]
def ptD (n : Nat) (xs : List Int) : Nat → Nat → Nat
  | 0, hi => if xs.length * (bt n hi).length = n then 1 else 0
  | m + 1, hi => if xs.length * (bt n hi).length = n then 1 else if (bt n hi).length + (m + 1) < n / xs.length then 0 else
      (if drct n xs (bt n (hi + 2 ^ m)) = true then ptD n xs m (hi + 2 ^ m) else 0) + (if m + 1 = n then 0 else ptD n xs m hi)
theorem ptD_cu {n : Nat} {xs : List Int} (hn1 : 1 ≤ n) (hk : 1 ≤ xs.length) (hx : rhOk n xs = true) : ∀ m hi, m ≤ n → 2 ^ m ∣ hi → hi + 2 ^ m ≤ 2 ^ n → drct n xs (bt n hi) = true → (m = n ∨ hi.testBit (n - 1) = true) →
    ptD n xs m hi = cu (fun j => ptP n xs (hi + j)) (2 ^ m) := by
  have hhas : ∀ c, hasR n (bt n c) 0 = c.testBit (n - 1) := fun c => by
    unfold hasR
    rw [Int.zero_emod]
    have := has_bt (n := n) (c := c) (k := 0) (by omega)
    simpa using this
  have full : ∀ m hi, m ≤ n → 2 ^ m ∣ hi → hi + 2 ^ m ≤ 2 ^ n → drct n xs (bt n hi) = true → (m = n ∨ hi.testBit (n - 1) = true) → xs.length * (bt n hi).length = n → cu (fun j => ptP n xs (hi + j)) (2 ^ m) = 1 := by
    intro m hi hmn hdv hb hd hor hl
    refine cu_only (Nat.two_pow_pos m) ?_ fun j hj hjm => ?_
    · show ptP n xs (hi + 0) = true
      rw [Nat.add_zero]
      unfold ptP
      rw [drct_tiles hx hd hl, Bool.and_true, hhas]
      rcases hor with e | e
      · subst e
        have h0 : hi = 0 := by omega
        rw [h0, bt_zero] at hl
        simp at hl
        omega
      · exact e
    · obtain ⟨zs, h1, _, h3⟩ := bt_pre m hi hmn hdv j hjm
      have hz := h3 hj
      show ptP n xs (hi + j) = false
      unfold ptP
      cases ht : tilesB n xs (bt n (hi + j)) with
      | false => exact Bool.and_false _
      | true =>
        have := tiles_len ht
        rw [h1, List.length_append, Nat.mul_add, hl] at this
        have : 1 ≤ xs.length * zs.length := Nat.mul_pos hk hz
        omega
  intro m
  induction m with
  | zero =>
    intro hi hmn hdv hb hd hor
    simp only [ptD]
    by_cases hl : xs.length * (bt n hi).length = n
    · rw [if_pos hl]
      exact (full 0 hi hmn hdv hb hd hor hl).symm
    · rw [if_neg hl]
      refine (cu_none fun i hi' => ?_).symm
      have hi0 : i = 0 := by simpa using hi'
      subst hi0
      show ptP n xs (hi + 0) = false
      rw [Nat.add_zero]
      unfold ptP
      cases ht : tilesB n xs (bt n hi) with
      | false => exact Bool.and_false _
      | true => exact absurd (tiles_len ht) hl
  | succ m ih =>
    intro hi hmn hdv hb hd hor
    have hdv' : 2 ^ m ∣ hi := Nat.dvd_trans (Nat.pow_dvd_pow 2 (by omega)) hdv
    have hp : 2 ^ (m + 1) = 2 ^ m + 2 ^ m := by rw [Nat.pow_succ]; omega
    simp only [ptD]
    by_cases hl : xs.length * (bt n hi).length = n
    · rw [if_pos hl]
      exact (full (m + 1) hi hmn hdv hb hd hor hl).symm
    · rw [if_neg hl]
      by_cases hpr : (bt n hi).length + (m + 1) < n / xs.length
      · rw [if_pos hpr]
        refine (cu_none fun j hj => ?_).symm
        obtain ⟨zs, h1, h2, _⟩ := bt_pre (m + 1) hi hmn hdv j hj
        show ptP n xs (hi + j) = false
        unfold ptP
        cases ht : tilesB n xs (bt n (hi + j)) with
        | false => exact Bool.and_false _
        | true =>
          have h4 := tiles_len ht
          have h5 : (bt n (hi + j)).length < n / xs.length := by rw [h1, List.length_append]; omega
          have h6 := Nat.mul_lt_mul_of_pos_left h5 (show 0 < xs.length by omega)
          have h7 := Nat.mul_div_le n xs.length
          omega
      · rw [if_neg hpr, hp, cu_split, Nat.add_comm]
        congr 1
        · by_cases hmn1 : m + 1 = n
          · rw [if_pos hmn1]
            have h0 : hi = 0 := by rw [hmn1] at hb; omega
            refine (cu_none fun j hj => ?_).symm
            show ptP n xs (hi + j) = false
            unfold ptP
            rw [hhas, h0, Nat.zero_add, Nat.testBit_lt_two_pow (by rw [show n - 1 = m by omega]; exact hj)]
            rfl
          · rw [if_neg hmn1]
            exact ih hi (by omega) hdv' (by omega) hd (.inr (hor.resolve_left hmn1))
        · have hfun : (fun j => ptP n xs (hi + (2 ^ m + j))) = fun j => ptP n xs (hi + 2 ^ m + j) := by
            funext j; rw [Nat.add_assoc]
          rw [hfun]
          by_cases hdr : drct n xs (bt n (hi + 2 ^ m)) = true
          · rw [if_pos hdr]
            refine ih (hi + 2 ^ m) (by omega) ((Nat.dvd_add_right hdv').2 (Nat.dvd_refl _)) (by omega) hdr (.inr ?_)
            rw [tb_add hdv]
            rcases hor with e | e
            · simp; right; omega
            · rw [e]; rfl
          · rw [if_neg hdr]
            refine (cu_none fun j hj => ?_).symm
            obtain ⟨zs, h1, _, _⟩ := bt_pre (n := n) m (hi + 2 ^ m) (by omega) ((Nat.dvd_add_right hdv').2 (Nat.dvd_refl _)) j hj
            show ptP n xs (hi + 2 ^ m + j) = false
            unfold ptP
            cases ht : tilesB n xs (bt n (hi + 2 ^ m + j)) with
            | false => exact Bool.and_false _
            | true =>
              have := tiles_drct hx ht
              rw [h1] at this
              exact absurd (drct_ext this) hdr

/- The partners of a rhythm as lists: by codes from above, and by a search. -/
/-- the codes below m with P, from above -/
def dn (P : Nat → Bool) : Nat → List Nat
  | 0 => []
  | m + 1 => if P m = true then m :: dn P m else dn P m
theorem dn_hit {P : Nat → Bool} {m : Nat} (h : P m = true) : dn P (m + 1) = m :: dn P m := by simp [dn, h]
theorem dn_miss {P : Nat → Bool} {m : Nat} (h : P m = false) : dn P (m + 1) = dn P m := by simp [dn, h]
theorem dn_none {P : Nat → Bool} {m : Nat} (h : ∀ i, i < m → P i = false) : dn P m = [] := by
  induction m with
  | zero => rfl
  | succ m ih => rw [dn_miss (h m (by omega)), ih fun i hi => h i (by omega)]
theorem dn_split (P : Nat → Bool) (a : Nat) : ∀ b, dn P (a + b) = (dn (fun j => P (a + j)) b).map (a + ·) ++ dn P a := by
  intro b
  induction b with
  | zero => simp [dn]
  | succ b ih =>
    rw [← Nat.add_assoc]
    simp only [dn]
    split <;> simp [ih]
theorem dn_len (P : Nat → Bool) : ∀ m, (dn P m).length = cu P m := by
  intro m
  induction m with
  | zero => rfl
  | succ m ih => simp only [dn, cu]; split <;> simp_all <;> omega
theorem dn_mem {P : Nat → Bool} {m c : Nat} : c ∈ dn P m ↔ c < m ∧ P c = true := by
  induction m with
  | zero => simp [dn]
  | succ m ih =>
    simp only [dn]
    split
    · rename_i h
      rw [List.mem_cons, ih]
      constructor
      · rintro (rfl | ⟨h1, h2⟩)
        · exact ⟨by omega, h⟩
        · exact ⟨by omega, h2⟩
      · rintro ⟨h1, h2⟩
        by_cases e : c = m
        · exact .inl e
        · exact .inr ⟨by omega, h2⟩
    · rename_i h
      rw [ih]
      constructor
      · rintro ⟨h1, h2⟩; exact ⟨by omega, h2⟩
      · rintro ⟨h1, h2⟩
        refine ⟨?_, h2⟩
        rcases Nat.lt_or_ge c m with h3 | h3
        · exact h3
        · have : c = m := by omega
          subst this; exact absurd h2 h
theorem dn_only {P : Nat → Bool} {M : Nat} (hM : 1 ≤ M) (h0 : P 0 = true) (h : ∀ j, 0 < j → j < M → P j = false) : dn P M = [0] := by
  rw [show M = 1 + (M - 1) by omega, dn_split, dn_none (P := fun j => P (1 + j)) fun i hi => h (1 + i) (by omega) (by omega)]
  simp [dn, h0]
/-- the partners of a rhythm among the codes below m, from above -/
def ptL (n : Nat) (xs : List Int) (m : Nat) : List (List Int) := (dn (ptP n xs) m).map (bt n)
theorem ptL_hit {n m : Nat} {xs : List Int} (h : ptP n xs m = true) : ptL n xs (m + 1) = bt n m :: ptL n xs m := by simp [ptL, dn_hit h]
theorem ptL_miss {n m : Nat} {xs : List Int} (h : ptP n xs m = false) : ptL n xs (m + 1) = ptL n xs m := by simp [ptL, dn_miss h]
theorem ptL_zero (n : Nat) (xs : List Int) : ptL n xs 0 = [] := rfl
theorem ptL_len (n : Nat) (xs : List Int) (m : Nat) : (ptL n xs m).length = cu (ptP n xs) m := by simp [ptL, dn_len]
/-- what the search finds, in its order -/
def ptS (n : Nat) (xs : List Int) : Nat → Nat → List (List Int)
  | 0, hi => if xs.length * (bt n hi).length = n then [bt n hi] else []
  | m + 1, hi => if xs.length * (bt n hi).length = n then [bt n hi] else if (bt n hi).length + (m + 1) < n / xs.length then [] else
      (if drct n xs (bt n (hi + 2 ^ m)) = true then ptS n xs m (hi + 2 ^ m) else []) ++ (if m + 1 = n then [] else ptS n xs m hi)
theorem ptS_len (n : Nat) (xs : List Int) : ∀ m hi, (ptS n xs m hi).length = ptD n xs m hi := by
  intro m
  induction m with
  | zero => intro hi; simp only [ptS, ptD]; split <;> rfl
  | succ m ih =>
    intro hi
    simp only [ptS, ptD]
    split
    · rfl
    · split
      · rfl
      · rw [List.length_append]
        congr 1
        · split
          · exact ih _
          · rfl
        · split
          · rfl
          · exact ih _
theorem hasR_bt {n c : Nat} (hn1 : 1 ≤ n) : hasR n (bt n c) 0 = c.testBit (n - 1) := by
  unfold hasR
  rw [Int.zero_emod]
  have := has_bt (n := n) (c := c) (k := 0) (by omega)
  simpa using this
theorem ptS_dn {n : Nat} {xs : List Int} (hn1 : 1 ≤ n) (hk : 1 ≤ xs.length) (hx : rhOk n xs = true) : ∀ m hi, m ≤ n → 2 ^ m ∣ hi → hi + 2 ^ m ≤ 2 ^ n → drct n xs (bt n hi) = true → (m = n ∨ hi.testBit (n - 1) = true) →
    ptS n xs m hi = (dn (fun j => ptP n xs (hi + j)) (2 ^ m)).map fun j => bt n (hi + j) := by
  have full : ∀ m hi, m ≤ n → 2 ^ m ∣ hi → hi + 2 ^ m ≤ 2 ^ n → drct n xs (bt n hi) = true → (m = n ∨ hi.testBit (n - 1) = true) → xs.length * (bt n hi).length = n → dn (fun j => ptP n xs (hi + j)) (2 ^ m) = [0] := by
    intro m hi hmn hdv hb hd hor hl
    refine dn_only (Nat.two_pow_pos m) ?_ fun j hj hjm => ?_
    · show ptP n xs (hi + 0) = true
      rw [Nat.add_zero]
      unfold ptP
      rw [drct_tiles hx hd hl, Bool.and_true, hasR_bt hn1]
      rcases hor with e | e
      · subst e
        have h0 : hi = 0 := by omega
        rw [h0, bt_zero] at hl
        simp at hl
        omega
      · exact e
    · obtain ⟨zs, h1, _, h3⟩ := bt_pre m hi hmn hdv j hjm
      have hz := h3 hj
      show ptP n xs (hi + j) = false
      unfold ptP
      cases ht : tilesB n xs (bt n (hi + j)) with
      | false => exact Bool.and_false _
      | true =>
        have := tiles_len ht
        rw [h1, List.length_append, Nat.mul_add, hl] at this
        have : 1 ≤ xs.length * zs.length := Nat.mul_pos hk hz
        omega
  intro m
  induction m with
  | zero =>
    intro hi hmn hdv hb hd hor
    simp only [ptS]
    by_cases hl : xs.length * (bt n hi).length = n
    · rw [if_pos hl, full 0 hi hmn hdv hb hd hor hl]
      simp
    · rw [if_neg hl, dn_none fun i hi' => ?_]
      · rfl
      have hi0 : i = 0 := by simpa using hi'
      subst hi0
      show ptP n xs (hi + 0) = false
      rw [Nat.add_zero]
      unfold ptP
      cases ht : tilesB n xs (bt n hi) with
      | false => exact Bool.and_false _
      | true => exact absurd (tiles_len ht) hl
  | succ m ih =>
    intro hi hmn hdv hb hd hor
    have hdv' : 2 ^ m ∣ hi := Nat.dvd_trans (Nat.pow_dvd_pow 2 (by omega)) hdv
    have hp : 2 ^ (m + 1) = 2 ^ m + 2 ^ m := by rw [Nat.pow_succ]; omega
    simp only [ptS]
    by_cases hl : xs.length * (bt n hi).length = n
    · rw [if_pos hl, full (m + 1) hi hmn hdv hb hd hor hl]
      simp
    · rw [if_neg hl]
      by_cases hpr : (bt n hi).length + (m + 1) < n / xs.length
      · rw [if_pos hpr, dn_none fun j hj => ?_]
        · rfl
        obtain ⟨zs, h1, h2, _⟩ := bt_pre (m + 1) hi hmn hdv j hj
        show ptP n xs (hi + j) = false
        unfold ptP
        cases ht : tilesB n xs (bt n (hi + j)) with
        | false => exact Bool.and_false _
        | true =>
          have h4 := tiles_len ht
          have h5 : (bt n (hi + j)).length < n / xs.length := by rw [h1, List.length_append]; omega
          have h6 := Nat.mul_lt_mul_of_pos_left h5 (show 0 < xs.length by omega)
          have h7 := Nat.mul_div_le n xs.length
          omega
      · rw [if_neg hpr, hp, dn_split, List.map_append]
        congr 1
        · have hfun : (fun j => ptP n xs (hi + (2 ^ m + j))) = fun j => ptP n xs (hi + 2 ^ m + j) := by
            funext j; rw [Nat.add_assoc]
          rw [hfun, List.map_map]
          by_cases hdr : drct n xs (bt n (hi + 2 ^ m)) = true
          · rw [if_pos hdr, ih (hi + 2 ^ m) (by omega) ((Nat.dvd_add_right hdv').2 (Nat.dvd_refl _)) (by omega) hdr (.inr ?_)]
            · refine List.map_congr_left fun j _ => ?_
              show bt n (hi + 2 ^ m + j) = bt n (hi + (2 ^ m + j))
              rw [Nat.add_assoc]
            · rw [tb_add hdv]
              rcases hor with e | e
              · simp; right; omega
              · rw [e]; rfl
          · rw [if_neg hdr, dn_none fun j hj => ?_]
            · rfl
            obtain ⟨zs, h1, _, _⟩ := bt_pre (n := n) m (hi + 2 ^ m) (by omega) ((Nat.dvd_add_right hdv').2 (Nat.dvd_refl _)) j hj
            show ptP n xs (hi + 2 ^ m + j) = false
            unfold ptP
            cases ht : tilesB n xs (bt n (hi + 2 ^ m + j)) with
            | false => exact Bool.and_false _
            | true =>
              have := tiles_drct hx ht
              rw [h1] at this
              exact absurd (drct_ext this) hdr
        · by_cases hmn1 : m + 1 = n
          · rw [if_pos hmn1]
            have h0 : hi = 0 := by rw [hmn1] at hb; omega
            rw [dn_none fun j hj => ?_]
            · rfl
            show ptP n xs (hi + j) = false
            unfold ptP
            rw [hasR_bt hn1, h0, Nat.zero_add, Nat.testBit_lt_two_pow (by rw [show n - 1 = m by omega]; exact hj)]
            rfl
          · rw [if_neg hmn1]
            exact ih hi (by omega) hdv' (by omega) hd (.inr (hor.resolve_left hmn1))
theorem bt_nil0 (n : Nat) : bt n 0 = [] := bt_zero n
theorem ptS_ptL {n : Nat} {xs : List Int} (hn1 : 1 ≤ n) (hk : 1 ≤ xs.length) (hx : rhOk n xs = true) (hd : drct n xs [] = true) : ptS n xs n 0 = ptL n xs (2 ^ n) := by
  rw [ptS_dn hn1 hk hx n 0 (Nat.le_refl _) (Nat.dvd_zero _) (by omega) (by rw [bt_nil0]; exact hd) (.inl rfl)]
  unfold ptL
  simp only [Nat.zero_add]
end Go.Proofs.YtikifkbgmniobaaGreat
