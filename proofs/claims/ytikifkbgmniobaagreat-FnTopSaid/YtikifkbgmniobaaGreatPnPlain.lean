/- The program's search for a partner by codes: plain laws. -/
import Derived.Test.YtikifkbgmniobaaGreatPtz
import Derived.Test.YtikifkbgmniobaaGreatRts
import Derived.Test.YtikifkbgmniobaaGreatCmnPlain
namespace Go.Proofs.YtikifkbgmniobaaGreat
open Go.RowKit
set_option maxRecDepth 20000

/-- the code of the rotation by k -/
def cod (n : Nat) (xs : List Int) (k : Int) : Nat := codeN n (rotL n xs k)
theorem rotL_mem {s k x : Int} {xs : List Int} : x ∈ rotL s xs k ↔ ∃ p ∈ xs, x = (p + k) % s := by
  unfold rotL
  rw [coll_mem]
  unfold modL addL
  simp only [List.mem_map]
  constructor
  · rintro ⟨_, ⟨p, hp, rfl⟩, rfl⟩; exact ⟨p, hp, rfl⟩
  · rintro ⟨p, hp, rfl⟩; exact ⟨_, ⟨p, hp, rfl⟩, rfl⟩
theorem rotL_bd {n : Nat} (hn : 1 ≤ n) {xs : List Int} {k : Int} : ∀ y ∈ rotL n xs k, 0 ≤ y ∧ y < n := by
  intro y hy
  obtain ⟨p, _, rfl⟩ := rotL_mem.1 hy
  exact ⟨Int.emod_nonneg _ (by omega), Int.emod_lt_of_pos _ (by omega)⟩
theorem cod_bit {n : Nat} (hn : 1 ≤ n) {xs : List Int} {k : Int} {i : Nat} (hi : i < n) : (cod n xs k).testBit (n - 1 - i) = hit n xs i k := by
  unfold cod
  have := codeN_at (n := n) (ys := rotL n xs k) (rotL_bd hn) (x := (i : Int)) (by omega) (by omega)
  rw [Int.toNat_natCast] at this
  rw [this, Bool.eq_iff_iff, memB_iff, rotL_mem]
  unfold hit
  rw [List.any_eq_true]
  constructor
  · rintro ⟨p, hp, e⟩; exact ⟨p, hp, by rw [beq_iff_eq]; exact e.symm⟩
  · rintro ⟨p, hp, e⟩; exact ⟨p, hp, (by rw [beq_iff_eq] at e; exact e.symm)⟩
theorem codeN_lt2 {n : Nat} (hn : 1 ≤ n) (ys : List Int) : codeN n ys < 2 ^ n := by
  refine Nat.lt_pow_two_of_testBit _ fun j hj => ?_
  rw [codeN_bit, Bool.eq_false_iff]
  intro h
  obtain ⟨x, _, hx⟩ := List.any_eq_true.1 h
  have : n - 1 - x.toNat = j := by simpa using hx
  omega
theorem cod_lt {n : Nat} (hn : 1 ≤ n) (xs : List Int) (k : Int) : cod n xs k < 2 ^ n := codeN_lt2 hn _
/-- what the rotations by S take -/
def tk (n : Nat) (xs S : List Int) : Nat := S.foldl (fun a k => a ||| cod n xs k) 0
theorem tk_snoc (n : Nat) (xs S : List Int) (k : Int) : tk n xs (S ++ [k]) = tk n xs S ||| cod n xs k := by simp [tk, List.foldl_append]
theorem tkf_bit (n : Nat) (xs : List Int) (j : Nat) : ∀ (S : List Int) (a : Nat), (S.foldl (fun a k => a ||| cod n xs k) a).testBit j = (a.testBit j || S.any fun k => (cod n xs k).testBit j) := by
  intro S
  induction S with
  | nil => intro a; simp
  | cons x r ih => intro a; rw [List.foldl_cons, ih, Nat.testBit_or, List.any_cons, Bool.or_assoc]
theorem tk_bit {n : Nat} (hn : 1 ≤ n) {xs S : List Int} {i : Nat} (hi : i < n) : (tk n xs S).testBit (n - 1 - i) = S.any fun k => hit n xs i k := by
  unfold tk
  rw [tkf_bit]
  simp only [Nat.zero_testBit, Bool.false_or]
  congr 1
  funext k
  exact cod_bit hn hi
theorem tkf_lt {n : Nat} (hn : 1 ≤ n) (xs : List Int) : ∀ (S : List Int) (a : Nat), a < 2 ^ n → S.foldl (fun a k => a ||| cod n xs k) a < 2 ^ n := by
  intro S
  induction S with
  | nil => intro a h; exact h
  | cons x r ih => intro a h; rw [List.foldl_cons]; exact ih _ (Nat.or_lt_two_pow h (cod_lt hn xs x))
theorem tk_lt {n : Nat} (hn : 1 ≤ n) (xs S : List Int) : tk n xs S < 2 ^ n := tkf_lt hn xs S 0 (Nat.two_pow_pos n)
theorem bits_eq {n a b : Nat} (ha : a < 2 ^ n) (hb : b < 2 ^ n) (h : ∀ i, i < n → a.testBit (n - 1 - i) = b.testBit (n - 1 - i)) : a = b := by
  refine Nat.eq_of_testBit_eq fun j => ?_
  by_cases hj : j < n
  · have := h (n - 1 - j) (by omega)
    rw [show n - 1 - (n - 1 - j) = j by omega] at this
    exact this
  · rw [Nat.testBit_lt_two_pow (Nat.lt_of_lt_of_le ha (Nat.pow_le_pow_right (by omega) (by omega))), Nat.testBit_lt_two_pow (Nat.lt_of_lt_of_le hb (Nat.pow_le_pow_right (by omega) (by omega)))]
theorem full_bit {n j : Nat} (hj : j < n) : (2 ^ n - 1).testBit j = true := by rw [Nat.testBit_two_pow_sub_one]; simpa using hj
theorem full_iff {n a : Nat} (ha : a < 2 ^ n) : a = 2 ^ n - 1 ↔ ∀ i, i < n → a.testBit (n - 1 - i) = true := by
  constructor
  · intro h i hi; rw [h]; exact full_bit (by omega)
  · intro h
    refine bits_eq ha (by have := Nat.two_pow_pos n; omega) fun i hi => ?_
    rw [h i hi, full_bit (by omega)]
theorem cnt_at {n : Nat} {xs S : List Int} (hx : rhOk n xs = true) {i : Nat} (hi : i < n) : (sumC n xs S)[i]?.getD 0 = (((S.filter fun q => hit n xs i q).length : Nat) : Int) := by
  have h := rhOk_iff.1 hx
  rw [sumC_at h.1.1 (by rw [Int.toNat_natCast]; exact hi), prI_hit (fun x hx => by have := h.2.1 x hx; omega) h.2.2]
theorem drct_cnt {n : Nat} {xs S : List Int} (hx : rhOk n xs = true) : drct n xs S = true ↔ ∀ i, i < n → (S.filter fun q => hit n xs i q).length ≤ 1 := by
  rw [drct_iff]
  rw [sumC_len, Int.toNat_natCast]
  constructor
  · intro h i hi
    have := h i hi
    rw [cnt_at hx hi] at this
    omega
  · intro h i hi
    have := h i hi
    rw [cnt_at hx hi]
    omega
theorem any_len {S : List Int} {f : Int → Bool} : S.any f = true ↔ 1 ≤ (S.filter f).length := by
  rw [List.any_eq_true]
  constructor
  · rintro ⟨x, hx, hf⟩
    exact List.length_pos_iff.2 (List.ne_nil_of_mem (List.mem_filter.2 ⟨hx, hf⟩))
  · intro h
    obtain ⟨x, hx⟩ := List.exists_mem_of_ne_nil _ (List.length_pos_iff.1 h)
    obtain ⟨h1, h2⟩ := List.mem_filter.1 hx
    exact ⟨x, h1, h2⟩
theorem and_zero {n a b : Nat} (ha : a < 2 ^ n) : a &&& b = 0 ↔ ∀ i, i < n → ¬ (a.testBit (n - 1 - i) = true ∧ b.testBit (n - 1 - i) = true) := by
  constructor
  · intro h i hi ⟨h1, h2⟩
    have := congrArg (fun x => x.testBit (n - 1 - i)) h
    simp only [Nat.testBit_and, h1, h2, Nat.zero_testBit] at this
    cases this
  · intro h
    have hp := Nat.two_pow_pos n
    refine bits_eq (n := n) (Nat.lt_of_le_of_lt Nat.and_le_left ha) hp fun i hi => ?_
    rw [Nat.testBit_and, Nat.zero_testBit, Bool.eq_false_iff]
    intro hh
    exact h i hi (by simpa using hh)
/-- (b) one more pulse -/
theorem drct_snoc {n : Nat} {xs S : List Int} {k : Int} (hn : 1 ≤ n) (hx : rhOk n xs = true) (hd : drct n xs S = true) : drct n xs (S ++ [k]) = true ↔ cod n xs k &&& tk n xs S = 0 := by
  rw [and_zero (cod_lt hn xs k), drct_cnt hx]
  have hc := (drct_cnt hx).1 hd
  have e : ∀ i, ((S ++ [k]).filter fun q => hit n xs i q).length = (S.filter fun q => hit n xs i q).length + (if hit n xs i k = true then 1 else 0) := fun i => by
    rw [List.filter_append, List.length_append]
    congr 1
    by_cases h : hit n xs i k = true
    · rw [if_pos h, List.filter_cons_of_pos (by exact h)]; rfl
    · rw [if_neg h, List.filter_cons_of_neg (by exact h)]; rfl
  constructor
  · intro h i hi ⟨h1, h2⟩
    have h3 := h i hi
    rw [e, if_pos (by rw [← cod_bit hn hi]; exact h1)] at h3
    rw [tk_bit hn hi] at h2
    have := any_len.1 h2
    omega
  · intro h i hi
    have h1 := hc i hi
    rw [e]
    by_cases hk : hit n xs i k = true
    · rw [if_pos hk]
      have := h i hi
      rw [cod_bit hn hi, tk_bit hn hi] at this
      have h2 : ¬ 1 ≤ (S.filter fun q => hit n xs i q).length := fun hh => this ⟨hk, any_len.2 hh⟩
      omega
    · rw [if_neg hk]; omega
/-- (c) all is taken: a tiling -/
theorem tiles_full {n : Nat} {xs S : List Int} (hn : 1 ≤ n) (hx : rhOk n xs = true) (hd : drct n xs S = true) : tilesB n xs S = true ↔ tk n xs S = 2 ^ n - 1 := by
  have hc := (drct_cnt hx).1 hd
  rw [tiles_btw hx, full_iff (tk_lt hn xs S), List.all_eq_true]
  constructor
  · intro h i hi
    rw [tk_bit hn hi, any_len]
    have h1 := cnt_at (S := S) hx hi
    have hl : i < (sumC n xs S).length := by rw [sumC_len, Int.toNat_natCast]; exact hi
    have := inB_iff.1 (h _ (List.getElem_mem hl))
    rw [List.getElem?_eq_getElem hl] at h1
    simp only [Option.getD_some] at h1
    omega
  · intro h v hv
    obtain ⟨i, hl, rfl⟩ := List.getElem_of_mem hv
    have hi : i < n := by rw [sumC_len, Int.toNat_natCast] at hl; exact hl
    have h1 := cnt_at (S := S) hx hi
    rw [List.getElem?_eq_getElem hl] at h1
    simp only [Option.getD_some] at h1
    have h2 := h i hi
    rw [tk_bit hn hi, any_len] at h2
    have h3 := hc i hi
    exact inB_yes (by omega)
/-- what can still be taken from pulse n - r on -/
def poss (n : Nat) (xs : List Int) (T : Nat) : Nat → Nat → Nat
  | 0, P => P
  | r + 1, P => poss n xs T r (if cod n xs ((n - (r + 1) : Nat) : Int) &&& T = 0 then P ||| cod n xs ((n - (r + 1) : Nat) : Int) else P)
theorem poss_lt {n : Nat} (hn : 1 ≤ n) (xs : List Int) (T : Nat) : ∀ r P, P < 2 ^ n → poss n xs T r P < 2 ^ n := by
  intro r
  induction r with
  | zero => intro P h; exact h
  | succ r ih =>
    intro P h
    simp only [poss]
    refine ih _ ?_
    split
    · exact Nat.or_lt_two_pow h (cod_lt hn xs _)
    · exact h
theorem poss_keep {n : Nat} {xs : List Int} {T j : Nat} : ∀ r P, P.testBit j = true → (poss n xs T r P).testBit j = true := by
  intro r
  induction r with
  | zero => intro P h; exact h
  | succ r ih =>
    intro P h
    simp only [poss]
    refine ih _ ?_
    split
    · rw [Nat.testBit_or, h]; rfl
    · exact h
theorem poss_has {n : Nat} {xs : List Int} {T j : Nat} {k : Nat} : ∀ r P, r ≤ n → n - r ≤ k → k < n → cod n xs (k : Int) &&& T = 0 → (cod n xs (k : Int)).testBit j = true → (poss n xs T r P).testBit j = true := by
  intro r
  induction r with
  | zero => intro P h h1 h2; omega
  | succ r ih =>
    intro P hr h1 h2 h3 h4
    simp only [poss]
    by_cases e : k = n - (r + 1)
    · subst e
      rw [if_pos h3]
      exact poss_keep _ _ (by rw [Nat.testBit_or, h4]; simp)
    · exact ih _ (by omega) (by omega) h2 h3 h4
/-- (d) what does not suffice is no tiling -/
theorem poss_full {n : Nat} {xs : List Int} (hn : 1 ≤ n) (hx : rhOk n xs = true) {r hi j : Nat} (hr : r ≤ n) (hdv : 2 ^ r ∣ hi) (hj : j < 2 ^ r) (ht : tilesB n xs (bt n (hi + j)) = true) : poss n xs (tk n xs (bt n hi)) r (tk n xs (bt n hi)) = 2 ^ n - 1 := by
  rw [full_iff (poss_lt hn xs _ _ _ (tk_lt hn xs _))]
  intro i hi'
  have hd := tiles_drct hx ht
  have hc := (drct_cnt hx).1 hd i hi'
  have hf := (tiles_full hn hx hd).1 ht
  have hb : (tk n xs (bt n (hi + j))).testBit (n - 1 - i) = true := by rw [hf]; exact full_bit (by omega)
  rw [tk_bit hn hi', List.any_eq_true] at hb
  obtain ⟨q, hq, hh⟩ := hb
  obtain ⟨k, hk, e, hbit⟩ := selTo_mem.1 hq
  subst e
  obtain ⟨zs, hzs, _⟩ := bt_pre r hi hr hdv j hj
  have hbk : (hi + j).testBit (n - 1 - k) = true := by simpa [btP] using hbit
  by_cases hin : (k : Int) ∈ bt n hi
  · refine poss_keep _ _ ?_
    rw [tk_bit hn hi', List.any_eq_true]
    exact ⟨k, hin, hh⟩
  · -- the pulse is among the new ones
    have hkz : (k : Int) ∈ zs := by
      have := hq
      change (k : Int) ∈ bt n (hi + j) at this
      rw [hzs, List.mem_append] at this
      exact this.resolve_left hin
    have hge : n - r ≤ k := by
      rcases Nat.lt_or_ge k (n - r) with hlt | h
      · exfalso
        apply hin
        refine selTo_mem.2 ⟨k, hk, rfl, ?_⟩
        show hi.testBit (n - 1 - (k : Int).toNat) = true
        rw [Int.toNat_natCast]
        obtain ⟨c, rfl⟩ := hdv
        have e1 : (2 ^ r * c + j).testBit (n - 1 - k) = c.testBit (n - 1 - k - r) := by
          rw [Nat.testBit_two_pow_mul_add _ hj, if_neg (by omega)]
        have e2 : (2 ^ r * c).testBit (n - 1 - k) = c.testBit (n - 1 - k - r) := by
          have := Nat.testBit_two_pow_mul_add c (Nat.two_pow_pos r) (n - 1 - k)
          rw [Nat.add_zero, if_neg (by omega)] at this
          exact this
        rw [e2, ← e1]; exact hbk
      · exact h
    refine poss_has r _ hr hge hk ?_ (by rw [cod_bit hn hi']; exact hh)
    rw [and_zero (cod_lt hn xs _)]
    intro i2 hi2 ⟨h1, h2⟩
    rw [cod_bit hn hi2] at h1
    rw [tk_bit hn hi2, any_len] at h2
    have h3 := (drct_cnt hx).1 hd i2 hi2
    rw [hzs, List.filter_append, List.length_append] at h3
    have h4 : 1 ≤ (zs.filter fun q => hit n xs i2 q).length := any_len.1 (List.any_eq_true.2 ⟨k, hkz, h1⟩)
    omega
/-- the loop over the next pulses of the program's search -/
def pnL (n : Nat) (xs : List Int) : Nat → List Int → Nat → Option (List Int)
  | 0, _, _ => none
  | r + 1, S, T =>
    if cod n xs ((n - (r + 1) : Nat) : Int) &&& T = 0 then
      (if T ||| cod n xs ((n - (r + 1) : Nat) : Int) = 2 ^ n - 1 then some (S ++ [((n - (r + 1) : Nat) : Int)])
       else if poss n xs (T ||| cod n xs ((n - (r + 1) : Nat) : Int)) r (T ||| cod n xs ((n - (r + 1) : Nat) : Int)) = 2 ^ n - 1 then pnL n xs r (S ++ [((n - (r + 1) : Nat) : Int)]) (T ||| cod n xs ((n - (r + 1) : Nat) : Int))
       else none).or (pnL n xs r S T)
    else pnL n xs r S T
/-- the search itself -/
def pnP (n : Nat) (xs : List Int) (r : Nat) (S : List Int) (T : Nat) : Option (List Int) := if T = 2 ^ n - 1 then some S else if poss n xs T r T = 2 ^ n - 1 then pnL n xs r S T else none
theorem pnL_succ (n : Nat) (xs : List Int) (r : Nat) (S : List Int) (T : Nat) : pnL n xs (r + 1) S T =
    if cod n xs ((n - (r + 1) : Nat) : Int) &&& T = 0 then (pnP n xs r (S ++ [((n - (r + 1) : Nat) : Int)]) (T ||| cod n xs ((n - (r + 1) : Nat) : Int))).or (pnL n xs r S T) else pnL n xs r S T := by
  simp only [pnL, pnP]
/-- the codes of the tilings from hi on -/
def mt (n : Nat) (xs : List Int) (r hi : Nat) : List (List Int) := (dn (fun j => ptP n xs (hi + j)) (2 ^ r)).map fun j => bt n (hi + j)
theorem mt_none {n : Nat} {xs : List Int} {r hi : Nat} (h : ∀ j, j < 2 ^ r → tilesB n xs (bt n (hi + j)) = false) : mt n xs r hi = [] := by
  unfold mt
  rw [dn_none fun j hj => ?_]
  · rfl
  · show ptP n xs (hi + j) = false
    unfold ptP
    rw [h j hj, Bool.and_false]
theorem mt_one {n : Nat} {xs : List Int} (hn : 1 ≤ n) (hk : 1 ≤ xs.length) {r hi : Nat} (hr : r ≤ n) (hdv : 2 ^ r ∣ hi) (ht : tilesB n xs (bt n hi) = true) (htop : hi.testBit (n - 1) = true) : mt n xs r hi = [bt n hi] := by
  unfold mt
  rw [dn_only (Nat.two_pow_pos r) ?_ fun j hj hjm => ?_]
  · simp
  · show ptP n xs (hi + 0) = true
    unfold ptP
    rw [Nat.add_zero, ht, hasR_bt hn, htop]; rfl
  · obtain ⟨zs, h1, _, h3⟩ := bt_pre r hi hr hdv j hjm
    have hz := h3 hj
    show ptP n xs (hi + j) = false
    unfold ptP
    cases ht2 : tilesB n xs (bt n (hi + j)) with
    | false => exact Bool.and_false _
    | true =>
      have h4 := tiles_len ht2
      have h5 := tiles_len ht
      rw [h1, List.length_append, Nat.mul_add, h5] at h4
      have : 1 ≤ xs.length * zs.length := Nat.mul_pos hk hz
      omega
theorem mt_succ (n : Nat) (xs : List Int) (r hi : Nat) : mt n xs (r + 1) hi = mt n xs r (hi + 2 ^ r) ++ mt n xs r hi := by
  unfold mt
  rw [show 2 ^ (r + 1) = 2 ^ r + 2 ^ r by rw [Nat.pow_succ]; omega, dn_split, List.map_append, List.map_map]
  have hfun : (fun j => ptP n xs (hi + (2 ^ r + j))) = fun j => ptP n xs (hi + 2 ^ r + j) := by
    funext j; rw [Nat.add_assoc]
  rw [hfun]
  congr 1
  refine List.map_congr_left fun j _ => ?_
  show bt n (hi + (2 ^ r + j)) = bt n (hi + 2 ^ r + j)
  rw [Nat.add_assoc]
theorem head_app {α : Type} (a b : List α) : (a ++ b).head? = a.head?.or b.head? := by cases a <;> rfl
theorem not_true {b : Bool} (h : ¬ b = true) : b = false := by cases b <;> simp_all
theorem pnL_mt {n : Nat} {xs : List Int} (hn : 1 ≤ n) (hk : 1 ≤ xs.length) (hx : rhOk n xs = true) : ∀ r hi, r ≤ n → 2 ^ r ∣ hi → hi.testBit (n - 1) = true → drct n xs (bt n hi) = true → tilesB n xs (bt n hi) = false →
    pnL n xs r (bt n hi) (tk n xs (bt n hi)) = (mt n xs r hi).head? := by
  intro r
  induction r with
  | zero =>
    intro hi _ _ _ _ ht
    rw [mt_none fun j hj => by
      have : j = 0 := by simpa using hj
      subst this
      exact ht]
    rfl
  | succ r ih =>
    intro hi hr hdv htop hd ht
    have hdv' : 2 ^ r ∣ hi := Nat.dvd_trans (Nat.pow_dvd_pow 2 (by omega)) hdv
    have hdv2 : 2 ^ r ∣ hi + 2 ^ r := (Nat.dvd_add_right hdv').2 (Nat.dvd_refl _)
    have hnx : bt n (hi + 2 ^ r) = bt n hi ++ [((n - (r + 1) : Nat) : Int)] := bt_next (by omega) hdv
    have htop2 : (hi + 2 ^ r).testBit (n - 1) = true := by rw [tb_add hdv, htop]; rfl
    rw [pnL_succ, mt_succ, head_app, ← ih hi (by omega) hdv' htop hd ht]
    by_cases hc : cod n xs ((n - (r + 1) : Nat) : Int) &&& tk n xs (bt n hi) = 0
    · rw [if_pos hc, ← tk_snoc, ← hnx]
      have hd2 : drct n xs (bt n (hi + 2 ^ r)) = true := by rw [hnx]; exact (drct_snoc hn hx hd).2 hc
      congr 1
      unfold pnP
      by_cases hf : tk n xs (bt n (hi + 2 ^ r)) = 2 ^ n - 1
      · rw [if_pos hf, mt_one hn hk (by omega) hdv2 ((tiles_full hn hx hd2).2 hf) htop2]
        rfl
      · rw [if_neg hf]
        by_cases hp : poss n xs (tk n xs (bt n (hi + 2 ^ r))) r (tk n xs (bt n (hi + 2 ^ r))) = 2 ^ n - 1
        · rw [if_pos hp]
          exact ih _ (by omega) hdv2 htop2 hd2 (not_true fun h => hf ((tiles_full hn hx hd2).1 h))
        · rw [if_neg hp, mt_none fun j hj => not_true fun h => hp (poss_full hn hx (by omega) hdv2 hj h)]
          rfl
    · rw [if_neg hc, mt_none (r := r) (hi := hi + 2 ^ r) fun j hj => not_true fun h => hc ?_]
      · rfl
      · have h1 := tiles_drct hx h
        obtain ⟨zs, h2, _⟩ := bt_pre (n := n) r (hi + 2 ^ r) (by omega) hdv2 j hj
        rw [h2] at h1
        have h3 := drct_ext h1
        rw [hnx] at h3
        exact (drct_snoc hn hx hd).1 h3
/-- the search from pulse 0 finds the first of the partners -/
theorem pnP_first {n : Nat} {xs : List Int} (hn : 1 ≤ n) (hk : 1 ≤ xs.length) (hx : rhOk n xs = true) (hd0 : drct n xs [] = true) : pnP n xs (n - 1) [0] (cod n xs 0) = (ptL n xs (2 ^ n)).head? := by
  have hp : 2 ^ n = 2 ^ (n - 1) + 2 ^ (n - 1) := by
    have : 2 ^ (n - 1 + 1) = 2 ^ (n - 1) + 2 ^ (n - 1) := by rw [Nat.pow_succ]; omega
    rw [show n - 1 + 1 = n by omega] at this
    exact this
  have hb : bt n (2 ^ (n - 1)) = [0] := by
    have := bt_next (n := n) (m := n - 1) (hi := 0) (by omega) (Nat.dvd_zero _)
    rw [Nat.zero_add, bt_zero] at this
    rw [this, show n - (n - 1 + 1) = 0 by omega]
    rfl
  have htop : (2 ^ (n - 1)).testBit (n - 1) = true := by rw [Nat.testBit_two_pow]; simp
  have ht0 : tk n xs [0] = cod n xs 0 := by simp [tk]
  have hd1 : drct n xs [0] = true := by
    have := (drct_snoc (k := 0) hn hx hd0).2 (by simp [tk])
    exact this
  have e : (ptL n xs (2 ^ n)).head? = (mt n xs (n - 1) (2 ^ (n - 1))).head? := by
    unfold ptL mt
    rw [hp, dn_split, dn_none (P := ptP n xs) (m := 2 ^ (n - 1)) fun j hj => ?_, List.append_nil, List.map_map]
    · rfl
    · show ptP n xs j = false
      unfold ptP
      rw [hasR_bt hn, Nat.testBit_lt_two_pow hj]; rfl
  rw [e]
  unfold pnP
  by_cases hf : cod n xs 0 = 2 ^ n - 1
  · rw [if_pos hf, mt_one hn hk (by omega) (Nat.dvd_refl _) (by rw [hb]; exact (tiles_full hn hx hd1).2 (by rw [ht0]; exact hf)) htop, hb]
    rfl
  · rw [if_neg hf]
    have hnt : tilesB n xs (bt n (2 ^ (n - 1))) = false := not_true fun h => hf (by rw [← ht0, ← hb]; exact (tiles_full hn hx (by rw [hb]; exact hd1)).1 h)
    have hlast := pnL_mt hn hk hx (n - 1) (2 ^ (n - 1)) (by omega) (Nat.dvd_refl _) htop (by rw [hb]; exact hd1) hnt
    rw [hb, ht0] at hlast
    by_cases hq : poss n xs (cod n xs 0) (n - 1) (cod n xs 0) = 2 ^ n - 1
    · rw [if_pos hq, hlast]
    · rw [if_neg hq, mt_none fun j hj => not_true fun h => hq ?_]
      · rfl
      · have := poss_full hn hx (r := n - 1) (hi := 2 ^ (n - 1)) (by omega) (Nat.dvd_refl _) hj h
        rw [hb, ht0] at this
        exact this
theorem drct_nil0 {n : Nat} {xs : List Int} (hx : rhOk n xs = true) : drct n xs [] = true := by
  rw [drct_cnt hx]
  intro i _
  simp
end Go.Proofs.YtikifkbgmniobaaGreat
