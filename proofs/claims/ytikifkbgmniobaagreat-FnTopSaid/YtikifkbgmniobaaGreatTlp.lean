/- Words that many parts of the proof share. -/
import Derived.Test.YtikifkbgmniobaaGreatVanPl
import Derived.Test.YtikifkbgmniobaaGreatTls
import Derived.Test.YtikifkbgmniobaaGreatRts
import Derived.Test.YtikifkbgmniobaaGreatPps
namespace Go.Proofs.YtikifkbgmniobaaGreat
open Go.RowKit
set_option maxRecDepth 20000

/- Tilings against vanishing orders: an enumeration of pairs, and what it shows. -/
abbrev It := Nat × Nat × Nat × Nat
/-! digits -/
def hor (f : Nat → Nat) : Nat → Nat
  | 0 => 0
  | m + 1 => hor f m + f m * 128 ^ m
theorem hor_lt {f : Nat → Nat} : ∀ {m : Nat}, (∀ j, j < m → f j < 128) → hor f m < 128 ^ m := by
  intro m
  induction m with
  | zero => intro _; simp [hor]
  | succ m ih =>
    intro h
    have h1 := ih fun j hj => h j (by omega)
    have h2 := h m (by omega)
    simp only [hor, Nat.pow_succ]
    have h3 := Nat.mul_le_mul_right (128 ^ m) (show f m ≤ 127 by omega)
    omega
theorem hor_inj {f g : Nat → Nat} : ∀ {m : Nat}, (∀ j, j < m → f j < 128) → (∀ j, j < m → g j < 128) → hor f m = hor g m → ∀ j, j < m → f j = g j := by
  intro m
  induction m with
  | zero => intro _ _ _ j hj; omega
  | succ m ih =>
    intro hf hg h j hj
    simp only [hor] at h
    have h1 : hor f m < 128 ^ m := hor_lt fun j hj => hf j (by omega)
    have h2 : hor g m < 128 ^ m := hor_lt fun j hj => hg j (by omega)
    have e1 : (hor f m + f m * 128 ^ m) / 128 ^ m = f m := by rw [Nat.add_mul_div_right _ _ (by omega), Nat.div_eq_of_lt h1, Nat.zero_add]
    have e2 : (hor g m + g m * 128 ^ m) / 128 ^ m = g m := by rw [Nat.add_mul_div_right _ _ (by omega), Nat.div_eq_of_lt h2, Nat.zero_add]
    have e3 : f m = g m := by rw [← e1, ← e2, h]
    by_cases e : j = m
    · subst e; exact e3
    · rw [e3] at h
      exact ih (fun j hj => hf j (by omega)) (fun j hj => hg j (by omega)) (by omega) j (by omega)
theorem hor_congr {f g : Nat → Nat} : ∀ {m : Nat}, (∀ j, j < m → f j = g j) → hor f m = hor g m := by
  intro m
  induction m with
  | zero => intro _; rfl
  | succ m ih => intro h; simp only [hor]; rw [ih fun j hj => h j (by omega), h m (by omega)]
theorem hor_add (f g : Nat → Nat) (m : Nat) : hor (fun j => f j + g j) m = hor f m + hor g m := by
  induction m with
  | zero => rfl
  | succ m ih => simp only [hor]; rw [ih, Nat.add_mul]; omega
theorem hor_zero (m : Nat) : hor (fun _ => 0) m = 0 := by
  induction m with
  | zero => rfl
  | succ m ih => simp only [hor]; rw [ih]; omega
theorem hor_sum (f : Int → Nat → Nat) (m : Nat) (xs : List Int) : (xs.map fun x => hor (f x) m).sum = hor (fun j => (xs.map fun x => f x j).sum) m := by
  induction xs with
  | nil => simp [hor_zero]
  | cons x r ih =>
    simp only [List.map_cons, List.sum_cons]
    rw [ih, ← hor_add]
theorem hor_mul (c : Nat) (k m : Nat) : hor (fun _ => c * k) m = hor (fun _ => c) m * k := by
  induction m with
  | zero => simp [hor]
  | succ m ih => simp only [hor]; rw [ih, Nat.add_mul, Nat.mul_right_comm]
/-! the rest of a power, as a number -/
def vD (d p j : Nat) : Nat := (vR d p j + 2).toNat
def vE (d p : Nat) : Nat := hor (vD d p) (vDeg d)
def vTg (d : Nat) : Nat := hor (fun _ => 2) (vDeg d)
theorem vDig_sum {d : Nat} (h1 : 1 ≤ d) (h24 : d ≤ 24) {xs : List Int} (hb : ∀ x ∈ xs, 0 ≤ x ∧ x < 24) {j : Nat} (hj : j < 25) : (((xs.map fun x => vD d x.toNat j).sum : Nat) : Int) = vSum d xs j + 2 * (xs.length : Int) := by
  unfold vSum
  induction xs with
  | nil => rfl
  | cons x r ih =>
    have h2 := hb x List.mem_cons_self
    have h3 := vR_out h1 h24 (i := x.toNat) (j := j) (by omega) hj
    have h4 := ih fun y hy => hb y (List.mem_cons_of_mem _ hy)
    simp only [List.map_cons, List.sum_cons, List.length_cons]
    unfold vD at *
    omega
theorem vDeg_lt {d : Nat} (h1 : 1 ≤ d) (h24 : d ≤ 24) : vDeg d < 25 := by
  unfold vDeg; have := cyc_le h1 h24; omega
theorem vE_sum {m : Nat} {zs : List Int} (hok : rhOk m zs = true) {d : Nat} (h1 : 1 ≤ d) (h24 : d ≤ 24) : ((zs.map fun x => vE d x.toNat).sum = vTg d * zs.length) ↔ vanI m zs d = true := by
  obtain ⟨hn, hb, ha⟩ := rhOk_iff.1 hok
  have hlen := (rhOk_len hok).1
  have hb2 : ∀ x ∈ zs, 0 ≤ x ∧ x < 24 := fun x hx => by have := hb x hx; omega
  have hdg := vDeg_lt h1 h24
  unfold vE vTg
  rw [van_iff hok h1 h24, hor_sum (fun x j => vD d x.toNat j), ← hor_mul]
  have hs : ∀ j, j < vDeg d → -(2 * (zs.length : Int)) ≤ vSum d zs j ∧ vSum d zs j ≤ 2 * (zs.length : Int) := fun j hj => sum_small fun x hx => vR_out h1 h24 (by have := hb2 x hx; omega) (by omega)
  constructor
  · intro h j hj
    have e := hor_inj (fun i hi => ?_) (fun i hi => ?_) h j hj
    · have h2 := vDig_sum h1 h24 hb2 (j := j) (by omega)
      rw [e] at h2
      omega
    · have h2 := vDig_sum h1 h24 hb2 (j := i) (by omega)
      have := hs i hi
      omega
    · omega
  · intro h
    refine hor_congr fun j hj => ?_
    have h2 := vDig_sum h1 h24 hb2 (j := j) (by omega)
    rw [h j hj] at h2
    omega
/-! many divisors in one number -/
def wB : Nat := 1180591620717411303424
def pk (g : Nat → Nat) : List Nat → Nat
  | [] => 0
  | d :: r => g d + wB * pk g r
theorem pk_add (f g : Nat → Nat) (ds : List Nat) : pk (fun d => f d + g d) ds = pk f ds + pk g ds := by
  induction ds with
  | nil => rfl
  | cons d r ih => simp only [pk]; rw [ih, Nat.mul_add]; omega
theorem pk_zero (ds : List Nat) : pk (fun _ => 0) ds = 0 := by
  induction ds with
  | nil => rfl
  | cons d r ih => simp only [pk]; rw [ih]; rfl
theorem pk_sum (f : Int → Nat → Nat) (ds : List Nat) (xs : List Int) : (xs.map fun x => pk (f x) ds).sum = pk (fun d => (xs.map fun x => f x d).sum) ds := by
  induction xs with
  | nil => simp [pk_zero]
  | cons x r ih =>
    simp only [List.map_cons, List.sum_cons]
    rw [ih, ← pk_add]
def cov : List (Nat × Nat) → Nat → Nat → Nat → Nat → Bool
  | [], _, _, _, _ => true
  | dt :: r, S, k, S', k' => (Nat.beq (S % wB) (dt.2 * k) || Nat.beq (S' % wB) (dt.2 * k')) && cov r (S / wB) k (S' / wB) k'
def vls : List (Nat × Nat) → Nat → Nat → List Int
  | [], _, _ => []
  | dt :: r, S, k => bif Nat.beq (S % wB) (dt.2 * k) then (dt.1 : Int) :: vls r (S / wB) k else vls r (S / wB) k
def dTg (ds : List Nat) : List (Nat × Nat) := ds.map fun d => (d, vTg d)
theorem pk_mod {g : Nat → Nat} {d : Nat} {r : List Nat} (h : g d < wB) : pk g (d :: r) % wB = g d ∧ pk g (d :: r) / wB = pk g r := by
  simp only [pk]
  have hw : 0 < wB := by decide
  rw [Nat.add_mul_mod_self_left, Nat.add_mul_div_left _ _ hw, Nat.mod_eq_of_lt h, Nat.div_eq_of_lt h, Nat.zero_add]
  exact ⟨rfl, rfl⟩
theorem cov_iff {f g : Nat → Nat} {k k' : Nat} {ds : List Nat} (hf : ∀ d ∈ ds, f d < wB) (hg : ∀ d ∈ ds, g d < wB) : cov (dTg ds) (pk f ds) k (pk g ds) k' = true ↔ ∀ d ∈ ds, f d = vTg d * k ∨ g d = vTg d * k' := by
  induction ds with
  | nil => simp [dTg, cov]
  | cons d r ih =>
    have ih := ih (fun e he => hf e (List.mem_cons_of_mem _ he)) (fun e he => hg e (List.mem_cons_of_mem _ he))
    obtain ⟨a1, a2⟩ := pk_mod (r := r) (hf d List.mem_cons_self)
    obtain ⟨b1, b2⟩ := pk_mod (r := r) (hg d List.mem_cons_self)
    unfold dTg at ih ⊢
    rw [List.map_cons]
    simp only [cov]
    rw [a1, a2, b1, b2, Bool.and_eq_true, ih, Bool.or_eq_true, Nat.beq_eq, Nat.beq_eq]
    simp
theorem vls_eq {f : Nat → Nat} {k : Nat} {ds : List Nat} (hf : ∀ d ∈ ds, f d < wB) {q : Nat → Bool} (hq : ∀ d ∈ ds, (f d = vTg d * k ↔ q d = true)) : vls (dTg ds) (pk f ds) k = (ds.filter q).map fun (d : Nat) => (d : Int) := by
  induction ds with
  | nil => rfl
  | cons d r ih =>
    have ih := ih (fun e he => hf e (List.mem_cons_of_mem _ he)) (fun e he => hq e (List.mem_cons_of_mem _ he))
    obtain ⟨a1, a2⟩ := pk_mod (r := r) (hf d List.mem_cons_self)
    have h2 := hq d List.mem_cons_self
    unfold dTg at ih ⊢
    rw [List.map_cons]
    simp only [vls]
    rw [a1, a2, ih]
    cases hqd : q d with
    | true =>
      rw [show Nat.beq (f d) (vTg d * k) = true from (by rw [Nat.beq_eq]; exact h2.2 hqd), List.filter_cons_of_pos hqd]; rfl
    | false =>
      rw [show Nat.beq (f d) (vTg d * k) = false from Bool.eq_false_iff.2 fun e => (by rw [Nat.beq_eq] at e; rw [h2.1 e] at hqd; cases hqd), List.filter_cons_of_neg (by rw [hqd]; decide)]; rfl
/-! the enumeration -/
def en1 (F : List Nat → Nat → Nat → Nat → Bool) : List It → Nat → List Nat → Nat → Nat → Nat → Bool
  | [], 0, l, S, X, Y => F l S X Y
  | [], _ + 1, _, _, _, _ => true
  | _ :: _, 0, l, S, X, Y => F l S X Y
  | it :: r, k + 1, l, S, X, Y => en1 F r (k + 1) l S X Y && en1 F r k (it.1 :: l) (S + it.2.1) (X + it.2.2.1) (Y + it.2.2.2)
def addU (n : Nat) (l : List Nat) (q U : Nat) : Nat := l.foldl (fun u p => u ||| 2 ^ ((p + q) % n)) U
def en2 (n : Nat) (l : List Nat) (F : Nat → Nat → Nat → Nat → Bool) : List It → Nat → Nat → Nat → Nat → Nat → Bool
  | [], 0, S, X, Y, U => F S X Y U
  | [], _ + 1, _, _, _, _ => true
  | _ :: _, 0, S, X, Y, U => F S X Y U
  | it :: r, k + 1, S, X, Y, U => en2 n l F r (k + 1) S X Y U && en2 n l F r k (S + it.2.1) (X + it.2.2.1) (Y + it.2.2.2) (addU n l it.1 U)
def s1 (l : List It) : Nat := (l.map fun it => it.2.1).sum
def s2 (l : List It) : Nat := (l.map fun it => it.2.2.1).sum
def s3 (l : List It) : Nat := (l.map fun it => it.2.2.2).sum
theorem en1_spec {F : List Nat → Nat → Nat → Nat → Bool} : ∀ {its : List It} {k : Nat} {l : List Nat} {S X Y : Nat}, en1 F its k l S X Y = true → ∀ sub : List It, sub.Sublist its → sub.length = k → F (sub.foldl (fun l it => it.1 :: l) l) (S + s1 sub) (X + s2 sub) (Y + s3 sub) = true := by
  intro its
  induction its with
  | nil =>
    intro k l S X Y h sub hs hk
    rw [List.sublist_nil.1 hs] at hk ⊢
    subst hk
    exact h
  | cons it r ih =>
    intro k l S X Y h sub hs hk
    cases k with
    | zero => rw [List.length_eq_zero_iff.1 hk]; exact h
    | succ k =>
      simp only [en1, Bool.and_eq_true] at h
      cases hs with
      | cons _ hs => exact ih h.1 sub hs hk
      | cons_cons _ hs =>
        rename_i sub'
        have := ih h.2 sub' hs (by simpa using hk)
        simp only [List.foldl_cons]
        unfold s1 s2 s3 at *
        simp only [List.map_cons, List.sum_cons]
        rw [← Nat.add_assoc, ← Nat.add_assoc, ← Nat.add_assoc]
        exact this
theorem en2_spec {n : Nat} {l : List Nat} {F : Nat → Nat → Nat → Nat → Bool} : ∀ {its : List It} {k S X Y U : Nat}, en2 n l F its k S X Y U = true → ∀ sub : List It, sub.Sublist its → sub.length = k → F (S + s1 sub) (X + s2 sub) (Y + s3 sub) (sub.foldl (fun u it => addU n l it.1 u) U) = true := by
  intro its
  induction its with
  | nil =>
    intro k S X Y U h sub hs hk
    rw [List.sublist_nil.1 hs] at hk ⊢
    subst hk
    exact h
  | cons it r ih =>
    intro k S X Y U h sub hs hk
    cases k with
    | zero => rw [List.length_eq_zero_iff.1 hk]; exact h
    | succ k =>
      simp only [en2, Bool.and_eq_true] at h
      cases hs with
      | cons _ hs => exact ih h.1 sub hs hk
      | cons_cons _ hs =>
        rename_i sub'
        have := ih h.2 sub' hs (by simpa using hk)
        simp only [List.foldl_cons]
        unfold s1 s2 s3 at *
        simp only [List.map_cons, List.sum_cons]
        rw [← Nat.add_assoc, ← Nat.add_assoc, ← Nat.add_assoc]
        exact this
/-! the mask of the sums -/
theorem addU_bit (n q z : Nat) : ∀ (l : List Nat) (U : Nat), (addU n l q U).testBit z = true ↔ (U.testBit z = true ∨ ∃ p ∈ l, (p + q) % n = z) := by
  intro l
  induction l with
  | nil => intro U; simp [addU]
  | cons p r ih =>
    intro U
    have := ih (U ||| 2 ^ ((p + q) % n))
    unfold addU at this ⊢
    rw [List.foldl_cons, this, Nat.testBit_or, Bool.or_eq_true, Nat.testBit_two_pow, decide_eq_true_iff]
    simp only [List.mem_cons, exists_eq_or_imp]
    rw [or_assoc]
theorem allU_bit (n z : Nat) (l : List Nat) : ∀ (sub : List It) (U : Nat), (sub.foldl (fun u it => addU n l it.1 u) U).testBit z = true ↔ (U.testBit z = true ∨ ∃ it ∈ sub, ∃ p ∈ l, (p + it.1) % n = z) := by
  intro sub
  induction sub with
  | nil => intro U; simp
  | cons it r ih =>
    intro U
    rw [List.foldl_cons, ih, addU_bit]
    simp only [List.mem_cons, exists_eq_or_imp]
    rw [or_assoc]
theorem allU_lt (n : Nat) (hn : 1 ≤ n) (l : List Nat) (sub : List It) : sub.foldl (fun u it => addU n l it.1 u) 0 = 2 ^ n - 1 ↔ ∀ z, z < n → ∃ it ∈ sub, ∃ p ∈ l, (p + it.1) % n = z := by
  constructor
  · intro h z hz
    have := (allU_bit n z l sub 0).1 (by rw [h, Nat.testBit_two_pow_sub_one]; simpa using hz)
    rcases this with h | h
    · simp at h
    · exact h
  · intro h
    refine Nat.eq_of_testBit_eq fun z => ?_
    rw [Nat.testBit_two_pow_sub_one, Bool.eq_iff_iff, allU_bit, decide_eq_true_iff]
    constructor
    · rintro (h | ⟨it, _, p, _, rfl⟩)
      · simp at h
      · exact Nat.mod_lt _ (by omega)
    · intro hz
      exact .inr (h z hz)
/-! the items of a rhythm -/
def dvs (n : Nat) : List Nat := (List.range (n + 1)).filter fun d => decide (2 ≤ d) && n % d == 0
def itm (n p : Nat) : It := (p, pk (fun d => vE d p) (dvs n), pk (fun d => vE d (2 * p)) (dvs (2 * n)), pk (fun d => vE d (2 * p) + vE d (2 * p + 1)) (dvs (2 * n)))
def itsOf (n : Nat) : List It := (List.range n).map (itm n)
theorem dvs_mem {n d : Nat} : d ∈ dvs n ↔ 2 ≤ d ∧ d ≤ n ∧ n % d = 0 := by
  unfold dvs
  rw [List.mem_filter, List.mem_range, Bool.and_eq_true, decide_eq_true_iff, beq_iff_eq]
  omega
theorem selTo_filter (p : Int → Bool) (k : Nat) : selTo p k = ((List.range k).filter fun (i : Nat) => p (i : Int)).map fun (i : Nat) => (i : Int) := by
  induction k with
  | zero => rfl
  | succ k ih =>
    rw [List.range_succ, List.filter_append, List.map_append, ← ih]
    cases h : p (k : Int) with
    | true => rw [selTo_hit h]; simp [h]
    | false => rw [selTo_miss h]; simp [h]
def subOf (n : Nat) (xs : List Int) : List It := xs.map fun x => itm n x.toNat
theorem subOf_sub {n : Nat} {xs : List Int} (hok : rhOk n xs = true) : (subOf n xs).Sublist (itsOf n) := by
  have h := sel_memB hok
  rw [Int.toNat_natCast, selTo_filter] at h
  unfold subOf itsOf
  rw [← h, List.map_map]
  exact (List.filter_sublist (l := List.range n)).map _
theorem subOf_len (n : Nat) (xs : List Int) : (subOf n xs).length = xs.length := by unfold subOf; rw [List.length_map]
theorem fold_mem (l : List It) : ∀ (a : List Nat) (p : Nat), p ∈ l.foldl (fun l it => it.1 :: l) a ↔ p ∈ a ∨ ∃ it ∈ l, it.1 = p := by
  induction l with
  | nil => intro a p; simp
  | cons it r ih =>
    intro a p
    rw [List.foldl_cons, ih, List.mem_cons]
    simp only [List.mem_cons, exists_eq_or_imp]
    rw [or_comm (a := p = it.1), or_assoc, eq_comm (a := p)]
theorem sub_mask {n : Nat} {xs ys : List Int} (hx : rhOk n xs = true) (hy : rhOk n ys = true) (hl : xs.length * ys.length = n) : ((subOf n ys).foldl (fun u it => addU n ((subOf n xs).foldl (fun l it => it.1 :: l) []) it.1 u) 0 = 2 ^ n - 1) ↔ tilesB n xs ys = true := by
  obtain ⟨hn, hbx, _⟩ := rhOk_iff.1 hx
  obtain ⟨_, hby, _⟩ := rhOk_iff.1 hy
  rw [allU_lt n (by omega)]
  unfold tilesB
  rw [decide_eq_true_iff]
  have hsl : ((sumL n xs ys).length : Int) = n ↔ ∀ i : Nat, i < n → sumP (sumC n xs ys) (i : Int) = true := by
    unfold sumL
    rw [Int.toNat_natCast, ← selTo_full]
    omega
  rw [hsl]
  constructor
  · intro h
    refine ⟨by rw [← hl]; simp, fun i hi => (sumP_iff (by omega) hi).2 ?_⟩
    obtain ⟨it, hit, p, hp, e⟩ := h i hi
    unfold subOf at hit
    obtain ⟨y, hy, rfl⟩ := List.mem_map.1 hit
    rcases (fold_mem _ _ _).1 hp with h0 | ⟨it2, hit2, e2⟩
    · simp at h0
    · unfold subOf at hit2
      obtain ⟨x, hx, rfl⟩ := List.mem_map.1 hit2
      refine ⟨x, hx, y, hy, ?_⟩
      have h1 := hbx x hx
      have h2 := hby y hy
      unfold itm at e2 e
      simp only at e2 e
      subst e2
      rw [← e, Int.natCast_emod, Int.natCast_add, Int.toNat_of_nonneg h1.1, Int.toNat_of_nonneg h2.1]
  · rintro ⟨_, h⟩ z hz
    obtain ⟨x, hx, y, hy, e⟩ := (sumP_iff (by omega) hz).1 (h z hz)
    have h1 := hbx x hx
    have h2 := hby y hy
    refine ⟨itm n y.toNat, List.mem_map.2 ⟨y, hy, rfl⟩, x.toNat, (fold_mem _ _ _).2 (.inr ⟨itm n x.toNat, List.mem_map.2 ⟨x, hx, rfl⟩, rfl⟩), ?_⟩
    show (x.toNat + y.toNat) % n = z
    have : (((x.toNat + y.toNat) % n : Nat) : Int) = z := by rw [Int.natCast_emod, Int.natCast_add, Int.toNat_of_nonneg h1.1, Int.toNat_of_nonneg h2.1, e]
    omega

/- The pairs of rhythms of one size up to 12 whose lengths have the size for a product, gone through one by one. -/
def pqT (d : Int) : Bool := pTab[d.toNat]?.getD 0 == 0
def ppT (o : List Int) : List Int := o.filter (qn pqT)
def mfT (o : List Int) (k : Nat) : Bool := (ppT o).foldl (fun a x => IntKind.i64.wrap (a * (pTab[x.toNat]?.getD 0))) 1 == (k : Int)
def msT (o : List Int) : Bool := aP (hM o) (ppT o) 1
def lf (full : Nat) (ds ds2 : List (Nat × Nat)) (k k' S X Y S' X' Y' U : Nat) : Bool :=
  match Nat.beq U full with
  | true => cov ds S k S' k' && (cov ds2 X k Y' (2 * k') && cov ds2 X' k' Y (2 * k)) && (mfT (vls ds S k) k && msT (vls ds S k)) && (mfT (vls ds S' k') k' && msT (vls ds S' k'))
  | false => !cov ds S k S' k'
def tilC (n : Nat) (its : List It) (ds ds2 : List (Nat × Nat)) (k k' : Nat) : Bool :=
  en1 (fun l S X Y => en2 n l (fun S' X' Y' U => lf (2 ^ n - 1) ds ds2 k k' S X Y S' X' Y' U) its k' 0 0 0 0) its k [] 0 0 0
def dg1 : List (Nat × Nat) := []
theorem dg1_ok : dTg (dvs 1) = dg1 := by decide +kernel
def dg2 : List (Nat × Nat) := [(2, 2)]
theorem dg2_ok : dTg (dvs 2) = dg2 := by decide +kernel
def dg3 : List (Nat × Nat) := [(3, 258)]
theorem dg3_ok : dTg (dvs 3) = dg3 := by decide +kernel
def dg4 : List (Nat × Nat) := [(2, 2), (4, 258)]
theorem dg4_ok : dTg (dvs 4) = dg4 := by decide +kernel
def dg5 : List (Nat × Nat) := [(5, 4227330)]
theorem dg5_ok : dTg (dvs 5) = dg5 := by decide +kernel
def dg6 : List (Nat × Nat) := [(2, 2), (3, 258), (6, 258)]
theorem dg6_ok : dTg (dvs 6) = dg6 := by decide +kernel
def dg7 : List (Nat × Nat) := [(7, 69260574978)]
theorem dg7_ok : dTg (dvs 7) = dg7 := by decide +kernel
def dg8 : List (Nat × Nat) := [(2, 2), (4, 258), (8, 4227330)]
theorem dg8_ok : dTg (dvs 8) = dg8 := by decide +kernel
def dg9 : List (Nat × Nat) := [(3, 258), (9, 69260574978)]
theorem dg9_ok : dTg (dvs 9) = dg9 := by decide +kernel
def dg10 : List (Nat × Nat) := [(2, 2), (5, 4227330), (10, 4227330)]
theorem dg10_ok : dTg (dvs 10) = dg10 := by decide +kernel
def dg11 : List (Nat × Nat) := [(11, 18591994027045847298)]
theorem dg11_ok : dTg (dvs 11) = dg11 := by decide +kernel
def dg12 : List (Nat × Nat) := [(2, 2), (3, 258), (4, 258), (6, 258), (12, 4227330)]
theorem dg12_ok : dTg (dvs 12) = dg12 := by decide +kernel
def dg14 : List (Nat × Nat) := [(2, 2), (7, 69260574978), (14, 69260574978)]
theorem dg14_ok : dTg (dvs 14) = dg14 := by decide +kernel
def dg16 : List (Nat × Nat) := [(2, 2), (4, 258), (8, 4227330), (16, 1134765260439810)]
theorem dg16_ok : dTg (dvs 16) = dg16 := by decide +kernel
def dg18 : List (Nat × Nat) := [(2, 2), (3, 258), (6, 258), (9, 69260574978), (18, 69260574978)]
theorem dg18_ok : dTg (dvs 18) = dg18 := by decide +kernel
def dg20 : List (Nat × Nat) := [(2, 2), (4, 258), (5, 4227330), (10, 4227330), (20, 1134765260439810)]
theorem dg20_ok : dTg (dvs 20) = dg20 := by decide +kernel
def dg22 : List (Nat × Nat) := [(2, 2), (11, 18591994027045847298), (22, 18591994027045847298)]
theorem dg22_ok : dTg (dvs 22) = dg22 := by decide +kernel
def dg24 : List (Nat × Nat) := [(2, 2), (3, 258), (4, 258), (6, 258), (8, 4227330), (12, 4227330), (24, 1134765260439810)]
theorem dg24_ok : dTg (dvs 24) = dg24 := by decide +kernel
def its1 : List It := [(0, 0, 3, 4)]
theorem its1_ok : itsOf 1 = its1 := by decide +kernel
def its2 : List It := [(0, 3, 305773229765809527586819, 761481595362730290708484), (1, 1, 303412046524374704979971, 456888957217638174425092)]
theorem its2_ok : itsOf 2 = its2 := by decide +kernel
def its3 : List It := [(0, 259, 360993312901214462103915212768261161405644803, 898998790815765745393920124461499803500544004), (1, 386, 536611681339643119343355517254673744795795459, 894817401091041253554578765238853861013192708), (2, 129, 181193554738061313025433419330864857999212547, 363780906051030789996909409007245863887568900)]
theorem its3_ok : itsOf 3 = its3 := by decide +kernel
def its4 : List It := [(0, 305773229765809527586819, 5892039468803103603470708397100284184149383708675, 11784255949771220543762602883899493345779456671748), (1, 455708365596920763121665, 5914874038089824053403694624267900824374090924035, 14729915387758158585117826188522039934766687453188), (2, 303412046524374704979971, 5892036681209953787142815705135500103104195461123, 11783896350254894237464445620442346890950172737540), (3, 153476910693263469445121, 5869202111923233337209829473245516980009843032067, 8838236912267956196109221706634524011778709389316)]
theorem its4_ok : itsOf 4 = its4 := by decide +kernel
def its5 : List It := [(0, 4227331, 5892039468803103603475698842883653373382570803203, 11784255949771220543772583775466231724245830860804), (1, 4227458, 5914874038089824053408704414044975468391484620803, 14729915387758158585130302455276781980395713331204), (2, 4243714, 8792382398750052510440880150217829308479108546563, 14684419079960006297588686301136698600816491102212), (3, 6324482, 5891859669044940450326620361090215977079164370947, 11761061780968173787541459624112807601106401099780), (4, 2113665, 2969034800344722858906858710366674433380498538499, 5960728551607727739084492801214177214861217366020)]
theorem its5_ok : itsOf 5 = its5 := by decide +kernel
def its6 : List It := [(0, 360993312901214462103915212768261161405644803, 8212304430841483499099040248219853349327917263835131609767940658506476402746265014498230275, 16424855580632279665790087477080952065350145467196921191051931251182534280726371216438329348), (1, 538005477914551283290004911693238642094899201, 8244131175302817618467913999972917282047401126602652220620956401147102499787070418590892035, 20530505616144381064374774702258611015316936450873079156243802547505828303315336498908233732), (2, 536611681339643119343355517254673744795795459, 8244129232633925392738842660907348341620953734681459209506872706630042401150525479380320259, 20530255011857283945324625464735394441998477519707182392221324963440020570550903031711399940), (3, 358205719751398134211223247984180116217397249, 8212300545503699047640898409296039702290103979018665912339081826988964960153613558892986371, 16424354372058085427689790255908991597472231725872846222729141985423558186274333443361865732), (4, 181193554738061313025433419330864857999212547, 8180473801042364928272025072210124214514542739303379305938393339997470048953547191710908419, 12318704336545984029105103020858305303578204489266873162193167659203242145790840231390347268), (5, 182587351312969476971475989676381005888356353, 8180475743711257154001095572068368921125908632190289212803719493319845498557410572540837891, 12318954940833081148155251004507049198137659298346252817514560446424620136039080049418174468)]
theorem its6_ok : itsOf 6 = its6 := by decide +kernel
def its7 : List It := [(0, 69260574979, 96535152181900279045202214993802665332004952526028803, 193070304540812723103741251173695029588987385741312004), (1, 69260575106, 96535175016469565765652147999373826654099961439846403, 193073250200250710041782608892374840139243535623782404), (2, 69260591362, 96909296599663193617354511277280927858726005427404803, 241334934432228702911387471742390895536003210018816004), (3, 69262672130, 144054393757732541670706499724524432644795459222634499, 240589545936845227566092386825635133192719366560415748), (4, 69529010434, 96535152002100520882049065915320871894608649119596547, 193070281346643920056985020049543676164864246311550980), (5, 103620313346, 96532229177231820664457646153670148353064950453764099, 192693236938581591987691870796600339305727118419165188), (6, 34630287489, 48644666528447455646636271268215643701106009454936067, 97660577131727878916436105184137118949267112613380100)]
theorem its7_ok : itsOf 7 = its7 := by decide +kernel
def its8 : List It := [(0, 5892039468803103603470708397100284184149383708675, 1867261407543494282799551515348790501316399546627447070560819467221070707163139, 3734522815087197544677882823864934860731148890105848134666273324062267376926724), (1, 5892216480968116940291894486799209161630072963073, 1867261407570452583962144833937438196003523340400512218474662022762535676018691, 3734522818564818394652420921800487475370118286831252215551962988911248359292932), (2, 5914874038089824053403694624267900824374090924035, 1867261849255258831891076589967123529289252796331588414037728579961712493461507, 3734579795904824377484617449629895469229218101940081443187548867605057809416196), (3, 8815041349668334531714131564254139110392596529153, 1874498413120824899508967380705768503231166493052283744153565165437562388480003, 4668096534562847100192529454915097107736084978909779028130468393989694266802180), (4, 5892036681209953787142815705135500103104195461123, 1867261407543490991790436872936706191378034431926437105089088200061344009945091, 3734522815086773004502093952706058878682049093675562588812939860457523435798532), (5, 5891859669044940450321629915306846787845977276417, 1867261407516532690627843554348104165829484079053237929629580877800328455520259, 3734522811609152154527555854776397582919053573032868954536495288786516914995204), (6, 5869202111923233337209829473245516980009843032067, 1867260965831726442698911798318373157829994882589639976228249519158611847151619, 3734465834269146171695359326941097550984947229228732965764750024005074435440644), (7, 2969034800344722858899392233389007031768866357249, 1860024401966160375081021007579682514749507744969078673648632967436573247275011, 2800949095611123448987447321650004593602106476176324932994214851862095051358212)]
theorem its8_ok : itsOf 8 = its8 := by decide +kernel
def its9 : List It := [(0, 81768454466277395351580071428355, 134550364469370978509471368459655274548599902094999403308961158849348421001438152759730346393603, 269100729185460906331610328926291190342566498500938333275893833748631011584351539360648134656004), (1, 81768454616212531182691306963330, 134550396296115439843590737360157995200903468206175683236368447269580530880886482590484823801859, 269104834835496418433008917091142154489726526842655784960515757937297458892548117658775903535108), (2, 81768473807909917564929455423617, 135071845677369938055330803196733162542530633715468327110760107650451487891519122096691655737347, 336371805017326687747477410009338741559630877541452162658876511112202367545434553697856856784900), (3, 81770930345175374491412458373379, 134554438537438309697192443758316705086878431089039680426480311161179053387635326121743487074307, 269626283966146629547629042453615729780496738732134081435864481974782589403786903060343282466820), (4, 82085367115153861081236835926402, 201299927511269619465688430629035934356322506562075976670159924302661546335374845813781736456195, 335850291976755260190708340946852285091275370843790563513423654293178449825370405922056477605892), (5, 122333273672400144578757162696833, 134550364218766691412352318311253667647145756305482422357661780968848349118261527214600317042691, 269100696857507870803252859782483900054981691653270449509192369185397465795204813908074165174276), (6, 81765978583837641349595450573059, 134546290395475640645073105948230521776178852762905440766737915922247403178427365802511534391299, 268575173652962321824234464952498082700251134660817165329095496152599712415960021879421386358788), (7, 81451541663924018928659837485442, 67800769594899869542457750177008571854431211178693391450756329646504518672152975517468978053123, 202347059992318179079756578294410563242312474207443219022745225472061886662102272781752960286724), (8, 41203615914980349048901362253953, 134028883506148299384053796658215671221980795925993235634483007854027805112339883183783175782403, 201829684929735299152743566540582361208701802699165362219130637373547289031312733932662942597124)]
theorem its9_ok : itsOf 9 = its9 := by decide +kernel
def its10 : List It := [(0, 5892039468803103603475698842883653373382570803203, 2204473171434848576010171758173801759338750408851477751748887119761057765553681574448779608669028355, 4408946342869943870969656183939610499318746184397266443024432211038165465276944624131400404779925508), (1, 5892216480968116940296884932582578350863260057601, 2204473171466675320471505877542702262059402712417588950687765445331499273410347885908838004463501315, 4408946346975593906481757582527775350282893344425611106139736209625119978786898802478933462266937348), (2, 5914874038089824053408704414044975468391484620803, 2204473692916056574969717617170251193237955168234360964243465425955951276302047642771624695611523075, 4409013613945775736751071994043299828327370973440843634674635973513031224444428327201978701175586820), (3, 8815041349668334531721598041231806512004228710401, 2213017119578530273670859619269408836065166508986418282607823849167947071057405133618688814468825091, 5511115653404882869198390265272923397026423101804594923827270304526885875257283757049687952953704452), (4, 8792382398750052510440880150217829308479108546563, 2213016598129147076503755653912735485135035045278690996102120442924890984586032518497744063494619139, 5511048386434450434641978734700348771028253454856132184741928635839047847821955517024252996467294212), (5, 5892036681209953787147806150918869292337382555649, 2204473171434844690672387306715659920414936761813664466935209015482015261928859735456967763429425155, 4408946342869442662395461945839313278146785716519352702059956759041682497674927394187672368871112708), (6, 5891859669044940450326620361090215977079164370947, 2204473171403017946211053187346813334296609644884730563385704937499119884368025831474475167217876995, 4408946338763792626883360547258103668882587632686879144173930699248178792327353780446127457581400068), (7, 5869202111923233337214839263022591624027236728833, 2204472649953636691712841447726058727636336709882543407284105100252041206858819802759989694889459715, 4408879071793610796614046135742471765718589846056378786917153957708632266268036965701063608029413380), (8, 2969034800344722858906858710366674433380498538499, 2195929223291162993011699445620052419148344872807565060448247516305369313251162370401746552595939331, 3306777032334503664166727864505945614756432034732529265241923365254355118251967302064136171351441412), (9, 2991693751263004880177634090847502781480718827521, 2195929744740546190178803410969824444980852446956610228413522032212886410805505573933678636224741379, 3306844299304936098723139395064824591138698271307713152912733653990457830133979668259812878653063172)]
theorem its10_ok : itsOf 10 = its10 := by decide +kernel
def its11 : List It := [(0, 18591994027045847299, 25913457595609543972338193150614471111429598968573982461132803, 51826915191219088121688551314565763408948896862125445611520004), (1, 18591994027045847426, 25913457595609566806907479871064404117000760290668991374950403, 51826915191222033781126538252607121127628707412381595493990404), (2, 18591994027045863682, 25913457595983688390101107722766767394907861495295035362508803, 51826915239483718013104531122211983977644762809141269889024004), (3, 18591994027047944450, 25913463725591707434499830014286712624853998088399727519334403, 51827705958918174740539706728284918640696383319646558119526404), (4, 18591994027314282754, 26013891223375730863165854277069360062355939515676024949964803, 64782853173057197038456836627246438078446827438288926670848004), (5, 18591994061405585666, 38669306877169280731813851148227031340297172952465775563636739, 64582764472778824701364451149025174559034807136958712836521988), (6, 18591998425092358402, 25913457595609543792538434987461322032947805531177679054700547, 51826915191219064927519748267809532284797543438002306181758980), (7, 18592556976999268610, 25913457595606620967669734769869902271297081989633980388868099, 51826915190842020519457420198516383031854206578865178289373188), (8, 18664051621083775234, 25913457547719058318885369752048527385842577337675039390040067, 51826909013346438826274332899559022808223106476161789440557060), (9, 27815366063900623106, 25912672957892620635848917766642404099238359642385714591563779, 51725696925735977714572026782169118836279023783838890437115908), (10, 9295997013522923649, 13057953241537621766619588872718476375735640022088216356061187, 26215561555587428976672581323543300878259326412669661055287300)]
theorem its11_ok : itsOf 11 = its11 := by decide +kernel
def its12 : List It := [(0, 8212304430841483499099040248219853349327917263835131609767940658506476402746265014498230275, 3072587155822829664435871451438265862831001063669586519037300113210470363169591147925883977605664170726718105476634621892536813386364146941955, 6145174311646003204898259839875718011664242541311005430384413434474671919536027945166192163467657967076370046614229476426670826550680935727108), (1, 8212551149790796166691047228861098716022228203361789581283990592676057877980106201940099073, 3072587155867189671856556324333296757120014466035965127003203952141794285535928941898235996044849704727468188314739397274367460034479036301315, 6145174317368444162166608443334703374946971446573845857986008656615457904766852400011231695495278519172295885570241183210328569225656179621892), (2, 8244131175302817618467913999972917282047401126602652220620956401147102499787070418590892035, 3072587882661551252357513835903850015884760864432271277673800474008608025073015178237513995653086416383179609465828897872837937962616147148803, 6145268073841088046790127435936073755599256839697339294492959977434430305104478822954835338212440990760738908379795395358011571819034445873156), (3, 12286374440841563445906860702285693733269535324270426935622846146358725803528266080317341697, 3084495681481686180045383407848441617489752189512765345939099037215227058736062293895619855038272233579114719852581108814246786415133951262723, 7681374121638493718525302216788390362643137775081074100716474631088285647610805775262120352274098075035533301111326289327257347261985693106180), (4, 8244129232633925392738842660907348341620953734681459209506872706630042401150525479380320259, 3072587882661548544672265671045513557770509015528871188763828026614396212248808184679575527502348055925949260431590354003106048889758804869123, 6145268073840738755393114169210670658860768331158727825106514263581106450728274718804031253512565823776354188644014601217606531556746324869124), (5, 12286125779223358552585782803828046100377523785025723182714452256809978169400377552331079681, 3084495681437323464939450370095149418449135700906279207922553393676925452007291290894533873168215117546850339209143315942611300819884560089091, 7681374115915703469859940346613696686403610744844362296582086614647378379626097355710399537664043440874263045267355326358775380406659715170308), (6, 8212300545503699047640898409296039702290103979018665912339081826988964960153613558892986371, 3072587155822824249065375121721743248740797659209228244742251932034270525184821336179995131929834357098601904286517525605850095824602501480451, 6145174311645304622104233306444300794028003365924788046323198062744892819500722229946531071285612009049380093089124055444084261083428671193092), (7, 8212053826554386380048891846612951895182127746854180310390060158434593226120719884468879361, 3072587155778464241644690248826787503227435787525999076933803561283648743067333297255388443249183221671627889436233836199186928131679795019779, 6145174305922863664835884702995009622804321918788225399033358235914682926318014241083897384854302204968897330243023804512039953764554054303748), (8, 8180473801042364928272025072210124214514542739303379305938393339997470048953547191710908419, 3072586428984102661143732737256234239875692157149549903041565248812661121936277875255314381084269802534152766983289310159959879463823306915843, 6145080549450219780212365710393638650429393600226281966934615927157279800465366738251085058835097804236276228132188580396742025474758055821316), (9, 4138230535503619100833077948648181089063661749963493856254774319205772096837293039679438849, 3060678630163967733455863165311567484908052069405763371397169426821166066432090233537134759546870931123327485923976021020136342193239574446083, 4608974501652814108477190929531627259603822281277819384807554890254417640398409989017543033883330058238980124321269963887010042637611083759620), (10, 8180475743711257154001095572068368921125908632190289212803719493319845498557410572540837891, 3072586428984105368828980902114420395851643712706508088414984969241294772671323922002323645169506814670725782011656988118481282241496359108611, 6145080549450569071609378977099652771327144267073887880105759862451020745232804833438538432576045701852525472472610402101011633930890821763076), (11, 4138479197121823994154155432438680277011750666155963604710840953104774637481669476877336577, 3060678630208330448561796203064784539760014259309243092477901392782939414505131586799693731897318391965379907020876662250434535687973219860483, 4608974507375604357142552799696627335506944778826703404221978499323179541847495527476021313718365840864577292980957000067972678390096825679876)]
theorem its12_ok : itsOf 12 = its12 := by decide +kernel
def pc3 (i : Nat) : Bool :=
  match its12[i]? with
  | some it => en1 (fun l S X Y => en2 12 l (fun S' X' Y' U => lf (2 ^ 12 - 1) dg12 dg24 3 4 S X Y S' X' Y' U) its12 4 0 0 0 0) (its12.drop (i + 1)) 2 [it.1] (0 + it.2.1) (0 + it.2.2.1) (0 + it.2.2.2)
  | none => true

/- Pairs of rhythms gone through one by one: a part. -/
set_option maxRecDepth 100000 in
theorem til_1_1 : tilC 1 its1 dg1 dg2 1 1 = true := by decide +kernel
set_option maxRecDepth 100000 in
theorem til_2_1 : tilC 2 its2 dg2 dg4 1 2 = true := by decide +kernel
set_option maxRecDepth 100000 in
theorem til_3_1 : tilC 3 its3 dg3 dg6 1 3 = true := by decide +kernel
set_option maxRecDepth 100000 in
theorem til_4_1 : tilC 4 its4 dg4 dg8 1 4 = true := by decide +kernel
set_option maxRecDepth 100000 in
theorem til_4_2 : tilC 4 its4 dg4 dg8 2 2 = true := by decide +kernel
set_option maxRecDepth 100000 in
theorem til_5_1 : tilC 5 its5 dg5 dg10 1 5 = true := by decide +kernel
set_option maxRecDepth 100000 in
theorem til_6_1 : tilC 6 its6 dg6 dg12 1 6 = true := by decide +kernel
set_option maxRecDepth 100000 in
theorem til_6_2 : tilC 6 its6 dg6 dg12 2 3 = true := by decide +kernel
set_option maxRecDepth 100000 in
theorem til_7_1 : tilC 7 its7 dg7 dg14 1 7 = true := by decide +kernel
set_option maxRecDepth 100000 in
theorem til_8_1 : tilC 8 its8 dg8 dg16 1 8 = true := by decide +kernel
set_option maxRecDepth 100000 in
theorem til_8_2 : tilC 8 its8 dg8 dg16 2 4 = true := by decide +kernel
set_option maxRecDepth 100000 in
theorem til_9_1 : tilC 9 its9 dg9 dg18 1 9 = true := by decide +kernel
set_option maxRecDepth 100000 in
theorem til_9_3 : tilC 9 its9 dg9 dg18 3 3 = true := by decide +kernel
set_option maxRecDepth 100000 in
theorem til_10_1 : tilC 10 its10 dg10 dg20 1 10 = true := by decide +kernel
set_option maxRecDepth 100000 in
theorem til_10_2 : tilC 10 its10 dg10 dg20 2 5 = true := by decide +kernel
set_option maxRecDepth 100000 in
theorem til_11_1 : tilC 11 its11 dg11 dg22 1 11 = true := by decide +kernel
set_option maxRecDepth 100000 in
theorem pc3_3 : pc3 3 = true := by decide +kernel
set_option maxRecDepth 100000 in
theorem pc3_5 : pc3 5 = true := by decide +kernel
set_option maxRecDepth 100000 in
theorem pc3_7 : pc3 7 = true := by decide +kernel
set_option maxRecDepth 100000 in
theorem pc3_8 : pc3 8 = true := by decide +kernel
set_option maxRecDepth 100000 in
theorem pc3_9 : pc3 9 = true := by decide +kernel
set_option maxRecDepth 100000 in
theorem pc3_10 : pc3 10 = true := by decide +kernel
set_option maxRecDepth 100000 in
theorem pc3_11 : pc3 11 = true := by decide +kernel

/- Pairs of rhythms gone through one by one: a part. -/
set_option maxRecDepth 100000 in
theorem pc3_0 : pc3 0 = true := by decide +kernel
set_option maxRecDepth 100000 in
theorem pc3_2 : pc3 2 = true := by decide +kernel
set_option maxRecDepth 100000 in
theorem pc3_4 : pc3 4 = true := by decide +kernel
set_option maxRecDepth 100000 in
theorem pc3_6 : pc3 6 = true := by decide +kernel

/- Pairs of rhythms gone through one by one: a part. -/
set_option maxRecDepth 100000 in
theorem til_12_1 : tilC 12 its12 dg12 dg24 1 12 = true := by decide +kernel
set_option maxRecDepth 100000 in
theorem til_12_2 : tilC 12 its12 dg12 dg24 2 6 = true := by decide +kernel
set_option maxRecDepth 100000 in
theorem pc3_1 : pc3 1 = true := by decide +kernel

/- All pairs of rhythms of one size up to 12. -/
theorem en1_of {F : List Nat → Nat → Nat → Nat → Bool} {k : Nat} {l : List Nat} {S X Y : Nat} : ∀ {its : List It}, (∀ i it, its[i]? = some it → en1 F (its.drop (i + 1)) k (it.1 :: l) (S + it.2.1) (X + it.2.2.1) (Y + it.2.2.2) = true) → en1 F its (k + 1) l S X Y = true := by
  intro its
  induction its with
  | nil => intro _; rfl
  | cons it r ih =>
    intro h
    simp only [en1, Bool.and_eq_true]
    refine ⟨ih fun i jt hj => ?_, h 0 it rfl⟩
    have := h (i + 1) jt (by rw [List.getElem?_cons_succ]; exact hj)
    rwa [List.drop_succ_cons] at this
theorem til_12_3 : tilC 12 its12 dg12 dg24 3 4 = true := by
  unfold tilC
  refine en1_of fun i it hi => ?_
  have hl : i < 12 := (List.getElem?_eq_some_iff.1 hi).1
  have key : pc3 i = true := by
    have : i = 0 ∨ i = 1 ∨ i = 2 ∨ i = 3 ∨ i = 4 ∨ i = 5 ∨ i = 6 ∨ i = 7 ∨ i = 8 ∨ i = 9 ∨ i = 10 ∨ i = 11 := by omega
    rcases this with e | e | e | e | e | e | e | e | e | e | e | e <;> subst e
    · exact pc3_0
    · exact pc3_1
    · exact pc3_2
    · exact pc3_3
    · exact pc3_4
    · exact pc3_5
    · exact pc3_6
    · exact pc3_7
    · exact pc3_8
    · exact pc3_9
    · exact pc3_10
    · exact pc3_11
  unfold pc3 at key
  rw [hi] at key
  exact key
theorem tilAll1 {k k' : Nat} (h : k * k' = 1) (hle : k ≤ k') : tilC 1 its1 dg1 dg2 k k' = true := by
  have hk : k ≤ 1 := by
    rcases Nat.lt_or_ge 1 k with h1 | h1
    · have := Nat.mul_le_mul h1 (Nat.le_trans h1 hle)
      omega
    · exact h1
  have : k = 0 ∨ k = 1 := by omega
  rcases this with rfl | rfl
  · omega
  · have : k' = 1 := by omega
    subst this
    exact til_1_1
theorem tilAll2 {k k' : Nat} (h : k * k' = 2) (hle : k ≤ k') : tilC 2 its2 dg2 dg4 k k' = true := by
  have hk : k ≤ 1 := by
    rcases Nat.lt_or_ge 1 k with h1 | h1
    · have := Nat.mul_le_mul h1 (Nat.le_trans h1 hle)
      omega
    · exact h1
  have : k = 0 ∨ k = 1 := by omega
  rcases this with rfl | rfl
  · omega
  · have : k' = 2 := by omega
    subst this
    exact til_2_1
theorem tilAll3 {k k' : Nat} (h : k * k' = 3) (hle : k ≤ k') : tilC 3 its3 dg3 dg6 k k' = true := by
  have hk : k ≤ 1 := by
    rcases Nat.lt_or_ge 1 k with h1 | h1
    · have := Nat.mul_le_mul h1 (Nat.le_trans h1 hle)
      omega
    · exact h1
  have : k = 0 ∨ k = 1 := by omega
  rcases this with rfl | rfl
  · omega
  · have : k' = 3 := by omega
    subst this
    exact til_3_1
theorem tilAll4 {k k' : Nat} (h : k * k' = 4) (hle : k ≤ k') : tilC 4 its4 dg4 dg8 k k' = true := by
  have hk : k ≤ 2 := by
    rcases Nat.lt_or_ge 2 k with h1 | h1
    · have := Nat.mul_le_mul h1 (Nat.le_trans h1 hle)
      omega
    · exact h1
  have : k = 0 ∨ k = 1 ∨ k = 2 := by omega
  rcases this with rfl | rfl | rfl
  · omega
  · have : k' = 4 := by omega
    subst this
    exact til_4_1
  · have : k' = 2 := by omega
    subst this
    exact til_4_2
theorem tilAll5 {k k' : Nat} (h : k * k' = 5) (hle : k ≤ k') : tilC 5 its5 dg5 dg10 k k' = true := by
  have hk : k ≤ 2 := by
    rcases Nat.lt_or_ge 2 k with h1 | h1
    · have := Nat.mul_le_mul h1 (Nat.le_trans h1 hle)
      omega
    · exact h1
  have : k = 0 ∨ k = 1 ∨ k = 2 := by omega
  rcases this with rfl | rfl | rfl
  · omega
  · have : k' = 5 := by omega
    subst this
    exact til_5_1
  · omega
theorem tilAll6 {k k' : Nat} (h : k * k' = 6) (hle : k ≤ k') : tilC 6 its6 dg6 dg12 k k' = true := by
  have hk : k ≤ 2 := by
    rcases Nat.lt_or_ge 2 k with h1 | h1
    · have := Nat.mul_le_mul h1 (Nat.le_trans h1 hle)
      omega
    · exact h1
  have : k = 0 ∨ k = 1 ∨ k = 2 := by omega
  rcases this with rfl | rfl | rfl
  · omega
  · have : k' = 6 := by omega
    subst this
    exact til_6_1
  · have : k' = 3 := by omega
    subst this
    exact til_6_2
theorem tilAll7 {k k' : Nat} (h : k * k' = 7) (hle : k ≤ k') : tilC 7 its7 dg7 dg14 k k' = true := by
  have hk : k ≤ 2 := by
    rcases Nat.lt_or_ge 2 k with h1 | h1
    · have := Nat.mul_le_mul h1 (Nat.le_trans h1 hle)
      omega
    · exact h1
  have : k = 0 ∨ k = 1 ∨ k = 2 := by omega
  rcases this with rfl | rfl | rfl
  · omega
  · have : k' = 7 := by omega
    subst this
    exact til_7_1
  · omega
theorem tilAll8 {k k' : Nat} (h : k * k' = 8) (hle : k ≤ k') : tilC 8 its8 dg8 dg16 k k' = true := by
  have hk : k ≤ 2 := by
    rcases Nat.lt_or_ge 2 k with h1 | h1
    · have := Nat.mul_le_mul h1 (Nat.le_trans h1 hle)
      omega
    · exact h1
  have : k = 0 ∨ k = 1 ∨ k = 2 := by omega
  rcases this with rfl | rfl | rfl
  · omega
  · have : k' = 8 := by omega
    subst this
    exact til_8_1
  · have : k' = 4 := by omega
    subst this
    exact til_8_2
theorem tilAll9 {k k' : Nat} (h : k * k' = 9) (hle : k ≤ k') : tilC 9 its9 dg9 dg18 k k' = true := by
  have hk : k ≤ 3 := by
    rcases Nat.lt_or_ge 3 k with h1 | h1
    · have := Nat.mul_le_mul h1 (Nat.le_trans h1 hle)
      omega
    · exact h1
  have : k = 0 ∨ k = 1 ∨ k = 2 ∨ k = 3 := by omega
  rcases this with rfl | rfl | rfl | rfl
  · omega
  · have : k' = 9 := by omega
    subst this
    exact til_9_1
  · omega
  · have : k' = 3 := by omega
    subst this
    exact til_9_3
theorem tilAll10 {k k' : Nat} (h : k * k' = 10) (hle : k ≤ k') : tilC 10 its10 dg10 dg20 k k' = true := by
  have hk : k ≤ 3 := by
    rcases Nat.lt_or_ge 3 k with h1 | h1
    · have := Nat.mul_le_mul h1 (Nat.le_trans h1 hle)
      omega
    · exact h1
  have : k = 0 ∨ k = 1 ∨ k = 2 ∨ k = 3 := by omega
  rcases this with rfl | rfl | rfl | rfl
  · omega
  · have : k' = 10 := by omega
    subst this
    exact til_10_1
  · have : k' = 5 := by omega
    subst this
    exact til_10_2
  · omega
theorem tilAll11 {k k' : Nat} (h : k * k' = 11) (hle : k ≤ k') : tilC 11 its11 dg11 dg22 k k' = true := by
  have hk : k ≤ 3 := by
    rcases Nat.lt_or_ge 3 k with h1 | h1
    · have := Nat.mul_le_mul h1 (Nat.le_trans h1 hle)
      omega
    · exact h1
  have : k = 0 ∨ k = 1 ∨ k = 2 ∨ k = 3 := by omega
  rcases this with rfl | rfl | rfl | rfl
  · omega
  · have : k' = 11 := by omega
    subst this
    exact til_11_1
  · omega
  · omega
theorem tilAll12 {k k' : Nat} (h : k * k' = 12) (hle : k ≤ k') : tilC 12 its12 dg12 dg24 k k' = true := by
  have hk : k ≤ 3 := by
    rcases Nat.lt_or_ge 3 k with h1 | h1
    · have := Nat.mul_le_mul h1 (Nat.le_trans h1 hle)
      omega
    · exact h1
  have : k = 0 ∨ k = 1 ∨ k = 2 ∨ k = 3 := by omega
  rcases this with rfl | rfl | rfl | rfl
  · omega
  · have : k' = 12 := by omega
    subst this
    exact til_12_1
  · have : k' = 6 := by omega
    subst this
    exact til_12_2
  · have : k' = 4 := by omega
    subst this
    exact til_12_3
theorem til_chk {n k k' : Nat} (h1 : 1 ≤ n) (h12 : n ≤ 12) (h : k * k' = n) (hle : k ≤ k') : tilC n (itsOf n) (dTg (dvs n)) (dTg (dvs (2 * n))) k k' = true := by
  have : n = 1 ∨ n = 2 ∨ n = 3 ∨ n = 4 ∨ n = 5 ∨ n = 6 ∨ n = 7 ∨ n = 8 ∨ n = 9 ∨ n = 10 ∨ n = 11 ∨ n = 12 := by omega
  rcases this with e | e | e | e | e | e | e | e | e | e | e | e
  · subst e; rw [its1_ok, dg1_ok, show dTg (dvs (2 * 1)) = dg2 from dg2_ok]; exact tilAll1 h hle
  · subst e; rw [its2_ok, dg2_ok, show dTg (dvs (2 * 2)) = dg4 from dg4_ok]; exact tilAll2 h hle
  · subst e; rw [its3_ok, dg3_ok, show dTg (dvs (2 * 3)) = dg6 from dg6_ok]; exact tilAll3 h hle
  · subst e; rw [its4_ok, dg4_ok, show dTg (dvs (2 * 4)) = dg8 from dg8_ok]; exact tilAll4 h hle
  · subst e; rw [its5_ok, dg5_ok, show dTg (dvs (2 * 5)) = dg10 from dg10_ok]; exact tilAll5 h hle
  · subst e; rw [its6_ok, dg6_ok, show dTg (dvs (2 * 6)) = dg12 from dg12_ok]; exact tilAll6 h hle
  · subst e; rw [its7_ok, dg7_ok, show dTg (dvs (2 * 7)) = dg14 from dg14_ok]; exact tilAll7 h hle
  · subst e; rw [its8_ok, dg8_ok, show dTg (dvs (2 * 8)) = dg16 from dg16_ok]; exact tilAll8 h hle
  · subst e; rw [its9_ok, dg9_ok, show dTg (dvs (2 * 9)) = dg18 from dg18_ok]; exact tilAll9 h hle
  · subst e; rw [its10_ok, dg10_ok, show dTg (dvs (2 * 10)) = dg20 from dg20_ok]; exact tilAll10 h hle
  · subst e; rw [its11_ok, dg11_ok, show dTg (dvs (2 * 11)) = dg22 from dg22_ok]; exact tilAll11 h hle
  · subst e; rw [its12_ok, dg12_ok, show dTg (dvs (2 * 12)) = dg24 from dg24_ok]; exact tilAll12 h hle
end Go.Proofs.YtikifkbgmniobaaGreat
