/- Words that many parts of the proof share. -/
import Derived.Test.YtpejnhcmelkmeaaBas
import Derived.Deep.RegionHeld3
namespace Go.Proofs.Ytpejnhcmelkmeaa
open Go.RowKit

/- How often each pulse is a sum of two beats, walked. -/

/- Two rhythms of one size; how often each pulse is a sum. -/
def twoOk (s : Int) (xs : List Int) (t : Int) (ys : List Int) : Bool := rhOk s xs && rhOk t ys && (s == t)
theorem twoOk_iff {s t : Int} {xs ys : List Int} : twoOk s xs t ys = true ↔ rhOk s xs = true ∧ rhOk t ys = true ∧ s = t := by simp [twoOk, and_assoc]
def sumCL (s : Int) (xs : List Int) (t : Int) (ys : List Int) : List Int := if twoOk s xs t ys = true then sumC s xs ys else []

/- Sums between bounds: direct sums and tilings in the reference's words. -/
def btw (s : Int) (xs : List Int) (t : Int) (ys : List Int) (lo hi : Int) : Bool := twoOk s xs t ys && (sumC s xs ys).all (fun n => inB n lo hi)
theorem all_take_step {p : Int → Bool} {l : List Int} {k : Nat} {x : Int} (h : (l.take k).all p = true) (hx : l[k]? = some x) (hp : p x = true) : (l.take (k + 1)).all p = true := by
  rw [List.take_add_one, hx]
  simp only [List.all_append, h, Option.toList_some, List.all_cons, List.all_nil, Bool.and_true, hp]
theorem all_no {p : Int → Bool} {l : List Int} {k : Nat} {x : Int} (hx : l[k]? = some x) (hp : p x = false) : l.all p = false := by
  rw [Bool.eq_false_iff]
  intro h
  rw [List.all_eq_true] at h
  have := h x (List.mem_of_getElem? hx)
  rw [hp] at this
  cases this

/- The pulses that a test picks, in order. -/
def selTo (p : Int → Bool) : Nat → List Int
  | 0 => []
  | k + 1 => selTo p k ++ (if p (k : Int) = true then [(k : Int)] else [])
theorem selTo_len (p : Int → Bool) (k : Nat) : (selTo p k).length ≤ k := by
  induction k with
  | zero => simp [selTo]
  | succ k ih => simp only [selTo, List.length_append]; split <;> simp <;> omega
theorem selTo_hit {p : Int → Bool} {k : Nat} (h : p (k : Int) = true) : selTo p (k + 1) = selTo p k ++ [(k : Int)] := by simp [selTo, h]
theorem selTo_miss {p : Int → Bool} {k : Nat} (h : p (k : Int) = false) : selTo p (k + 1) = selTo p k := by simp [selTo, h]
theorem GivesInts.of_row' {w w' : World} {v : Value} {xs : List Int} {base : Nat} (h : Row w' base v xs) (hB : w.heap.size ≤ base) (hl : xs.length ≤ 17592186044415) (hb : Below w.heap.size w w') : GivesInts w xs (.returned v) w' := by
  obtain ⟨A, c, rfl, hio⟩ := h.io hl
  exact ⟨A, c, rfl, hio.mono hB, hb⟩
theorem selTo_congr {p q : Int → Bool} {k : Nat} (h : ∀ i : Nat, i < k → p (i : Int) = q (i : Int)) : selTo p k = selTo q k := by
  induction k with
  | zero => rfl
  | succ k ih => simp only [selTo]; rw [ih fun i hi => h i (by omega), h k (by omega)]
theorem hasR_in {s : Int} {xs : List Int} {k : Int} (h : 0 ≤ k ∧ k < s) : hasR s xs k = memB xs k := by
  unfold hasR; rw [Int.emod_eq_of_lt h.1 h.2]

/- The sum of two rhythms; tilings. -/
theorem Only.cellAt {w w' : World} {g b i : Nat} (o : Only w w' (some ⟨g, 0, none⟩)) (hb : b < w.heap.size) (hne : b ≠ g) : w'.cell? ⟨b, i, none⟩ = w.cell? ⟨b, i, none⟩ :=
  World.cell?_of_block (w := w) (o.block b hb (by intro e; simp at e; omega))
theorem IR.onlyAt {w w' : World} {g : Nat} {A : Option Addr} {xs : List Int} {lo hi : Nat} (h : RB lo hi w A xs) (o : Only w w' (some ⟨g, 0, none⟩)) (hd : hi ≤ g ∨ g < lo) : IR w' A xs := by
  by_cases h0 : 0 < xs.length
  · exact h.1.only o fun a b ea eb => by have := h.2 h0 a ea; injection eb with eb; subst eb; simp; omega
  · exact ⟨h.1.1, fun h1 => absurd h1 h0⟩
theorem Row.onlyAt {w w' : World} {base g : Nat} {v : Value} {xs : List Int} (h : Row w base v xs) (o : Only w w' (some ⟨g, 0, none⟩)) (hg : g < base) : Row w' base v xs := by
  refine ⟨h.1, ?_⟩
  rcases h.2 with h' | ⟨g', cap, cur, e, hg', hh, r⟩
  · exact .inl h'
  · exact .inr ⟨g', cap, cur, e, hg', (o.block g' (heap_lt hh) (by intro e; simp at e; omega)).trans hh, r⟩
theorem Row.io' {w : World} {base n c : Nat} {A : Option Addr} {xs : List Int} (h : Row w base (.slice A n c) xs) (_hn : n = xs.length) (hl : xs.length ≤ 17592186044415) : IO w base A c xs := by
  obtain ⟨A1, c1, e, hio⟩ := h.io hl
  injection e with e1 e2 e3
  subst e1 e3
  exact hio
theorem Only.after {a b c : World} {A : Option Addr} (h : Only a b A) (k : Below a.heap.size b c) : Only a c A :=
  ⟨k.os.trans h.os, k.tape.trans h.tape, k.output.trans h.output, Nat.le_trans h.size k.size, fun i hi hn => (k.block i hi).trans (h.block i hi hn)⟩
theorem Blk.onlyAt {w w' : World} {g g' : Nat} {t : TypeId} {cs : Array Value} (h : Blk w g t cs) (o : Only w w' (some ⟨g', 0, none⟩)) (hne : g ≠ g') : Blk w' g t cs :=
  (o.block g h.lt (by intro e; simp at e; omega)).trans h
theorem Blk.at_ {w : World} {g : Nat} {t : TypeId} {cs : Array Value} (h : Blk w g t cs) {i : Nat} {v : Value} (hv : cs[i]? = some v) : w.cell? ⟨g, i, none⟩ = some v := (h.cell i).trans hv
def sumP (L : List Int) (p : Int) : Bool := decide (0 < L[p.toNat]?.getD 0)
/-- the beats of the sum -/
def sumL (s : Int) (xs ys : List Int) : List Int := selTo (sumP (sumC s xs ys)) s.toNat
/-- what a function that makes a rhythm hands back -/
def GivesRh (w : World) (s : Int) (xs : List Int) (e : Ending) (w' : World) : Prop := ∃ A c, e = .returned (.agg #[.int .i64 s, .slice A xs.length c]) ∧ IO w' w.heap.size A c xs ∧ Below w.heap.size w w'

/- Tilings: two ways to say that each pulse is a sum just once. -/
theorem sum_set {l : List Int} {i : Nat} (h : i < l.length) (y : Int) : (l.set i y).sum = l.sum - l[i]?.getD 0 + y := by
  induction l generalizing i with
  | nil => simp at h
  | cons x r ih =>
    cases i with
    | zero => simp; omega
    | succ i =>
      simp only [List.set_cons_succ, List.sum_cons, List.getElem?_cons_succ]
      rw [ih (by simpa using h)]
      omega
theorem inc_sum {l : List Int} {i : Nat} (h : i < l.length) : (inc l i).sum = l.sum + 1 := by
  unfold inc
  rw [sum_set h]
  omega
theorem inC_sum {s p : Int} {ys l : List Int} (hs : 1 ≤ s) (hl : l.length = s.toNat) (b : Nat) : (inC s p ys l b).sum = l.sum + b := by
  induction b with
  | zero => simp [inC]
  | succ b ih =>
    simp only [inC]
    have h0 := Int.emod_nonneg (p + ys[b]?.getD 0) (show s ≠ 0 by omega)
    have h1 := Int.emod_lt_of_pos (p + ys[b]?.getD 0) (show 0 < s by omega)
    rw [inc_sum (by rw [inC_len, hl]; omega), ih]
    omega
theorem zeros_sum (n : Nat) : (List.replicate n (0 : Int)).sum = 0 := by
  induction n with
  | zero => rfl
  | succ n ih => rw [List.replicate_succ, List.sum_cons, ih]; rfl
theorem outC_sum {s : Int} {xs ys : List Int} (hs : 1 ≤ s) (a : Nat) : (outC s xs ys a).sum = (a * ys.length : Nat) := by
  induction a with
  | zero => simp only [outC]; rw [zeros_sum]; simp
  | succ a ih =>
    simp only [outC]
    rw [inC_sum hs (outC_len _ _ _ _), ih, Nat.succ_mul]
    omega
theorem sumC_sum {s : Int} {xs ys : List Int} (hs : 1 ≤ s) : (sumC s xs ys).sum = (xs.length * ys.length : Nat) := outC_sum hs _
theorem selTo_full {p : Int → Bool} {k : Nat} : (selTo p k).length = k ↔ ∀ i : Nat, i < k → p (i : Int) = true := by
  induction k with
  | zero => simp [selTo]
  | succ k ih =>
    have hl := selTo_len p k
    cases hp : p (k : Int) with
    | true =>
      rw [selTo_hit hp, List.length_append]
      simp only [List.length_singleton]
      constructor
      · intro h i hi
        by_cases he : i = k
        · rw [he]; exact hp
        · exact ih.1 (by omega) i (by omega)
      · intro h
        have := ih.2 fun i hi => h i (by omega)
        omega
    | false =>
      rw [selTo_miss hp]
      constructor
      · intro h; omega
      · intro h; rw [h k (by omega)] at hp; cases hp
theorem ge_sum {l : List Int} (h : ∀ x ∈ l, 1 ≤ x) : (l.length : Int) ≤ l.sum := by
  induction l with
  | nil => simp
  | cons x r ih =>
    have h1 := h x (by simp)
    have h2 := ih fun y hy => h y (by simp [hy])
    simp only [List.length_cons, List.sum_cons]
    omega
theorem ones_of_sum {l : List Int} (h : ∀ x ∈ l, 1 ≤ x) (hs : l.sum = l.length) : ∀ x ∈ l, x = 1 := by
  induction l with
  | nil => simp
  | cons x r ih =>
    have h1 := h x (by simp)
    have hr : ∀ y ∈ r, 1 ≤ y := fun y hy => h y (by simp [hy])
    have h2 := ge_sum hr
    simp only [List.length_cons, List.sum_cons] at hs
    intro y hy
    rcases List.mem_cons.1 hy with rfl | hy
    · omega
    · exact ih hr (by omega) y hy
theorem sum_of_ones {l : List Int} (h : ∀ x ∈ l, x = 1) : l.sum = l.length := by
  induction l with
  | nil => rfl
  | cons x r ih =>
    have h1 := h x (by simp)
    have h2 := ih fun y hy => h y (by simp [hy])
    simp only [List.length_cons, List.sum_cons]
    omega

/- Whether two rhythms tile. -/
def tilesB (s : Int) (xs ys : List Int) : Bool := decide ((xs.length : Int) * (ys.length : Int) = s ∧ ((sumL s xs ys).length : Int) = s)
theorem tiles_btw {s : Int} {xs ys : List Int} (hx : rhOk s xs = true) : tilesB s xs ys = (sumC s xs ys).all (fun n => inB n 1 1) := by
  have hs := (rhOk_iff.1 hx).1
  have hl : (sumC s xs ys).length = s.toNat := sumC_len _ _ _
  have ht := sumC_sum (s := s) (xs := xs) (ys := ys) hs.1
  rw [Int.natCast_mul] at ht
  have hf : ((sumL s xs ys).length : Int) = s ↔ ∀ x ∈ sumC s xs ys, 1 ≤ x := by
    have h1 := selTo_full (p := sumP (sumC s xs ys)) (k := s.toNat)
    have h2 : ((sumL s xs ys).length : Int) = s ↔ (sumL s xs ys).length = s.toNat := by omega
    rw [h2]
    unfold sumL
    rw [h1]
    constructor
    · intro h x hx
      obtain ⟨i, hi⟩ := List.mem_iff_getElem?.1 hx
      have := h i (by have := (List.getElem?_eq_some_iff.1 hi).1; omega)
      unfold sumP at this
      rw [Int.toNat_natCast, hi] at this
      simp at this
      omega
    · intro h i hi
      have hi2 : i < (sumC s xs ys).length := by omega
      have := h _ (List.getElem_mem hi2)
      unfold sumP
      rw [Int.toNat_natCast, List.getElem?_eq_getElem hi2]
      simp
      omega
  rw [tilesB, Bool.eq_iff_iff, decide_eq_true_iff, List.all_eq_true, hf]
  constructor
  · rintro ⟨h1, h2⟩ x hx
    have := ones_of_sum h2 (by rw [ht, h1, hl]; omega) x hx
    exact inB_yes (by omega)
  · intro h
    have h1 : ∀ x ∈ sumC s xs ys, x = 1 := fun x hx => by have := inB_iff.1 (h x hx); omega
    have h2 := sum_of_ones h1
    refine ⟨?_, fun x hx => by have := h1 x hx; omega⟩
    rw [ht, hl] at h2
    omega

/- How many rhythms avoid an interval: the count over all codes is the reference's product. Plain laws. -/
/-- the codes below m with k beats that avoid d -/
def cntTo (n d k : Nat) : Nat → Nat
  | 0 => 0
  | m + 1 => cntTo n d k m + (if popc 24 m = k ∧ av n d m = true then 1 else 0)
theorem cntTo_le (n d k m : Nat) : cntTo n d k m ≤ m := by
  induction m with
  | zero => simp [cntTo]
  | succ m ih => simp only [cntTo]; split <;> omega
/-- the same for all k at once, as digits -/
def bB : Nat := 16777216
def genR (n d hi : Nat) : Nat → Nat
  | 0 => 0
  | m + 1 => genR n d hi m + (if av n d (hi + m) = true then bB ^ popc 24 m else 0)
def digs (f : Nat → Nat) : Nat → Nat
  | 0 => 0
  | K + 1 => digs f K + f K * bB ^ K
theorem digs_add (f g : Nat → Nat) (K : Nat) : digs (fun k => f k + g k) K = digs f K + digs g K := by
  induction K with
  | zero => rfl
  | succ K ih => simp only [digs, ih, Nat.add_mul]; omega
theorem digs_one (j K : Nat) : digs (fun k => if j = k then 1 else 0) K = if j < K then bB ^ j else 0 := by
  induction K with
  | zero => simp [digs]
  | succ K ih =>
    simp only [digs, ih]
    by_cases h : j = K
    · subst h; simp
    · by_cases h2 : j < K
      · simp [h, h2, show j < K + 1 by omega]
      · simp [h, h2, show ¬ j < K + 1 by omega]
theorem digs_zero (K : Nat) : digs (fun _ => 0) K = 0 := by
  induction K with
  | zero => rfl
  | succ K ih => simp [digs, ih]
theorem digs_congr {f g : Nat → Nat} (h : ∀ k, f k = g k) (K : Nat) : digs f K = digs g K := by rw [funext h]
theorem gen_digs (n d m K : Nat) (hK : 24 < K) : genR n d 0 m = digs (fun k => cntTo n d k m) K := by
  induction m with
  | zero => exact (digs_zero K).symm
  | succ m ih =>
    simp only [genR, cntTo, Nat.zero_add]
    rw [digs_add, ih]
    by_cases h : av n d m = true
    · have e : digs (fun k => if popc 24 m = k ∧ av n d m = true then 1 else 0) K = digs (fun k => if popc 24 m = k then 1 else 0) K := digs_congr (fun k => by simp [h]) K
      rw [if_pos h, e, digs_one, if_pos (by have := popc_le 24 m; omega)]
    · have e : digs (fun k => if popc 24 m = k ∧ av n d m = true then 1 else 0) K = digs (fun _ => 0) K := digs_congr (fun k => by simp [h]) K
      rw [if_neg h, e, digs_zero]
theorem digs_lt (f : Nat → Nat) (hf : ∀ k, f k < bB) (K : Nat) : digs f K < bB ^ K := by
  induction K with
  | zero => simp [digs]
  | succ K ih =>
    simp only [digs, Nat.pow_succ]
    have h1 : f K * bB ^ K ≤ (bB - 1) * bB ^ K := Nat.mul_le_mul_right _ (by have := hf K; omega)
    have h2 : (bB - 1) * bB ^ K + bB ^ K = bB ^ K * bB := by
      rw [← Nat.succ_mul, Nat.mul_comm]; rfl
    omega
theorem digs_inj (f g : Nat → Nat) (hf : ∀ k, f k < bB) (hg : ∀ k, g k < bB) (K : Nat) (h : digs f K = digs g K) : ∀ k, k < K → f k = g k := by
  induction K with
  | zero => intro k hk; omega
  | succ K ih =>
    simp only [digs] at h
    have h1 := digs_lt f hf K
    have h2 := digs_lt g hg K
    have e1 := Nat.div_eq_of_lt h1
    have e2 := Nat.div_eq_of_lt h2
    have hp : 0 < bB ^ K := Nat.pow_pos (by decide)
    have hk : f K = g K := by
      have := congrArg (fun x => x / bB ^ K) h
      rw [Nat.add_mul_div_right _ _ hp, Nat.add_mul_div_right _ _ hp, e1, e2] at this
      omega
    rw [hk] at h
    intro k hkK
    by_cases e : k = K
    · subst e; exact hk
    · exact ih (by omega) k (by omega)
/-- the count by a tree that leaves out what cannot be avoided any more -/
def dfs (n d : Nat) : Nat → Nat → Nat
  | 0, hi => if av n d hi = true then 1 else 0
  | m + 1, hi => if av n d hi = true then dfs n d m hi + bB * dfs n d m (hi + 2 ^ m) else 0
theorem genR_add (n d hi a : Nat) : ∀ m, a + m ≤ 2 ^ 24 → ∀ j, a = 2 ^ j → m ≤ 2 ^ j → j < 24 → genR n d hi (a + m) = genR n d hi a + bB * genR n d (hi + a) m := by
  intro m
  induction m with
  | zero => intro _ j _ _ _; simp [genR]
  | succ m ih =>
    intro h j hj hm hj24
    rw [← Nat.add_assoc]
    simp only [genR]
    rw [ih (by omega) j hj (by omega) hj24, ← Nat.add_assoc hi a m, Nat.mul_add]
    have hp : popc 24 (a + m) = popc 24 m + 1 := by
      have e : m = m % 2 ^ j + 2 ^ j * 0 := by rw [Nat.mod_eq_of_lt (by omega)]; simp
      have e2 : a + m = m + 2 ^ j * 1 := by rw [hj]; omega
      obtain ⟨t, ht⟩ : ∃ t, 24 = j + (t + 1) := ⟨23 - j, by omega⟩
      rw [ht, e2, popc_add j (t + 1) m 1 (by omega)]
      have e3 : popc (j + (t + 1)) m = popc j m + popc (t + 1) 0 := by
        have := popc_add j (t + 1) m 0 (by omega)
        rwa [Nat.mul_zero, Nat.add_zero] at this
      rw [e3]
      have z : ∀ q, popc q 0 = 0 := by intro q; induction q with | zero => rfl | succ q ih => simp [popc, ih]
      simp [popc, z]
    split
    · rw [hp, Nat.pow_succ, Nat.mul_comm (bB ^ popc 24 m) bB]; omega
    · omega
theorem tb_sub {hi m j p : Nat} (hm : j < 2 ^ m) (hd : 2 ^ m ∣ hi) (h : hi.testBit p = true) : (hi + j).testBit p = true := by
  obtain ⟨q, rfl⟩ := hd
  rw [Nat.testBit_two_pow_mul_add _ hm]
  rw [Nat.testBit_two_pow_mul] at h
  simp only [Bool.and_eq_true, decide_eq_true_eq] at h
  rw [if_neg (by omega)]
  exact h.2
theorem gen_zero {n d m hi : Nat} (hdn : d ≤ n) (hdv : 2 ^ m ∣ hi) (hb : hi + 2 ^ m ≤ 2 ^ n) (h : ¬ av n d hi = true) : ∀ k, k ≤ 2 ^ m → genR n d hi k = 0 := by
  intro k
  induction k with
  | zero => intro _; rfl
  | succ k ih =>
    intro hk
    simp only [genR]
    rw [ih (by omega), if_neg]
    intro h2
    exact h (av_mono hdn (by omega) (by omega) (fun p hp => tb_sub (m := m) (j := k) (by omega) hdv hp) h2)
theorem dfs_gen {n d : Nat} (hn : n ≤ 24) (hdn : d ≤ n) (m : Nat) : ∀ hi, m ≤ n → 2 ^ m ∣ hi → hi + 2 ^ m ≤ 2 ^ n → dfs n d m hi = genR n d hi (2 ^ m) := by
  induction m with
  | zero => intro hi _ _ _
            have z : ∀ q, popc q 0 = 0 := by intro q; induction q with | zero => rfl | succ q ih => simp [popc, ih]
            simp [dfs, genR, z]
  | succ m ih =>
    intro hi hmn hdv hb
    have e : 2 ^ (m + 1) = 2 ^ m + 2 ^ m := by rw [Nat.pow_succ]; omega
    have hdv' : 2 ^ m ∣ hi := Nat.dvd_trans (Nat.pow_dvd_pow 2 (by omega)) hdv
    by_cases h : av n d hi = true
    · simp only [dfs, if_pos h]
      have hle : 2 ^ (m + 1) ≤ 2 ^ 24 := Nat.pow_le_pow_right (by omega) (by omega)
      rw [ih hi (by omega) hdv' (by omega), ih (hi + 2 ^ m) (by omega) ((Nat.dvd_add_right hdv').2 (Nat.dvd_refl _)) (by omega), e,
        genR_add n d hi (2 ^ m) (2 ^ m) (by omega) m rfl (Nat.le_refl _) (by omega)]
    · simp only [dfs, if_neg h]
      exact (gen_zero hdn hdv hb h _ (Nat.le_refl _)).symm

/-! the reference's numbers -/
def chTo (n k : Int) : Nat → Int
  | 0 => 1
  | i + 1 => (chTo n k i * (n - k + ((i : Int) + 1))) / ((i : Int) + 1)
def chI (n k : Int) : Int := if k < 0 ∨ n < k then 0 else chTo n k k.toNat
def l08c (m k : Int) : Int := if k = 0 then 1 else if m < 2 * k then 0 else chI (m - k - 1) (k - 1) * m / k
/-- one place of the product raised -/
def bump (l : List Int) (i : Nat) (x : Int) : List Int := l.set i (wrap64 (l[i]?.getD 0 + wrap64 x))
/-- the inner loop: the places a, a + 1, .. are raised, b of them -/
def inTo (m : Int) (a : Nat) (v : Int) (next : List Int) : Nat → List Int
  | 0 => next
  | b + 1 => bump (inTo m a v next b) (a + b) (v * l08c m b)
/-- the middle loop: the first a places are through -/
def midTo (m : Int) (k : Nat) (ways : List Int) : Nat → List Int
  | 0 => List.replicate (k + 1) 0
  | a + 1 => inTo m a (ways[a]?.getD 0) (midTo m k ways a) (k + 1 - a)
def waysTo (m : Int) (k : Nat) : Nat → List Int
  | 0 => (List.replicate (k + 1) 0).set 0 1
  | i + 1 => midTo m k (waysTo m k i) (k + 1)
def refG (n g k : Nat) : Int := (waysTo ((n : Int) / (g : Int)) k g)[k]?.getD 0
def refNG (n g k : Nat) : Nat := if k ≤ n then (refG n g k).toNat else 0
def checkG (n g : Nat) : Bool := (List.range (n + 1)).all fun k => decide (0 ≤ refG n g k) && decide (refG n g k < 16777216)
def checkV (n g v : Nat) : Bool := (List.range n).all fun d => d == 0 || !(Nat.gcd n d == g) || dfs n d n 0 == v
def forceV (n g : Nat) : Nat → Bool
  | 0 => false
  | v + 1 => checkV n g (v + 1)
theorem forceV_open {n g : Nat} : ∀ {v : Nat}, forceV n g v = true → checkV n g v = true
  | 0, h => by cases h
  | _ + 1, h => h
def top (n g : Nat) : Nat := digs (refNG n g) 25
def checkAt (n g : Nat) : Bool := g == 0 || !(n % g == 0) || (checkG n g && forceV n g (top n g))
def checkN (n : Nat) : Bool := (List.range (n / 2 + 1)).all (checkAt n)

/- Pulses that are no sum; the rhythm of the sum. -/
theorem selTo_mem {p : Int → Bool} {k : Nat} {x : Int} : x ∈ selTo p k ↔ ∃ i : Nat, i < k ∧ x = (i : Int) ∧ p (i : Int) = true := by
  induction k with
  | zero => simp [selTo]
  | succ k ih =>
    cases hp : p (k : Int) with
    | true =>
      rw [selTo_hit hp, List.mem_append, ih]
      simp only [List.mem_singleton]
      constructor
      · rintro (⟨i, h1, h2, h3⟩ | h)
        · exact ⟨i, by omega, h2, h3⟩
        · exact ⟨k, by omega, h, hp⟩
      · rintro ⟨i, h1, h2, h3⟩
        by_cases he : i = k
        · right; rw [h2, he]
        · left; exact ⟨i, by omega, h2, h3⟩
    | false =>
      rw [selTo_miss hp, ih]
      constructor
      · rintro ⟨i, h1, h2, h3⟩; exact ⟨i, by omega, h2, h3⟩
      · rintro ⟨i, h1, h2, h3⟩
        by_cases he : i = k
        · rw [he, hp] at h3; cases h3
        · exact ⟨i, by omega, h2, h3⟩
theorem selTo_asc (p : Int → Bool) (k : Nat) : (selTo p k).Pairwise (· < ·) := by
  induction k with
  | zero => simp [selTo]
  | succ k ih =>
    cases hp : p (k : Int) with
    | true =>
      rw [selTo_hit hp, List.pairwise_append]
      refine ⟨ih, by simp, fun x hx y hy => ?_⟩
      obtain ⟨i, h1, h2, _⟩ := selTo_mem.1 hx
      simp at hy
      omega
    | false => rw [selTo_miss hp]; exact ih
theorem selTo_ok {s : Int} (hs : 1 ≤ s ∧ s ≤ 24) (p : Int → Bool) : rhOk s (selTo p s.toNat) = true := by
  refine rhOk_iff.2 ⟨hs, fun x hx => ?_, selTo_asc _ _⟩
  obtain ⟨i, h1, h2, _⟩ := selTo_mem.1 hx
  omega
theorem memB_sel {p : Int → Bool} {n k : Nat} (hk : k < n) : memB (selTo p n) (k : Int) = p (k : Int) := by
  rw [Bool.eq_iff_iff, memB_iff, selTo_mem]
  constructor
  · rintro ⟨i, h1, h2, h3⟩
    have : i = k := by omega
    rw [← this]; exact h3
  · intro h; exact ⟨k, hk, rfl, h⟩
def othP (xs : List Int) (p : Int) : Bool := !memB xs p
def othL (s : Int) (xs : List Int) : List Int := selTo (othP xs) s.toNat
set_option maxHeartbeats 1000000 in
theorem others_any (s : Int) (A : Option Addr) (c : Nat) (xs : List Int) (w : World) (hs : 1 ≤ s ∧ s ≤ 24) (hx : IR w A xs) :
    Calls Try.prog 35 #[.agg #[.int .i64 s, .slice A xs.length c]] w (GivesRh w s (othL s xs)) := by
  obtain ⟨hs1, hs2⟩ := hs
  obtain ⟨W0, hW0⟩ : ∃ W0, W0 = ((w.alloc (.cells #[.int .i64 s, .slice A xs.length c] 26)).alloc (.cells #[.int .i64 0, .slice none 0 0] 26)).alloc (.cells #[.int .i64 s, .slice none 0 0] 26) := ⟨_, rfl⟩
  have bw : Below w.heap.size w W0 := by rw [hW0]; exact ((below_alloc _ _).alloc (by simp) _).alloc (by simp <;> omega) _
  have hz : w.heap.size + 3 ≤ W0.heap.size := by rw [hW0]; simp
  have k0 : W0.cell? ⟨w.heap.size, 0, none⟩ = some (.int .i64 s) := by rw [hW0]; simp [go_sem]
  have k1 : W0.cell? ⟨w.heap.size, 1, none⟩ = some (.slice A xs.length c) := by rw [hW0]; simp [go_sem]
  have HR0 : Blk W0 (w.heap.size + 1) 26 #[.int .i64 0, .slice none 0 0] := by rw [hW0]; have := (Blk.new (w.alloc (.cells #[.int .i64 s, .slice A xs.length c] 26)) 26 #[.int .i64 0, .slice none 0 0]).alloc (.cells #[.int .i64 s, .slice none 0 0] 26); simpa using this
  have HG0 : Blk W0 (w.heap.size + 1 + 1) 26 #[.int .i64 s, .slice none 0 0] := by rw [hW0]; have := Blk.new ((w.alloc (.cells #[.int .i64 s, .slice A xs.length c] 26)).alloc (.cells #[.int .i64 0, .slice none 0 0] 26)) 26 #[.int .i64 s, .slice none 0 0]; simpa using this
  have HI := Bx.mk ((RB.of_ir hx).below bw (Nat.le_refl _))
  clear hx
  obtain ⟨gb, hgb⟩ : ∃ gb, gb = w.heap.size := ⟨_, rfl⟩
  obtain ⟨g, hg⟩ : ∃ g, g = w.heap.size + 1 + 1 := ⟨_, rfl⟩
  obtain ⟨gr, hgr⟩ : ∃ gr, gr = w.heap.size + 1 := ⟨_, rfl⟩
  rw [← hg] at HG0
  rw [← hgr] at HR0
  have hg2 : g < W0.heap.size := by omega
  have hg3 : gr < g := by omega
  have hg4 : w.heap.size ≤ gr := by omega
  have hg5 : w.heap.size < gr := by omega
  have HS : Bx (othL s xs = selTo (othP xs) s.toNat) := ⟨rfl⟩
  go_enter Try.func35, Try.ntmps35
  go_wp2_with fail
  rw [← hW0, ← hg, ← hgr]
  clear hg hgr hW0
  go_loopw [10] (fun i wr => ∃ (k : Nat) (v : Value), (k : Int) ≤ s ∧ i = .int .i64 k ∧ Blk wr g 26 #[.int .i64 s, v] ∧ Row wr W0.heap.size v (selTo (othP xs) k) ∧ Only W0 wr (some ⟨g, 0, none⟩)) (fun i _ => (s - intOf i).toNat)
  case atStart => exact ⟨0, _, by omega, rfl, HG0, Row.nil _ _, Only.refl _ _⟩
  case round =>
    obtain ⟨k, v, hk, rfl, hG, hrow, ho⟩ := hrel
    clear HG0
    obtain ⟨A', c', rfl⟩ := hrow.slice
    have hlen := selTo_len (othP xs) k
    have HO := Bx.mk hrow
    have HN := Bx.mk ho
    have HR := Bx.mk (HR0.onlyAt ho (by omega))
    have HX := Bx.mk (IR.onlyAt HI.out ho (by omega))
    replace k0 := (ho.cellAt (by omega) (by omega)).trans k0
    replace k1 := (ho.cellAt (by omega) (by omega)).trans k1
    have hzr := ho.size
    have HG := Bx.mk hG
    clear hrow ho hG
    by_cases hlt : (k : Int) < s
    · have h1e : Bx (hasR s xs k = memB xs k) := ⟨hasR_in (by omega)⟩
      cases hm : memB xs k with
      | false =>
        have HH := Bx.mk (selTo_hit (p := othP xs) (k := k) (by unfold othP; rw [hm]; rfl))
        go_wp2_with fail
        refine (has_any _ _ _ _ _ _ ⟨hs1, hs2⟩ (by omega) (by exact HX.out)).mono ?_
        rw [h1e.out, hm]
        rintro e w2 ⟨rfl, b⟩
        have hG2 := HG.out.below b (by omega)
        have cg0 := hG2.at_ (i := 0) rfl
        have cg1 := hG2.at_ (i := 1) rfl
        have fg1 := hG2.frozen 1
        have HG2 := Bx.mk hG2
        have HN2 := Bx.mk (HN.out.after (b.mono hzr))
        have HO2 := Bx.mk (HO.out.below b (Nat.le_refl _))
        have hz2 := b.size
        clear b hG2
        go_wp2_with (at_builtin; go_must (refine wpList_app1 rfl _ _ rfl W0.heap.size _ (selTo (othP xs) k) (k : Int) rfl rfl (by exact HO2.out) (by omega) (by exact Nat.le_trans hzr hz2) ?_); intro v1 w4 hown1 hb1; have hG4 := HG2.out.below hb1 (by omega); have cq1 := hG4.at_ (i := 1) rfl; have fq1 := hG4.frozen 1; obtain ⟨A5, c5, rfl⟩ := hown1.slice; obtain ⟨n5, hn5⟩ : ∃ n5, n5 = (selTo (othP xs) k ++ [(k : Int)]).length := ⟨_, rfl⟩; rw [← hn5] at hown1; rw [← hn5]; clear hn5)
        have HG5 := Bx.mk (hG4.set 1 (.slice A5 n5 c5))
        have hoo : Only W0 (w4.setCell ⟨g, 1, none⟩ (.slice A5 n5 c5)) (some ⟨g, 0, none⟩) := (HN2.out.after hb1).set _
        have HN5 := Bx.mk hoo
        have HO5 := Bx.mk (hown1.onlyAt ((Only.refl w4 (some ⟨g, 0, none⟩)).set (i := 1) (.slice A5 n5 c5)) (by omega))
        clear hoo hown1 hb1 hG4
        go_wp2_with fail
        go_roundw
        case rel => exact ⟨k + 1, _, by omega, by go_num, HG5.out, by rw [HH.out]; exact HO5.out, HN5.out⟩
        case measure => simp [intOf]; omega
      | true =>
        have HH := Bx.mk (selTo_miss (p := othP xs) (k := k) (by unfold othP; rw [hm]; rfl))
        go_wp2_with fail
        refine (has_any _ _ _ _ _ _ ⟨hs1, hs2⟩ (by omega) (by exact HX.out)).mono ?_
        rw [h1e.out, hm]
        rintro e w2 ⟨rfl, b⟩
        have HG2 := Bx.mk (HG.out.below b (by omega))
        have HN2 := Bx.mk (HN.out.after (b.mono hzr))
        have HO2 := Bx.mk (HO.out.below b (Nat.le_refl _))
        clear b
        go_wp2_with fail
        go_roundw
        case rel => exact ⟨k + 1, _, by omega, by go_num, HG2.out, by rw [HH.out]; exact HO2.out, HN2.out⟩
        case measure => simp [intOf]; omega
    · have hks : k = s.toNat := by omega
      have HS2 : Bx (othL s xs = selTo (othP xs) k) := ⟨by rw [HS.out, hks]⟩
      clear hks
      have cg0 := HG.out.at_ (i := 0) rfl
      have cg1 := HG.out.at_ (i := 1) rfl
      have cr0 := HR.out.at_ (i := 0) rfl
      have cr1 := HR.out.at_ (i := 1) rfl
      have fr0 := HR.out.frozen 0
      have fr1 := HR.out.frozen 1
      have hln2 : (selTo (othP xs) k).length ≤ 17592186044415 := by omega
      have HF := Bx.mk ((HR.out.set 0 (.int .i64 s)).set 1 (.slice A' (selTo (othP xs) k).length c'))
      have HIO := Bx.mk (((HO.out.io' rfl hln2).setLow (p := ⟨gr, 0, none⟩) (show gr < W0.heap.size by omega) (.int .i64 s)).setLow (p := ⟨gr, 1, none⟩) (show gr < W0.heap.size by omega) (.slice A' (selTo (othP xs) k).length c'))
      have hbl : Below w.heap.size w wr := bw.trans (HN.out.below bw.size (by intro x hx; injection hx with hx; subst hx; simp; omega))
      have HBL := Bx.mk ((hbl.setCell (p := ⟨gr, 0, none⟩) hg4 (.int .i64 s)).setCell (p := ⟨gr, 1, none⟩) hg4 (.slice A' (selTo (othP xs) k).length c'))
      have hwm : w.heap.size ≤ W0.heap.size := by omega
      clear hbl
      go_wp2_with fail
      refine bodyPost_ret (v := .agg #[.int .i64 s, .slice A' (selTo (othP xs) k).length c']) (by simp [results, Try.results35, go_sem, HF.out.at_ (i := 0) rfl, HF.out.at_ (i := 1) rfl]) rfl ⟨A', c', ?_, ?_, HBL.out⟩
      · rw [HS2.out]
      · rw [HS2.out]; exact HIO.out.mono hwm
def gapP (L : List Int) (p : Int) : Bool := L[p.toNat]?.getD 0 == 0
def gapsL (s : Int) (xs : List Int) (t : Int) (ys : List Int) : List Int := if twoOk s xs t ys = true then selTo (gapP (sumC s xs ys)) s.toNat else []
theorem gapsL_len (s : Int) (xs : List Int) (t : Int) (ys : List Int) : (gapsL s xs t ys).length ≤ 24 := by
  unfold gapsL
  split
  · rename_i h
    have := (rhOk_iff.1 (twoOk_iff.1 h).1).1
    have := selTo_len (gapP (sumC s xs ys)) s.toNat
    omega
  · simp
theorem oth_gaps {s : Int} {xs ys : List Int} : othL s (sumL s xs ys) = selTo (gapP (sumC s xs ys)) s.toNat := by
  have hb : AllB (sumC s xs ys) (xs.length * ys.length : Nat) := outC_bd s xs ys xs.length
  have hl : (sumC s xs ys).length = s.toNat := sumC_len _ _ _
  refine selTo_congr fun i hi => ?_
  unfold othP sumL gapP
  rw [memB_sel hi]
  unfold sumP
  rw [Int.toNat_natCast]
  have h1 := hb i _ (List.getElem?_eq_getElem (show i < (sumC s xs ys).length by omega))
  rw [List.getElem?_eq_getElem (show i < (sumC s xs ys).length by omega)]
  simp only [Option.getD_some]
  rw [Bool.eq_iff_iff]
  simp
  omega

/- The first rhythm that avoids an interval: plain laws. -/
/-- the last of the m codes from lo on that answers -/
def fd (P : Nat → Bool) (lo : Nat) : Nat → Option Nat
  | 0 => none
  | j + 1 => if P (lo + j) = true then some (lo + j) else fd P lo j
theorem fd_none {P : Nat → Bool} {lo : Nat} : ∀ {m : Nat}, (∀ j, j < m → P (lo + j) = false) → fd P lo m = none := by
  intro m
  induction m with
  | zero => intro _; rfl
  | succ m ih => intro h; simp only [fd]; rw [if_neg (by rw [h m (by omega)]; simp), ih fun j hj => h j (by omega)]
theorem fd_one {P : Nat → Bool} {lo : Nat} (h : P lo = true) : fd P lo 1 = some lo := by simp [fd, h]
theorem fd_add (P : Nat → Bool) (lo a : Nat) : ∀ b, fd P lo (a + b) = (fd P (lo + a) b).or (fd P lo a) := by
  intro b
  induction b with
  | zero => simp [fd]
  | succ b ih =>
    rw [← Nat.add_assoc]
    simp only [fd]
    rw [Nat.add_assoc lo a b]
    by_cases h : P (lo + (a + b)) = true
    · rw [if_pos h, if_pos h]; rfl
    · rw [if_neg h, if_neg h, ih]
theorem fd_congr {P Q : Nat → Bool} {lo : Nat} : ∀ {m : Nat}, (∀ j, j < m → P (lo + j) = Q (lo + j)) → fd P lo m = fd Q lo m := by
  intro m
  induction m with
  | zero => intro _; rfl
  | succ m ih => intro h; simp only [fd]; rw [h m (by omega), ih fun j hj => h j (by omega)]
theorem popc_zero : ∀ q, popc q 0 = 0 := by intro q; induction q with | zero => rfl | succ q ih => simp [popc, ih]
theorem popc_hi {m hi j : Nat} (hm : m ≤ 24) (hdv : 2 ^ m ∣ hi) (hj : j < 2 ^ m) : popc 24 (hi + j) = popc 24 hi + popc m j := by
  obtain ⟨q, rfl⟩ := hdv
  obtain ⟨g, hg⟩ : ∃ g, 24 = m + g := ⟨24 - m, by omega⟩
  have h1 := popc_add m g j q hj
  have h2 := popc_add m g 0 q (Nat.lt_of_le_of_lt (Nat.zero_le _) hj)
  rw [popc_zero, Nat.zero_add, Nat.zero_add] at h2
  rw [hg, Nat.add_comm (2 ^ m * q) j, h1, h2, Nat.add_comm]
theorem popc_bit {m hi : Nat} (hm : m < 24) (hdv : 2 ^ (m + 1) ∣ hi) : popc 24 (hi + 2 ^ m) = popc 24 hi + 1 := by
  rw [popc_hi (by omega) hdv (by rw [Nat.pow_succ]; have := Nat.two_pow_pos m; omega)]
  have h1 := popc_add m 1 0 1 (Nat.two_pow_pos m)
  rw [Nat.zero_add, Nat.mul_one, popc_zero] at h1
  rw [h1]
  simp [popc]
theorem popc_pos {m j : Nat} (h0 : 0 < j) (hj : j < 2 ^ m) : 0 < popc m j := by
  induction m generalizing j with
  | zero => simp at hj; omega
  | succ m ih =>
    simp only [popc]
    by_cases h : j % 2 = 1
    · omega
    · have := @ih (j / 2) (by omega) (by rw [Nat.pow_succ] at hj; omega)
      omega
theorem tb_add {hi m q : Nat} (hdv : 2 ^ (m + 1) ∣ hi) : (hi + 2 ^ m).testBit q = (hi.testBit q || decide (m = q)) := by
  obtain ⟨t, rfl⟩ := hdv
  have hlt : 2 ^ m < 2 ^ (m + 1) := Nat.pow_lt_pow_right (by omega) (by omega)
  rw [Nat.testBit_two_pow_mul_add _ hlt, Nat.testBit_two_pow_mul, Nat.testBit_two_pow]
  by_cases h : q < m + 1
  · rw [if_pos h]; simp [show ¬ m + 1 ≤ q by omega]
  · rw [if_neg h]; simp [show m + 1 ≤ q by omega, show ¬ m = q by omega]
theorem tb_low {hi m q : Nat} (hdv : 2 ^ m ∣ hi) (hq : q < m) : hi.testBit q = false := by
  obtain ⟨t, rfl⟩ := hdv
  rw [Nat.testBit_two_pow_mul]; simp [show ¬ m ≤ q by omega]
theorem modc {a n : Nat} (h : a < 2 * n) : a % n = if a < n then a else a - n := by
  by_cases h1 : a < n
  · rw [if_pos h1, Nat.mod_eq_of_lt h1]
  · rw [if_neg h1, Nat.mod_eq_sub_mod (by omega), Nat.mod_eq_of_lt (by omega)]
theorem av_next {n d m hi : Nat} (hd : 1 ≤ d) (hdn : d < n) (hmn : m < n) (hdv : 2 ^ (m + 1) ∣ hi) (hb : hi + 2 ^ (m + 1) ≤ 2 ^ n) (ha : av n d hi = true) :
    av n d (hi + 2 ^ m) = (!(hi.testBit ((m + d) % n)) && !(hi.testBit ((m + (n - d)) % n))) := by
  have hlt : 2 ^ m < 2 ^ (m + 1) := Nat.pow_lt_pow_right (by omega) (by omega)
  rw [av_iff (by omega) (by omega)] at ha
  rw [Bool.eq_iff_iff, av_iff (by omega) (by omega)]
  simp only [tb_add hdv, Bool.and_eq_true, Bool.not_eq_true', Bool.or_eq_true, decide_eq_true_eq]
  have e1 := @modc (m + d) n (by omega)
  have e2 := @modc (m + (n - d)) n (by omega)
  constructor
  · intro h
    constructor
    · have := h m hmn
      rcases hx : hi.testBit ((m + d) % n) with _ | _
      · rfl
      · exact absurd ⟨.inr rfl, .inl hx⟩ this
    · have hq : (m + (n - d)) % n < n := Nat.mod_lt _ (by omega)
      have := h _ hq
      rcases hx : hi.testBit ((m + (n - d)) % n) with _ | _
      · rfl
      · refine absurd ⟨.inl hx, .inr ?_⟩ this
        have e3 := @modc ((m + (n - d)) % n + d) n (by omega)
        rw [e3, e2]; split <;> split <;> omega
  · rintro ⟨h1, h2⟩ p hp ⟨h3, h4⟩
    have e3 := @modc (p + d) n (by omega)
    rcases h3 with h3 | rfl
    · rcases h4 with h4 | h4
      · exact ha p hp ⟨h3, h4⟩
      · have : (m + (n - d)) % n = p := by
          rw [e2]; rw [h4, e3]; split <;> split <;> omega
        rw [this, h3] at h2; cases h2
    · rcases h4 with h4 | h4
      · rw [h4] at h1; cases h1
      · rw [e3] at h4
        exfalso
        revert h4; split <;> intro h4 <;> omega
/-- the beats of a code -/
def btP (n c : Nat) (p : Int) : Bool := c.testBit (n - 1 - p.toNat)
def bt (n c : Nat) : List Int := selTo (btP n c) n
theorem selTo_stop {p : Int → Bool} {a : Nat} : ∀ b, (∀ i : Nat, a ≤ i → i < a + b → p (i : Int) = false) → selTo p (a + b) = selTo p a := by
  intro b
  induction b with
  | zero => intro _; rfl
  | succ b ih => intro h; rw [← Nat.add_assoc, selTo_miss (h _ (by omega) (by omega)), ih fun i h1 h2 => h i h1 (by omega)]
theorem bt_stop {n c m : Nat} (hmn : m ≤ n) (hdv : 2 ^ m ∣ c) : bt n c = selTo (btP n c) (n - m) := by
  unfold bt
  have := @selTo_stop (btP n c) (n - m) m fun i h1 h2 => tb_low hdv (by simp only [Int.toNat_natCast]; omega)
  rwa [Nat.sub_add_cancel hmn] at this
theorem bt_next {n m hi : Nat} (hmn : m < n) (hdv : 2 ^ (m + 1) ∣ hi) : bt n (hi + 2 ^ m) = bt n hi ++ [((n - (m + 1) : Nat) : Int)] := by
  have hdv' : 2 ^ m ∣ hi := Nat.dvd_trans (Nat.pow_dvd_pow 2 (by omega)) hdv
  rw [bt_stop (m := m) (by omega) ((Nat.dvd_add_right hdv').2 (Nat.dvd_refl _)), bt_stop (m := m + 1) (by omega) hdv]
  rw [show n - m = (n - (m + 1)) + 1 by omega]
  rw [selTo_hit (by unfold btP; rw [tb_add hdv, Int.toNat_natCast]; simp; right; omega)]
  congr 1
  refine selTo_congr fun i hi2 => ?_
  unfold btP
  rw [tb_add hdv, Int.toNat_natCast]
  simp; intro h; omega
theorem has_bt {n c k : Nat} (hk : k < n) : memB (bt n c) (k : Int) = c.testBit (n - 1 - k) := by
  unfold bt; rw [memB_sel hk]; unfold btP; rw [Int.toNat_natCast]
/-- the search of the reference: m pulses are left, k beats are lacking -/
def srch (n d : Nat) : Nat → List Int → Nat → Option (List Int)
  | _, S, 0 => some S
  | 0, _, _ + 1 => none
  | m + 1, S, k + 1 => if m + 1 < k + 1 then none else
      (if (!hasR n S (((n - (m + 1) : Nat) : Int) + d) && !hasR n S (((n - (m + 1) : Nat) : Int) - d)) = true then srch n d m (S ++ [((n - (m + 1) : Nat) : Int)]) k else none).or (srch n d m S (k + 1))
theorem conf_bit {n d m hi : Nat} (hd : 1 ≤ d) (hdn : d < n) (hmn : m < n) :
    (!hasR n (bt n hi) (((n - (m + 1) : Nat) : Int) + d) && !hasR n (bt n hi) (((n - (m + 1) : Nat) : Int) - d)) = (!(hi.testBit ((m + d) % n)) && !(hi.testBit ((m + (n - d)) % n))) := by
  have e1 := @modc (m + d) n (by omega)
  have e2 := @modc (m + (n - d)) n (by omega)
  have e3 := @modc (n - (m + 1) + d) n (by omega)
  have e4 := @modc (n - (m + 1) + (n - d)) n (by omega)
  have h1 : (((n - (m + 1) : Nat) : Int) + d) % (n : Int) = (((n - (m + 1) + d) % n : Nat) : Int) := by
    rw [Int.natCast_emod, Int.natCast_add]
  have h2 : (((n - (m + 1) : Nat) : Int) - d) % (n : Int) = (((n - (m + 1) + (n - d)) % n : Nat) : Int) := by
    rw [Int.natCast_emod, ← Int.add_emod_right]
    congr 1
    omega
  unfold hasR
  rw [h1, h2, has_bt (Nat.mod_lt _ (by omega)), has_bt (Nat.mod_lt _ (by omega))]
  rw [show n - 1 - (n - (m + 1) + d) % n = (m + (n - d)) % n by rw [e2, e3]; split <;> split <;> omega]
  rw [show n - 1 - (n - (m + 1) + (n - d)) % n = (m + d) % n by rw [e1, e4]; split <;> split <;> omega]
  rw [Bool.and_comm]
def fP (n d k c : Nat) : Bool := popc 24 c == k && av n d c
theorem srch_fd {n d : Nat} (hn : n ≤ 24) (hd : 1 ≤ d) (hdn : d < n) : ∀ m hi k, m ≤ n → 2 ^ m ∣ hi → hi + 2 ^ m ≤ 2 ^ n → av n d hi = true →
    srch n d m (bt n hi) k = (fd (fP n d (popc 24 hi + k)) hi (2 ^ m)).map (bt n) := by
  have zero : ∀ m hi, m ≤ n → 2 ^ m ∣ hi → hi + 2 ^ m ≤ 2 ^ n → av n d hi = true → some (bt n hi) = (fd (fP n d (popc 24 hi + 0)) hi (2 ^ m)).map (bt n) := by
    intro m hi hm hdv hb ha
    have e : 2 ^ m = 1 + (2 ^ m - 1) := by have := Nat.two_pow_pos m; omega
    rw [e, fd_add, fd_none fun j hj => ?_]
    · have : fP n d (popc 24 hi + 0) hi = true := by simp [fP, ha]
      rw [fd_one this]; rfl
    · have hp : popc 24 (hi + (1 + j)) = popc 24 hi + popc m (1 + j) := popc_hi (by omega) hdv (by omega)
      have h0 := @popc_pos m (1 + j) (by omega) (by omega)
      simp only [fP, Nat.add_assoc]
      rw [hp]
      have : (popc 24 hi + popc m (1 + j) == popc 24 hi + 0) = false := by simp; omega
      rw [this]; rfl
  intro m
  induction m with
  | zero =>
    intro hi k hm hdv hb ha
    cases k with
    | zero => exact zero 0 hi hm hdv hb ha
    | succ k =>
      have : fP n d (popc 24 hi + (k + 1)) hi = false := by simp [fP]
      simp [srch, fd, this]
  | succ m ih =>
    intro hi k hm hdv hb ha
    cases k with
    | zero => exact zero (m + 1) hi hm hdv hb ha
    | succ k =>
      simp only [srch]
      by_cases hk : m + 1 < k + 1
      · rw [if_pos hk, fd_none fun j hj => ?_]
        · rfl
        · have hp : popc 24 (hi + j) = popc 24 hi + popc (m + 1) j := popc_hi (by omega) hdv hj
          have := popc_le (m + 1) j
          simp only [fP]
          rw [hp]
          have : (popc 24 hi + popc (m + 1) j == popc 24 hi + (k + 1)) = false := by simp; omega
          rw [this]; rfl
      · rw [if_neg hk]
        have e : 2 ^ (m + 1) = 2 ^ m + 2 ^ m := by rw [Nat.pow_succ]; omega
        have hdv' : 2 ^ m ∣ hi := Nat.dvd_trans (Nat.pow_dvd_pow 2 (by omega)) hdv
        have hdv2 : 2 ^ m ∣ hi + 2 ^ m := (Nat.dvd_add_right hdv').2 (Nat.dvd_refl _)
        rw [e, fd_add, Option.map_or, ← ih hi (k + 1) (by omega) hdv' (by omega) ha, conf_bit hd hdn (by omega), ← av_next hd hdn (by omega) hdv (by omega) ha]
        congr 1
        by_cases hav : av n d (hi + 2 ^ m) = true
        · rw [if_pos hav, ← bt_next (by omega) hdv, ih (hi + 2 ^ m) k (by omega) hdv2 (by omega) hav, popc_bit (by omega) hdv]
          rw [show popc 24 hi + 1 + k = popc 24 hi + (k + 1) by omega]
        · rw [if_neg hav, fd_none fun j hj => ?_]
          · rfl
          · have : av n d (hi + 2 ^ m + j) = false := by
              rw [Bool.eq_false_iff]
              intro h2
              exact hav (av_mono (by omega) (by omega) (by omega) (fun p hp => tb_sub (m := m) (j := j) hj hdv2 hp) h2)
            simp [fP, this]
theorem av_zero (n d : Nat) : av n d 0 = true := by simp [av]
theorem bt_zero (n : Nat) : bt n 0 = [] := by
  have := @bt_stop n 0 n (Nat.le_refl _) ⟨0, by simp⟩
  rw [this, Nat.sub_self]; rfl
/-- what both hand back -/
def firstR (n d k : Nat) : Option (List Int) := (fd (fP n d k) 0 (2 ^ n)).map (bt n)
theorem srch_first {n d k : Nat} (hn : n ≤ 24) (hd : 1 ≤ d) (hdn : d < n) : srch n d n [] k = firstR n d k := by
  have := srch_fd hn hd hdn n 0 k (Nat.le_refl _) ⟨0, by simp⟩ (by omega) (av_zero n d)
  rwa [bt_zero, popc_zero, Nat.zero_add] at this

/- The rhythm with a code. -/
theorem bit_form {n c k : Nat} (_hk : k < n) (hn : n ≤ 24) (hc : c < 2 ^ n) : (bits .and .i64 ((c : Int) / 2 ^ (n - 1 - k)) 1 == 1) = c.testBit (n - 1 - k) := by
  have h24 := pow_le_24 hn
  have e1 : (c : Int) / 2 ^ (n - 1 - k) = ((c / 2 ^ (n - 1 - k) : Nat) : Int) := by rw [Int.natCast_ediv, Int.natCast_pow]; rfl
  have hdv : c / 2 ^ (n - 1 - k) ≤ c := Nat.div_le_self _ _
  rw [e1, show (1 : Int) = ((1 : Nat) : Int) from rfl, i64_and _ _ (by omega) (by omega), Nat.testBit_eq_decide_div_mod_eq]
  rw [Nat.and_one_is_mod]
  rw [Bool.eq_iff_iff]
  simp
  omega
end Go.Proofs.Ytpejnhcmelkmeaa
