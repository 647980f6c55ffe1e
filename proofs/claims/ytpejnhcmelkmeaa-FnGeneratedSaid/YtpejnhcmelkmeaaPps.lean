/- Words that many parts of the proof share. -/
import Derived.Test.YtpejnhcmelkmeaaBas
import Derived.Test.YtpejnhcmelkmeaaDvs
import Derived.Test.YtpejnhcmelkmeaaTls
import Derived.Deep.QuietTactic
import Derived.BigQuiet
import Derived.Deep.DeepMust
import Derived.Deep.RegionHeld3
import Derived.Deep.DeepCutAuto
import Derived.Deep.AppendLies
namespace Go.Proofs.Ytpejnhcmelkmeaa
open Go.RowKit

/- The divisors of a number: the program's list and the reference's are one list. -/
def divTo (n : Int) : Nat → List Int
  | 0 => []
  | k + 1 => divTo n k ++ (if n % (k + 1 : Nat) = 0 then [((k + 1 : Nat) : Int)] else [])
theorem divTo_len (n : Int) (k : Nat) : (divTo n k).length ≤ k := by
  induction k with
  | zero => simp [divTo]
  | succ k ih => simp only [divTo, List.length_append]; split <;> simp <;> omega
theorem divTo_hit (n : Int) (k : Nat) (h : n % ((k : Int) + 1) = 0) : divTo n (k + 1) = divTo n k ++ [(k : Int) + 1] := by
  have : n % (k + 1 : Nat) = 0 := by simpa using h
  simp [divTo, h]
theorem divTo_miss (n : Int) (k : Nat) (h : n % ((k : Int) + 1) ≠ 0) : divTo n (k + 1) = divTo n k := by
  simp [divTo, h]
def divs (n : Int) : List Int := if inB n 1 1000 = true then divTo n n.toNat else []
theorem divs_len (n : Int) : (divs n).length ≤ 1000 := by
  unfold divs
  split
  · rename_i h; have := inB_iff.1 h; have := divTo_len n n.toNat; omega
  · simp



/- The orders at which a rhythm vanishes. -/
/-- the test by which orders go -/
def vq (s : Int) (xs : List Int) (d : Int) : Bool := d == 1 || !vanI s xs d
def ordTo (s : Int) (xs : List Int) (k : Nat) : List Int := (divTo s k).filter (qn (vq s xs))
def ordL (s : Int) (xs : List Int) : List Int := (divs s).filter (qn (vq s xs))
def ordI (s : Int) (xs : List Int) : List Int := if rhOk s xs = true then ordL s xs else []
theorem divs_small {s : Int} (hs : 1 ≤ s ∧ s ≤ 24) : divs s = divTo s s.toNat := by unfold divs; rw [if_pos (inB_yes (by omega))]
theorem ordTo_len (s : Int) (xs : List Int) (k : Nat) : (ordTo s xs k).length ≤ k := Nat.le_trans (List.length_filter_le _ _) (divTo_len s k)
theorem ordI_len (s : Int) (xs : List Int) : (ordI s xs).length ≤ 24 := by
  unfold ordI
  split
  · rename_i h
    have hs := (rhOk_iff.1 h).1
    unfold ordL
    rw [divs_small hs]
    have := ordTo_len s xs s.toNat
    unfold ordTo at this
    omega
  · simp
theorem ordTo_hit {s : Int} {xs : List Int} {k : Nat} (h1 : 1 ≤ k) (h0 : s % ((k : Int) + 1) = 0) (hv : vanI s xs ((k : Int) + 1) = true) : ordTo s xs (k + 1) = ordTo s xs k ++ [(k : Int) + 1] := by
  unfold ordTo
  rw [divTo_hit s k h0, List.filter_append]
  congr 1
  have : ((k : Int) + 1 == 1) = false := by simp; omega
  simp [qn, vq, hv, this]
theorem ordTo_out {s : Int} {xs : List Int} {k : Nat} (h0 : s % ((k : Int) + 1) = 0) (hv : vanI s xs ((k : Int) + 1) = false) : ordTo s xs (k + 1) = ordTo s xs k := by
  unfold ordTo
  rw [divTo_hit s k h0, List.filter_append]
  simp [qn, vq, hv]
theorem ordTo_miss {s : Int} {xs : List Int} {k : Nat} (h0 : s % ((k : Int) + 1) ≠ 0) : ordTo s xs (k + 1) = ordTo s xs k := by
  unfold ordTo
  rw [divTo_miss s k h0]
theorem ordTo_one (s : Int) (xs : List Int) : ordTo s xs 1 = [] := by
  unfold ordTo
  simp [divTo, qn, vq]
theorem GivesInts.mono' {w w1 w' : World} {A : Option Addr} {c : Nat} {xs : List Int} (hio : IO w' w1.heap.size A c xs) (bw : Below w.heap.size w w1) (b : Below w1.heap.size w1 w') : GivesInts w xs (.returned (.slice A xs.length c)) w' :=
  ⟨A, c, rfl, hio.mono bw.size, bw.trans (b.mono bw.size)⟩

/- The least divisor from 2 on, and what is left of a number that is divided by it as often as it goes: plain laws. -/
structure IsLp (n p : Int) : Prop where
  two : 2 ≤ p
  div : n % p = 0
  le : p ≤ n
  least : ∀ q, 2 ≤ q → q < p → n % q ≠ 0
theorem IsLp.uniq {n p q : Int} (h : IsLp n p) (k : IsLp n q) : p = q := by
  rcases Int.lt_trichotomy p q with h1 | h1 | h1
  · exact absurd h.div (k.least p h.two h1)
  · exact h1
  · exact absurd k.div (h.least q k.two h1)
theorem lp_exists (n : Int) (hn : 2 ≤ n) : ∃ p, IsLp n p := by
  have key : ∀ m : Nat, (∃ p, IsLp n p) ∨ ∀ q : Int, 2 ≤ q → q < m → n % q ≠ 0 := by
    intro m
    induction m with
    | zero => exact .inr fun q h1 h2 => by omega
    | succ m ih =>
      rcases ih with h | h
      · exact .inl h
      · by_cases hm : 2 ≤ (m : Int) ∧ n % m = 0
        · refine .inl ⟨m, hm.1, hm.2, Int.le_of_dvd (by omega) (Int.dvd_of_emod_eq_zero hm.2), h⟩
        · refine .inr fun q h1 h2 => ?_
          by_cases e : q = m
          · subst e; exact fun h0 => hm ⟨h1, h0⟩
          · exact h q h1 (by omega)
  rcases key (n.toNat + 1) with h | h
  · exact h
  · exact absurd (Int.emod_self) (h n hn (by omega))
theorem divTo_one (n p : Int) (h : IsLp n p) (k : Nat) (h1 : 1 ≤ k) (hk : (k : Int) < p) : divTo n k = [1] := by
  induction k with
  | zero => omega
  | succ k ih =>
    by_cases h0 : k = 0
    · subst h0; simp [divTo]
    · rw [divTo_miss n k (h.least _ (by omega) (by omega)), ih (by omega) (by omega)]
theorem divTo_two (n p : Int) (h : IsLp n p) (k : Nat) (hk : p ≤ k) : ∃ t, divTo n k = 1 :: p :: t := by
  induction k with
  | zero => have := h.two; omega
  | succ k ih =>
    by_cases hp : p ≤ k
    · obtain ⟨t, ht⟩ := ih hp
      simp only [divTo, ht]
      exact ⟨_, rfl⟩
    · have e : (k : Int) + 1 = p := by omega
      rw [divTo_hit n k (by rw [e]; exact h.div), divTo_one n p h k (by have := h.two; omega) (by omega), e]
      exact ⟨[], rfl⟩
theorem divs_two (n p : Int) (h : IsLp n p) (hn : n ≤ 1000) : ∃ t, divs n = 1 :: p :: t := by
  have h2 := h.two; have h3 := h.le
  rw [divs, if_pos (inB_yes ⟨by omega, hn⟩)]
  exact divTo_two n p h _ (by omega)

def strip (p n : Int) : Int := if _h : 2 ≤ p ∧ 0 < n ∧ n % p = 0 then strip p (n / p) else n
termination_by n.toNat
decreasing_by
  have h1 : n / p < n := Int.ediv_lt_self_of_pos_of_ne_one _h.2.1 (by omega)
  omega
theorem strip_step {p n : Int} (hp : 2 ≤ p) (hn : 0 < n) (h : n % p = 0) : strip p n = strip p (n / p) := by rw [strip, dif_pos ⟨hp, hn, h⟩]
theorem strip_stop {p n : Int} (h : n % p ≠ 0) : strip p n = n := by rw [strip, dif_neg (fun h' => h h'.2.2)]
theorem div_pos_of {p n : Int} (hp : 2 ≤ p) (hn : 0 < n) (h : n % p = 0) : 0 < n / p ∧ n / p < n := by
  have h1 : n = p * (n / p) := by have := Int.mul_ediv_add_emod n p; omega
  refine ⟨?_, ?_⟩
  · rcases Int.lt_or_le 0 (n / p) with h2 | h2
    · exact h2
    · have : p * (n / p) ≤ 0 := Int.mul_nonpos_of_nonneg_of_nonpos (by omega) h2
      omega
  · have h0 : 0 < n / p := by
      rcases Int.lt_or_le 0 (n / p) with h2 | h2
      · exact h2
      · have : p * (n / p) ≤ 0 := Int.mul_nonpos_of_nonneg_of_nonpos (by omega) h2
        omega
    have : 2 * (n / p) ≤ p * (n / p) := Int.mul_le_mul_of_nonneg_right hp (by omega)
    omega
/-- the prime of which a number is a power; 0 if there is none -/
def primeI (n : Int) : Int := if 2 ≤ n ∧ n ≤ 1000 then (let p := (divs n)[1]?.getD 0; if 1 < strip p n then 0 else p) else 0
theorem primeI_no {n : Int} (h : inB n 2 1000 = false) : primeI n = 0 := by
  unfold primeI; rw [if_neg]; intro h'; rw [inB_yes h'] at h; cases h
theorem primeI_lp {n p : Int} (hp : IsLp n p) (hn : n ≤ 1000) : primeI n = if 1 < strip p n then 0 else p := by
  obtain ⟨t, ht⟩ := divs_two n p hp hn
  have h2 := hp.two; have h3 := hp.le
  unfold primeI; rw [if_pos ⟨by omega, hn⟩, ht]; rfl
theorem primeI_hi {n p : Int} (hp : IsLp n p) (hn : n ≤ 1000) (m : Int) (h : strip p n = m) (hm : 1 < m) : primeI n = 0 := by rw [primeI_lp hp hn, h, if_pos hm]
theorem primeI_lo {n p : Int} (hp : IsLp n p) (hn : n ≤ 1000) (m : Int) (h : strip p n = m) (hm : m ≤ 1) : primeI n = p := by rw [primeI_lp hp hn, h, if_neg (by omega)]

/- The prime of a power: the program's and the reference's are one number. -/
theorem divs_cell {w : World} {A : Option Addr} {c B : Nat} {n p : Int} (h : IO w B A c (divs n)) (hp : IsLp n p) (hn : n ≤ 1000) :
    ∃ g, A = some ⟨g, 0, none⟩ ∧ w.cell? ⟨g, 1, none⟩ = some (.int .i64 p) ∧ 1 < (divs n).length := by
  obtain ⟨t, ht⟩ := divs_two n p hp hn
  have hl : 1 < (divs n).length := by rw [ht]; simp
  rcases h.2.2 with ⟨_, e⟩ | ⟨g, cur, e, _⟩
  · rw [ht] at e; cases e
  · obtain ⟨b, o, e', _, hc⟩ := h.reads.at_ (by omega)
    rw [e] at e'; injection e' with e'; injection e' with e1 e2; subst e1 e2
    have := hc 1 hl
    rw [ht] at this
    exact ⟨g, e, by simpa using this, hl⟩



/- The prime powers among the orders; the first condition. -/
def ppP (d : Int) : Bool := primeI d == 0
def ppI (s : Int) (xs : List Int) : List Int := (ordI s xs).filter (qn ppP)
theorem ppI_len (s : Int) (xs : List Int) : (ppI s xs).length ≤ 24 := Nat.le_trans (List.length_filter_le _ _) (ordI_len s xs)
def prodTo (l : List Int) : Nat → Int
  | 0 => 1
  | k + 1 => IntKind.i64.wrap (prodTo l k * primeI (l[k]?.getD 0))
theorem prodTo_step {l : List Int} {k : Nat} {x : Int} (h : l[k]? = some x) : prodTo l (k + 1) = IntKind.i64.wrap (prodTo l k * primeI x) := by simp [prodTo, h]
def mfI (s : Int) (xs : List Int) : Bool := rhOk s xs && (prodTo (ppI s xs) (ppI s xs).length == (xs.length : Int))
theorem ftake_hit {q : Int → Bool} {L : List Int} {k : Nat} {x : Int} (h : L[k]? = some x) (hq : q x = true) : (L.take (k + 1)).filter q = (L.take k).filter q ++ [x] := by
  rw [List.take_add_one, h, List.filter_append]; simp [hq]
theorem ftake_miss {q : Int → Bool} {L : List Int} {k : Nat} {x : Int} (h : L[k]? = some x) (hq : q x = false) : (L.take (k + 1)).filter q = (L.take k).filter q := by
  rw [List.take_add_one, h, List.filter_append]; simp [hq]
theorem ftake_len (q : Int → Bool) (L : List Int) (k : Nat) : ((L.take k).filter q).length ≤ L.length := Nat.le_trans (List.length_filter_le _ _) (by rw [List.length_take]; omega)
theorem primeI_nn (n : Int) : 0 ≤ primeI n := by
  unfold primeI
  split
  · rename_i h
    obtain ⟨p, hp⟩ := lp_exists n h.1
    obtain ⟨t, ht⟩ := divs_two n p hp h.2
    rw [ht]
    have := hp.two
    simp only [List.getElem?_cons_succ, List.getElem?_cons_zero, Option.getD_some]
    split <;> omega
  · omega

/- The second condition: plain laws. -/
theorem isLp (n p : Nat) (h1 : 2 ≤ p) (h2 : n % p = 0) (h3 : p ≤ n) (h4 : ∀ q, q < p → 2 ≤ q → n % q ≠ 0) : IsLp (n : Int) (p : Int) := by
  refine ⟨by omega, by rw [← Int.natCast_emod, h2]; rfl, by omega, fun q k1 k2 e => ?_⟩
  obtain ⟨q', rfl⟩ := Int.eq_ofNat_of_zero_le (show 0 ≤ q by omega)
  rw [← Int.natCast_emod] at e
  exact h4 q' (by omega) (by omega) (by omega)
theorem prime2 : primeI 2 = 2 := primeI_lo (p := 2) (isLp 2 2 (by decide) (by decide) (by decide) (by decide)) (by decide) 1 (by rw [strip_step (by decide) (by decide) (by decide), show ((2 : Int) / 2) = 1 by decide]; exact strip_stop (by decide)) (by decide)
theorem prime3 : primeI 3 = 3 := primeI_lo (p := 3) (isLp 3 3 (by decide) (by decide) (by decide) (by decide)) (by decide) 1 (by rw [strip_step (by decide) (by decide) (by decide), show ((3 : Int) / 3) = 1 by decide]; exact strip_stop (by decide)) (by decide)
theorem prime4 : primeI 4 = 2 := primeI_lo (p := 2) (isLp 4 2 (by decide) (by decide) (by decide) (by decide)) (by decide) 1 (by rw [strip_step (by decide) (by decide) (by decide), show ((4 : Int) / 2) = 2 by decide]; rw [strip_step (by decide) (by decide) (by decide), show ((2 : Int) / 2) = 1 by decide]; exact strip_stop (by decide)) (by decide)
theorem prime5 : primeI 5 = 5 := primeI_lo (p := 5) (isLp 5 5 (by decide) (by decide) (by decide) (by decide)) (by decide) 1 (by rw [strip_step (by decide) (by decide) (by decide), show ((5 : Int) / 5) = 1 by decide]; exact strip_stop (by decide)) (by decide)
theorem prime6 : primeI 6 = 0 := primeI_hi (p := 2) (isLp 6 2 (by decide) (by decide) (by decide) (by decide)) (by decide) 3 (by rw [strip_step (by decide) (by decide) (by decide), show ((6 : Int) / 2) = 3 by decide]; exact strip_stop (by decide)) (by decide)
theorem prime7 : primeI 7 = 7 := primeI_lo (p := 7) (isLp 7 7 (by decide) (by decide) (by decide) (by decide)) (by decide) 1 (by rw [strip_step (by decide) (by decide) (by decide), show ((7 : Int) / 7) = 1 by decide]; exact strip_stop (by decide)) (by decide)
theorem prime8 : primeI 8 = 2 := primeI_lo (p := 2) (isLp 8 2 (by decide) (by decide) (by decide) (by decide)) (by decide) 1 (by rw [strip_step (by decide) (by decide) (by decide), show ((8 : Int) / 2) = 4 by decide]; rw [strip_step (by decide) (by decide) (by decide), show ((4 : Int) / 2) = 2 by decide]; rw [strip_step (by decide) (by decide) (by decide), show ((2 : Int) / 2) = 1 by decide]; exact strip_stop (by decide)) (by decide)
theorem prime9 : primeI 9 = 3 := primeI_lo (p := 3) (isLp 9 3 (by decide) (by decide) (by decide) (by decide)) (by decide) 1 (by rw [strip_step (by decide) (by decide) (by decide), show ((9 : Int) / 3) = 3 by decide]; rw [strip_step (by decide) (by decide) (by decide), show ((3 : Int) / 3) = 1 by decide]; exact strip_stop (by decide)) (by decide)
theorem prime10 : primeI 10 = 0 := primeI_hi (p := 2) (isLp 10 2 (by decide) (by decide) (by decide) (by decide)) (by decide) 5 (by rw [strip_step (by decide) (by decide) (by decide), show ((10 : Int) / 2) = 5 by decide]; exact strip_stop (by decide)) (by decide)
theorem prime11 : primeI 11 = 11 := primeI_lo (p := 11) (isLp 11 11 (by decide) (by decide) (by decide) (by decide)) (by decide) 1 (by rw [strip_step (by decide) (by decide) (by decide), show ((11 : Int) / 11) = 1 by decide]; exact strip_stop (by decide)) (by decide)
theorem prime12 : primeI 12 = 0 := primeI_hi (p := 2) (isLp 12 2 (by decide) (by decide) (by decide) (by decide)) (by decide) 3 (by rw [strip_step (by decide) (by decide) (by decide), show ((12 : Int) / 2) = 6 by decide]; rw [strip_step (by decide) (by decide) (by decide), show ((6 : Int) / 2) = 3 by decide]; exact strip_stop (by decide)) (by decide)
theorem prime13 : primeI 13 = 13 := primeI_lo (p := 13) (isLp 13 13 (by decide) (by decide) (by decide) (by decide)) (by decide) 1 (by rw [strip_step (by decide) (by decide) (by decide), show ((13 : Int) / 13) = 1 by decide]; exact strip_stop (by decide)) (by decide)
theorem prime14 : primeI 14 = 0 := primeI_hi (p := 2) (isLp 14 2 (by decide) (by decide) (by decide) (by decide)) (by decide) 7 (by rw [strip_step (by decide) (by decide) (by decide), show ((14 : Int) / 2) = 7 by decide]; exact strip_stop (by decide)) (by decide)
theorem prime15 : primeI 15 = 0 := primeI_hi (p := 3) (isLp 15 3 (by decide) (by decide) (by decide) (by decide)) (by decide) 5 (by rw [strip_step (by decide) (by decide) (by decide), show ((15 : Int) / 3) = 5 by decide]; exact strip_stop (by decide)) (by decide)
theorem prime16 : primeI 16 = 2 := primeI_lo (p := 2) (isLp 16 2 (by decide) (by decide) (by decide) (by decide)) (by decide) 1 (by rw [strip_step (by decide) (by decide) (by decide), show ((16 : Int) / 2) = 8 by decide]; rw [strip_step (by decide) (by decide) (by decide), show ((8 : Int) / 2) = 4 by decide]; rw [strip_step (by decide) (by decide) (by decide), show ((4 : Int) / 2) = 2 by decide]; rw [strip_step (by decide) (by decide) (by decide), show ((2 : Int) / 2) = 1 by decide]; exact strip_stop (by decide)) (by decide)
theorem prime17 : primeI 17 = 17 := primeI_lo (p := 17) (isLp 17 17 (by decide) (by decide) (by decide) (by decide)) (by decide) 1 (by rw [strip_step (by decide) (by decide) (by decide), show ((17 : Int) / 17) = 1 by decide]; exact strip_stop (by decide)) (by decide)
theorem prime18 : primeI 18 = 0 := primeI_hi (p := 2) (isLp 18 2 (by decide) (by decide) (by decide) (by decide)) (by decide) 9 (by rw [strip_step (by decide) (by decide) (by decide), show ((18 : Int) / 2) = 9 by decide]; exact strip_stop (by decide)) (by decide)
theorem prime19 : primeI 19 = 19 := primeI_lo (p := 19) (isLp 19 19 (by decide) (by decide) (by decide) (by decide)) (by decide) 1 (by rw [strip_step (by decide) (by decide) (by decide), show ((19 : Int) / 19) = 1 by decide]; exact strip_stop (by decide)) (by decide)
theorem prime20 : primeI 20 = 0 := primeI_hi (p := 2) (isLp 20 2 (by decide) (by decide) (by decide) (by decide)) (by decide) 5 (by rw [strip_step (by decide) (by decide) (by decide), show ((20 : Int) / 2) = 10 by decide]; rw [strip_step (by decide) (by decide) (by decide), show ((10 : Int) / 2) = 5 by decide]; exact strip_stop (by decide)) (by decide)
theorem prime21 : primeI 21 = 0 := primeI_hi (p := 3) (isLp 21 3 (by decide) (by decide) (by decide) (by decide)) (by decide) 7 (by rw [strip_step (by decide) (by decide) (by decide), show ((21 : Int) / 3) = 7 by decide]; exact strip_stop (by decide)) (by decide)
theorem prime22 : primeI 22 = 0 := primeI_hi (p := 2) (isLp 22 2 (by decide) (by decide) (by decide) (by decide)) (by decide) 11 (by rw [strip_step (by decide) (by decide) (by decide), show ((22 : Int) / 2) = 11 by decide]; exact strip_stop (by decide)) (by decide)
theorem prime23 : primeI 23 = 23 := primeI_lo (p := 23) (isLp 23 23 (by decide) (by decide) (by decide) (by decide)) (by decide) 1 (by rw [strip_step (by decide) (by decide) (by decide), show ((23 : Int) / 23) = 1 by decide]; exact strip_stop (by decide)) (by decide)
theorem prime24 : primeI 24 = 0 := primeI_hi (p := 2) (isLp 24 2 (by decide) (by decide) (by decide) (by decide)) (by decide) 3 (by rw [strip_step (by decide) (by decide) (by decide), show ((24 : Int) / 2) = 12 by decide]; rw [strip_step (by decide) (by decide) (by decide), show ((12 : Int) / 2) = 6 by decide]; rw [strip_step (by decide) (by decide) (by decide), show ((6 : Int) / 2) = 3 by decide]; exact strip_stop (by decide)) (by decide)
theorem prime1 : primeI 1 = 0 := primeI_no (by decide)
def pTab : List Int := [0, 0, 2, 3, 2, 5, 0, 7, 2, 3, 0, 11, 0, 13, 0, 0, 2, 17, 0, 19, 0, 0, 0, 23, 0]
theorem prime_tab (n : Nat) (h1 : 1 ≤ n) (h : n ≤ 24) : primeI n = pTab[n]?.getD 0 := by
  have : n = 1 ∨ n = 2 ∨ n = 3 ∨ n = 4 ∨ n = 5 ∨ n = 6 ∨ n = 7 ∨ n = 8 ∨ n = 9 ∨ n = 10 ∨ n = 11 ∨ n = 12 ∨ n = 13 ∨ n = 14 ∨ n = 15 ∨ n = 16 ∨ n = 17 ∨ n = 18 ∨ n = 19 ∨ n = 20 ∨ n = 21 ∨ n = 22 ∨ n = 23 ∨ n = 24 := by omega
  rcases this with rfl | rfl | rfl | rfl | rfl | rfl | rfl | rfl | rfl | rfl | rfl | rfl | rfl | rfl | rfl | rfl | rfl | rfl | rfl | rfl | rfl | rfl | rfl | rfl
  · exact prime1
  · exact prime2
  · exact prime3
  · exact prime4
  · exact prime5
  · exact prime6
  · exact prime7
  · exact prime8
  · exact prime9
  · exact prime10
  · exact prime11
  · exact prime12
  · exact prime13
  · exact prime14
  · exact prime15
  · exact prime16
  · exact prime17
  · exact prime18
  · exact prime19
  · exact prime20
  · exact prime21
  · exact prime22
  · exact prime23
  · exact prime24
def pairOk (s q : Nat) : Bool := pTab[s]?.getD 0 == 0 || pTab[q]?.getD 0 == 0 || (decide (1 < Nat.gcd s q) == (pTab[q]?.getD 0 == pTab[s]?.getD 0))
theorem pairs_ok : ((List.range 25).all fun s => s == 0 || (List.range 25).all fun q => q == 0 || pairOk s q) = true := by decide +kernel
theorem pair_gcd {s q : Nat} (hs : 1 ≤ s ∧ s ≤ 24) (hq : 1 ≤ q ∧ q ≤ 24) (h1 : primeI s ≠ 0) (h2 : primeI q ≠ 0) : decide (1 < Nat.gcd s q) = (primeI q == primeI s) := by
  have h := pairs_ok
  rw [List.all_eq_true] at h
  have h := h s (List.mem_range.2 (by omega))
  simp only [Bool.or_eq_true, beq_iff_eq, List.all_eq_true] at h
  rcases h with h | h
  · omega
  have h := h q (List.mem_range.2 (by omega))
  rcases h with h | h
  · omega
  unfold pairOk at h
  rw [prime_tab s hs.1 hs.2] at h1 ⊢
  rw [prime_tab q hq.1 hq.2] at h2 ⊢
  simp only [Bool.or_eq_true, beq_iff_eq] at h
  rcases h with (h | h) | h
  · exact absurd h h1
  · exact absurd h h2
  · exact h
/-- a power of a prime, of at most 24 -/
def PPw (s : Int) : Prop := 1 ≤ s ∧ s ≤ 24 ∧ primeI s ≠ 0
/-- the program's recursion -/
def aP (h : Int → Bool) : List Int → Int → Bool
  | [], m => h m
  | s :: r, m => aP h r m && (decide (1 < gcdI m s) || aP h r (m * s))
/-- the reference's -/
def lLoop (h : Int → Bool) : List Int → List Int → Int → Bool
  | [], _, _ => true
  | s :: r, P, m => (memB P (primeI s) || (h (m * s) && lLoop h r (P ++ [primeI s]) (m * s))) && lLoop h r P m
def InvP (P : List Int) (m : Int) : Prop := 1 ≤ m ∧ ∀ q, PPw q → memB P (primeI q) = decide (1 < gcdI m q)
theorem inv_step {P : List Int} {m s : Int} (h : InvP P m) (hs : PPw s) : InvP (P ++ [primeI s]) (m * s) := by
  obtain ⟨hm, hq⟩ := h
  obtain ⟨h1, h2, h3⟩ := hs
  have hms : 1 ≤ m * s := by
    have := Int.mul_le_mul hm h1 (by omega) (by omega)
    simpa using this
  refine ⟨hms, fun q hq' => ?_⟩
  have hq1 := hq q hq'
  obtain ⟨k1, k2, k3⟩ := hq'
  have e : memB (P ++ [primeI s]) (primeI q) = (memB P (primeI q) || (primeI q == primeI s)) := by
    rw [Bool.eq_iff_iff, Bool.or_eq_true, memB_iff, memB_iff, List.mem_append, List.mem_singleton, beq_iff_eq]
  obtain ⟨m', rfl⟩ := Int.eq_ofNat_of_zero_le (show 0 ≤ m by omega)
  obtain ⟨s', rfl⟩ := Int.eq_ofNat_of_zero_le (show 0 ≤ s by omega)
  obtain ⟨q', rfl⟩ := Int.eq_ofNat_of_zero_le (show 0 ≤ q by omega)
  have hp := pair_gcd (s := s') (q := q') (by omega) (by omega) h3 k3
  rw [e, hq1, ← hp]
  have g1 : gcdI (m' : Int) (q' : Int) = (Nat.gcd m' q' : Nat) := rfl
  have g2 : gcdI ((m' : Int) * (s' : Int)) (q' : Int) = (Nat.gcd (m' * s') q' : Nat) := rfl
  rw [g1, g2]
  rw [Bool.eq_iff_iff, Bool.or_eq_true, decide_eq_true_eq, decide_eq_true_eq, decide_eq_true_eq]
  have z1 : 0 < Nat.gcd m' q' := Nat.gcd_pos_of_pos_right _ (by omega)
  have z2 : 0 < Nat.gcd s' q' := Nat.gcd_pos_of_pos_right _ (by omega)
  have z3 : 0 < Nat.gcd (m' * s') q' := Nat.gcd_pos_of_pos_right _ (by omega)
  constructor
  · rintro (h | h)
    · have := Nat.le_of_dvd z3 (Nat.dvd_gcd (Nat.dvd_trans (Nat.gcd_dvd_left m' q') (Nat.dvd_mul_right m' s')) (Nat.gcd_dvd_right m' q'))
      omega
    · have := Nat.le_of_dvd z3 (Nat.dvd_gcd (Nat.dvd_trans (Nat.gcd_dvd_left s' q') (Nat.dvd_mul_left s' m')) (Nat.gcd_dvd_right s' q'))
      omega
  · intro h
    by_cases c1 : Nat.gcd m' q' = 1
    · by_cases c2 : Nat.gcd s' q' = 1
      · have : Nat.gcd (m' * s') q' = 1 := Nat.Coprime.mul_left c1 c2
        omega
      · right; omega
    · left; omega
theorem aP_lLoop (h : Int → Bool) : ∀ (l P : List Int) (m : Int), (∀ s ∈ l, PPw s) → InvP P m → aP h l m = (h m && lLoop h l P m) := by
  intro l
  induction l with
  | nil => intro P m _ _; simp [aP, lLoop]
  | cons s r ih =>
    intro P m hl hi
    have hs := hl s (List.mem_cons_self)
    have hr : ∀ x ∈ r, PPw x := fun x hx => hl x (List.mem_cons_of_mem _ hx)
    simp only [aP, lLoop]
    rw [ih P m hr hi, ih (P ++ [primeI s]) (m * s) hr (inv_step hi hs), hi.2 s hs]
    cases h m <;> cases decide (1 < gcdI m s) <;> cases h (m * s) <;> cases lLoop h r P m <;> cases lLoop h r (P ++ [primeI s]) (m * s) <;> rfl
theorem inv_one : InvP [] 1 := by
  refine ⟨by omega, fun q hq => ?_⟩
  obtain ⟨k1, k2, k3⟩ := hq
  obtain ⟨q', rfl⟩ := Int.eq_ofNat_of_zero_le (show 0 ≤ q by omega)
  have g1 : gcdI (1 : Int) (q' : Int) = (Nat.gcd 1 q' : Nat) := rfl
  rw [g1, Nat.gcd_one_left]
  rfl

/- The second condition, walked. -/
theorem ir_tail {w : World} {b o : Nat} {s : Int} {r : List Int} (h : IR w (some ⟨b, o, none⟩) (s :: r)) : IR w (some ⟨b, o + 1, none⟩) r := by
  refine ⟨by have := h.1; simp at this; omega, fun h0 => ?_⟩
  obtain ⟨b', o', e, hb, hc⟩ := h.2 (by simp)
  injection e with e; injection e with e1 e2
  subst e1 e2
  refine ⟨b, o + 1, rfl, hb, fun k hk => ?_⟩
  have := hc (k + 1) (by simpa using hk)
  rw [show o + 1 + k = o + (k + 1) by omega]
  simpa using this
theorem ir_zero {w : World} {A : Option Addr} {xs : List Int} (h : xs.length = 0) : IR w A xs := by
  have : xs = [] := List.eq_nil_of_length_eq_zero h
  subst this; exact IR.nil w A
def bnd (m : Int) (k : Nat) : Prop := 1 ≤ m ∧ m * 24 ^ k ≤ 110075314176
theorem p24 (k : Nat) : (1 : Int) ≤ 24 ^ k := by
  induction k with
  | zero => simp
  | succ k ih => rw [Int.pow_succ]; omega
theorem bnd_le {m : Int} {k : Nat} (h : bnd m k) : m ≤ 110075314176 := by
  have h1 := Int.mul_le_mul_of_nonneg_left (p24 k) (show 0 ≤ m by have := h.1; omega)
  have := h.2
  omega
theorem bnd_drop {m : Int} {k : Nat} (h : bnd m (k + 1)) : bnd m k := by
  refine ⟨h.1, ?_⟩
  have h2 := h.2
  rw [Int.pow_succ, ← Int.mul_assoc] at h2
  have h1 : 0 ≤ m * 24 ^ k := Int.mul_nonneg (by have := h.1; omega) (by have := p24 k; omega)
  omega
theorem bnd_mul {m s : Int} {k : Nat} (h : bnd m (k + 1)) (h1 : 1 ≤ s) (h24 : s ≤ 24) : bnd (m * s) k := by
  have hm := h.1
  refine ⟨?_, ?_⟩
  · have := Int.mul_le_mul hm h1 (by omega) (by omega)
    simpa using this
  · have h2 := h.2
    rw [Int.pow_succ] at h2
    have h3 : m * s * 24 ^ k ≤ m * 24 * 24 ^ k := Int.mul_le_mul_of_nonneg_right (Int.mul_le_mul_of_nonneg_left h24 (by omega)) (by have := p24 k; omega)
    have e : m * 24 * 24 ^ k = m * (24 ^ k * 24) := by rw [Int.mul_assoc, Int.mul_comm 24]
    omega
theorem bnd_less {m : Int} {k : Nat} (h : bnd m k) : ∀ {j : Nat}, j ≤ k → bnd m j := by
  induction k with
  | zero => intro j hj; have : j = 0 := by omega
            subst this; exact h
  | succ k ih =>
    intro j hj
    by_cases e : j = k + 1
    · subst e; exact h
    · exact ih (bnd_drop h) (by omega)
theorem bnd_one : bnd 1 8 := by unfold bnd; omega
theorem bnd_len {k : Nat} (h : k ≤ 8) : bnd 1 k := by
  have : k = 0 ∨ k = 1 ∨ k = 2 ∨ k = 3 ∨ k = 4 ∨ k = 5 ∨ k = 6 ∨ k = 7 ∨ k = 8 := by omega
  unfold bnd
  rcases this with rfl | rfl | rfl | rfl | rfl | rfl | rfl | rfl | rfl <;> decide
theorem divs_8 {s : Int} (hs : 1 ≤ s ∧ s ≤ 24) : (divs s).length ≤ 8 := by
  obtain ⟨n, rfl⟩ := Int.eq_ofNat_of_zero_le (show 0 ≤ s by omega)
  rw [divs_small hs, Int.toNat_natCast]
  have : ∀ n : Fin 25, (divTo (n : Nat) n).length ≤ 8 := by decide +kernel
  exact this ⟨n, by omega⟩
theorem ppI_8 {s : Int} {xs : List Int} (hok : rhOk s xs = true) : (ppI s xs).length ≤ 8 := by
  refine Nat.le_trans (List.length_filter_le _ _) ?_
  unfold ordI ordL
  rw [if_pos hok]
  exact Nat.le_trans (List.length_filter_le _ _) (divs_8 (rhOk_iff.1 hok).1)
theorem divTo_le {n : Int} {k : Nat} : ∀ x ∈ divTo n k, 1 ≤ x ∧ x ≤ k := by
  induction k with
  | zero => simp [divTo]
  | succ k ih =>
    intro x hx
    simp only [divTo, List.mem_append] at hx
    rcases hx with hx | hx
    · have := ih x hx; omega
    · split at hx <;> simp at hx; omega
theorem ppI_pp {s : Int} {xs : List Int} (hok : rhOk s xs = true) : ∀ x ∈ ppI s xs, PPw x := by
  intro x hx
  unfold ppI at hx
  rw [List.mem_filter] at hx
  have hs := (rhOk_iff.1 hok).1
  have h1 := hx.1
  unfold ordI ordL at h1
  rw [if_pos hok, List.mem_filter, divs_small hs] at h1
  have := divTo_le x h1.1
  refine ⟨this.1, by omega, fun e => ?_⟩
  have h2 := hx.2
  simp [qn, ppP, e] at h2
def hM (L : List Int) (m : Int) : Bool := m == 1 || memB L m
def msI (s : Int) (xs : List Int) : Bool := rhOk s xs && aP (hM (ordI s xs)) (ppI s xs) 1

/- The orders that are left: the library's DeleteFunc with the program's closure. -/

/- The orders that neither of two rhythms has. -/
def lq (s : Int) (xs : List Int) (t : Int) (ys : List Int) (d : Int) : Bool := d == 1 || vanI s xs d || vanI t ys d
def leftI (s : Int) (xs : List Int) (t : Int) (ys : List Int) : List Int := if twoOk s xs t ys = true then (divs s).filter (qn (lq s xs t ys)) else []
theorem divTo_pos {n : Int} {k : Nat} : ∀ x ∈ divTo n k, 1 ≤ x := by
  induction k with
  | zero => simp [divTo]
  | succ k ih =>
    intro x hx
    simp only [divTo, List.mem_append] at hx
    rcases hx with hx | hx
    · exact ih x hx
    · split at hx <;> simp at hx; omega
theorem divs_pos {n : Int} : ∀ x ∈ divs n, 1 ≤ x := by
  intro x hx
  unfold divs at hx
  split at hx
  · exact divTo_pos x hx
  · simp at hx
theorem memB_ord {s : Int} {xs : List Int} {d : Int} (hok : rhOk s xs = true) (hd : d ∈ divs s) (h1 : d ≠ 1) : memB (ordI s xs) d = vanI s xs d := by
  have hb : (d == 1) = false := by simpa using h1
  unfold ordI ordL
  rw [if_pos hok, Bool.eq_iff_iff, memB_iff, List.mem_filter]
  simp [hd, qn, vq, hb]
theorem two_is {f : FuncId} {args : Array Value} {w : World} {s t : Int} {xs ys : List Int} {b : Bool} (hb : twoOk s xs t ys = b) (h : Calls Try.prog f args w fun e w' => e = .returned (.bool (twoOk s xs t ys)) ∧ Below w.heap.size w w') :
    Calls Try.prog f args w fun e w' => e = .returned (.bool b) ∧ Below w.heap.size w w' := by rw [← hb]; exact h
end Go.Proofs.Ytpejnhcmelkmeaa
