/- Words that many parts of the proof share. -/
import Derived.Test.YtpejnhcmelkmeaaGenPlain
import Derived.Test.YtpejnhcmelkmeaaBas
import Derived.Test.YtpejnhcmelkmeaaExt
import Derived.Test.YtpejnhcmelkmeaaMv
import Derived.Test.YtpejnhcmelkmeaaIsGen
import Derived.Test.YtpejnhcmelkmeaaSizesT
import Derived.Test.YtpejnhcmelkmeaaTsc
import Derived.Test.YtpejnhcmelkmeaaEvens
import Derived.Test.YtpejnhcmelkmeaaEvs
import Derived.Test.YtpejnhcmelkmeaaSRot
import Derived.Test.YtpejnhcmelkmeaaChain
import Derived.Test.YtpejnhcmelkmeaaLawH
import Derived.Test.YtpejnhcmelkmeaaDiff
import Derived.Test.YtpejnhcmelkmeaaDrw
namespace Go.Proofs.Ytpejnhcmelkmeaa
open Go.RowKit

/- The law FnGenerated: plain facts. -/
def okP (n k g : Nat) : Bool := genOk n k g == decide (k * Nat.gcd g n ≤ n)
set_option maxRecDepth 100000 in
theorem okP_all : ((List.range 18).all fun n => n ≤ 1 || (List.range (n + 1)).all fun k => (List.range n).all fun g => g == 0 || okP n k g) = true := by decide +kernel
theorem gen_ok {n k g : Nat} (h2 : 2 ≤ n) (hn : n ≤ 17) (hk : k ≤ n) (hg1 : 1 ≤ g) (hg : g < n) : genOk n k g = decide (k * Nat.gcd g n ≤ n) := by
  have := okP_all
  rw [List.all_eq_true] at this
  have := this n (List.mem_range.2 (by omega))
  rw [Bool.or_eq_true, decide_eq_true_eq, List.all_eq_true] at this
  rcases this with h | h
  · omega
  · have := h k (List.mem_range.2 (by omega))
    rw [List.all_eq_true] at this
    have := this g (List.mem_range.2 (by omega))
    rw [Bool.or_eq_true, beq_iff_eq] at this
    rcases this with h | h
    · omega
    · exact beq_iff_eq.1 h

/- The law FnGenerated: a generated rhythm, turned: its generators, its chain, its other rhythm, its chain drawn on. -/
theorem gn_pos {n x : Int} (hn : 1 ≤ n) : 0 ≤ x % n ∧ x % n < n := ⟨Int.emod_nonneg _ (by omega), Int.emod_lt_of_pos _ (by omega)⟩
theorem gn_rot_mem {s k x : Int} {xs : List Int} : x ∈ rotL s xs k ↔ ∃ p ∈ xs, x = (p + k) % s := by
  unfold rotL
  rw [coll_mem]
  unfold modL addL
  simp only [List.mem_map]
  constructor
  · rintro ⟨_, ⟨p, hp, rfl⟩, rfl⟩; exact ⟨p, hp, rfl⟩
  · rintro ⟨p, hp, rfl⟩; exact ⟨_, ⟨p, hp, rfl⟩, rfl⟩
theorem gn_ch_mem {n a g x : Int} {k : Nat} : x ∈ chL n a g k ↔ ∃ i : Nat, i < k ∧ x = (a + i * g) % n := by
  unfold chL
  rw [List.mem_map]
  constructor
  · rintro ⟨i, hi, rfl⟩; exact ⟨i, List.mem_range.1 hi, rfl⟩
  · rintro ⟨i, hi, rfl⟩; exact ⟨i, List.mem_range.2 hi, rfl⟩
/-- the pulses that k steps of g reach from a, in order -/
def gQ (n a g : Int) (k : Nat) : List Int := coll (chL n a g k)
theorem gQ_mem {n a g x : Int} {k : Nat} : x ∈ gQ n a g k ↔ ∃ i : Nat, i < k ∧ x = (a + i * g) % n := by
  unfold gQ; rw [coll_mem, gn_ch_mem]
theorem gQ_asc (n a g : Int) (k : Nat) : (gQ n a g k).Pairwise (· < ·) := coll_asc _
theorem gQ_ext {n a g : Int} {k : Nat} {xs : List Int} (ha : xs.Pairwise (· < ·)) (h : ∀ x, x ∈ xs ↔ ∃ i : Nat, i < k ∧ x = (a + i * g) % n) : xs = gQ n a g k :=
  asc_ext ha (gQ_asc _ _ _ _) fun x => by rw [h, gQ_mem]
theorem gQ_bd {n a g : Int} {k : Nat} (hn : 1 ≤ n) : ∀ x ∈ gQ n a g k, 0 ≤ x ∧ x < n := fun x hx => by
  obtain ⟨i, _, rfl⟩ := gQ_mem.1 hx
  exact gn_pos hn
theorem gQ_ok {n a g : Int} {k : Nat} (hn : 1 ≤ n) (h24 : n ≤ 24) : rhOk n (gQ n a g k) = true := rhOk_iff.2 ⟨⟨hn, h24⟩, gQ_bd hn, gQ_asc _ _ _ _⟩
theorem gQ_rot (n a g t : Int) (k : Nat) : rotL n (gQ n a g k) t = gQ n (a + t) g k := by
  refine gQ_ext (coll_asc _) fun x => ?_
  rw [gn_rot_mem]
  constructor
  · rintro ⟨p, hp, rfl⟩
    obtain ⟨i, hi, rfl⟩ := gQ_mem.1 hp
    exact ⟨i, hi, by rw [Int.emod_add_emod]; congr 1; omega⟩
  · rintro ⟨i, hi, rfl⟩
    exact ⟨_, gQ_mem.2 ⟨i, hi, rfl⟩, by rw [Int.emod_add_emod]; congr 1; omega⟩
theorem gQ_mod (n a g : Int) (k : Nat) : gQ n (a % n) g k = gQ n a g k := by
  refine gQ_ext (gQ_asc _ _ _ _) fun x => ?_
  rw [gQ_mem]
  constructor
  · rintro ⟨i, hi, rfl⟩; exact ⟨i, hi, by rw [Int.emod_add_emod]⟩
  · rintro ⟨i, hi, rfl⟩; exact ⟨i, hi, by rw [Int.emod_add_emod]⟩
theorem gQ_gen {n k g : Nat} (h : genOk n k g = true) : genL n k g = gQ n 0 g k := by
  rw [genL_in h]
  unfold gQ gL chL
  congr 1
  refine List.map_congr_left fun i _ => ?_
  rw [Int.zero_add]
theorem gn_perm {n : Int} {xs : List Int} (hb : ∀ x ∈ xs, 0 ≤ x ∧ x < n) (ha : xs.Pairwise (· < ·)) (k : Int) : (rotL n xs k).length = xs.length := by
  have h : (rotL n xs k).Perm (xs.map fun p => (p + k) % n) := by
    refine (List.perm_ext_iff_of_nodup ?_ ?_).2 fun x => ?_
    · exact (coll_asc _).imp (fun h => by omega)
    · refine List.pairwise_map.2 (ha.imp_of_mem fun {a b} hxa hxb h => ?_)
      have h1 := hb a hxa
      have h2 := hb b hxb
      intro e
      have e1 := congrArg (fun z => (z - k) % (n : Int)) e
      simp only [Int.emod_sub_emod] at e1
      rw [show a + k - k = a by omega, show b + k - k = b by omega, Int.emod_eq_of_lt h1.1 h1.2, Int.emod_eq_of_lt h2.1 h2.2] at e1
      omega
    · rw [gn_rot_mem, List.mem_map]
      constructor
      · rintro ⟨p, hp, rfl⟩; exact ⟨p, hp, rfl⟩
      · rintro ⟨p, hp, rfl⟩; exact ⟨p, hp, rfl⟩
  rw [h.length_eq, List.length_map]
theorem gn_fresh {n k g : Nat} (h : genOk n k g = true) : genFresh n g k = true := by
  unfold genOk at h
  rw [Bool.and_eq_true] at h
  simpa using h.2
theorem gQ_len {n k g : Nat} (hn : 1 ≤ n) (h : genOk n k g = true) (a : Int) : (gQ n a g k).length = k := by
  have e : gQ n a g k = rotL n (gQ n 0 g k) a := by rw [gQ_rot, Int.zero_add]
  rw [e, gn_perm (gQ_bd (by omega)) (gQ_asc _ _ _ _), ← gQ_gen h, genL_in h]
  have h1 := gn_fresh h
  rw [genFresh_iff] at h1
  have h2 := coll_len (gL n g k)
  rw [gL_len] at h2
  have := of_decide_eq_true h1
  omega
theorem gQ_gens {n k g : Nat} (hn : 1 ≤ n) (h24 : n ≤ 24) (hg1 : 1 ≤ g) (hg : g < n) (h : genOk n k g = true) (a : Int) : memB (gensR n (gQ n a g k)) g = true := by
  unfold gensR
  rw [if_pos (gQ_ok (by omega) (by omega)), Int.toNat_natCast, memB_sel hg]
  have hl := gQ_len hn h a
  refine gensP_rot (by omega) (by rw [hl]; exact h) ?_
  rw [hl]
  unfold rotB
  rw [Int.toNat_natCast]
  have hp := gn_pos (n := (n : Int)) (x := a) (by omega)
  refine anyTo_hit (k := (a % n).toNat) (by omega) ?_
  unfold rotP
  rw [decide_eq_true_eq, gQ_gen h, gQ_rot, Int.zero_add, Int.toNat_of_nonneg hp.1, gQ_mod]
theorem gn_gcd_sub {n g : Nat} (hg : g ≤ n) : Nat.gcd (n - g) n = Nat.gcd g n := by
  have := Nat.gcd_self_sub_left hg
  rw [Nat.gcd_comm (n - g) n, Nat.gcd_comm g n]
  have h2 : n = (n - g) + g := by omega
  refine Nat.dvd_antisymm (Nat.dvd_gcd (Nat.gcd_dvd_left _ _) ?_) (Nat.dvd_gcd (Nat.gcd_dvd_left _ _) (Nat.dvd_sub (Nat.gcd_dvd_left _ _) (Nat.gcd_dvd_right _ _)))
  have h3 := Nat.dvd_sub (Nat.gcd_dvd_left n (n - g)) (Nat.gcd_dvd_right n (n - g))
  rwa [show n - (n - g) = g by omega] at h3
theorem gQ_back {n k g : Nat} (hg : g ≤ n) (a : Int) : gQ n (a + (k - 1) * g) ((n - g : Nat) : Int) k = gQ n a g k := by
  have key : ∀ i j : Nat, i + j + 1 = k → (a + ((k : Int) - 1) * g + (i : Int) * ((n - g : Nat) : Int)) % n = (a + (j : Int) * g) % n := fun i j h => by
    rw [Int.ofNat_sub hg, show a + ((k : Int) - 1) * g + (i : Int) * ((n : Int) - g) = a + (j : Int) * g + (n : Int) * i by
      rw [show (k : Int) - 1 = i + j by omega, Int.add_mul, Int.mul_sub, Int.mul_comm (n : Int) i]; omega, Int.add_mul_emod_self_left]
  refine gQ_ext (gQ_asc _ _ _ _) fun x => ?_
  rw [gQ_mem]
  constructor
  · rintro ⟨i, hi, rfl⟩; exact ⟨k - 1 - i, by omega, key i (k - 1 - i) (by omega)⟩
  · rintro ⟨j, hj, rfl⟩; exact ⟨k - 1 - j, by omega, (key (k - 1 - j) j (by omega)).symm⟩
theorem gQ_gens_back {n k g : Nat} (h2 : 2 ≤ n) (h17 : n ≤ 17) (hk : k ≤ n) (hg1 : 1 ≤ g) (hg : g < n) (h : genOk n k g = true) (a : Int) : memB (gensR n (gQ n a g k)) ((n - g : Nat) : Int) = true := by
  rw [← gQ_back (by omega : g ≤ n)]
  refine gQ_gens (by omega) (by omega) (by omega) (by omega) ?_ _
  rw [gen_ok h2 h17 hk hg1 hg] at h
  rw [gen_ok h2 h17 hk (by omega) (by omega), gn_gcd_sub (by omega)]
  exact h
theorem gn_isGen {s : Int} {xs : List Int} {g : Int} (h : memB (gensR s xs) g = true) : isGen s xs = true := by
  unfold isGen
  exact decide_eq_true (List.length_pos_of_mem (memB_iff.1 h))
/-! the chain -/
theorem gn_chSt {s g : Int} {xs : List Int} (h0 : 0 < xs.length) : ∀ m, m ≤ xs.length →
    (chSt s xs g m ∈ xs ∧ memB xs ((chSt s xs g m - g) % s) = false) ∨ (chSt s xs g m = xs[0]?.getD 0 ∧ ∀ i, xs.length - m ≤ i → i < xs.length → memB xs ((xs[i]?.getD 0 - g) % s) = true) := by
  intro m
  induction m with
  | zero => intro _; exact .inr ⟨rfl, fun i h1 h2 => by omega⟩
  | succ m ih =>
    intro hm
    simp only [chSt]
    split
    · rename_i hp
      rcases ih (by omega) with h | ⟨h1, h2⟩
      · exact .inl h
      · refine .inr ⟨h1, fun i hi1 hi2 => ?_⟩
        by_cases e : i = xs.length - 1 - m
        · rw [e]; exact hp
        · exact h2 i (by omega) hi2
    · rename_i hp
      refine .inl ⟨?_, by simpa using hp⟩
      have hi : xs.length - 1 - m < xs.length := by omega
      rw [List.getElem?_eq_getElem hi, Option.getD_some]
      exact List.getElem_mem hi
theorem gn_per {n t g : Int} {c : Nat} (hc : ((c : Int) * g) % n = 0) (a : Nat) : (t + (a : Int) * g) % n = (t + ((a % c : Nat) : Int) * g) % n := by
  obtain ⟨q, hq⟩ := Int.dvd_of_emod_eq_zero hc
  have h := Nat.div_add_mod a c
  have e : (a : Int) = (c : Int) * ((a / c : Nat) : Int) + ((a % c : Nat) : Int) := by rw [← Int.natCast_mul]; omega
  rw [e, Int.add_mul, show (c : Int) * ((a / c : Nat) : Int) * g = n * (q * ((a / c : Nat) : Int)) by rw [Int.mul_right_comm, hq, Int.mul_assoc],
    show t + (n * (q * ((a / c : Nat) : Int)) + ((a % c : Nat) : Int) * g) = t + ((a % c : Nat) : Int) * g + n * (q * ((a / c : Nat) : Int)) by omega, Int.add_mul_emod_self_left]
theorem gn_cancel {n a x y : Int} (h : (a + x) % n = (a + y) % n) : x % n = y % n := by
  have := congrArg (fun z => (z - a) % n) h
  simp only [Int.emod_sub_emod] at this
  rwa [show a + x - a = x by omega, show a + y - a = y by omega] at this
theorem gn_start {n k g : Nat} (hn : 1 ≤ n) (hk : 0 < k) (h : genOk n k g = true) (t : Int) : gQ n (chSt n (gQ n t g k) g k) g k = gQ n t g k := by
  have hl := gQ_len hn h t
  obtain ⟨R, hR⟩ : ∃ R, R = gQ n t g k := ⟨_, rfl⟩
  have hRm : ∀ x, x ∈ R ↔ ∃ i : Nat, i < k ∧ x = (t + i * g) % n := fun x => by rw [hR, gQ_mem]
  rw [← hR] at hl ⊢
  have st := gn_chSt (s := (n : Int)) (g := (g : Int)) (xs := R) (by omega) k (by omega)
  obtain ⟨a, ha⟩ : ∃ a, a = chSt n R g k := ⟨_, rfl⟩
  rw [← ha] at st ⊢
  rcases st with ⟨h1, h2⟩ | ⟨h1, h2⟩
  · obtain ⟨j, hj, e⟩ := (hRm a).1 h1
    have j0 : j = 0 := by
      rcases Nat.eq_zero_or_pos j with h0 | h0
      · exact h0
      · exfalso
        have : (a - g) % n ∈ R := (hRm _).2 ⟨j - 1, by omega, by
          rw [e, Int.emod_sub_emod]; congr 1
          rw [show ((j - 1 : Nat) : Int) = (j : Int) - 1 by omega, Int.sub_mul]; omega⟩
        rw [memB_iff.2 this] at h2; cases h2
    subst j0
    rw [e, gQ_mod, hR]; congr 1; omega
  · have hx0 : R[0]?.getD 0 ∈ R := by
      rw [List.getElem?_eq_getElem (by omega), Option.getD_some]; exact List.getElem_mem _
    rw [← h1] at hx0
    obtain ⟨j, hj, e⟩ := (hRm a).1 hx0
    have ht : (t + ((0 : Nat) : Int) * g) % n ∈ R := (hRm _).2 ⟨0, hk, rfl⟩
    obtain ⟨m, hm, em⟩ := List.mem_iff_getElem.1 ht
    have := h2 m (by omega) hm
    rw [List.getElem?_eq_getElem hm, Option.getD_some, em, memB_iff, hRm] at this
    obtain ⟨i, hi, ei⟩ := this
    have hc : (((i + 1 : Nat) : Int) * g) % n = 0 := by
      rw [Int.emod_sub_emod] at ei
      have e2 : (t + ((-1 : Int) * g)) % n = (t + (i : Int) * g) % n := by rw [← ei]; congr 1; omega
      have e3 := gn_cancel e2
      have e4 := congrArg (fun z => (z + g) % (n : Int)) e3
      simp only [Int.emod_add_emod] at e4
      rw [show (-1 : Int) * g + g = 0 by omega, Int.zero_emod] at e4
      rw [e4]; congr 1
      rw [show ((i + 1 : Nat) : Int) = (i : Int) + 1 by omega, Int.add_mul]; omega
    rw [e, gQ_mod, hR]
    refine gQ_ext (gQ_asc _ _ _ _) fun x => ?_
    rw [gQ_mem]
    constructor
    · rintro ⟨u, hu, rfl⟩
      refine ⟨(j + u) % (i + 1), Nat.lt_of_lt_of_le (Nat.mod_lt _ (by omega)) (by omega), ?_⟩
      rw [← gn_per hc, show ((j + u : Nat) : Int) = (j : Int) + u by omega, Int.add_mul]; congr 1; omega
    · rintro ⟨u, hu, rfl⟩
      refine ⟨(u + i * j) % (i + 1), Nat.lt_of_lt_of_le (Nat.mod_lt _ (by omega)) (by omega), ?_⟩
      rw [← gn_per hc (t := t + (j : Int) * g), show t + (j : Int) * g + ((u + i * j : Nat) : Int) * g = t + ((u + (i + 1) * j : Nat) : Int) * g by
        rw [show ((u + (i + 1) * j : Nat) : Int) = ((u + i * j : Nat) : Int) + j by rw [Nat.succ_mul]; omega, Int.add_mul]; omega, gn_per hc u, gn_per hc (u + (i + 1) * j), Nat.add_mul_mod_self_left]
theorem gn_chain {n k g : Nat} (hn : 1 ≤ n) (h24 : n ≤ 24) (hg1 : 1 ≤ g) (hg : g < n) (h : genOk n k g = true) (t : Int) : chainR n (gQ n t g k) g = chL n (chSt n (gQ n t g k) g k) g k := by
  unfold chainR
  rw [if_pos (gQ_gens hn h24 hg1 hg h t), gQ_len hn h t]
theorem gn_ch_at {n a g : Int} {k i : Nat} (hi : i < k) : (chL n a g k)[i]? = some ((a + (i : Int) * g) % n) := by
  unfold chL
  rw [List.getElem?_map, List.getElem?_range hi]; rfl
theorem gn_ch_in {n k g : Nat} (hn : 1 ≤ n) (h : genOk n k g = true) (t : Int) {x : Int} (hx : x ∈ chL n (chSt n (gQ n t g k) g k) g k) : x ∈ gQ n t g k := by
  obtain ⟨i, hi, _⟩ := gn_ch_mem.1 hx
  rw [← gn_start hn (by omega) h t]
  exact gQ_mem.2 (gn_ch_mem.1 hx)
theorem gn_ch_step {n a g : Int} {i : Nat} (h1 : 1 ≤ g) (h2 : g < n) : ((a + ((i + 1 : Nat) : Int) * g) % n - (a + (i : Int) * g) % n + n) % n = g := by
  rw [Int.add_emod_right, ← Int.sub_emod, show a + ((i + 1 : Nat) : Int) * g - (a + (i : Int) * g) = g by rw [show ((i + 1 : Nat) : Int) = (i : Int) + 1 by omega, Int.add_mul]; omega, Int.emod_eq_of_lt (by omega) h2]
/-! the chain drawn on -/
theorem gn_more {n k g : Nat} (h2 : 2 ≤ n) (h17 : n ≤ 17) (hk : k ≤ n) (hg1 : 1 ≤ g) (hg : g < n) (h : genOk n k g = true) (a : Int) : memB (gQ n a g k) ((a + (k : Int) * g) % n) = decide (0 < k ∧ ¬ (k + 1) * Nat.gcd g n ≤ n) := by
  have hm : memB (gQ n a g k) ((a + (k : Int) * g) % n) = memB (gL n g k) (((k : Int) * g) % n) := by
    rw [Bool.eq_iff_iff, memB_iff, memB_iff, gQ_mem]
    unfold gL
    rw [List.mem_map]
    constructor
    · rintro ⟨i, hi, e⟩; exact ⟨i, List.mem_range.2 hi, (gn_cancel e).symm⟩
    · rintro ⟨i, hi, e⟩; exact ⟨i, List.mem_range.1 hi, by rw [Int.add_emod, ← e, ← Int.add_emod]⟩
  rw [hm]
  have hgp := Nat.gcd_pos_of_pos_left n (show 0 < g by omega)
  by_cases hkn : k < n
  · have h3 := genFresh_succ n g k
    rw [gn_fresh h, Bool.true_and] at h3
    have h4 := gen_ok (k := k + 1) h2 h17 (by omega) hg1 hg
    rw [genOk_in (by omega) (by omega) (by omega) hg1 (by omega), h3] at h4
    rcases Nat.eq_zero_or_pos k with h0 | h0
    · subst h0; simp [gL, memB]
    · by_cases hd : (k + 1) * Nat.gcd g n ≤ n
      · rw [decide_eq_true hd] at h4
        rw [decide_eq_false (fun h' => h'.2 hd)]
        simpa using h4
      · rw [decide_eq_false hd] at h4
        rw [decide_eq_true ⟨h0, hd⟩]
        simpa using h4
  · have e : k = n := by omega
    subst e
    have hd : ¬ (k + 1) * Nat.gcd g k ≤ k := by
      have := Nat.mul_le_mul_left (k + 1) hgp
      omega
    rw [decide_eq_true ⟨by omega, hd⟩, memB_iff]
    unfold gL
    exact List.mem_map.2 ⟨0, List.mem_range.2 (by omega), by rw [Int.mul_emod_right]; simp⟩
theorem gn_extP {n k g : Nat} (hn : 1 ≤ n) (h24 : n ≤ 24) (hg1 : 1 ≤ g) (hg : g < n) (hk : 0 < k) (h : genOk n k g = true) (t : Int) :
    extP n (gQ n t g k) g = (chSt n (gQ n t g k) g k + ((k - 1 : Nat) : Int) * g) % n + g := by
  unfold extP
  rw [gn_chain hn h24 hg1 hg h t, chL_len, gn_ch_at (by omega), Option.getD_some]
theorem gn_extOk {n k g : Nat} (h2 : 2 ≤ n) (h17 : n ≤ 17) (hk : k ≤ n) (hg1 : 1 ≤ g) (hg : g < n) (h : genOk n k g = true) (t : Int) : extOk n (gQ n t g k) g = decide (0 < k ∧ (k + 1) * Nat.gcd g n ≤ n) := by
  unfold extOk
  rw [gn_chain (by omega) (by omega) hg1 hg h t, chL_len]
  rcases Nat.eq_zero_or_pos k with h0 | h0
  · subst h0; simp
  · rw [gn_extP (by omega) (by omega) hg1 hg h0 h t]
    unfold hasR
    rw [chain_step (by omega), show k - 1 + 1 = k by omega]
    have e := gn_more h2 h17 hk hg1 hg h (chSt n (gQ n t g k) g k)
    rw [gn_start (by omega) h0 h t] at e
    rw [e, decide_eq_true h0, Bool.true_and]
    by_cases hd : (k + 1) * Nat.gcd g n ≤ n
    · rw [decide_eq_true (⟨h0, hd⟩ : 0 < k ∧ _), decide_eq_false (fun h' => h'.2 hd)]; rfl
    · rw [decide_eq_true (⟨h0, hd⟩ : 0 < k ∧ ¬ (k + 1) * Nat.gcd g n ≤ n), decide_eq_false (fun (h' : 0 < k ∧ (k + 1) * Nat.gcd g n ≤ n) => hd h'.2)]; rfl
theorem gn_extL {n k g : Nat} (h2 : 2 ≤ n) (h17 : n ≤ 17) (hg1 : 1 ≤ g) (hg : g < n) (h : genOk n k g = true) (t : Int) (hk0 : 0 < k) (ho : extOk n (gQ n t g k) g = true) : extL n (gQ n t g k) g = gQ n (chSt n (gQ n t g k) g k) g (k + 1) := by
  unfold extL
  rw [if_pos ho, gn_extP (by omega) (by omega) hg1 hg hk0 h t, gn_chain (by omega) (by omega) hg1 hg h t]
  obtain ⟨a, ha⟩ : ∃ a, a = chSt n (gQ n t g k) g k := ⟨_, rfl⟩
  rw [← ha]
  unfold gQ
  congr 1
  rw [modL_app, chL_succ]
  have e1 : modL n (chL n a g k) = chL n a g k := by
    unfold modL chL
    rw [List.map_map]
    exact List.map_congr_left fun i _ => Int.emod_emod_of_dvd _ (Int.dvd_refl _)
  rw [e1]
  congr 1
  show [((a + ((k - 1 : Nat) : Int) * g) % n + g) % n] = _
  rw [chain_step (by omega), show k - 1 + 1 = k by omega]
/-! the other rhythm -/
theorem gn_fresh_ne {n k g i j : Nat} (h : genFresh n g k = true) (hij : i < j) (hj : j < k) : ((j : Int) * g) % n ≠ ((i : Int) * g) % n := by
  unfold genFresh at h
  rw [List.all_eq_true] at h
  have := h j (List.mem_range.2 hj)
  intro e
  have hm : memB (gL n g j) (((j : Int) * g) % n) = true := by
    rw [memB_iff]
    unfold gL
    exact List.mem_map.2 ⟨i, List.mem_range.2 hij, e.symm⟩
  rw [hm] at this
  cases this
theorem gn_oth {n k g : Nat} (h2 : 2 ≤ n) (h17 : n ≤ 17) (hk : k ≤ n) (hg1 : 1 ≤ g) (hg : g < n) (hc : Nat.gcd g n = 1) (t : Int) : othL n (gQ n t g k) = gQ n (t + (k : Int) * g) g (n - k) := by
  have hall : genOk n n g = true := by rw [gen_ok h2 h17 (Nat.le_refl _) hg1 hg, hc]; simp
  have hfull : ∀ i : Nat, i < n → (i : Int) ∈ gQ n t g n := fun i hi => by
    have hl := gQ_len (by omega) hall t
    have e : gQ n t g n = selTo (memB (chL n t g n)) n := coll_sel fun x hx => by
      obtain ⟨i, _, rfl⟩ := gn_ch_mem.1 hx
      exact gn_pos (by omega)
    rw [e] at hl
    rw [gQ_mem, ← gn_ch_mem]
    exact memB_iff.1 (selTo_full.1 hl i hi)
  refine gQ_ext (selTo_asc _ _) fun x => ?_
  unfold othL
  rw [selTo_mem, Int.toNat_natCast]
  constructor
  · rintro ⟨i, hi, rfl, hx⟩
    obtain ⟨j, hj, e⟩ := gQ_mem.1 (hfull i hi)
    have hjk : k ≤ j := by
      rcases Nat.lt_or_ge j k with h' | h'
      · exfalso
        have : (i : Int) ∈ gQ n t g k := gQ_mem.2 ⟨j, h', e⟩
        unfold othP at hx
        rw [memB_iff.2 this] at hx; cases hx
      · exact h'
    exact ⟨j - k, by omega, by rw [e]; congr 1; rw [show (j : Int) = ((j - k : Nat) : Int) + k by omega, Int.add_mul]; omega⟩
  · rintro ⟨j, hj, rfl⟩
    have hp := gn_pos (n := (n : Int)) (x := t + (k : Int) * g + (j : Int) * g) (by omega)
    refine ⟨((t + (k : Int) * g + (j : Int) * g) % n).toNat, by omega, (Int.toNat_of_nonneg hp.1).symm, ?_⟩
    rw [Int.toNat_of_nonneg hp.1]
    unfold othP
    rw [Bool.not_eq_true', Bool.eq_false_iff]
    intro hm
    obtain ⟨i, hi, e⟩ := gQ_mem.1 (memB_iff.1 hm)
    rw [show t + (k : Int) * g + (j : Int) * g = t + ((k + j : Nat) : Int) * g by rw [show ((k + j : Nat) : Int) = (k : Int) + j by omega, Int.add_mul]; omega] at e
    exact gn_fresh_ne (gn_fresh hall) (show i < k + j by omega) (by omega) (gn_cancel e)
theorem gn_oth_gens {n k g : Nat} (h2 : 2 ≤ n) (h17 : n ≤ 17) (hk : k ≤ n) (hg1 : 1 ≤ g) (hg : g < n) (hc : Nat.gcd g n = 1) (t : Int) : memB (gensR n (othL n (gQ n t g k))) g = true := by
  rw [gn_oth h2 h17 hk hg1 hg hc]
  exact gQ_gens (by omega) (by omega) hg1 hg (by rw [gen_ok h2 h17 (by omega) hg1 hg, hc]; simp) _

/- The law FnGenerated: the step sizes of a rhythm do not change when it is turned. -/
def fdP (n : Int) (xs : List Int) (p x : Int) : Prop := 1 ≤ x ∧ (p + x) % n ∈ xs ∧ ∀ e, 1 ≤ e → e < x → (p + e) % n ∉ xs
theorem fd_uniq {n p x y : Int} {xs : List Int} (h1 : fdP n xs p x) (h2 : fdP n xs p y) : x = y := by
  obtain ⟨a1, a2, a3⟩ := h1
  obtain ⟨b1, b2, b3⟩ := h2
  rcases Int.lt_trichotomy x y with h | h | h
  · exact absurd a2 (b3 x a1 h)
  · exact h
  · exact absurd b2 (a3 y b1 h)
theorem gn_at_mem {xs : List Int} {k : Nat} (hk : k < xs.length) : xs[k]?.getD 0 ∈ xs := by
  rw [List.getElem?_eq_getElem hk, Option.getD_some]; exact List.getElem_mem hk
theorem gn_mem_at {xs : List Int} {x : Int} (h : x ∈ xs) : ∃ k, k < xs.length ∧ xs[k]?.getD 0 = x := by
  obtain ⟨k, hk, e⟩ := List.mem_iff_getElem.1 h
  exact ⟨k, hk, by rw [List.getElem?_eq_getElem hk, Option.getD_some, e]⟩
theorem gn_lt_at {xs : List Int} (h : xs.Pairwise (· < ·)) {i j : Nat} (hij : i < j) (hj : j < xs.length) : xs[i]?.getD 0 < xs[j]?.getD 0 := by
  rw [List.getElem?_eq_getElem (by omega), List.getElem?_eq_getElem hj, Option.getD_some, Option.getD_some]
  exact List.pairwise_iff_getElem.1 h i j (by omega) hj hij
/-- between two beats that follow each other there is none -/
theorem gn_between {xs : List Int} (h : xs.Pairwise (· < ·)) {k : Nat} {y : Int} (h1 : xs[k]?.getD 0 < y) (hk : k < xs.length) (h2 : k + 1 < xs.length → y < xs[k + 1]?.getD 0) : y ∉ xs := by
  intro hy
  obtain ⟨m, hm, rfl⟩ := gn_mem_at hy
  rcases Nat.lt_or_ge k m with c | c
  · have h3 := h2 (by omega)
    have := asc_le_at h (i := k + 1) (j := m) (by omega) hm
    omega
  · have := asc_le_at h (i := m) (j := k) c hk
    omega
theorem fd_step {n : Int} {xs : List Int} (hok : rhOk n xs = true) {k : Nat} (hk : k < xs.length) : fdP n xs (xs[k]?.getD 0) (stepAt n xs k) := by
  obtain ⟨hn, hb, ha⟩ := rhOk_iff.1 hok
  have h0 := hb _ (gn_at_mem hk)
  unfold stepAt nxtB
  split
  · rename_i h
    have h1 := hb _ (gn_at_mem h)
    have h2 := gn_lt_at ha (show k < k + 1 by omega) h
    refine ⟨by omega, ?_, fun e he1 he2 => ?_⟩
    · rw [show xs[k]?.getD 0 + (xs[k + 1]?.getD 0 - xs[k]?.getD 0) = xs[k + 1]?.getD 0 by omega, Int.emod_eq_of_lt h1.1 h1.2]
      exact gn_at_mem h
    · rw [Int.emod_eq_of_lt (by omega) (by omega)]
      exact gn_between ha (k := k) (by omega) hk fun _ => by omega
  · rename_i h
    have hz : 0 < xs.length := by omega
    have h1 := hb _ (gn_at_mem hz)
    refine ⟨by omega, ?_, fun e he1 he2 => ?_⟩
    · rw [show xs[k]?.getD 0 + (n + xs[0]?.getD 0 - xs[k]?.getD 0) = xs[0]?.getD 0 + n by omega, Int.add_emod_right, Int.emod_eq_of_lt h1.1 h1.2]
      exact gn_at_mem hz
    · by_cases c : xs[k]?.getD 0 + e < n
      · rw [Int.emod_eq_of_lt (by omega) c]
        exact gn_between ha (k := k) (by omega) hk fun h' => absurd h' h
      · rw [show xs[k]?.getD 0 + e = (xs[k]?.getD 0 + e - n) + n by omega, Int.add_emod_right, Int.emod_eq_of_lt (by omega) (by omega)]
        intro hy
        obtain ⟨m, hm, em⟩ := gn_mem_at hy
        have := asc_le_at ha (i := 0) (j := m) (by omega) hm
        omega
theorem steps_mem {n : Int} {xs : List Int} (hok : rhOk n xs = true) {x : Int} : x ∈ stepsTo n xs xs.length ↔ ∃ p ∈ xs, fdP n xs p x := by
  unfold stepsTo
  rw [List.mem_map]
  constructor
  · rintro ⟨k, hk, rfl⟩
    exact ⟨_, gn_at_mem (List.mem_range.1 hk), fd_step hok (List.mem_range.1 hk)⟩
  · rintro ⟨p, hp, h⟩
    obtain ⟨k, hk, rfl⟩ := gn_mem_at hp
    exact ⟨k, List.mem_range.2 hk, fd_uniq (fd_step hok hk) h⟩
theorem gn_rot_in {n t q : Int} {xs : List Int} (hb : ∀ x ∈ xs, 0 ≤ x ∧ x < n) : (q + t) % n ∈ rotL n xs t ↔ q % n ∈ xs := by
  rw [gn_rot_mem]
  constructor
  · rintro ⟨p, hp, e⟩
    have := congrArg (fun z => (z - t) % n) e
    simp only [Int.emod_sub_emod] at this
    rw [show q + t - t = q by omega, show p + t - t = p by omega, Int.emod_eq_of_lt (hb p hp).1 (hb p hp).2] at this
    rw [this]; exact hp
  · intro h; exact ⟨_, h, by rw [Int.emod_add_emod]⟩
theorem fd_rot {n t p x : Int} {xs : List Int} (hb : ∀ x ∈ xs, 0 ≤ x ∧ x < n) : fdP n (rotL n xs t) ((p + t) % n) x ↔ fdP n xs p x := by
  have e : ∀ y, ((p + t) % n + y) % n ∈ rotL n xs t ↔ (p + y) % n ∈ xs := fun y => by
    rw [Int.emod_add_emod, show p + t + y = p + y + t by omega, gn_rot_in hb]
  unfold fdP
  rw [e]
  constructor
  · rintro ⟨h1, h2, h3⟩; exact ⟨h1, h2, fun y y1 y2 h => h3 y y1 y2 ((e y).2 h)⟩
  · rintro ⟨h1, h2, h3⟩; exact ⟨h1, h2, fun y y1 y2 h => h3 y y1 y2 ((e y).1 h)⟩
theorem sizes_rot {n : Int} {xs : List Int} (hok : rhOk n xs = true) (t : Int) : sizesR n (rotL n xs t) = sizesR n xs := by
  obtain ⟨hn, hb, _⟩ := rhOk_iff.1 hok
  have hok2 : rhOk n (rotL n xs t) = true := rhOk_iff.2 ⟨hn, fun y hy => by obtain ⟨p, _, rfl⟩ := gn_rot_mem.1 hy; exact gn_pos hn.1, coll_asc _⟩
  unfold sizesR stepsR
  rw [if_pos hok, if_pos hok2]
  refine asc_ext (coll_asc _) (coll_asc _) fun x => ?_
  rw [coll_mem, coll_mem, steps_mem hok, steps_mem hok2]
  constructor
  · rintro ⟨q, hq, h⟩
    obtain ⟨p, hp, rfl⟩ := gn_rot_mem.1 hq
    exact ⟨p, hp, (fd_rot hb).1 h⟩
  · rintro ⟨p, hp, h⟩
    exact ⟨_, gn_rot_mem.2 ⟨p, hp, rfl⟩, (fd_rot hb).2 h⟩
theorem sizes_sel {n : Nat} {xs : List Int} (hok : rhOk n xs = true) : sizesR n xs = selTo (memB (stepsTo n xs xs.length)) (n + 1) := by
  unfold sizesR stepsR
  rw [if_pos hok]
  obtain ⟨hn, hb, _⟩ := rhOk_iff.1 hok
  refine coll_sel fun x hx => ?_
  obtain ⟨p, hp, h1, _, h3⟩ := (steps_mem hok).1 hx
  have hp2 := hb p hp
  by_cases c : (n : Int) < x
  · exfalso
    exact h3 n (by omega) c (by rw [Int.add_emod_right, Int.emod_eq_of_lt hp2.1 hp2.2]; exact hp)
  · omega
/-! the sizes of a generated rhythm -/
def gsL (n k g : Nat) : List Int := selTo (memB (gL n g k)) n
def gsS (n : Nat) (xs : List Int) : List Int := selTo (memB (stepsTo n xs xs.length)) (n + 1)
def szQ (S : List Int) : Bool := decide (S.length ≤ 3) && sumB S
def szN (n : Nat) : Bool := (List.range (n + 1)).all fun k => (List.range n).all fun g => g == 0 || (!decide (k * Nat.gcd g n ≤ n) || szQ (gsS n (gsL n k g)))
set_option maxRecDepth 100000 in
theorem szN_a : ((List.range 12).all szN) = true := by decide +kernel
set_option maxRecDepth 100000 in
theorem szN_12 : szN 12 = true := by decide +kernel
set_option maxRecDepth 100000 in
theorem szN_13 : szN 13 = true := by decide +kernel
set_option maxRecDepth 100000 in
theorem szN_14 : szN 14 = true := by decide +kernel
set_option maxRecDepth 100000 in
theorem szN_15 : szN 15 = true := by decide +kernel
set_option maxRecDepth 100000 in
theorem szN_16 : szN 16 = true := by decide +kernel
set_option maxRecDepth 100000 in
theorem szN_17 : szN 17 = true := by decide +kernel
theorem szN_all {n : Nat} (hn : n ≤ 17) : szN n = true := by
  rcases Nat.lt_or_ge n 12 with h | h
  · have := szN_a
    rw [List.all_eq_true] at this
    exact this n (List.mem_range.2 h)
  · have e : n = 12 ∨ n = 13 ∨ n = 14 ∨ n = 15 ∨ n = 16 ∨ n = 17 := by omega
    rcases e with rfl | rfl | rfl | rfl | rfl | rfl
    · exact szN_12
    · exact szN_13
    · exact szN_14
    · exact szN_15
    · exact szN_16
    · exact szN_17
theorem gn_sizes {n k g : Nat} (h2 : 2 ≤ n) (h17 : n ≤ 17) (hk : k ≤ n) (hg1 : 1 ≤ g) (hg : g < n) (h : genOk n k g = true) (t : Int) : (sizesR n (gQ n t g k)).length ≤ 3 ∧ sumB (sizesR n (gQ n t g k)) = true := by
  have hok : rhOk n (gQ n 0 g k) = true := gQ_ok (by omega) (by omega)
  have e : sizesR n (gQ n t g k) = gsS n (gsL n k g) := by
    rw [show gQ n t g k = rotL n (gQ n 0 g k) t by rw [gQ_rot, Int.zero_add], sizes_rot hok, sizes_sel hok, ← gQ_gen h, genL_in h, coll_sel (gL_bd (by omega))]
    rfl
  have := szN_all h17
  unfold szN at this
  rw [List.all_eq_true] at this
  have := this k (List.mem_range.2 (by omega))
  rw [List.all_eq_true] at this
  have := this g (List.mem_range.2 hg)
  rw [gen_ok h2 h17 hk hg1 hg] at h
  rw [h, beq_eq_false_iff_ne.2 (by omega : g ≠ 0)] at this
  rw [e]
  unfold szQ at this
  simpa using this
theorem gn_tsc {n k g : Nat} (h2 : 2 ≤ n) (h17 : n ≤ 17) (hk : k ≤ n) (hg1 : 1 ≤ g) (hg : g < n) (h : genOk n k g = true) (t : Int) : memB (tscR n g) k = decide (2 ≤ k ∧ k < n ∧ (sizesR n (gQ n t g k)).length ≤ 2) := by
  unfold tscR
  rw [if_pos ⟨inB_yes (by omega), inB_yes (by omega)⟩, Int.toNat_natCast]
  by_cases hkn : k < n
  · rw [memB_sel hkn]
    unfold tscP
    rw [h, Bool.true_and, gQ_gen h, show gQ n t g k = rotL n (gQ n 0 g k) t by rw [gQ_rot, Int.zero_add], sizes_rot (gQ_ok (by omega) (by omega))]
    rw [Bool.eq_iff_iff, Bool.and_eq_true, decide_eq_true_eq, decide_eq_true_eq, decide_eq_true_eq]
    constructor
    · rintro ⟨a, b⟩; exact ⟨by omega, hkn, b⟩
    · rintro ⟨a, _, b⟩; exact ⟨by omega, b⟩
  · rw [decide_eq_false (fun h' => hkn h'.2.1), Bool.eq_false_iff]
    intro hm
    obtain ⟨i, hi, e, _⟩ := selTo_mem.1 (memB_iff.1 hm)
    omega

/- The law FnGenerated: a rhythm whose spans of each length have two sizes is generated. -/
/-- the beats of a rhythm, on and on -/
def dAt (n : Int) (xs : List Int) (m : Nat) : Int := xs[m % xs.length]?.getD 0 + n * ((m / xs.length : Nat) : Int)
theorem dAt_turn {n : Int} {xs : List Int} (h0 : 0 < xs.length) (m : Nat) : dAt n xs (m + xs.length) = dAt n xs m + n := by
  unfold dAt
  rw [Nat.add_mod_right, Nat.add_div_right _ h0, show ((m / xs.length + 1 : Nat) : Int) = ((m / xs.length : Nat) : Int) + 1 by omega, Int.mul_add]
  omega
theorem dAt_step {n : Int} {xs : List Int} (h0 : 0 < xs.length) (m : Nat) : dAt n xs (m + 1) - dAt n xs m = stepAt n xs (m % xs.length) := by
  have hm := Nat.mod_lt m h0
  have hd := Nat.div_add_mod m xs.length
  unfold dAt stepAt nxtB
  split
  · rename_i h
    have e1 : (m + 1) % xs.length = m % xs.length + 1 := by rw [Nat.add_mod, Nat.mod_eq_of_lt (show 1 < xs.length by omega), Nat.mod_eq_of_lt h]
    have e2 : (m + 1) / xs.length = m / xs.length := by
      refine Nat.div_eq_of_lt_le ?_ ?_
      · rw [Nat.mul_comm]; omega
      · rw [Nat.succ_mul, Nat.mul_comm]; omega
    rw [e1, e2]; omega
  · rename_i h
    have e : m + 1 = xs.length * (m / xs.length + 1) := by rw [Nat.mul_succ]; omega
    have e1 : (m + 1) % xs.length = 0 := by rw [e, Nat.mul_mod_right]
    have e2 : (m + 1) / xs.length = m / xs.length + 1 := by rw [e, Nat.mul_div_cancel_left _ h0]
    rw [e1, e2, show ((m / xs.length + 1 : Nat) : Int) = ((m / xs.length : Nat) : Int) + 1 by omega, Int.mul_add]; omega
theorem dAt_span {n : Int} {xs : List Int} (h0 : 0 < xs.length) (i k : Nat) : spanAt (stepsTo n xs xs.length) i k = dAt n xs (i + k) - dAt n xs i := by
  induction k with
  | zero => rw [spanAt_zero]; simp
  | succ k ih =>
    rw [spanAt_succ, ih, stepsTo_len]
    have hm := Nat.mod_lt (i + k) h0
    have e : (stepsTo n xs xs.length)[(i + k) % xs.length]?.getD 0 = stepAt n xs ((i + k) % xs.length) := by
      unfold stepsTo
      rw [List.getElem?_map, List.getElem?_range hm]; rfl
    rw [e, ← dAt_step h0]
    rw [show i + (k + 1) = i + k + 1 by omega]; omega
theorem dAt_span_turn {n : Int} {xs : List Int} (h0 : 0 < xs.length) (i k : Nat) : dAt n xs (i + xs.length + k) - dAt n xs (i + xs.length) = dAt n xs (i + k) - dAt n xs i := by
  rw [show i + xs.length + k = i + k + xs.length by omega, dAt_turn h0, dAt_turn h0]; omega
/-- what holds of the first round's spans holds of all -/
theorem span_all {n : Int} {xs : List Int} (h0 : 0 < xs.length) {k : Nat} {P : Int → Prop} (h : ∀ i, i < xs.length → P (dAt n xs (i + k) - dAt n xs i)) (i : Nat) : P (dAt n xs (i + k) - dAt n xs i) := by
  have : ∀ q r, r < xs.length → P (dAt n xs (r + xs.length * q + k) - dAt n xs (r + xs.length * q)) := fun q r hr => by
    induction q with
    | zero => exact h r hr
    | succ q ih => rw [Nat.mul_succ, ← Nat.add_assoc, dAt_span_turn h0]; exact ih
  have h1 := this (i / xs.length) (i % xs.length) (Nat.mod_lt _ h0)
  rwa [Nat.mod_add_div] at h1
def gn_sm (f : Nat → Int) : Nat → Int
  | 0 => 0
  | m + 1 => gn_sm f m + f m
theorem gn_sm_shift (f : Nat → Int) (m : Nat) : gn_sm (fun i => f (i + 1)) m = gn_sm f m - f 0 + f m := by
  induction m with
  | zero => simp only [gn_sm]; omega
  | succ m ih => simp only [gn_sm]; rw [ih]; omega
theorem gn_sm_sub (f g : Nat → Int) (m : Nat) : gn_sm (fun i => f i - g i) m = gn_sm f m - gn_sm g m := by
  induction m with
  | zero => simp [gn_sm]
  | succ m ih => simp only [gn_sm]; rw [ih]; omega
theorem gn_sm_turn {n : Int} {xs : List Int} (h0 : 0 < xs.length) (k : Nat) : gn_sm (fun i => dAt n xs (i + k)) xs.length = gn_sm (dAt n xs) xs.length + n * (k : Int) := by
  induction k with
  | zero => simp
  | succ k ih =>
    have := gn_sm_shift (fun i => dAt n xs (i + k)) xs.length
    simp only [Nat.zero_add] at this
    rw [show (fun i => dAt n xs (i + (k + 1))) = fun i => dAt n xs (i + 1 + k) by funext i; rw [show i + (k + 1) = i + 1 + k by omega], this, ih, Nat.add_comm xs.length k, dAt_turn h0, show ((k + 1 : Nat) : Int) = (k : Int) + 1 by omega, Int.mul_add]
    omega
/-- how often the greater of two values is met -/
def gn_hits (f : Nat → Int) (v : Int) : Nat → Nat
  | 0 => 0
  | m + 1 => gn_hits f v m + if f m = v then 1 else 0
theorem gn_sm_hits {f : Nat → Int} {u d : Int} (hd : d ≠ 0) : ∀ m, (∀ i, i < m → f i = u ∨ f i = u + d) → gn_sm f m = u * (m : Int) + d * ((gn_hits f (u + d) m : Nat) : Int) := by
  intro m
  induction m with
  | zero => intro _; simp [gn_sm, gn_hits]
  | succ m ih =>
    intro h
    simp only [gn_sm, gn_hits]
    rw [ih fun i hi => h i (by omega), show ((m + 1 : Nat) : Int) = (m : Int) + 1 by omega, Int.mul_add]
    rcases h m (by omega) with e | e
    · rw [e, if_neg (by omega), Nat.add_zero]; omega
    · rw [e, if_pos rfl, show ((gn_hits f (u + d) m + 1 : Nat) : Int) = ((gn_hits f (u + d) m : Nat) : Int) + 1 by omega, Int.mul_add]; omega
theorem gn_hits_pos {f : Nat → Int} {v : Int} {i : Nat} : ∀ m, i < m → f i = v → 0 < gn_hits f v m := by
  intro m
  induction m with
  | zero => intro h; omega
  | succ m ih =>
    intro h e
    simp only [gn_hits]
    by_cases c : i = m
    · subst c; rw [if_pos e]; omega
    · have := ih (by omega) e; omega
theorem gn_hits_le {f : Nat → Int} {v : Int} : ∀ m, gn_hits f v m ≤ m := by
  intro m
  induction m with
  | zero => exact Nat.le_refl _
  | succ m ih => simp only [gn_hits]; split <;> omega
theorem gn_hits_lt {f : Nat → Int} {v : Int} {i : Nat} : ∀ m, i < m → f i ≠ v → gn_hits f v m < m := by
  intro m
  induction m with
  | zero => intro h; omega
  | succ m ih =>
    intro h e
    simp only [gn_hits]
    by_cases c : i = m
    · subst c; rw [if_neg e]; have := gn_hits_le (f := f) (v := v) i; omega
    · have := ih (by omega) e; split <;> omega
theorem gn_hits_one {f : Nat → Int} {v : Int} : ∀ m, gn_hits f v m = 1 → ∃ i, i < m ∧ f i = v ∧ ∀ j, j < m → f j = v → j = i := by
  intro m
  induction m with
  | zero => intro h; cases h
  | succ m ih =>
    intro h
    simp only [gn_hits] at h
    by_cases c : f m = v
    · rw [if_pos c] at h
      refine ⟨m, by omega, c, fun j hj e => ?_⟩
      by_cases cj : j = m
      · exact cj
      · have := gn_hits_pos m (show j < m by omega) e; omega
    · rw [if_neg c] at h
      obtain ⟨i, hi, e, hu⟩ := ih (by omega)
      refine ⟨i, by omega, e, fun j hj ej => ?_⟩
      by_cases cj : j = m
      · subst cj; exact absurd ej c
      · exact hu j (by omega) ej
theorem dAt_at {n : Int} {xs : List Int} (hok : rhOk n xs = true) (h0 : 0 < xs.length) (m : Nat) : dAt n xs m % n = xs[m % xs.length]?.getD 0 := by
  obtain ⟨_, hb, _⟩ := rhOk_iff.1 hok
  have h := hb _ (gn_at_mem (Nat.mod_lt m h0))
  unfold dAt
  rw [Int.add_mul_emod_self_left, Int.emod_eq_of_lt h.1 h.2]
theorem dAt_lt {n : Int} {xs : List Int} (hok : rhOk n xs = true) (h0 : 0 < xs.length) (i : Nat) : ∀ k : Nat, dAt n xs i + (k : Int) ≤ dAt n xs (i + k) := by
  intro k
  induction k with
  | zero => simp
  | succ k ih =>
    have h1 := dAt_step (n := n) h0 (i + k)
    have h2 := (fd_step hok (Nat.mod_lt (i + k) h0)).1
    rw [show i + (k + 1) = i + k + 1 by omega]; omega
theorem dAt_in {n : Int} {xs : List Int} (hok : rhOk n xs = true) {k : Nat} (h1 : 1 ≤ k) (hk : k < xs.length) (i : Nat) : 1 ≤ dAt n xs (i + k) - dAt n xs i ∧ dAt n xs (i + k) - dAt n xs i < n := by
  have a := dAt_lt hok (by omega) i k
  have b := dAt_lt hok (by omega) (i + k) (xs.length - k)
  rw [show i + k + (xs.length - k) = i + xs.length by omega, dAt_turn (by omega)] at b
  omega
theorem span_mod {n : Int} {xs : List Int} (h0 : 0 < xs.length) (i k : Nat) : dAt n xs (i + k) - dAt n xs i = dAt n xs (i % xs.length + k) - dAt n xs (i % xs.length) := by
  have : ∀ q r, dAt n xs (r + xs.length * q + k) - dAt n xs (r + xs.length * q) = dAt n xs (r + k) - dAt n xs r := fun q r => by
    induction q with
    | zero => rfl
    | succ q ih => rw [Nat.mul_succ, ← Nat.add_assoc, dAt_span_turn h0]; exact ih
  have h1 := this (i / xs.length) (i % xs.length)
  rwa [Nat.mod_add_div] at h1
theorem two_vals {n : Int} {xs : List Int} (h : twoB n xs = true) : rhOk n xs = true ∧ 2 ≤ xs.length ∧ ∀ k : Nat, 1 ≤ k → k < xs.length → ∃ u d : Int, 0 < d ∧
    (∀ i, i < xs.length → dAt n xs (i + k) - dAt n xs i = u ∨ dAt n xs (i + k) - dAt n xs i = u + d) ∧ (∃ i, i < xs.length ∧ dAt n xs (i + k) - dAt n xs i = u) ∧ ∃ i, i < xs.length ∧ dAt n xs (i + k) - dAt n xs i = u + d := by
  unfold twoB at h
  rw [Bool.and_eq_true, Bool.and_eq_true, decide_eq_true_eq] at h
  obtain ⟨hok, h2, hall⟩ := h
  refine ⟨hok, h2, fun k hk1 hk => ?_⟩
  unfold allTo at hall
  rw [List.all_eq_true] at hall
  have h3 := hall k (List.mem_range.2 hk)
  unfold twoP at h3
  rw [decide_eq_false (by omega : ¬ k = 0), Bool.false_or, decide_eq_true_eq] at h3
  have es : stepsR n xs = stepsTo n xs xs.length := by unfold stepsR; rw [if_pos hok]
  unfold spanSz at h3
  rw [es, stepsTo_len, if_pos (by omega), Int.toNat_natCast] at h3
  have hm : ∀ x, x ∈ coll (spansTo (stepsTo n xs xs.length) k xs.length) ↔ ∃ i, i < xs.length ∧ dAt n xs (i + k) - dAt n xs i = x := fun x => by
    rw [coll_mem]
    unfold spansTo
    rw [List.mem_map]
    constructor
    · rintro ⟨i, hi, rfl⟩; exact ⟨i, List.mem_range.1 hi, (dAt_span (by omega) i k).symm⟩
    · rintro ⟨i, hi, rfl⟩; exact ⟨i, List.mem_range.2 hi, dAt_span (by omega) i k⟩
  have ha := coll_asc (spansTo (stepsTo n xs xs.length) k xs.length)
  obtain ⟨L, hL⟩ : ∃ L, L = coll (spansTo (stepsTo n xs xs.length) k xs.length) := ⟨_, rfl⟩
  rw [← hL] at h3 hm ha
  match L, h3, hm, ha with
  | [a, b], _, hm, ha =>
    have hab : a < b := by simpa using ha
    refine ⟨a, b - a, by omega, fun i hi => ?_, (hm a).1 (by simp), ?_⟩
    · have := (hm _).2 ⟨i, hi, rfl⟩
      simp only [List.mem_cons, List.not_mem_nil, or_false] at this
      omega
    · obtain ⟨i, hi, e⟩ := (hm b).1 (by simp)
      exact ⟨i, hi, by omega⟩
def ntQ (L : Nat) : Bool := decide (L < 2) || ((List.range L).all fun m => ((List.range L).any fun k => decide (1 ≤ k) && decide (k * m % L = 0)) || (List.range L).any fun k => decide (1 ≤ k) && decide (k * m % L = 1))
theorem ntQ_all : ((List.range 18).all ntQ) = true := by decide +kernel
theorem nt_inv {L m : Nat} (h2 : 2 ≤ L) (h : L < 18) (hm : m < L) (hz : ∀ k, 1 ≤ k → k < L → k * m % L ≠ 0) : ∃ k, 1 ≤ k ∧ k < L ∧ k * m % L = 1 := by
  have h1 := ntQ_all
  rw [List.all_eq_true] at h1
  have h3 := h1 L (List.mem_range.2 h)
  unfold ntQ at h3
  rw [decide_eq_false (by omega : ¬ L < 2), Bool.false_or, List.all_eq_true] at h3
  have h4 := h3 m (List.mem_range.2 hm)
  rw [Bool.or_eq_true, List.any_eq_true, List.any_eq_true] at h4
  rcases h4 with ⟨k, hk, e⟩ | ⟨k, hk, e⟩
  · rw [Bool.and_eq_true, decide_eq_true_eq, decide_eq_true_eq] at e
    exact absurd e.2 (hz k e.1 (List.mem_range.1 hk))
  · rw [Bool.and_eq_true, decide_eq_true_eq, decide_eq_true_eq] at e
    exact ⟨k, e.1, List.mem_range.1 hk, e.2⟩
def nt2Q (L k : Nat) : Bool := !((List.range L).any fun m => decide (k * m % L = 1)) || (((List.range L).all fun c => (List.range L).any fun j => decide ((j + 1) * k % L = c)) && (List.range L).all fun j => (List.range j).all fun i => !decide ((j + 1) * k % L = (i + 1) * k % L))
theorem nt2Q_all : ((List.range 18).all fun L => decide (L < 2) || (List.range L).all (nt2Q L)) = true := by decide +kernel
theorem nt_orb {L k m : Nat} (h2 : 2 ≤ L) (h : L < 18) (hk : k < L) (hm : m < L) (e : k * m % L = 1) : (∀ c, c < L → ∃ j, j < L ∧ (j + 1) * k % L = c) ∧ ∀ j i, j < L → i < j → (j + 1) * k % L ≠ (i + 1) * k % L := by
  have h1 := nt2Q_all
  rw [List.all_eq_true] at h1
  have h3 := h1 L (List.mem_range.2 h)
  rw [decide_eq_false (by omega : ¬ L < 2), Bool.false_or, List.all_eq_true] at h3
  have h4 := h3 k (List.mem_range.2 hk)
  unfold nt2Q at h4
  rw [show ((List.range L).any fun m => decide (k * m % L = 1)) = true from List.any_eq_true.2 ⟨m, List.mem_range.2 hm, decide_eq_true e⟩, Bool.not_true, Bool.false_or, Bool.and_eq_true, List.all_eq_true, List.all_eq_true] at h4
  refine ⟨fun c hc => ?_, fun j i hj hi => ?_⟩
  · obtain ⟨j, hj, ej⟩ := List.any_eq_true.1 (h4.1 c (List.mem_range.2 hc))
    exact ⟨j, List.mem_range.1 hj, of_decide_eq_true ej⟩
  · have h5 := h4.2 j (List.mem_range.2 hj)
    rw [List.all_eq_true] at h5
    have h6 := h5 i (List.mem_range.2 hi)
    rw [Bool.not_eq_true', decide_eq_false_iff_not] at h6
    exact h6
theorem two_gap {n : Int} {xs : List Int} (h0 : 0 < xs.length) {a δ u d : Int} {k : Nat} (hδ : 0 < δ) (hd : 0 < d)
    (hs : ∀ i, dAt n xs (i + 1) - dAt n xs i = a ∨ dAt n xs (i + 1) - dAt n xs i = a + δ)
    (he : ∀ i, dAt n xs (i + k) - dAt n xs i = u ∨ dAt n xs (i + k) - dAt n xs i = u + d)
    (h1 : ∃ i, i < xs.length ∧ dAt n xs (i + k) - dAt n xs i = u) (h2 : ∃ i, i < xs.length ∧ dAt n xs (i + k) - dAt n xs i = u + d) : d = δ := by
  have _ := h0
  by_cases hc : ∀ i, dAt n xs (i + 1 + k) - dAt n xs (i + 1) = dAt n xs (i + k) - dAt n xs i
  · exfalso
    have hcon : ∀ i, dAt n xs (i + k) - dAt n xs i = dAt n xs (0 + k) - dAt n xs 0 := fun i => by
      induction i with
      | zero => rfl
      | succ i ih => rw [hc i, ih]
    obtain ⟨i, _, ei⟩ := h1
    obtain ⟨j, _, ej⟩ := h2
    rw [hcon i] at ei
    rw [hcon j] at ej
    omega
  · obtain ⟨i, hi⟩ := Classical.not_forall.1 hc
    have e1 := hs i
    have e2 := hs (i + k)
    have e3 := he i
    have e4 := he (i + 1)
    rw [show i + 1 + k = i + k + 1 by omega] at hi e4
    omega
theorem two_lin {n : Int} {xs : List Int} {a δ : Int} (hs : ∀ i, dAt n xs (i + 1) - dAt n xs i = a ∨ dAt n xs (i + 1) - dAt n xs i = a + δ) (i : Nat) : ∀ k : Nat, ∃ q : Int, dAt n xs (i + k) - dAt n xs i = (k : Int) * a + q * δ := by
  intro k
  induction k with
  | zero => exact ⟨0, by simp⟩
  | succ k ih =>
    obtain ⟨q, hq⟩ := ih
    have ek : ((k + 1 : Nat) : Int) * a = (k : Int) * a + a := by rw [show ((k + 1 : Nat) : Int) = (k : Int) + 1 by omega, Int.add_mul, Int.one_mul]
    rw [show i + (k + 1) = i + k + 1 by omega, ek]
    rcases hs (i + k) with e | e
    · exact ⟨q, by omega⟩
    · exact ⟨q + 1, by rw [Int.add_mul, Int.one_mul]; omega⟩
/-- spans of each length have two sizes: then one step reaches all the beats -/
theorem two_gen {n : Nat} {xs : List Int} (h1 : 1 ≤ n) (h17 : n ≤ 17) (h : twoB n xs = true) : isGen n xs = true := by
  obtain ⟨hok, hL2, hv⟩ := two_vals h
  obtain ⟨_, hb, ha⟩ := rhOk_iff.1 hok
  have h0 : 0 < xs.length := by omega
  have hL : xs.length < 18 := by have := (rhOk_len hok).2; omega
  obtain ⟨a, δ, hδ, hs', hsa, hsb⟩ := hv 1 (by omega) (by omega)
  have hs := fun i => span_all (P := fun z => z = a ∨ z = a + δ) h0 hs' i
  have key : ∀ k : Nat, 1 ≤ k → k < xs.length → ∃ u : Int, (∀ i, i < xs.length → dAt n xs (i + k) - dAt n xs i = u ∨ dAt n xs (i + k) - dAt n xs i = u + δ) ∧
      (∃ q : Int, u = (k : Int) * a + q * δ) ∧ 0 < gn_hits (fun i => dAt n xs (i + k) - dAt n xs i) (u + δ) xs.length ∧ gn_hits (fun i => dAt n xs (i + k) - dAt n xs i) (u + δ) xs.length < xs.length ∧
      (n : Int) * (k : Int) = u * (xs.length : Int) + δ * ((gn_hits (fun i => dAt n xs (i + k) - dAt n xs i) (u + δ) xs.length : Nat) : Int) := fun k hk1 hk => by
    obtain ⟨u, d, hd, he', hea, heb⟩ := hv k hk1 hk
    have he := fun i => span_all (P := fun z => z = u ∨ z = u + d) h0 he' i
    have := two_gap h0 hδ hd hs he hea heb
    subst this
    obtain ⟨i1, hi1, e1⟩ := hea
    obtain ⟨i2, hi2, e2⟩ := heb
    refine ⟨u, he', ?_, gn_hits_pos _ hi2 e2, gn_hits_lt _ hi1 (by rw [e1]; omega), ?_⟩
    · obtain ⟨q, hq⟩ := two_lin hs i1 k
      exact ⟨q, by rw [← e1, hq]⟩
    · have s1 := gn_sm_hits (f := fun i => dAt n xs (i + k) - dAt n xs i) (u := u) (d := d) (by omega) xs.length he'
      have s2 := gn_sm_sub (fun i => dAt n xs (i + k)) (dAt n xs) xs.length
      rw [gn_sm_turn h0] at s2
      omega
  obtain ⟨u1, hu1, _, hm1, hm1L, hn1⟩ := key 1 (by omega) (by omega)
  have hu1a : u1 = a := by
    obtain ⟨i1, hi1, e1⟩ := hsa
    obtain ⟨i2, hi2, e2⟩ := hsb
    have := hu1 i1 hi1
    have := hu1 i2 hi2
    omega
  subst hu1a
  obtain ⟨m1, hm⟩ : ∃ m1, m1 = gn_hits (fun i => dAt n xs (i + 1) - dAt n xs i) (u1 + δ) xs.length := ⟨_, rfl⟩
  rw [← hm] at hm1 hm1L hn1
  have key2 : ∀ k : Nat, 1 ≤ k → k < xs.length → ∃ u : Int, (∀ i, i < xs.length → dAt n xs (i + k) - dAt n xs i = u ∨ dAt n xs (i + k) - dAt n xs i = u + δ) ∧
      gn_hits (fun i => dAt n xs (i + k) - dAt n xs i) (u + δ) xs.length = k * m1 % xs.length ∧ k * m1 % xs.length ≠ 0 := fun k hk1 hk => by
    obtain ⟨u, hu, ⟨q, hq⟩, hp, hlt, hn⟩ := key k hk1 hk
    obtain ⟨mk, hmk⟩ : ∃ mk, mk = gn_hits (fun i => dAt n xs (i + k) - dAt n xs i) (u + δ) xs.length := ⟨_, rfl⟩
    rw [← hmk] at hp hlt hn
    have e : δ * ((k : Int) * m1) = δ * ((xs.length : Int) * q + mk) := by
      have e1 : (n : Int) * (k : Int) = (k : Int) * u1 * xs.length + δ * ((k : Int) * m1) := by
        rw [show (n : Int) = u1 * (xs.length : Int) + δ * (m1 : Int) by rw [← hn1]; simp, Int.add_mul, Int.mul_right_comm u1, Int.mul_comm u1, Int.mul_assoc δ, Int.mul_comm (m1 : Int)]
      have e2 : u * (xs.length : Int) = (k : Int) * u1 * xs.length + δ * ((xs.length : Int) * q) := by
        rw [hq, Int.add_mul, Int.mul_comm q δ, Int.mul_assoc δ, Int.mul_comm q]
      rw [Int.mul_add]; omega
    have e2 := Int.eq_of_mul_eq_mul_left (by omega) e
    have e3 : ((k * m1 % xs.length : Nat) : Int) = (mk : Int) := by
      rw [Int.natCast_emod, Int.natCast_mul, e2, Int.mul_add_emod_self_left, Int.emod_eq_of_lt (by omega) (by omega)]
    have e4 : k * m1 % xs.length = mk := by omega
    exact ⟨u, hu, by rw [e4, ← hmk], by omega⟩
  obtain ⟨k, hk1, hk, hinv⟩ := nt_inv hL2 hL hm1L fun k a b => (key2 k a b).elim fun _ h => h.2.2
  obtain ⟨g', hE', hone, _⟩ := key2 k hk1 hk
  rw [hinv] at hone
  obtain ⟨i0, hi0, e0, hu0⟩ := gn_hits_one _ hone
  obtain ⟨horb, hdis⟩ := nt_orb hL2 hL hk hm1L hinv
  have hg : ∀ i, i % xs.length ≠ i0 → dAt n xs (i + k) - dAt n xs i = g' := fun i hi => by
    rw [span_mod h0]
    rcases hE' (i % xs.length) (Nat.mod_lt _ h0) with e | e
    · exact e
    · exact absurd (hu0 _ (Nat.mod_lt _ h0) e) hi
  have hgb : 1 ≤ g' ∧ g' < n := by
    obtain ⟨i, hi, hne⟩ : ∃ i, i < xs.length ∧ i ≠ i0 := by
      by_cases c : i0 = 0
      · exact ⟨1, by omega, by omega⟩
      · exact ⟨0, by omega, by omega⟩
    have := dAt_in hok hk1 hk i
    rw [hg i (by rw [Nat.mod_eq_of_lt hi]; exact hne)] at this
    exact this
  obtain ⟨g, rfl⟩ := Int.eq_ofNat_of_zero_le (show 0 ≤ g' by omega)
  have hz : ∀ x, (i0 + x) % xs.length = i0 → x % xs.length = 0 := fun x hx => by
    have := Nat.div_add_mod (i0 + x) xs.length
    rw [hx] at this
    rw [show x = xs.length * ((i0 + x) / xs.length) by omega, Nat.mul_mod_right]
  have hch : ∀ j, j < xs.length → dAt n xs (i0 + (j + 1) * k) = dAt n xs (i0 + k) + (j : Int) * g := fun j => by
    induction j with
    | zero => intro _; simp
    | succ j ih =>
      intro hj
      have e1 := hg (i0 + (j + 1) * k) fun hx => hdis (xs.length - 1) j (by omega) (by omega) (by
        rw [show xs.length - 1 + 1 = xs.length by omega, Nat.mul_mod_right, hz _ hx])
      rw [show i0 + (j + 1 + 1) * k = i0 + (j + 1) * k + k by rw [Nat.add_mul (j + 1) 1, Nat.one_mul]; omega, show ((j + 1 : Nat) : Int) = (j : Int) + 1 by omega, Int.add_mul, Int.one_mul]
      have := ih (by omega)
      omega
  have hat : ∀ j, j < xs.length → (dAt n xs (i0 + k) + (j : Int) * g) % n = xs[(i0 + (j + 1) * k) % xs.length]?.getD 0 := fun j hj => by rw [← hch j hj, dAt_at hok h0]
  have hxs : xs = gQ n (dAt n xs (i0 + k)) g xs.length := gQ_ext ha fun x => by
    constructor
    · intro hx
      obtain ⟨m, hm, rfl⟩ := gn_mem_at hx
      obtain ⟨j, hj, ej⟩ := horb ((m + xs.length - i0) % xs.length) (Nat.mod_lt _ h0)
      refine ⟨j, hj, ?_⟩
      rw [hat j hj, Nat.add_mod, ej, ← Nat.add_mod, show i0 + (m + xs.length - i0) = m + xs.length by omega, Nat.add_mod_right, Nat.mod_eq_of_lt hm]
    · rintro ⟨j, hj, rfl⟩
      rw [hat j hj]
      exact gn_at_mem (Nat.mod_lt _ h0)
  have hinj : ∀ p q, p < xs.length → q < xs.length → xs[p]?.getD 0 = xs[q]?.getD 0 → p = q := fun p q hp hq e => by
    rcases Nat.lt_trichotomy p q with c | c | c
    · have := gn_lt_at ha c hq; omega
    · exact c
    · have := gn_lt_at ha c hp; omega
  have hfr : genOk n xs.length g = true := by
    rw [genOk_in h1 (by omega) (by have := (rhOk_len hok).2; omega) (by omega) (by omega)]
    unfold genFresh
    rw [List.all_eq_true]
    intro j hj
    rw [Bool.not_eq_true', Bool.eq_false_iff]
    intro hmm
    rw [memB_iff] at hmm
    unfold gL at hmm
    obtain ⟨i, hi, e⟩ := List.mem_map.1 hmm
    have hjL := List.mem_range.1 hj
    have hij := List.mem_range.1 hi
    have e2 : (dAt n xs (i0 + k) + (j : Int) * g) % n = (dAt n xs (i0 + k) + (i : Int) * g) % n := by rw [Int.add_emod, ← e, ← Int.add_emod]
    rw [hat j hjL, hat i (by omega)] at e2
    have e3 := hinj _ _ (Nat.mod_lt _ h0) (Nat.mod_lt _ h0) e2
    have e4 : (((j + 1) * k % xs.length : Nat) : Int) = (((i + 1) * k % xs.length : Nat) : Int) := by
      have e5 : ((i0 : Int) + (((j + 1) * k : Nat) : Int)) % (xs.length : Int) = ((i0 : Int) + (((i + 1) * k : Nat) : Int)) % (xs.length : Int) := by
        have := congrArg (fun (z : Nat) => (z : Int)) e3
        simp only [Int.natCast_emod, Int.natCast_add] at this
        exact this
      rw [Int.natCast_emod, Int.natCast_emod]
      exact gn_cancel e5
    exact hdis j i hjL hij (by omega)
  have := gQ_gens h1 (by omega) (by omega) (by omega) hfr (dAt n xs (i0 + k))
  rw [← hxs] at this
  exact gn_isGen this

/- The law FnGenerated: even rhythms whose number of beats shares no factor with the size are generated; the scale of seven. -/
def evG (n c : Nat) : Bool := (List.range n).any fun g => decide (1 ≤ g) && (genOk n c g && (List.range n).any fun (t : Nat) => (chL n t g c).all (memB (evL n c c)) && decide (selTo (memB (chL n t g c)) n = evL n c c))
def evGs (n : Nat) : Bool := (List.range (n + 1)).all fun c => !decide (Nat.gcd c n = 1) || evG n c
set_option maxRecDepth 100000 in
theorem evGs_all : ((List.range 18).all fun n => decide (n < 2) || evGs n) = true := by decide +kernel
theorem ev_gen {n c : Nat} (h2 : 2 ≤ n) (h17 : n ≤ 17) (hc : c ≤ n) (h : Nat.gcd c n = 1) : isGen n (evL n c c) = true := by
  have h1 := evGs_all
  rw [List.all_eq_true] at h1
  have h3 := h1 n (List.mem_range.2 (by omega))
  rw [decide_eq_false (by omega : ¬ n < 2), Bool.false_or] at h3
  unfold evGs at h3
  rw [List.all_eq_true] at h3
  have h4 := h3 c (List.mem_range.2 (by omega))
  rw [decide_eq_true h, Bool.not_true, Bool.false_or] at h4
  unfold evG at h4
  obtain ⟨g, hg, e⟩ := List.any_eq_true.1 h4
  have hgn := List.mem_range.1 hg
  rw [Bool.and_eq_true, Bool.and_eq_true, decide_eq_true_eq] at e
  obtain ⟨e1, e2, e3⟩ := e
  obtain ⟨t, _, e4⟩ := List.any_eq_true.1 e3
  rw [Bool.and_eq_true, decide_eq_true_eq] at e4
  have e5 : gQ n t g c = evL n c c := by
    rw [← e4.2]
    unfold gQ
    refine coll_sel fun x hx => ?_
    obtain ⟨i, _, rfl⟩ := gn_ch_mem.1 hx
    exact gn_pos (by omega)
  have := gQ_gens (by omega) (by omega) e1 hgn e2 (t : Int)
  rw [e5] at this
  exact gn_isGen this
def dia : List Int := [0, 2, 4, 5, 7, 9, 11]
theorem dia_all : ((List.range 7).all fun k => k == 0 || ((spansTo (stepsTo 12 dia 7) k 7).all (fun x => decide (0 ≤ x ∧ x < ((13 : Nat) : Int))) && decide ((selTo (memB (spansTo (stepsTo 12 dia 7) k 7)) 13).length = 2))) = true := by decide +kernel
theorem dia_two : twoB 12 dia = true := by
  have hok : rhOk 12 dia = true := by decide
  unfold twoB
  rw [hok, Bool.true_and, show decide (2 ≤ dia.length) = true by decide, Bool.true_and]
  unfold allTo
  rw [List.all_eq_true]
  intro k hk
  have hk7 : k < 7 := List.mem_range.1 hk
  have h1 := dia_all
  rw [List.all_eq_true] at h1
  have h2 := h1 k (List.mem_range.2 hk7)
  unfold twoP
  rw [Bool.or_eq_true, beq_iff_eq] at h2
  rcases h2 with h2 | h2
  · rw [decide_eq_true h2, Bool.true_or]
  · rw [Bool.and_eq_true, List.all_eq_true, decide_eq_true_eq] at h2
    have es : stepsR 12 dia = stepsTo 12 dia 7 := by unfold stepsR; rw [if_pos hok]; rfl
    have e : spanSz 12 dia k = selTo (memB (spansTo (stepsTo 12 dia 7) k 7)) 13 := by
      unfold spanSz
      rw [es, stepsTo_len, if_pos (by omega), Int.toNat_natCast]
      exact coll_sel fun x hx => of_decide_eq_true (h2.1 x hx)
    rw [e, decide_eq_true h2.2, Bool.or_true]

/- The law FnGenerated: what its calls answer. -/
structure GnF (n k d : Nat) (R : List Int) : Prop where
  ok : rhOk n R = true
  has1 : memB (gensR n R) d = true
  has2 : memB (gensR n R) ((n - d : Nat) : Int) = true
  isg : isGen n R = true
  clen : (chainR n R d).length = k
  cin : ∀ p ∈ chainR n R d, (0 ≤ p ∧ p < n) ∧ hasR n R p = true
  cst : ∀ (i : Nat) (p q : Int), (chainR n R d)[i]? = some q → (chainR n R d)[i + 1]? = some p → (p - q + n) % n = d
  s3 : (sizesR n R).length ≤ 3
  ssum : sumB (sizesR n R) = true
  oth : Nat.gcd d n = 1 → memB (gensR n (othL n R)) d = true
  ext : extOk n R d = decide (0 < k ∧ (k + 1) * Nat.gcd d n ≤ n)
  exl : extOk n R d = true → (extL n R d).length = k + 1 ∧ rhOk n (extL n R d) = true ∧ memB (gensR n (extL n R d)) d = true
  tsc : memB (tscR n d) k = decide (2 ≤ k ∧ k < n ∧ (sizesR n R).length ≤ 2)
theorem gn_facts {n k d : Nat} (h2 : 2 ≤ n) (h17 : n ≤ 17) (hk : k ≤ n) (h1 : 1 ≤ d) (hd : d < n) (h : k * Nat.gcd d n ≤ n) (t : Int) : GnF n k d (gQ n t d k) := by
  have hok : genOk n k d = true := by rw [gen_ok h2 h17 hk h1 hd]; exact decide_eq_true h
  have hch := gn_chain (by omega) (by omega) h1 hd hok t
  refine ⟨gQ_ok (by omega) (by omega), gQ_gens (by omega) (by omega) h1 hd hok t, gQ_gens_back h2 h17 hk h1 hd hok t, gn_isGen (gQ_gens (by omega) (by omega) h1 hd hok t), ?_, ?_, ?_, (gn_sizes h2 h17 hk h1 hd hok t).1, (gn_sizes h2 h17 hk h1 hd hok t).2, fun hc => gn_oth_gens h2 h17 hk h1 hd hc t, gn_extOk h2 h17 hk h1 hd hok t, ?_, gn_tsc h2 h17 hk h1 hd hok t⟩
  · rw [hch, chL_len]
  · intro p hp
    rw [hch] at hp
    have hm := gn_ch_in (by omega) hok t hp
    have hb := gQ_bd (by omega) p hm
    exact ⟨hb, by rw [hasR_in hb]; exact memB_iff.2 hm⟩
  · intro i p q hq hp
    have hi : i + 1 < k := by
      have := (List.getElem?_eq_some_iff.1 hp).1
      rw [hch, chL_len] at this; exact this
    rw [hch] at hp hq
    rw [gn_ch_at (by omega)] at hp hq
    injection hp with hp
    injection hq with hq
    rw [← hp, ← hq]
    exact gn_ch_step (by omega) (by omega)
  · intro ho
    have he := gn_extOk h2 h17 hk h1 hd hok t
    rw [ho] at he
    have hm := of_decide_eq_true he.symm
    have hkn : k + 1 ≤ n := by
      have h3 := Nat.gcd_pos_of_pos_left n (show 0 < d by omega)
      have := Nat.mul_le_mul_left (k + 1) h3
      omega
    have hok2 : genOk n ((k + 1 : Nat) : Int) d = true := by rw [gen_ok h2 h17 hkn h1 hd]; exact decide_eq_true hm.2
    rw [gn_extL h2 h17 h1 hd hok t hm.1 ho]
    exact ⟨gQ_len (by omega) hok2 _, gQ_ok (by omega) (by omega), gQ_gens (by omega) (by omega) h1 hd hok2 _⟩
theorem gw_gcd (a b : Nat) (ha : a ≤ 1000) (hb : b ≤ 1000) (W : World) : Calls Try.prog 6 #[.int .i64 a, .int .i64 b] W fun e w' => e = .returned (.int .i64 ((Nat.gcd a b : Nat) : Int)) ∧ W = w' :=
  lawGcd_any a b W ⟨by omega, by omega⟩ ⟨by omega, by omega⟩
theorem gw_yes {n k d : Nat} (h2 : 2 ≤ n) (h17 : n ≤ 17) (hk : k ≤ n) (h1 : 1 ≤ d) (hd : d < n) (h : k * Nat.gcd d n ≤ n) (W : World) : Calls Try.prog 5 #[.int .i64 n, .int .i64 k, .int .i64 d] W (GivesRB W n (gQ n 0 d k) true) := by
  have hok : genOk n k d = true := by rw [gen_ok h2 h17 hk h1 hd]; exact decide_eq_true h
  have := implGen_any n k d W
  unfold genS at this
  rw [if_pos hok, gQ_gen hok, hok] at this
  exact this
theorem gw_no {n k d : Nat} (h2 : 2 ≤ n) (h17 : n ≤ 17) (hk : k ≤ n) (h1 : 1 ≤ d) (hd : d < n) (h : ¬ k * Nat.gcd d n ≤ n) (W : World) : Calls Try.prog 5 #[.int .i64 n, .int .i64 k, .int .i64 d] W fun e w' => ∃ A c, e = .returned (.tuple #[.agg #[.int .i64 0, .slice A 0 c], .bool false]) ∧ Below W.heap.size W w' := by
  have hok : genOk n k d = false := by rw [gen_ok h2 h17 hk h1 hd]; exact decide_eq_false h
  have := implGen_any n k d W
  unfold genS genL at this
  rw [hok, if_neg (by simp), if_neg (by simp)] at this
  exact this.mono fun e w' ⟨A, c, e1, _, b⟩ => ⟨A, c, e1, b⟩
theorem gw_rot {n k d : Nat} (h2 : 2 ≤ n) (h17 : n ≤ 17) (A : Option Addr) (c t : Nat) (ht : t < n) (W : World) (hx : IR W A (gQ n 0 d k)) : Calls Try.prog 8 #[.agg #[.int .i64 n, .slice A (gQ n 0 d k).length c], .int .i64 t] W (GivesRB W n (gQ n t d k) true) := by
  have := specRotate_ok n A c (gQ n 0 d k) t W (gQ_ok (by omega) (by omega)) hx ⟨by omega, by omega⟩
  rw [gQ_rot, Int.zero_add] at this
  exact this
theorem gw_even {n c : Nat} (h2 : 2 ≤ n) (h17 : n ≤ 17) (hc : c ≤ n) (W : World) : Calls Try.prog 20 #[.int .i64 c, .int .i64 n] W (GivesRB W n (evL n c c) true) := by
  have := implEvn_any c n W
  obtain ⟨e1, e2, e3⟩ := evOk_in (k := c) (show 1 ≤ n by omega) (by omega) hc
  rw [e1, e2, e3] at this
  exact this
theorem gw_lit (w : World) : IR (w.alloc (.cells #[.int .i64 0, .int .i64 2, .int .i64 4, .int .i64 5, .int .i64 7, .int .i64 9, .int .i64 11] 3)) (some ⟨w.heap.size, 0, none⟩) dia := by
  refine ⟨by simp [dia], fun _ => ⟨w.heap.size, 0, rfl, by simp, fun k hk => ?_⟩⟩
  have hk7 : k < 7 := hk
  rw [cell_of_row _ w.heap.size (0 + k) #[.int .i64 0, .int .i64 2, .int .i64 4, .int .i64 5, .int .i64 7, .int .i64 9, .int .i64 11] _ (0, 0) (heap_alloc_new w _), Nat.zero_add]
  have : k = 0 ∨ k = 1 ∨ k = 2 ∨ k = 3 ∨ k = 4 ∨ k = 5 ∨ k = 6 := by omega
  rcases this with rfl | rfl | rfl | rfl | rfl | rfl | rfl <;> rfl
end Go.Proofs.Ytpejnhcmelkmeaa
