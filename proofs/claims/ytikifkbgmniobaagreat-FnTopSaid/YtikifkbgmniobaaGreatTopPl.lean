/- Rhythms with partners: the plain laws of FnTop. -/
import Derived.Test.YtikifkbgmniobaaGreatTpe
import Derived.Test.YtikifkbgmniobaaGreatTilPl
import Derived.Test.YtikifkbgmniobaaGreatPtLT
import Derived.Test.YtikifkbgmniobaaGreatFpT
import Derived.Test.YtikifkbgmniobaaGreatStrU
import Derived.Test.YtikifkbgmniobaaGreatPtz
namespace Go.Proofs.YtikifkbgmniobaaGreat
open Go.RowKit
set_option maxRecDepth 20000

theorem fold_rev (sub : List It) : ∀ a : List Nat, sub.foldl (fun l it => it.1 :: l) a = (sub.map fun it => it.1).reverse ++ a := by
  induction sub with
  | nil => intro a; rfl
  | cons it r ih => intro a; rw [List.foldl_cons, ih, List.map_cons, List.reverse_cons, List.append_assoc]; rfl
theorem pos_mem {n : Nat} {xs : List Int} (p : Nat) : p ∈ (subOf n xs).foldl (fun l it => it.1 :: l) [] ↔ ∃ x ∈ xs, x.toNat = p := by
  rw [fold_mem]
  unfold subOf
  simp only [List.not_mem_nil, false_or, List.mem_map]
  constructor
  · rintro ⟨it, ⟨x, hx, rfl⟩, e⟩; exact ⟨x, hx, e⟩
  · rintro ⟨x, hx, e⟩; exact ⟨_, ⟨x, hx, rfl⟩, e⟩
theorem pos_list {n : Nat} {xs : List Int} (hb : ∀ x ∈ xs, 0 ≤ x) : (((subOf n xs).foldl (fun l it => it.1 :: l) []).reverse.map fun (p : Nat) => (p : Int)) = xs := by
  rw [fold_rev, List.append_nil, List.reverse_reverse]
  unfold subOf
  rw [List.map_map, List.map_map]
  have : ∀ l : List Int, (∀ x ∈ l, 0 ≤ x) → (l.map fun x => ((x.toNat : Nat) : Int)) = l := by
    intro l
    induction l with
    | nil => intro _; rfl
    | cons x r ih =>
      intro h
      have h0 := h x List.mem_cons_self
      rw [List.map_cons, ih fun y hy => h y (List.mem_cons_of_mem _ hy), Int.toNat_of_nonneg h0]
  exact this xs hb
/-! periodic tilings -/
theorem perGo_hitle {p : Nat → Bool} {d : Nat} (hp : p d = true) : ∀ f k, k ≤ d → d ≤ k + f → perGo p k f ≤ d := by
  intro f
  induction f with
  | zero => intro k h1 h2; simp only [perGo]; exact h1
  | succ f ih =>
    intro k h1 h2
    simp only [perGo]
    split
    · exact h1
    · rename_i hk
      have : k ≠ d := fun e => hk (by rw [e]; exact hp)
      exact ih (k + 1) (by omega) (by omega)
theorem perC_is {n : Nat} {xs : List Int} (hok : rhOk n xs = true) {l : List Nat} (hl : ∀ p, p ∈ l ↔ ∃ x ∈ xs, x.toNat = p) (h : perC n l = true) : isPer n xs = true := by
  obtain ⟨hn, hb, ha⟩ := rhOk_iff.1 hok
  unfold perC at h
  rw [List.any_eq_true] at h
  obtain ⟨d, hd, h⟩ := h
  rw [List.mem_range] at hd
  simp only [Bool.and_eq_true, List.all_eq_true, List.contains_iff_mem] at h
  obtain ⟨⟨h0, h1⟩, h2⟩ := h
  have h0 : 0 < d := Nat.blt_eq.mp h0
  have hrot : rotL n xs (d : Int) = xs := by
    refine asc_extS (coll_asc _) ha fun x => ?_
    rw [rot_mem']
    constructor
    · rintro ⟨p, hp, rfl⟩
      have hp0 := hb p hp
      obtain ⟨q, rfl⟩ := Int.eq_ofNat_of_zero_le hp0.1
      obtain ⟨y, hy, e⟩ := (hl _).1 (h1 q ((hl q).2 ⟨_, hp, rfl⟩))
      have hy0 := hb y hy
      have : ((q : Int) + (d : Int)) % (n : Int) = y := by
        have : (((q + d) % n : Nat) : Int) = y := by omega
        rw [← this, Int.natCast_emod]; rfl
      rw [this]; exact hy
    · intro hx
      have hx0 := hb x hx
      obtain ⟨q, rfl⟩ := Int.eq_ofNat_of_zero_le hx0.1
      obtain ⟨y, hy, e⟩ := (hl _).1 (h2 q ((hl q).2 ⟨_, hx, rfl⟩))
      have hy0 := hb y hy
      refine ⟨y, hy, ?_⟩
      have e1 : y = (((q + (n - d)) % n : Nat) : Int) := by omega
      have e2 : ((q + (n - d)) % n + d) % n = q := by
        rw [Nat.mod_add_mod, show q + (n - d) + d = q + n by omega, Nat.add_mod_right, Nat.mod_eq_of_lt (by omega)]
      rw [e1]
      have : ((((q + (n - d)) % n + d) % n : Nat) : Int) = (q : Int) := by rw [e2]
      rw [Int.natCast_emod, Int.natCast_add] at this
      exact this
  unfold isPer
  rw [hok, Bool.true_and, decide_eq_true_iff]
  have hp : perP n xs d = true := by unfold perP; rw [decide_eq_true_iff]; exact hrot
  have := perGo_hitle hp (Int.toNat (n : Int) - 1) 1 h0 (by rw [Int.toNat_natCast]; omega)
  unfold perL
  omega
theorem per_half {n : Nat} (h2 : 2 ≤ n) (h12 : n ≤ 12) {xs ys : List Int} (hx : rhOk n xs = true) (hy : rhOk n ys = true) (hl : xs.length * ys.length = n) (hle : xs.length ≤ ys.length) (ht : tilesB n xs ys = true) : isPer n xs = true ∨ isPer n ys = true := by
  have h := en1_spec (per_chk h2 h12 hl hle) (subOf n xs) (subOf_sub hx) (subOf_len n xs)
  have h := en3_spec h (subOf n ys) (subOf_sub hy) (subOf_len n ys)
  have hm := (sub_mask hx hy hl).2 ht
  rw [hm] at h
  unfold pF at h
  rw [show Nat.beq (2 ^ n - 1) (2 ^ n - 1) = true from by rw [Nat.beq_eq]] at h
  simp only [Bool.or_eq_true] at h
  rcases h with h | h
  · exact .inl (perC_is hx pos_mem h)
  · exact .inr (perC_is hy pos_mem h)
theorem tile_per {n : Nat} (h2 : 2 ≤ n) (h12 : n ≤ 12) {xs ys : List Int} (hx : rhOk n xs = true) (hy : rhOk n ys = true) (ht : tilesB n xs ys = true) : (isPer n xs || isPer n ys) = true := by
  have hl := tiles_len ht
  rw [Bool.or_eq_true]
  rcases Nat.le_total xs.length ys.length with h | h
  · exact per_half h2 h12 hx hy hl h ht
  · exact (per_half h2 h12 hy hx (by rw [Nat.mul_comm]; exact hl) h (by rw [tiles_comm (by omega)]; exact ht)).symm
/-! the standard partner -/
theorem std_tile {n : Nat} (h12 : n ≤ 12) {xs : List Int} (hx : rhOk n xs = true) (h1 : mfI n xs = true) (h2 : msI n xs = true) : tilesB n xs (stTo n (ppI n xs) n) = true ∧ memB (stTo n (ppI n xs) n) 0 = true := by
  obtain ⟨hn, hb, ha⟩ := rhOk_iff.1 hx
  have hc := std_chk (n := n) (by omega) h12
  unfold stdE at hc
  rw [List.all_eq_true] at hc
  have hlen : xs.length ≤ n := by
    have := (subOf_sub hx).length_le
    rw [subOf_len] at this
    unfold itsOf at this
    simpa using this
  have h := en1_spec (hc xs.length (List.mem_range.2 (by omega))) (subOf n xs) (subOf_sub hx) (subOf_len n xs)
  rw [Nat.zero_add, s1_sub] at h
  unfold stdF at h
  rw [ord_vls hx h12, mfT_eq hx, msT_eq hx, h1, h2, ppT_eq hx, pos_list fun x hx => (hb x hx).1, ← stTo_C (by omega) h12] at h
  simp only [Bool.and_self, Bool.and_eq_true] at h
  exact h
/-! stretched rhythms -/
def injB : Bool := (List.range 13).all fun n => (List.range 13).all fun u => Nat.gcd u n != 1 || (List.range n).all fun p => (List.range n).all fun q => p == q || u * p % n != u * q % n
theorem injB_all : injB = true := by decide +kernel
theorem mul_inj {n u p q : Nat} (h12 : n ≤ 12) (hu : u ≤ 12) (hg : Nat.gcd u n = 1) (hp : p < n) (hq : q < n) (h : u * p % n = u * q % n) : p = q := by
  have := injB_all
  unfold injB at this
  rw [List.all_eq_true] at this
  have := this n (List.mem_range.2 (by omega))
  rw [List.all_eq_true] at this
  have := this u (List.mem_range.2 (by omega))
  simp only [Bool.or_eq_true, bne_iff_ne, List.all_eq_true, List.mem_range, beq_iff_eq] at this
  rcases this with h0 | h0
  · exact absurd hg h0
  · rcases h0 p hp q hq with e | e
    · exact e
    · exact absurd h e
theorem st_mem' {s k x : Int} {xs : List Int} : x ∈ stL s xs k ↔ ∃ p ∈ xs, (k * p) % s = x := by
  unfold stL
  rw [coll_mem]
  unfold modL mulM
  simp only [List.mem_map]
  constructor
  · rintro ⟨_, ⟨p, hp, rfl⟩, rfl⟩; exact ⟨p, hp, rfl⟩
  · rintro ⟨p, hp, rfl⟩; exact ⟨_, ⟨p, hp, rfl⟩, rfl⟩
theorem st_ok {n : Nat} (h1 : 1 ≤ n) (h24 : n ≤ 24) (xs : List Int) (u : Int) : rhOk n (stL n xs u) = true := by
  refine rhOk_iff.2 ⟨⟨by omega, by omega⟩, fun x hx => ?_, coll_asc _⟩
  obtain ⟨p, _, rfl⟩ := st_mem'.1 hx
  exact ⟨Int.emod_nonneg _ (by omega), Int.emod_lt_of_pos _ (by omega)⟩
theorem st_perm {n u : Nat} (h12 : n ≤ 12) (hu : u ≤ 12) (hg : Nat.gcd u n = 1) {xs : List Int} (hok : rhOk n xs = true) : (stL n xs (u : Int)).Perm (xs.map fun p => ((u * p.toNat % n : Nat) : Int)) := by
  obtain ⟨hn, hb, ha⟩ := rhOk_iff.1 hok
  refine (List.perm_ext_iff_of_nodup ?_ ?_).2 fun x => ?_
  · exact (coll_asc _).imp (fun h => by omega)
  · refine List.pairwise_map.2 (ha.imp_of_mem fun {a b} hxa hxb h => ?_)
    have h1 := hb a hxa
    have h2 := hb b hxb
    intro e
    have := mul_inj h12 hu hg (p := a.toNat) (q := b.toNat) (by omega) (by omega) (by omega)
    omega
  · rw [st_mem', List.mem_map]
    constructor
    · rintro ⟨p, hp, rfl⟩
      refine ⟨p, hp, ?_⟩
      rw [Int.natCast_emod, Int.natCast_mul, Int.toNat_of_nonneg (hb p hp).1]
    · rintro ⟨p, hp, rfl⟩
      refine ⟨p, hp, ?_⟩
      rw [Int.natCast_emod, Int.natCast_mul, Int.toNat_of_nonneg (hb p hp).1]
theorem sameZ_iff {f g : Nat → Nat} {k : Nat} {ds : List Nat} (hf : ∀ d ∈ ds, f d < wB) (hg : ∀ d ∈ ds, g d < wB) (h : sameZ (dTg ds) (pk f ds) (pk g ds) k = true) : ∀ d ∈ ds, f d = vTg d * k ↔ g d = vTg d * k := by
  induction ds with
  | nil => intro d hd; cases hd
  | cons d r ih =>
    obtain ⟨a1, a2⟩ := pk_mod (r := r) (hf d List.mem_cons_self)
    obtain ⟨b1, b2⟩ := pk_mod (r := r) (hg d List.mem_cons_self)
    unfold dTg at ih h
    rw [List.map_cons] at h
    simp only [sameZ] at h
    rw [a1, a2, b1, b2, Bool.and_eq_true, beq_iff_eq] at h
    have ih := ih (fun e he => hf e (List.mem_cons_of_mem _ he)) (fun e he => hg e (List.mem_cons_of_mem _ he)) h.2
    intro e he
    rcases List.mem_cons.1 he with rfl | he
    · have h1 := h.1
      rw [← Nat.beq_eq, ← Nat.beq_eq, h1]
    · exact ih e he
theorem its_sub (f : Nat → It) {n : Nat} {xs : List Int} (hok : rhOk n xs = true) : (xs.map fun x => f x.toNat).Sublist ((List.range n).map f) := by
  have h := sel_memB hok
  rw [Int.toNat_natCast, selTo_filter] at h
  rw [← h, List.map_map]
  exact (List.filter_sublist (l := List.range n)).map _
theorem st_ord {n u : Nat} (h12 : n ≤ 12) (hu : 1 ≤ u ∧ u ≤ max 1 (n - 1)) (hg : Nat.gcd u n = 1) {xs : List Int} (hok : rhOk n xs = true) : ordI n (stL n xs (u : Int)) = ordI n xs ∧ (stL n xs (u : Int)).length = xs.length := by
  obtain ⟨hn, hb, ha⟩ := rhOk_iff.1 hok
  have hp := st_perm h12 (by omega) hg hok
  have hlen : (stL n xs (u : Int)).length = xs.length := by rw [hp.length_eq, List.length_map]
  refine ⟨?_, hlen⟩
  have hok2 := st_ok (n := n) (by omega) (by omega) xs (u : Int)
  have hc := str_chk (n := n) (by omega) h12 hu.1 hu.2 hg
  unfold strE at hc
  rw [List.all_eq_true] at hc
  have hsub := its_sub (itmU n u) hok
  have hln : xs.length ≤ n := by
    have := hsub.length_le
    simpa using this
  have h := en1_spec (hc xs.length (List.mem_range.2 (by omega))) _ hsub (List.length_map _)
  rw [Nat.zero_add, Nat.zero_add] at h
  have e1 : s1 (xs.map fun x => itmU n u x.toNat) = pk (vf xs) (dvs n) := by
    unfold s1
    rw [List.map_map]
    exact pk_sum (fun x d => vE d x.toNat) (dvs n) xs
  have e2 : s2 (xs.map fun x => itmU n u x.toNat) = pk (vf (stL n xs (u : Int))) (dvs n) := by
    unfold s2
    rw [List.map_map]
    refine (pk_sum (fun x d => vE d (u * x.toNat % n)) (dvs n) xs).trans ?_
    congr 1
    funext d
    unfold vf
    have := (hp.map fun x => vE d x.toNat)
    rw [this.sum_nat, List.map_map]
    congr 1
  rw [e1, e2] at h
  have hz := sameZ_iff (fun d hd => by have := dvs_bd hd; exact vf_lt hok (by omega) (by omega) ((deg_le h12).1 d hd)) (fun d hd => by have := dvs_bd hd; exact vf_lt hok2 (by omega) (by omega) ((deg_le h12).1 d hd)) h
  rw [ord_dvs hok2, ord_dvs hok]
  congr 1
  refine List.filter_congr fun d hd => ?_
  have hbd := dvs_bd hd
  have := hz d hd
  rw [Bool.eq_iff_iff, ← vf_van hok2 (by omega) (by omega), ← vf_van hok (by omega) (by omega), hlen]
  exact this.symm
theorem van_ord {n : Nat} {xs : List Int} (hok : rhOk n xs = true) {d : Nat} (hd : d ∈ dvs n) : vanI n xs d = true ↔ (d : Int) ∈ ordI n xs := by
  rw [ord_dvs hok, List.mem_map]
  constructor
  · intro h; exact ⟨d, List.mem_filter.2 ⟨hd, h⟩, rfl⟩
  · rintro ⟨e, he, h⟩
    have : e = d := by omega
    subst this
    exact (List.mem_filter.1 he).2
theorem st_both {n u : Nat} (h12 : n ≤ 12) (hu : 1 ≤ u ∧ u ≤ max 1 (n - 1)) (hg : Nat.gcd u n = 1) {xs : List Int} (hok : rhOk n xs = true) : mbI n (stL n xs (u : Int)) = mbI n xs := by
  have hn := (rhOk_iff.1 hok).1
  obtain ⟨h1, h2⟩ := st_ord h12 hu hg hok
  have hok2 := st_ok (n := n) (by omega) (by omega) xs (u : Int)
  unfold mbI
  rw [← mfT_eq hok2, ← mfT_eq hok, ← msT_eq hok2, ← msT_eq hok, h1, h2]
theorem st_tile {n u : Nat} (h12 : n ≤ 12) (hu : 1 ≤ u ∧ u ≤ max 1 (n - 1)) (hg : Nat.gcd u n = 1) {xs ys : List Int} (hx : rhOk n xs = true) (hy : rhOk n ys = true) (ht : tilesB n xs ys = true) : tilesB n (stL n xs (u : Int)) ys = true := by
  have hn := (rhOk_iff.1 hx).1
  obtain ⟨h1, h2⟩ := st_ord h12 hu hg hx
  have hok2 := st_ok (n := n) (by omega) (by omega) xs (u : Int)
  have hl := tiles_len ht
  refine (tile_iff h12 hok2 hy (by rw [h2]; exact hl)).1.2 fun d hd => ?_
  rcases (tile_iff h12 hx hy hl).1.1 ht d hd with h | h
  · left
    rw [van_ord hok2 hd, h1, ← van_ord hx hd]
    exact h
  · exact .inr h
/-! partners -/
theorem bt_code {n : Nat} {xs : List Int} (h : rhOk n xs = true) : bt n (codeR n xs) = xs := by
  obtain ⟨hn, hb, ha⟩ := rhOk_iff.1 h
  have key : ∀ x, x ∈ bt n (codeR n xs) ↔ x ∈ xs := fun x => by
    unfold bt
    rw [selTo_mem]
    constructor
    · rintro ⟨k, hk, rfl, ht⟩
      unfold btP at ht
      rw [Int.toNat_natCast] at ht
      have := (codeR_tb h (n - 1 - k) (by omega)).1 ht
      rw [show ((n : Int) - 1 - ((n - 1 - k : Nat) : Int)) = (k : Int) by omega] at this
      exact this
    · intro hx
      obtain ⟨k, rfl⟩ := Int.eq_ofNat_of_zero_le (hb x hx).1
      have hk := (hb _ hx).2
      refine ⟨k, by omega, rfl, ?_⟩
      unfold btP
      rw [Int.toNat_natCast]
      refine (codeR_tb h (n - 1 - k) (by omega)).2 ?_
      rw [show ((n : Int) - 1 - ((n - 1 - k : Nat) : Int)) = (k : Int) by omega]
      exact hx
  exact asc_extS (selTo_asc _ _) ha key
theorem ptsL_iff {n : Nat} (h12 : n ≤ 12) {xs ys : List Int} (hx : rhOk n xs = true) : ys ∈ ptsL n xs ↔ rhOk n ys = true ∧ hasR n ys 0 = true ∧ tilesB n xs ys = true := by
  constructor
  · intro h
    have := ptsL_mem h
    exact this.2.2
  · rintro ⟨hy, h0, ht⟩
    rw [ptsL_in hx h12]
    unfold ptL
    refine List.mem_map.2 ⟨codeR n ys, dn_mem.2 ⟨?_, ?_⟩, bt_code hy⟩
    · have := codeR_lt hy; rw [Int.toNat_natCast] at this; exact this
    · unfold ptP
      rw [bt_code hy, h0, ht]; rfl
theorem both_pts {n : Nat} (h12 : n ≤ 12) {xs : List Int} (hx : rhOk n xs = true) : mbI n xs = true ↔ ptsL n xs ≠ [] := by
  have hn := (rhOk_iff.1 hx).1
  unfold mbI
  rw [Bool.and_eq_true]
  constructor
  · rintro ⟨h1, h2⟩ e
    obtain ⟨h3, h4⟩ := std_tile h12 hx h1 h2
    have hs := stTo_ok (n := (n : Int)) (by omega) (ppI n xs) n
    have : stTo n (ppI n xs) n ∈ ptsL n xs := (ptsL_iff h12 hx).2 ⟨hs, by rw [hasR_in ⟨by omega, by omega⟩]; exact h4, h3⟩
    rw [e] at this
    cases this
  · intro h
    obtain ⟨ys, hy⟩ := List.exists_mem_of_ne_nil _ h
    obtain ⟨h1, _, h3⟩ := (ptsL_iff h12 hx).1 hy
    have := (tile_iff h12 hx h1 (tiles_len h3)).2 h3
    exact ⟨this.mf, this.ms⟩
theorem fp_head {n : Nat} (h12 : n ≤ 12) {xs : List Int} (hx : rhOk n xs = true) : fpO n xs = (ptsL n xs).head? := by
  by_cases h0 : 0 < xs.length
  · by_cases hm : n % xs.length = 0
    · rw [fpO_in hx h0 hm, ptsL_in hx h12]
    · rw [fpO_mod (by intro e; exact hm (by have : ((n % xs.length : Nat) : Int) = 0 := by rw [Int.natCast_emod]; exact e
                                            omega))]
      cases hp : ptsL n xs with
      | nil => rfl
      | cons y r =>
        have := ((ptsL_iff h12 hx).1 (by rw [hp]; exact List.mem_cons_self : y ∈ ptsL n xs)).2.2
        have := tiles_len this
        rw [← this, Nat.mul_mod_right] at hm
        exact absurd rfl hm
  · rw [fpO_nil (by omega)]
    cases hp : ptsL n xs with
    | nil => rfl
    | cons y r =>
      have := ((ptsL_iff h12 hx).1 (by rw [hp]; exact List.mem_cons_self : y ∈ ptsL n xs)).2.2
      have := tiles_len this
      have hn := (rhOk_iff.1 hx).1
      rw [show xs.length = 0 by omega, Nat.zero_mul] at this
      omega
end Go.Proofs.YtikifkbgmniobaaGreat
