/- What the enumeration shows of tilings: plain laws. -/
import Derived.Test.YtikifkbgmniobaaGreatTlp
import Derived.Test.YtikifkbgmniobaaGreatStr
import Derived.Test.YtikifkbgmniobaaGreatTls
namespace Go.Proofs.YtikifkbgmniobaaGreat
open Go.RowKit
set_option maxRecDepth 20000

def vf (xs : List Int) (d : Nat) : Nat := (xs.map fun x => vE d x.toNat).sum
theorem s1_sub (n : Nat) (xs : List Int) : s1 (subOf n xs) = pk (vf xs) (dvs n) := by
  unfold s1 subOf
  rw [List.map_map]
  exact pk_sum (fun x d => vE d x.toNat) (dvs n) xs
theorem s2_sub (n : Nat) (xs : List Int) : s2 (subOf n xs) = pk (vf (mulL 2 xs)) (dvs (2 * n)) := by
  unfold s2 subOf
  rw [List.map_map]
  refine (pk_sum (fun x d => vE d (2 * x.toNat)) (dvs (2 * n)) xs).trans ?_
  congr 1
  funext d
  unfold vf mulL
  rw [List.map_map]
  congr 1
  refine List.map_congr_left fun x _ => ?_
  simp only [Function.comp]
  congr 1
  omega
theorem flat_sum (g : Int → Nat) (f : Int → List Int) (xs : List Int) : ((xs.flatMap f).map g).sum = (xs.map fun x => ((f x).map g).sum).sum := by
  induction xs with
  | nil => rfl
  | cons x r ih => rw [List.flatMap_cons, List.map_append, List.sum_append, ih]; rfl
theorem s3_sub {n : Nat} {xs : List Int} (hok : rhOk n xs = true) : s3 (subOf n xs) = pk (vf (strY 2 xs xs.length)) (dvs (2 * n)) := by
  obtain ⟨hn, hb, ha⟩ := rhOk_iff.1 hok
  unfold s3 subOf
  rw [List.map_map]
  refine (pk_sum (fun x d => vE d (2 * x.toNat) + vE d (2 * x.toNat + 1)) (dvs (2 * n)) xs).trans ?_
  congr 1
  funext d
  unfold vf strY
  rw [List.take_length, flat_sum]
  congr 1
  refine List.map_congr_left fun x hx => ?_
  have h0 := (hb x hx).1
  show _ = ([2 * x + 0, 2 * x + 1].map fun x => vE d x.toNat).sum
  simp only [List.map_cons, List.map_nil, List.sum_cons, List.sum_nil, Nat.add_zero]
  rw [show (2 * x + 0).toNat = 2 * x.toNat by omega, show (2 * x + 1).toNat = 2 * x.toNat + 1 by omega]
theorem deg_all : ((List.range 13).all fun n => ((dvs n).all fun d => decide (vDeg d ≤ 10)) && ((dvs (2 * n)).all fun d => decide (vDeg d ≤ 10))) = true := by decide +kernel
theorem deg_le {n : Nat} (h : n ≤ 12) : (∀ d ∈ dvs n, vDeg d ≤ 10) ∧ ∀ d ∈ dvs (2 * n), vDeg d ≤ 10 := by
  have := deg_all
  rw [List.all_eq_true] at this
  have := this n (List.mem_range.2 (by omega))
  simpa only [Bool.and_eq_true, List.all_eq_true, decide_eq_true_eq] using this
theorem vf_lt {m : Nat} {zs : List Int} (hok : rhOk m zs = true) {d : Nat} (h1 : 1 ≤ d) (h24 : d ≤ 24) (hd : vDeg d ≤ 10) : vf zs d < wB := by
  obtain ⟨hn, hb, ha⟩ := rhOk_iff.1 hok
  have hlen := (rhOk_len hok).1
  have hb2 : ∀ x ∈ zs, 0 ≤ x ∧ x < 24 := fun x hx => by have := hb x hx; omega
  unfold vf vE
  rw [hor_sum (fun x j => vD d x.toNat j)]
  refine Nat.lt_of_lt_of_le (hor_lt fun j hj => ?_) (show 128 ^ vDeg d ≤ wB from Nat.le_trans (Nat.pow_le_pow_right (by decide) hd) (by decide))
  have h2 := vDig_sum h1 h24 hb2 (j := j) (by omega)
  have h3 : -(2 * (zs.length : Int)) ≤ vSum d zs j ∧ vSum d zs j ≤ 2 * (zs.length : Int) := sum_small fun x hx => vR_out h1 h24 (by have := hb2 x hx; omega) (by omega)
  omega
theorem vf_van {m : Nat} {zs : List Int} (hok : rhOk m zs = true) {d : Nat} (h1 : 1 ≤ d) (h24 : d ≤ 24) : vf zs d = vTg d * zs.length ↔ vanI m zs d = true := vE_sum hok h1 h24
theorem cov_van {m : Nat} {xs ys : List Int} {ds : List Nat} (hx : rhOk m xs = true) (hy : rhOk m ys = true) (hd : ∀ d ∈ ds, 1 ≤ d ∧ d ≤ 24 ∧ vDeg d ≤ 10) : cov (dTg ds) (pk (vf xs) ds) xs.length (pk (vf ys) ds) ys.length = true ↔ ∀ d ∈ ds, vanI m xs d = true ∨ vanI m ys d = true := by
  rw [cov_iff (fun d h => vf_lt hx (hd d h).1 (hd d h).2.1 (hd d h).2.2) (fun d h => vf_lt hy (hd d h).1 (hd d h).2.1 (hd d h).2.2)]
  constructor
  · intro h d hm
    have := hd d hm
    rw [← vf_van hx this.1 this.2.1, ← vf_van hy this.1 this.2.1]
    exact h d hm
  · intro h d hm
    have := hd d hm
    rw [vf_van hx this.1 this.2.1, vf_van hy this.1 this.2.1]
    exact h d hm
/-! the orders as a list -/
theorem divs_all : ((List.range 25).all fun n => n == 0 || decide (divs (n : Int) = 1 :: (dvs n).map fun (d : Nat) => (d : Int))) = true := by decide +kernel
theorem divs_dvs {n : Nat} (h1 : 1 ≤ n) (h : n ≤ 24) : divs (n : Int) = 1 :: (dvs n).map fun (d : Nat) => (d : Int) := by
  have := divs_all
  rw [List.all_eq_true] at this
  have := this n (List.mem_range.2 (by omega))
  rw [Bool.or_eq_true, beq_iff_eq, decide_eq_true_iff] at this
  rcases this with h | h
  · omega
  · exact h
theorem dvs_bd {n d : Nat} (h : d ∈ dvs n) : 2 ≤ d ∧ d ≤ n := by have := dvs_mem.1 h; omega
theorem ord_dvs {n : Nat} {xs : List Int} (hok : rhOk n xs = true) : ordI n xs = ((dvs n).filter fun (d : Nat) => vanI n xs d).map fun (d : Nat) => (d : Int) := by
  obtain ⟨hn, _, _⟩ := rhOk_iff.1 hok
  unfold ordI ordL
  rw [if_pos hok, divs_dvs (by omega) (by omega), List.filter_cons_of_neg (by unfold qn vq; simp), List.filter_map]
  congr 1
  refine List.filter_congr fun d hd => ?_
  have := dvs_bd hd
  simp only [Function.comp]
  unfold qn vq
  rw [show ((d : Int) == 1) = false by rw [beq_eq_false_iff_ne]; omega]
  simp
theorem ord_vls {n : Nat} {xs : List Int} (hok : rhOk n xs = true) (h12 : n ≤ 12) : vls (dTg (dvs n)) (pk (vf xs) (dvs n)) xs.length = ordI n xs := by
  rw [ord_dvs hok]
  refine vls_eq (fun d hd => ?_) (fun d hd => ?_)
  · have := dvs_bd hd
    exact vf_lt hok (by omega) (by omega) ((deg_le h12).1 d hd)
  · have := dvs_bd hd
    exact vf_van hok (by omega) (by omega)
theorem prodTo_fold (l : List Int) : ∀ k, k ≤ l.length → prodTo l k = (l.take k).foldl (fun a x => IntKind.i64.wrap (a * primeI x)) 1 := by
  intro k
  induction k with
  | zero => intro _; rfl
  | succ k ih =>
    intro h
    have hx : l[k]? = some l[k] := List.getElem?_eq_getElem (by omega)
    rw [prodTo_step hx, ih (by omega), List.take_add_one, hx, List.foldl_append]; rfl
theorem foldl_same {f g : Int → Int} {l : List Int} (h : ∀ x ∈ l, f x = g x) : ∀ a, l.foldl (fun a x => IntKind.i64.wrap (a * f x)) a = l.foldl (fun a x => IntKind.i64.wrap (a * g x)) a := by
  induction l with
  | nil => intro a; rfl
  | cons x r ih => intro a; rw [List.foldl_cons, List.foldl_cons, h x List.mem_cons_self, ih fun y hy => h y (List.mem_cons_of_mem _ hy)]
theorem ord_bd {n : Nat} {xs : List Int} (hok : rhOk n xs = true) : ∀ x ∈ ordI n xs, ∃ d : Nat, x = d ∧ 2 ≤ d ∧ d ≤ 24 := by
  obtain ⟨hn, _, _⟩ := rhOk_iff.1 hok
  intro x hx
  rw [ord_dvs hok] at hx
  obtain ⟨d, hd, rfl⟩ := List.mem_map.1 hx
  have := dvs_bd (List.mem_filter.1 hd).1
  exact ⟨d, rfl, by omega, by omega⟩
theorem ppT_eq {n : Nat} {xs : List Int} (hok : rhOk n xs = true) : ppT (ordI n xs) = ppI n xs := by
  unfold ppT ppI
  refine List.filter_congr fun x hx => ?_
  obtain ⟨d, rfl, h1, h2⟩ := ord_bd hok x hx
  unfold qn pqT ppP
  rw [prime_tab d (by omega) h2, Int.toNat_natCast]
theorem mfT_eq {n : Nat} {xs : List Int} (hok : rhOk n xs = true) : mfT (ordI n xs) xs.length = mfI n xs := by
  unfold mfT mfI
  rw [hok, Bool.true_and, ppT_eq hok, prodTo_fold _ _ (Nat.le_refl _), List.take_length]
  congr 1
  refine foldl_same (fun x hx => ?_) 1
  obtain ⟨d, rfl, h1, h2⟩ := ord_bd hok x (List.mem_filter.1 hx).1
  rw [prime_tab d (by omega) h2, Int.toNat_natCast]
theorem msT_eq {n : Nat} {xs : List Int} (hok : rhOk n xs = true) : msT (ordI n xs) = msI n xs := by
  unfold msT msI
  rw [hok, Bool.true_and, ppT_eq hok]
/-! rhythms stretched to twice their size -/
theorem mul2_ok {n : Nat} {xs : List Int} (hok : rhOk n xs = true) (h12 : n ≤ 12) : rhOk ((2 * n : Nat) : Int) (mulL 2 xs) = true := by
  obtain ⟨hn, hb, ha⟩ := rhOk_iff.1 hok
  refine rhOk_iff.2 ⟨⟨by omega, by omega⟩, fun x hx => ?_, ?_⟩
  · unfold mulL at hx
    obtain ⟨y, hy, rfl⟩ := List.mem_map.1 hx
    have := hb y hy
    omega
  · unfold mulL
    exact List.pairwise_map.2 (ha.imp fun {a b} h => by omega)
theorem str_mem {xs : List Int} {x : Int} : x ∈ strY 2 xs xs.length ↔ ∃ y ∈ xs, x = 2 * y ∨ x = 2 * y + 1 := by
  unfold strY
  rw [List.take_length, List.mem_flatMap]
  constructor
  · rintro ⟨y, hy, h⟩
    have : x ∈ [2 * y + 0, 2 * y + 1] := h
    simp only [List.mem_cons, List.not_mem_nil, or_false] at this
    exact ⟨y, hy, by omega⟩
  · rintro ⟨y, hy, h⟩
    refine ⟨y, hy, ?_⟩
    show x ∈ [2 * y + 0, 2 * y + 1]
    simp only [List.mem_cons, List.not_mem_nil, or_false]
    omega
theorem str_asc : ∀ {xs : List Int}, xs.Pairwise (· < ·) → (xs.flatMap fun q => strI 2 q 2).Pairwise (· < ·) := by
  intro xs
  induction xs with
  | nil => intro _; exact List.Pairwise.nil
  | cons x r ih =>
    intro h
    obtain ⟨h1, h2⟩ := List.pairwise_cons.1 h
    rw [List.flatMap_cons]
    have key : ∀ z ∈ r.flatMap fun q => strI 2 q 2, 2 * x + 1 < z := fun z hz => by
      obtain ⟨y, hy, hm⟩ := List.mem_flatMap.1 hz
      have hm2 : z ∈ [2 * y + 0, 2 * y + 1] := hm
      simp only [List.mem_cons, List.not_mem_nil, or_false] at hm2
      have := h1 y hy
      omega
    show ([2 * x + 0, 2 * x + 1] ++ _).Pairwise _
    rw [List.cons_append, List.cons_append, List.nil_append]
    refine List.pairwise_cons.2 ⟨fun z hz => ?_, List.pairwise_cons.2 ⟨key, ih h2⟩⟩
    rcases List.mem_cons.1 hz with rfl | hz
    · omega
    · have := key z hz; omega
theorem str2_ok {n : Nat} {xs : List Int} (hok : rhOk n xs = true) (h12 : n ≤ 12) : rhOk ((2 * n : Nat) : Int) (strY 2 xs xs.length) = true := by
  obtain ⟨hn, hb, ha⟩ := rhOk_iff.1 hok
  refine rhOk_iff.2 ⟨⟨by omega, by omega⟩, fun x hx => ?_, ?_⟩
  · obtain ⟨y, hy, h⟩ := str_mem.1 hx
    have := hb y hy
    omega
  · unfold strY
    rw [List.take_length]
    exact str_asc ha
theorem str2_len (xs : List Int) : (strY 2 xs xs.length).length = 2 * xs.length := by
  rw [strY_len 2 xs _ (Nat.le_refl _)]
  show xs.length * 2 = _
  omega
/-! the laws -/
structure TileQ (n : Nat) (xs ys : List Int) : Prop where
  left : ∀ d ∈ dvs (2 * n), vanI ((2 * n : Nat) : Int) (mulL 2 xs) d = true ∨ vanI ((2 * n : Nat) : Int) (strY 2 ys ys.length) d = true
  mf : mfI n xs = true
  ms : msI n xs = true
theorem tile_half {n : Nat} (h12 : n ≤ 12) {xs ys : List Int} (hx : rhOk n xs = true) (hy : rhOk n ys = true) (hl : xs.length * ys.length = n) (hle : xs.length ≤ ys.length) :
    (tilesB n xs ys = true ↔ ∀ d ∈ dvs n, vanI n xs d = true ∨ vanI n ys d = true) ∧ (tilesB n xs ys = true → TileQ n xs ys ∧ TileQ n ys xs) := by
  have hn := (rhOk_iff.1 hx).1
  have h := en1_spec (til_chk (n := n) (by omega) h12 hl hle) (subOf n xs) (subOf_sub hx) (subOf_len n xs)
  have h := en2_spec h (subOf n ys) (subOf_sub hy) (subOf_len n ys)
  simp only [Nat.zero_add] at h
  rw [s1_sub, s2_sub, s3_sub hx, s1_sub, s2_sub, s3_sub hy] at h
  obtain ⟨U, hU⟩ : ∃ U, U = (subOf n ys).foldl (fun u it => addU n ((subOf n xs).foldl (fun l it => it.1 :: l) []) it.1 u) 0 := ⟨_, rfl⟩
  have hm := sub_mask hx hy hl
  rw [← hU] at h hm
  have hd1 : ∀ d ∈ dvs n, 1 ≤ d ∧ d ≤ 24 ∧ vDeg d ≤ 10 := fun d hd => by have := dvs_bd hd; exact ⟨by omega, by omega, (deg_le h12).1 d hd⟩
  have hd2 : ∀ d ∈ dvs (2 * n), 1 ≤ d ∧ d ≤ 24 ∧ vDeg d ≤ 10 := fun d hd => by have := dvs_bd hd; exact ⟨by omega, by omega, (deg_le h12).2 d hd⟩
  have hc := cov_van hx hy hd1
  cases ht : Nat.beq U (2 ^ n - 1) with
  | true =>
    unfold lf at h
    rw [ht] at h
    simp only [Bool.and_eq_true] at h
    obtain ⟨⟨⟨h1, h2, h3⟩, h4, h5⟩, h6, h7⟩ := h
    rw [Nat.beq_eq] at ht
    refine ⟨⟨fun _ => hc.1 h1, fun _ => hm.1 ht⟩, fun _ => ⟨⟨?_, ?_, ?_⟩, ⟨?_, ?_, ?_⟩⟩⟩
    · have := cov_van (mul2_ok hx h12) (str2_ok hy h12) hd2
      rw [str2_len] at this
      exact this.1 (by unfold mulL; rw [List.length_map]; exact h2)
    · rw [← mfT_eq hx, ← ord_vls hx h12]; exact h4
    · rw [← msT_eq hx, ← ord_vls hx h12]; exact h5
    · have := cov_van (mul2_ok hy h12) (str2_ok hx h12) hd2
      rw [str2_len] at this
      exact this.1 (by unfold mulL; rw [List.length_map]; exact h3)
    · rw [← mfT_eq hy, ← ord_vls hy h12]; exact h6
    · rw [← msT_eq hy, ← ord_vls hy h12]; exact h7
  | false =>
    unfold lf at h
    rw [ht] at h
    simp only [Bool.not_eq_true'] at h
    have hne : ¬ tilesB n xs ys = true := fun e => by
      rw [← hm] at e
      rw [e] at ht
      rw [show Nat.beq (2 ^ n - 1) (2 ^ n - 1) = true from by rw [Nat.beq_eq]] at ht
      cases ht
    refine ⟨⟨fun e => absurd e hne, fun e => ?_⟩, fun e => absurd e hne⟩
    rw [hc.2 e] at h
    cases h
theorem tiles_comm {n : Nat} (h1 : 1 ≤ n) (xs ys : List Int) : tilesB n xs ys = tilesB n ys xs := by
  unfold tilesB
  rw [sumL_comm h1, Int.mul_comm]
/-- a tiling is told by the orders at which one of two vanishes -/
theorem tile_iff {n : Nat} (h12 : n ≤ 12) {xs ys : List Int} (hx : rhOk n xs = true) (hy : rhOk n ys = true) (hl : xs.length * ys.length = n) :
    (tilesB n xs ys = true ↔ ∀ d ∈ dvs n, vanI n xs d = true ∨ vanI n ys d = true) ∧ (tilesB n xs ys = true → TileQ n xs ys) := by
  have hn := (rhOk_iff.1 hx).1
  rcases Nat.le_total xs.length ys.length with h | h
  · have := tile_half h12 hx hy hl h
    exact ⟨this.1, fun e => (this.2 e).1⟩
  · have := tile_half h12 hy hx (by rw [Nat.mul_comm]; exact hl) h
    rw [tiles_comm (by omega)]
    refine ⟨this.1.trans ⟨fun e d hd => (e d hd).symm, fun e d hd => (e d hd).symm⟩, fun e => (this.2 e).2⟩
theorem left_nil {n : Nat} {xs ys : List Int} (hx : rhOk n xs = true) (hy : rhOk n ys = true) : (leftI n xs n ys).length = 0 ↔ ∀ d ∈ dvs n, vanI n xs d = true ∨ vanI n ys d = true := by
  have hn := (rhOk_iff.1 hx).1
  unfold leftI
  rw [if_pos (twoOk_iff.2 ⟨hx, hy, rfl⟩), divs_dvs (by omega) (by omega), List.length_eq_zero_iff, List.filter_eq_nil_iff]
  constructor
  · intro h d hd
    have h2 := h (d : Int) (List.mem_cons_of_mem _ (List.mem_map.2 ⟨d, hd, rfl⟩))
    have := dvs_bd hd
    unfold qn lq at h2
    rw [show ((d : Int) == 1) = false by rw [beq_eq_false_iff_ne]; omega] at h2
    cases ha : vanI n xs d with
    | true => exact .inl rfl
    | false =>
      rw [ha] at h2
      exact .inr (by simpa using h2)
  · intro h x hx
    unfold qn lq
    rcases List.mem_cons.1 hx with rfl | hx
    · simp
    · obtain ⟨d, hd, rfl⟩ := List.mem_map.1 hx
      rcases h d hd with e | e <;> rw [e] <;> simp
/-- a tiling stays one as it is stretched -/
theorem tile_str {n : Nat} (h12 : n ≤ 12) {xs ys : List Int} (hx : rhOk n xs = true) (hy : rhOk n ys = true) (ht : tilesB n xs ys = true) : tilesB ((2 * n : Nat) : Int) (mulL 2 xs) (strY 2 ys ys.length) = true := by
  have hn := (rhOk_iff.1 hx).1
  have hbx := (rhOk_iff.1 hx).2.1
  have hby := (rhOk_iff.1 hy).2.1
  unfold tilesB at ht ⊢
  rw [decide_eq_true_iff] at ht ⊢
  obtain ⟨hl0, h2⟩ := ht
  have hl : xs.length * ys.length = n := by
    have : ((xs.length * ys.length : Nat) : Int) = n := by rw [Int.natCast_mul]; exact hl0
    omega
  have e1 : ∀ i : Nat, i < n → sumP (sumC n xs ys) (i : Int) = true := by
    rw [← selTo_full]
    have h3 := h2
    unfold sumL at h3
    rw [Int.toNat_natCast] at h3
    omega
  refine ⟨?_, ?_⟩
  · rw [str2_len]
    unfold mulL
    rw [List.length_map, ← hl]
    simp only [Int.natCast_mul]
    rw [Int.mul_left_comm]
  · unfold sumL
    rw [Int.toNat_natCast]
    refine congrArg _ (selTo_full.2 fun z hz => (sumP_iff (by omega) hz).2 ?_)
    obtain ⟨p, hp, q, hq, e⟩ := (sumP_iff (by omega) (show z / 2 < n by omega)).1 (e1 (z / 2) (by omega))
    have h3 := hbx p hp
    have h4 := hby q hq
    obtain ⟨a, rfl⟩ := Int.eq_ofNat_of_zero_le h3.1
    obtain ⟨b, rfl⟩ := Int.eq_ofNat_of_zero_le h4.1
    refine ⟨2 * (a : Int), List.mem_map.2 ⟨_, hp, rfl⟩, 2 * (b : Int) + ((z % 2 : Nat) : Int), str_mem.2 ⟨_, hq, by omega⟩, ?_⟩
    have e2 : (a + b) % n = z / 2 := by
      have : (((a + b) % n : Nat) : Int) = ((z / 2 : Nat) : Int) := by rw [Int.natCast_emod, Int.natCast_add]; exact e
      omega
    have e3 : (2 * a + (2 * b + z % 2)) % (2 * n) = z := by
      rcases Nat.lt_or_ge (a + b) n with h5 | h5
      · rw [Nat.mod_eq_of_lt h5] at e2
        rw [Nat.mod_eq_of_lt (by omega)]
        omega
      · rw [Nat.mod_eq_sub_mod h5, Nat.mod_eq_of_lt (by omega)] at e2
        rw [Nat.mod_eq_sub_mod (by omega), Nat.mod_eq_of_lt (by omega)]
        omega
    have : (((2 * a + (2 * b + z % 2)) % (2 * n) : Nat) : Int) = z := by rw [e3]
    rw [Int.natCast_emod] at this
    rw [← this]
    simp only [Int.natCast_add, Int.natCast_mul]; rfl
end Go.Proofs.YtikifkbgmniobaaGreat
