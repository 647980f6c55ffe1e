/- Sums of rhythms: the plain laws of FnSums. -/
import Derived.Test.YtgfdmjhdfddopaaSumPr
import Derived.Test.YtgfdmjhdfddopaaSumRh
import Derived.Test.YtgfdmjhdfddopaaTls
import Derived.Test.YtgfdmjhdfddopaaRot
namespace Go.Proofs.Ytgfdmjhdfddopaa
open Go.RowKit
set_option maxRecDepth 20000

/-- how often i is a difference of two beats -/
def dfI (s : Int) (xs : List Int) (i : Int) : Nat := (xs.map fun p => (xs.filter fun q => (p - q) % s == i).length).sum
theorem pr_nonneg (n : Nat) (xs ys : List Int) (i : Nat) (hi : i < n) (h1 : 1 ≤ n) : (sumC n xs ys)[i]?.getD 0 = ((prI n xs ys i : Nat) : Int) := sumC_at (by omega) (by rw [Int.toNat_natCast]; exact hi)
theorem ext_getD {a b : List Int} (hl : a.length = b.length) (h : ∀ i : Nat, i < a.length → a[i]?.getD 0 = b[i]?.getD 0) : a = b := by
  refine List.ext_getElem hl fun i h1 h2 => ?_
  have := h i h1
  rw [List.getElem?_eq_getElem h1, List.getElem?_eq_getElem h2] at this
  exact this
theorem sumC_comm {n : Nat} (h1 : 1 ≤ n) (xs ys : List Int) : sumC n xs ys = sumC n ys xs := by
  refine ext_getD (by rw [sumC_len, sumC_len]) fun i hi => ?_
  rw [sumC_len, Int.toNat_natCast] at hi
  rw [pr_nonneg n xs ys i hi h1, pr_nonneg n ys xs i hi h1, prI_comm]
theorem sumL_comm {n : Nat} (h1 : 1 ≤ n) (xs ys : List Int) : sumL n xs ys = sumL n ys xs := by
  unfold sumL; rw [sumC_comm h1]
/-- a selection and the selection of the rest -/
theorem sel_rest (p q : Int → Bool) (k : Nat) (h : ∀ i : Nat, i < k → p (i : Int) = !q (i : Int)) : (selTo p k).length + (selTo q k).length = k := by
  induction k with
  | zero => rfl
  | succ k ih =>
    have ih := ih fun i hi => h i (by omega)
    have hk := h k (by omega)
    cases hq : q (k : Int) with
    | true =>
      rw [hq] at hk
      rw [selTo_miss (by rw [hk]; rfl), selTo_hit hq, List.length_append]
      simp; omega
    | false =>
      rw [hq] at hk
      rw [selTo_hit (by rw [hk]; rfl), selTo_miss hq, List.length_append]
      simp; omega
theorem gaps_rest {n : Nat} (h1 : 1 ≤ n) (xs ys : List Int) : (selTo (gapP (sumC n xs ys)) n).length + (selTo (sumP (sumC n xs ys)) n).length = n := by
  refine sel_rest _ _ n fun i hi => ?_
  unfold gapP sumP
  rw [Int.toNat_natCast, pr_nonneg n xs ys i hi h1]
  rw [Bool.eq_iff_iff]
  simp
theorem sum_pos (f : Int → Nat) (xs : List Int) : 0 < (xs.map f).sum ↔ ∃ p ∈ xs, 0 < f p := by
  induction xs with
  | nil => simp
  | cons x r ih =>
    rw [List.map_cons, List.sum_cons]
    constructor
    · intro h
      by_cases hx : 0 < f x
      · exact ⟨x, List.mem_cons_self, hx⟩
      · obtain ⟨p, hp, h2⟩ := ih.1 (by omega)
        exact ⟨p, List.mem_cons_of_mem _ hp, h2⟩
    · rintro ⟨p, hp, h⟩
      rcases List.mem_cons.1 hp with rfl | hp
      · omega
      · have := ih.2 ⟨p, hp, h⟩
        omega
theorem filter_pos (f : Int → Bool) (xs : List Int) : 0 < (xs.filter f).length ↔ ∃ p ∈ xs, f p = true := by
  constructor
  · intro h
    obtain ⟨x, hx⟩ := List.exists_mem_of_ne_nil _ (List.length_pos_iff.1 h)
    obtain ⟨h1, h2⟩ := List.mem_filter.1 hx
    exact ⟨x, h1, h2⟩
  · rintro ⟨x, hx, hf⟩
    exact List.length_pos_iff.2 (List.ne_nil_of_mem (List.mem_filter.2 ⟨hx, hf⟩))
theorem prI_pos {s : Int} {xs ys : List Int} {i : Int} : 0 < prI s xs ys i ↔ ∃ p ∈ xs, ∃ q ∈ ys, (p + q) % s = i := by
  unfold prI
  rw [sum_pos]
  constructor
  · rintro ⟨p, hp, h⟩
    obtain ⟨q, hq, e⟩ := (filter_pos _ _).1 h
    exact ⟨p, hp, q, hq, by simpa using e⟩
  · rintro ⟨p, hp, q, hq, e⟩
    exact ⟨p, hp, (filter_pos _ _).2 ⟨q, hq, by simpa using e⟩⟩
theorem dfI_pos {s : Int} {xs : List Int} {i : Int} : 0 < dfI s xs i ↔ ∃ p ∈ xs, ∃ q ∈ xs, (p - q) % s = i := by
  unfold dfI
  rw [sum_pos]
  constructor
  · rintro ⟨p, hp, h⟩
    obtain ⟨q, hq, e⟩ := (filter_pos _ _).1 h
    exact ⟨p, hp, q, hq, by simpa using e⟩
  · rintro ⟨p, hp, q, hq, e⟩
    exact ⟨p, hp, (filter_pos _ _).2 ⟨q, hq, by simpa using e⟩⟩
theorem sumP_iff {n : Nat} {xs ys : List Int} (h1 : 1 ≤ n) {i : Nat} (hi : i < n) : sumP (sumC n xs ys) (i : Int) = true ↔ ∃ p ∈ xs, ∃ q ∈ ys, (p + q) % (n : Int) = (i : Int) := by
  unfold sumP
  rw [Int.toNat_natCast, pr_nonneg n xs ys i hi h1, ← prI_pos]
  simp
theorem mem_sumL {n : Nat} {xs ys : List Int} (h1 : 1 ≤ n) {x : Int} : x ∈ sumL n xs ys ↔ (0 ≤ x ∧ x < n) ∧ ∃ p ∈ xs, ∃ q ∈ ys, (p + q) % (n : Int) = x := by
  unfold sumL
  rw [Int.toNat_natCast, selTo_mem]
  constructor
  · rintro ⟨i, hi, rfl, hp⟩
    exact ⟨by omega, (sumP_iff h1 hi).1 hp⟩
  · rintro ⟨hb, h⟩
    obtain ⟨i, rfl⟩ := Int.eq_ofNat_of_zero_le hb.1
    exact ⟨i, by omega, rfl, (sumP_iff h1 (by omega)).2 h⟩
theorem asc_extS {a b : List Int} (ha : a.Pairwise (· < ·)) (hb : b.Pairwise (· < ·)) (h : ∀ x, x ∈ a ↔ x ∈ b) : a = b := by
  induction a generalizing b with
  | nil =>
    cases b with
    | nil => rfl
    | cons y r => exact absurd ((h y).2 List.mem_cons_self) (by simp)
  | cons x r ih =>
    cases b with
    | nil => exact absurd ((h x).1 List.mem_cons_self) (by simp)
    | cons y s =>
      have h1 := List.pairwise_cons.1 ha
      have h2 := List.pairwise_cons.1 hb
      have hxy : x = y := by
        rcases List.mem_cons.1 ((h x).1 List.mem_cons_self) with e | e
        · exact e
        · rcases List.mem_cons.1 ((h y).2 List.mem_cons_self) with e2 | e2
          · exact e2.symm
          · have := h2.1 x e
            have := h1.1 y e2
            omega
      subst hxy
      congr 1
      refine ih h1.2 h2.2 fun z => ?_
      constructor
      · intro hz
        rcases List.mem_cons.1 ((h z).1 (List.mem_cons_of_mem _ hz)) with e | e
        · have := h1.1 z hz; omega
        · exact e
      · intro hz
        rcases List.mem_cons.1 ((h z).2 (List.mem_cons_of_mem _ hz)) with e | e
        · have := h2.1 z hz; omega
        · exact e
theorem rot_mem' {s k x : Int} {xs : List Int} : x ∈ rotL s xs k ↔ ∃ p ∈ xs, (p + k) % s = x := by
  unfold rotL
  rw [coll_mem]
  unfold modL addL
  simp only [List.mem_map]
  constructor
  · rintro ⟨_, ⟨p, hp, rfl⟩, rfl⟩; exact ⟨p, hp, rfl⟩
  · rintro ⟨p, hp, rfl⟩; exact ⟨_, ⟨p, hp, rfl⟩, rfl⟩
/-- the sum moves with the first rhythm -/
theorem sum_rot {n : Nat} (h1 : 1 ≤ n) (xs ys : List Int) (k : Int) : sumL n (rotL n xs k) ys = rotL n (sumL n xs ys) k := by
  refine asc_extS (selTo_asc _ _) (coll_asc _) fun x => ?_
  rw [mem_sumL h1, rot_mem']
  constructor
  · rintro ⟨hb, p, hp, q, hq, e⟩
    obtain ⟨r, hr, rfl⟩ := rot_mem'.1 hp
    refine ⟨(r + q) % n, (mem_sumL h1).2 ⟨⟨Int.emod_nonneg _ (by omega), Int.emod_lt_of_pos _ (by omega)⟩, r, hr, q, hq, rfl⟩, ?_⟩
    rw [← e, Int.emod_add_emod, Int.emod_add_emod]
    congr 1; omega
  · rintro ⟨y, hy, e⟩
    obtain ⟨_, p, hp, q, hq, e2⟩ := (mem_sumL h1).1 hy
    subst e
    refine ⟨⟨Int.emod_nonneg _ (by omega), Int.emod_lt_of_pos _ (by omega)⟩, (p + k) % n, rot_mem'.2 ⟨p, hp, rfl⟩, q, hq, ?_⟩
    rw [← e2, Int.emod_add_emod, Int.emod_add_emod]
    congr 1; omega
theorem btw_all {n : Nat} {xs ys : List Int} (hx : rhOk n xs = true) (hy : rhOk n ys = true) (lo hi : Int) : btw n xs n ys lo hi = (sumC n xs ys).all fun v => inB v lo hi := by
  unfold btw
  rw [twoOk_iff.2 ⟨hx, hy, rfl⟩, Bool.true_and]
/-- a sum is direct if no difference is common -/
def apartB (n : Nat) (xs ys : List Int) : Nat → Bool
  | 0 => true
  | i + 1 => apartB n xs ys i && (dfI n xs ((i : Nat) : Int) == 0 || dfI n ys ((i : Nat) : Int) == 0 || i == 0)
theorem apartB_iff {n : Nat} {xs ys : List Int} : ∀ m, apartB n xs ys m = true ↔ ∀ i : Nat, 1 ≤ i → i < m → dfI n xs i = 0 ∨ dfI n ys i = 0 := by
  intro m
  induction m with
  | zero => simp [apartB]
  | succ m ih =>
    simp only [apartB, Bool.and_eq_true, ih, Bool.or_eq_true, beq_iff_eq]
    constructor
    · rintro ⟨h1, h2⟩ i hi him
      by_cases e : i = m
      · subst e
        rcases h2 with h2 | h2
        · exact h2
        · omega
      · exact h1 i hi (by omega)
    · intro h
      refine ⟨fun i hi him => h i hi (by omega), ?_⟩
      by_cases e : m = 0
      · exact .inr e
      · exact .inl (h m (by omega) (by omega))
theorem direct_iff {n : Nat} {xs ys : List Int} (hx : rhOk n xs = true) (hy : rhOk n ys = true) : btw n xs n ys 0 1 = true ↔ ∀ i : Nat, i < n → prI n xs ys i ≤ 1 := by
  have hn := (rhOk_iff.1 hx).1.1
  rw [btw_all hx hy, List.all_eq_true]
  constructor
  · intro h i hi
    have hl : i < (sumC n xs ys).length := by rw [sumC_len, Int.toNat_natCast]; exact hi
    have h2 := inB_iff.1 (h _ (List.getElem_mem hl))
    have h3 := pr_nonneg n xs ys i hi (by omega)
    rw [List.getElem?_eq_getElem hl] at h3
    simp only [Option.getD_some] at h3
    omega
  · intro h v hv
    obtain ⟨i, hl, rfl⟩ := List.getElem_of_mem hv
    have hi : i < n := by rw [sumC_len, Int.toNat_natCast] at hl; exact hl
    have h3 := pr_nonneg n xs ys i hi (by omega)
    rw [List.getElem?_eq_getElem hl] at h3
    simp only [Option.getD_some] at h3
    have := h i hi
    exact inB_yes (by omega)
/-- two in an ascending selection -/
theorem two_of {ys : List Int} (f : Int → Bool) (ha : ys.Pairwise (· < ·)) : 2 ≤ (ys.filter f).length ↔ ∃ p ∈ ys, ∃ q ∈ ys, p < q ∧ f p = true ∧ f q = true := by
  constructor
  · intro h
    have hs := ha.filter f
    generalize hz : ys.filter f = zs at *
    match zs, h with
    | a :: b :: r, _ =>
      have h1 := (List.pairwise_cons.1 hs).1 b (by simp)
      have hma : a ∈ ys.filter f := by rw [hz]; simp
      have hmb : b ∈ ys.filter f := by rw [hz]; simp
      exact ⟨a, (List.mem_filter.1 hma).1, b, (List.mem_filter.1 hmb).1, h1, (List.mem_filter.1 hma).2, (List.mem_filter.1 hmb).2⟩
  · rintro ⟨p, hp, q, hq, hlt, fp, fq⟩
    have h1 : p ∈ ys.filter f := List.mem_filter.2 ⟨hp, fp⟩
    have h2 : q ∈ ys.filter f := List.mem_filter.2 ⟨hq, fq⟩
    generalize hz : ys.filter f = zs at *
    match zs with
    | [] => cases h1
    | [a] =>
      rw [List.mem_singleton] at h1 h2
      omega
    | a :: b :: r => simp
theorem mod_eq_iff {n : Nat} (_h1 : 1 ≤ n) {a b : Int} : a % (n : Int) = b % n ↔ (a - b) % (n : Int) = 0 := by
  rw [Int.emod_eq_emod_iff_emod_sub_eq_zero]
theorem direct_apart {n : Nat} {xs ys : List Int} (hx : rhOk n xs = true) (hy : rhOk n ys = true) : btw n xs n ys 0 1 = apartB n xs ys n := by
  obtain ⟨hn, hxb, hxa⟩ := rhOk_iff.1 hx
  obtain ⟨_, hyb, hya⟩ := rhOk_iff.1 hy
  rw [Bool.eq_iff_iff, direct_iff hx hy, apartB_iff]
  constructor
  · intro h j hj1 hjn
    refine Classical.byContradiction fun hc => ?_
    have ha : 0 < dfI n xs j := by omega
    have hb : 0 < dfI n ys j := by omega
    obtain ⟨p, hp, p', hp', e1⟩ := dfI_pos.1 ha
    obtain ⟨q, hq, q', hq', e2⟩ := dfI_pos.1 hb
    -- p + q' and p' + q are one pulse
    have heq : (p + q') % (n : Int) = (p' + q) % n := by
      rw [mod_eq_iff (by omega)]
      have : (p + q') - (p' + q) = (p - p') - (q - q') := by omega
      rw [this, Int.sub_emod, e1, e2]
      simp
    have hqq : q ≠ q' := fun e => by
      subst e
      rw [Int.sub_self] at e2
      simp at e2
      omega
    have hi := Int.emod_nonneg (p + q') (show (n : Int) ≠ 0 by omega)
    have hi2 := Int.emod_lt_of_pos (p + q') (show 0 < (n : Int) by omega)
    obtain ⟨i, hie⟩ := Int.eq_ofNat_of_zero_le hi
    have hc1 := h i (by omega)
    rw [prI_hit (fun x hx => by have := hxb x hx; omega) hxa] at hc1
    have h2 : 2 ≤ (ys.filter fun q => hit n xs i q).length := by
      rw [two_of _ hya]
      have f1 : hit n xs i q' = true := List.any_eq_true.2 ⟨p, hp, by rw [beq_iff_eq]; exact hie⟩
      have f2 : hit n xs i q = true := List.any_eq_true.2 ⟨p', hp', by rw [beq_iff_eq, ← heq]; exact hie⟩
      rcases Int.lt_or_gt_of_ne hqq with hl | hl
      · exact ⟨q, hq, q', hq', hl, f2, f1⟩
      · exact ⟨q', hq', q, hq, hl, f1, f2⟩
    omega
  · intro h i hi
    rw [prI_hit (fun x hx => by have := hxb x hx; omega) hxa]
    refine Classical.byContradiction fun hc => ?_
    obtain ⟨q, hq, q', hq', hlt, f1, f2⟩ := (two_of _ hya).1 (show 2 ≤ (ys.filter fun q => hit n xs i q).length by omega)
    obtain ⟨p, hp, e1⟩ := List.any_eq_true.1 f1
    obtain ⟨p', hp', e2⟩ := List.any_eq_true.1 f2
    rw [beq_iff_eq] at e1 e2
    -- the difference q' - q
    have hqb := hyb q hq
    have hqb' := hyb q' hq'
    obtain ⟨j, hj⟩ := Int.eq_ofNat_of_zero_le (show 0 ≤ q' - q by omega)
    have hy2 : 0 < dfI n ys j := dfI_pos.2 ⟨q', hq', q, hq, by rw [hj, Int.emod_eq_of_lt (by omega) (by omega)]⟩
    have hx2 : 0 < dfI n xs j := dfI_pos.2 ⟨p, hp, p', hp', by
      have : (p + q) % (n : Int) = (p' + q') % n := by rw [e1, e2]
      rw [mod_eq_iff (by omega)] at this
      have h3 : (p - p' - (j : Int)) % (n : Int) = 0 := by rw [← hj, show p - p' - (q' - q) = p + q - (p' + q') by omega]; exact this
      have h4 := (mod_eq_iff (n := n) (by omega)).2 h3
      rw [h4, Int.emod_eq_of_lt (by omega) (by omega)]⟩
    have := h j (by omega) (by omega)
    omega
theorem tile_direct {n : Nat} {xs ys : List Int} (hx : rhOk n xs = true) (hy : rhOk n ys = true) : btw n xs n ys 1 1 = (btw n xs n ys 0 1 && decide ((selTo (gapP (sumC n xs ys)) n).length = 0)) := by
  have hn := (rhOk_iff.1 hx).1.1
  have hg : (selTo (gapP (sumC n xs ys)) n).length = 0 ↔ ∀ v ∈ sumC n xs ys, v ≠ 0 := by
    rw [List.length_eq_zero_iff, List.eq_nil_iff_forall_not_mem]
    constructor
    · intro h v hv e
      obtain ⟨i, hl, rfl⟩ := List.getElem_of_mem hv
      have hi : i < n := by rw [sumC_len, Int.toNat_natCast] at hl; exact hl
      refine h (i : Int) (selTo_mem.2 ⟨i, hi, rfl, ?_⟩)
      unfold gapP
      rw [Int.toNat_natCast, List.getElem?_eq_getElem hl]
      simpa using e
    · intro h x hx
      obtain ⟨i, hi, rfl, hp⟩ := selTo_mem.1 hx
      have hl : i < (sumC n xs ys).length := by rw [sumC_len, Int.toNat_natCast]; exact hi
      unfold gapP at hp
      rw [Int.toNat_natCast, List.getElem?_eq_getElem hl] at hp
      exact h _ (List.getElem_mem hl) (by simpa using hp)
  rw [btw_all hx hy, btw_all hx hy, Bool.eq_iff_iff, Bool.and_eq_true, decide_eq_true_iff, hg, List.all_eq_true, List.all_eq_true]
  constructor
  · intro h
    exact ⟨fun v hv => by have := inB_iff.1 (h v hv); exact inB_yes (by omega), fun v hv => by have := inB_iff.1 (h v hv); omega⟩
  · rintro ⟨h1, h2⟩ v hv
    have := inB_iff.1 (h1 v hv)
    have := h2 v hv
    exact inB_yes (by omega)
theorem pos_le_sum {l : List Int} (h : ∀ x ∈ l, 0 ≤ x) : ((l.filter fun x => decide (0 < x)).length : Int) ≤ l.sum := by
  induction l with
  | nil => simp
  | cons x r ih =>
    have h1 := h x List.mem_cons_self
    have h2 := ih fun y hy => h y (List.mem_cons_of_mem _ hy)
    rw [List.sum_cons]
    by_cases e : 0 < x
    · rw [List.filter_cons_of_pos (by simpa using e), List.length_cons]; omega
    · rw [List.filter_cons_of_neg (by simpa using e)]; omega
theorem pos_eq_sum {l : List Int} (h : ∀ x ∈ l, 0 ≤ x) : ((l.filter fun x => decide (0 < x)).length : Int) = l.sum ↔ ∀ x ∈ l, x ≤ 1 := by
  induction l with
  | nil => simp
  | cons x r ih =>
    have h1 := h x List.mem_cons_self
    have hr := fun y hy => h y (List.mem_cons_of_mem x hy)
    have h2 := ih hr
    have h3 := pos_le_sum hr
    rw [List.sum_cons]
    by_cases e : 0 < x
    · rw [List.filter_cons_of_pos (by simpa using e), List.length_cons]
      constructor
      · intro he
        have h4 := h2.1 (by omega)
        intro y hy
        rcases List.mem_cons.1 hy with rfl | hy
        · omega
        · exact h4 y hy
      · intro he
        have := he x List.mem_cons_self
        have := h2.2 fun y hy => he y (List.mem_cons_of_mem _ hy)
        omega
    · rw [List.filter_cons_of_neg (by simpa using e)]
      constructor
      · intro he
        have h4 := h2.1 (by omega)
        intro y hy
        rcases List.mem_cons.1 hy with rfl | hy
        · omega
        · exact h4 y hy
      · intro he
        have := h2.2 fun y hy => he y (List.mem_cons_of_mem _ hy)
        omega
/-- the selection's length is the number of the counts that are wanted -/
theorem sel_filter (L : List Int) (f : Int → Bool) : ∀ k, k ≤ L.length → (selTo (fun p => f (L[p.toNat]?.getD 0)) k).length = ((L.take k).filter f).length := by
  intro k
  induction k with
  | zero => intro _; rfl
  | succ k ih =>
    intro hk
    have ih := ih (by omega)
    have hx := List.getElem?_eq_getElem (l := L) (i := k) (by omega)
    rw [filter_take_snoc f hx]
    by_cases e : f L[k] = true
    · rw [if_pos e, selTo_hit (by rw [Int.toNat_natCast, hx]; exact e), List.length_append, ih]; rfl
    · rw [if_neg e, selTo_miss (by rw [Int.toNat_natCast, hx]; simpa using e), ih]; rfl
theorem direct_len {n : Nat} {xs ys : List Int} (hx : rhOk n xs = true) (hy : rhOk n ys = true) : btw n xs n ys 0 1 = decide (((sumL n xs ys).length : Int) = (xs.length : Int) * (ys.length : Int)) := by
  have hn := (rhOk_iff.1 hx).1.1
  have hnn : ∀ v ∈ sumC n xs ys, 0 ≤ v := fun v hv => by
    obtain ⟨i, hl, rfl⟩ := List.getElem_of_mem hv
    have hi : i < n := by rw [sumC_len, Int.toNat_natCast] at hl; exact hl
    have h3 := pr_nonneg n xs ys i hi (by omega)
    rw [List.getElem?_eq_getElem hl] at h3
    simp only [Option.getD_some] at h3
    omega
  have hl : (sumL n xs ys).length = ((sumC n xs ys).filter fun x => decide (0 < x)).length := by
    have := sel_filter (sumC n xs ys) (fun x => decide (0 < x)) n (by rw [sumC_len, Int.toNat_natCast]; exact Nat.le_refl _)
    rw [List.take_of_length_le (by rw [sumC_len, Int.toNat_natCast]; exact Nat.le_refl _)] at this
    rw [← this]
    unfold sumL
    rw [Int.toNat_natCast]
    rfl
  have hs := sumC_sum (s := (n : Int)) (xs := xs) (ys := ys) hn
  rw [btw_all hx hy, Bool.eq_iff_iff, decide_eq_true_iff, hl, ← Int.natCast_mul, ← hs, pos_eq_sum hnn, List.all_eq_true]
  constructor
  · intro h v hv; exact (inB_iff.1 (h v hv)).2
  · intro h v hv; exact inB_yes ⟨hnn v hv, h v hv⟩
end Go.Proofs.Ytgfdmjhdfddopaa
