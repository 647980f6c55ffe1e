/- How often a pulse is a sum is how many voices play on it: plain laws. -/
import Derived.Test.YtmgemafkaddfjaaVo
import Derived.Test.YtmgemafkaddfjaaSumPlain
namespace Go.Proofs.Ytmgemafkaddfjaa
open Go.RowKit

def hitP (s p : Int) (i : Nat) (y : Int) : Bool := (p + y) % s == (i : Int)
theorem inC_get {s p : Int} {ys l : List Int} {i : Nat} (hs : 1 ≤ s) (hl : l.length = s.toNat) (hi : i < s.toNat) : ∀ b, b ≤ ys.length → (inC s p ys l b)[i]?.getD 0 = l[i]?.getD 0 + ((ys.take b).countP (hitP s p i) : Nat) := by
  intro b
  induction b with
  | zero => intro _; simp [inC]
  | succ b ih =>
    intro hb
    have hy : ys[b]? = some ys[b] := List.getElem?_eq_getElem (by omega)
    rw [List.take_add_one, hy, List.countP_append]
    simp only [inC, inc, hy, Option.getD_some, Option.toList_some]
    have hm0 : 0 ≤ (p + ys[b]) % s := Int.emod_nonneg _ (by omega)
    have hlen : (inC s p ys l b).length = s.toNat := by rw [inC_len, hl]
    have ih' := ih (by omega)
    by_cases he : (p + ys[b]) % s = (i : Int)
    · have hidx : ((p + ys[b]) % s).toNat = i := by omega
      rw [hidx, List.getElem?_set_self (by omega)]
      have : [ys[b]].countP (hitP s p i) = 1 := by simp [hitP, he]
      rw [this]
      simp only [Option.getD_some]
      omega
    · have hidx : ((p + ys[b]) % s).toNat ≠ i := by omega
      rw [List.getElem?_set_ne hidx]
      have : [ys[b]].countP (hitP s p i) = 0 := by simp [hitP, he]
      rw [this]
      omega
theorem outC_get {s : Int} {xs ys : List Int} {i : Nat} (hs : 1 ≤ s) (hi : i < s.toNat) : ∀ a, a ≤ xs.length → (outC s xs ys a)[i]?.getD 0 = (((xs.take a).map fun p => ys.countP (hitP s p i)).sum : Nat) := by
  intro a
  induction a with
  | zero => intro _; simp [outC, hi]
  | succ a ih =>
    intro ha
    have hx : xs[a]? = some xs[a] := List.getElem?_eq_getElem (by omega)
    simp only [outC, hx, Option.getD_some]
    rw [inC_get hs (outC_len s xs ys a) hi _ (Nat.le_refl _), ih (by omega), List.take_length, List.take_add_one, hx, Option.toList_some, List.map_append, List.sum_append]
    simp only [List.map_cons, List.map_nil, List.sum_cons, List.sum_nil]
    omega
theorem swap_sum (s : Int) (i : Nat) (xs : List Int) : ∀ ys : List Int, (xs.map fun p => ys.countP (hitP s p i)).sum = (ys.map fun y => xs.countP fun p => hitP s p i y).sum := by
  intro ys
  induction ys with
  | nil => induction xs with
    | nil => rfl
    | cons x r ih => simpa using ih
  | cons y r ih =>
    simp only [List.map_cons, List.sum_cons, ← ih]
    clear ih
    induction xs with
    | nil => rfl
    | cons x q ih =>
      simp only [List.countP_cons] at ih
      simp only [List.map_cons, List.sum_cons, List.countP_cons]
      omega
theorem count_asc {c : Int} : ∀ {xs : List Int}, xs.Pairwise (· < ·) → c ∈ xs → xs.count c = 1
  | x :: r, h, hm => by
    rw [List.pairwise_cons] at h
    by_cases he : x = c
    · subst he
      have : x ∉ r := fun hr => by have := h.1 x hr; omega
      rw [List.count_cons_self, List.count_eq_zero.2 this]
    · have hr : c ∈ r := by
        rcases List.mem_cons.1 hm with e | e
        · exact absurd e.symm he
        · exact e
      rw [List.count_cons_of_ne he, count_asc h.2 hr]
theorem one_hit {s : Int} {xs : List Int} (hok : rhOk s xs = true) {i : Nat} (hi : (i : Int) < s) {y : Int} (hy : 0 ≤ y ∧ y < s) : xs.countP (fun p => hitP s p i y) = if hasR s xs (i - y) = true then 1 else 0 := by
  obtain ⟨⟨hs1, _⟩, hm, ha⟩ := rhOk_iff.1 hok
  obtain ⟨c, hc⟩ : ∃ c, c = ((i : Int) - y) % s := ⟨_, rfl⟩
  have hc0 : 0 ≤ c := by rw [hc]; exact Int.emod_nonneg _ (by omega)
  have hcs : c < s := by rw [hc]; exact Int.emod_lt_of_pos _ (by omega)
  have hcv : c = if y ≤ (i : Int) then (i : Int) - y else (i : Int) - y + s := by
    rw [hc]
    split
    · rw [Int.emod_eq_of_lt (by omega) (by omega)]
    · rw [← Int.add_emod_right, Int.emod_eq_of_lt (by omega) (by omega)]
  have key : ∀ p ∈ xs, hitP s p i y = (p == c) := by
    intro p hp
    have := hm p hp
    unfold hitP
    rw [Bool.eq_iff_iff, beq_iff_eq, beq_iff_eq]
    by_cases hw : p + y < s
    · rw [Int.emod_eq_of_lt (by omega) hw, hcv]
      split <;> omega
    · rw [show (p + y) % s = p + y - s by rw [← Int.sub_emod_right, Int.emod_eq_of_lt (by omega) (by omega)], hcv]
      split <;> omega
  rw [List.countP_congr (q := fun p => p == c) (fun p hp => by rw [key p hp])]
  show xs.count c = _
  have hh : hasR s xs ((i : Int) - y) = memB xs c := by unfold hasR; rw [← hc]
  rw [hh]
  by_cases hmem : c ∈ xs
  · rw [if_pos (memB_iff.2 hmem)]
    exact count_asc ha hmem
  · rw [if_neg (fun h => hmem (memB_iff.1 h)), List.count_eq_zero.2 hmem]
theorem vat_count (s : Int) (xs ys : List Int) (t : Int) : ∀ b, b ≤ ys.length → (selTo (vatP s xs ys t) b).length = ((ys.take b).map fun y => if hasR s xs (t - y) = true then 1 else 0).sum := by
  intro b
  induction b with
  | zero => intro _; simp [selTo]
  | succ b ih =>
    intro hb
    have hy : ys[b]? = some ys[b] := List.getElem?_eq_getElem (by omega)
    rw [List.take_add_one, hy, Option.toList_some, List.map_append, List.sum_append]
    have ih' := ih (by omega)
    cases hv : hasR s xs (t - ys[b]) with
    | true => rw [vat_hit hy hv, List.length_append, ih']; simp only [List.map_cons, List.map_nil, List.sum_cons, List.sum_nil, hv]; rfl
    | false => rw [vat_miss hy hv, ih']; simp only [List.map_cons, List.map_nil, List.sum_cons, List.sum_nil, hv]; rfl
/-- the number of the voices on a pulse is how often it is a sum -/
theorem sum_voices {s : Int} {xs ys : List Int} (hx : rhOk s xs = true) (hy : rhOk s ys = true) {i : Nat} (hi : (i : Int) < s) : (sumC s xs ys)[i]?.getD 0 = ((vatL s xs ys i).length : Nat) := by
  have hs := (rhOk_iff.1 hx).1
  unfold sumC vatL
  rw [outC_get hs.1 (by omega) _ (Nat.le_refl _), List.take_length, swap_sum, vat_count s xs ys i _ (Nat.le_refl _), List.take_length]
  congr 2
  refine List.map_congr_left fun y hy' => ?_
  exact one_hit hx hi ((rhOk_iff.1 hy).2.1 y hy')
def lineV (l : List Int) : Int := if l.length = 0 then -1 else if l.length = 1 then l[0]?.getD 0 else -2
def lineTo (s : Int) (xs ys : List Int) : Nat → List Int
  | 0 => []
  | k + 1 => lineTo s xs ys k ++ [lineV (vatL s xs ys k)]
theorem lineTo_len (s : Int) (xs ys : List Int) (k : Nat) : (lineTo s xs ys k).length = k := by
  induction k with
  | zero => rfl
  | succ k ih => simp [lineTo, ih]
theorem lineTo_get (s : Int) (xs ys : List Int) {k i : Nat} (h : i < k) : (lineTo s xs ys k)[i]? = some (lineV (vatL s xs ys i)) := by
  induction k with
  | zero => omega
  | succ k ih =>
    simp only [lineTo]
    by_cases hk : i < k
    · rw [List.getElem?_append_left (by rw [lineTo_len]; exact hk), ih hk]
    · have : i = k := by omega
      subst this
      rw [List.getElem?_append_right (by rw [lineTo_len]; omega), lineTo_len, Nat.sub_self]; rfl
/-- how many numbers answer among the first k -/
def cntQ (q : Int → Bool) (L : List Int) : Nat → Nat
  | 0 => 0
  | k + 1 => if q (L[k]?.getD 0) = true then cntQ q L k + 1 else cntQ q L k
theorem cntQ_le (q : Int → Bool) (L : List Int) (k : Nat) : cntQ q L k ≤ k := by
  induction k with
  | zero => simp [cntQ]
  | succ k ih => simp only [cntQ]; split <;> omega
theorem cntQ_hit {q : Int → Bool} {L : List Int} {k : Nat} {x : Int} (h : L[k]? = some x) (hq : q x = true) : cntQ q L (k + 1) = cntQ q L k + 1 := by simp [cntQ, h, hq]
theorem cntQ_miss {q : Int → Bool} {L : List Int} {k : Nat} {x : Int} (h : L[k]? = some x) (hq : q x = false) : cntQ q L (k + 1) = cntQ q L k := by simp [cntQ, h, hq]
def gt1 (x : Int) : Bool := decide (1 < x)
def eqm2 (x : Int) : Bool := x == -2
theorem vat_nn (s : Int) (xs ys : List Int) (t : Int) {x : Int} {k : Nat} (h : (vatL s xs ys t)[k]? = some x) : 0 ≤ x := by
  have hx := List.mem_of_getElem? h
  unfold vatL at hx
  generalize ys.length = n at hx
  induction n with
  | zero => simp [selTo] at hx
  | succ n ih =>
    cases hp : vatP s xs ys t (n : Int) with
    | true =>
      rw [selTo_hit hp, List.mem_append, List.mem_singleton] at hx
      rcases hx with hx | hx
      · exact ih hx
      · omega
    | false => rw [selTo_miss hp] at hx; exact ih hx
theorem clash_same {s : Int} {xs ys : List Int} (hx : rhOk s xs = true) (hy : rhOk s ys = true) : ∀ k : Nat, (k : Int) ≤ s → cntQ gt1 (sumC s xs ys) k = cntQ eqm2 (lineTo s xs ys s.toNat) k := by
  intro k
  induction k with
  | zero => intro _; rfl
  | succ k ih =>
    intro hk
    have h1 := sum_voices hx hy (i := k) (by omega)
    have h2 := lineTo_get s xs ys (k := s.toNat) (i := k) (by omega)
    have h3 : gt1 ((sumC s xs ys)[k]?.getD 0) = eqm2 ((lineTo s xs ys s.toNat)[k]?.getD 0) := by
      rw [h1, h2]
      simp only [Option.getD_some, gt1, eqm2, lineV]
      by_cases e0 : (vatL s xs ys k).length = 0
      · rw [if_pos e0, e0]; rfl
      · rw [if_neg e0]
        by_cases e1 : (vatL s xs ys k).length = 1
        · rw [if_pos e1, e1]
          obtain ⟨x, hx2⟩ : ∃ x, (vatL s xs ys k)[0]? = some x := ⟨_, List.getElem?_eq_getElem (by omega)⟩
          have := vat_nn s xs ys k hx2
          rw [hx2]
          simp; omega
        · rw [if_neg e1]; simp; omega
    simp only [cntQ, h3, ih (by omega)]
def clI (s : Int) (xs : List Int) (u : Int) (ys : List Int) : Int := if cnOk s xs u ys = true then (cntQ gt1 (sumC s xs ys) s.toNat : Nat) else -1
end Go.Proofs.Ytmgemafkaddfjaa
