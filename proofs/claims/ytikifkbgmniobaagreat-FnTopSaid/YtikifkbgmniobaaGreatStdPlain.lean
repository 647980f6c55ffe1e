/- The standard partner of a rhythm, as a plain law. -/
import Derived.Test.YtikifkbgmniobaaGreatPps
import Derived.Test.YtikifkbgmniobaaGreatTls
import Derived.Test.YtikifkbgmniobaaGreatRts
namespace Go.Proofs.YtikifkbgmniobaaGreat
open Go.RowKit
set_option maxRecDepth 20000

theorem primeI_bd {n : Int} (hn : n ≤ 1000) : primeI n = 0 ∨ (2 ≤ primeI n ∧ primeI n ≤ n) := by
  by_cases h2 : 2 ≤ n
  · obtain ⟨p, hp⟩ := lp_exists n h2
    rw [primeI_lp hp hn]
    split
    · exact .inl rfl
    · exact .inr ⟨hp.two, hp.le⟩
  · exact .inl (by unfold primeI; rw [if_neg (by omega)])
def stB (n s : Int) (j : Nat) : List Int := (List.range j).map fun (i : Nat) => (i : Int) * (s / primeI s) * strip (primeI s) n
theorem stB_len (n s : Int) (j : Nat) : (stB n s j).length = j := by simp [stB]
theorem stB_succ (n s : Int) (j : Nat) : stB n s (j + 1) = stB n s j ++ [(j : Int) * (s / primeI s) * strip (primeI s) n] := by simp [stB, List.range_succ]
def stT (n s : Int) : List Int := coll (modL n (stB n s (primeI s).toNat))
def stF (n : Int) (P : List Int) (out : List Int) (s : Int) : List Int := if (primeI s == 0 || memB P s) = true then out else sumL n out (stT n s)
def stTo (n : Int) (P : List Int) (k : Nat) : List Int := (divTo n k).foldl (stF n P) [0]
theorem stTo_hit {n : Int} {P : List Int} {k : Nat} (h : n % ((k : Int) + 1) = 0) : stTo n P (k + 1) = stF n P (stTo n P k) ((k : Int) + 1) := by
  unfold stTo
  rw [divTo_hit n k h, List.foldl_append]; rfl
theorem stTo_miss {n : Int} {P : List Int} {k : Nat} (h : n % ((k : Int) + 1) ≠ 0) : stTo n P (k + 1) = stTo n P k := by
  unfold stTo
  rw [divTo_miss n k h]
def stAt (n : Int) (P : List Int) (D : List Int) (j : Nat) : List Int := (D.take j).foldl (stF n P) [0]
theorem stAt_succ {n : Int} {P D : List Int} {j : Nat} (hj : j < D.length) : stAt n P D (j + 1) = stF n P (stAt n P D j) (D[j]?.getD 0) := by
  unfold stAt
  rw [List.take_add_one, List.getElem?_eq_getElem hj, List.foldl_append]; rfl
theorem modL_bd {n : Int} (hn : 0 < n) (xs : List Int) : ∀ x ∈ modL n xs, 0 ≤ x ∧ x < n := by
  intro x hx
  unfold modL at hx
  obtain ⟨y, _, rfl⟩ := List.mem_map.1 hx
  exact ⟨Int.emod_nonneg _ (by omega), Int.emod_lt_of_pos _ hn⟩
theorem stT_ok {n : Int} (hn : 1 ≤ n ∧ n ≤ 24) (s : Int) : rhOk n (stT n s) = true := by
  refine rhOk_iff.2 ⟨hn, fun x hx => ?_, coll_asc _⟩
  exact modL_bd (by omega) _ x ((coll_mem _ _).1 hx)
theorem sumL_ok {n : Int} (hn : 1 ≤ n ∧ n ≤ 24) (xs ys : List Int) : rhOk n (sumL n xs ys) = true := selTo_ok hn _
theorem stF_ok {n : Int} (hn : 1 ≤ n ∧ n ≤ 24) (P : List Int) {out : List Int} (ho : rhOk n out = true) (s : Int) : rhOk n (stF n P out s) = true := by
  unfold stF
  split
  · exact ho
  · exact sumL_ok hn _ _
theorem st0_ok {n : Int} (hn : 1 ≤ n ∧ n ≤ 24) : rhOk n [0] = true := rhOk_iff.2 ⟨hn, fun x hx => by simp at hx; omega, by simp⟩
theorem foldl_ok {n : Int} (hn : 1 ≤ n ∧ n ≤ 24) (P : List Int) : ∀ (D out : List Int), rhOk n out = true → rhOk n (D.foldl (stF n P) out) = true := by
  intro D
  induction D with
  | nil => intro out h; exact h
  | cons s r ih => intro out h; exact ih _ (stF_ok hn P h s)
theorem stAt_ok {n : Int} (hn : 1 ≤ n ∧ n ≤ 24) (P D : List Int) (j : Nat) : rhOk n (stAt n P D j) = true := foldl_ok hn P _ _ (st0_ok hn)
theorem stTo_ok {n : Int} (hn : 1 ≤ n ∧ n ≤ 24) (P : List Int) (k : Nat) : rhOk n (stTo n P k) = true := foldl_ok hn P _ _ (st0_ok hn)
theorem stTo_all {n : Int} (hn : 1 ≤ n ∧ n ≤ 24) (P : List Int) : stAt n P (divs n) (divs n).length = stTo n P n.toNat := by
  unfold stAt stTo
  rw [List.take_length]
  unfold divs
  rw [if_pos (inB_yes (by omega))]
theorem stTo_one (n : Int) (P : List Int) : stTo n P 1 = [0] := by
  unfold stTo
  simp only [divTo, List.nil_append]
  split
  · simp only [List.foldl_cons, List.foldl_nil]
    unfold stF
    rw [show primeI ((0 + 1 : Nat) : Int) = 0 by unfold primeI; rw [if_neg (by omega)]]
    rfl
  · rfl
theorem divs_at {n : Int} (hn : 1 ≤ n ∧ n ≤ 24) : ∀ s ∈ divs n, 1 ≤ s ∧ s ≤ n := by
  have key : ∀ k : Nat, ∀ s ∈ divTo n k, 1 ≤ s ∧ s ≤ (k : Int) := by
    intro k
    induction k with
    | zero => intro s h; simp [divTo] at h
    | succ k ih =>
      intro s h
      simp only [divTo, List.mem_append] at h
      rcases h with h | h
      · have := ih s h; omega
      · split at h
        · simp at h; omega
        · simp at h
  intro s h
  unfold divs at h
  split at h
  · have := key n.toNat s h; omega
  · simp at h
def stdL (s : Int) (xs : List Int) : List Int := if rhOk s xs = true then stTo s (ppI s xs) s.toNat else []
def stdS (s : Int) (xs : List Int) : Int := if rhOk s xs = true then s else 0
theorem GivesRB.stno {w w' : World} {s : Int} {xs : List Int} (h : rhOk s xs = false) (hb : Below w.heap.size w w') : GivesRB w (stdS s xs) (stdL s xs) (rhOk s xs) (.returned (.tuple #[.agg #[.int .i64 0, .slice none 0 0], .bool false])) w' := by
  have h1 : stdS s xs = 0 := by simp [stdS, h]
  have h2 : stdL s xs = [] := by simp [stdL, h]
  rw [h1, h2, h]
  exact ⟨none, 0, rfl, IO.nil _ _, hb⟩
theorem GivesRB.styes {w w' : World} {s : Int} {xs : List Int} {A : Option Addr} {c : Nat} {L : List Int} (h : rhOk s xs = true) (hL : L = stTo s (ppI s xs) s.toNat) (io : IO w' w.heap.size A c L) (hb : Below w.heap.size w w') : GivesRB w (stdS s xs) (stdL s xs) (rhOk s xs) (.returned (.tuple #[.agg #[.int .i64 s, .slice A L.length c], .bool true])) w' := by
  have h1 : stdS s xs = s := by simp [stdS, h]
  have h2 : stdL s xs = L := by rw [hL]; simp [stdL, h]
  rw [h1, h2, h]
  exact ⟨A, c, rfl, io, hb⟩
theorem strip_bd {p : Int} (hp : 2 ≤ p) : ∀ (m : Nat) (t : Int), 1 ≤ t → t ≤ (m : Int) → 1 ≤ strip p t ∧ strip p t ≤ t := by
  intro m
  induction m with
  | zero => intro t h1 h2; omega
  | succ m ih =>
    intro t h1 h2
    by_cases h : t % p = 0
    · rw [strip_step hp (by omega) h]
      have := div_pos_of hp (by omega) h
      have := ih (t / p) (by omega) (by omega)
      omega
    · rw [strip_stop h]; omega
end Go.Proofs.YtikifkbgmniobaaGreat
