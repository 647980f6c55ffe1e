/- Even rhythms by groups: the plain laws. -/
import Derived.Test.YtjpdgdacfejplaaDoorBas
import Derived.Lib.Repeat
import Derived.Lib.SlTrimSet
namespace Go.Proofs.YtjpdgdacfejplaaDoor
open Go.RowKit
set_option maxRecDepth 20000

abbrev GSt := List UInt8 × List UInt8 × Nat × Nat
def gCond (s : GSt) : Bool := decide (1 ≤ s.2.2.1) && decide (2 ≤ s.2.2.2)
def sStep (s : GSt) : GSt := if s.2.2.1 < s.2.2.2 then (s.1 ++ s.2.1, s.2.1, s.2.2.1, s.2.2.2 - s.2.2.1) else (s.1 ++ s.2.1, s.1, s.2.2.2, s.2.2.1 - s.2.2.2)
def iStep (s : GSt) : GSt := (s.1 ++ s.2.1, if s.2.2.1 > s.2.2.2 then s.1 else s.2.1, min s.2.2.1 s.2.2.2, max (s.2.2.1 - s.2.2.2) (s.2.2.2 - s.2.2.1))
def gAt (f : GSt → GSt) (k n : Nat) : Nat → GSt
  | 0 => ([120], [46], k, n - k)
  | i + 1 => f (gAt f k n i)
def gN (f : GSt → GSt) (k n : Nat) : Nat := ((List.range 30).find? fun i => !gCond (gAt f k n i)).getD 0
def rep (l : List UInt8) : Nat → List UInt8
  | 0 => []
  | i + 1 => rep l i ++ l
def gT (f : GSt → GSt) (k n : Nat) : List UInt8 := let s := gAt f k n (gN f k n); rep s.1 s.2.2.1 ++ rep s.2.1 s.2.2.2
def okSt (s : GSt) : Bool := decide (s.1.length ≤ 24) && decide (s.2.1.length ≤ 24) && decide (s.2.2.1 ≤ 24) && decide (s.2.2.2 ≤ 24)
/-- the beats of a text -/
def posB (T : List UInt8) (p : Int) : Bool := T[p.toNat]? == some 120
def posL (T : List UInt8) (i : Nat) : List Int := ((List.range i).filter fun j => T[j]? == some 120).map fun (j : Nat) => (j : Int)
/-- the text of beats -/
def fmL (xs : List Int) (i : Nat) : List UInt8 := (List.range i).map fun (j : Nat) => if memB xs (j : Int) = true then 120 else 46
def gRound (f : GSt → GSt) (k n i : Nat) : Bool := gCond (gAt f k n i) && okSt (gAt f k n i) && decide ((gAt f k n (i + 1)).2.2.1 + (gAt f k n (i + 1)).2.2.2 < (gAt f k n i).2.2.1 + (gAt f k n i).2.2.2)
def gChk (f : GSt → GSt) (k n : Nat) : Bool := ((List.range (gN f k n)).all fun i => gRound f k n i) && !gCond (gAt f k n (gN f k n)) && okSt (gAt f k n (gN f k n))
def gAll (k n : Nat) : Bool := gChk sStep k n && gChk iStep k n && decide (gT iStep k n = gT sStep k n) && decide ((gT sStep k n).length = n) && decide (fmL (posL (gT sStep k n) n) n = gT sStep k n) && (gT sStep k n).all fun c => c == 120 || c == 46
set_option maxRecDepth 100000 in
theorem gAll_all : ((List.range 25).all fun n => n == 0 || (List.range (n + 1)).all fun k => gAll k n) = true := by decide +kernel
structure GLaw (f : GSt → GSt) (k n : Nat) : Prop where
  go : ∀ i, i < gN f k n → gCond (gAt f k n i) = true ∧ (gAt f k n (i + 1)).2.2.1 + (gAt f k n (i + 1)).2.2.2 < (gAt f k n i).2.2.1 + (gAt f k n i).2.2.2
  ok : ∀ i, i ≤ gN f k n → (gAt f k n i).1.length ≤ 24 ∧ (gAt f k n i).2.1.length ≤ 24 ∧ (gAt f k n i).2.2.1 ≤ 24 ∧ (gAt f k n i).2.2.2 ≤ 24
  stop : gCond (gAt f k n (gN f k n)) = false
theorem okSt_iff {s : GSt} (h : okSt s = true) : s.1.length ≤ 24 ∧ s.2.1.length ≤ 24 ∧ s.2.2.1 ≤ 24 ∧ s.2.2.2 ≤ 24 := by
  unfold okSt at h
  simp only [Bool.and_eq_true, decide_eq_true_eq] at h
  exact ⟨h.1.1.1, h.1.1.2, h.1.2, h.2⟩
theorem gLaw_of {f : GSt → GSt} {k n : Nat} (h : gChk f k n = true) : GLaw f k n := by
  unfold gChk at h
  simp only [Bool.and_eq_true, List.all_eq_true, List.mem_range, Bool.not_eq_true'] at h
  obtain ⟨⟨h1, h2⟩, h3⟩ := h
  refine ⟨fun i hi => ?_, fun i hi => ?_, h2⟩
  · have := h1 i hi
    unfold gRound at this
    simp only [Bool.and_eq_true, decide_eq_true_eq] at this
    exact ⟨this.1.1, this.2⟩
  · rcases Nat.lt_or_ge i (gN f k n) with hlt | hge
    · have := h1 i hlt
      unfold gRound at this
      simp only [Bool.and_eq_true] at this
      exact okSt_iff this.1.2
    · have : i = gN f k n := by omega
      rw [this]
      exact okSt_iff h3
theorem g_facts {k n : Nat} (h1 : 1 ≤ n) (h : n ≤ 24) (hk : k ≤ n) : GLaw sStep k n ∧ GLaw iStep k n ∧ gT iStep k n = gT sStep k n ∧ (gT sStep k n).length = n ∧ fmL (posL (gT sStep k n) n) n = gT sStep k n ∧ ∀ c ∈ gT sStep k n, c = 120 ∨ c = 46 := by
  have := gAll_all
  rw [List.all_eq_true] at this
  have := this n (List.mem_range.2 (by omega))
  rw [Bool.or_eq_true, beq_iff_eq, List.all_eq_true] at this
  rcases this with h0 | h0
  · omega
  · have := h0 k (List.mem_range.2 (by omega))
    unfold gAll at this
    simp only [Bool.and_eq_true, decide_eq_true_eq, List.all_eq_true, Bool.or_eq_true, beq_iff_eq] at this
    obtain ⟨⟨⟨⟨⟨a1, a2⟩, a3⟩, a4⟩, a5⟩, a6⟩ := this
    exact ⟨gLaw_of a1, gLaw_of a2, a3, a4, a5, a6⟩
theorem posL_succ {T : List UInt8} {i : Nat} : posL T (i + 1) = if T[i]? = some 120 then posL T i ++ [(i : Int)] else posL T i := by
  unfold posL
  rw [List.range_succ, List.filter_append, List.map_append]
  by_cases h : T[i]? = some 120
  · rw [if_pos h]; simp [h]
  · rw [if_neg h]; simp [h]
theorem fmL_succ (xs : List Int) (i : Nat) : fmL xs (i + 1) = fmL xs i ++ [if memB xs (i : Int) = true then 120 else 46] := by
  unfold fmL
  rw [List.range_succ, List.map_append]; rfl
theorem rep_repeat (l : List UInt8) (c : Nat) : Lib.repeatL l c = rep l c := by
  have key : ∀ c, l ++ rep l c = rep l c ++ l := by
    intro c
    induction c with
    | zero => simp [rep]
    | succ c ih => simp only [rep]; rw [← List.append_assoc, ih]
  induction c with
  | zero => rfl
  | succ c ih => rw [Lib.repeatL, ih, key]; rfl
theorem trim_none {l : List UInt8} (h : ∀ c ∈ l, c = 120 ∨ c = 46) : Lib.trimS l [120, 46] = [] := by
  have key : ∀ l : List UInt8, (∀ c ∈ l, c = 120 ∨ c = 46) → l.dropWhile (([120, 46] : List UInt8).contains ·) = [] := by
    intro l
    induction l with
    | nil => intro _; rfl
    | cons c r ih =>
      intro h
      rw [List.dropWhile_cons, if_pos]
      · exact ih fun d hd => h d (List.mem_cons_of_mem _ hd)
      · rcases h c List.mem_cons_self with rfl | rfl <;> decide
  unfold Lib.trimS Lib.trimLeftS Lib.trimRightS
  rw [key l.reverse fun c hc => h c (List.mem_reverse.1 hc)]; rfl
end Go.Proofs.YtjpdgdacfejplaaDoor
