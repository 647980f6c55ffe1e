/- A generated rhythm: when its beats are all different. -/
import Derived.Test.YtpejnhcmelkmeaaInsPlain
namespace Go.Proofs.Ytpejnhcmelkmeaa
open Go.RowKit

def gL (n g : Int) (k : Nat) : List Int := (List.range k).map fun (i : Nat) => ((i : Int) * g) % n
theorem gL_len (n g : Int) (k : Nat) : (gL n g k).length = k := by simp [gL]
theorem gL_succ (n g : Int) (k : Nat) : gL n g (k + 1) = gL n g k ++ [((k : Int) * g) % n] := by simp [gL, List.range_succ]
theorem gL_bd {n g : Int} {k : Nat} (hn : 0 < n) : ∀ x ∈ gL n g k, 0 ≤ x ∧ x < n := by
  intro x hx
  unfold gL at hx
  obtain ⟨i, _, rfl⟩ := List.mem_map.1 hx
  exact ⟨Int.emod_nonneg _ (by omega), Int.emod_lt_of_pos _ hn⟩
def genFresh (n g : Int) (k : Nat) : Bool := (List.range k).all fun i => !memB (gL n g i) (((i : Int) * g) % n)
theorem genFresh_succ (n g : Int) (k : Nat) : genFresh n g (k + 1) = (genFresh n g k && !memB (gL n g k) (((k : Int) * g) % n)) := by
  unfold genFresh
  rw [List.range_succ, List.all_append]; simp
theorem genFresh_mono {n g : Int} {j k : Nat} (hjk : j ≤ k) (h : genFresh n g j = false) : genFresh n g k = false := by
  induction k with
  | zero => have : j = 0 := by omega
            subst this; exact h
  | succ k ih =>
    by_cases e : j = k + 1
    · subst e; exact h
    · rw [genFresh_succ, ih (by omega)]; rfl
theorem coll_len_snoc_new {zs : List Int} {x : Int} (h : x ∉ zs) : (coll (zs ++ [x])).length = (coll zs).length + 1 := by
  have hp : (coll (zs ++ [x])).Perm (x :: coll zs) := by
    have asc_nodup : ∀ ys : List Int, ys.Pairwise (· < ·) → ys.Nodup := fun ys h => h.imp (fun hab e => by omega)
    refine (List.perm_ext_iff_of_nodup (asc_nodup _ (coll_asc _)) (List.nodup_cons.2 ⟨fun hx => h ((coll_mem _ _).1 hx), asc_nodup _ (coll_asc _)⟩)).2 fun y => ?_
    rw [coll_mem, List.mem_append, List.mem_singleton, List.mem_cons, coll_mem]
    exact Or.comm
  rw [hp.length_eq, List.length_cons]
theorem coll_len_snoc_old {zs : List Int} {x : Int} (h : x ∈ zs) : (coll (zs ++ [x])).length = (coll zs).length := by
  rw [show coll (zs ++ [x]) = coll zs from asc_ext (coll_asc _) (coll_asc _) fun y => by
    rw [coll_mem, List.mem_append, List.mem_singleton, coll_mem]
    exact ⟨fun h' => h'.elim id (fun e => e ▸ h), .inl⟩]
theorem genFresh_iff (n g : Int) (k : Nat) : genFresh n g k = decide (¬ ((coll (gL n g k)).length : Int) < (k : Int)) := by
  have main : (genFresh n g k = true → (coll (gL n g k)).length = k) ∧ (genFresh n g k = false → (coll (gL n g k)).length < k) := by
    induction k with
    | zero => refine ⟨fun _ => ?_, fun h => by simp [genFresh] at h⟩
              have := coll_len (gL n g 0); rw [gL_len] at this; omega
    | succ k ih =>
      have hle := coll_len (gL n g k)
      rw [gL_len] at hle
      rw [genFresh_succ, gL_succ]
      cases hm : memB (gL n g k) (((k : Int) * g) % n) with
      | true =>
        rw [coll_len_snoc_old (memB_iff.1 hm)]
        refine ⟨fun h => by simp at h, fun _ => by omega⟩
      | false =>
        have hne : (((k : Int) * g) % n) ∉ gL n g k := fun hx => by rw [memB_iff.2 hx] at hm; cases hm
        rw [coll_len_snoc_new hne]
        refine ⟨fun h => ?_, fun h => ?_⟩
        · have := ih.1 (by simpa using h); omega
        · have := ih.2 (by simpa using h); omega
  cases h : genFresh n g k with
  | true => have := main.1 h; simp; omega
  | false => have := main.2 h; simp; omega
/-- what both sides' GeneratedRhythm answer -/
def genOk (n k g : Int) : Bool := decide (1 ≤ n ∧ n ≤ 24 ∧ 0 ≤ k ∧ k ≤ n ∧ 1 ≤ g ∧ g ≤ n) && genFresh n g k.toNat
def genS (n k g : Int) : Int := if genOk n k g = true then n else 0
def genL (n k g : Int) : List Int := if genOk n k g = true then coll (gL n g k.toNat) else []
end Go.Proofs.Ytpejnhcmelkmeaa
