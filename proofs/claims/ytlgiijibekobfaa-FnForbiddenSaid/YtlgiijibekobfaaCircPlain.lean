/- The circles of an interval: plain laws. -/
import Derived.Test.YtlgiijibekobfaaBas
namespace Go.Proofs.Ytlgiijibekobfaa
open Go.RowKit

def circF (n d p : Int) : Nat → Int → List Int
  | 0, _ => []
  | f + 1, q => if q = p then [] else q :: circF n d p f ((q + d) % n)
def circ (n d p : Int) : List Int := p :: circF n d p n.toNat ((p + d) % n)
def circs (n d : Int) (i : Nat) : List (List Int) := (List.range i).map fun p => circ n d (p : Nat)
def circlesI (n d : Int) : List (List Int) := if inB n 2 24 = true ∧ inB d 1 (n - 1) = true then circs n d (gcdI n d).toNat else []
theorem circF_len (n d p : Int) (f : Nat) : ∀ q, (circF n d p f q).length ≤ f := by
  induction f with
  | zero => intro q; simp [circF]
  | succ f ih => intro q; simp only [circF]; split
                 · simp
                 · simp; exact ih _
theorem circ_len (n d p : Int) : (circ n d p).length ≤ n.toNat + 1 := by
  have := circF_len n d p n.toNat ((p + d) % n)
  simp [circ]; exact this
theorem circs_succ (n d : Int) (i : Nat) : circs n d (i + 1) = circs n d i ++ [circ n d i] := by simp [circs, List.range_succ]
theorem circs_len (n d : Int) (i : Nat) : (circs n d i).length = i := by simp [circs]
/-- where the walk round a circle stands: j beats are laid, q is the next one -/
structure CircAt (n d p : Int) (T j : Nat) (q : Int) (L : List Int) : Prop where
  len : L.length = j
  pos : 1 ≤ j
  le : j ≤ T
  at_ : q = (p + j * d) % n
  rest : L ++ circF n d p (n.toNat + 1 - j) q = circ n d p
theorem circ_T {n d : Int} (hn : 2 ≤ n) (hd : 1 ≤ d) : ∃ T : Nat, 1 ≤ T ∧ (T : Int) ≤ n ∧ ∀ p, 0 ≤ p → p < n → (p + T * d) % n = p := by
  obtain ⟨n', rfl⟩ := Int.eq_ofNat_of_zero_le (show 0 ≤ n by omega)
  obtain ⟨d', rfl⟩ := Int.eq_ofNat_of_zero_le (show 0 ≤ d by omega)
  have hg : 0 < Nat.gcd n' d' := Nat.gcd_pos_of_pos_left d' (by omega)
  refine ⟨n' / Nat.gcd n' d', Nat.div_pos (Nat.le_of_dvd (by omega) (Nat.gcd_dvd_left _ _)) hg, by have := Nat.div_le_self n' (Nat.gcd n' d'); omega, fun p h0 h1 => ?_⟩
  have e : n' / Nat.gcd n' d' * d' = n' * (d' / Nat.gcd n' d') := by
    obtain ⟨a, ha⟩ := Nat.gcd_dvd_left n' d'
    obtain ⟨b, hb⟩ := Nat.gcd_dvd_right n' d'
    generalize Nat.gcd n' d' = g at *
    subst ha hb
    rw [Nat.mul_div_cancel_left _ hg, Nat.mul_div_cancel_left _ hg, Nat.mul_left_comm, Nat.mul_assoc]
  have e2 : ((n' / Nat.gcd n' d' : Nat) : Int) * (d' : Int) = (n' : Int) * ((d' / Nat.gcd n' d' : Nat) : Int) := by
    rw [← Int.natCast_mul, e, Int.natCast_mul]
  rw [e2, Int.add_mul_emod_self_left, Int.emod_eq_of_lt h0 h1]
theorem CircAt.start {n d p : Int} {T : Nat} (hT : 1 ≤ T) : CircAt n d p T 1 ((p + d) % n) [p] :=
  ⟨rfl, Nat.le_refl _, hT, by rw [Int.natCast_one, Int.one_mul], by simp [circ]⟩
theorem CircAt.stop {n d p q : Int} {T j : Nat} {L : List Int} (hTn : (T : Int) ≤ n) (h : CircAt n d p T j q L) (hq : q = p) : L = circ n d p := by
  have hr := h.rest
  have h1 := h.le
  obtain ⟨f, hf⟩ : ∃ f, n.toNat + 1 - j = f + 1 := ⟨n.toNat - j, by omega⟩
  rw [hf] at hr
  simpa [circF, hq] using hr
theorem CircAt.step {n d p q : Int} {T j : Nat} {L : List Int} (hTn : (T : Int) ≤ n) (h : CircAt n d p T j q L) (hT : (p + T * d) % n = p) (hq : q ≠ p) : CircAt n d p T (j + 1) ((q + d) % n) (L ++ [q]) := by
  have hr := h.rest
  have h1 := h.le
  have hjT : j ≠ T := by
    rintro rfl
    exact hq (h.at_.trans hT)
  obtain ⟨f, hf⟩ : ∃ f, n.toNat + 1 - j = f + 1 := ⟨n.toNat - j, by omega⟩
  refine ⟨by simp [h.len], by omega, by omega, ?_, ?_⟩
  · rw [h.at_, Int.emod_add_emod, Int.natCast_add, Int.natCast_one, Int.add_mul, Int.one_mul, Int.add_assoc]
  · rw [hf] at hr
    rw [show n.toNat + 1 - (j + 1) = f by omega, List.append_assoc]
    simpa [circF, hq] using hr
end Go.Proofs.Ytlgiijibekobfaa
