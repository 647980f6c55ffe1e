/- The period of a rhythm: the program's loop and the reference's. -/
import Derived.Test.YtgfdmjhdfddopaaEqSl
import Derived.Test.YtgfdmjhdfddopaaL02Map
import Derived.Test.YtgfdmjhdfddopaaBas
import Derived.Deep.RegionHeld3
import Derived.Deep.DeepCutAuto
import Derived.Deep.RegionWith
namespace Go.Proofs.Ytgfdmjhdfddopaa
open Go.RowKit
set_option maxRecDepth 20000

def perGo (p : Nat → Bool) : Nat → Nat → Nat
  | k, 0 => k
  | k, f + 1 => if p k = true then k else perGo p (k + 1) f
def perP (s : Int) (xs : List Int) (k : Nat) : Bool := decide (rotL s xs (k : Int) = xs)
def perL (s : Int) (xs : List Int) : Nat := perGo (perP s xs) 1 (s.toNat - 1)
theorem perGo_le (p : Nat → Bool) (f : Nat) : ∀ k, k ≤ perGo p k f ∧ perGo p k f ≤ k + f := by
  induction f with
  | zero => intro k; simp [perGo]
  | succ f ih => intro k; have := ih (k + 1); simp only [perGo]; split <;> omega
theorem perGo_hit {p : Nat → Bool} {k n : Nat} (h : p k = true) : perGo p k n = k := by
  cases n with
  | zero => rfl
  | succ n => simp [perGo, h]
theorem perGo_miss {p : Nat → Bool} {k n : Nat} (h : p k = false) (hk : k < n) : perGo p k (n - k) = perGo p (k + 1) (n - (k + 1)) := by
  rw [show n - k = (n - (k + 1)) + 1 by omega]
  simp [perGo, h]
theorem rot_mod {s : Int} {xs : List Int} (h : ∀ x ∈ xs, 0 ≤ x ∧ x < s) : modL s (addL s xs) = xs := by
  unfold modL addL
  rw [List.map_map]
  conv => rhs; rw [← List.map_id xs]
  refine List.map_congr_left fun x hx => ?_
  have := h x hx
  simp only [Function.comp, id]
  rw [Int.add_emod_right, Int.emod_eq_of_lt this.1 this.2]
theorem sel_memB {s : Int} {xs : List Int} (hok : rhOk s xs = true) : selTo (memB xs) s.toNat = xs := by
  obtain ⟨h1, h2, h3⟩ := rhOk_iff.1 hok
  refine asc_ext (selTo_asc _ _) h3 fun x => ?_
  rw [selTo_mem]
  constructor
  · rintro ⟨i, _, rfl, hi⟩
    exact memB_iff.1 hi
  · intro hx
    have := h2 x hx
    exact ⟨x.toNat, by omega, by omega, memB_iff.2 (by rw [show ((x.toNat : Nat) : Int) = x by omega]; exact hx)⟩
theorem perP_full {s : Int} {xs : List Int} (hok : rhOk s xs = true) : perP s xs s.toNat = true := by
  obtain ⟨h1, h2, _⟩ := rhOk_iff.1 hok
  unfold perP
  rw [show ((s.toNat : Nat) : Int) = s by omega, rotL_sel h1.1, rot_mod h2, sel_memB hok]
  simp
theorem field_beatsP (s : Int) (A : Option Addr) (n c : Nat) (w : World) : (Instr.field 25 (.agg #[.int .i64 s, .slice A n c]) 1).run Try.prog w = .ok (.slice A n c) w := by kernel_rfl
theorem lit_b {f : FuncId} {args : Array Value} {w : World} {a b : Bool} (hb : a = b) (h : Calls Try.prog f args w fun e w' => e = .returned (.bool a) ∧ Below w.heap.size w w') :
    Calls Try.prog f args w fun e w' => e = .returned (.bool b) ∧ Below w.heap.size w w' := by rw [← hb]; exact h
theorem eq_lit {a b : Bool} {e : Ending} (hb : a = b) (he : e = .returned (.bool a)) : e = .returned (.bool b) := by rw [← hb]; exact he
end Go.Proofs.Ytgfdmjhdfddopaa
