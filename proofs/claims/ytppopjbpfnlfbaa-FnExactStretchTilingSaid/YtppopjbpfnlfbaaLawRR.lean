/- Two rhythms that a function hands back, in two boxes. -/
import Derived.Test.YtppopjbpfnlfbaaLawCn
import Derived.Test.YtppopjbpfnlfbaaStepLaw
import Derived.Test.YtppopjbpfnlfbaaBas
import Derived.Test.YtppopjbpfnlfbaaStr
namespace Go.Proofs.Ytppopjbpfnlfbaa
open Go.RowKit

theorem bx_setb {a w : World} {g : Nat} (h : Bx (Below a.heap.size a w)) (hp : a.heap.size ≤ g) (i : Nat) (u : Value) : Bx (Below a.heap.size a (w.setCell ⟨g, i, none⟩ u)) := bx_set h hp u
theorem ob_fin {lo lo' hi hi' c : Nat} {w W : World} {A : Option Addr} {xs : List Int} (h : OB lo hi w A c xs) (k : IO w lo A c xs → IO W lo A c xs) (h1 : lo' ≤ lo) (h2 : hi ≤ hi') : OB lo' hi' W A c xs :=
  ⟨(k h.1).mono h1, fun x hx => Nat.lt_of_lt_of_le (h.2 x hx) h2⟩
theorem io_alloc' {w : World} {base c : Nat} {A : Option Addr} {xs : List Int} (h : IO w base A c xs) (o : Obj) : IO (w.alloc o) base A c xs := h.below (below_alloc _ _) (Nat.le_refl _)
theorem io_drew' {w : World} {base c : Nat} {A : Option Addr} {xs : List Int} (h : IO w base A c xs) : IO w.drew base A c xs := h
theorem bl_alloc' {B : Nat} {a w : World} (h : Below B a w) (hs : B ≤ w.heap.size) (o : Obj) : Below B a (w.alloc o) := h.alloc hs o
theorem bl_set' {B : Nat} {a w : World} {p : Addr} (h : Below B a w) (hp : B ≤ p.block) (u : Value) : Below B a (w.setCell p u) := h.setCell hp u
theorem bl_drew' {B : Nat} {a w : World} (h : Below B a w) : Below B a w.drew := h.drew
theorem io_setLowb {w : World} {base c g : Nat} {A : Option Addr} {xs : List Int} (h : IO w base A c xs) (hp : g < base) (i : Nat) (u : Value) : IO (w.setCell ⟨g, i, none⟩ u) base A c xs := h.setLow (p := ⟨g, i, none⟩) hp u
theorem bl_setb {B g : Nat} {a w : World} (h : Below B a w) (hp : B ≤ g) (i : Nat) (u : Value) : Below B a (w.setCell ⟨g, i, none⟩ u) := h.setCell (p := ⟨g, i, none⟩) hp u
theorem blk_fill2 {w : World} {g : Nat} {t : TypeId} {a b : Value} (h : Blk w g t #[.int .i64 0, .slice none 0 0]) : Blk ((w.setCell ⟨g, 0, none⟩ a).setCell ⟨g, 1, none⟩ b) g t #[a, b] := (h.set 0 a).set 1 b
theorem blk_other2 {w : World} {g g' : Nat} {t : TypeId} {cs : Array Value} {a b : Value} (h : Blk w g t cs) (hne : g ≠ g') : Blk ((w.setCell ⟨g', 0, none⟩ a).setCell ⟨g', 1, none⟩ b) g t cs := (h.setAt a hne).setAt b hne
theorem strOk_bd {s : Int} {xs : List Int} {t : Int} {ys : List Int} {k : Int} (h : strOk s xs t ys k = true) : xs.length ≤ 24 ∧ ys.length ≤ 24 ∧ k.toNat ≤ 24 := by
  unfold strOk at h
  rw [Bool.and_eq_true, Bool.and_eq_true] at h
  have h1 : twoOk s xs t ys = true := by
    have := h.1
    unfold btw at this
    rw [Bool.and_eq_true] at this
    exact this.1
  obtain ⟨hx, hy, _⟩ := twoOk_iff.1 h1
  have hk := inB_iff.1 h.2.1
  exact ⟨(rhOk_len hx).1, (rhOk_len hy).1, by omega⟩
theorem strA_len (s : Int) (xs : List Int) (t : Int) (ys : List Int) (k : Int) : (strA s xs t ys k).length ≤ 1000 := by
  unfold strA
  by_cases h : strOk s xs t ys k = true
  · rw [if_pos h, strX_len k xs _ (Nat.le_refl _)]
    have := strOk_bd h
    omega
  · rw [if_neg h]; simp
theorem strB_len (s : Int) (xs : List Int) (t : Int) (ys : List Int) (k : Int) : (strB s xs t ys k).length ≤ 1000 := by
  unfold strB
  by_cases h : strOk s xs t ys k = true
  · rw [if_pos h, strY_len k ys _ (Nat.le_refl _)]
    have hb := strOk_bd h
    have := Nat.mul_le_mul hb.2.1 hb.2.2
    omega
  · rw [if_neg h]; simp
end Go.Proofs.Ytppopjbpfnlfbaa
