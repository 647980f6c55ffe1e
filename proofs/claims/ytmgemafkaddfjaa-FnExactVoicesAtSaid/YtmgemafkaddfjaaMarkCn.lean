/- Marking a canon. -/
import Derived.Test.YtmgemafkaddfjaaLawRh
import Derived.Test.YtmgemafkaddfjaaLawCn
namespace Go.Proofs.Ytmgemafkaddfjaa
open Go.RowKit

set_option maxHeartbeats 400000 in
theorem markCanon_any (s t : Int) (A B : Option Addr) (c d b1 b2 : Nat) (xs ys : List Int) (q : Int) (w : World) (hx : IO w b1 A c xs) (hy : IO w b2 B d ys) (hd : ∀ x y, A = some x → B = some y → x.block ≠ y.block) (h0 : 0 ≤ q) (h1 : q + xs.length ≤ 1000000000) :
    Calls Try.prog 23 #[.agg #[.int .i64 s, .slice A xs.length c, .int .i64 t, .slice B ys.length d], .int .i64 q] w fun e w' => ∃ w1, e = .returned (.int .i64 (q + xs.length + ys.length)) ∧ Only w w1 A ∧ IO w1 b1 A c (marksFrom q xs.length) ∧ Only w1 w' B ∧ IO w' b2 B d (marksFrom (q + xs.length) ys.length) := by
  obtain ⟨W0, hW0⟩ : ∃ W0, W0 = w.alloc (.cells #[.int .i64 s, .slice A xs.length c, .int .i64 t, .slice B ys.length d] 31) := ⟨_, rfl⟩
  have b : Below w.heap.size w W0 := by rw [hW0]; exact (Below.refl _ _).alloc (Nat.le_refl _) _
  have ho : Only w W0 A := by rw [hW0]; exact (Only.refl _ _).alloc _
  have hz : W0.heap.size = w.heap.size + 1 := by rw [hW0]; simp
  have k0 : W0.cell? ⟨w.heap.size, 0, none⟩ = some (.int .i64 s) := by rw [hW0]; simp [go_sem]
  have k1 : W0.cell? ⟨w.heap.size, 1, none⟩ = some (.slice A xs.length c) := by rw [hW0]; simp [go_sem]
  have k2 : W0.cell? ⟨w.heap.size, 2, none⟩ = some (.int .i64 t) := by rw [hW0]; simp [go_sem]
  have k3 : W0.cell? ⟨w.heap.size, 3, none⟩ = some (.slice B ys.length d) := by rw [hW0]; simp [go_sem]
  have HX := Bx.mk (hx.below b (Nat.le_refl _))
  have HY := Bx.mk (hy.below b (Nat.le_refl _))
  have HD := Bx.mk hd
  have HAl : Bx (∀ x, A = some x → x.block < w.heap.size) := ⟨hx.lt⟩
  have HO := Bx.mk ho
  have hq2 : 0 ≤ q + xs.length := by omega
  clear hx hy hd b ho
  go_enter Try.func23, Try.ntmps23
  go_wp2_with fail
  rw [← hW0]
  clear hW0
  refine (markRhythm_any _ _ _ _ _ _ _ (by exact HX.out) h0 (by omega)).mono ?_
  rintro e w1 ⟨rfl, m1, o1⟩
  have hne : ∀ x, A = some x → x.block ≠ w.heap.size := fun x hx => Nat.ne_of_lt (HAl.out x hx)
  have fw : ∀ i v, W0.cell? ⟨w.heap.size, i, none⟩ = some v → w1.cell? ⟨w.heap.size, i, none⟩ = some v := fun i v hv => by
    refine (World.cell?_of_block (w := W0) (o1.block _ (show w.heap.size < W0.heap.size by omega) ?_)).trans hv
    intro e
    cases hA : A with
    | none => rw [hA] at e; cases e
    | some x => rw [hA] at e; injection e with e; exact hne x hA e.symm
  replace k0 := fw _ _ k0
  replace k1 := fw _ _ k1
  replace k2 := fw _ _ k2
  replace k3 := fw _ _ k3
  have HY1 := Bx.mk (HY.out.only o1 (fun a b ea eb => fun e => HD.out b a eb ea e.symm))
  have HM1 := Bx.mk m1
  have HO1 := Bx.mk (HO.out.trans o1)
  clear m1 o1 fw hne
  go_wp2_with fail
  refine (markRhythm_any _ _ _ _ _ _ _ (by exact HY1.out) hq2 h1).mono ?_
  rintro e w2 ⟨rfl, m2, o2⟩
  go_wp2_with fail
  go_ret
  exact ⟨w1, rfl, HO1.out, HM1.out, o2, m2⟩
end Go.Proofs.Ytmgemafkaddfjaa
