/- Mirrors and stretches of a rhythm. -/
import Derived.Test.YtpejnhcmelkmeaaRts
import Derived.Test.YtpejnhcmelkmeaaDiff
import Derived.Test.YtpejnhcmelkmeaaTls
import Derived.Test.YtpejnhcmelkmeaaBas
namespace Go.Proofs.Ytpejnhcmelkmeaa
open Go.RowKit

def negL (xs : List Int) : List Int := xs.map fun x => -x
def mirL (s : Int) (xs : List Int) : List Int := coll (modL s (negL xs))
theorem negL_take {xs : List Int} {j : Nat} {x : Int} (hx : xs[j]? = some x) : negL (xs.take (j + 1)) = negL (xs.take j) ++ [-x] := by
  unfold negL
  rw [List.take_add_one, hx, Option.toList_some, List.map_append]; rfl
theorem negL_len (xs : List Int) (j : Nat) : (negL (xs.take j)).length ≤ xs.length := by
  unfold negL; rw [List.length_map, List.length_take]; omega
def mulM (k : Int) (xs : List Int) : List Int := xs.map (k * ·)
def stL (s : Int) (xs : List Int) (k : Int) : List Int := coll (modL s (mulM k xs))
theorem mulM_take {k : Int} {xs : List Int} {j : Nat} {x : Int} (hx : xs[j]? = some x) : mulM k (xs.take (j + 1)) = mulM k (xs.take j) ++ [k * x] := by
  unfold mulM
  rw [List.take_add_one, hx, Option.toList_some, List.map_append]; rfl
theorem mulM_len (k : Int) (xs : List Int) (j : Nat) : (mulM k (xs.take j)).length ≤ xs.length := by
  unfold mulM; rw [List.length_map, List.length_take]; omega
theorem mul_bdM {k x : Int} (hk : 0 ≤ k ∧ k ≤ 24) (hx : 0 ≤ x ∧ x ≤ 24) : 0 ≤ k * x ∧ k * x ≤ 576 :=
  ⟨Int.mul_nonneg hk.1 hx.1, by have := Int.mul_le_mul hk.2 hx.2 hx.1 (show (0 : Int) ≤ 24 by omega); omega⟩
set_option maxHeartbeats 1000000 in
theorem other_ok (s : Int) (A : Option Addr) (c : Nat) (xs : List Int) (w : World) (hok : rhOk s xs = true) (hx : IR w A xs) :
    Calls Try.prog 11 #[.agg #[.int .i64 s, .slice A xs.length c]] w (GivesRB w s (othL s xs) true) := by
  obtain ⟨⟨hs1, hs2⟩, hxb, _⟩ := rhOk_iff.1 hok
  have HXB := Bx.mk hxb
  have hll := (rhOk_len hok).1
  obtain ⟨W0, hW0⟩ : ∃ W0, W0 = (w.alloc (.cells #[.int .i64 s, .slice A xs.length c] 26)).alloc (.cells #[.int .i64 0, .slice none 0 0] 26) := ⟨_, rfl⟩
  have bw : Below w.heap.size w W0 := by rw [hW0]; exact (below_alloc _ _).alloc (by simp) _
  have hz : w.heap.size < W0.heap.size := by rw [hW0]; simp <;> omega
  have R0 : Blk W0 (w.heap.size + 1) 26 #[.int .i64 0, .slice none 0 0] := by rw [hW0]; have := Blk.new (w.alloc (.cells #[.int .i64 s, .slice A xs.length c] 26)) 26 #[.int .i64 0, .slice none 0 0]; simpa using this
  have hz2 : w.heap.size + 1 < W0.heap.size := by rw [hW0]; simp <;> omega
  have k0 : W0.cell? ⟨w.heap.size, 0, none⟩ = some (.int .i64 s) := by rw [hW0]; simp [go_sem]
  have k1 : W0.cell? ⟨w.heap.size, 1, none⟩ = some (.slice A xs.length c) := by rw [hW0]; simp [go_sem]
  have HX := Bx.mk ((RB.of_ir hx).below bw (Nat.le_refl _))
  have HOK := Bx.mk hok
  have HS : Bx (-9223372036854775808 ≤ s ∧ s ≤ 9223372036854775807) := ⟨by omega⟩
  clear hx hxb
  go_enter Try.func11, Try.ntmps11
  go_wp2_with fail
  rw [← hW0]
  clear hW0
  refine (lit_b hok (implRhythmOk_any _ _ _ _ _ HS.out (by exact HX.out.ir))).mono ?_
  clear hok
  rintro e w1 ⟨rfl, b⟩
  replace k0 := ((bcell b).1 _ _ (by omega)).trans k0
  replace k1 := ((bcell b).1 _ _ (by omega)).trans k1
  replace HX := Bx.mk (HX.out.below b (by omega))
  replace bw := bw.trans (b.mono bw.size)
  replace R0 := R0.below b hz2
  have hz3 : w.heap.size + 2 ≤ w1.heap.size := by have := b.size; omega
  clear b
  go_wp2_with fail
  refine (others_any _ _ _ _ _ ⟨hs1, hs2⟩ (by exact HX.out.ir)).mono ?_
  rintro e w2 ⟨A2, c2, rfl, io, b⟩
  replace R0 := R0.below b (by omega)
  have cr0 := R0.at_ (i := 0) rfl
  have cr1 := R0.at_ (i := 1) rfl
  have fr0 := R0.frozen 0
  have fr1 := R0.frozen 1
  replace bw := bw.trans (b.mono bw.size)
  have RF := Bx.mk ((R0.set 0 (.int .i64 s)).set 1 (.slice A2 (othL s xs).length c2))
  have BF := Bx.mk ((bw.setCell (p := ⟨w.heap.size + 1, 0, none⟩) (show w.heap.size ≤ w.heap.size + 1 by omega) (.int .i64 s)).setCell (p := ⟨w.heap.size + 1, 1, none⟩) (show w.heap.size ≤ w.heap.size + 1 by omega) (.slice A2 (othL s xs).length c2))
  have HIO := Bx.mk ((io.setLow (p := ⟨w.heap.size + 1, 0, none⟩) (show w.heap.size + 1 < w1.heap.size by omega) (.int .i64 s)).setLow (p := ⟨w.heap.size + 1, 1, none⟩) (show w.heap.size + 1 < w1.heap.size by omega) (.slice A2 (othL s xs).length c2))
  clear R0 io b
  generalize othL s xs = L at *
  go_wp2_with fail
  exact bodyPost_ret (v := .tuple #[.agg #[.int .i64 s, .slice A2 L.length c2], .bool true]) (by simp [results, Try.results11, go_sem, RF.out.at_ (i := 0) rfl, RF.out.at_ (i := 1) rfl]) rfl ⟨A2, c2, rfl, HIO.out.mono (by omega), BF.out⟩
end Go.Proofs.Ytpejnhcmelkmeaa
