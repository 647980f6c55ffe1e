/- The sizes of the steps of a rhythm: how many, and whether the greatest is a sum. -/
import Derived.Test.YtpejnhcmelkmeaaSizes
import Derived.Test.YtpejnhcmelkmeaaSteps
namespace Go.Proofs.Ytpejnhcmelkmeaa
open Go.RowKit

def sizesR (s : Int) (xs : List Int) : List Int := coll (stepsR s xs)
theorem sizesR_len (s : Int) (xs : List Int) : (sizesR s xs).length ≤ 24 := Nat.le_trans (coll_len _) (stepsR_len s xs)
theorem sizesR_bd {s : Int} {xs : List Int} : ∀ x ∈ sizesR s xs, -24 ≤ x ∧ x ≤ 48 := coll_bd stepsR_bd
def sumB (L : List Int) : Bool := decide (L.length ≤ 2) || (decide (L.length = 3) && decide (L[2]?.getD 0 = L[0]?.getD 0 + L[1]?.getD 0))
set_option maxHeartbeats 1000000 in
theorem implStepSizes_any (s : Int) (A : Option Addr) (c : Nat) (xs : List Int) (w : World) (hs : -9223372036854775808 ≤ s ∧ s ≤ 9223372036854775807) (hx : IR w A xs) : Calls Try.prog 22 #[.agg #[.int .i64 s, .slice A xs.length c]] w (GivesInts w (sizesR s xs)) := by
  obtain ⟨W0, hW0⟩ : ∃ W0, W0 = w.alloc (.cells #[.int .i64 s, .slice A xs.length c] 26) := ⟨_, rfl⟩
  have bw : Below w.heap.size w W0 := by rw [hW0]; exact below_alloc _ _
  have hz : w.heap.size < W0.heap.size := by rw [hW0]; simp
  have k0 : W0.cell? ⟨w.heap.size, 0, none⟩ = some (.int .i64 s) := by rw [hW0]; simp [go_sem]
  have k1 : W0.cell? ⟨w.heap.size, 1, none⟩ = some (.slice A xs.length c) := by rw [hW0]; simp [go_sem]
  have HX := Bx.mk ((RB.of_ir hx).below bw (Nat.le_refl _))
  have HS := Bx.mk hs
  clear hx hs
  have hsl := stepsR_len s xs
  have hsl2 : (stepsR s xs).length ≤ 1000000 := by omega
  go_enter Try.func22, Try.ntmps22
  go_wp2_with fail
  rw [← hW0]
  clear hW0
  refine (implSteps_any _ _ _ _ _ HS.out (by exact HX.out.ir)).mono ?_
  rintro e w1 ⟨v, rfl, hr, b⟩
  have hb := b.size
  have HO := Bx.mk hr
  replace bw := bw.trans (b.mono bw.size)
  clear hr b
  go_wp2_with fail
  refine (collected_row _ _ _ _ HO.out hsl2).mono ?_
  rintro e w2 ⟨A2, c2, rfl, io, b⟩
  have HIO : Bx (IO w2 w.heap.size A2 c2 (sizesR s xs)) := ⟨io.mono (by omega)⟩
  have HF := Bx.mk (bw.trans (b.mono (by omega)))
  clear io b
  go_wp2_with fail
  go_ret
  exact ⟨A2, c2, rfl, HIO.out, HF.out⟩
set_option maxHeartbeats 1000000 in
theorem implCountSizes_any (s : Int) (A : Option Addr) (c : Nat) (xs : List Int) (w : World) (hs : -9223372036854775808 ≤ s ∧ s ≤ 9223372036854775807) (hx : IR w A xs) : Calls Try.prog 14 #[.agg #[.int .i64 s, .slice A xs.length c]] w fun e w' => e = .returned (.int .i64 (sizesR s xs).length) ∧ Below w.heap.size w w' := by
  obtain ⟨W0, hW0⟩ : ∃ W0, W0 = w.alloc (.cells #[.int .i64 s, .slice A xs.length c] 26) := ⟨_, rfl⟩
  have bw : Below w.heap.size w W0 := by rw [hW0]; exact below_alloc _ _
  have hz : w.heap.size < W0.heap.size := by rw [hW0]; simp
  have k0 : W0.cell? ⟨w.heap.size, 0, none⟩ = some (.int .i64 s) := by rw [hW0]; simp [go_sem]
  have k1 : W0.cell? ⟨w.heap.size, 1, none⟩ = some (.slice A xs.length c) := by rw [hW0]; simp [go_sem]
  have HX := Bx.mk ((RB.of_ir hx).below bw (Nat.le_refl _))
  have HS := Bx.mk hs
  clear hx hs
  have hsl := sizesR_len s xs
  obtain ⟨L, hL⟩ : ∃ L, L = sizesR s xs := ⟨_, rfl⟩
  have HST : Bx (∀ c W, IR W A xs → Calls Try.prog 22 #[.agg #[.int .i64 s, .slice A xs.length c]] W (GivesInts W L)) := ⟨fun c W h => by rw [hL]; exact implStepSizes_any s A c xs W HS.out h⟩
  rw [← hL] at hsl ⊢
  clear hL
  go_enter Try.func14, Try.ntmps14
  go_wp2_with fail
  rw [← hW0]
  clear hW0
  refine (HST.out _ _ (by exact HX.out.ir)).mono ?_
  rintro e w1 ⟨A1, c1, rfl, io, b⟩
  replace bw := bw.trans (b.mono bw.size)
  clear b io
  go_wp2_with fail
  go_ret
  exact ⟨rfl, bw⟩
set_option maxHeartbeats 2000000 in
theorem implIsSum_any (s : Int) (A : Option Addr) (c : Nat) (xs : List Int) (w : World) (hs : -9223372036854775808 ≤ s ∧ s ≤ 9223372036854775807) (hx : IR w A xs) : Calls Try.prog 15 #[.agg #[.int .i64 s, .slice A xs.length c]] w fun e w' => e = .returned (.bool (sumB (sizesR s xs))) ∧ Below w.heap.size w w' := by
  obtain ⟨W0, hW0⟩ : ∃ W0, W0 = w.alloc (.cells #[.int .i64 s, .slice A xs.length c] 26) := ⟨_, rfl⟩
  have bw : Below w.heap.size w W0 := by rw [hW0]; exact below_alloc _ _
  have hz : w.heap.size < W0.heap.size := by rw [hW0]; simp
  have k0 : W0.cell? ⟨w.heap.size, 0, none⟩ = some (.int .i64 s) := by rw [hW0]; simp [go_sem]
  have k1 : W0.cell? ⟨w.heap.size, 1, none⟩ = some (.slice A xs.length c) := by rw [hW0]; simp [go_sem]
  have HX := Bx.mk ((RB.of_ir hx).below bw (Nat.le_refl _))
  have HS := Bx.mk hs
  clear hx hs
  have hsl := sizesR_len s xs
  have HBD := Bx.mk (sizesR_bd (s := s) (xs := xs))
  obtain ⟨L, hL⟩ : ∃ L, L = sizesR s xs := ⟨_, rfl⟩
  have HST : Bx (∀ c W, IR W A xs → Calls Try.prog 22 #[.agg #[.int .i64 s, .slice A xs.length c]] W (GivesInts W L)) := ⟨fun c W h => by rw [hL]; exact implStepSizes_any s A c xs W HS.out h⟩
  rw [← hL] at hsl HBD ⊢
  clear hL
  go_enter Try.func15, Try.ntmps15
  go_wp2_with fail
  rw [← hW0]
  clear hW0
  refine (HST.out _ _ (by exact HX.out.ir)).mono ?_
  rintro e w1 ⟨A1, c1, rfl, io, b⟩
  replace bw := Bx.mk (bw.trans (b.mono bw.size))
  have HI := Bx.mk io.reads
  clear b io k0 k1 HX hz HST
  by_cases h2 : L.length ≤ 2
  · have HR : Bx (sumB L = true) := ⟨by simp [sumB, h2]⟩
    have h2i : (L.length : Int) ≤ 2 := by omega
    go_upto_region 2 with (fail)
    go_quiet (fail)
    go_wp2_with fail
    go_ret
    exact ⟨ret_bool HR.out.symm, bdrewN bw.out _⟩
  · by_cases h3 : L.length = 3
    · obtain ⟨bb, oo, rfl, hbk, hc⟩ := HI.out.at_ (by omega)
      have c0 := hc 0 (by omega)
      have c1' := hc 1 (by omega)
      have c2 := hc 2 (by omega)
      rw [Nat.add_zero] at c0
      have g : ∀ i, i < L.length → -24 ≤ L[i]?.getD 0 ∧ L[i]?.getD 0 ≤ 48 := fun i hi => by
        rw [List.getElem?_eq_getElem hi]; exact HBD.out _ (List.getElem_mem hi)
      have hx1 := g 0 (by omega)
      have hy1 := g 1 (by omega)
      have hz1 := g 2 (by omega)
      obtain ⟨x, hx⟩ : ∃ x, x = L[0]?.getD 0 := ⟨_, rfl⟩
      obtain ⟨y, hy⟩ : ∃ y, y = L[1]?.getD 0 := ⟨_, rfl⟩
      obtain ⟨z, hz⟩ : ∃ z, z = L[2]?.getD 0 := ⟨_, rfl⟩
      have HR : Bx (sumB L = decide (z = x + y)) := ⟨by simp [sumB, h3, hx, hy, hz]⟩
      rw [← hx] at c0 hx1
      rw [← hy] at c1' hy1
      rw [← hz] at c2 hz1
      obtain ⟨hx1, hx2⟩ := hx1
      obtain ⟨hy1, hy2⟩ := hy1
      have hxy : IntKind.i64.wrap (x + y) = x + y := IntWalk.i64_in _ (by omega)
      clear hx hy hz g hc h2
      rw [h3]
      clear h3
      go_upto_region 2 with (fail)
      go_quiet (fail)
      go_wp2_with fail
      go_ret
      exact ⟨by rw [HR.out]; exact ret_bool (by rw [Bool.eq_iff_iff, beq_iff_eq, decide_eq_true_iff]), bdrewN bw.out _⟩
    · have HR : Bx (sumB L = false) := ⟨by simp [sumB, h2, h3]⟩
      have h2i : ¬ (L.length : Int) ≤ 2 := by omega
      have h3i : (((L.length : Int) == 3)) = false := by rw [beq_eq_false_iff_ne]; omega
      have h3z : ¬ (L.length : Int) = 3 := by omega
      have h3m : (L.length == 3) = false := by rw [beq_eq_false_iff_ne]; omega
      have h3d : decide ((L.length : Int) = 3) = false := decide_eq_false h3z
      have h2d : decide ((L.length : Int) ≤ 2) = false := decide_eq_false h2i
      go_upto_region 2 with (fail)
      go_quiet (fail)
      go_wp2_with fail
      go_ret
      exact ⟨ret_bool HR.out.symm, bdrewN bw.out _⟩
end Go.Proofs.Ytpejnhcmelkmeaa
