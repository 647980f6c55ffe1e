/- Differences of beats, and small functions on valid rhythms, walked. -/
import Derived.Test.YtpejnhcmelkmeaaTls
import Derived.Test.YtpejnhcmelkmeaaIvs
import Derived.Test.YtpejnhcmelkmeaaBas
import Derived.Test.YtpejnhcmelkmeaaRts
import Derived.Test.YtpejnhcmelkmeaaLws
namespace Go.Proofs.Ytpejnhcmelkmeaa
open Go.RowKit

theorem two_bd2 {s : Int} {xs ys : List Int} (h2 : xs.length ≤ 24) (h3 : ys.length ≤ 24) (a b : Nat) (ha : a < xs.length) (hb : b < ys.length) (i : Nat) (y : Int)
    (h : (inC s (xs[a]?.getD 0) ys (outC s xs ys a) b)[i]? = some y) : 0 ≤ y ∧ y ≤ 1000 := by
  have h1 := inC_bd (s := s) (p := xs[a]?.getD 0) (ys := ys) (outC_bd s xs ys a) (by omega) b i y h
  have h4 : a * ys.length ≤ 24 * 24 := Nat.mul_le_mul (by omega) h3
  omega
set_option maxHeartbeats 1000000 in
theorem countBeats_ok (s : Int) (A : Option Addr) (c : Nat) (xs : List Int) (w : World) (hok : rhOk s xs = true) (hx : IR w A xs) :
    Calls Try.prog 18 #[.agg #[.int .i64 s, .slice A xs.length c]] w fun e w' => e = .returned (.int .i64 xs.length) ∧ Below w.heap.size w w' := by
  obtain ⟨⟨hs1, hs2⟩, hxb, _⟩ := rhOk_iff.1 hok
  have HXB := Bx.mk hxb
  have hll := (rhOk_len hok).1
  obtain ⟨W0, hW0⟩ : ∃ W0, W0 = w.alloc (.cells #[.int .i64 s, .slice A xs.length c] 26) := ⟨_, rfl⟩
  have bw : Below w.heap.size w W0 := by rw [hW0]; exact below_alloc _ _
  have hz : w.heap.size < W0.heap.size := by rw [hW0]; simp <;> omega
  have k0 : W0.cell? ⟨w.heap.size, 0, none⟩ = some (.int .i64 s) := by rw [hW0]; simp [go_sem]
  have k1 : W0.cell? ⟨w.heap.size, 1, none⟩ = some (.slice A xs.length c) := by rw [hW0]; simp [go_sem]
  have HX := Bx.mk ((RB.of_ir hx).below bw (Nat.le_refl _))
  have HOK := Bx.mk hok
  have HS : Bx (-9223372036854775808 ≤ s ∧ s ≤ 9223372036854775807) := ⟨by omega⟩
  clear hx hxb
  go_enter Try.func18, Try.ntmps18
  go_wp2_with fail
  rw [← hW0]
  clear hW0
  refine (lit_b hok (implRhythmOk_any _ _ _ _ _ HS.out (by exact HX.out.ir))).mono ?_
  clear hok
  rintro e w1 ⟨rfl, b⟩
  replace k0 := ((bcell b).1 _ _ (by omega)).trans k0
  replace k1 := ((bcell b).1 _ _ (by omega)).trans k1
  replace HX := Bx.mk (HX.out.below b (by omega))
  replace bw := bw.trans (b.mono bw.size)
  clear b
  go_wp2_with fail
  go_ret
  exact ⟨rfl, bw⟩
set_option maxHeartbeats 1000000 in
theorem hasBeat_ok (s : Int) (A : Option Addr) (c : Nat) (xs : List Int) (k : Int) (w : World) (hok : rhOk s xs = true) (hx : IR w A xs) (hk : -1000000 ≤ k ∧ k ≤ 1000000) :
    Calls Try.prog 16 #[.agg #[.int .i64 s, .slice A xs.length c], .int .i64 k] w fun e w' => e = .returned (.bool (hasR s xs k)) ∧ Below w.heap.size w w' := by
  obtain ⟨⟨hs1, hs2⟩, hxb, _⟩ := rhOk_iff.1 hok
  have HXB := Bx.mk hxb
  have hll := (rhOk_len hok).1
  obtain ⟨W0, hW0⟩ : ∃ W0, W0 = w.alloc (.cells #[.int .i64 s, .slice A xs.length c] 26) := ⟨_, rfl⟩
  have bw : Below w.heap.size w W0 := by rw [hW0]; exact below_alloc _ _
  have hz : w.heap.size < W0.heap.size := by rw [hW0]; simp <;> omega
  have k0 : W0.cell? ⟨w.heap.size, 0, none⟩ = some (.int .i64 s) := by rw [hW0]; simp [go_sem]
  have k1 : W0.cell? ⟨w.heap.size, 1, none⟩ = some (.slice A xs.length c) := by rw [hW0]; simp [go_sem]
  have HX := Bx.mk ((RB.of_ir hx).below bw (Nat.le_refl _))
  have HOK := Bx.mk hok
  have HS : Bx (-9223372036854775808 ≤ s ∧ s ≤ 9223372036854775807) := ⟨by omega⟩
  clear hx hxb
  go_enter Try.func16, Try.ntmps16
  go_wp2_with fail
  rw [← hW0]
  clear hW0
  refine (lit_b hok (implRhythmOk_any _ _ _ _ _ HS.out (by exact HX.out.ir))).mono ?_
  clear hok
  rintro e w1 ⟨rfl, b⟩
  replace k0 := ((bcell b).1 _ _ (by omega)).trans k0
  replace k1 := ((bcell b).1 _ _ (by omega)).trans k1
  replace HX := Bx.mk (HX.out.below b (by omega))
  replace bw := bw.trans (b.mono bw.size)
  clear b
  go_wp2_with fail
  refine (has_any _ _ _ _ _ _ ⟨hs1, hs2⟩ (by omega) (by exact HX.out.ir)).mono ?_
  rintro e w2 ⟨rfl, b⟩
  replace bw := bw.trans (b.mono bw.size)
  clear b
  go_wp2_with fail
  go_ret
  exact ⟨rfl, bw⟩
end Go.Proofs.Ytpejnhcmelkmeaa
