/- The law on CirclesOf, walked. -/
import Derived.Test.YtjpdlpegcfpcdaaCirc
import Derived.Test.YtjpdlpegcfpcdaaEqSS
namespace Go.Proofs.Ytjpdlpegcfpcdaa
open Go.RowKit

theorem totLen_le (B : Nat) (xss : List (List Int)) (h : ∀ xs ∈ xss, xs.length ≤ B) : totLen xss ≤ xss.length * B := by
  induction xss with
  | nil => simp [totLen]
  | cons xs r ih =>
    have h1 := h xs (List.mem_cons_self)
    have h2 := ih fun ys hy => h ys (List.mem_cons_of_mem _ hy)
    simp only [totLen, List.length_cons, Nat.succ_mul]
    omega
theorem circles_short (n d : Int) : Short (circlesI n d) ∧ totLen (circlesI n d) ≤ 1000 := by
  have key : ∀ xs ∈ circlesI n d, xs.length ≤ 25 := by
    intro xs hx
    unfold circlesI at hx
    split at hx
    · rename_i h
      have b1 := inB_iff.1 h.1
      simp only [circs, List.mem_map] at hx
      obtain ⟨p, _, rfl⟩ := hx
      have := circ_len n d p
      omega
    · cases hx
  have hl : (circlesI n d).length ≤ 24 := by
    unfold circlesI
    split
    · rename_i h
      have b1 := inB_iff.1 h.1
      have b2 := inB_iff.1 h.2
      rw [circs_len]
      have := (gcdI_bdl n d (by omega)).2.1
      omega
    · simp
  have ht := totLen_le 25 _ key
  refine ⟨⟨fun i xs h => by have := key xs (List.mem_of_getElem? h); omega, fun i => ?_, by omega⟩, by have := Nat.mul_le_mul_right 25 hl; omega⟩
  have := totLen_le 25 ((circlesI n d).take i) fun xs hx => key xs (List.mem_of_mem_take hx)
  have h2 : ((circlesI n d).take i).length ≤ 24 := by rw [List.length_take]; omega
  have := Nat.mul_le_mul_right 25 h2
  omega
set_option maxHeartbeats 400000 in
theorem walkFnExactCirclesOf (w : World) (n : Int) (_hn : -9223372036854775808 ≤ n ∧ n ≤ 9223372036854775807) (d : Int) (_hd : -9223372036854775808 ≤ d ∧ d ≤ 9223372036854775807) :
    Calls Try.prog 8 #[.int .i64 n, .int .i64 d] w fun e w' => e = .returned (.bool true) ∧ Below w.heap.size w w' := by
  obtain ⟨hs, ht⟩ := circles_short n d
  have HS := Bx.mk hs
  clear hs
  go_enter Try.func8, Try.ntmps8
  go_wp2_with fail
  refine (specCircles_any n d _).mono ?_
  rintro e w1 ⟨V0, gs0, vs0, rfl, R0, b1⟩
  have RB0 := Bx.mk R0
  go_wp2_with fail
  refine (implCircles_any n d _).mono ?_
  rintro e w2 ⟨V1, gs1, vs1, rfl, R1, b2⟩
  go_wp2_with fail
  refine (eqIntSS_same _ _ _ _ _ _ _ _ _ _ HS.out (by exact R1) (by exact R0.below b2 (Nat.le_refl _))).mono ?_
  rintro e w3 ⟨rfl, b3⟩
  go_wp2_with fail
  refine (markIntSS_any _ _ _ _ _ _ _ HS.out (by exact R1.below b3 (Nat.le_refl _)) (by exact (b2.trans (b3.mono b2.size)).size) (by omega) (by omega)).mono ?_
  rintro e w4 ⟨rfl, R1m, b4⟩
  have b14 : Below w1.heap.size w1 w4 := (b2.trans (b3.mono b2.size)).trans b4
  go_wp2_with fail
  refine (heldIntSS_any _ _ _ _ _ _ _ HS.out (by exact R1m) (by omega) (by omega)).mono ?_
  rintro e w5 ⟨rfl, b5⟩
  go_wp2_with fail
  refine (implCircles_any n d _).mono ?_
  rintro e w6 ⟨V2, gs2, vs2, rfl, R2, b6⟩
  have b46 := b5.trans (b6.mono b5.size)
  have b16 : Below w1.heap.size w1 w6 := b14.trans (b46.mono b14.size)
  go_wp2_with fail
  refine (eqIntSS_same _ _ _ _ _ _ _ _ _ _ HS.out (by exact R2) (by exact R0.below b16 (Nat.le_refl _))).mono ?_
  rintro e w7 ⟨rfl, b7⟩
  have b47 := b46.trans (b7.mono b46.size)
  go_wp2_with fail
  refine (heldIntSS_any _ _ _ _ _ _ _ HS.out (by exact R1m.below b47 (Nat.le_refl _)) (by omega) (by omega)).mono ?_
  rintro e w8 ⟨rfl, b8⟩
  have b17 := b16.trans (b7.mono b16.size)
  have b18 := b17.trans (b8.mono b17.size)
  go_wp2_with fail
  go_ret
  exact ⟨rfl, b1.trans (b18.mono b1.size)⟩
end Go.Proofs.Ytjpdlpegcfpcdaa
