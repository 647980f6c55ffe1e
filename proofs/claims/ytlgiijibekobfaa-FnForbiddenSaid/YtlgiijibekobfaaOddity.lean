/- Whether a rhythm has the oddity property. -/
import Derived.Test.YtlgiijibekobfaaBas
namespace Go.Proofs.Ytlgiijibekobfaa
open Go.RowKit

def oddityI (s : Int) (xs : List Int) : Bool := rhOk s xs && (decide (s % 2 = 1) || avoidsL s (s / 2) xs)
set_option maxHeartbeats 400000 in
theorem implOddity_any (s : Int) (A : Option Addr) (c : Nat) (xs : List Int) (w : World) (hs : -9223372036854775808 ≤ s ∧ s ≤ 9223372036854775807) (hx : IR w A xs) :
    Calls Try.prog 20 #[.agg #[.int .i64 s, .slice A xs.length c]] w fun e w' => e = .returned (.bool (oddityI s xs)) ∧ Below w.heap.size w w' := by
  have hW := below_alloc w (.cells #[.int .i64 s, .slice A xs.length c] 30)
  have HC := Bx.mk (implRhythmOk_any s A c xs _ hs (hx.below hW))
  have HX := Bx.mk hx
  cases hok : rhOk s xs with
  | false =>
    have HR : Bx (oddityI s xs = false) := ⟨by simp [oddityI, hok]⟩
    rw [hok] at HC
    clear hx hok
    go_enter Try.func20, Try.ntmps20
    go_wp2_with (go_at_call 61; refine HC.out.mono ?_; rintro e w1 ⟨rfl, hb1⟩)
    go_ret
    exact ⟨ret_bool HR.out.symm, hW.trans (hb1.mono (by simp))⟩
  | true =>
    have hsz := (rhOk_iff.1 hok).1
    obtain ⟨hs1, hs2⟩ := hsz
    rw [hok] at HC
    have HO := Bx.mk hok
    by_cases hod : s % 2 = 1
    · have HR : Bx (oddityI s xs = true) := ⟨by simp [oddityI, hok, hod]⟩
      clear hx hok
      go_enter Try.func20, Try.ntmps20
      go_wp2_with (go_at_call 61; refine HC.out.mono ?_; rintro e w1 ⟨rfl, hb1⟩; obtain ⟨hcl, hfr⟩ := bcell hb1)
      go_ret
      exact ⟨ret_bool HR.out.symm, hW.trans (hb1.mono (by simp))⟩
    · have HR : Bx (oddityI s xs = avoidsL s (s / 2) xs) := ⟨by simp [oddityI, hok, hod]⟩
      have HD : Bx (1 ≤ s / 2 ∧ s / 2 < s) := ⟨by omega⟩
      have he : ((s % 2 == 1) : Bool) = false := by simpa using hod
      clear hx hok
      go_enter Try.func20, Try.ntmps20
      go_wp2_with (first | (go_at_call 61; refine HC.out.mono ?_; rintro e w1 ⟨rfl, hb1⟩; obtain ⟨hcl, hfr⟩ := bcell hb1; have hB1 : Bx (Below w.heap.size w w1) := ⟨hW.trans (hb1.mono (by simp))⟩) | (go_at_call 62; refine (rhavoids_any _ _ _ _ _ _ HO.out (by exact HD.out) (by exact HX.out.below hB1.out)).mono ?_; rintro e w2 ⟨rfl, hb2⟩))
      go_ret
      exact ⟨ret_bool HR.out.symm, hB1.out.trans (hb2.mono hB1.out.size)⟩
end Go.Proofs.Ytlgiijibekobfaa
