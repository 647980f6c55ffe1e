/- The law's helpers on rhythms: copy, size, compare, mark, hold. -/
import Derived.Test.YtjpdgdacfejplaaDoorBas
namespace Go.Proofs.YtjpdgdacfejplaaDoor
open Go.RowKit
set_option maxRecDepth 20000

theorem nb_true {b : Bool} (h : (!b) = true) : b = false := by simpa using h
theorem nb_false {b : Bool} (h : (!b) = false) : b = true := by simpa using h


set_option maxHeartbeats 400000 in
theorem eqRhythm_any (s t : Int) (A B : Option Addr) (c d : Nat) (xs ys : List Int) (w : World) (hx : IR w A xs) (hy : IR w B ys) :
    Calls Tryd.prog 6 #[.agg #[.int .i64 s, .slice A xs.length c], .agg #[.int .i64 t, .slice B ys.length d]] w fun e w' => e = .returned (.bool (decide (s = t ∧ xs = ys))) ∧ Below w.heap.size w w' := by
  obtain ⟨W2, hW2⟩ : ∃ W2, W2 = ((w.alloc (.cells #[.int .i64 s, .slice A xs.length c] 24)).alloc (.cells #[.int .i64 t, .slice B ys.length d] 24)) := ⟨_, rfl⟩
  have b2 : Below w.heap.size w W2 := by rw [hW2]; exact ((Below.refl _ _).alloc (Nat.le_refl _) _).alloc (by simp) _
  have HC := Bx.mk (eqIntS_b A B c d xs ys W2 (hx.below b2) (hy.below b2))
  by_cases h : s = t
  · have hb : (s != t) = false := by simp [h]
    have HR : Bx (decide (s = t ∧ xs = ys) = decide (xs = ys)) := ⟨by simp [h]⟩
    clear h
    rw [hW2] at HC
    go_enter Tryd.func6, Tryd.ntmps6
    go_wp2_with (go_at_call 14; refine HC.out.mono ?_; rintro e w1 ⟨rfl, hb1⟩)
    all_goals
      have bw : Below w.heap.size w w1 := b2.trans (by rw [hW2]; exact hb1.mono (by simp; omega))
      go_ret
      first | exact ⟨ret_bool (HR.out.trans (nb_true (by assumption))).symm, bw⟩ | exact ⟨ret_bool (HR.out.trans (nb_false (by assumption))).symm, bw⟩
  · have hb : (s != t) = true := by simpa using h
    have HR : Bx (decide (s = t ∧ xs = ys) = false) := ⟨by simp [h]⟩
    rw [hW2] at b2
    clear h
    go_enter Tryd.func6, Tryd.ntmps6
    go_wp2
    go_ret
    exact ⟨ret_bool HR.out.symm, b2⟩
set_option maxHeartbeats 400000 in
theorem markRhythm_any (s : Int) (A : Option Addr) (base c : Nat) (xs : List Int) (q : Int) (w : World) (hx : IO w base A c xs) (h0 : 0 ≤ q) (h1 : q ≤ 1000000000) :
    Calls Tryd.prog 7 #[.agg #[.int .i64 s, .slice A xs.length c], .int .i64 q] w fun e w' => e = .returned (.int .i64 (q + xs.length)) ∧ IO w' base A c (marksFrom q xs.length) ∧ Only w w' A := by
  have hio : IO (w.alloc (.cells #[.int .i64 s, .slice A xs.length c] 24)) base A c xs := hx.below ((Below.refl w.heap.size _).alloc (Nat.le_refl _) _) (Nat.le_refl _)
  have HC := Bx.mk (markIntS_any A base c xs q _ hio h0 h1)
  go_enter Tryd.func7, Tryd.ntmps7
  go_wp2_with (go_at_call 15; refine HC.out.mono ?_; rintro e w1 ⟨rfl, io1, o1⟩)
  go_ret
  exact ⟨rfl, io1, ((Only.refl _ _).alloc _).trans o1⟩
set_option maxHeartbeats 400000 in
theorem heldRhythm_any (s : Int) (A : Option Addr) (c n : Nat) (q : Int) (w : World) (hx : IR w A (marksFrom q n)) (h0 : 0 ≤ q) (h1 : q ≤ 1000000000) :
    Calls Tryd.prog 8 #[.agg #[.int .i64 s, .slice A n c], .int .i64 q] w fun e w' => e = .returned (.int .i64 (q + n)) ∧ Below w.heap.size w w' := by
  have hw : Below w.heap.size w (w.alloc (.cells #[.int .i64 s, .slice A n c] 24)) := (Below.refl _ _).alloc (Nat.le_refl _) _
  have HC := Bx.mk (heldIntS_b A c n q _ (hx.below hw) h0 h1)
  have hn0 : ¬ (q + (n : Int) < 0) := by omega
  go_enter Tryd.func8, Tryd.ntmps8
  go_wp2_with (go_at_call 16; refine HC.out.mono ?_; rintro e w1 ⟨rfl, hb1⟩)
  go_ret
  exact ⟨rfl, hw.trans (hb1.mono hw.size)⟩
end Go.Proofs.YtjpdgdacfejplaaDoor
