/- The law's helpers on rhythms: copy, size, compare, mark, hold. -/
import Derived.Test.YtbgfhbaaacmndaaBas
namespace Go.Proofs.Ytbgfhbaaacmndaa
open Go.RowKit

theorem nb_true {b : Bool} (h : (!b) = true) : b = false := by simpa using h
theorem nb_false {b : Bool} (h : (!b) = false) : b = true := by simpa using h
set_option maxHeartbeats 400000 in
theorem toRhythm_any (s : Int) (A : Option Addr) (c : Nat) (xs : List Int) (w : World) (hx : IR w A xs) :
    Calls Try.prog 11 #[.agg #[.int .i64 s, .slice A xs.length c]] w fun e w' => ∃ A' c', e = .returned (.agg #[.int .i64 s, .slice A' xs.length c']) ∧ IO w' w.heap.size A' c' xs ∧ Below w.heap.size w w' := by
  have hlx := hx.len
  have hw : Below w.heap.size w (w.alloc (.cells #[.int .i64 s, .slice A xs.length c] 24)) := (Below.refl _ _).alloc (Nat.le_refl _) _
  obtain ⟨W3, hW3⟩ : ∃ W3, W3 = (((w.alloc (.cells #[.int .i64 s, .slice A xs.length c] 24)).alloc (.cells #[.int .i64 0, .slice none 0 0] 27)).alloc (.cells #[.int .i64 s, .slice none 0 0] 27)) := ⟨_, rfl⟩
  have b3 : Below w.heap.size w W3 := by rw [hW3]; exact (((Below.refl _ _).alloc (Nat.le_refl _) _).alloc (by simp) _).alloc (by simp; omega) _
  have hx3 := hx.below b3
  have HC := Bx.mk (toIntS_any A c xs W3 hx3)
  rw [hW3] at HC
  go_enter Try.func11, Try.ntmps11
  go_wp2_with (go_at_call 31; refine HC.out.mono ?_; rintro e w1 ⟨A', c', rfl, io1, hb⟩; obtain ⟨hcl, hfr⟩ := bcell hb; have hz := hb.size; simp at hz)
  have hb1 : Below W3.heap.size W3 w1 := by rw [hW3]; exact hb
  have bw : Below w.heap.size w w1 := b3.trans (hb1.mono b3.size)
  refine bodyPost_ret (v := .agg #[.int .i64 s, .slice A' xs.length c']) (by simp [results, Try.results11, go_sem, hcl]) rfl ⟨A', c', rfl, ?_, ?_⟩
  · exact (((io1.setLow (by simp) _).setLow (by simp <;> omega) _).setLow (by simp <;> omega) _).mono (by simp <;> omega)
  · exact ((bw.setCell (by simp <;> omega) _).setCell (by simp) _).setCell (by simp) _

theorem szRhythm_any (s : Int) (A : Option Addr) (c : Nat) (n : Nat) (hn : n ≤ maxLen) (L : Int) (hL : 0 ≤ L ∧ L ≤ 1048576) (w : World) :
    Calls Try.prog 9 #[.agg #[.int .i64 s, .slice A n c], .int .i64 L] w fun e w' => e = .returned (.int .i64 (if (n : Int) ≤ L then L - (n : Int) else -1)) ∧ Below w.heap.size w w' := by
  unfold maxLen at hn
  have hw : Below w.heap.size w (w.alloc (.cells #[.int .i64 s, .slice A n c] 24)) := (Below.refl _ _).alloc (Nat.le_refl _) _
  obtain ⟨hL1, hL2⟩ := hL
  by_cases h : (n : Int) ≤ L
  · have h1 : ¬ L - n < 0 := by omega
    go_enter Try.func9, Try.ntmps9
    go_wp2
    go_ret
    exact ⟨by simp, hw⟩
  · have h1 : L - n < 0 := by omega
    go_enter Try.func9, Try.ntmps9
    go_wp2
    go_ret
    exact ⟨by simp, hw⟩
theorem szRhythm_yes (s : Int) (A : Option Addr) (c : Nat) (n : Nat) (hn : n ≤ maxLen) (L : Int) (hL : 0 ≤ L ∧ L ≤ 1048576) (h : (n : Int) ≤ L) (w : World) :
    Calls Try.prog 9 #[.agg #[.int .i64 s, .slice A n c], .int .i64 L] w fun e w' => e = .returned (.int .i64 (L - n)) ∧ Below w.heap.size w w' :=
  (szRhythm_any s A c n hn L hL w).mono fun _ _ hh => ⟨by rw [hh.1, if_pos h], hh.2⟩
theorem szRhythm_no (s : Int) (A : Option Addr) (c : Nat) (n : Nat) (hn : n ≤ maxLen) (L : Int) (hL : 0 ≤ L ∧ L ≤ 1048576) (h : L < (n : Int)) (w : World) :
    Calls Try.prog 9 #[.agg #[.int .i64 s, .slice A n c], .int .i64 L] w fun e w' => e = .returned (.int .i64 (-1)) ∧ Below w.heap.size w w' :=
  (szRhythm_any s A c n hn L hL w).mono fun _ _ hh => ⟨by rw [hh.1, if_neg (by omega)], hh.2⟩

set_option maxHeartbeats 400000 in
theorem eqRhythm_any (s t : Int) (A B : Option Addr) (c d : Nat) (xs ys : List Int) (w : World) (hx : IR w A xs) (hy : IR w B ys) :
    Calls Try.prog 13 #[.agg #[.int .i64 s, .slice A xs.length c], .agg #[.int .i64 t, .slice B ys.length d]] w fun e w' => e = .returned (.bool (decide (s = t ∧ xs = ys))) ∧ Below w.heap.size w w' := by
  obtain ⟨W2, hW2⟩ : ∃ W2, W2 = ((w.alloc (.cells #[.int .i64 s, .slice A xs.length c] 27)).alloc (.cells #[.int .i64 t, .slice B ys.length d] 27)) := ⟨_, rfl⟩
  have b2 : Below w.heap.size w W2 := by rw [hW2]; exact ((Below.refl _ _).alloc (Nat.le_refl _) _).alloc (by simp) _
  have HC := Bx.mk (eqIntS_b A B c d xs ys W2 (hx.below b2) (hy.below b2))
  by_cases h : s = t
  · have hb : (s != t) = false := by simp [h]
    have HR : Bx (decide (s = t ∧ xs = ys) = decide (xs = ys)) := ⟨by simp [h]⟩
    clear h
    rw [hW2] at HC
    go_enter Try.func13, Try.ntmps13
    go_wp2_with (go_at_call 33; refine HC.out.mono ?_; rintro e w1 ⟨rfl, hb1⟩)
    all_goals
      have bw : Below w.heap.size w w1 := b2.trans (by rw [hW2]; exact hb1.mono (by simp; omega))
      go_ret
      first | exact ⟨ret_bool (HR.out.trans (nb_true (by assumption))).symm, bw⟩ | exact ⟨ret_bool (HR.out.trans (nb_false (by assumption))).symm, bw⟩
  · have hb : (s != t) = true := by simpa using h
    have HR : Bx (decide (s = t ∧ xs = ys) = false) := ⟨by simp [h]⟩
    rw [hW2] at b2
    clear h
    go_enter Try.func13, Try.ntmps13
    go_wp2
    go_ret
    exact ⟨ret_bool HR.out.symm, b2⟩
set_option maxHeartbeats 400000 in
theorem markRhythm_any (s : Int) (A : Option Addr) (base c : Nat) (xs : List Int) (q : Int) (w : World) (hx : IO w base A c xs) (h0 : 0 ≤ q) (h1 : q ≤ 1000000000) :
    Calls Try.prog 17 #[.agg #[.int .i64 s, .slice A xs.length c], .int .i64 q] w fun e w' => e = .returned (.int .i64 (q + xs.length)) ∧ IO w' base A c (marksFrom q xs.length) ∧ Only w w' A := by
  have hio : IO (w.alloc (.cells #[.int .i64 s, .slice A xs.length c] 27)) base A c xs := hx.below ((Below.refl w.heap.size _).alloc (Nat.le_refl _) _) (Nat.le_refl _)
  have HC := Bx.mk (markIntS_any A base c xs q _ hio h0 h1)
  go_enter Try.func17, Try.ntmps17
  go_wp2_with (go_at_call 38; refine HC.out.mono ?_; rintro e w1 ⟨rfl, io1, o1⟩)
  go_ret
  exact ⟨rfl, io1, ((Only.refl _ _).alloc _).trans o1⟩
set_option maxHeartbeats 400000 in
theorem heldRhythm_any (s : Int) (A : Option Addr) (c n : Nat) (q : Int) (w : World) (hx : IR w A (marksFrom q n)) (h0 : 0 ≤ q) (h1 : q ≤ 1000000000) :
    Calls Try.prog 22 #[.agg #[.int .i64 s, .slice A n c], .int .i64 q] w fun e w' => e = .returned (.int .i64 (q + n)) ∧ Below w.heap.size w w' := by
  have hw : Below w.heap.size w (w.alloc (.cells #[.int .i64 s, .slice A n c] 27)) := (Below.refl _ _).alloc (Nat.le_refl _) _
  have HC := Bx.mk (heldIntS_b A c n q _ (hx.below hw) h0 h1)
  have hn0 : ¬ (q + (n : Int) < 0) := by omega
  go_enter Try.func22, Try.ntmps22
  go_wp2_with (go_at_call 39; refine HC.out.mono ?_; rintro e w1 ⟨rfl, hb1⟩)
  go_ret
  exact ⟨rfl, hw.trans (hb1.mono hw.size)⟩
end Go.Proofs.Ytbgfhbaaacmndaa
