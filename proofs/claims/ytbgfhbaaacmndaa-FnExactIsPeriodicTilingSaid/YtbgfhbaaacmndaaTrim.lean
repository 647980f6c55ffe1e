/- A list without the zeros at its end. -/
import Derived.Test.YtbgfhbaaacmndaaBase
import Derived.Test.YtbgfhbaaacmndaaObjs
namespace Go.Proofs.Ytbgfhbaaacmndaa
open Go.RowKit

/-- how many of the first n are left when the zeros at the end go -/
def endLen (xs : List Int) : Nat → Nat
  | 0 => 0
  | n + 1 => if xs[n]?.getD 0 = 0 then endLen xs n else n + 1
theorem endLen_le (xs : List Int) (n : Nat) : endLen xs n ≤ n := by
  induction n with
  | zero => exact Nat.le_refl _
  | succ n ih => simp only [endLen]; split <;> omega
theorem endLen_zero {xs : List Int} {n : Nat} {x : Int} (hx : xs[n]? = some x) (h : x = 0) : endLen xs (n + 1) = endLen xs n := by simp [endLen, hx, h]
theorem endLen_stop {xs : List Int} {n : Nat} {x : Int} (hx : xs[n]? = some x) (h : x ≠ 0) : endLen xs (n + 1) = n + 1 := by simp [endLen, hx, h]
def trim (xs : List Int) : List Int := xs.take (endLen xs xs.length)
theorem trim_len (xs : List Int) : (trim xs).length = endLen xs xs.length := by
  unfold trim; rw [List.length_take]; have := endLen_le xs xs.length; omega
theorem IO.take {w : World} {base c c' n : Nat} {A : Option Addr} {xs : List Int} (h : IO w base A c xs) (hn : n ≤ c') (hc : c' ≤ c) : IO w base A c' (xs.take n) := by
  obtain ⟨h1, h2, h3⟩ := h
  refine ⟨by rw [List.length_take]; omega, by rw [List.length_take]; omega, ?_⟩
  rcases h3 with ⟨h4, rfl⟩ | ⟨g, cur, e, hg, hh, hs, ht⟩
  · exact .inl ⟨h4, by simp⟩
  · refine .inr ⟨g, cur, e, hg, hh, by omega, ?_⟩
    rw [List.length_take, show min n xs.length = min n xs.length from rfl, ← List.take_take, ht]
    simp [ints, List.map_take]
theorem IO.trim {w : World} {base c c' : Nat} {A : Option Addr} {xs : List Int} (h : IO w base A c xs) (hn : (trim xs).length ≤ c') (hc : c' ≤ c) : IO w base A c' (trim xs) := by
  rw [trim_len] at hn
  exact h.take hn hc
set_option maxHeartbeats 400000 in
theorem clip_any (A : Option Addr) (n c : Nat) (w : World) (hc : n ≤ c) :
    Calls Try.prog 127 #[.slice A n c] w fun e w' => e = .returned (.slice A n n) ∧ w = w' := by
  go_enter Try.func127, Try.ntmps127
  go_wp2
  go_ret
  exact ⟨rfl, rfl⟩
set_option maxHeartbeats 400000 in
theorem ended' (A : Option Addr) (c : Nat) (xs : List Int) (w : World) (hx : IR w A xs) (hc : xs.length ≤ c) :
    Calls Try.prog 120 #[.slice A xs.length c] w fun e w' => e = .returned (.slice A (trim xs).length (trim xs).length) ∧ w = w' := by
  have hlx := hx.len
  go_enter Try.func120, Try.ntmps120
  go_wp2
  go_loop [0] (fun v => ∃ n : Nat, n ≤ xs.length ∧ v = .slice A n c ∧ Bx (endLen xs n = endLen xs xs.length)) (fun v => match v with | .slice _ n _ => n | _ => 0)
  case atStart => exact ⟨xs.length, Nat.le_refl _, rfl, ⟨rfl⟩⟩
  case round =>
    obtain ⟨n, hn, rfl, HE⟩ := hrel
    by_cases h0 : n = 0
    · subst h0
      have HT : Bx ((trim xs).length = 0) := ⟨by rw [trim_len, ← HE.out]; rfl⟩
      clear HE
      go_wp2_with (go_at_call 127; refine (clip_any _ _ _ _ (by omega)).mono ?_; rintro e w' ⟨rfl, rfl⟩)
      go_ret
      exact ⟨by rw [HT.out]; rfl, rfl⟩
    · obtain ⟨m, rfl⟩ : ∃ m, n = m + 1 := ⟨n - 1, by omega⟩
      obtain ⟨b, o, x, rfl, hb, c1, H1⟩ := hx.one (k := m) (by omega)
      have H2 := Bx.mk H1.out
      clear H1
      by_cases hx0 : x = 0
      · subst hx0
        have HE2 : Bx (endLen xs m = endLen xs xs.length) := ⟨by rw [← HE.out, endLen_zero H2.out rfl]⟩
        clear HE
        go_wp2_with (go_at_call 127; refine (clip_any _ _ _ _ (by omega)).mono ?_; rintro e w' ⟨rfl, rfl⟩)
        go_round
        case rel => exact ⟨m, by omega, by go_num, HE2⟩
        case measure => simp
      · have HT : Bx ((trim xs).length = m + 1) := ⟨by rw [trim_len, ← HE.out, endLen_stop H2.out hx0]⟩
        clear HE
        go_wp2_with (go_at_call 127; refine (clip_any _ _ _ _ (by omega)).mono ?_; rintro e w' ⟨rfl, rfl⟩)
        go_ret
        exact ⟨by rw [HT.out]; rfl, rfl⟩
theorem ended_any (A : Option Addr) (c : Nat) (xs : List Int) (w : World) (hx : IR w A xs) (hc : xs.length ≤ c) (_hl : c ≤ 17592186044415) :
    Calls Try.prog 120 #[.slice A xs.length c] w fun e w' => e = .returned (.slice A (trim xs).length (trim xs).length) ∧ w = w' := ended' A c xs w hx hc
set_option maxHeartbeats 400000 in
theorem l10Trim' (A : Option Addr) (c : Nat) (xs : List Int) (w : World) (hx : IR w A xs) (hc : xs.length ≤ c) :
    Calls Try.prog 119 #[.slice A xs.length c] w fun e w' => e = .returned (.slice A (trim xs).length c) ∧ w = w' := by
  have hlx := hx.len
  go_enter Try.func119, Try.ntmps119
  go_wp2
  go_loop [3] (fun v => ∃ n : Nat, n ≤ xs.length ∧ v = .int .i64 n ∧ Bx (endLen xs n = endLen xs xs.length)) (fun v => (intOf v).toNat)
  case atStart => exact ⟨xs.length, Nat.le_refl _, rfl, ⟨rfl⟩⟩
  case round =>
    obtain ⟨n, hn, rfl, HE⟩ := hrel
    by_cases h0 : n = 0
    · subst h0
      have HT : Bx ((trim xs).length = 0) := ⟨by rw [trim_len, ← HE.out]; rfl⟩
      clear HE
      go_wp2
      go_ret
      exact ⟨by rw [HT.out]; rfl, rfl⟩
    · obtain ⟨m, rfl⟩ : ∃ m, n = m + 1 := ⟨n - 1, by omega⟩
      obtain ⟨b, o, x, rfl, hb, c1, H1⟩ := hx.one (k := m) (by omega)
      have H2 := Bx.mk H1.out
      clear H1
      by_cases hx0 : x = 0
      · subst hx0
        have HE2 : Bx (endLen xs m = endLen xs xs.length) := ⟨by rw [← HE.out, endLen_zero H2.out rfl]⟩
        clear HE
        go_wp2
        go_round
        case rel => exact ⟨m, by omega, by go_num, HE2⟩
        case measure => simp [intOf]
      · have HT : Bx ((trim xs).length = m + 1) := ⟨by rw [trim_len, ← HE.out, endLen_stop H2.out hx0]⟩
        clear HE
        go_wp2
        go_ret
        exact ⟨by rw [HT.out]; rfl, rfl⟩
theorem l10Trim_any (A : Option Addr) (c : Nat) (xs : List Int) (w : World) (hx : IR w A xs) (hc : xs.length ≤ c) (_hl : c ≤ 17592186044415) :
    Calls Try.prog 119 #[.slice A xs.length c] w fun e w' => e = .returned (.slice A (trim xs).length c) ∧ w = w' := l10Trim' A c xs w hx hc
end Go.Proofs.Ytbgfhbaaacmndaa
