/- Whether a rhythm is valid: the program's test and the reference's are one. -/
import Derived.Test.YtihbgpcmphemmaaRhPlain
import Derived.Test.YtihbgpcmphemmaaEqInt
import Derived.Test.YtihbgpcmphemmaaWithin
import Derived.Test.YtihbgpcmphemmaaL01In
namespace Go.Proofs.Ytihbgpcmphemmaa
open Go.RowKit

theorem IR.two {w : World} {A : Option Addr} {xs : List Int} (h : IR w A xs) {k : Nat} (h0 : 0 < k) (hk : k < xs.length) :
    ∃ b o x y, A = some ⟨b, o, none⟩ ∧ b < w.heap.size ∧ w.cell? ⟨b, o + k, none⟩ = some (.int .i64 x) ∧ w.cell? ⟨b, o + (k - 1), none⟩ = some (.int .i64 y) ∧ Bx (xs[k]? = some x ∧ xs[k - 1]? = some y) := by
  obtain ⟨b, o, e, hb, hc⟩ := h.2 (by omega)
  exact ⟨b, o, xs[k]?.getD 0, xs[k - 1]?.getD 0, e, hb, hc k hk, hc (k - 1) (by omega), ⟨by simp [hk], by simp [show k - 1 < xs.length by omega]⟩⟩
/-- the value of a rhythm -/
theorem asc_of {s : Int} {xs : List Int} {x y : Int} {k : Nat} (h0 : 0 < k) (h : xs[k]? = some x ∧ xs[k - 1]? = some y) (hn : ¬ y < x) : rhOk s xs = false :=
  rhOk_asc (k := k - 1) h.2 (by rw [show k - 1 + 1 = k by omega]; exact h.1) hn
theorem step_of {s : Int} {xs : List Int} {x y : Int} {k : Nat} (_h0 : 0 < k) (h : xs[k]? = some x ∧ xs[k - 1]? = some y) (hf : FitTo s xs k) (hr : 0 ≤ x ∧ x < s) (hn : y < x) : FitTo s xs (k + 1) :=
  hf.step h.1 hr fun j z hj hz => by
    have : k - 1 = j := by omega
    rw [this, hz] at h
    have := h.2
    injection this with this
    omega

set_option maxHeartbeats 1000000 in
theorem implRhythmOk_any (s : Int) (A : Option Addr) (c : Nat) (xs : List Int) (w : World) (_hs : -9223372036854775808 ≤ s ∧ s ≤ 9223372036854775807) (hx : IR w A xs) :
    Calls Try.prog 59 #[.agg #[.int .i64 s, .slice A xs.length c]] w fun e w' => e = .returned (.bool (rhOk s xs)) ∧ Below w.heap.size w w' := by
  have hlx := hx.len
  have hW : Below w.heap.size w (w.alloc (.cells #[.int .i64 s, .slice A xs.length c] 26)) := (Below.refl _ _).alloc (Nat.le_refl _) _
  by_cases h1 : inB s 1 24 = true
  · have b1 := inB_iff.1 h1
    obtain ⟨b1l, b1r⟩ := b1
    go_enter Try.func59, Try.ntmps59
    go_wp2
    go_loop [8] (fun i => ∃ k : Nat, k ≤ xs.length ∧ i = .int .i64 k ∧ FitTo s xs k) (fun i => xs.length - (intOf i).toNat)
    case atStart => exact ⟨0, by omega, rfl, FitTo.zero _ _⟩
    case round =>
      obtain ⟨k, hk, rfl, hf⟩ := hrel
      have HF := Bx.mk hf
      clear hf
      by_cases hlt : k < xs.length
      · have hkl : (k : Int) < xs.length := by omega
        by_cases h0 : k = 0
        · subst h0
          obtain ⟨b, o, x, rfl, hb, c1, H1⟩ := hx.one hlt
          rw [Nat.add_zero] at c1
          by_cases hr : inB x 0 (s - 1) = true
          · have HN := Bx.mk (HF.out.step H1.out (by have := inB_iff.1 hr; omega) (fun j y hj => by omega))
            go_wp2_with (go_at_call 51; refine (within_any _ _ _ _).mono ?_; rintro e w' ⟨rfl, rfl⟩)
            go_round
            case rel => exact ⟨0 + 1, by omega, by go_num, HN.out⟩
            case measure => simp [intOf]; omega
          · have HN := Bx.mk (rhOk_mem (s := s) H1.out (fun h => hr (inB_yes (by omega))))
            rw [Bool.not_eq_true] at hr
            go_wp2_with (go_at_call 51; refine (within_any _ _ _ _).mono ?_; rintro e w' ⟨rfl, rfl⟩)
            go_ret
            exact ⟨ret_bool HN.out.symm, hW⟩
        · obtain ⟨b, o, x, y, rfl, hb, c1, c2, H1⟩ := hx.two (k := k) (by omega) hlt
          have hk0 : (0 : Int) < k := by omega
          have hkp : 0 < k := by omega
          clear h0
          by_cases hr : inB x 0 (s - 1) = true
          · by_cases hxy : y < x
            · have HN := Bx.mk (step_of hkp H1.out HF.out (by have := inB_iff.1 hr; omega) hxy)
              have hxy2 : ¬ x ≤ y := by omega
              go_wp2_with (go_at_call 51; refine (within_any _ _ _ _).mono ?_; rintro e w' ⟨rfl, rfl⟩)
              go_round
              case rel => exact ⟨k + 1, by omega, by go_num, HN.out⟩
              case measure => simp [intOf]; omega
            · have HN := Bx.mk (asc_of (s := s) hkp H1.out hxy)
              have hxy2 : x ≤ y := by omega
              go_wp2_with (go_at_call 51; refine (within_any _ _ _ _).mono ?_; rintro e w' ⟨rfl, rfl⟩)
              go_ret
              exact ⟨ret_bool HN.out.symm, hW⟩
          · have HN := Bx.mk (rhOk_mem (s := s) H1.out.1 (fun h => hr (inB_yes (by omega))))
            rw [Bool.not_eq_true] at hr
            go_wp2_with (go_at_call 51; refine (within_any _ _ _ _).mono ?_; rintro e w' ⟨rfl, rfl⟩)
            go_ret
            exact ⟨ret_bool HN.out.symm, hW⟩
      · have HN := Bx.mk (HF.out.all (by omega))
        go_wp2_with (go_at_call 51; refine (within_any _ _ _ _).mono ?_; rintro e w' ⟨rfl, rfl⟩)
        go_ret
        exact ⟨ret_bool (by rw [HN.out, h1]), hW⟩
  · rw [Bool.not_eq_true] at h1
    have HR := Bx.mk (rhOk_size (xs := xs) h1)
    go_enter Try.func59, Try.ntmps59
    go_wp2
    go_loop [8] (fun i => ∃ k : Nat, k ≤ xs.length ∧ i = .int .i64 k) (fun i => xs.length - (intOf i).toNat)
    case atStart => exact ⟨0, by omega, rfl⟩
    case round =>
      obtain ⟨k, hk, rfl⟩ := hrel
      by_cases hlt : k < xs.length
      · have hkl : (k : Int) < xs.length := by omega
        by_cases h0 : k = 0
        · subst h0
          obtain ⟨b, o, x, rfl, hb, c1, H1⟩ := hx.one hlt
          rw [Nat.add_zero] at c1
          go_wp2_with (go_at_call 51; refine (within_any _ _ _ _).mono ?_; rintro e w' ⟨rfl, rfl⟩)
          all_goals first
            | (go_ret; exact ⟨ret_bool HR.out.symm, hW⟩)
            | (go_round
               case rel => exact ⟨0 + 1, by omega, by go_num⟩
               case measure => simp [intOf]; omega)
        · obtain ⟨b, o, x, y, rfl, hb, c1, c2, H1⟩ := hx.two (k := k) (by omega) hlt
          have hk0 : (0 : Int) < k := by omega
          clear h0
          go_wp2_with (go_at_call 51; refine (within_any _ _ _ _).mono ?_; rintro e w' ⟨rfl, rfl⟩)
          all_goals first
            | (go_ret; exact ⟨ret_bool HR.out.symm, hW⟩)
            | (go_round
               case rel => exact ⟨k + 1, by omega, by go_num⟩
               case measure => simp [intOf]; omega)
      · go_wp2_with (go_at_call 51; refine (within_any _ _ _ _).mono ?_; rintro e w' ⟨rfl, rfl⟩)
        go_ret
        exact ⟨ret_bool HR.out.symm, hW⟩

set_option maxHeartbeats 1000000 in
theorem specRhythmOk_any (s : Int) (A : Option Addr) (c : Nat) (xs : List Int) (w : World) (_hs : -9223372036854775808 ≤ s ∧ s ≤ 9223372036854775807) (hx : IR w A xs) :
    Calls Try.prog 57 #[.agg #[.int .i64 s, .slice A xs.length c]] w fun e w' => e = .returned (.bool (rhOk s xs)) ∧ Below w.heap.size w w' := by
  have hlx := hx.len
  have hW : Below w.heap.size w (w.alloc (.cells #[.int .i64 s, .slice A xs.length c] 26)) := (Below.refl _ _).alloc (Nat.le_refl _) _
  by_cases h1 : inB s 1 24 = true
  · have b1 := inB_iff.1 h1
    obtain ⟨b1l, b1r⟩ := b1
    go_enter Try.func57, Try.ntmps57
    go_wp2_with (go_at_call 48; refine (l01In_any _ _ _ _).mono ?_; rintro e w' ⟨rfl, rfl⟩)
    go_loop [12] (fun i => ∃ k : Nat, k ≤ xs.length ∧ i = .int .i64 k ∧ FitTo s xs k) (fun i => xs.length - (intOf i).toNat)
    case atStart => exact ⟨0, by omega, rfl, FitTo.zero _ _⟩
    case round =>
      obtain ⟨k, hk, rfl, hf⟩ := hrel
      have HF := Bx.mk hf
      clear hf
      by_cases hlt : k < xs.length
      · have hkl : (k : Int) < xs.length := by omega
        by_cases h0 : k = 0
        · subst h0
          obtain ⟨b, o, x, rfl, hb, c1, H1⟩ := hx.one hlt
          rw [Nat.add_zero] at c1
          by_cases hr : inB x 0 (s - 1) = true
          · have HN := Bx.mk (HF.out.step H1.out (by have := inB_iff.1 hr; omega) (fun j y hj => by omega))
            go_wp2_with (go_at_call 48; refine (l01In_any _ _ _ _).mono ?_; rintro e w' ⟨rfl, rfl⟩)
            go_round
            case rel => exact ⟨0 + 1, by omega, by go_num, HN.out⟩
            case measure => simp [intOf]; omega
          · have HN := Bx.mk (rhOk_mem (s := s) H1.out (fun h => hr (inB_yes (by omega))))
            rw [Bool.not_eq_true] at hr
            go_wp2_with (go_at_call 48; refine (l01In_any _ _ _ _).mono ?_; rintro e w' ⟨rfl, rfl⟩)
            go_ret
            exact ⟨ret_bool HN.out.symm, hW⟩
        · obtain ⟨b, o, x, y, rfl, hb, c1, c2, H1⟩ := hx.two (k := k) (by omega) hlt
          have hk0 : (0 : Int) < k := by omega
          have hkp : 0 < k := by omega
          clear h0
          by_cases hr : inB x 0 (s - 1) = true
          · by_cases hxy : y < x
            · have HN := Bx.mk (step_of hkp H1.out HF.out (by have := inB_iff.1 hr; omega) hxy)
              have hxy2 : ¬ x ≤ y := by omega
              go_wp2_with (go_at_call 48; refine (l01In_any _ _ _ _).mono ?_; rintro e w' ⟨rfl, rfl⟩)
              go_round
              case rel => exact ⟨k + 1, by omega, by go_num, HN.out⟩
              case measure => simp [intOf]; omega
            · have HN := Bx.mk (asc_of (s := s) hkp H1.out hxy)
              have hxy2 : x ≤ y := by omega
              go_wp2_with (go_at_call 48; refine (l01In_any _ _ _ _).mono ?_; rintro e w' ⟨rfl, rfl⟩)
              go_ret
              exact ⟨ret_bool HN.out.symm, hW⟩
          · have HN := Bx.mk (rhOk_mem (s := s) H1.out.1 (fun h => hr (inB_yes (by omega))))
            rw [Bool.not_eq_true] at hr
            go_wp2_with (go_at_call 48; refine (l01In_any _ _ _ _).mono ?_; rintro e w' ⟨rfl, rfl⟩)
            go_ret
            exact ⟨ret_bool HN.out.symm, hW⟩
      · have HN := Bx.mk (HF.out.all (by omega))
        have H2 := Bx.mk h1
        go_wp2
        go_ret
        exact ⟨ret_bool (by rw [HN.out, H2.out]), hW⟩
  · rw [Bool.not_eq_true] at h1
    have HR := Bx.mk (rhOk_size (xs := xs) h1)
    go_enter Try.func57, Try.ntmps57
    go_wp2_with (go_at_call 48; refine (l01In_any _ _ _ _).mono ?_; rintro e w' ⟨rfl, rfl⟩)
    go_ret
    exact ⟨ret_bool HR.out.symm, hW⟩
end Go.Proofs.Ytihbgpcmphemmaa
