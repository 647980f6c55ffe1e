/- Whether all numbers of a list lie in a range: the library's search with the program's closure. -/
import Derived.Test.YtgfdmjhdfddopaaBas
namespace Go.Proofs.Ytgfdmjhdfddopaa
open Go.RowKit
set_option maxRecDepth 20000

def allIn (xs : List Int) (lo hi : Int) : Bool := xs.all fun x => inB x lo hi
theorem allIn_iff {xs : List Int} {lo hi : Int} : allIn xs lo hi = true ↔ ∀ x ∈ xs, lo ≤ x ∧ x ≤ hi := by simp [allIn, inB]
theorem allIn_take_succ {xs : List Int} {lo hi x : Int} {k : Nat} (h : allIn (xs.take k) lo hi = true) (hx : xs[k]? = some x) (hi' : inB x lo hi = true) : allIn (xs.take (k + 1)) lo hi = true := by
  rw [List.take_add_one, hx]
  simp only [allIn, List.all_append, Bool.and_eq_true]
  exact ⟨h, by simpa using hi'⟩
theorem allIn_of_not {xs : List Int} {lo hi x : Int} {k : Nat} (hx : xs[k]? = some x) (hi' : inB x lo hi = false) : allIn xs lo hi = false := by
  rw [Bool.eq_false_iff]
  intro h
  rw [allIn, List.all_eq_true] at h
  have := h x (List.mem_of_getElem? hx)
  rw [hi'] at this; cases this

/-- the closure, called in a world in whose cells the bounds lie -/
theorem allWithin1_any (x lo hi : Int) (g h : Nat) (w : World) (hg : w.cell? ⟨g, 0, none⟩ = some (.int .i64 lo)) (hh : w.cell? ⟨h, 0, none⟩ = some (.int .i64 hi)) :
    Calls Try.prog 82 #[.int .i64 x, .pointer (some ⟨g, 0, none⟩), .pointer (some ⟨h, 0, none⟩)] w fun e w' => e = .returned (.bool (!inB x lo hi)) ∧ w = w' := by
  go_enter Try.func82, Try.ntmps82
  go_wp2_with (go_at_call 38; refine (within_any _ _ _ _).mono ?_; rintro e w' ⟨rfl, rfl⟩)
  go_ret
  exact ⟨rfl, rfl⟩

def FoundNot (xs : List Int) (lo hi : Int) (w : World) (e : Ending) (w' : World) : Prop := ∃ r : Int, e = .returned (.int .i64 r) ∧ (decide (0 ≤ r) = !allIn xs lo hi) ∧ w = w'
set_option maxHeartbeats 400000 in
theorem indexFuncWithin_any (A : Option Addr) (c : Nat) (xs : List Int) (lo hi : Int) (g h : Nat) (w : World) (hx : IR w A xs) (hg : w.cell? ⟨g, 0, none⟩ = some (.int .i64 lo)) (hh : w.cell? ⟨h, 0, none⟩ = some (.int .i64 hi)) :
    Calls Try.prog 65 #[.slice A xs.length c, .func (.func 82) #[] #[.pointer (some ⟨g, 0, none⟩), .pointer (some ⟨h, 0, none⟩)]] w (FoundNot xs lo hi w) := by
  have hlx := hx.len
  go_enter Try.func65, Try.ntmps65
  go_wp2
  go_loop [8] (fun i => ∃ k : Nat, k ≤ xs.length ∧ i = .int .i64 k ∧ allIn (xs.take k) lo hi = true) (fun i => xs.length - (intOf i).toNat)
  case atStart => exact ⟨0, by omega, rfl, rfl⟩
  case round =>
    obtain ⟨k, hk, rfl, ha⟩ := hrel
    have HA := Lib.hid ha
    clear ha
    by_cases hlt : k < xs.length
    · obtain ⟨b, o, x, rfl, hb, c1, H1⟩ := hx.one hlt
      have hkl : (k : Int) < xs.length := by omega
      by_cases hi' : inB x lo hi = true
      · have HI := Lib.hid hi'
        go_wp2_with (go_at_call 82; refine (allWithin1_any _ _ _ _ _ _ hg hh).mono ?_; rintro e w' ⟨rfl, rfl⟩)
        go_round
        case rel => exact ⟨k + 1, by omega, by go_num, allIn_take_succ HA.out H1.out HI.out⟩
        case measure => simp [intOf]; omega
      · rw [Bool.not_eq_true] at hi'
        have HI := Lib.hid hi'
        go_wp2_with (go_at_call 82; refine (allWithin1_any _ _ _ _ _ _ hg hh).mono ?_; rintro e w' ⟨rfl, rfl⟩)
        go_ret
        exact ⟨_, rfl, by rw [allIn_of_not H1.out HI.out]; simp, rfl⟩
    · go_wp2
      go_ret
      exact ⟨_, rfl, by have := HA.out; rw [List.take_of_length_le (by omega)] at this; rw [this]; rfl, rfl⟩

set_option maxHeartbeats 400000 in
theorem allWithin_any (A : Option Addr) (c : Nat) (xs : List Int) (lo hi : Int) (w : World) (hx : IR w A xs) :
    Calls Try.prog 70 #[.slice A xs.length c, .int .i64 lo, .int .i64 hi] w fun e w' => e = .returned (.bool (allIn xs lo hi)) ∧ Below w.heap.size w w' := by
  have hw : Below w.heap.size w ((w.alloc (.cells #[.int .i64 lo] 3)).alloc (.cells #[.int .i64 hi] 3)) := ((Below.refl _ _).alloc (Nat.le_refl _) _).alloc (by simp) _
  have hx2 := hx.below hw
  have HW := Lib.hid hw
  clear hw
  go_enter Try.func70, Try.ntmps70
  go_wp2_with (first | (go_at_call 65; refine (indexFuncWithin_any _ _ _ lo hi _ _ _ (by exact hx2) (by simp [go_sem]) (by simp [go_sem])).mono ?_; rintro e w' ⟨r, rfl, hr, rfl⟩) | go_in)
  go_ret
  exact ⟨ret_bool (by simp), HW.out⟩
end Go.Proofs.Ytgfdmjhdfddopaa
