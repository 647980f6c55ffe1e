/- Whether two lists of ints are one. -/
import Derived.Test.YtbfaagdcifpcgaaGreatDoorBas
import Derived.Test.YtbfaagdcifpcgaaGreatDoorRot
namespace Go.Proofs.YtbfaagdcifpcgaaGreatDoor
open Go.RowKit
set_option maxRecDepth 20000

set_option maxHeartbeats 400000 in
theorem slEqual_any (A B : Option Addr) (c d : Nat) (xs ys : List Int) (w : World) (hx : IR w A xs) (hy : IR w B ys) :
    Calls Tryz.prog 73 #[.slice A xs.length c, .slice B ys.length d] w fun e w' => e = .returned (.bool (decide (xs = ys))) ∧ ∃ k, w' = w.drewN k := by
  have hlx := hx.len
  have hly := hy.len
  by_cases hl : xs.length = ys.length
  · have HL := Lib.hid hl
    have hlb : (((xs.length : Int) != (ys.length : Int))) = false := by simp [hl]
    have hge : ys.length ≥ xs.length := by omega
    clear hl
    go_enter Tryz.func73, Tryz.ntmps73
    go_wp2
    go_loopw [13] (fun i wr => ∃ k n : Nat, k ≤ xs.length ∧ i = .int .i64 k ∧ wr = w.drewN n ∧ xs.take k = ys.take k) (fun i _ => xs.length - (intOf i).toNat)
    case atStart => exact ⟨0, 0, by omega, rfl, rfl, rfl⟩
    case round =>
      obtain ⟨k, n, hk, rfl, rfl, ht⟩ := hrel
      have HT := Lib.hid ht
      clear ht
      by_cases hlt : k < xs.length
      · obtain ⟨b, o, x, rfl, hb, c1, H1⟩ := hx.one hlt
        obtain ⟨b', o', y, rfl, hb', c2, H2⟩ := hy.one (k := k) (by omega)
        have hkl : (k : Int) < xs.length := by omega
        have hkl' : (k : Int) < ys.length := by omega
        go_wp2
        go_quiet (fail)
        go_wp2
        · have hne : (x != y) = true := by assumption
          go_ret
          exact ⟨ret_bool (ne_of_at H1.out H2.out (by simpa using hne)).symm, ex_drewN _ _ _⟩
        · have hne : (x != y) = false := by assumption
          go_roundw
          case rel => exact ⟨k + 1, _, by omega, by go_num, rfl, take_eq_of HT.out H1.out H2.out (by simpa using hne)⟩
          case measure => simp [intOf]; omega
      · go_wp2
        go_ret
        exact ⟨ret_bool (eq_of_take HT.out HL.out (by omega)).symm, n, rfl⟩
  · have hlb : (((xs.length : Int) != (ys.length : Int))) = true := by simp; omega
    have hne : decide (xs = ys) = false := by simp; rintro rfl; exact hl rfl
    have HN := Lib.hid hne
    clear hne
    go_enter Tryz.func73, Tryz.ntmps73
    go_wp2
    go_ret
    exact ⟨ret_bool HN.out.symm, 0, rfl⟩
def eqRh (s : Int) (xs : List Int) (t : Int) (ys : List Int) : Bool := (s == t) && decide (xs = ys)
set_option maxHeartbeats 400000 in
theorem equals_any (s : Int) (A B : Option Addr) (c d : Nat) (xs ys : List Int) (w : World) (hx : IR w A xs) (hy : IR w B ys) :
    Calls Tryz.prog 62 #[.agg #[.int .i64 s, .slice A xs.length c], .agg #[.int .i64 s, .slice B ys.length d]] w fun e w' => e = .returned (.bool (decide (xs = ys))) ∧ Below w.heap.size w w' := by
  obtain ⟨W0, hW0⟩ : ∃ W0, W0 = (w.alloc (.cells #[.int .i64 s, .slice A xs.length c] 25)).alloc (.cells #[.int .i64 s, .slice B ys.length d] 25) := ⟨_, rfl⟩
  have bw : Below w.heap.size w W0 := by rw [hW0]; exact (below_alloc _ _).alloc (by simp) _
  have HX := Bx.mk (hx.below bw)
  have HY := Bx.mk (hy.below bw)
  clear hx hy
  go_enter Tryz.func62, Tryz.ntmps62
  go_wp2_with fail
  rw [← hW0]
  clear hW0
  refine (slEqual_any _ _ _ _ _ _ _ (by exact HX.out) (by exact HY.out)).mono ?_
  rintro e w1 ⟨rfl, k, rfl⟩
  go_wp2_with fail
  go_ret
  exact ⟨rfl, bw.trans (bdrewN_refl _ _)⟩
end Go.Proofs.YtbfaagdcifpcgaaGreatDoor
