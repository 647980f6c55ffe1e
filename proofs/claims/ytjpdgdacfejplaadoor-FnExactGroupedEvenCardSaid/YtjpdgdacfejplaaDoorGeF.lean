/- The reference's text of a rhythm. -/
import Derived.Test.YtjpdgdacfejplaaDoorGePl
import Derived.Test.YtjpdgdacfejplaaDoorBas
import Derived.Laws.Concat
import Derived.Deep.DeepCutAuto
namespace Go.Proofs.YtjpdgdacfejplaaDoor
open Go.RowKit
set_option maxRecDepth 20000

theorem bs_add (l m : List UInt8) : (⟨l.toArray⟩ : ByteArray) ++ ⟨m.toArray⟩ = ⟨(l ++ m).toArray⟩ := by
  apply ByteArray.ext
  rw [ByteArray.data_append]
  simp
set_option maxHeartbeats 4000000 in
theorem specFmt_any (n : Nat) (A : Option Addr) (c : Nat) (xs : List Int) (w : World) (hok : rhOk n xs = true) (hx : IR w A xs) :
    Calls Tryd.prog 18 #[.agg #[.int .i64 n, .slice A xs.length c]] w fun e w' => e = .returned (.string ⟨(fmL xs n).toArray⟩) ∧ Below w.heap.size w w' := by
  obtain ⟨hn, hb, _⟩ := rhOk_iff.1 hok
  have hll := (rhOk_len hok).1
  obtain ⟨W0, hW0⟩ : ∃ W0, W0 = w.alloc (.cells #[.int .i64 n, .slice A xs.length c] 24) := ⟨_, rfl⟩
  have bw : Below w.heap.size w W0 := by rw [hW0]; exact below_alloc _ _
  have k0 : W0.cell? ⟨w.heap.size, 0, none⟩ = some (.int .i64 n) := by rw [hW0]; simp [go_sem]
  have k1 : W0.cell? ⟨w.heap.size, 1, none⟩ = some (.slice A xs.length c) := by rw [hW0]; simp [go_sem]
  have hz : w.heap.size < W0.heap.size := by rw [hW0]; simp
  have HX := Bx.mk ((RB.of_ir hx).below bw (Nat.le_refl _))
  have HS : Bx (-9223372036854775808 ≤ (n : Int) ∧ (n : Int) ≤ 9223372036854775807) := ⟨by omega⟩
  clear hx hb
  go_enter Tryd.func18, Tryd.ntmps18
  go_wp2_with fail
  rw [← hW0]
  clear hW0
  have hr := specRhythmOk_any n A c xs W0 HS.out HX.out.ir
  rw [hok] at hr
  refine hr.mono ?_
  clear hr hok
  rintro e w1 ⟨rfl, b⟩
  replace k0 := ((bcell b).1 _ _ hz).trans k0
  replace k1 := ((bcell b).1 _ _ hz).trans k1
  replace HX := Bx.mk (HX.out.below b (by omega))
  have hz1 := Nat.lt_of_lt_of_le hz b.size
  replace bw := bw.trans (b.mono bw.size)
  clear b hz
  go_wp2_with fail
  go_loopw [3, 4] (fun sv iv wr => ∃ i : Nat, i ≤ n ∧ iv = .int .i64 i ∧ sv = .string ⟨(fmL xs i).toArray⟩ ∧ wr = w1) (fun _ iv _ => n - (intOf iv).toNat)
  case atStart => exact ⟨0, by omega, rfl, rfl, rfl⟩
  case round =>
    obtain ⟨i, hi, rfl, rfl, rfl⟩ := hrel
    obtain ⟨T, hT⟩ : ∃ T : ByteArray, T = ⟨(fmL xs i).toArray⟩ := ⟨_, rfl⟩
    have hTs : T.size ≤ 24 := by rw [hT]; show ((fmL xs i).toArray).size ≤ 24; unfold fmL; simp; omega
    rw [← hT]
    by_cases hlt : i < n
    · have hli : (i : Int) < (n : Int) := by omega
      cases hm : memB xs (i : Int) with
      | true =>
        have HT2 : Bx (T ++ ⟨#[120]⟩ = ⟨(fmL xs (i + 1)).toArray⟩) := ⟨by rw [hT, fmL_succ, if_pos hm]; exact bs_add _ [120]⟩
        clear hT
        go_wp2_with fail
        refine (l02Has_any _ _ _ _ _ (by exact HX.out.ir)).mono ?_
        rw [hm]
        rintro e w2 ⟨rfl, rfl⟩
        go_wp2_with fail
        go_roundw
        case rel => exact ⟨i + 1, by omega, by go_num, by rw [HT2.out], trivial⟩
        case measure => simp [intOf]; omega
      | false =>
        have HT2 : Bx (T ++ ⟨#[46]⟩ = ⟨(fmL xs (i + 1)).toArray⟩) := ⟨by rw [hT, fmL_succ, if_neg (by rw [hm]; decide)]; exact bs_add _ [46]⟩
        clear hT
        go_wp2_with fail
        refine (l02Has_any _ _ _ _ _ (by exact HX.out.ir)).mono ?_
        rw [hm]
        rintro e w2 ⟨rfl, rfl⟩
        go_wp2_with fail
        go_roundw
        case rel => exact ⟨i + 1, by omega, by go_num, by rw [HT2.out], trivial⟩
        case measure => simp [intOf]; omega
    · have hie : i = n := by omega
      have hli : ¬ (i : Int) < (n : Int) := by omega
      have HT := Bx.mk (show T = ⟨(fmL xs n).toArray⟩ by rw [hT, hie])
      clear hT hie
      go_wp2_with fail
      go_ret
      exact ⟨by rw [HT.out]; rfl, bw⟩
end Go.Proofs.YtjpdgdacfejplaaDoor
