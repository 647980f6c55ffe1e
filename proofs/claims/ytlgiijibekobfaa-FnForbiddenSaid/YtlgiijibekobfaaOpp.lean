/- Pulses that have a beat and an opposite beat. -/
import Derived.Test.YtlgiijibekobfaaTls
namespace Go.Proofs.Ytlgiijibekobfaa
open Go.RowKit

def oppP (s : Int) (xs : List Int) (p : Int) : Bool := memB xs p && memB xs (p + s / 2)
def oppL (s : Int) (xs : List Int) : List Int := if rhOk s xs = true ∧ s % 2 ≠ 1 then selTo (oppP s xs) (s / 2).toNat else []
theorem oppL_len (s : Int) (xs : List Int) : (oppL s xs).length ≤ 24 := by
  unfold oppL
  split
  · rename_i h; have := (rhOk_iff.1 h.1).1; have := selTo_len (oppP s xs) (s / 2).toNat; omega
  · simp
set_option maxHeartbeats 1000000 in
theorem implOpp_any (s : Int) (A : Option Addr) (c : Nat) (xs : List Int) (w : World) (hs : -9223372036854775808 ≤ s ∧ s ≤ 9223372036854775807) (hx : IR w A xs) :
    Calls Try.prog 21 #[.agg #[.int .i64 s, .slice A xs.length c]] w (GivesInts w (oppL s xs)) := by
  have hlx := Bx.mk (oppL_len s xs)
  have hW := below_alloc w (.cells #[.int .i64 s, .slice A xs.length c] 30)
  have HC := Bx.mk (implRhythmOk_any s A c xs _ hs (hx.below hW))
  have HX := Bx.mk (hx.below hW)
  cases hok : rhOk s xs with
  | false =>
    have HR : Bx (oppL s xs = []) := ⟨by simp [oppL, hok]⟩
    rw [hok] at HC
    clear hx hok
    go_enter Try.func21, Try.ntmps21
    go_wp2_with (go_at_call 61; refine HC.out.mono ?_; rintro e w1 ⟨rfl, hb1⟩)
    go_ret
    exact GivesInts.of_row (by rw [HR.out]; exact Row.nil _ _) (by have := hlx.out; omega) (hW.trans (hb1.mono (by simp)))
  | true =>
    have hsz := (rhOk_iff.1 hok).1
    obtain ⟨hs1, hs2⟩ := hsz
    rw [hok] at HC
    by_cases hod : s % 2 = 1
    · have HR : Bx (oppL s xs = []) := ⟨by simp [oppL, hod]⟩
      clear hx hok
      go_enter Try.func21, Try.ntmps21
      go_wp2_with (go_at_call 61; refine HC.out.mono ?_; rintro e w1 ⟨rfl, hb1⟩; obtain ⟨hcl, hfr⟩ := bcell hb1)
      go_ret
      exact GivesInts.of_row (by rw [HR.out]; exact Row.nil _ _) (by have := hlx.out; omega) (hW.trans (hb1.mono (by simp)))
    · have HR : Bx (oppL s xs = selTo (oppP s xs) (s / 2).toNat) := ⟨by simp [oppL, hok, hod]⟩
      have he : ((s % 2 == 1) : Bool) = false := by simpa using hod
      clear hx hok
      obtain ⟨W0, hW0⟩ : ∃ W0, W0 = w.alloc (.cells #[.int .i64 s, .slice A xs.length c] 30) := ⟨_, rfl⟩
      have k0 : W0.cell? ⟨w.heap.size, 0, none⟩ = some (.int .i64 s) := by rw [hW0]; simp [go_sem]
      have k1 : W0.cell? ⟨w.heap.size, 1, none⟩ = some (.slice A xs.length c) := by rw [hW0]; simp [go_sem]
      have hz : w.heap.size + 1 ≤ W0.heap.size := by rw [hW0]; simp
      rw [← hW0] at HX hW HC
      go_enter Try.func21, Try.ntmps21
      go_wp2_with fail
      rw [← hW0]
      clear hW0
      refine HC.out.mono ?_
      rintro e w1 ⟨rfl, hb1⟩
      replace k0 := ((bcell hb1).1 _ _ (by omega)).trans k0
      replace k1 := ((bcell hb1).1 _ _ (by omega)).trans k1
      replace hz := Nat.le_trans hz hb1.size
      replace HX := Bx.mk (HX.out.below hb1)
      have HW := Bx.mk (hW.trans (hb1.mono hW.size))
      clear hW hb1 HC
      go_wp2_with fail
      go_loopw [3, 17] (fun v i wr => ∃ k : Nat, (k : Int) ≤ s / 2 ∧ i = .int .i64 k ∧ Row wr w1.heap.size v (selTo (oppP s xs) k) ∧ Below w1.heap.size w1 wr) (fun _ i _ => (s / 2 - intOf i).toNat)
      case atStart => exact ⟨0, by omega, rfl, Row.nil _ _, Below.refl _ _⟩
      case round =>
        obtain ⟨k, hk, rfl, hown, hb⟩ := hrel
        have hlen := selTo_len (oppP s xs) k
        have HO := Bx.mk hown
        have HB := Bx.mk hb
        clear hown hb
        by_cases hlt : (k : Int) < s / 2
        · replace k0 := ((bcell HB.out).1 _ _ (by omega)).trans k0
          replace k1 := ((bcell HB.out).1 _ _ (by omega)).trans k1
          have hzz := HB.out.size
          have h1e : Bx (hasR s xs k = memB xs k) := ⟨hasR_in (by omega)⟩
          have h2e : Bx (hasR s xs (k + s / 2) = memB xs (k + s / 2)) := ⟨hasR_in (by omega)⟩
          cases h1 : hasR s xs k with
          | false =>
            have HN := Bx.mk (selTo_miss (p := oppP s xs) (k := k) (by unfold oppP; rw [← h1e.out, h1]; rfl))
            go_wp2_with fail
            refine (has_any _ _ _ _ _ _ ⟨hs1, hs2⟩ (by omega) (by exact HX.out.below HB.out)).mono ?_
            rintro e w2 ⟨rfl, hb2⟩
            replace HO := Bx.mk (HO.out.below hb2 (Nat.le_refl _))
            replace HB := Bx.mk (HB.out.trans (hb2.mono HB.out.size))
            clear hb2
            go_wp2_with fail
            go_roundw
            case rel => exact ⟨k + 1, by omega, by go_num, by rw [HN.out]; exact HO.out, HB.out⟩
            case measure => simp [intOf]; omega
          | true =>
            cases h2 : hasR s xs (k + s / 2) with
            | false =>
              have HN := Bx.mk (selTo_miss (p := oppP s xs) (k := k) (by unfold oppP; rw [← h2e.out, h2, Bool.and_false]))
              go_wp2_with fail
              refine (has_any _ _ _ _ _ _ ⟨hs1, hs2⟩ (by omega) (by exact HX.out.below HB.out)).mono ?_
              rintro e w2 ⟨rfl, hb2⟩
              replace HO := Bx.mk (HO.out.below hb2 (Nat.le_refl _))
              replace HB := Bx.mk (HB.out.trans (hb2.mono HB.out.size))
              replace k0 := ((bcell hb2).1 _ _ (by omega)).trans k0
              replace k1 := ((bcell hb2).1 _ _ (by omega)).trans k1
              clear hb2
              go_wp2_with fail
              refine (has_any _ _ _ _ _ _ ⟨hs1, hs2⟩ (by omega) (by exact HX.out.below HB.out)).mono ?_
              rintro e w3 ⟨rfl, hb2⟩
              replace HO := Bx.mk (HO.out.below hb2 (Nat.le_refl _))
              replace HB := Bx.mk (HB.out.trans (hb2.mono HB.out.size))
              clear hb2
              go_wp2_with fail
              go_roundw
              case rel => exact ⟨k + 1, by omega, by go_num, by rw [HN.out]; exact HO.out, HB.out⟩
              case measure => simp [intOf]; omega
            | true =>
              have HN := Bx.mk (selTo_hit (p := oppP s xs) (k := k) (by unfold oppP; rw [← h1e.out, ← h2e.out, h1, h2]; rfl))
              go_wp2_with fail
              refine (has_any _ _ _ _ _ _ ⟨hs1, hs2⟩ (by omega) (by exact HX.out.below HB.out)).mono ?_
              rintro e w2 ⟨rfl, hb2⟩
              replace HO := Bx.mk (HO.out.below hb2 (Nat.le_refl _))
              replace HB := Bx.mk (HB.out.trans (hb2.mono HB.out.size))
              replace k0 := ((bcell hb2).1 _ _ (by omega)).trans k0
              replace k1 := ((bcell hb2).1 _ _ (by omega)).trans k1
              clear hb2
              go_wp2_with fail
              refine (has_any _ _ _ _ _ _ ⟨hs1, hs2⟩ (by omega) (by exact HX.out.below HB.out)).mono ?_
              rintro e w3 ⟨rfl, hb2⟩
              replace HO := Bx.mk (HO.out.below hb2 (Nat.le_refl _))
              replace HB := Bx.mk (HB.out.trans (hb2.mono HB.out.size))
              clear hb2
              go_wp2_with (at_builtin; go_must (refine wpList_app1 rfl _ _ rfl w1.heap.size _ (selTo (oppP s xs) k) (k : Int) rfl rfl (by exact HO.out) (by omega) (by exact HB.out.size) ?_); intro v1 w4 hown1 hb1)
              have R := Bx.mk (And.intro hown1 (HB.out.trans hb1))
              clear hown1 hb1
              go_wp2_with fail
              go_roundw
              case rel => exact ⟨k + 1, by omega, by go_num, by rw [HN.out]; exact R.out.1, R.out.2⟩
              case measure => simp [intOf]; omega
        · have hkn : k = (s / 2).toNat := by omega
          have HR2 : Bx (oppL s xs = selTo (oppP s xs) k) := ⟨by rw [HR.out, hkn]⟩
          clear hkn
          go_wp2_with fail
          go_ret
          exact GivesInts.of_row' (base := w1.heap.size) (by rw [HR2.out]; exact HO.out) (by omega) (by have := hlx.out; omega) (HW.out.trans (HB.out.mono (by omega)))
end Go.Proofs.Ytlgiijibekobfaa
