/- Pulses that may still have a beat. -/
import Derived.Test.YtlgiijibekobfaaTls
import Derived.Test.YtlgiijibekobfaaHasB
namespace Go.Proofs.Ytlgiijibekobfaa
open Go.RowKit

def freeP (s : Int) (xs : List Int) (d : Int) (p : Int) : Bool := !memB xs p && !hasR s xs (p + d) && !hasR s xs (p - d)
def freeL (s : Int) (xs : List Int) (d : Int) : List Int := if avoidsI s xs d = true then selTo (freeP s xs d) s.toNat else []
theorem avoidsI_parts {s d : Int} {xs : List Int} (h : avoidsI s xs d = true) : rhOk s xs = true ∧ inB d 1 (s - 1) = true := by
  simp only [avoidsI, Bool.and_eq_true] at h; exact h.1
theorem freeL_len (s : Int) (xs : List Int) (d : Int) : (freeL s xs d).length ≤ 24 := by
  unfold freeL
  split
  · rename_i h; have := (rhOk_iff.1 (avoidsI_parts h).1).1; have := selTo_len (freeP s xs d) s.toNat; omega
  · simp
set_option maxHeartbeats 2000000 in
theorem implFree_any (s : Int) (A : Option Addr) (c : Nat) (xs : List Int) (d : Int) (w : World) (hs : -9223372036854775808 ≤ s ∧ s ≤ 9223372036854775807) (hx : IR w A xs) :
    Calls Try.prog 14 #[.agg #[.int .i64 s, .slice A xs.length c], .int .i64 d] w (GivesInts w (freeL s xs d)) := by
  have hlx := Bx.mk (freeL_len s xs d)
  have HS := Bx.mk hs
  obtain ⟨W0, hW0⟩ : ∃ W0, W0 = w.alloc (.cells #[.int .i64 s, .slice A xs.length c] 30) := ⟨_, rfl⟩
  have hW : Below w.heap.size w W0 := by rw [hW0]; exact below_alloc _ _
  have k0 : W0.cell? ⟨w.heap.size, 0, none⟩ = some (.int .i64 s) := by rw [hW0]; simp [go_sem]
  have k1 : W0.cell? ⟨w.heap.size, 1, none⟩ = some (.slice A xs.length c) := by rw [hW0]; simp [go_sem]
  have hz : w.heap.size + 1 ≤ W0.heap.size := by rw [hW0]; simp
  have HX := Bx.mk (hx.below hW)
  clear hx hs
  cases hav : avoidsI s xs d with
  | false =>
    have HR : Bx (freeL s xs d = []) := ⟨by simp [freeL, hav]⟩
    go_enter Try.func14, Try.ntmps14
    go_wp2_with fail
    rw [← hW0]
    clear hW0
    refine (implAvoids_any _ _ _ _ _ _ HS.out (by exact HX.out)).mono ?_
    rintro e w1 ⟨rfl, hb1⟩
    go_wp2_with fail
    go_ret
    exact GivesInts.of_row (by rw [HR.out]; exact Row.nil _ _) (by have := hlx.out; omega) (hW.trans (hb1.mono hW.size))
  | true =>
    have HR : Bx (freeL s xs d = selTo (freeP s xs d) s.toNat) := ⟨by simp [freeL, hav]⟩
    obtain ⟨hok, hin⟩ := avoidsI_parts hav
    obtain ⟨⟨hs1, hs2⟩, _, _⟩ := rhOk_iff.1 hok
    obtain ⟨hd1, hd2⟩ := inB_iff.1 hin
    have HK := Bx.mk hok
    clear hok hin
    go_enter Try.func14, Try.ntmps14
    go_wp2_with fail
    rw [← hW0]
    clear hW0
    refine (implAvoids_any _ _ _ _ _ _ HS.out (by exact HX.out)).mono ?_
    rintro e w1 ⟨rfl, hb1⟩
    replace k0 := ((bcell hb1).1 _ _ (by omega)).trans k0
    replace k1 := ((bcell hb1).1 _ _ (by omega)).trans k1
    replace hz := Nat.le_trans hz hb1.size
    replace HX := Bx.mk (HX.out.below hb1)
    have HW := Bx.mk (hW.trans (hb1.mono hW.size))
    clear hW hb1
    go_wp2_with fail
    go_loopw [5, 13] (fun v i wr => ∃ k : Nat, (k : Int) ≤ s ∧ i = .int .i64 k ∧ Row wr w1.heap.size v (selTo (freeP s xs d) k) ∧ Below w1.heap.size w1 wr) (fun _ i _ => (s - intOf i).toNat)
    case atStart => exact ⟨0, by omega, rfl, Row.nil _ _, Below.refl _ _⟩
    case round =>
      obtain ⟨k, hk, rfl, hown, hb⟩ := hrel
      have hlen := selTo_len (freeP s xs d) k
      have HO := Bx.mk hown
      have HB := Bx.mk hb
      clear hown hb
      replace k0 := ((bcell HB.out).1 _ _ (by omega)).trans k0
      replace k1 := ((bcell HB.out).1 _ _ (by omega)).trans k1
      have hzz := HB.out.size
      by_cases hlt : (k : Int) < s
      · have h1e : Bx (hasR s xs k = memB xs k) := ⟨hasR_in (by omega)⟩
        cases t0 : memB xs k with
        | true =>
          have HN := Bx.mk (selTo_miss (p := freeP s xs d) (k := k) (by unfold freeP; simp [t0]))
          go_wp2_with fail
          refine ((has_any _ _ _ _ _ _ ⟨hs1, hs2⟩ (by omega) (by exact HX.out.below HB.out)).mono fun e w' h => (⟨h.1.trans (by rw [h1e.out]), h.2⟩ : e = .returned (.bool (memB xs k)) ∧ _)).mono ?_
          rintro e v0 ⟨rfl, hb2⟩
          replace HO := Bx.mk (HO.out.below hb2 (Nat.le_refl _))
          replace HB := Bx.mk (HB.out.trans (hb2.mono HB.out.size))
          replace k0 := ((bcell hb2).1 _ _ (by omega)).trans k0
          replace k1 := ((bcell hb2).1 _ _ (by omega)).trans k1
          replace hzz := Nat.le_trans hzz hb2.size
          clear hb2
          go_wp2_with fail
          go_roundw
          case rel => exact ⟨k + 1, by omega, by go_num, by rw [HN.out]; exact HO.out, HB.out⟩
          case measure => simp [intOf]; omega
        | false =>
          cases t1 : hasR s xs (k + d) with
          | true =>
            have HN := Bx.mk (selTo_miss (p := freeP s xs d) (k := k) (by unfold freeP; simp [t0, t1]))
            go_wp2_with fail
            refine ((has_any _ _ _ _ _ _ ⟨hs1, hs2⟩ (by omega) (by exact HX.out.below HB.out)).mono fun e w' h => (⟨h.1.trans (by rw [h1e.out]), h.2⟩ : e = .returned (.bool (memB xs k)) ∧ _)).mono ?_
            rintro e v0 ⟨rfl, hb2⟩
            replace HO := Bx.mk (HO.out.below hb2 (Nat.le_refl _))
            replace HB := Bx.mk (HB.out.trans (hb2.mono HB.out.size))
            replace k0 := ((bcell hb2).1 _ _ (by omega)).trans k0
            replace k1 := ((bcell hb2).1 _ _ (by omega)).trans k1
            replace hzz := Nat.le_trans hzz hb2.size
            clear hb2
            go_wp2_with fail
            refine (has_any _ _ _ _ _ _ ⟨hs1, hs2⟩ (by omega) (by exact HX.out.below HB.out)).mono ?_
            rintro e v1 ⟨rfl, hb2⟩
            replace HO := Bx.mk (HO.out.below hb2 (Nat.le_refl _))
            replace HB := Bx.mk (HB.out.trans (hb2.mono HB.out.size))
            replace k0 := ((bcell hb2).1 _ _ (by omega)).trans k0
            replace k1 := ((bcell hb2).1 _ _ (by omega)).trans k1
            replace hzz := Nat.le_trans hzz hb2.size
            clear hb2
            go_wp2_with fail
            go_roundw
            case rel => exact ⟨k + 1, by omega, by go_num, by rw [HN.out]; exact HO.out, HB.out⟩
            case measure => simp [intOf]; omega
          | false =>
            cases t2 : hasR s xs (k - d) with
            | true =>
              have HN := Bx.mk (selTo_miss (p := freeP s xs d) (k := k) (by unfold freeP; simp [t0, t1, t2]))
              go_wp2_with fail
              refine ((has_any _ _ _ _ _ _ ⟨hs1, hs2⟩ (by omega) (by exact HX.out.below HB.out)).mono fun e w' h => (⟨h.1.trans (by rw [h1e.out]), h.2⟩ : e = .returned (.bool (memB xs k)) ∧ _)).mono ?_
              rintro e v0 ⟨rfl, hb2⟩
              replace HO := Bx.mk (HO.out.below hb2 (Nat.le_refl _))
              replace HB := Bx.mk (HB.out.trans (hb2.mono HB.out.size))
              replace k0 := ((bcell hb2).1 _ _ (by omega)).trans k0
              replace k1 := ((bcell hb2).1 _ _ (by omega)).trans k1
              replace hzz := Nat.le_trans hzz hb2.size
              clear hb2
              go_wp2_with fail
              refine (has_any _ _ _ _ _ _ ⟨hs1, hs2⟩ (by omega) (by exact HX.out.below HB.out)).mono ?_
              rintro e v1 ⟨rfl, hb2⟩
              replace HO := Bx.mk (HO.out.below hb2 (Nat.le_refl _))
              replace HB := Bx.mk (HB.out.trans (hb2.mono HB.out.size))
              replace k0 := ((bcell hb2).1 _ _ (by omega)).trans k0
              replace k1 := ((bcell hb2).1 _ _ (by omega)).trans k1
              replace hzz := Nat.le_trans hzz hb2.size
              clear hb2
              go_wp2_with fail
              refine (has_any _ _ _ _ _ _ ⟨hs1, hs2⟩ (by omega) (by exact HX.out.below HB.out)).mono ?_
              rintro e v2 ⟨rfl, hb2⟩
              replace HO := Bx.mk (HO.out.below hb2 (Nat.le_refl _))
              replace HB := Bx.mk (HB.out.trans (hb2.mono HB.out.size))
              replace k0 := ((bcell hb2).1 _ _ (by omega)).trans k0
              replace k1 := ((bcell hb2).1 _ _ (by omega)).trans k1
              replace hzz := Nat.le_trans hzz hb2.size
              clear hb2
              go_wp2_with fail
              go_roundw
              case rel => exact ⟨k + 1, by omega, by go_num, by rw [HN.out]; exact HO.out, HB.out⟩
              case measure => simp [intOf]; omega
            | false =>
              have HN := Bx.mk (selTo_hit (p := freeP s xs d) (k := k) (by unfold freeP; simp [t0, t1, t2]))
              go_wp2_with fail
              refine ((has_any _ _ _ _ _ _ ⟨hs1, hs2⟩ (by omega) (by exact HX.out.below HB.out)).mono fun e w' h => (⟨h.1.trans (by rw [h1e.out]), h.2⟩ : e = .returned (.bool (memB xs k)) ∧ _)).mono ?_
              rintro e v0 ⟨rfl, hb2⟩
              replace HO := Bx.mk (HO.out.below hb2 (Nat.le_refl _))
              replace HB := Bx.mk (HB.out.trans (hb2.mono HB.out.size))
              replace k0 := ((bcell hb2).1 _ _ (by omega)).trans k0
              replace k1 := ((bcell hb2).1 _ _ (by omega)).trans k1
              replace hzz := Nat.le_trans hzz hb2.size
              clear hb2
              go_wp2_with fail
              refine (has_any _ _ _ _ _ _ ⟨hs1, hs2⟩ (by omega) (by exact HX.out.below HB.out)).mono ?_
              rintro e v1 ⟨rfl, hb2⟩
              replace HO := Bx.mk (HO.out.below hb2 (Nat.le_refl _))
              replace HB := Bx.mk (HB.out.trans (hb2.mono HB.out.size))
              replace k0 := ((bcell hb2).1 _ _ (by omega)).trans k0
              replace k1 := ((bcell hb2).1 _ _ (by omega)).trans k1
              replace hzz := Nat.le_trans hzz hb2.size
              clear hb2
              go_wp2_with fail
              refine (has_any _ _ _ _ _ _ ⟨hs1, hs2⟩ (by omega) (by exact HX.out.below HB.out)).mono ?_
              rintro e v2 ⟨rfl, hb2⟩
              replace HO := Bx.mk (HO.out.below hb2 (Nat.le_refl _))
              replace HB := Bx.mk (HB.out.trans (hb2.mono HB.out.size))
              replace k0 := ((bcell hb2).1 _ _ (by omega)).trans k0
              replace k1 := ((bcell hb2).1 _ _ (by omega)).trans k1
              replace hzz := Nat.le_trans hzz hb2.size
              clear hb2
              go_wp2_with (at_builtin; go_must (refine wpList_app1 rfl _ _ rfl w1.heap.size _ (selTo (freeP s xs d) k) (k : Int) rfl rfl (by exact HO.out) (by omega) (by exact HB.out.size) ?_); intro v1 w4 hown1 hb1)
              have R := Bx.mk (And.intro hown1 (HB.out.trans hb1))
              clear hown1 hb1
              go_wp2_with fail
              go_roundw
              case rel => exact ⟨k + 1, by omega, by go_num, by rw [HN.out]; exact R.out.1, R.out.2⟩
              case measure => simp [intOf]; omega
      · have hkn : k = s.toNat := by omega
        have HR2 : Bx (freeL s xs d = selTo (freeP s xs d) k) := ⟨by rw [HR.out, hkn]⟩
        clear hkn
        go_wp2_with fail
        go_ret
        exact GivesInts.of_row' (base := w1.heap.size) (by rw [HR2.out]; exact HO.out) (by omega) (by have := hlx.out; omega) (HW.out.trans (HB.out.mono (by omega)))
end Go.Proofs.Ytlgiijibekobfaa
