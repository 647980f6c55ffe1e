/- Whether a rhythm has two sizes for each number of steps, and whether it is even. -/
import Derived.Test.YtpejnhcmelkmeaaSpans
namespace Go.Proofs.Ytpejnhcmelkmeaa
open Go.RowKit

def allTo (p : Nat → Bool) (k : Nat) : Bool := (List.range k).all p
theorem allTo_succ (p : Nat → Bool) (k : Nat) : allTo p (k + 1) = (allTo p k && p k) := by
  unfold allTo; rw [List.range_succ, List.all_append]; simp
theorem allTo_miss {p : Nat → Bool} {k n : Nat} (hk : k < n) (h : p k = false) : allTo p n = false := by
  unfold allTo; rw [List.all_eq_false]; exact ⟨k, List.mem_range.2 hk, by simp [h]⟩
def twoP (s : Int) (xs : List Int) (k : Nat) : Bool := decide (k = 0) || decide ((spanSz s xs k).length = 2)
def twoB (s : Int) (xs : List Int) : Bool := rhOk s xs && (decide (2 ≤ xs.length) && allTo (twoP s xs) xs.length)
def wideL (L : List Int) : Bool := decide (L[L.length - 1]?.getD 0 - L[0]?.getD 0 > 1)
def evnP (s : Int) (xs : List Int) (k : Nat) : Bool := decide (k = 0) || !wideL (spanSz s xs k)
def evnB (s : Int) (xs : List Int) : Bool := rhOk s xs && allTo (evnP s xs) xs.length
set_option maxHeartbeats 2000000 in
theorem implTwo_any (s : Int) (A : Option Addr) (c : Nat) (xs : List Int) (w : World) (hs : -9223372036854775808 ≤ s ∧ s ≤ 9223372036854775807) (hx : IR w A xs) :
    Calls Try.prog 21 #[.agg #[.int .i64 s, .slice A xs.length c]] w fun e w' => e = .returned (.bool (twoB s xs)) ∧ Below w.heap.size w w' := by
  obtain ⟨W0, hW0⟩ : ∃ W0, W0 = w.alloc (.cells #[.int .i64 s, .slice A xs.length c] 26) := ⟨_, rfl⟩
  have bw : Below w.heap.size w W0 := by rw [hW0]; exact below_alloc _ _
  have hz : w.heap.size < W0.heap.size := by rw [hW0]; simp
  have k0 : W0.cell? ⟨w.heap.size, 0, none⟩ = some (.int .i64 s) := by rw [hW0]; simp [go_sem]
  have k1 : W0.cell? ⟨w.heap.size, 1, none⟩ = some (.slice A xs.length c) := by rw [hW0]; simp [go_sem]
  have HX := Bx.mk ((RB.of_ir hx).below bw (Nat.le_refl _))
  have HS := Bx.mk hs
  clear hx hs
  cases h1 : rhOk s xs with
  | false =>
    have HR : Bx (twoB s xs = false) := ⟨by simp [twoB, h1]⟩
    go_enter Try.func21, Try.ntmps21
    go_wp2_with fail
    rw [← hW0]
    clear hW0
    refine (lit_c h1 (implRhythmOk_any _ _ _ _ _ HS.out (by exact HX.out.ir))).mono ?_
    rintro e w1 ⟨rfl, b⟩
    have bw2 := bw.trans (b.mono bw.size)
    clear b
    go_wp2_with fail
    go_ret
    exact ⟨ret_bool HR.out.symm, bw2⟩
  | true =>
    by_cases h2 : 2 ≤ xs.length
    · have hll := (rhOk_len h1).1
      have HR : Bx (twoB s xs = allTo (twoP s xs) xs.length) := ⟨by simp [twoB, h1, h2]⟩
      have h2i : ¬ (xs.length : Int) < 2 := by omega
      go_enter Try.func21, Try.ntmps21
      go_wp2_with fail
      rw [← hW0]
      clear hW0
      refine (lit_c h1 (implRhythmOk_any _ _ _ _ _ HS.out (by exact HX.out.ir))).mono ?_
      clear h1
      rintro e w1 ⟨rfl, b⟩
      replace k0 := ((bcell b).1 _ _ (by omega)).trans k0
      replace k1 := ((bcell b).1 _ _ (by omega)).trans k1
      replace HX := Bx.mk (HX.out.below b (by omega))
      replace hz := Nat.lt_of_lt_of_le hz b.size
      replace bw := bw.trans (b.mono bw.size)
      clear b
      go_wp2_with fail
      clear h2i
      go_loopw [3] (fun v wr => ∃ k : Nat, 1 ≤ k ∧ k ≤ xs.length ∧ v = .int .i64 k ∧ Bx (allTo (twoP s xs) k = true) ∧ Below w1.heap.size w1 wr) (fun v _ => xs.length - (intOf v).toNat)
      case atStart => exact ⟨1, by omega, by omega, rfl, ⟨rfl⟩, Below.refl _ _⟩
      case round =>
        obtain ⟨k, hk1, hk, rfl, HA, hbb⟩ := hrel
        have hzr := hbb.size
        have q0 := ((bcell hbb).1 _ _ (by omega)).trans k0
        have q1 := ((bcell hbb).1 _ _ (by omega)).trans k1
        have HXr := Bx.mk (HX.out.below hbb (by omega)).ir
        have HB := Bx.mk hbb
        clear hbb
        by_cases hlt : k < xs.length
        · have hki : (k : Int) < (xs.length : Int) := by omega
          obtain ⟨L, hL⟩ : ∃ L, L = spanSz s xs k := ⟨_, rfl⟩
          have hLl : L.length ≤ 24 := by rw [hL]; exact spanSz_len _ _ _
          have HSP : Bx (∀ c W, IR W A xs → Calls Try.prog 37 #[.agg #[.int .i64 s, .slice A xs.length c], .int .i64 k] W (GivesInts W L)) := ⟨fun c W h => by rw [hL]; exact implSpanSizes_any s A c xs k W HS.out h⟩
          have HP : Bx (twoP s xs k = decide (L.length = 2)) := ⟨by
            unfold twoP
            rw [show decide (k = 0) = false from decide_eq_false (by omega), hL]; rfl⟩
          clear hL
          go_wp2_with fail
          refine (HSP.out _ _ HXr.out).mono ?_
          rintro e w2 ⟨A2, c2, rfl, io, b⟩
          have HB2 := Bx.mk (HB.out.trans (b.mono hzr))
          clear io b
          by_cases he : L.length = 2
          · have HN : Bx (allTo (twoP s xs) (k + 1) = true) := ⟨by rw [allTo_succ, HA.out, HP.out, he]; rfl⟩
            have hne : (((L.length : Int) != 2)) = false := by simp; omega
            clear he
            go_wp2_with fail
            go_roundw
            case rel => exact ⟨k + 1, by omega, by omega, by go_num, HN, HB2.out⟩
            case measure => simp [intOf]; omega
          · have HN : Bx (twoB s xs = false) := ⟨by rw [HR.out]; exact allTo_miss hlt (by rw [HP.out]; exact decide_eq_false he)⟩
            have hne : (((L.length : Int) != 2)) = true := by simp; omega
            have HF := Bx.mk (bw.trans (HB2.out.mono bw.size))
            clear he
            go_wp2_with fail
            go_ret
            exact ⟨ret_bool HN.out.symm, HF.out⟩
        · have hke : k = xs.length := by omega
          have HN : Bx (twoB s xs = true) := ⟨by rw [HR.out, ← hke]; exact HA.out⟩
          have HF := Bx.mk (bw.trans (HB.out.mono bw.size))
          have hki : ¬ (k : Int) < (xs.length : Int) := by omega
          clear hke
          go_wp2_with fail
          go_ret
          exact ⟨ret_bool HN.out.symm, HF.out⟩
    · have HR : Bx (twoB s xs = false) := ⟨by simp [twoB, h2]⟩
      have h2i : (xs.length : Int) < 2 := by omega
      go_enter Try.func21, Try.ntmps21
      go_wp2_with fail
      rw [← hW0]
      clear hW0
      refine (lit_c h1 (implRhythmOk_any _ _ _ _ _ HS.out (by exact HX.out.ir))).mono ?_
      clear h1
      rintro e w1 ⟨rfl, b⟩
      replace k0 := ((bcell b).1 _ _ (by omega)).trans k0
      replace k1 := ((bcell b).1 _ _ (by omega)).trans k1
      replace HX := Bx.mk (HX.out.below b (by omega))
      replace hz := Nat.lt_of_lt_of_le hz b.size
      replace bw := bw.trans (b.mono bw.size)
      clear b
      go_wp2_with fail
      go_ret
      exact ⟨ret_bool HR.out.symm, bw⟩
end Go.Proofs.Ytpejnhcmelkmeaa
