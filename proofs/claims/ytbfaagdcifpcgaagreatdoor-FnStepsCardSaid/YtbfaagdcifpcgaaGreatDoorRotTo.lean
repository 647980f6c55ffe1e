/- The least rotation that leads to a rhythm, or none: both sides. -/
import Derived.Test.YtbfaagdcifpcgaaGreatDoorPer
import Derived.Deep.RegionHeld3
import Derived.Deep.DeepCutAuto
import Derived.Deep.RegionWith
namespace Go.Proofs.YtbfaagdcifpcgaaGreatDoor
open Go.RowKit
set_option maxRecDepth 20000

def anyTo (p : Nat → Bool) (k : Nat) : Bool := (List.range k).any p
theorem anyTo_succ (p : Nat → Bool) (k : Nat) : anyTo p (k + 1) = (anyTo p k || p k) := by
  unfold anyTo; rw [List.range_succ, List.any_append]; simp
theorem anyTo_hit {p : Nat → Bool} {k n : Nat} (hk : k < n) (h : p k = true) : anyTo p n = true := by
  unfold anyTo; rw [List.any_eq_true]; exact ⟨k, List.mem_range.2 hk, h⟩
def rotP (s : Int) (ys xs : List Int) (k : Nat) : Bool := decide (rotL s ys (k : Int) = xs)
def rotB (s : Int) (ys xs : List Int) : Bool := anyTo (rotP s ys xs) s.toNat
/-- what a search for a rotation answers -/
def GivesRot (w : World) (b : Bool) (e : Ending) (w' : World) : Prop := ∃ r : Int, e = .returned (.int .i64 r) ∧ Bx ((b = true → 0 ≤ r) ∧ (b = false → r = -1)) ∧ Below w.heap.size w w'
theorem GivesRot.hit {w w' : World} {s : Int} {ys xs : List Int} {k n : Nat} (hn : s.toNat = n) (hk : k < n) (h : rotP s ys xs k = true) (b : Below w.heap.size w w') : GivesRot w (rotB s ys xs) (.returned (.int .i64 k)) w' :=
  ⟨k, rfl, Bx.mk (And.intro (fun _ => by omega) (fun h' => by have := anyTo_hit (n := s.toNat) (by omega) h; unfold rotB at h'; rw [this] at h'; cases h')), b⟩
theorem GivesRot.miss {w w' : World} {s : Int} {ys xs : List Int} (h : rotB s ys xs = false) (b : Below w.heap.size w w') : GivesRot w (rotB s ys xs) (.returned (.int .i64 (-1))) w' :=
  ⟨-1, rfl, Bx.mk (And.intro (fun h' => by rw [h] at h'; cases h') (fun _ => rfl)), b⟩
set_option maxHeartbeats 2000000 in
set_option maxRecDepth 20000 in
theorem implRotTo_any (s : Int) (A B : Option Addr) (c d : Nat) (ys xs : List Int) (w : World) (hs : 1 ≤ s ∧ s ≤ 24) (hb : ∀ x ∈ ys, 0 ≤ x ∧ x < 24) (hyl : ys.length ≤ 1000) (hy : IR w A ys) (hx : IR w B xs) :
    Calls Tryz.prog 48 #[.agg #[.int .i64 s, .slice A ys.length c], .agg #[.int .i64 s, .slice B xs.length d]] w (GivesRot w (rotB s ys xs)) := by
  have HBD := Bx.mk hb
  clear hb
  obtain ⟨W0, hW0⟩ : ∃ W0, W0 = (w.alloc (.cells #[.int .i64 s, .slice A ys.length c] 25)).alloc (.cells #[.int .i64 s, .slice B xs.length d] 25) := ⟨_, rfl⟩
  have bw : Below w.heap.size w W0 := by rw [hW0]; exact (below_alloc _ _).alloc (by simp) _
  have hz : w.heap.size + 2 ≤ W0.heap.size := by rw [hW0]; simp
  have k0 : W0.cell? ⟨w.heap.size, 0, none⟩ = some (.int .i64 s) := by rw [hW0]; simp [go_sem]
  have k1 : W0.cell? ⟨w.heap.size, 1, none⟩ = some (.slice A ys.length c) := by rw [hW0]; simp [go_sem]
  have k2 : W0.cell? ⟨w.heap.size + 1, 0, none⟩ = some (.int .i64 s) := by rw [hW0]; simp [go_sem]
  have k3 : W0.cell? ⟨w.heap.size + 1, 1, none⟩ = some (.slice B xs.length d) := by rw [hW0]; simp [go_sem]
  have HY := Bx.mk ((RB.of_ir hy).below bw (Nat.le_refl _))
  have HX := Bx.mk ((RB.of_ir hx).below bw (Nat.le_refl _))
  have hg1 : w.heap.size + 1 < W0.heap.size := by omega
  clear hx hy
  obtain ⟨hs1, hs2⟩ := hs
  obtain ⟨n, hn⟩ := Int.eq_ofNat_of_zero_le (show 0 ≤ s by omega)
  subst hn
  have hn1 : 1 ≤ n := by omega
  have hn24 : n ≤ 24 := by omega
  have hs12 : 1 ≤ (n : Int) ∧ (n : Int) ≤ 24 := ⟨hs1, hs2⟩
  have HT : Bx (Int.toNat (n : Int) = n) := ⟨Int.toNat_natCast n⟩
  clear hz hs1 hs2
  go_enter Tryz.func48, Tryz.ntmps48
  go_wp2_with fail
  rw [← hW0]
  clear hW0
  go_loopw [8] (fun v wr => ∃ k : Nat, k ≤ n ∧ v = .int .i64 k ∧ Bx (anyTo (rotP n ys xs) k = false) ∧ Bx (Below W0.heap.size W0 wr)) (fun v _ => n - (intOf v).toNat)
  case atStart => exact ⟨0, by omega, rfl, ⟨rfl⟩, ⟨Below.refl _ _⟩⟩
  case round =>
    obtain ⟨k, hkn, rfl, HL, HB⟩ := hrel
    have q0 := ((bcell HB.out).1 _ _ (by omega)).trans k0
    have q1 := ((bcell HB.out).1 _ _ (by omega)).trans k1
    have q2 := ((bcell HB.out).1 _ _ (by omega)).trans k2
    have q3 := ((bcell HB.out).1 _ _ (by omega)).trans k3
    by_cases hlt : k < n
    · have hkl : (k : Int) < (n : Int) := by omega
      obtain ⟨bR, hbR⟩ : ∃ bR, bR = rotP n ys xs k := ⟨_, rfl⟩
      obtain ⟨zs, hzs⟩ : ∃ zs, zs = rotL n ys (k : Int) := ⟨_, rfl⟩
      have HRO : Bx (∀ cc W, IR W A ys → Calls Tryz.prog 61 #[.agg #[.int .i64 n, .slice A ys.length cc], .int .i64 k] W (GivesRh W n zs)) := ⟨fun cc W h => by rw [hzs]; exact rotated_any n A cc ys k W hs12 HBD.out hyl (by omega) h⟩
      have HEQ : Bx (∀ A2 c2 cc W, IR W A2 zs → IR W B xs → Calls Tryz.prog 62 #[.agg #[.int .i64 n, .slice A2 zs.length c2], .agg #[.int .i64 n, .slice B xs.length cc]] W fun e w' => e = .returned (.bool bR) ∧ Below W.heap.size W w') := ⟨fun A2 c2 cc W h1 h2 => by rw [hbR]; unfold rotP; rw [← hzs]; exact equals_any n A2 B c2 cc zs xs W h1 h2⟩
      have HBR := Bx.mk hbR
      clear hbR hzs
      go_upto_region 4 with (fail)
      go_cut [15] (fun sv wx => sv = .bool bR ∧ Bx (Below W0.heap.size W0 wx))
      case first =>
        have hB0 := HB
        have hBd := bx_drew HB
        go_region_held3 (fun w' => w'.cell? ⟨w.heap.size, 0, none⟩ = some (.int .i64 n) ∧ w'.cell? ⟨w.heap.size, 1, none⟩ = some (.slice A ys.length c) ∧ w'.cell? ⟨w.heap.size + 1, 0, none⟩ = some (.int .i64 n) ∧ w'.cell? ⟨w.heap.size + 1, 1, none⟩ = some (.slice B xs.length d) ∧ Bx (Below W0.heap.size W0 w'))
          ((refine (fun (hK : Bx (Below W0.heap.size W0 _)) => ⟨((bcell hK.out).1 _ _ (by omega)).trans k0, ((bcell hK.out).1 _ _ (by omega)).trans k1, ((bcell hK.out).1 _ _ (by omega)).trans k2, ((bcell hK.out).1 _ _ (by omega)).trans k3, hK⟩) ?_; first | assumption | exact bx_drew (by assumption)))
          (first
            | (go_at_call 61; refine (HRO.out _ _ (HY.out.below (Bx.out (by first | assumption | exact bx_drew (by assumption))) (by omega)).ir).mono ?_; rintro e w2 ⟨A2, c2, rfl, io2, b2⟩; have hBw2 : Bx (Below W0.heap.size W0 w2) := bx_to (by first | assumption | exact bx_drew (by assumption)) b2; have HI2 := Bx.mk io2.reads; clear io2)
            | (go_at_call 62; refine (HEQ.out _ _ _ _ HI2.out (HX.out.below (Bx.out (by first | assumption | exact bx_drew (by assumption))) (by omega)).ir).mono ?_; rintro e w3 ⟨rfl, b3⟩; have hBw3 : Bx (Below W0.heap.size W0 w3) := bx_to (by first | assumption | exact bx_drew (by assumption)) b3))
        all_goals (go_wp2_with fail; go_meet)
        all_goals exact ⟨rfl, hBw3⟩
      case rest =>
        obtain ⟨rfl, HBX⟩ := hcut
        cases bR with
        | true =>
          have HF := Bx.mk (bw.trans (HBX.out.mono bw.size))
          go_wp2_with fail
          go_ret
          exact GivesRot.hit HT.out hlt HBR.out.symm HF.out
        | false =>
          have HN : Bx (anyTo (rotP n ys xs) (k + 1) = false) := ⟨by rw [anyTo_succ, HL.out, ← HBR.out]; rfl⟩
          go_wp2_with fail
          go_roundw
          case rel => exact ⟨k + 1, by omega, by go_num, HN, HBX⟩
          case measure => simp [intOf]; omega
    · have hke : k = n := by omega
      have HR : Bx (rotB n ys xs = false) := ⟨by unfold rotB; rw [HT.out]; have := HL.out; rw [hke] at this; exact this⟩
      have hkl : ¬ (k : Int) < (n : Int) := by omega
      have HF := Bx.mk (bw.trans (HB.out.mono bw.size))
      clear hke
      go_wp2_with fail
      go_ret
      exact GivesRot.miss HR.out HF.out
end Go.Proofs.YtbfaagdcifpcgaaGreatDoor
