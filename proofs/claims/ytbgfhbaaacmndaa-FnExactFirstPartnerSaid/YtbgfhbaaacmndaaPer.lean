/- The period of a rhythm: the program's loop and the reference's. -/
import Derived.Test.YtbgfhbaaacmndaaEqSl
import Derived.Test.YtbgfhbaaacmndaaL02Map
import Derived.Test.YtbgfhbaaacmndaaBas
import Derived.Deep.RegionHeld3
import Derived.Deep.DeepCutAuto
import Derived.Deep.RegionWith
namespace Go.Proofs.Ytbgfhbaaacmndaa
open Go.RowKit

def perGo (p : Nat → Bool) : Nat → Nat → Nat
  | k, 0 => k
  | k, f + 1 => if p k = true then k else perGo p (k + 1) f
def perP (s : Int) (xs : List Int) (k : Nat) : Bool := decide (rotL s xs (k : Int) = xs)
def perL (s : Int) (xs : List Int) : Nat := perGo (perP s xs) 1 (s.toNat - 1)
theorem perGo_le (p : Nat → Bool) (f : Nat) : ∀ k, k ≤ perGo p k f ∧ perGo p k f ≤ k + f := by
  induction f with
  | zero => intro k; simp [perGo]
  | succ f ih => intro k; have := ih (k + 1); simp only [perGo]; split <;> omega
theorem perGo_hit {p : Nat → Bool} {k n : Nat} (h : p k = true) : perGo p k n = k := by
  cases n with
  | zero => rfl
  | succ n => simp [perGo, h]
theorem perGo_miss {p : Nat → Bool} {k n : Nat} (h : p k = false) (hk : k < n) : perGo p k (n - k) = perGo p (k + 1) (n - (k + 1)) := by
  rw [show n - k = (n - (k + 1)) + 1 by omega]
  simp [perGo, h]
theorem rot_mod {s : Int} {xs : List Int} (h : ∀ x ∈ xs, 0 ≤ x ∧ x < s) : modL s (addL s xs) = xs := by
  unfold modL addL
  rw [List.map_map]
  conv => rhs; rw [← List.map_id xs]
  refine List.map_congr_left fun x hx => ?_
  have := h x hx
  simp only [Function.comp, id]
  rw [Int.add_emod_right, Int.emod_eq_of_lt this.1 this.2]
theorem sel_memB {s : Int} {xs : List Int} (hok : rhOk s xs = true) : selTo (memB xs) s.toNat = xs := by
  obtain ⟨h1, h2, h3⟩ := rhOk_iff.1 hok
  refine asc_ext (selTo_asc _ _) h3 fun x => ?_
  rw [selTo_mem]
  constructor
  · rintro ⟨i, _, rfl, hi⟩
    exact memB_iff.1 hi
  · intro hx
    have := h2 x hx
    exact ⟨x.toNat, by omega, by omega, memB_iff.2 (by rw [show ((x.toNat : Nat) : Int) = x by omega]; exact hx)⟩
theorem perP_full {s : Int} {xs : List Int} (hok : rhOk s xs = true) : perP s xs s.toNat = true := by
  obtain ⟨h1, h2, _⟩ := rhOk_iff.1 hok
  unfold perP
  rw [show ((s.toNat : Nat) : Int) = s by omega, rotL_sel h1.1, rot_mod h2, sel_memB hok]
  simp
theorem field_beatsP (s : Int) (A : Option Addr) (n c : Nat) (w : World) : (Instr.field 27 (.agg #[.int .i64 s, .slice A n c]) 1).run Try.prog w = .ok (.slice A n c) w := by kernel_rfl
theorem lit_b {f : FuncId} {args : Array Value} {w : World} {a b : Bool} (hb : a = b) (h : Calls Try.prog f args w fun e w' => e = .returned (.bool a) ∧ Below w.heap.size w w') :
    Calls Try.prog f args w fun e w' => e = .returned (.bool b) ∧ Below w.heap.size w w' := by rw [← hb]; exact h
theorem eq_lit {a b : Bool} {e : Ending} (hb : a = b) (he : e = .returned (.bool a)) : e = .returned (.bool b) := by rw [← hb]; exact he
set_option maxHeartbeats 2000000 in
set_option maxRecDepth 20000 in
theorem implPeriod_any (s : Int) (A : Option Addr) (c : Nat) (xs : List Int) (w : World) (hok : rhOk s xs = true) (hx : IR w A xs) :
    Calls Try.prog 81 #[.agg #[.int .i64 s, .slice A xs.length c]] w fun e w' => e = .returned (.int .i64 (perL s xs : Nat)) ∧ Below w.heap.size w w' := by
  obtain ⟨hs, hb, _⟩ := rhOk_iff.1 hok
  have hll := (rhOk_len hok).1
  have HPF := Bx.mk (perP_full hok)
  have HBD : Bx (∀ x ∈ xs, 0 ≤ x ∧ x < 24) := ⟨fun x hx => by have := hb x hx; omega⟩
  obtain ⟨W0, hW0⟩ : ∃ W0, W0 = w.alloc (.cells #[.int .i64 s, .slice A xs.length c] 27) := ⟨_, rfl⟩
  have bw : Below w.heap.size w W0 := by rw [hW0]; exact below_alloc _ _
  have hz : w.heap.size < W0.heap.size := by rw [hW0]; simp
  have k0 : W0.cell? ⟨w.heap.size, 0, none⟩ = some (.int .i64 s) := by rw [hW0]; simp [go_sem]
  have k1 : W0.cell? ⟨w.heap.size, 1, none⟩ = some (.slice A xs.length c) := by rw [hW0]; simp [go_sem]
  have HX := Bx.mk ((RB.of_ir hx).below bw (Nat.le_refl _))
  have HS := Bx.mk hs
  clear hx hb hok
  obtain ⟨n, hn⟩ := Int.eq_ofNat_of_zero_le (show 0 ≤ s by omega)
  subst hn
  have hn1 : 1 ≤ n := by omega
  have hn24 : n ≤ 24 := by omega
  have HP0 : Bx (perL n xs = perGo (perP n xs) 1 (n - 1)) := ⟨by unfold perL; rw [Int.toNat_natCast]⟩
  rw [Int.toNat_natCast] at HPF
  clear hs
  go_enter Try.func81, Try.ntmps81
  go_wp2_with fail
  rw [← hW0]
  clear hW0
  go_loopw [3] (fun v wr => ∃ k : Nat, 1 ≤ k ∧ k ≤ n ∧ v = .int .i64 k ∧ Bx (perL n xs = perGo (perP n xs) k (n - k)) ∧ Bx (Below W0.heap.size W0 wr)) (fun v _ => n - (intOf v).toNat)
  case atStart => exact ⟨1, by omega, by omega, rfl, HP0, ⟨Below.refl _ _⟩⟩
  case round =>
    obtain ⟨k, hk1, hkn, rfl, HL, HB⟩ := hrel
    have q0 := ((bcell HB.out).1 _ _ hz).trans k0
    have q1 := ((bcell HB.out).1 _ _ hz).trans k1
    obtain ⟨bR, hbR⟩ : ∃ bR, bR = perP n xs k := ⟨_, rfl⟩
    obtain ⟨ys, hys⟩ : ∃ ys, ys = rotL n xs (k : Int) := ⟨_, rfl⟩
    have HRO : Bx (∀ cc W, IR W A xs → Calls Try.prog 40 #[.agg #[.int .i64 n, .slice A xs.length cc], .int .i64 k] W (GivesRh W n ys)) := ⟨fun cc W h => by rw [hys]; exact rotated_any n A cc xs k W HS.out HBD.out (by omega) (by omega) h⟩
    have HEQ : Bx (∀ A2 c2 cc W, IR W A2 ys → IR W A xs → Calls Try.prog 95 #[.agg #[.int .i64 n, .slice A2 ys.length c2], .agg #[.int .i64 n, .slice A xs.length cc]] W fun e w' => e = .returned (.bool bR) ∧ Below W.heap.size W w') := ⟨fun A2 c2 cc W h1 h2 => by rw [hbR]; unfold perP; rw [← hys]; exact equals_any n A2 A c2 cc ys xs W h1 h2⟩
    have HBR := Bx.mk hbR
    clear hbR hys
    go_upto_region 2 with (fail)
    go_cut [9] (fun sv wx => sv = .bool (!bR) ∧ Bx (Below W0.heap.size W0 wx))
    case first =>
      have hB0 := HB
      have hBd := bx_drew HB
      go_region_held3 (fun w' => w'.cell? ⟨w.heap.size, 0, none⟩ = some (.int .i64 n) ∧ w'.cell? ⟨w.heap.size, 1, none⟩ = some (.slice A xs.length c) ∧ Bx (Below W0.heap.size W0 w'))
        ((refine (fun (hK : Bx (Below W0.heap.size W0 _)) => ⟨((bcell hK.out).1 _ _ hz).trans k0, ((bcell hK.out).1 _ _ hz).trans k1, hK⟩) ?_; first | assumption | exact bx_drew (by assumption)))
        (first
          | (go_at_call 40; refine (HRO.out _ _ (HX.out.below (Bx.out (by first | assumption | exact bx_drew (by assumption))) (by omega)).ir).mono ?_; rintro e w2 ⟨A2, c2, rfl, io2, b2⟩; have hBw2 : Bx (Below W0.heap.size W0 w2) := bx_to (by first | assumption | exact bx_drew (by assumption)) b2; have HI2 := Bx.mk io2.reads; clear io2)
          | (go_at_call 95; refine (HEQ.out _ _ _ _ HI2.out (HX.out.below (Bx.out (by first | assumption | exact bx_drew (by assumption))) (by omega)).ir).mono ?_; rintro e w3 ⟨rfl, b3⟩; have hBw3 : Bx (Below W0.heap.size W0 w3) := bx_to (by first | assumption | exact bx_drew (by assumption)) b3))
      all_goals (go_wp2_with fail; go_meet)
      all_goals exact ⟨rfl, hBw3⟩
    case rest =>
      obtain ⟨rfl, HBX⟩ := hcut
      cases bR with
      | true =>
        have HR : Bx (perL n xs = k) := ⟨by rw [HL.out, perGo_hit HBR.out.symm]⟩
        have HF := Bx.mk (bw.trans (HBX.out.mono bw.size))
        go_wp2_with fail
        go_ret
        exact ⟨by rw [HR.out] <;> rfl, HF.out⟩
      | false =>
        have hlt : k < n := by
          by_cases e : k = n
          · have := HBR.out; rw [e, HPF.out] at this; cases this
          · omega
        have HN : Bx (perL n xs = perGo (perP n xs) (k + 1) (n - (k + 1))) := ⟨by rw [HL.out, perGo_miss HBR.out.symm hlt]⟩
        go_wp2_with fail
        go_roundw
        case rel => exact ⟨k + 1, by omega, by omega, by go_num, HN, HBX⟩
        case measure => simp [intOf]; omega
set_option maxHeartbeats 2000000 in
set_option maxRecDepth 20000 in
theorem specPeriod_any (s : Int) (A : Option Addr) (c : Nat) (xs : List Int) (w : World) (hok : rhOk s xs = true) (hx : IR w A xs) :
    Calls Try.prog 79 #[.agg #[.int .i64 s, .slice A xs.length c]] w fun e w' => e = .returned (.int .i64 (perL s xs : Nat)) ∧ Below w.heap.size w w' := by
  obtain ⟨hs, hb, _⟩ := rhOk_iff.1 hok
  have hll := (rhOk_len hok).1
  have HPF := Bx.mk (perP_full hok)
  have HBD : Bx (∀ x ∈ xs, 0 ≤ x ∧ x < 24) := ⟨fun x hx => by have := hb x hx; omega⟩
  obtain ⟨W0, hW0⟩ : ∃ W0, W0 = w.alloc (.cells #[.int .i64 s, .slice A xs.length c] 27) := ⟨_, rfl⟩
  have bw : Below w.heap.size w W0 := by rw [hW0]; exact below_alloc _ _
  have hz : w.heap.size < W0.heap.size := by rw [hW0]; simp
  have k0 : W0.cell? ⟨w.heap.size, 0, none⟩ = some (.int .i64 s) := by rw [hW0]; simp [go_sem]
  have k1 : W0.cell? ⟨w.heap.size, 1, none⟩ = some (.slice A xs.length c) := by rw [hW0]; simp [go_sem]
  have HX := Bx.mk ((RB.of_ir hx).below bw (Nat.le_refl _))
  have HS := Bx.mk hs
  clear hx hb hok
  obtain ⟨n, hn⟩ := Int.eq_ofNat_of_zero_le (show 0 ≤ s by omega)
  subst hn
  have hn1 : 1 ≤ n := by omega
  have hn24 : n ≤ 24 := by omega
  have HP0 : Bx (perL n xs = perGo (perP n xs) 1 (n - 1)) := ⟨by unfold perL; rw [Int.toNat_natCast]⟩
  rw [Int.toNat_natCast] at HPF
  clear hs
  have hfd := fun A n0 c w => field_beatsP (n : Int) A n0 c w
  clear HPF
  go_enter Try.func79, Try.ntmps79
  go_wp2_with fail
  rw [← hW0]
  clear hW0
  go_loopw [3] (fun v wr => ∃ k : Nat, 1 ≤ k ∧ k ≤ n ∧ v = .int .i64 k ∧ Bx (perL n xs = perGo (perP n xs) k (n - k)) ∧ Bx (Below W0.heap.size W0 wr)) (fun v _ => n - (intOf v).toNat)
  case atStart => exact ⟨1, by omega, by omega, rfl, HP0, ⟨Below.refl _ _⟩⟩
  case round =>
    obtain ⟨k, hk1, hkn, rfl, HL, HB⟩ := hrel
    have q0 := ((bcell HB.out).1 _ _ hz).trans k0
    have q1 := ((bcell HB.out).1 _ _ hz).trans k1
    by_cases hlt : k < n
    · have hkl : (k : Int) < (n : Int) := by omega
      obtain ⟨bR, hbR⟩ : ∃ bR, bR = perP n xs k := ⟨_, rfl⟩
      obtain ⟨ys, hys⟩ : ∃ ys, ys = rotL n xs (k : Int) := ⟨_, rfl⟩
      have HRO : Bx (∀ cc W, IR W A xs → Calls Try.prog 94 #[.agg #[.int .i64 n, .slice A xs.length cc], .int .i64 1, .int .i64 k] W (GivesRh W n ys)) := ⟨fun cc W h => by rw [hys]; exact l02Map_any n A cc xs k W HS.out HBD.out (by omega) (by omega) h⟩
      have HEQ : Bx (∀ A2 c2 cc W, IR W A2 ys → IR W A xs → Calls Try.prog 93 #[.slice A2 ys.length c2, .slice A xs.length cc] W fun e w' => e = .returned (.bool bR) ∧ ∃ k, w' = W.drewN k) := ⟨fun A2 c2 cc W h1 h2 => by rw [hbR]; unfold perP; rw [← hys]; exact l02Same_any A2 A c2 cc ys xs W h1 h2⟩
      have HBR := Bx.mk hbR
      clear hbR hys
      go_upto_region 4 with (fail)
      go_cut [16] (fun sv wx => sv = .bool bR ∧ Bx (Below W0.heap.size W0 wx))
      case first =>
        have hB0 := HB
        have hBd := bx_drew HB
        go_region_held3 (fun w' => w'.cell? ⟨w.heap.size, 0, none⟩ = some (.int .i64 n) ∧ w'.cell? ⟨w.heap.size, 1, none⟩ = some (.slice A xs.length c) ∧ Bx (Below W0.heap.size W0 w'))
          ((refine (fun (hK : Bx (Below W0.heap.size W0 _)) => ⟨((bcell hK.out).1 _ _ hz).trans k0, ((bcell hK.out).1 _ _ hz).trans k1, hK⟩) ?_; first | assumption | exact bx_drew (by assumption)))
          (first
            | (go_at_call 94; refine (HRO.out _ _ (HX.out.below (Bx.out (by first | assumption | exact bx_drew (by assumption))) (by omega)).ir).mono ?_; rintro e w2 ⟨A2, c2, rfl, io2, b2⟩; have hBw2 : Bx (Below W0.heap.size W0 w2) := bx_to (by first | assumption | exact bx_drew (by assumption)) b2; have HI2 := Bx.mk io2.reads; clear io2)
            | (go_at_call 93; refine (HEQ.out _ _ _ _ HI2.out (HX.out.below (Bx.out (by first | assumption | exact bx_drew (by assumption))) (by omega)).ir).mono ?_; rintro e w3 ⟨rfl, kd, rfl⟩; have hBw3 : Bx (Below W0.heap.size W0 (World.drewN _ kd)) := bx_to (by first | assumption | exact bx_drew (by assumption)) (bdrewN_refl _ _)))
        all_goals (go_wp2_with fail; go_meet)
        all_goals exact ⟨rfl, hBw3⟩
      case rest =>
        obtain ⟨rfl, HBX⟩ := hcut
        cases bR with
        | true =>
          have HR : Bx (perL n xs = k) := ⟨by rw [HL.out, perGo_hit HBR.out.symm]⟩
          have HF := Bx.mk (bw.trans (HBX.out.mono bw.size))
          go_wp2_with fail
          go_ret
          exact ⟨by rw [HR.out] <;> rfl, HF.out⟩
        | false =>
          have HN : Bx (perL n xs = perGo (perP n xs) (k + 1) (n - (k + 1))) := ⟨by rw [HL.out, perGo_miss HBR.out.symm hlt]⟩
          go_wp2_with fail
          go_roundw
          case rel => exact ⟨k + 1, by omega, by omega, by go_num, HN, HBX⟩
          case measure => simp [intOf]; omega
    · have hke : k = n := by omega
      have HR : Bx (perL n xs = n) := ⟨by rw [HL.out, hke, Nat.sub_self]; rfl⟩
      have hkl : ¬ (k : Int) < (n : Int) := by omega
      have HF := Bx.mk (bw.trans (HB.out.mono bw.size))
      clear hke
      go_wp2_with fail
      go_ret
      exact ⟨by rw [HR.out] <;> rfl, HF.out⟩
end Go.Proofs.Ytbgfhbaaacmndaa
