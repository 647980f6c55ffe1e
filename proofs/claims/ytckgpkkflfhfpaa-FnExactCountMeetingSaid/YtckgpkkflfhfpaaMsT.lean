/- The second condition of the reference; both conditions. -/
import Derived.Test.YtckgpkkflfhfpaaMsS
import Derived.Deep.RegionHeld3
import Derived.Deep.DeepCutAuto
import Derived.Deep.RegionWith
namespace Go.Proofs.Ytckgpkkflfhfpaa
open Go.RowKit

theorem ms_form {s : Int} {xs : List Int} (hok : rhOk s xs = true) : msI s xs = (hM (ordI s xs) 1 && lLoop (hM (ordI s xs)) (ppI s xs) [] 1) := by
  unfold msI
  rw [hok, aP_lLoop _ _ [] 1 (ppI_pp hok) inv_one]; rfl
def mbI (s : Int) (xs : List Int) : Bool := mfI s xs && msI s xs
theorem lit_is {f : FuncId} {args : Array Value} {w : World} {a b : Bool} (hb : a = b) (h : Calls Try.prog f args w fun e w' => e = .returned (.bool a) ∧ Below w.heap.size w w') :
    Calls Try.prog f args w fun e w' => e = .returned (.bool b) ∧ Below w.heap.size w w' := by rw [← hb]; exact h
set_option maxHeartbeats 2000000 in
set_option maxRecDepth 20000 in
theorem specMs_any (s : Int) (A : Option Addr) (c : Nat) (xs : List Int) (w : World) (hs : -9223372036854775808 ≤ s ∧ s ≤ 9223372036854775807) (hx : IR w A xs) :
    Calls Try.prog 8 #[.agg #[.int .i64 s, .slice A xs.length c]] w fun e w' => e = .returned (.bool (msI s xs)) ∧ Below w.heap.size w w' := by
  obtain ⟨W0, hW0⟩ : ∃ W0, W0 = w.alloc (.cells #[.int .i64 s, .slice A xs.length c] 27) := ⟨_, rfl⟩
  have bw : Below w.heap.size w W0 := by rw [hW0]; exact below_alloc _ _
  have hz : w.heap.size < W0.heap.size := by rw [hW0]; simp
  have k0 : W0.cell? ⟨w.heap.size, 0, none⟩ = some (.int .i64 s) := by rw [hW0]; simp [go_sem]
  have k1 : W0.cell? ⟨w.heap.size, 1, none⟩ = some (.slice A xs.length c) := by rw [hW0]; simp [go_sem]
  have HX := Bx.mk ((RB.of_ir hx).below bw (Nat.le_refl _))
  have HS := Bx.mk hs
  clear hx hs
  have hB0 : Bx (Below W0.heap.size W0 W0) := ⟨Below.refl _ _⟩
  have hBd : Bx (Below W0.heap.size W0 W0.drew) := ⟨(Below.refl _ _).drew⟩
  have k0d : W0.drew.cell? _ = _ := k0
  have k1d : W0.drew.cell? _ = _ := k1
  cases h1 : rhOk s xs with
  | false =>
    have HR : Bx (msI s xs = false) := ⟨by simp [msI, h1]⟩
    go_enter Try.func8, Try.ntmps8
    go_upto_region 1 with (fail)
    rw [← hW0]
    clear hW0
    go_cut [2] (fun sv wx => sv = .bool false ∧ Bx (Below W0.heap.size W0 wx))
    case first =>
      go_region_with ((go_at_call 19; refine (rhOk_is' h1 (specRhythmOk_any _ _ _ _ _ HS.out (by exact (HX.out.below (Bx.out (by first | assumption | exact bx_alloc (by assumption) _ | exact bx_drew (by assumption))) (by omega)).ir))).mono ?_; rintro e w2 ⟨rfl, b2⟩; have hBw2 : Bx (Below W0.heap.size W0 w2) := bx_to (by first | assumption | exact bx_alloc (by assumption) _ | exact bx_drew (by assumption)) b2))
      all_goals (go_wp2_with fail; go_meet)
      all_goals exact ⟨rfl, hBw2⟩
    case rest =>
      obtain ⟨rfl, HBX⟩ := hcut
      have HBF := Bx.mk (bw.trans (HBX.out.mono bw.size))
      go_wp2_with fail
      go_ret
      exact ⟨ret_bool HR.out.symm, HBF.out⟩
  | true =>
    obtain ⟨OL, hOL⟩ : ∃ OL, OL = ordI s xs := ⟨_, rfl⟩
    obtain ⟨PL, hPL⟩ : ∃ PL, PL = ppI s xs := ⟨_, rfl⟩
    obtain ⟨bR, hbR⟩ : ∃ bR, bR = msI s xs := ⟨_, rfl⟩
    have HIC : Bx (∀ AP cP AO cO g cQ W, IR W AP PL → IR W AO OL →
        Calls Try.prog 20 #[.slice AP PL.length cP, .slice AO OL.length cO, .int .i64 0, .slice (some ⟨g, 0, none⟩) 0 cQ, .int .i64 1] W fun e w' => e = .returned (.bool bR) ∧ Below W.heap.size W w') := ⟨fun AP cP AO cO g cQ W h2 h3 => by
      have := l11_any PL OL (fun x hx => by rw [hPL] at hx; have := ppI_pp h1 x hx; exact ⟨this.1, this.2.1⟩) (by rw [hPL]; have := ppI_len s xs; omega) PL.length PL.length 0 AP AO cP cO g 0 cQ [] 1 W (Nat.le_refl _) (by omega) (by rw [hPL]; exact bnd_len (ppI_8 h1)) (by rw [hPL]; have := ppI_len s xs; simp; omega) h2 h3 (IR.nil _ _)
      rw [List.drop_zero] at this
      rw [hbR, ms_form h1, ← hOL, ← hPL]
      exact this⟩
    have HPP : Bx (∀ cc W, IR W A xs → Calls Try.prog 21 #[.agg #[.int .i64 s, .slice A xs.length cc]] W (GivesInts W PL)) := ⟨fun cc W h => by rw [hPL]; exact specPp_any s A cc xs W HS.out h⟩
    have HOO : Bx (∀ cc W, IR W A xs → Calls Try.prog 22 #[.agg #[.int .i64 s, .slice A xs.length cc]] W (GivesInts W OL)) := ⟨fun cc W h => by rw [hOL]; exact specOrd_any s A cc xs W HS.out h⟩
    have HR := Bx.mk hbR
    clear hbR hPL hOL
    go_enter Try.func8, Try.ntmps8
    go_upto_region 1 with (fail)
    rw [← hW0]
    clear hW0
    go_cut [2] (fun sv wx => sv = .bool bR ∧ Bx (Below W0.heap.size W0 wx))
    case first =>
      go_region_held3 (fun w' => w'.cell? ⟨w.heap.size, 0, none⟩ = some (.int .i64 s) ∧ w'.cell? ⟨w.heap.size, 1, none⟩ = some (.slice A xs.length c) ∧ Bx (Below W0.heap.size W0 w'))
        ((refine (fun (hK : Bx (Below W0.heap.size W0 _)) => ⟨((bcell hK.out).1 _ _ hz).trans k0, ((bcell hK.out).1 _ _ hz).trans k1, hK⟩) ?_; first | assumption | exact bx_alloc (by assumption) _ | exact bx_drew (by assumption)))
        (first
          | (go_at_call 19; refine (rhOk_is' h1 (specRhythmOk_any _ _ _ _ _ HS.out (by exact (HX.out.below (Bx.out (by first | assumption | exact bx_alloc (by assumption) _ | exact bx_drew (by assumption))) (by omega)).ir))).mono ?_; rintro e w2 ⟨rfl, b2⟩; have hBw2 : Bx (Below W0.heap.size W0 w2) := bx_to (by first | assumption | exact bx_alloc (by assumption) _ | exact bx_drew (by assumption)) b2; clear hB0 hBd)
          | (go_at_call 21; refine (HPP.out _ _ (HX.out.below (Bx.out (by first | assumption | exact bx_alloc (by assumption) _ | exact bx_drew (by assumption))) (by omega)).ir).mono ?_; rintro e w3 ⟨A3, c3, rfl, io3, b3⟩; have hBw3 : Bx (Below W0.heap.size W0 w3) := bx_to (by first | assumption | exact bx_alloc (by assumption) _ | exact bx_drew (by assumption)) b3; have HI3 := Bx.mk io3.reads; clear io3; clear hBw2)
          | (go_at_call 22; refine (HOO.out _ _ (HX.out.below (Bx.out (by first | assumption | exact bx_alloc (by assumption) _ | exact bx_drew (by assumption))) (by omega)).ir).mono ?_; rintro e w4 ⟨A4, c4, rfl, io4, b4⟩; have hBw4 : Bx (Below W0.heap.size W0 w4) := bx_to (by first | assumption | exact bx_alloc (by assumption) _ | exact bx_drew (by assumption)) b4; have HI4 := Bx.mk io4.reads; have HI34 : Bx (IR w4 A3 PL) := ⟨by first | exact HI3.out.below b4 | exact (HI3.out.alloc _).below b4⟩; clear io4; clear hBw3)
          | (go_at_call 20; refine (HIC.out _ _ _ _ _ _ _ (by first | exact HI34.out | exact HI34.out.alloc _) (by first | exact HI4.out | exact HI4.out.alloc _)).mono ?_; rintro e w5 ⟨rfl, b5⟩; have hBw5 : Bx (Below W0.heap.size W0 w5) := bx_to (by first | assumption | exact bx_alloc (by assumption) _ | exact bx_drew (by assumption)) b5))
      all_goals (go_wp2_with fail; go_meet)
      all_goals exact ⟨rfl, hBw5⟩
    case rest =>
      obtain ⟨rfl, HBX⟩ := hcut
      have HBF := Bx.mk (bw.trans (HBX.out.mono bw.size))
      go_wp2_with fail
      go_ret
      exact ⟨ret_bool HR.out, HBF.out⟩
set_option maxHeartbeats 2000000 in
set_option maxRecDepth 20000 in
theorem implMb_any (s : Int) (A : Option Addr) (c : Nat) (xs : List Int) (w : World) (hs : -9223372036854775808 ≤ s ∧ s ≤ 9223372036854775807) (hx : IR w A xs) :
    Calls Try.prog 13 #[.agg #[.int .i64 s, .slice A xs.length c]] w fun e w' => e = .returned (.bool (mbI s xs)) ∧ Below w.heap.size w w' := by
  obtain ⟨W0, hW0⟩ : ∃ W0, W0 = w.alloc (.cells #[.int .i64 s, .slice A xs.length c] 27) := ⟨_, rfl⟩
  have bw : Below w.heap.size w W0 := by rw [hW0]; exact below_alloc _ _
  have hz : w.heap.size < W0.heap.size := by rw [hW0]; simp
  have k0 : W0.cell? ⟨w.heap.size, 0, none⟩ = some (.int .i64 s) := by rw [hW0]; simp [go_sem]
  have k1 : W0.cell? ⟨w.heap.size, 1, none⟩ = some (.slice A xs.length c) := by rw [hW0]; simp [go_sem]
  have HX := Bx.mk ((RB.of_ir hx).below bw (Nat.le_refl _))
  have HS := Bx.mk hs
  clear hx hs
  cases h1 : mfI s xs with
  | false =>
    have HR : Bx (mbI s xs = false) := ⟨by simp [mbI, h1]⟩
    go_enter Try.func13, Try.ntmps13
    go_wp2_with fail
    rw [← hW0]
    clear hW0
    refine (lit_is h1 (implMf_any _ _ _ _ _ HS.out (by exact HX.out.ir))).mono ?_
    rintro e w1 ⟨rfl, b⟩
    replace bw := bw.trans (b.mono bw.size)
    clear b
    go_wp2_with fail
    go_ret
    exact ⟨ret_bool HR.out.symm, bw⟩
  | true =>
    have HR : Bx (mbI s xs = msI s xs) := ⟨by simp [mbI, h1]⟩
    go_enter Try.func13, Try.ntmps13
    go_wp2_with fail
    rw [← hW0]
    clear hW0
    refine (lit_is h1 (implMf_any _ _ _ _ _ HS.out (by exact HX.out.ir))).mono ?_
    rintro e w1 ⟨rfl, b⟩
    replace k0 := ((bcell b).1 _ _ (by omega)).trans k0
    replace k1 := ((bcell b).1 _ _ (by omega)).trans k1
    replace HX := Bx.mk (HX.out.below b (by omega))
    replace bw := bw.trans (b.mono bw.size)
    clear b
    go_wp2_with fail
    refine (implMs_any _ _ _ _ _ HS.out (by exact HX.out.ir)).mono ?_
    rintro e w2 ⟨rfl, b⟩
    have HB := Bx.mk (bw.trans (b.mono bw.size))
    clear b
    go_wp2_with fail
    go_ret
    exact ⟨ret_bool HR.out.symm, HB.out⟩
set_option maxHeartbeats 2000000 in
set_option maxRecDepth 20000 in
theorem specMb_any (s : Int) (A : Option Addr) (c : Nat) (xs : List Int) (w : World) (hs : -9223372036854775808 ≤ s ∧ s ≤ 9223372036854775807) (hx : IR w A xs) :
    Calls Try.prog 12 #[.agg #[.int .i64 s, .slice A xs.length c]] w fun e w' => e = .returned (.bool (mbI s xs)) ∧ Below w.heap.size w w' := by
  obtain ⟨W0, hW0⟩ : ∃ W0, W0 = w.alloc (.cells #[.int .i64 s, .slice A xs.length c] 27) := ⟨_, rfl⟩
  have bw : Below w.heap.size w W0 := by rw [hW0]; exact below_alloc _ _
  have hz : w.heap.size < W0.heap.size := by rw [hW0]; simp
  have k0 : W0.cell? ⟨w.heap.size, 0, none⟩ = some (.int .i64 s) := by rw [hW0]; simp [go_sem]
  have k1 : W0.cell? ⟨w.heap.size, 1, none⟩ = some (.slice A xs.length c) := by rw [hW0]; simp [go_sem]
  have HX := Bx.mk ((RB.of_ir hx).below bw (Nat.le_refl _))
  have HS := Bx.mk hs
  clear hx hs
  cases h1 : mfI s xs with
  | false =>
    have HR : Bx (mbI s xs = false) := ⟨by simp [mbI, h1]⟩
    go_enter Try.func12, Try.ntmps12
    go_wp2_with fail
    rw [← hW0]
    clear hW0
    refine (lit_is h1 (specMf_any _ _ _ _ _ HS.out (by exact HX.out.ir))).mono ?_
    rintro e w1 ⟨rfl, b⟩
    replace bw := bw.trans (b.mono bw.size)
    clear b
    go_wp2_with fail
    go_ret
    exact ⟨ret_bool HR.out.symm, bw⟩
  | true =>
    have HR : Bx (mbI s xs = msI s xs) := ⟨by simp [mbI, h1]⟩
    go_enter Try.func12, Try.ntmps12
    go_wp2_with fail
    rw [← hW0]
    clear hW0
    refine (lit_is h1 (specMf_any _ _ _ _ _ HS.out (by exact HX.out.ir))).mono ?_
    rintro e w1 ⟨rfl, b⟩
    replace k0 := ((bcell b).1 _ _ (by omega)).trans k0
    replace k1 := ((bcell b).1 _ _ (by omega)).trans k1
    replace HX := Bx.mk (HX.out.below b (by omega))
    replace bw := bw.trans (b.mono bw.size)
    clear b
    go_wp2_with fail
    refine (specMs_any _ _ _ _ _ HS.out (by exact HX.out.ir)).mono ?_
    rintro e w2 ⟨rfl, b⟩
    have HB := Bx.mk (bw.trans (b.mono bw.size))
    clear b
    go_wp2_with fail
    go_ret
    exact ⟨ret_bool HR.out.symm, HB.out⟩
end Go.Proofs.Ytckgpkkflfhfpaa
