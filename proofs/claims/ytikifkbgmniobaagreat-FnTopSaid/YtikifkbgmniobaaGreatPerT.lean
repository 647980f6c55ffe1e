/- Whether a rhythm is periodic, and whether a tiling is. -/
import Derived.Test.YtikifkbgmniobaaGreatRts
import Derived.Test.YtikifkbgmniobaaGreatTls
import Derived.Deep.RegionHeld3
import Derived.Deep.DeepCutAuto
import Derived.Deep.RegionWith
namespace Go.Proofs.YtikifkbgmniobaaGreat
open Go.RowKit
set_option maxRecDepth 20000

def isPer (s : Int) (xs : List Int) : Bool := rhOk s xs && decide (((perL s xs : Nat) : Int) < s)
def perTil (s : Int) (xs : List Int) (t : Int) (ys : List Int) : Bool := btw s xs t ys 1 1 && (isPer s xs || isPer t ys)
set_option maxHeartbeats 2000000 in
set_option maxRecDepth 20000 in
theorem implIsPer_any (s : Int) (A : Option Addr) (c : Nat) (xs : List Int) (w : World) (hs : -9223372036854775808 ≤ s ∧ s ≤ 9223372036854775807) (hx : IR w A xs) :
    Calls Tryz.prog 43 #[.agg #[.int .i64 s, .slice A xs.length c]] w fun e w' => e = .returned (.bool (isPer s xs)) ∧ Below w.heap.size w w' := by
  obtain ⟨W0, hW0⟩ : ∃ W0, W0 = w.alloc (.cells #[.int .i64 s, .slice A xs.length c] 26) := ⟨_, rfl⟩
  have bw : Below w.heap.size w W0 := by rw [hW0]; exact below_alloc _ _
  have hz : w.heap.size < W0.heap.size := by rw [hW0]; simp
  have k0 : W0.cell? ⟨w.heap.size, 0, none⟩ = some (.int .i64 s) := by rw [hW0]; simp [go_sem]
  have k1 : W0.cell? ⟨w.heap.size, 1, none⟩ = some (.slice A xs.length c) := by rw [hW0]; simp [go_sem]
  have HX := Bx.mk ((RB.of_ir hx).below bw (Nat.le_refl _))
  have HS := Bx.mk hs
  clear hx hs
  have hB0 : Bx (Below W0.heap.size W0 W0) := ⟨Below.refl _ _⟩
  have hBd : Bx (Below W0.heap.size W0 W0.drew) := ⟨(Below.refl _ _).drew⟩
  have k0d : W0.drew.cell? _ = _ := k0
  have k1d : W0.drew.cell? _ = _ := k1
  cases h1 : rhOk s xs with
  | false =>
    have HR : Bx (isPer s xs = false) := ⟨by simp [isPer, h1]⟩
    go_enter Tryz.func43, Tryz.ntmps43
    go_upto_region 1 with (fail)
    rw [← hW0]
    clear hW0
    go_cut [2] (fun sv wx => sv = .bool false ∧ Bx (Below W0.heap.size W0 wx))
    case first =>
      refine wp_region_any (by kernel_rfl) ?_
      try (change wpAny _ _ _ _ _ _ _ (World.drew _))
      refine wpAny_ready (rs := [0]) (by kernel_rfl) (by simp) ?_
      refine AllReady.cons rfl (fun K hK => ?_) AllReady.nil
      go_simp
      refine hK _ _ ?_
      clear hK K
      refine wpAny_ready (rs := [1]) (by kernel_rfl) (by simp) ?_
      refine AllReady.cons rfl (fun K hK => ?_) AllReady.nil
      go_simp
      go_wp2_with (go_at_call 24; refine (lit_b h1 (implRhythmOk_any _ _ _ _ _ HS.out (by exact (HX.out.below hBd.out (by omega)).ir))).mono ?_; rintro e w2 ⟨rfl, b2⟩; have hBw2 : Bx (Below W0.heap.size W0 w2) := bx_to hBd b2)
      refine wpAny_take (i := 2) (v := .bool false) rfl (by kernel_rfl) (by kernel_rfl) (by kernel_rfl) (fun _ _ _ h => h) (Or.inl ⟨by rfl, ?hy⟩) ?rest2
      case hy => intro w; go_simp; try (with_reducible rfl)
      case rest2 =>
      refine wpAny_take (i := 3) (v := undef) rfl (by kernel_rfl) (by kernel_rfl) (by kernel_rfl) (fun _ _ _ h => h) (Or.inr ⟨by rfl, rfl⟩) ?_
      refine wpAny_take (i := 4) (v := undef) rfl (by kernel_rfl) (by kernel_rfl) (by kernel_rfl) (fun _ _ _ h => h) (Or.inr ⟨by rfl, rfl⟩) ?_
      refine wpAny_take (i := 5) (v := undef) rfl (by kernel_rfl) (by kernel_rfl) (by kernel_rfl) (fun _ _ _ h => h) (Or.inr ⟨by rfl, rfl⟩) ?_
      refine wpAny_take (i := 6) (v := undef) rfl (by kernel_rfl) (by kernel_rfl) (by kernel_rfl) (fun _ _ _ h => h) (Or.inr ⟨by rfl, rfl⟩) ?_
      refine wpAny_take (i := 7) (v := undef) rfl (by kernel_rfl) (by kernel_rfl) (by kernel_rfl) (fun _ _ _ h => h) (Or.inr ⟨by rfl, rfl⟩) ?_
      refine wpAny_take (i := 8) (v := .bool false) rfl (by kernel_rfl) (by kernel_rfl) (by kernel_rfl) (fun _ _ _ h => h) (Or.inl ⟨by rfl, ?hy3⟩) ?rest3
      case hy3 => intro w; go_simp; try (with_reducible rfl)
      case rest3 =>
      refine wpAny_take (i := 9) (v := .bool false) rfl (by kernel_rfl) (by kernel_rfl) (by kernel_rfl) (fun _ _ _ h => h) (Or.inl ⟨by rfl, ?hy4⟩) ?rest4
      case hy4 => intro w; go_simp; try (with_reducible rfl)
      case rest4 =>
      refine wpAny_done (by kernel_rfl) ?_ _
      all_goals (go_wp2_with fail; go_meet)
      all_goals exact ⟨rfl, hBw2⟩
    case rest =>
      obtain ⟨rfl, HBX⟩ := hcut
      have HBF := Bx.mk (bw.trans (HBX.out.mono bw.size))
      go_wp2_with fail
      go_ret
      exact ⟨ret_bool HR.out.symm, HBF.out⟩
  | true =>
    obtain ⟨q, hq⟩ : ∃ q : Int, q = ((perL s xs : Nat) : Int) := ⟨_, rfl⟩
    have HR : Bx (isPer s xs = decide (q < s)) := ⟨by simp [isPer, h1, hq]⟩
    have HPE : Bx (∀ cc W, IR W A xs → Calls Tryz.prog 66 #[.agg #[.int .i64 s, .slice A xs.length cc]] W fun e w' => e = .returned (.int .i64 q) ∧ Below W.heap.size W w') := ⟨fun cc W h => by rw [hq]; exact implPeriod_any s A cc xs W h1 h⟩
    clear hq
    obtain ⟨bR, hbR⟩ : ∃ bR, bR = decide (q < s) := ⟨_, rfl⟩
    rw [← hbR] at HR
    have HBR := Bx.mk hbR
    clear hbR
    go_enter Tryz.func43, Tryz.ntmps43
    go_upto_region 1 with (fail)
    rw [← hW0]
    clear hW0
    go_cut [2] (fun sv wx => sv = .bool bR ∧ Bx (Below W0.heap.size W0 wx))
    case first =>
      go_region_held3 (fun w' => w'.cell? ⟨w.heap.size, 0, none⟩ = some (.int .i64 s) ∧ w'.cell? ⟨w.heap.size, 1, none⟩ = some (.slice A xs.length c) ∧ Bx (Below W0.heap.size W0 w'))
        ((refine (fun (hK : Bx (Below W0.heap.size W0 _)) => ⟨((bcell hK.out).1 _ _ hz).trans k0, ((bcell hK.out).1 _ _ hz).trans k1, hK⟩) ?_; first | assumption | exact bx_drew (by assumption)))
        (first
          | (go_at_call 24; refine (lit_b h1 (implRhythmOk_any _ _ _ _ _ HS.out (by exact (HX.out.below (Bx.out (by first | assumption | exact bx_drew (by assumption))) (by omega)).ir))).mono ?_; rintro e w2 ⟨rfl, b2⟩; have hBw2 : Bx (Below W0.heap.size W0 w2) := bx_to (by first | assumption | exact bx_drew (by assumption)) b2; clear hB0 hBd)
          | (go_at_call 66; refine (HPE.out _ _ (HX.out.below (Bx.out (by first | assumption | exact bx_drew (by assumption))) (by omega)).ir).mono ?_; rintro e w3 ⟨rfl, b3⟩; have hBw3 : Bx (Below W0.heap.size W0 w3) := bx_to (by first | assumption | exact bx_drew (by assumption)) b3))
      all_goals (go_wp2_with fail; go_meet)
      all_goals exact ⟨by rw [HBR.out], hBw3⟩
    case rest =>
      obtain ⟨rfl, HBX⟩ := hcut
      have HBF := Bx.mk (bw.trans (HBX.out.mono bw.size))
      go_wp2_with fail
      go_ret
      exact ⟨ret_bool HR.out.symm, HBF.out⟩
set_option maxHeartbeats 2000000 in
theorem implPerTil_any (s t : Int) (A B : Option Addr) (c d : Nat) (xs ys : List Int) (w : World) (hs : -9223372036854775808 ≤ s ∧ s ≤ 9223372036854775807) (ht : -9223372036854775808 ≤ t ∧ t ≤ 9223372036854775807) (hx : IR w A xs) (hy : IR w B ys) :
    Calls Tryz.prog 18 #[.agg #[.int .i64 s, .slice A xs.length c], .agg #[.int .i64 t, .slice B ys.length d]] w fun e w' => e = .returned (.bool (perTil s xs t ys)) ∧ Below w.heap.size w w' := by
  obtain ⟨W0, hW0⟩ : ∃ W0, W0 = (w.alloc (.cells #[.int .i64 s, .slice A xs.length c] 26)).alloc (.cells #[.int .i64 t, .slice B ys.length d] 26) := ⟨_, rfl⟩
  have bw : Below w.heap.size w W0 := by rw [hW0]; exact (below_alloc _ _).alloc (by simp) _
  have hz : w.heap.size + 2 ≤ W0.heap.size := by rw [hW0]; simp
  have k0 : W0.cell? ⟨w.heap.size, 0, none⟩ = some (.int .i64 s) := by rw [hW0]; simp [go_sem]
  have k1 : W0.cell? ⟨w.heap.size, 1, none⟩ = some (.slice A xs.length c) := by rw [hW0]; simp [go_sem]
  have k2 : W0.cell? ⟨w.heap.size + 1, 0, none⟩ = some (.int .i64 t) := by rw [hW0]; simp [go_sem]
  have k3 : W0.cell? ⟨w.heap.size + 1, 1, none⟩ = some (.slice B ys.length d) := by rw [hW0]; simp [go_sem]
  have HX := Bx.mk (hx.below bw)
  have HY := Bx.mk (hy.below bw)
  have HS := Bx.mk hs
  have HT := Bx.mk ht
  clear hx hy hs ht
  cases h1 : btw s xs t ys 1 1 with
  | false =>
    have HR : Bx (perTil s xs t ys = false) := ⟨by simp [perTil, h1]⟩
    go_enter Tryz.func18, Tryz.ntmps18
    go_wp2_with fail
    rw [← hW0]
    clear hW0
    refine (lit_b h1 (implIsTiling_any _ _ _ _ _ _ _ _ _ HS.out HT.out (by exact HX.out) (by exact HY.out))).mono ?_
    rintro e w1 ⟨rfl, b⟩
    replace k0 := ((bcell b).1 _ _ (by omega)).trans k0
    replace k1 := ((bcell b).1 _ _ (by omega)).trans k1
    replace k2 := ((bcell b).1 _ _ (by omega)).trans k2
    replace k3 := ((bcell b).1 _ _ (by omega)).trans k3
    replace HX := Bx.mk (HX.out.below b)
    replace HY := Bx.mk (HY.out.below b)
    replace hz := Nat.le_trans hz b.size
    replace bw := bw.trans (b.mono bw.size)
    clear b
    go_wp2_with fail
    go_ret
    exact ⟨ret_bool HR.out.symm, bw⟩
  | true =>
    cases h2 : isPer s xs with
    | true =>
      have HR : Bx (perTil s xs t ys = true) := ⟨by simp [perTil, h1, h2]⟩
      go_enter Tryz.func18, Tryz.ntmps18
      go_wp2_with fail
      rw [← hW0]
      clear hW0
      refine (lit_b h1 (implIsTiling_any _ _ _ _ _ _ _ _ _ HS.out HT.out (by exact HX.out) (by exact HY.out))).mono ?_
      rintro e w1 ⟨rfl, b⟩
      replace k0 := ((bcell b).1 _ _ (by omega)).trans k0
      replace k1 := ((bcell b).1 _ _ (by omega)).trans k1
      replace k2 := ((bcell b).1 _ _ (by omega)).trans k2
      replace k3 := ((bcell b).1 _ _ (by omega)).trans k3
      replace HX := Bx.mk (HX.out.below b)
      replace HY := Bx.mk (HY.out.below b)
      replace hz := Nat.le_trans hz b.size
      replace bw := bw.trans (b.mono bw.size)
      clear b
      go_wp2_with fail
      refine (lit_b h2 (implIsPer_any _ _ _ _ _ HS.out (by exact HX.out))).mono ?_
      rintro e w2 ⟨rfl, b⟩
      have bw2 := bw.trans (b.mono bw.size)
      clear b
      go_wp2_with fail
      go_ret
      exact ⟨ret_bool HR.out.symm, bw2⟩
    | false =>
      have HR : Bx (perTil s xs t ys = isPer t ys) := ⟨by simp [perTil, h1, h2]⟩
      go_enter Tryz.func18, Tryz.ntmps18
      go_wp2_with fail
      rw [← hW0]
      clear hW0
      refine (lit_b h1 (implIsTiling_any _ _ _ _ _ _ _ _ _ HS.out HT.out (by exact HX.out) (by exact HY.out))).mono ?_
      rintro e w1 ⟨rfl, b⟩
      replace k0 := ((bcell b).1 _ _ (by omega)).trans k0
      replace k1 := ((bcell b).1 _ _ (by omega)).trans k1
      replace k2 := ((bcell b).1 _ _ (by omega)).trans k2
      replace k3 := ((bcell b).1 _ _ (by omega)).trans k3
      replace HX := Bx.mk (HX.out.below b)
      replace HY := Bx.mk (HY.out.below b)
      replace hz := Nat.le_trans hz b.size
      replace bw := bw.trans (b.mono bw.size)
      clear b
      go_wp2_with fail
      refine (lit_b h2 (implIsPer_any _ _ _ _ _ HS.out (by exact HX.out))).mono ?_
      rintro e w2 ⟨rfl, b⟩
      replace k0 := ((bcell b).1 _ _ (by omega)).trans k0
      replace k1 := ((bcell b).1 _ _ (by omega)).trans k1
      replace k2 := ((bcell b).1 _ _ (by omega)).trans k2
      replace k3 := ((bcell b).1 _ _ (by omega)).trans k3
      replace HX := Bx.mk (HX.out.below b)
      replace HY := Bx.mk (HY.out.below b)
      replace hz := Nat.le_trans hz b.size
      replace bw := bw.trans (b.mono bw.size)
      clear b
      go_wp2_with fail
      refine (implIsPer_any _ _ _ _ _ HT.out (by exact HY.out)).mono ?_
      rintro e w3 ⟨rfl, b⟩
      have bw2 := bw.trans (b.mono bw.size)
      clear b
      go_wp2_with fail
      go_ret
      exact ⟨ret_bool HR.out.symm, bw2⟩
end Go.Proofs.YtikifkbgmniobaaGreat
