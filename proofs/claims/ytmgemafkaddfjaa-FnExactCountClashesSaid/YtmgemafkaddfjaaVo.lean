/- The voices of a canon that play on a pulse. -/
import Derived.Test.YtmgemafkaddfjaaCn
import Derived.Test.YtmgemafkaddfjaaSel
import Derived.Test.YtmgemafkaddfjaaHas
import Derived.Test.YtmgemafkaddfjaaHasB
import Derived.Test.YtmgemafkaddfjaaApp
import Derived.Test.YtmgemafkaddfjaaWithin
import Derived.Test.YtmgemafkaddfjaaL01In
import Derived.Deep.RegionHeld3
import Derived.Deep.DeepCutAuto
import Derived.Deep.QuietTactic
import Derived.BigQuiet
namespace Go.Proofs.Ytmgemafkaddfjaa
open Go.RowKit

def vatP (s : Int) (xs ys : List Int) (t : Int) (i : Int) : Bool := hasR s xs (t - ys[i.toNat]?.getD 0)
def vatL (s : Int) (xs ys : List Int) (t : Int) : List Int := selTo (vatP s xs ys t) ys.length
theorem vat_hit {s : Int} {xs ys : List Int} {t y : Int} {k : Nat} (hy : ys[k]? = some y) (h : hasR s xs (t - y) = true) : selTo (vatP s xs ys t) (k + 1) = selTo (vatP s xs ys t) k ++ [(k : Int)] :=
  selTo_hit (by unfold vatP; rw [Int.toNat_natCast, hy]; exact h)
theorem vat_miss {s : Int} {xs ys : List Int} {t y : Int} {k : Nat} (hy : ys[k]? = some y) (h : hasR s xs (t - y) = false) : selTo (vatP s xs ys t) (k + 1) = selTo (vatP s xs ys t) k :=
  selTo_miss (by unfold vatP; rw [Int.toNat_natCast, hy]; exact h)
theorem mem_is {f : FuncId} {args : Array Value} {w : World} {xs : List Int} {x : Int} {b : Bool} (hb : memB xs x = b) (h : Calls Try.prog f args w fun e w' => e = .returned (.bool (memB xs x)) ∧ w = w') :
    Calls Try.prog f args w fun e w' => e = .returned (.bool b) ∧ w = w' := by rw [← hb]; exact h
def voI (s : Int) (xs : List Int) (u : Int) (ys : List Int) (t : Int) : List Int := if cnOk s xs u ys = true ∧ inB t (-1000) 1000 = true then vatL s xs ys t else []
set_option maxHeartbeats 1000000 in
theorem voicesAt_any (s u : Int) (A B : Option Addr) (c d : Nat) (xs ys : List Int) (t : Int) (w : World) (hsz : 1 ≤ s ∧ s ≤ 24) (hys : ∀ y ∈ ys, 0 ≤ y ∧ y < 24) (ht : -1000 ≤ t ∧ t ≤ 1000) (hx : IR w A xs) (hy : IR w B ys) (hl : ys.length ≤ 1000) :
    Calls Try.prog 59 #[.agg #[.int .i64 s, .slice A xs.length c, .int .i64 u, .slice B ys.length d], .int .i64 t] w (GivesInts w (vatL s xs ys t)) := by
  have HYS := Bx.mk hys
  obtain ⟨hs1, hs2⟩ := hsz
  obtain ⟨ht1, ht2⟩ := ht
  clear hys
  obtain ⟨W0, hW0⟩ : ∃ W0, W0 = w.alloc (.cells #[.int .i64 s, .slice A xs.length c, .int .i64 u, .slice B ys.length d] 31) := ⟨_, rfl⟩
  have bw : Below w.heap.size w W0 := by rw [hW0]; exact below_alloc _ _
  have hz : w.heap.size + 1 ≤ W0.heap.size := by rw [hW0]; simp
  have k0 : W0.cell? ⟨w.heap.size, 0, none⟩ = some (.int .i64 s) := by rw [hW0]; simp [go_sem]
  have k1 : W0.cell? ⟨w.heap.size, 1, none⟩ = some (.slice A xs.length c) := by rw [hW0]; simp [go_sem]
  have k2 : W0.cell? ⟨w.heap.size, 2, none⟩ = some (.int .i64 u) := by rw [hW0]; simp [go_sem]
  have k3 : W0.cell? ⟨w.heap.size, 3, none⟩ = some (.slice B ys.length d) := by rw [hW0]; simp [go_sem]
  have HX := Bx.mk (hx.below bw)
  have HY := Bx.mk (hy.below bw)
  clear hx hy
  obtain ⟨w1, hw1⟩ : ∃ w1, w1 = W0 := ⟨_, rfl⟩
  obtain ⟨BB, hBB⟩ : ∃ BB, BB = W0.heap.size := ⟨_, rfl⟩
  have b : Below BB W0 w1 := by rw [hw1]; exact Below.refl _ _
  have HRW := Bx.mk (Row.nil w1 BB)
  go_enter Try.func59, Try.ntmps59
  go_wp2_with fail
  rw [← hW0, ← hw1]
  replace k0 := ((bcell b).1 _ _ (by omega)).trans k0
  replace k1 := ((bcell b).1 _ _ (by omega)).trans k1
  replace k2 := ((bcell b).1 _ _ (by omega)).trans k2
  replace k3 := ((bcell b).1 _ _ (by omega)).trans k3
  have hw1s := b.size
  have hBB1 : BB ≤ w1.heap.size := by omega
  have hwB : w.heap.size < BB := by omega
  have HXB : Bx (RB 0 BB w1 A xs) := ⟨(RB.of_ir HX.out).below b (by omega) |> fun h => ⟨h.1, fun h0 x hx => by have := h.2 h0 x hx; omega⟩⟩
  have HYB : Bx (RB 0 BB w1 B ys) := ⟨(RB.of_ir HY.out).below b (by omega) |> fun h => ⟨h.1, fun h0 x hx => by have := h.2 h0 x hx; omega⟩⟩
  have HBW : Bx (Below w.heap.size w w1) := ⟨bw.trans (b.mono (by omega))⟩
  clear b bw hz HX HY hw1 hBB hW0 hw1s
  go_loopw [5, 12] (fun v i wr => ∃ k : Nat, k ≤ ys.length ∧ i = .int .i64 k ∧ Row wr BB v (selTo (vatP s xs ys t) k) ∧ Below BB w1 wr) (fun _ i _ => ys.length - (intOf i).toNat)
  case atStart => exact ⟨0, by omega, rfl, HRW.out, Below.refl _ _⟩
  case round =>
    obtain ⟨k, hk, rfl, hown, hb⟩ := hrel
    clear HRW
    have hlen := selTo_len (vatP s xs ys t) k
    have q0 := ((bcell hb).1 _ _ (by omega)).trans k0
    have q1 := ((bcell hb).1 _ _ (by omega)).trans k1
    have q2 := ((bcell hb).1 _ _ (by omega)).trans k2
    have q3 := ((bcell hb).1 _ _ (by omega)).trans k3
    have hXr := Bx.mk (HXB.out.below hb (Nat.le_refl _)).ir
    have hYr := (HYB.out.below hb (Nat.le_refl _)).ir
    have hzr := hb.size
    by_cases hlt : k < ys.length
    · obtain ⟨b, o, y, rfl, hbk, c1, H3⟩ := hYr.one hlt
      have H4 := Bx.mk H3.out
      clear H3
      have hki : (k : Int) < (ys.length : Int) := by omega
      obtain ⟨hy1, hy2⟩ := HYS.out y (List.mem_of_getElem? H4.out)
      have HO := Bx.mk hown
      have HB := Bx.mk hb
      clear hown hb
      cases hv : hasR s xs (t - y) with
      | true =>
        have HN := Bx.mk (vat_hit H4.out hv)
        go_wp2_with fail
        refine (has_any _ _ _ _ _ _ ⟨hs1, hs2⟩ (by omega) (by exact hXr.out)).mono ?_
        rw [hv]
        rintro e w3 ⟨rfl, b3⟩
        have HO3 := Bx.mk (HO.out.below b3 (Nat.le_refl _))
        have HB3 := Bx.mk (HB.out.trans (b3.mono (by omega)))
        have hz3 := b3.size
        clear b3
        go_wp2_with (at_builtin; go_must (refine wpList_app1 rfl _ _ rfl BB _ (selTo (vatP s xs ys t) k) (k : Int) rfl rfl (by exact HO3.out) (by omega) (by first | omega | (simp; omega)) ?_); intro v1 w4 hown1 hb1)
        have R := Bx.mk (And.intro hown1 (Below.trans (HB3.out) hb1))
        clear hown1 hb1
        go_wp2_with fail
        go_roundw
        case rel => exact ⟨k + 1, by omega, by go_num, by rw [HN.out]; exact R.out.1, R.out.2⟩
        case measure => simp [intOf]; omega
      | false =>
        have HN := Bx.mk (vat_miss H4.out hv)
        go_wp2_with fail
        refine (has_any _ _ _ _ _ _ ⟨hs1, hs2⟩ (by omega) (by exact hXr.out)).mono ?_
        rw [hv]
        rintro e w3 ⟨rfl, b3⟩
        have HO3 := Bx.mk (HO.out.below b3 (Nat.le_refl _))
        have HB3 := Bx.mk (HB.out.trans (b3.mono (by omega)))
        have hz3 := b3.size
        clear b3
        go_wp2_with fail
        go_roundw
        case rel => exact ⟨k + 1, by omega, by go_num, by rw [HN.out]; exact HO3.out, HB3.out⟩
        case measure => simp [intOf]; omega
    · have hkl : k = ys.length := by omega
      obtain ⟨A', c', e, hio⟩ := hown.io (by omega)
      subst e
      have HF : Bx (GivesInts w (vatL s xs ys t) (.returned (.slice A' (selTo (vatP s xs ys t) k).length c')) wr) := ⟨by
        unfold vatL
        rw [← hkl]
        exact ⟨A', c', rfl, hio.mono (by omega), HBW.out.trans (hb.mono (by omega))⟩⟩
      clear hkl hio hown
      go_wp2_with fail
      go_ret
      exact HF.out
set_option maxHeartbeats 1000000 in
theorem l12At_any (s u : Int) (A B : Option Addr) (c d : Nat) (xs ys : List Int) (t : Int) (w : World) (hsz : 1 ≤ s ∧ s ≤ 24) (hys : ∀ y ∈ ys, 0 ≤ y ∧ y < 24) (ht : -1000 ≤ t ∧ t ≤ 1000) (hx : IR w A xs) (hy : IR w B ys) (hl : ys.length ≤ 1000) :
    Calls Try.prog 57 #[.agg #[.int .i64 s, .slice A xs.length c, .int .i64 u, .slice B ys.length d], .int .i64 t] w (GivesInts w (vatL s xs ys t)) := by
  have HYS := Bx.mk hys
  obtain ⟨hs1, hs2⟩ := hsz
  obtain ⟨ht1, ht2⟩ := ht
  clear hys
  obtain ⟨W0, hW0⟩ : ∃ W0, W0 = w.alloc (.cells #[.int .i64 s, .slice A xs.length c, .int .i64 u, .slice B ys.length d] 31) := ⟨_, rfl⟩
  have bw : Below w.heap.size w W0 := by rw [hW0]; exact below_alloc _ _
  have hz : w.heap.size + 1 ≤ W0.heap.size := by rw [hW0]; simp
  have k0 : W0.cell? ⟨w.heap.size, 0, none⟩ = some (.int .i64 s) := by rw [hW0]; simp [go_sem]
  have k1 : W0.cell? ⟨w.heap.size, 1, none⟩ = some (.slice A xs.length c) := by rw [hW0]; simp [go_sem]
  have k2 : W0.cell? ⟨w.heap.size, 2, none⟩ = some (.int .i64 u) := by rw [hW0]; simp [go_sem]
  have k3 : W0.cell? ⟨w.heap.size, 3, none⟩ = some (.slice B ys.length d) := by rw [hW0]; simp [go_sem]
  have HX := Bx.mk (hx.below bw)
  have HY := Bx.mk (hy.below bw)
  clear hx hy
  have HRW := Bx.mk (Row.empty W0 W0.heap.size (Nat.le_refl _))
  obtain ⟨w1, hw1⟩ : ∃ w1, w1 = W0.alloc (.cells #[] 3) := ⟨_, rfl⟩
  obtain ⟨BB, hBB⟩ : ∃ BB, BB = w.heap.size + 1 := ⟨_, rfl⟩
  have hzE : W0.heap.size = w.heap.size + 1 := by rw [hW0]; simp
  have b : Below BB W0 w1 := by rw [hw1, hBB, ← hzE]; exact below_alloc _ _
  rw [← hw1, hzE, ← hBB] at HRW
  go_enter Try.func57, Try.ntmps57
  go_wp2_with fail
  rw [← hW0, ← hw1, ← hBB]
  replace k0 := ((bcell b).1 _ _ (by omega)).trans k0
  replace k1 := ((bcell b).1 _ _ (by omega)).trans k1
  replace k2 := ((bcell b).1 _ _ (by omega)).trans k2
  replace k3 := ((bcell b).1 _ _ (by omega)).trans k3
  have hw1s := b.size
  have hBB1 : BB ≤ w1.heap.size := by omega
  have hwB : w.heap.size < BB := by omega
  have HXB : Bx (RB 0 BB w1 A xs) := ⟨(RB.of_ir HX.out).below b (by omega) |> fun h => ⟨h.1, fun h0 x hx => by have := h.2 h0 x hx; omega⟩⟩
  have HYB : Bx (RB 0 BB w1 B ys) := ⟨(RB.of_ir HY.out).below b (by omega) |> fun h => ⟨h.1, fun h0 x hx => by have := h.2 h0 x hx; omega⟩⟩
  have HBW : Bx (Below w.heap.size w w1) := ⟨bw.trans (b.mono (by omega))⟩
  clear b bw hz HX HY hw1 hBB hW0 hw1s
  go_loopw [5, 13] (fun v i wr => ∃ k : Nat, k ≤ ys.length ∧ i = .int .i64 k ∧ Row wr BB v (selTo (vatP s xs ys t) k) ∧ Below BB w1 wr) (fun _ i _ => ys.length - (intOf i).toNat)
  case atStart => exact ⟨0, by omega, rfl, HRW.out, Below.refl _ _⟩
  case round =>
    obtain ⟨k, hk, rfl, hown, hb⟩ := hrel
    clear HRW
    have hlen := selTo_len (vatP s xs ys t) k
    have q0 := ((bcell hb).1 _ _ (by omega)).trans k0
    have q1 := ((bcell hb).1 _ _ (by omega)).trans k1
    have q2 := ((bcell hb).1 _ _ (by omega)).trans k2
    have q3 := ((bcell hb).1 _ _ (by omega)).trans k3
    have hXr := Bx.mk (HXB.out.below hb (Nat.le_refl _)).ir
    have hYr := (HYB.out.below hb (Nat.le_refl _)).ir
    have hzr := hb.size
    by_cases hlt : k < ys.length
    · obtain ⟨b, o, y, rfl, hbk, c1, H3⟩ := hYr.one hlt
      have H4 := Bx.mk H3.out
      clear H3
      have hki : (k : Int) < (ys.length : Int) := by omega
      obtain ⟨hy1, hy2⟩ := HYS.out y (List.mem_of_getElem? H4.out)
      have HO := Bx.mk hown
      have HB := Bx.mk hb
      clear hown hb
      cases hv : hasR s xs (t - y) with
      | true =>
        have HN := Bx.mk (vat_hit H4.out hv)
        have hem : hasR s xs (t - y) = memB xs ((t - y) % s) := rfl
        rw [hv] at hem
        have HEM := Bx.mk hem.symm
        clear hem
        go_wp2_with fail
        go_quiet ((first | (go_at_call 86; exact q_same (l02Mod_any _ _ hs1 (by omega) _)) | (go_at_call 80; exact q_same (mem_is HEM.out (l02Has_any _ _ _ _ _ (by exact hXr.out))))))
        skip
        go_wp2_with (at_builtin; go_must (refine wpList_app1 rfl _ _ rfl BB _ (selTo (vatP s xs ys t) k) (k : Int) rfl rfl (by exact HO.out.drewN _) (by omega) (by first | omega | (simp; omega)) ?_); intro v1 w4 hown1 hb1)
        have R := Bx.mk (And.intro hown1 (Below.trans (HB.out.trans (bdrewN_refl _ _)) hb1))
        clear hown1 hb1
        go_wp2_with fail
        go_roundw
        case rel => exact ⟨k + 1, by omega, by go_num, by rw [HN.out]; exact R.out.1, R.out.2⟩
        case measure => simp [intOf]; omega
      | false =>
        have HN := Bx.mk (vat_miss H4.out hv)
        have hem : hasR s xs (t - y) = memB xs ((t - y) % s) := rfl
        rw [hv] at hem
        have HEM := Bx.mk hem.symm
        clear hem
        go_wp2_with fail
        go_quiet ((first | (go_at_call 86; exact q_same (l02Mod_any _ _ hs1 (by omega) _)) | (go_at_call 80; exact q_same (mem_is HEM.out (l02Has_any _ _ _ _ _ (by exact hXr.out))))))
        skip
        go_wp2_with fail
        go_roundw
        case rel => exact ⟨k + 1, by omega, by go_num, by rw [HN.out]; exact HO.out.drewN _, HB.out.trans (bdrewN_refl _ _)⟩
        case measure => simp [intOf]; omega
    · have hkl : k = ys.length := by omega
      obtain ⟨A', c', e, hio⟩ := hown.io (by omega)
      subst e
      have HF : Bx (GivesInts w (vatL s xs ys t) (.returned (.slice A' (selTo (vatP s xs ys t) k).length c')) wr) := ⟨by
        unfold vatL
        rw [← hkl]
        exact ⟨A', c', rfl, hio.mono (by omega), HBW.out.trans (hb.mono (by omega))⟩⟩
      clear hkl hio hown
      go_wp2_with fail
      go_ret
      exact HF.out
set_option maxHeartbeats 1000000 in
theorem implVo_any (s u : Int) (A B : Option Addr) (c d : Nat) (xs ys : List Int) (t : Int) (w : World) (hs : -9223372036854775808 ≤ s ∧ s ≤ 9223372036854775807) (hu : -9223372036854775808 ≤ u ∧ u ≤ 9223372036854775807) (hx : IR w A xs) (hy : IR w B ys) :
    Calls Try.prog 21 #[.agg #[.int .i64 s, .slice A xs.length c, .int .i64 u, .slice B ys.length d], .int .i64 t] w (GivesInts w (voI s xs u ys t)) := by
  obtain ⟨W0, hW0⟩ : ∃ W0, W0 = w.alloc (.cells #[.int .i64 s, .slice A xs.length c, .int .i64 u, .slice B ys.length d] 31) := ⟨_, rfl⟩
  have bw : Below w.heap.size w W0 := by rw [hW0]; exact below_alloc _ _
  have hz : w.heap.size + 1 ≤ W0.heap.size := by rw [hW0]; simp
  have k0 : W0.cell? ⟨w.heap.size, 0, none⟩ = some (.int .i64 s) := by rw [hW0]; simp [go_sem]
  have k1 : W0.cell? ⟨w.heap.size, 1, none⟩ = some (.slice A xs.length c) := by rw [hW0]; simp [go_sem]
  have k2 : W0.cell? ⟨w.heap.size, 2, none⟩ = some (.int .i64 u) := by rw [hW0]; simp [go_sem]
  have k3 : W0.cell? ⟨w.heap.size, 3, none⟩ = some (.slice B ys.length d) := by rw [hW0]; simp [go_sem]
  have HX := Bx.mk (hx.below bw)
  have HY := Bx.mk (hy.below bw)
  clear hx hy
  have HS := Bx.mk hs
  have HT := Bx.mk hu
  clear hs hu
  cases h1 : cnOk s xs u ys with
  | false =>
    have HR : Bx (voI s xs u ys t = []) := ⟨by simp [voI, h1]⟩
    go_enter Try.func21, Try.ntmps21
    go_wp2_with fail
    rw [← hW0]
    clear hW0
    refine (implCanonOk_any _ _ _ _ _ _ _ _ _ HS.out HT.out (by exact HX.out) (by exact HY.out)).mono ?_
    rw [h1]
    rintro e w1 ⟨rfl, b⟩
    replace k0 := ((bcell b).1 _ _ (by omega)).trans k0
    replace k1 := ((bcell b).1 _ _ (by omega)).trans k1
    replace k2 := ((bcell b).1 _ _ (by omega)).trans k2
    replace k3 := ((bcell b).1 _ _ (by omega)).trans k3
    replace HX := Bx.mk (HX.out.below b)
    replace HY := Bx.mk (HY.out.below b)
    replace hz := Nat.le_trans hz b.size
    replace bw := bw.trans (b.mono bw.size)
    clear b
    go_wp2_with fail
    go_ret
    rw [HR.out]
    exact GivesInts.of_row (Row.nil _ _) (by simp) bw
  | true =>
  cases h2 : inB t (-1000) 1000 with
  | false =>
    have HR : Bx (voI s xs u ys t = []) := ⟨by simp [voI, h2]⟩
    go_enter Try.func21, Try.ntmps21
    go_wp2_with fail
    rw [← hW0]
    clear hW0
    refine (implCanonOk_any _ _ _ _ _ _ _ _ _ HS.out HT.out (by exact HX.out) (by exact HY.out)).mono ?_
    rw [h1]
    rintro e w1 ⟨rfl, b⟩
    replace k0 := ((bcell b).1 _ _ (by omega)).trans k0
    replace k1 := ((bcell b).1 _ _ (by omega)).trans k1
    replace k2 := ((bcell b).1 _ _ (by omega)).trans k2
    replace k3 := ((bcell b).1 _ _ (by omega)).trans k3
    replace HX := Bx.mk (HX.out.below b)
    replace HY := Bx.mk (HY.out.below b)
    replace hz := Nat.le_trans hz b.size
    replace bw := bw.trans (b.mono bw.size)
    clear b
    go_wp2_with (go_at_call 58; refine (within_any _ _ _ _).mono ?_; rintro e w' ⟨rfl, rfl⟩)
    go_ret
    rw [HR.out]
    exact GivesInts.of_row (Row.nil _ _) (by simp) bw
  | true =>
    have b2 := inB_iff.1 h2
    obtain ⟨e1, e2, e3⟩ := twoOk_iff.1 (cnOk_iff.1 h1).1
    have hsz := (rhOk_iff.1 e1).1
    have HM : Bx (∀ y ∈ ys, 0 ≤ y ∧ y < 24) := ⟨fun y hy => by have := (rhOk_iff.1 e2).2.1 y hy; have := (rhOk_iff.1 e2).1; omega⟩
    have hyl : ys.length ≤ 1000 := Nat.le_trans (rhOk_len e2).1 (by omega)
    have HR : Bx (voI s xs u ys t = vatL s xs ys t) := ⟨by simp [voI, h1, h2]⟩
    have HT2 := Bx.mk b2
    clear e1 e2 e3 b2
    go_enter Try.func21, Try.ntmps21
    go_wp2_with fail
    rw [← hW0]
    clear hW0
    refine (implCanonOk_any _ _ _ _ _ _ _ _ _ HS.out HT.out (by exact HX.out) (by exact HY.out)).mono ?_
    rw [h1]
    rintro e w1 ⟨rfl, b⟩
    replace k0 := ((bcell b).1 _ _ (by omega)).trans k0
    replace k1 := ((bcell b).1 _ _ (by omega)).trans k1
    replace k2 := ((bcell b).1 _ _ (by omega)).trans k2
    replace k3 := ((bcell b).1 _ _ (by omega)).trans k3
    replace HX := Bx.mk (HX.out.below b)
    replace HY := Bx.mk (HY.out.below b)
    replace hz := Nat.le_trans hz b.size
    replace bw := bw.trans (b.mono bw.size)
    clear b
    go_wp2_with (go_at_call 58; refine (within_any _ _ _ _).mono ?_; rintro e w' ⟨rfl, rfl⟩)
    refine (voicesAt_any _ _ _ _ _ _ _ _ _ _ hsz HM.out HT2.out (by exact HX.out) (by exact HY.out) hyl).mono ?_
    rintro e w2 ⟨A2, c2, rfl, io, b⟩
    have HF := Bx.mk (io.mono bw.size)
    have HB := Bx.mk (bw.trans (b.mono bw.size))
    clear io b
    rw [← HR.out] at HF ⊢
    go_wp2_with fail
    go_ret
    exact ⟨A2, c2, rfl, HF.out, HB.out⟩
set_option maxHeartbeats 1000000 in
theorem specVo_any (s u : Int) (A B : Option Addr) (c d : Nat) (xs ys : List Int) (t : Int) (w : World) (hs : -9223372036854775808 ≤ s ∧ s ≤ 9223372036854775807) (hu : -9223372036854775808 ≤ u ∧ u ≤ 9223372036854775807) (hx : IR w A xs) (hy : IR w B ys) :
    Calls Try.prog 20 #[.agg #[.int .i64 s, .slice A xs.length c, .int .i64 u, .slice B ys.length d], .int .i64 t] w (GivesInts w (voI s xs u ys t)) := by
  obtain ⟨W0, hW0⟩ : ∃ W0, W0 = w.alloc (.cells #[.int .i64 s, .slice A xs.length c, .int .i64 u, .slice B ys.length d] 31) := ⟨_, rfl⟩
  have bw : Below w.heap.size w W0 := by rw [hW0]; exact below_alloc _ _
  have hz : w.heap.size + 1 ≤ W0.heap.size := by rw [hW0]; simp
  have k0 : W0.cell? ⟨w.heap.size, 0, none⟩ = some (.int .i64 s) := by rw [hW0]; simp [go_sem]
  have k1 : W0.cell? ⟨w.heap.size, 1, none⟩ = some (.slice A xs.length c) := by rw [hW0]; simp [go_sem]
  have k2 : W0.cell? ⟨w.heap.size, 2, none⟩ = some (.int .i64 u) := by rw [hW0]; simp [go_sem]
  have k3 : W0.cell? ⟨w.heap.size, 3, none⟩ = some (.slice B ys.length d) := by rw [hW0]; simp [go_sem]
  have HX := Bx.mk (hx.below bw)
  have HY := Bx.mk (hy.below bw)
  clear hx hy
  have HS := Bx.mk hs
  have HT := Bx.mk hu
  clear hs hu
  cases h1 : cnOk s xs u ys with
  | false =>
    have HR : Bx (voI s xs u ys t = []) := ⟨by simp [voI, h1]⟩
    go_enter Try.func20, Try.ntmps20
    go_wp2_with fail
    rw [← hW0]
    clear hW0
    refine (specCanonOk_any _ _ _ _ _ _ _ _ _ HS.out HT.out (by exact HX.out) (by exact HY.out)).mono ?_
    rw [h1]
    rintro e w1 ⟨rfl, b⟩
    replace k0 := ((bcell b).1 _ _ (by omega)).trans k0
    replace k1 := ((bcell b).1 _ _ (by omega)).trans k1
    replace k2 := ((bcell b).1 _ _ (by omega)).trans k2
    replace k3 := ((bcell b).1 _ _ (by omega)).trans k3
    replace HX := Bx.mk (HX.out.below b)
    replace HY := Bx.mk (HY.out.below b)
    replace hz := Nat.le_trans hz b.size
    replace bw := bw.trans (b.mono bw.size)
    clear b
    go_wp2_with fail
    go_ret
    rw [HR.out]
    exact GivesInts.of_row (Row.nil _ _) (by simp) bw
  | true =>
  cases h2 : inB t (-1000) 1000 with
  | false =>
    have HR : Bx (voI s xs u ys t = []) := ⟨by simp [voI, h2]⟩
    go_enter Try.func20, Try.ntmps20
    go_wp2_with fail
    rw [← hW0]
    clear hW0
    refine (specCanonOk_any _ _ _ _ _ _ _ _ _ HS.out HT.out (by exact HX.out) (by exact HY.out)).mono ?_
    rw [h1]
    rintro e w1 ⟨rfl, b⟩
    replace k0 := ((bcell b).1 _ _ (by omega)).trans k0
    replace k1 := ((bcell b).1 _ _ (by omega)).trans k1
    replace k2 := ((bcell b).1 _ _ (by omega)).trans k2
    replace k3 := ((bcell b).1 _ _ (by omega)).trans k3
    replace HX := Bx.mk (HX.out.below b)
    replace HY := Bx.mk (HY.out.below b)
    replace hz := Nat.le_trans hz b.size
    replace bw := bw.trans (b.mono bw.size)
    clear b
    go_wp2_with (go_at_call 56; refine (l01In_any _ _ _ _).mono ?_; rintro e w' ⟨rfl, rfl⟩)
    go_ret
    rw [HR.out]
    exact GivesInts.of_row (Row.nil _ _) (by simp) bw
  | true =>
    have b2 := inB_iff.1 h2
    obtain ⟨e1, e2, e3⟩ := twoOk_iff.1 (cnOk_iff.1 h1).1
    have hsz := (rhOk_iff.1 e1).1
    have HM : Bx (∀ y ∈ ys, 0 ≤ y ∧ y < 24) := ⟨fun y hy => by have := (rhOk_iff.1 e2).2.1 y hy; have := (rhOk_iff.1 e2).1; omega⟩
    have hyl : ys.length ≤ 1000 := Nat.le_trans (rhOk_len e2).1 (by omega)
    have HR : Bx (voI s xs u ys t = vatL s xs ys t) := ⟨by simp [voI, h1, h2]⟩
    have HT2 := Bx.mk b2
    clear e1 e2 e3 b2
    go_enter Try.func20, Try.ntmps20
    go_wp2_with fail
    rw [← hW0]
    clear hW0
    refine (specCanonOk_any _ _ _ _ _ _ _ _ _ HS.out HT.out (by exact HX.out) (by exact HY.out)).mono ?_
    rw [h1]
    rintro e w1 ⟨rfl, b⟩
    replace k0 := ((bcell b).1 _ _ (by omega)).trans k0
    replace k1 := ((bcell b).1 _ _ (by omega)).trans k1
    replace k2 := ((bcell b).1 _ _ (by omega)).trans k2
    replace k3 := ((bcell b).1 _ _ (by omega)).trans k3
    replace HX := Bx.mk (HX.out.below b)
    replace HY := Bx.mk (HY.out.below b)
    replace hz := Nat.le_trans hz b.size
    replace bw := bw.trans (b.mono bw.size)
    clear b
    go_wp2_with (go_at_call 56; refine (l01In_any _ _ _ _).mono ?_; rintro e w' ⟨rfl, rfl⟩)
    refine (l12At_any _ _ _ _ _ _ _ _ _ _ hsz HM.out HT2.out (by exact HX.out) (by exact HY.out) hyl).mono ?_
    rintro e w2 ⟨A2, c2, rfl, io, b⟩
    have HF := Bx.mk (io.mono bw.size)
    have HB := Bx.mk (bw.trans (b.mono bw.size))
    clear io b
    rw [← HR.out] at HF ⊢
    go_wp2_with fail
    go_ret
    exact ⟨A2, c2, rfl, HF.out, HB.out⟩
end Go.Proofs.Ytmgemafkaddfjaa
