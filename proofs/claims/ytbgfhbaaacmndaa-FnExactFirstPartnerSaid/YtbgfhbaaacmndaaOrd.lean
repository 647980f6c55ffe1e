/- The orders at which a rhythm vanishes. -/
import Derived.Test.YtbgfhbaaacmndaaDvs
import Derived.Test.YtbgfhbaaacmndaaDivs
namespace Go.Proofs.Ytbgfhbaaacmndaa
open Go.RowKit

/-- the test by which orders go -/
def vq (s : Int) (xs : List Int) (d : Int) : Bool := d == 1 || !vanI s xs d
def ordTo (s : Int) (xs : List Int) (k : Nat) : List Int := (divTo s k).filter (qn (vq s xs))
def ordL (s : Int) (xs : List Int) : List Int := (divs s).filter (qn (vq s xs))
def ordI (s : Int) (xs : List Int) : List Int := if rhOk s xs = true then ordL s xs else []
theorem divs_small {s : Int} (hs : 1 ≤ s ∧ s ≤ 24) : divs s = divTo s s.toNat := by unfold divs; rw [if_pos (inB_yes (by omega))]
theorem ordTo_len (s : Int) (xs : List Int) (k : Nat) : (ordTo s xs k).length ≤ k := Nat.le_trans (List.length_filter_le _ _) (divTo_len s k)
theorem ordI_len (s : Int) (xs : List Int) : (ordI s xs).length ≤ 24 := by
  unfold ordI
  split
  · rename_i h
    have hs := (rhOk_iff.1 h).1
    unfold ordL
    rw [divs_small hs]
    have := ordTo_len s xs s.toNat
    unfold ordTo at this
    omega
  · simp
theorem ordTo_hit {s : Int} {xs : List Int} {k : Nat} (h1 : 1 ≤ k) (h0 : s % ((k : Int) + 1) = 0) (hv : vanI s xs ((k : Int) + 1) = true) : ordTo s xs (k + 1) = ordTo s xs k ++ [(k : Int) + 1] := by
  unfold ordTo
  rw [divTo_hit s k h0, List.filter_append]
  congr 1
  have : ((k : Int) + 1 == 1) = false := by simp; omega
  simp [qn, vq, hv, this]
theorem ordTo_out {s : Int} {xs : List Int} {k : Nat} (h0 : s % ((k : Int) + 1) = 0) (hv : vanI s xs ((k : Int) + 1) = false) : ordTo s xs (k + 1) = ordTo s xs k := by
  unfold ordTo
  rw [divTo_hit s k h0, List.filter_append]
  simp [qn, vq, hv]
theorem ordTo_miss {s : Int} {xs : List Int} {k : Nat} (h0 : s % ((k : Int) + 1) ≠ 0) : ordTo s xs (k + 1) = ordTo s xs k := by
  unfold ordTo
  rw [divTo_miss s k h0]
theorem ordTo_one (s : Int) (xs : List Int) : ordTo s xs 1 = [] := by
  unfold ordTo
  simp [divTo, qn, vq]
theorem GivesInts.mono' {w w1 w' : World} {A : Option Addr} {c : Nat} {xs : List Int} (hio : IO w' w1.heap.size A c xs) (bw : Below w.heap.size w w1) (b : Below w1.heap.size w1 w') : GivesInts w xs (.returned (.slice A xs.length c)) w' :=
  ⟨A, c, rfl, hio.mono bw.size, bw.trans (b.mono bw.size)⟩
set_option maxHeartbeats 400000 in
theorem closV (s : Int) (A : Option Addr) (c : Nat) (xs : List Int) (x : Int) (g : Nat) (w : World) (hs : -9223372036854775808 ≤ s ∧ s ≤ 9223372036854775807) (hx : IR w A xs) (k0 : w.cell? ⟨g, 0, none⟩ = some (.int .i64 s)) (k1 : w.cell? ⟨g, 1, none⟩ = some (.slice A xs.length c)) :
    Calls Try.prog 84 #[.int .i64 x, .pointer (some ⟨g, 0, none⟩)] w fun e w' => e = .returned (.bool (vq s xs x)) ∧ Below w.heap.size w w' := by
  have HX := Bx.mk hx
  have HS := Bx.mk hs
  clear hx hs
  by_cases h1 : x = 1
  · subst h1
    have HR : Bx (vq s xs 1 = true) := ⟨by simp [vq]⟩
    go_enter Try.func84, Try.ntmps84
    go_wp2_with fail
    go_ret
    exact ⟨ret_bool HR.out.symm, Below.refl _ _⟩
  · have hb : (x == 1) = false := by simp; omega
    have HR : Bx (vq s xs x = !vanI s xs x) := ⟨by simp [vq, hb]⟩
    clear h1
    go_enter Try.func84, Try.ntmps84
    go_wp2_with fail
    refine (implVan_any _ _ _ _ _ _ HS.out (by exact HX.out)).mono ?_
    rintro e w1 ⟨rfl, b⟩
    go_wp2_with fail
    go_ret
    exact ⟨ret_bool HR.out.symm, b⟩
set_option maxHeartbeats 1000000 in
theorem implOrd_any (s : Int) (A : Option Addr) (c : Nat) (xs : List Int) (w : World) (hs : -9223372036854775808 ≤ s ∧ s ≤ 9223372036854775807) (hx : IR w A xs) :
    Calls Try.prog 71 #[.agg #[.int .i64 s, .slice A xs.length c]] w (GivesInts w (ordI s xs)) := by
  obtain ⟨W0, hW0⟩ : ∃ W0, W0 = w.alloc (.cells #[.int .i64 s, .slice A xs.length c] 27) := ⟨_, rfl⟩
  have bw : Below w.heap.size w W0 := by rw [hW0]; exact below_alloc _ _
  have hz : w.heap.size < W0.heap.size := by rw [hW0]; simp
  have k0 : W0.cell? ⟨w.heap.size, 0, none⟩ = some (.int .i64 s) := by rw [hW0]; simp [go_sem]
  have k1 : W0.cell? ⟨w.heap.size, 1, none⟩ = some (.slice A xs.length c) := by rw [hW0]; simp [go_sem]
  have HX := Bx.mk ((RB.of_ir hx).below bw (Nat.le_refl _))
  have HS := Bx.mk hs
  clear hx hs
  cases h1 : rhOk s xs with
  | false =>
    have HR : Bx (ordI s xs = []) := ⟨by simp [ordI, h1]⟩
    go_enter Try.func71, Try.ntmps71
    go_wp2_with fail
    rw [← hW0]
    clear hW0
    refine (rhOk_is' h1 (implRhythmOk_any _ _ _ _ _ HS.out (by exact HX.out.ir))).mono ?_
    rintro e w1 ⟨rfl, b⟩
    replace k0 := ((bcell b).1 _ _ (by omega)).trans k0
    replace k1 := ((bcell b).1 _ _ (by omega)).trans k1
    replace HX := Bx.mk (HX.out.below b (by omega))
    replace hz := Nat.lt_of_lt_of_le hz b.size
    replace bw := bw.trans (b.mono bw.size)
    clear b
    go_wp2_with fail
    go_ret
    rw [HR.out]
    exact GivesInts.of_row (Row.nil _ _) (by simp) bw
  | true =>
    have HR : Bx (ordI s xs = (divs s).filter (qn (vq s xs))) := ⟨by simp [ordI, h1]; rfl⟩
    go_enter Try.func71, Try.ntmps71
    go_wp2_with fail
    rw [← hW0]
    clear hW0
    refine (rhOk_is' h1 (implRhythmOk_any _ _ _ _ _ HS.out (by exact HX.out.ir))).mono ?_
    rintro e w1 ⟨rfl, b⟩
    replace k0 := ((bcell b).1 _ _ (by omega)).trans k0
    replace k1 := ((bcell b).1 _ _ (by omega)).trans k1
    replace HX := Bx.mk (HX.out.below b (by omega))
    replace hz := Nat.lt_of_lt_of_le hz b.size
    replace bw := bw.trans (b.mono bw.size)
    clear b
    go_wp2_with fail
    refine (implDivisorsOf_any _ _).mono ?_
    rintro e w2 ⟨A2, c2, rfl, io, b⟩
    replace k0 := ((bcell b).1 _ _ (by omega)).trans k0
    replace k1 := ((bcell b).1 _ _ (by omega)).trans k1
    replace HX := Bx.mk (HX.out.below b (by omega))
    have hb := b
    have HC : Bx (∀ x ∈ divs s, ∀ W, Below w1.heap.size w2 W → Calls Try.prog 84 #[.int .i64 x, .pointer (some ⟨w.heap.size, 0, none⟩)] W fun e w' => e = .returned (.bool (vq s xs x)) ∧ Below W.heap.size W w') :=
      ⟨fun x _ W hW => closV s A c xs x _ W HS.out (HX.out.below hW (by omega)).ir (((bcell hW).1 _ _ (by omega)).trans k0) (((bcell hW).1 _ _ (by omega)).trans k1)⟩
    have hl := divs_len s
    have hz2 := b.size
    have HIO := Bx.mk io
    have BW := Bx.mk bw
    have HB := Bx.mk hb
    clear b io bw hb
    go_wp2_with fail
    refine (delDelV (vq s xs) w1.heap.size w1.heap.size _ _ _ _ _ (Nat.le_refl _) (by exact hz2) (by exact hl) (by exact HIO.out) HC).mono ?_
    rintro e w3 ⟨rfl, io3, b3⟩
    have HF := Bx.mk (GivesInts.mono' io3 BW.out (HB.out.trans b3))
    clear b3 io3
    rw [← HR.out] at HF ⊢
    go_wp2_with fail
    go_ret
    exact HF.out
set_option maxHeartbeats 1000000 in
theorem specOrd_any (s : Int) (A : Option Addr) (c : Nat) (xs : List Int) (w : World) (hs : -9223372036854775808 ≤ s ∧ s ≤ 9223372036854775807) (hx : IR w A xs) :
    Calls Try.prog 67 #[.agg #[.int .i64 s, .slice A xs.length c]] w (GivesInts w (ordI s xs)) := by
  obtain ⟨W0, hW0⟩ : ∃ W0, W0 = w.alloc (.cells #[.int .i64 s, .slice A xs.length c] 27) := ⟨_, rfl⟩
  have bw : Below w.heap.size w W0 := by rw [hW0]; exact below_alloc _ _
  have hz : w.heap.size < W0.heap.size := by rw [hW0]; simp
  have k0 : W0.cell? ⟨w.heap.size, 0, none⟩ = some (.int .i64 s) := by rw [hW0]; simp [go_sem]
  have k1 : W0.cell? ⟨w.heap.size, 1, none⟩ = some (.slice A xs.length c) := by rw [hW0]; simp [go_sem]
  have HX := Bx.mk ((RB.of_ir hx).below bw (Nat.le_refl _))
  have HS := Bx.mk hs
  clear hx hs
  cases h1 : rhOk s xs with
  | false =>
    have HR : Bx (ordI s xs = []) := ⟨by simp [ordI, h1]⟩
    go_enter Try.func67, Try.ntmps67
    go_wp2_with fail
    rw [← hW0]
    clear hW0
    refine (rhOk_is' h1 (specRhythmOk_any _ _ _ _ _ HS.out (by exact HX.out.ir))).mono ?_
    rintro e w1 ⟨rfl, b⟩
    replace k0 := ((bcell b).1 _ _ (by omega)).trans k0
    replace k1 := ((bcell b).1 _ _ (by omega)).trans k1
    replace HX := Bx.mk (HX.out.below b (by omega))
    replace hz := Nat.lt_of_lt_of_le hz b.size
    replace bw := bw.trans (b.mono bw.size)
    clear b
    go_wp2_with fail
    go_ret
    rw [HR.out]
    exact GivesInts.of_row (Row.nil _ _) (by simp) bw
  | true =>
    have hs := (rhOk_iff.1 h1).1
    have HR : Bx (ordI s xs = ordTo s xs s.toNat) := ⟨by simp only [ordI, h1, if_true]; unfold ordL ordTo; rw [divs_small hs]⟩
    obtain ⟨hs1, hs2⟩ := hs
    go_enter Try.func67, Try.ntmps67
    go_wp2_with fail
    rw [← hW0]
    clear hW0
    refine (rhOk_is' h1 (specRhythmOk_any _ _ _ _ _ HS.out (by exact HX.out.ir))).mono ?_
    rintro e w1 ⟨rfl, b⟩
    replace k0 := ((bcell b).1 _ _ (by omega)).trans k0
    replace k1 := ((bcell b).1 _ _ (by omega)).trans k1
    replace HX := Bx.mk (HX.out.below b (by omega))
    replace hz := Nat.lt_of_lt_of_le hz b.size
    replace bw := bw.trans (b.mono bw.size)
    clear b
    have HRW := Bx.mk (Row.empty w1 w1.heap.size (Nat.le_refl _))
    obtain ⟨w2, hw2⟩ : ∃ w2, w2 = w1.alloc (.cells #[] 3) := ⟨_, rfl⟩
    obtain ⟨B, hB⟩ : ∃ B, B = w1.heap.size := ⟨_, rfl⟩
    have b : Below B w1 w2 := by rw [hw2, hB]; exact below_alloc _ _
    rw [← hw2, ← hB] at HRW
    go_wp2_with fail
    rw [← hw2, ← hB]
    replace k0 := ((bcell b).1 _ _ (by omega)).trans k0
    replace k1 := ((bcell b).1 _ _ (by omega)).trans k1
    replace HX := Bx.mk (HX.out.below b (by omega))
    have hzb := b.size
    have HBW : Bx (Below w.heap.size w w2) := ⟨bw.trans (b.mono (by omega))⟩
    have hB2 : B ≤ w2.heap.size := by omega
    have hwB : w.heap.size < B := by omega
    have HX2 : Bx (RB 0 B w2 A xs) := ⟨⟨HX.out.ir, fun h x hx => by have := HX.out.2 h x hx; omega⟩⟩
    clear hw2 hB b bw hz HX hzb
    go_loopw [3, 4] (fun v' d wr => ∃ (k : Nat) (v : Value), v' = v ∧ 1 ≤ k ∧ (k : Int) ≤ s ∧ d = .int .i64 ((k : Int) + 1) ∧ Row wr B v (ordTo s xs k) ∧ Below B w2 wr) (fun _ d _ => (s + 1 - intOf d).toNat)
    case atStart => exact ⟨1, _, rfl, Nat.le_refl _, by omega, rfl, by rw [ordTo_one]; exact HRW.out, Below.refl _ _⟩
    case round =>
      obtain ⟨k, v, rfl, hk1, hk, rfl, hown, hb⟩ := hrel
      clear HRW
      have hlen := ordTo_len s xs k
      have q0 := ((bcell hb).1 _ _ (by omega)).trans k0
      have q1 := ((bcell hb).1 _ _ (by omega)).trans k1
      have hXr := Bx.mk (HX2.out.below hb (Nat.le_refl _)).ir
      have hzr := hb.size
      by_cases hlt : (k : Int) + 1 ≤ s
      · by_cases hd : s % ((k : Int) + 1) = 0
        · have HD := Bx.mk hd
          have hdb : (s % ((k : Int) + 1) == 0) = true := by simp [hd]
          clear hd
          cases hv : vanI s xs ((k : Int) + 1) with
          | true =>
            have HN := Bx.mk (ordTo_hit (s := s) (xs := xs) hk1 HD.out hv)
            have HO := Bx.mk hown
            have HB := Bx.mk hb
            clear hown hb
            go_wp2_with fail
            refine (specVan_any _ _ _ _ _ _ HS.out (by exact hXr.out)).mono ?_
            rw [hv]
            rintro e w3 ⟨rfl, b⟩
            have HO3 := Bx.mk (HO.out.below b (Nat.le_refl _))
            have HB3 := HB.out.trans (b.mono (by omega))
            have hz3 := HB3.size
            clear b
            go_wp2_with (at_builtin; go_must (refine wpList_app1 rfl _ _ rfl B _ (ordTo s xs k) ((k : Int) + 1) rfl rfl (by exact HO3.out) (by omega) (by omega) ?_); intro v1 w4 hown1 hb1)
            have R := Bx.mk (And.intro hown1 (HB3.trans hb1))
            clear hown1 hb1 HB3
            go_wp2_with fail
            go_roundw
            case rel => exact ⟨k + 1, _, rfl, by omega, by omega, by go_num, by rw [HN.out]; exact R.out.1, R.out.2⟩
            case measure => simp [intOf]; omega
          | false =>
            have HN := Bx.mk (ordTo_out (s := s) (xs := xs) HD.out hv)
            have HO := Bx.mk hown
            have HB := Bx.mk hb
            clear hown hb
            go_wp2_with fail
            refine (specVan_any _ _ _ _ _ _ HS.out (by exact hXr.out)).mono ?_
            rw [hv]
            rintro e w3 ⟨rfl, b⟩
            have HO3 := Bx.mk (HO.out.below b (Nat.le_refl _))
            have HB3 := Bx.mk (HB.out.trans (b.mono (by omega)))
            clear b
            go_wp2_with fail
            go_roundw
            case rel => exact ⟨k + 1, _, rfl, by omega, by omega, by go_num, by rw [HN.out]; exact HO3.out, HB3.out⟩
            case measure => simp [intOf]; omega
        · have HN := Bx.mk (ordTo_miss (s := s) (xs := xs) hd)
          have hdb : (s % ((k : Int) + 1) == 0) = false := by simp [hd]
          clear hd
          go_wp2_with fail
          go_roundw
          case rel => exact ⟨k + 1, _, rfl, by omega, by omega, by go_num, by rw [HN.out]; exact hown, hb⟩
          case measure => simp [intOf]; omega
      · have hkn : k = s.toNat := by omega
        obtain ⟨A', c', e, hio⟩ := hown.io (by omega)
        subst e
        have HF : Bx (GivesInts w (ordI s xs) (.returned (.slice A' (ordTo s xs k).length c')) wr) := ⟨by
          rw [HR.out, ← hkn]
          exact ⟨A', c', rfl, hio.mono (by omega), HBW.out.trans (hb.mono (by omega))⟩⟩
        clear hkn hio hown
        go_wp2_with fail
        go_ret
        exact HF.out
end Go.Proofs.Ytbgfhbaaacmndaa
