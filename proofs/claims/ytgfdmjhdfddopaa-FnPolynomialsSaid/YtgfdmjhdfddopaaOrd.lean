/- The orders at which a rhythm vanishes. -/
import Derived.Test.YtgfdmjhdfddopaaDvs
import Derived.Test.YtgfdmjhdfddopaaDivs
namespace Go.Proofs.Ytgfdmjhdfddopaa
open Go.RowKit
set_option maxRecDepth 20000

/-- the test by which orders go -/
def vq (s : Int) (xs : List Int) (d : Int) : Bool := d == 1 || !vanI s xs d
def ordTo (s : Int) (xs : List Int) (k : Nat) : List Int := (divTo s k).filter (qn (vq s xs))
def ordL (s : Int) (xs : List Int) : List Int := (divs s).filter (qn (vq s xs))
def ordI (s : Int) (xs : List Int) : List Int := if rhOk s xs = true then ordL s xs else []
theorem divs_small {s : Int} (hs : 1 ≤ s ∧ s ≤ 24) : divs s = divTo s s.toNat := by unfold divs; rw [if_pos (inB_yes (by omega))]
theorem ordTo_len (s : Int) (xs : List Int) (k : Nat) : (ordTo s xs k).length ≤ k := Nat.le_trans (List.length_filter_le _ _) (divTo_len s k)
theorem ordI_len (s : Int) (xs : List Int) : (ordI s xs).length ≤ 24 := by
  unfold ordI
  split
  · rename_i h
    have hs := (rhOk_iff.1 h).1
    unfold ordL
    rw [divs_small hs]
    have := ordTo_len s xs s.toNat
    unfold ordTo at this
    omega
  · simp
theorem ordTo_hit {s : Int} {xs : List Int} {k : Nat} (h1 : 1 ≤ k) (h0 : s % ((k : Int) + 1) = 0) (hv : vanI s xs ((k : Int) + 1) = true) : ordTo s xs (k + 1) = ordTo s xs k ++ [(k : Int) + 1] := by
  unfold ordTo
  rw [divTo_hit s k h0, List.filter_append]
  congr 1
  have : ((k : Int) + 1 == 1) = false := by simp; omega
  simp [qn, vq, hv, this]
theorem ordTo_out {s : Int} {xs : List Int} {k : Nat} (h0 : s % ((k : Int) + 1) = 0) (hv : vanI s xs ((k : Int) + 1) = false) : ordTo s xs (k + 1) = ordTo s xs k := by
  unfold ordTo
  rw [divTo_hit s k h0, List.filter_append]
  simp [qn, vq, hv]
theorem ordTo_miss {s : Int} {xs : List Int} {k : Nat} (h0 : s % ((k : Int) + 1) ≠ 0) : ordTo s xs (k + 1) = ordTo s xs k := by
  unfold ordTo
  rw [divTo_miss s k h0]
theorem ordTo_one (s : Int) (xs : List Int) : ordTo s xs 1 = [] := by
  unfold ordTo
  simp [divTo, qn, vq]
theorem GivesInts.mono' {w w1 w' : World} {A : Option Addr} {c : Nat} {xs : List Int} (hio : IO w' w1.heap.size A c xs) (bw : Below w.heap.size w w1) (b : Below w1.heap.size w1 w') : GivesInts w xs (.returned (.slice A xs.length c)) w' :=
  ⟨A, c, rfl, hio.mono bw.size, bw.trans (b.mono bw.size)⟩
set_option maxHeartbeats 400000 in
theorem closV (s : Int) (A : Option Addr) (c : Nat) (xs : List Int) (x : Int) (g : Nat) (w : World) (hs : -9223372036854775808 ≤ s ∧ s ≤ 9223372036854775807) (hx : IR w A xs) (k0 : w.cell? ⟨g, 0, none⟩ = some (.int .i64 s)) (k1 : w.cell? ⟨g, 1, none⟩ = some (.slice A xs.length c)) :
    Calls Try.prog 37 #[.int .i64 x, .pointer (some ⟨g, 0, none⟩)] w fun e w' => e = .returned (.bool (vq s xs x)) ∧ Below w.heap.size w w' := by
  have HX := Bx.mk hx
  have HS := Bx.mk hs
  clear hx hs
  by_cases h1 : x = 1
  · subst h1
    have HR : Bx (vq s xs 1 = true) := ⟨by simp [vq]⟩
    go_enter Try.func37, Try.ntmps37
    go_wp2_with fail
    go_ret
    exact ⟨ret_bool HR.out.symm, Below.refl _ _⟩
  · have hb : (x == 1) = false := by simp; omega
    have HR : Bx (vq s xs x = !vanI s xs x) := ⟨by simp [vq, hb]⟩
    clear h1
    go_enter Try.func37, Try.ntmps37
    go_wp2_with fail
    refine (implVan_any _ _ _ _ _ _ HS.out (by exact HX.out)).mono ?_
    rintro e w1 ⟨rfl, b⟩
    go_wp2_with fail
    go_ret
    exact ⟨ret_bool HR.out.symm, b⟩
set_option maxHeartbeats 1000000 in
theorem implOrd_any (s : Int) (A : Option Addr) (c : Nat) (xs : List Int) (w : World) (hs : -9223372036854775808 ≤ s ∧ s ≤ 9223372036854775807) (hx : IR w A xs) :
    Calls Try.prog 10 #[.agg #[.int .i64 s, .slice A xs.length c]] w (GivesInts w (ordI s xs)) := by
  obtain ⟨W0, hW0⟩ : ∃ W0, W0 = w.alloc (.cells #[.int .i64 s, .slice A xs.length c] 25) := ⟨_, rfl⟩
  have bw : Below w.heap.size w W0 := by rw [hW0]; exact below_alloc _ _
  have hz : w.heap.size < W0.heap.size := by rw [hW0]; simp
  have k0 : W0.cell? ⟨w.heap.size, 0, none⟩ = some (.int .i64 s) := by rw [hW0]; simp [go_sem]
  have k1 : W0.cell? ⟨w.heap.size, 1, none⟩ = some (.slice A xs.length c) := by rw [hW0]; simp [go_sem]
  have HX := Bx.mk ((RB.of_ir hx).below bw (Nat.le_refl _))
  have HS := Bx.mk hs
  clear hx hs
  cases h1 : rhOk s xs with
  | false =>
    have HR : Bx (ordI s xs = []) := ⟨by simp [ordI, h1]⟩
    go_enter Try.func10, Try.ntmps10
    go_wp2_with fail
    rw [← hW0]
    clear hW0
    refine (rhOk_is' h1 (implRhythmOk_any _ _ _ _ _ HS.out (by exact HX.out.ir))).mono ?_
    rintro e w1 ⟨rfl, b⟩
    replace k0 := ((bcell b).1 _ _ (by omega)).trans k0
    replace k1 := ((bcell b).1 _ _ (by omega)).trans k1
    replace HX := Bx.mk (HX.out.below b (by omega))
    replace hz := Nat.lt_of_lt_of_le hz b.size
    replace bw := bw.trans (b.mono bw.size)
    clear b
    go_wp2_with fail
    go_ret
    rw [HR.out]
    exact GivesInts.of_row (Row.nil _ _) (by simp) bw
  | true =>
    have HR : Bx (ordI s xs = (divs s).filter (qn (vq s xs))) := ⟨by simp [ordI, h1]; rfl⟩
    go_enter Try.func10, Try.ntmps10
    go_wp2_with fail
    rw [← hW0]
    clear hW0
    refine (rhOk_is' h1 (implRhythmOk_any _ _ _ _ _ HS.out (by exact HX.out.ir))).mono ?_
    rintro e w1 ⟨rfl, b⟩
    replace k0 := ((bcell b).1 _ _ (by omega)).trans k0
    replace k1 := ((bcell b).1 _ _ (by omega)).trans k1
    replace HX := Bx.mk (HX.out.below b (by omega))
    replace hz := Nat.lt_of_lt_of_le hz b.size
    replace bw := bw.trans (b.mono bw.size)
    clear b
    go_wp2_with fail
    refine (implDivisorsOf_any _ _).mono ?_
    rintro e w2 ⟨A2, c2, rfl, io, b⟩
    replace k0 := ((bcell b).1 _ _ (by omega)).trans k0
    replace k1 := ((bcell b).1 _ _ (by omega)).trans k1
    replace HX := Bx.mk (HX.out.below b (by omega))
    have hb := b
    have HC : Bx (∀ x ∈ divs s, ∀ W, Below w1.heap.size w2 W → Calls Try.prog 37 #[.int .i64 x, .pointer (some ⟨w.heap.size, 0, none⟩)] W fun e w' => e = .returned (.bool (vq s xs x)) ∧ Below W.heap.size W w') :=
      ⟨fun x _ W hW => closV s A c xs x _ W HS.out (HX.out.below hW (by omega)).ir (((bcell hW).1 _ _ (by omega)).trans k0) (((bcell hW).1 _ _ (by omega)).trans k1)⟩
    have hl := divs_len s
    have hz2 := b.size
    have HIO := Bx.mk io
    have BW := Bx.mk bw
    have HB := Bx.mk hb
    clear b io bw hb
    go_wp2_with fail
    refine (delDelV (vq s xs) w1.heap.size w1.heap.size _ _ _ _ _ (Nat.le_refl _) (by exact hz2) (by exact hl) (by exact HIO.out) HC).mono ?_
    rintro e w3 ⟨rfl, io3, b3⟩
    have HF := Bx.mk (GivesInts.mono' io3 BW.out (HB.out.trans b3))
    clear b3 io3
    rw [← HR.out] at HF ⊢
    go_wp2_with fail
    go_ret
    exact HF.out
end Go.Proofs.Ytgfdmjhdfddopaa
