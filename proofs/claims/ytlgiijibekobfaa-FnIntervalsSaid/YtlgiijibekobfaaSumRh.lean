/- The sum of two rhythms and whether it is there. -/
import Derived.Test.YtlgiijibekobfaaTls
namespace Go.Proofs.Ytlgiijibekobfaa
open Go.RowKit

def sumRs (s : Int) (xs : List Int) (t : Int) (ys : List Int) : Int := if twoOk s xs t ys = true then s else 0
def sumRl (s : Int) (xs : List Int) (t : Int) (ys : List Int) : List Int := if twoOk s xs t ys = true then sumL s xs ys else []
theorem sumL_len {s : Int} {xs ys : List Int} (h : rhOk s xs = true) : (sumL s xs ys).length ≤ 24 := by
  have := (rhOk_iff.1 h).1
  have := selTo_len (sumP (sumC s xs ys)) s.toNat
  unfold sumL
  omega
set_option maxHeartbeats 1000000 in
theorem implSumRh_any (s t : Int) (A B : Option Addr) (c d : Nat) (xs ys : List Int) (w : World) (hs : -9223372036854775808 ≤ s ∧ s ≤ 9223372036854775807) (ht : -9223372036854775808 ≤ t ∧ t ≤ 9223372036854775807) (hx : IR w A xs) (hy : IR w B ys) :
    Calls Try.prog 37 #[.agg #[.int .i64 s, .slice A xs.length c], .agg #[.int .i64 t, .slice B ys.length d]] w (GivesRB w (sumRs s xs t ys) (sumRl s xs t ys) (twoOk s xs t ys)) := by
  obtain ⟨W0, hW0⟩ : ∃ W0, W0 = ((w.alloc (.cells #[.int .i64 s, .slice A xs.length c] 30)).alloc (.cells #[.int .i64 t, .slice B ys.length d] 30)).alloc (.cells #[.int .i64 0, .slice none 0 0] 30) := ⟨_, rfl⟩
  have bw : Below w.heap.size w W0 := by rw [hW0]; exact ((below_alloc _ _).alloc (by simp) _).alloc (by simp <;> omega) _
  have hz : w.heap.size + 3 ≤ W0.heap.size := by rw [hW0]; simp
  have k0 : W0.cell? ⟨w.heap.size, 0, none⟩ = some (.int .i64 s) := by rw [hW0]; simp [go_sem]
  have k1 : W0.cell? ⟨w.heap.size, 1, none⟩ = some (.slice A xs.length c) := by rw [hW0]; simp [go_sem]
  have k2 : W0.cell? ⟨w.heap.size + 1, 0, none⟩ = some (.int .i64 t) := by rw [hW0]; simp [go_sem]
  have k3 : W0.cell? ⟨w.heap.size + 1, 1, none⟩ = some (.slice B ys.length d) := by rw [hW0]; simp [go_sem]
  have R0 : Blk W0 (w.heap.size + 1 + 1) 30 #[.int .i64 0, .slice none 0 0] := by rw [hW0]; have := Blk.new ((w.alloc (.cells #[.int .i64 s, .slice A xs.length c] 30)).alloc (.cells #[.int .i64 t, .slice B ys.length d] 30)) 30 #[.int .i64 0, .slice none 0 0]; simpa using this
  have HX := Bx.mk (hx.below bw)
  have HY := Bx.mk (hy.below bw)
  have HS := Bx.mk hs
  have HT := Bx.mk ht
  clear hx hy hs ht
  cases h1 : twoOk s xs t ys with
  | false =>
    have HR : Bx (sumRs s xs t ys = 0 ∧ sumRl s xs t ys = []) := ⟨by simp [sumRs, sumRl, h1]⟩
    go_enter Try.func37, Try.ntmps37
    go_wp2_with fail
    rw [← hW0]
    clear hW0
    refine (implSame_any _ _ _ _ _ _ _ _ _ HS.out HT.out (by exact HX.out) (by exact HY.out)).mono ?_
    rintro e w1 ⟨rfl, b⟩
    replace R0 := R0.below b (by omega)
    replace k0 := ((bcell b).1 _ _ (by omega)).trans k0
    replace k1 := ((bcell b).1 _ _ (by omega)).trans k1
    replace k2 := ((bcell b).1 _ _ (by omega)).trans k2
    replace k3 := ((bcell b).1 _ _ (by omega)).trans k3
    replace HX := Bx.mk (HX.out.below b)
    replace HY := Bx.mk (HY.out.below b)
    replace hz := Nat.le_trans hz b.size
    replace bw := bw.trans (b.mono bw.size)
    clear b
    have cr0 := R0.at_ (i := 0) rfl
    have cr1 := R0.at_ (i := 1) rfl
    have fr0 := R0.frozen 0
    have fr1 := R0.frozen 1
    have RF := Bx.mk ((R0.set 0 (.int .i64 0)).set 1 (.slice none 0 0))
    have BF := Bx.mk ((bw.setCell (p := ⟨w.heap.size + 1 + 1, 0, none⟩) (show w.heap.size ≤ w.heap.size + 1 + 1 by omega) (.int .i64 0)).setCell (p := ⟨w.heap.size + 1 + 1, 1, none⟩) (show w.heap.size ≤ w.heap.size + 1 + 1 by omega) (.slice none 0 0))
    clear R0
    go_wp2_with fail
    refine bodyPost_ret (v := .tuple #[.agg #[.int .i64 0, .slice none 0 0], .bool false]) (by simp [results, Try.results37, go_sem, RF.out.at_ (i := 0) rfl, RF.out.at_ (i := 1) rfl]) rfl ⟨none, 0, ?_, ?_, BF.out⟩
    · rw [HR.out.1, HR.out.2]; rfl
    · rw [HR.out.2]; exact IO.nil _ _
  | true =>
    obtain ⟨e1, e2, e3⟩ := twoOk_iff.1 h1
    subst e3
    have HR : Bx (sumRs s xs s ys = s ∧ sumRl s xs s ys = sumL s xs ys) := ⟨by simp [sumRs, sumRl, h1]⟩
    have H1 := Bx.mk e1
    have H2 := Bx.mk e2
    clear e1 e2
    go_enter Try.func37, Try.ntmps37
    go_wp2_with fail
    rw [← hW0]
    clear hW0
    refine (implSame_any _ _ _ _ _ _ _ _ _ HS.out HT.out (by exact HX.out) (by exact HY.out)).mono ?_
    rintro e w1 ⟨rfl, b⟩
    replace R0 := R0.below b (by omega)
    replace k0 := ((bcell b).1 _ _ (by omega)).trans k0
    replace k1 := ((bcell b).1 _ _ (by omega)).trans k1
    replace k2 := ((bcell b).1 _ _ (by omega)).trans k2
    replace k3 := ((bcell b).1 _ _ (by omega)).trans k3
    replace HX := Bx.mk (HX.out.below b)
    replace HY := Bx.mk (HY.out.below b)
    replace hz := Nat.le_trans hz b.size
    replace bw := bw.trans (b.mono bw.size)
    clear b
    go_wp2_with fail
    refine (sum_any _ _ _ _ _ _ _ _ H1.out H2.out (by exact HX.out) (by exact HY.out)).mono ?_
    rintro e w2 ⟨A2, c2, rfl, io, b⟩
    have bw2 := bw.trans (b.mono bw.size)
    replace R0 := R0.below b (by omega)
    have RF := Bx.mk ((R0.set 0 (.int .i64 s)).set 1 (.slice A2 (sumL s xs ys).length c2))
    have BF := Bx.mk ((bw2.setCell (p := ⟨w.heap.size + 1 + 1, 0, none⟩) (show w.heap.size ≤ w.heap.size + 1 + 1 by omega) (.int .i64 s)).setCell (p := ⟨w.heap.size + 1 + 1, 1, none⟩) (show w.heap.size ≤ w.heap.size + 1 + 1 by omega) (.slice A2 (sumL s xs ys).length c2))
    have HIO := Bx.mk ((io.setLow (p := ⟨w.heap.size + 1 + 1, 0, none⟩) (show w.heap.size + 1 + 1 < w1.heap.size by omega) (.int .i64 s)).setLow (p := ⟨w.heap.size + 1 + 1, 1, none⟩) (show w.heap.size + 1 + 1 < w1.heap.size by omega) (.slice A2 (sumL s xs ys).length c2))
    have hwm : w.heap.size ≤ w1.heap.size := by omega
    have cr0 := R0.at_ (i := 0) rfl
    have cr1 := R0.at_ (i := 1) rfl
    have fr0 := R0.frozen 0
    have fr1 := R0.frozen 1
    clear R0 io b
    go_wp2_with fail
    refine bodyPost_ret (v := .tuple #[.agg #[.int .i64 s, .slice A2 (sumL s xs ys).length c2], .bool true]) (by simp [results, Try.results37, go_sem, RF.out.at_ (i := 0) rfl, RF.out.at_ (i := 1) rfl]) rfl ⟨A2, c2, ?_, ?_, BF.out⟩
    · rw [HR.out.1, HR.out.2]
    · rw [HR.out.2]; exact HIO.out.mono hwm
end Go.Proofs.Ytlgiijibekobfaa
