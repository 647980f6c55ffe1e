/- Two rhythms joined. -/
import Derived.Test.YtlgiijibekobfaaCat
import Derived.Test.YtlgiijibekobfaaSumRh
import Derived.Deep.RegionHeld3
import Derived.Deep.DeepCutAuto
namespace Go.Proofs.Ytlgiijibekobfaa
open Go.RowKit

set_option linter.unusedSimpArgs false in
set_option maxHeartbeats 2000000 in
set_option maxRecDepth 20000 in
theorem implJoin_ok (s : Int) (A B : Option Addr) (c d : Nat) (xs ys : List Int) (w : World) (h1 : rhOk s xs = true) (h2 : rhOk s ys = true) (hx : IR w A xs) (hy : IR w B ys) :
    Calls Try.prog 17 #[.agg #[.int .i64 s, .slice A xs.length c], .agg #[.int .i64 s, .slice B ys.length d]] w (GivesRB w s (coll (modL s (xs ++ ys))) true) := by
  obtain ⟨zs, hzs⟩ : ∃ zs, zs = xs ++ ys := ⟨_, rfl⟩
  rw [← hzs]
  have HZ := Bx.mk hzs
  obtain ⟨L, hL⟩ : ∃ L, L = coll (modL s zs) := ⟨_, rfl⟩
  rw [← hL]
  have HL := Bx.mk hL
  clear hL
  obtain ⟨W0, hW0⟩ : ∃ W0, W0 = ((w.alloc (.cells #[.int .i64 s, .slice A xs.length c] 30)).alloc (.cells #[.int .i64 s, .slice B ys.length d] 30)).alloc (.cells #[.int .i64 0, .slice none 0 0] 30) := ⟨_, rfl⟩
  have bw : Below w.heap.size w W0 := by rw [hW0]; exact ((below_alloc _ _).alloc (by simp) _).alloc (by simp <;> omega) _
  have hz : w.heap.size + 3 ≤ W0.heap.size := by rw [hW0]; simp
  have k0 : W0.cell? ⟨w.heap.size, 0, none⟩ = some (.int .i64 s) := by rw [hW0]; simp [go_sem]
  have k1 : W0.cell? ⟨w.heap.size, 1, none⟩ = some (.slice A xs.length c) := by rw [hW0]; simp [go_sem]
  have k2 : W0.cell? ⟨w.heap.size + 1, 0, none⟩ = some (.int .i64 s) := by rw [hW0]; simp [go_sem]
  have k3 : W0.cell? ⟨w.heap.size + 1, 1, none⟩ = some (.slice B ys.length d) := by rw [hW0]; simp [go_sem]
  have R0 : Blk W0 (w.heap.size + 1 + 1) 30 #[.int .i64 0, .slice none 0 0] := by rw [hW0]; have := Blk.new ((w.alloc (.cells #[.int .i64 s, .slice A xs.length c] 30)).alloc (.cells #[.int .i64 s, .slice B ys.length d] 30)) 30 #[.int .i64 0, .slice none 0 0]; simpa using this
  have HX := Bx.mk (hx.below bw)
  have HY := Bx.mk (hy.below bw)
  have hs := (rhOk_iff.1 h1).1
  have HS : Bx (-9223372036854775808 ≤ s ∧ s ≤ 9223372036854775807) := ⟨by omega⟩
  have HTW : Bx (twoOk s xs s ys = true) := ⟨twoOk_iff.2 ⟨h1, h2, rfl⟩⟩
  have HXL := Bx.mk (rhOk_len h1).1
  have HYL := Bx.mk (rhOk_len h2).1
  have HMB : Bx (∀ x ∈ zs, -1000000000000 ≤ x ∧ x ≤ 1000000000000) := ⟨fun x hx => by
    rw [hzs] at hx
    rcases List.mem_append.1 hx with h | h
    · have := (rhOk_iff.1 h1).2.1 x h; omega
    · have := (rhOk_iff.1 h2).2.1 x h; omega⟩
  have HLL : Bx (zs.length ≤ 100000) := ⟨by rw [hzs, List.length_append]; have := HXL.out; have := HYL.out; omega⟩
  have HSB := Bx.mk hs
  clear hx hy hs h1 h2 hzs
  go_enter Try.func17, Try.ntmps17
  go_wp2_with fail
  rw [← hW0]
  clear hW0
  refine (implSame_any _ _ _ _ _ _ _ _ _ HS.out HS.out (by exact HX.out) (by exact HY.out)).mono ?_
  rintro e w1 ⟨rfl, b⟩
  replace R0 := R0.below b (by omega)
  replace k0 := ((bcell b).1 _ _ (by omega)).trans k0
  replace k1 := ((bcell b).1 _ _ (by omega)).trans k1
  replace k3 := ((bcell b).1 _ _ (by omega)).trans k3
  replace HX := Bx.mk (HX.out.below b)
  replace HY := Bx.mk (HY.out.below b)
  replace hz := Nat.le_trans hz b.size
  replace bw := bw.trans (b.mono bw.size)
  clear b k2
  rw [HTW.out]
  go_upto_region 3 with (fail)
  have BD : Bx (Below w1.heap.size w1 w1.drew) := ⟨(Below.refl _ _).drew⟩
  have k0d : w1.drew.cell? _ = _ := k0
  have k1d : w1.drew.cell? _ = _ := k1
  have k3d : w1.drew.cell? _ = _ := k3
  refine wp_region_held_drew (S := fun w' => w'.cell? ⟨w.heap.size, 0, none⟩ = some (.int .i64 s) ∧ w'.cell? ⟨w.heap.size, 1, none⟩ = some (.slice A xs.length c) ∧ w'.cell? ⟨w.heap.size + 1, 1, none⟩ = some (.slice B ys.length d)) (by kernel_rfl) ⟨k0d, k1d, k3d⟩ (fun hHeld => ?_)
  refine wpAnyH_take (i := 0) (v := ?v1) rfl (by kernel_rfl) (by kernel_rfl) (by kernel_rfl) (fun _ _ _ h => h) (Or.inl ⟨by rfl, ?hy1⟩) (by assumption) ?rest1
  case hy1 => intro w hSw; (try dsimp only at hSw); go_simp; try (with_reducible rfl)
  case rest1 =>
  try simp only [Act.put, List.setIfInBounds_toArray, List.set_cons_zero, List.set_cons_succ]
  refine wpAnyH_take (i := 1) (v := ?v2) rfl (by kernel_rfl) (by kernel_rfl) (by kernel_rfl) (fun _ _ _ h => h) (Or.inl ⟨by rfl, ?hy2⟩) (by assumption) ?rest2
  case hy2 => intro w hSw; (try dsimp only at hSw); go_simp; try (with_reducible rfl)
  case rest2 =>
  try simp only [Act.put, List.setIfInBounds_toArray, List.set_cons_zero, List.set_cons_succ]
  refine wpAnyH_take (i := 2) (v := ?v3) rfl (by kernel_rfl) (by kernel_rfl) (by kernel_rfl) (fun _ _ _ h => h) (Or.inl ⟨by rfl, ?hy3⟩) (by assumption) ?rest3
  case hy3 => intro w hSw; (try dsimp only at hSw); go_simp; try (with_reducible rfl)
  case rest3 =>
  try simp only [Act.put, List.setIfInBounds_toArray, List.set_cons_zero, List.set_cons_succ]
  refine wpAnyH_take (i := 3) (v := ?v4) rfl (by kernel_rfl) (by kernel_rfl) (by kernel_rfl) (fun _ _ _ h => h) (Or.inl ⟨by rfl, ?hy4⟩) (by assumption) ?rest4
  case hy4 => intro w hSw; (try dsimp only at hSw); go_simp; try (with_reducible rfl)
  case rest4 =>
  try simp only [Act.put, List.setIfInBounds_toArray, List.set_cons_zero, List.set_cons_succ]
  refine wpAnyH_take (i := 4) (v := ?v5) rfl (by kernel_rfl) (by kernel_rfl) (by kernel_rfl) (fun _ _ _ h => h) (Or.inl ⟨by rfl, ?hy5⟩) (by assumption) ?rest5
  case hy5 => intro w hSw; (try dsimp only at hSw); go_simp; try (with_reducible rfl)
  case rest5 =>
  try simp only [Act.put, List.setIfInBounds_toArray, List.set_cons_zero, List.set_cons_succ]
  refine wpAnyH_take (i := 5) (v := ?v6) rfl (by kernel_rfl) (by kernel_rfl) (by kernel_rfl) (fun _ _ _ h => h) (Or.inl ⟨by rfl, ?hy6⟩) (by assumption) ?rest6
  case hy6 => intro w hSw; (try dsimp only at hSw); go_simp; try (with_reducible rfl)
  case rest6 =>
  try simp only [Act.put, List.setIfInBounds_toArray, List.set_cons_zero, List.set_cons_succ]
  refine wpAnyH_ready (rs := [6]) (by kernel_rfl) (by simp) ?_
  refine AllReadyH.cons rfl (fun K hK => ?_) AllReadyH.nil
  go_simp
  obtain ⟨wa, hwa⟩ : ∃ wa, wa = (w1.alloc (.cells #[.slice A xs.length c, .slice B ys.length d] 26)).drew := ⟨_, rfl⟩
  obtain ⟨ga, hga⟩ : ∃ ga, ga = w1.heap.size := ⟨_, rfl⟩
  have ba : Below w1.heap.size w1 wa := by rw [hwa]; exact (below_alloc _ _).drew
  have hgz : ga < wa.heap.size := by rw [hwa, hga]; simp
  have q0 : wa.cell? ⟨ga, 0, none⟩ = some (.slice A xs.length c) := by rw [hwa, hga]; simp [go_sem]
  have q1 : wa.cell? ⟨ga, 1, none⟩ = some (.slice B ys.length d) := by rw [hwa, hga]; simp [go_sem]
  rw [← hwa, ← hga]
  replace R0 := R0.below ba (by omega)
  replace k0 := ((bcell ba).1 _ _ (by omega)).trans k0
  replace k1 := ((bcell ba).1 _ _ (by omega)).trans k1
  replace k3 := ((bcell ba).1 _ _ (by omega)).trans k3
  replace HX := Bx.mk (HX.out.below ba)
  replace HY := Bx.mk (HY.out.below ba)
  replace hz := Nat.le_trans hz ba.size
  replace bw := bw.trans (ba.mono bw.size)
  clear hwa hga ba
  refine hK.out _ _ ⟨k0, k1, k3⟩ (fun hHeld => ?_)
  clear hK K
  try simp only [Act.put, List.setIfInBounds_toArray, List.set_cons_zero, List.set_cons_succ]
  refine wpAnyH_ready (rs := [7]) (by kernel_rfl) (by simp) ?_
  refine AllReadyH.cons rfl (fun K hK => ?_) AllReadyH.nil
  go_simp
  go_at_call 65
  refine (concat2 _ _ _ _ _ _ _ _ _ hgz q0 q1 (by exact HX.out) (by exact HY.out) (by have := HXL.out; omega) (by have := HYL.out; omega)).mono ?_
  rintro e w2 ⟨A2, c2, rfl, io, b⟩
  rw [← HZ.out] at io ⊢
  replace R0 := R0.below b (by omega)
  replace k0 := ((bcell b).1 _ _ (by omega)).trans k0
  replace k1 := ((bcell b).1 _ _ (by omega)).trans k1
  replace k3 := ((bcell b).1 _ _ (by omega)).trans k3
  replace hz := Nat.le_trans hz b.size
  replace bw := bw.trans (b.mono bw.size)
  have HI := Bx.mk io.reads
  clear b io hgz q0 q1 HX HY
  refine hK.out _ _ ⟨k0, k1, k3⟩ (fun hHeld => ?_)
  clear hK K
  try simp only [Act.put, List.setIfInBounds_toArray, List.set_cons_zero, List.set_cons_succ]
  refine wpAnyH_ready (rs := [8]) (by kernel_rfl) (by simp) ?_
  refine AllReadyH.cons rfl (fun K hK => ?_) AllReadyH.nil
  go_simp
  go_at_call 64
  refine (rhythmOf_any _ _ _ _ _ HSB.out HMB.out HLL.out (by exact HI.out)).mono ?_
  rintro e w3 ⟨A3, c3, rfl, io, b⟩
  have hwm : w.heap.size ≤ w2.heap.size := by omega
  have hgr : w.heap.size + 1 + 1 < w2.heap.size := by omega
  replace R0 := R0.below b (by omega)
  replace k0 := ((bcell b).1 _ _ (by omega)).trans k0
  replace k1 := ((bcell b).1 _ _ (by omega)).trans k1
  replace k3 := ((bcell b).1 _ _ (by omega)).trans k3
  replace hz := Nat.le_trans hz b.size
  replace bw := bw.trans (b.mono bw.size)
  rw [← HL.out] at io ⊢
  have RF := Bx.mk ((R0.set 0 (.int .i64 s)).set 1 (.slice A3 L.length c3))
  have BF := Bx.mk ((bw.setCell (p := ⟨w.heap.size + 1 + 1, 0, none⟩) (show w.heap.size ≤ w.heap.size + 1 + 1 by omega) (.int .i64 s)).setCell (p := ⟨w.heap.size + 1 + 1, 1, none⟩) (show w.heap.size ≤ w.heap.size + 1 + 1 by omega) (.slice A3 L.length c3))
  have HIO := Bx.mk ((io.setLow (p := ⟨w.heap.size + 1 + 1, 0, none⟩) hgr (.int .i64 s)).setLow (p := ⟨w.heap.size + 1 + 1, 1, none⟩) hgr (.slice A3 L.length c3))
  have cr0 := R0.at_ (i := 0) rfl
  have cr1 := R0.at_ (i := 1) rfl
  have fr0 := R0.frozen 0
  have fr1 := R0.frozen 1
  have far : ∀ (i j : Nat) (v u v' : Value), i < w.heap.size + 1 + 1 → w3.cell? ⟨i, j, none⟩ = some v → ((w3.setCell ⟨w.heap.size + 1 + 1, 0, none⟩ u).setCell ⟨w.heap.size + 1 + 1, 1, none⟩ v').cell? ⟨i, j, none⟩ = some v := fun i j v u v' hi h => by
    rw [World.cell?_setCell_far _ _ _ _ (by simp; omega), World.cell?_setCell_far _ _ _ _ (by simp; omega)]; exact h
  have f0 := Bx.mk (far _ _ _ (.int .i64 s) (.slice A3 L.length c3) (by omega) k0)
  have f1 := Bx.mk (far _ _ _ (.int .i64 s) (.slice A3 L.length c3) (by omega) k1)
  have f3 := Bx.mk (far _ _ _ (.int .i64 s) (.slice A3 L.length c3) (by omega) k3)
  clear b io R0 far HI
  refine hK.out _ _ ⟨k0, k1, k3⟩ (fun hHeld => ?_)
  clear hK K
  try simp only [Act.put, List.setIfInBounds_toArray, List.set_cons_zero, List.set_cons_succ]
  refine wpAnyH_ready (rs := [9]) (by kernel_rfl) (by simp) ?_
  refine AllReadyH.cons rfl (fun K hK => ?_) AllReadyH.nil
  go_simp
  refine hK.out _ _ ⟨f0.out, f1.out, f3.out⟩ (fun hHeld => ?_)
  clear hK K
  try simp only [Act.put, List.setIfInBounds_toArray, List.set_cons_zero, List.set_cons_succ]
  refine wpAnyH_ready (rs := [10]) (by kernel_rfl) (by simp) ?_
  refine AllReadyH.cons rfl (fun K hK => ?_) AllReadyH.nil
  go_simp
  refine hK.out _ _ ⟨f0.out, f1.out, f3.out⟩ (fun hHeld => ?_)
  clear hK K
  try simp only [Act.put, List.setIfInBounds_toArray, List.set_cons_zero, List.set_cons_succ]
  refine wpAnyH_done (by kernel_rfl) ?_ _
  go_wp2_with fail
  refine bodyPost_ret (v := .tuple #[.agg #[.int .i64 s, .slice A3 L.length c3], .bool true]) (by simp [results, Try.results17, go_sem, RF.out.at_ (i := 0) rfl, RF.out.at_ (i := 1) rfl]) rfl ⟨A3, c3, rfl, HIO.out.mono hwm, BF.out⟩
end Go.Proofs.Ytlgiijibekobfaa
