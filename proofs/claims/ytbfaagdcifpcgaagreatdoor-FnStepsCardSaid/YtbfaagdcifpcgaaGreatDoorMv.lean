/- Mirrors and stretches of a rhythm. -/
import Derived.Test.YtbfaagdcifpcgaaGreatDoorRot
import Derived.Test.YtbfaagdcifpcgaaGreatDoorDiff
import Derived.Test.YtbfaagdcifpcgaaGreatDoorTls
import Derived.Test.YtbfaagdcifpcgaaGreatDoorBas
namespace Go.Proofs.YtbfaagdcifpcgaaGreatDoor
open Go.RowKit
set_option maxRecDepth 20000

def negL (xs : List Int) : List Int := xs.map fun x => -x
def mirL (s : Int) (xs : List Int) : List Int := coll (modL s (negL xs))
theorem negL_take {xs : List Int} {j : Nat} {x : Int} (hx : xs[j]? = some x) : negL (xs.take (j + 1)) = negL (xs.take j) ++ [-x] := by
  unfold negL
  rw [List.take_add_one, hx, Option.toList_some, List.map_append]; rfl
theorem negL_len (xs : List Int) (j : Nat) : (negL (xs.take j)).length ≤ xs.length := by
  unfold negL; rw [List.length_map, List.length_take]; omega
def mulL (k : Int) (xs : List Int) : List Int := xs.map (k * ·)
def stL (s : Int) (xs : List Int) (k : Int) : List Int := coll (modL s (mulL k xs))
theorem mulL_take {k : Int} {xs : List Int} {j : Nat} {x : Int} (hx : xs[j]? = some x) : mulL k (xs.take (j + 1)) = mulL k (xs.take j) ++ [k * x] := by
  unfold mulL
  rw [List.take_add_one, hx, Option.toList_some, List.map_append]; rfl
theorem mulL_len (k : Int) (xs : List Int) (j : Nat) : (mulL k (xs.take j)).length ≤ xs.length := by
  unfold mulL; rw [List.length_map, List.length_take]; omega
theorem mul_bd {k x : Int} (hk : 0 ≤ k ∧ k ≤ 24) (hx : 0 ≤ x ∧ x ≤ 24) : 0 ≤ k * x ∧ k * x ≤ 576 :=
  ⟨Int.mul_nonneg hk.1 hx.1, by have := Int.mul_le_mul hk.2 hx.2 hx.1 (show (0 : Int) ≤ 24 by omega); omega⟩
theorem mirClos (p : Int) (w : World) (hp : -1000 ≤ p ∧ p ≤ 1000) :
    Calls Tryz.prog 46 #[.int .i64 p] w fun e w' => e = .returned (.int .i64 (-p)) ∧ w = w' := by
  obtain ⟨hp1, hp2⟩ := hp
  go_enter Tryz.func46, Tryz.ntmps46
  go_wp2
  go_ret
  exact ⟨rfl, rfl⟩
set_option maxHeartbeats 1000000 in
theorem movedMir_any (s : Int) (A : Option Addr) (c : Nat) (xs : List Int) (w : World) (hs : 1 ≤ s ∧ s ≤ 24) (hb : ∀ x ∈ xs, 0 ≤ x ∧ x < 24) (hl : xs.length ≤ 1000) (hx : IR w A xs) :
    Calls Tryz.prog 45 #[.agg #[.int .i64 s, .slice A xs.length c], .func (.func 46) #[] #[]] w (GivesRh w s (mirL s xs)) := by
  have HBD := Bx.mk hb
  have HS := Bx.mk hs
  obtain ⟨W0, hW0⟩ : ∃ W0, W0 = (w.alloc (.cells #[.int .i64 s, .slice A xs.length c] 25)).alloc (.cells #[.int .i64 0, .slice none 0 0] 25) := ⟨_, rfl⟩
  have bw : Below w.heap.size w W0 := by rw [hW0]; exact (below_alloc _ _).alloc (by simp) _
  have hz : w.heap.size + 2 ≤ W0.heap.size := by rw [hW0]; simp
  have k0 : W0.cell? ⟨w.heap.size, 0, none⟩ = some (.int .i64 s) := by rw [hW0]; simp [go_sem]
  have k1 : W0.cell? ⟨w.heap.size, 1, none⟩ = some (.slice A xs.length c) := by rw [hW0]; simp [go_sem]
  have R0 : Blk W0 (w.heap.size + 1) 25 #[.int .i64 0, .slice none 0 0] := by rw [hW0]; have := Blk.new (w.alloc (.cells #[.int .i64 s, .slice A xs.length c] 25)) 25 #[.int .i64 0, .slice none 0 0]; simpa using this
  have HX := Bx.mk (hx.below bw)
  clear hx hb hs
  go_enter Tryz.func45, Tryz.ntmps45
  go_wp2_with fail
  rw [← hW0]
  clear hW0
  go_loopw [5, 11] (fun v i wr => ∃ j : Nat, j ≤ xs.length ∧ i = .int .i64 j ∧ Row wr W0.heap.size v (negL (xs.take j)) ∧ Below W0.heap.size W0 wr) (fun _ i _ => xs.length - (intOf i).toNat)
  case atStart => exact ⟨0, by omega, rfl, Row.nil _ _, Below.refl _ _⟩
  case round =>
    obtain ⟨j, hj, rfl, hrow, hbb⟩ := hrel
    have hlen := negL_len xs j
    have hzr := hbb.size
    have q0 := ((bcell hbb).1 _ _ (by omega)).trans k0
    have q1 := ((bcell hbb).1 _ _ (by omega)).trans k1
    by_cases hlt : j < xs.length
    · obtain ⟨b, o, x, rfl, hbk, c1, H3⟩ := (HX.out.below hbb).one hlt
      have H4 := Bx.mk H3.out
      clear H3
      have hki : (j : Int) < (xs.length : Int) := by omega
      obtain ⟨hx1, hx2⟩ := HBD.out x (List.mem_of_getElem? H4.out)
      have HN := Bx.mk (negL_take H4.out)
      have HO := Bx.mk hrow
      have HB := Bx.mk hbb
      clear hrow hbb
      go_wp2_with fail
      refine (mirClos _ _ ⟨by omega, by omega⟩).mono ?_
      rintro e w2 ⟨rfl, rfl⟩
      go_wp2_with (at_builtin; go_must (refine wpList_app1 rfl _ _ rfl W0.heap.size _ (negL (xs.take j)) (-x) rfl rfl (by exact HO.out) (by omega) (by exact hzr) ?_); intro v1 w4 hown1 hb1)
      have R := Bx.mk (And.intro hown1 (HB.out.trans hb1))
      clear hown1 hb1
      go_wp2_with fail
      go_roundw
      case rel => exact ⟨j + 1, by omega, by go_num, by rw [HN.out]; exact R.out.1, R.out.2⟩
      case measure => simp [intOf]; omega
    · have hkl : j = xs.length := by omega
      obtain ⟨A1, cc1, e1, io1⟩ := hrow.io (by omega)
      subst e1
      obtain ⟨zs, hzs⟩ : ∃ zs, zs = negL (xs.take j) := ⟨_, rfl⟩
      have hzs2 : zs = negL xs := by rw [hzs, hkl, List.take_length]
      have HZB : Bx (∀ x ∈ zs, -1000000000000 ≤ x ∧ x ≤ 1000000000000) := ⟨fun x hx => by
        rw [hzs2] at hx
        unfold negL at hx
        obtain ⟨y, hy, rfl⟩ := List.mem_map.1 hx
        have := HBD.out y hy
        omega⟩
      have hzl : zs.length ≤ 100000 := by rw [hzs]; omega
      have HR : Bx (mirL s xs = coll (modL s zs)) := ⟨by rw [hzs2]; rfl⟩
      rw [← hzs] at io1 ⊢
      have HI1 := Bx.mk io1.reads
      have HB := Bx.mk hbb
      replace R0 := R0.below hbb (by omega)
      clear hrow hbb hkl io1 hzs hzs2
      go_wp2_with fail
      refine (rhythmOf_any _ _ _ _ _ HS.out HZB.out hzl (by exact HI1.out)).mono ?_
      rintro e w2 ⟨A2, c2, rfl, io, b⟩
      rw [← HR.out] at io ⊢
      obtain ⟨ys, hys⟩ : ∃ ys, ys = mirL s xs := ⟨_, rfl⟩
      rw [← hys] at io ⊢
      have HYS := Bx.mk hys
      clear hys
      replace R0 := R0.below b (by omega)
      have cr0 := R0.at_ (i := 0) rfl
      have cr1 := R0.at_ (i := 1) rfl
      have fr0 := R0.frozen 0
      have fr1 := R0.frozen 1
      have bw2 := (bw.trans (HB.out.mono bw.size)).trans (b.mono (by omega))
      have RF := Bx.mk ((R0.set 0 (.int .i64 s)).set 1 (.slice A2 ys.length c2))
      have BF := Bx.mk ((bw2.setCell (p := ⟨w.heap.size + 1, 0, none⟩) (show w.heap.size ≤ w.heap.size + 1 by omega) (.int .i64 s)).setCell (p := ⟨w.heap.size + 1, 1, none⟩) (show w.heap.size ≤ w.heap.size + 1 by omega) (.slice A2 ys.length c2))
      have hlow : w.heap.size + 1 < wr.heap.size := by omega
      have HIO := Bx.mk (((io.setLow (p := ⟨w.heap.size + 1, 0, none⟩) hlow (.int .i64 s)).setLow (p := ⟨w.heap.size + 1, 1, none⟩) hlow (.slice A2 ys.length c2)).mono (show w.heap.size ≤ wr.heap.size by omega))
      clear R0 b io bw2
      go_wp2_with fail
      refine bodyPost_ret (v := .agg #[.int .i64 s, .slice A2 ys.length c2]) (by simp [results, Tryz.results45, go_sem, RF.out.at_ (i := 0) rfl, RF.out.at_ (i := 1) rfl]) rfl ?_
      rw [← HYS.out]
      exact ⟨A2, c2, rfl, HIO.out, BF.out⟩
set_option maxHeartbeats 1000000 in
theorem mirrored_any (s : Int) (A : Option Addr) (c : Nat) (xs : List Int) (w : World) (hs : 1 ≤ s ∧ s ≤ 24) (hb : ∀ x ∈ xs, 0 ≤ x ∧ x < 24) (hl : xs.length ≤ 1000) (hx : IR w A xs) :
    Calls Tryz.prog 31 #[.agg #[.int .i64 s, .slice A xs.length c]] w (GivesRh w s (mirL s xs)) := by
  have HBD := Bx.mk hb
  obtain ⟨W0, hW0⟩ : ∃ W0, W0 = (w.alloc (.cells #[.int .i64 s, .slice A xs.length c] 25)).alloc (.cells #[.int .i64 0, .slice none 0 0] 25) := ⟨_, rfl⟩
  have bw : Below w.heap.size w W0 := by rw [hW0]; exact (below_alloc _ _).alloc (by simp) _
  have hz : w.heap.size + 2 ≤ W0.heap.size := by rw [hW0]; simp
  have k0 : W0.cell? ⟨w.heap.size, 0, none⟩ = some (.int .i64 s) := by rw [hW0]; simp [go_sem]
  have k1 : W0.cell? ⟨w.heap.size, 1, none⟩ = some (.slice A xs.length c) := by rw [hW0]; simp [go_sem]
  have R0 : Blk W0 (w.heap.size + 1) 25 #[.int .i64 0, .slice none 0 0] := by rw [hW0]; have := Blk.new (w.alloc (.cells #[.int .i64 s, .slice A xs.length c] 25)) 25 #[.int .i64 0, .slice none 0 0]; simpa using this
  have HX := Bx.mk (hx.below bw)
  clear hx hb
  go_enter Tryz.func31, Tryz.ntmps31
  go_wp2_with fail
  rw [← hW0]
  clear hW0
  refine (movedMir_any _ _ _ _ _ hs HBD.out hl (by exact HX.out)).mono ?_
  rintro e w2 ⟨A2, c2, rfl, io, b⟩
  obtain ⟨ys, hys⟩ : ∃ ys, ys = mirL s xs := ⟨_, rfl⟩
  rw [← hys] at io ⊢
  have HYS := Bx.mk hys
  clear hys
  replace R0 := R0.below b (by omega)
  have cr0 := R0.at_ (i := 0) rfl
  have cr1 := R0.at_ (i := 1) rfl
  have fr0 := R0.frozen 0
  have fr1 := R0.frozen 1
  have bw2 := bw.trans (b.mono bw.size)
  have RF := Bx.mk ((R0.set 0 (.int .i64 s)).set 1 (.slice A2 ys.length c2))
  have BF := Bx.mk ((bw2.setCell (p := ⟨w.heap.size + 1, 0, none⟩) (show w.heap.size ≤ w.heap.size + 1 by omega) (.int .i64 s)).setCell (p := ⟨w.heap.size + 1, 1, none⟩) (show w.heap.size ≤ w.heap.size + 1 by omega) (.slice A2 ys.length c2))
  have hlow : w.heap.size + 1 < W0.heap.size := by omega
  have HIO := Bx.mk (((io.setLow (p := ⟨w.heap.size + 1, 0, none⟩) hlow (.int .i64 s)).setLow (p := ⟨w.heap.size + 1, 1, none⟩) hlow (.slice A2 ys.length c2)).mono (show w.heap.size ≤ W0.heap.size by omega))
  clear R0 b io bw2
  go_wp2_with fail
  refine bodyPost_ret (v := .agg #[.int .i64 s, .slice A2 ys.length c2]) (by simp [results, Tryz.results31, go_sem, RF.out.at_ (i := 0) rfl, RF.out.at_ (i := 1) rfl]) rfl ?_
  rw [← HYS.out]
  exact ⟨A2, c2, rfl, HIO.out, BF.out⟩
set_option maxHeartbeats 1000000 in
theorem mirror_ok (s : Int) (A : Option Addr) (c : Nat) (xs : List Int) (w : World) (hok : rhOk s xs = true) (hx : IR w A xs) :
    Calls Tryz.prog 12 #[.agg #[.int .i64 s, .slice A xs.length c]] w (GivesRB w s (mirL s xs) true) := by
  obtain ⟨⟨hs1, hs2⟩, hxb, _⟩ := rhOk_iff.1 hok
  have HXB := Bx.mk hxb
  have hll := (rhOk_len hok).1
  obtain ⟨W0, hW0⟩ : ∃ W0, W0 = (w.alloc (.cells #[.int .i64 s, .slice A xs.length c] 25)).alloc (.cells #[.int .i64 0, .slice none 0 0] 25) := ⟨_, rfl⟩
  have bw : Below w.heap.size w W0 := by rw [hW0]; exact (below_alloc _ _).alloc (by simp) _
  have hz : w.heap.size < W0.heap.size := by rw [hW0]; simp <;> omega
  have R0 : Blk W0 (w.heap.size + 1) 25 #[.int .i64 0, .slice none 0 0] := by rw [hW0]; have := Blk.new (w.alloc (.cells #[.int .i64 s, .slice A xs.length c] 25)) 25 #[.int .i64 0, .slice none 0 0]; simpa using this
  have hz2 : w.heap.size + 1 < W0.heap.size := by rw [hW0]; simp <;> omega
  have k0 : W0.cell? ⟨w.heap.size, 0, none⟩ = some (.int .i64 s) := by rw [hW0]; simp [go_sem]
  have k1 : W0.cell? ⟨w.heap.size, 1, none⟩ = some (.slice A xs.length c) := by rw [hW0]; simp [go_sem]
  have HX := Bx.mk ((RB.of_ir hx).below bw (Nat.le_refl _))
  have HOK := Bx.mk hok
  have HS : Bx (-9223372036854775808 ≤ s ∧ s ≤ 9223372036854775807) := ⟨by omega⟩
  clear hx hxb
  go_enter Tryz.func12, Tryz.ntmps12
  go_wp2_with fail
  rw [← hW0]
  clear hW0
  refine (lit_b hok (implRhythmOk_any _ _ _ _ _ HS.out (by exact HX.out.ir))).mono ?_
  clear hok
  rintro e w1 ⟨rfl, b⟩
  replace k0 := ((bcell b).1 _ _ (by omega)).trans k0
  replace k1 := ((bcell b).1 _ _ (by omega)).trans k1
  replace HX := Bx.mk (HX.out.below b (by omega))
  replace bw := bw.trans (b.mono bw.size)
  replace R0 := R0.below b hz2
  have hz3 : w.heap.size + 2 ≤ w1.heap.size := by have := b.size; omega
  clear b
  go_wp2_with fail
  refine (mirrored_any _ _ _ _ _ ⟨hs1, hs2⟩ (fun x hx => by have := HXB.out x hx; omega) (by omega) (by exact HX.out.ir)).mono ?_
  rintro e w2 ⟨A2, c2, rfl, io, b⟩
  replace R0 := R0.below b (by omega)
  have cr0 := R0.at_ (i := 0) rfl
  have cr1 := R0.at_ (i := 1) rfl
  have fr0 := R0.frozen 0
  have fr1 := R0.frozen 1
  replace bw := bw.trans (b.mono bw.size)
  have RF := Bx.mk ((R0.set 0 (.int .i64 s)).set 1 (.slice A2 (mirL s xs).length c2))
  have BF := Bx.mk ((bw.setCell (p := ⟨w.heap.size + 1, 0, none⟩) (show w.heap.size ≤ w.heap.size + 1 by omega) (.int .i64 s)).setCell (p := ⟨w.heap.size + 1, 1, none⟩) (show w.heap.size ≤ w.heap.size + 1 by omega) (.slice A2 (mirL s xs).length c2))
  have HIO := Bx.mk ((io.setLow (p := ⟨w.heap.size + 1, 0, none⟩) (show w.heap.size + 1 < w1.heap.size by omega) (.int .i64 s)).setLow (p := ⟨w.heap.size + 1, 1, none⟩) (show w.heap.size + 1 < w1.heap.size by omega) (.slice A2 (mirL s xs).length c2))
  clear R0 io b
  generalize mirL s xs = L at *
  go_wp2_with fail
  exact bodyPost_ret (v := .tuple #[.agg #[.int .i64 s, .slice A2 L.length c2], .bool true]) (by simp [results, Tryz.results12, go_sem, RF.out.at_ (i := 0) rfl, RF.out.at_ (i := 1) rfl]) rfl ⟨A2, c2, rfl, HIO.out.mono (by omega), BF.out⟩
end Go.Proofs.YtbfaagdcifpcgaaGreatDoor
