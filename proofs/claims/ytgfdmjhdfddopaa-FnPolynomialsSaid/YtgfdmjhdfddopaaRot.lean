/- The rotations of a rhythm. -/
import Derived.Test.YtgfdmjhdfddopaaRhOf
namespace Go.Proofs.Ytgfdmjhdfddopaa
open Go.RowKit
set_option maxRecDepth 20000

def addL (k : Int) (xs : List Int) : List Int := xs.map (· + k)
def rotL (s : Int) (xs : List Int) (k : Int) : List Int := coll (modL s (addL k xs))
theorem addL_take {k : Int} {xs : List Int} {j : Nat} {x : Int} (hx : xs[j]? = some x) : addL k (xs.take (j + 1)) = addL k (xs.take j) ++ [x + k] := by
  unfold addL
  rw [List.take_add_one, hx, Option.toList_some, List.map_append]; rfl
theorem addL_len (k : Int) (xs : List Int) (j : Nat) : (addL k (xs.take j)).length ≤ xs.length := by
  unfold addL; rw [List.length_map, List.length_take]; omega
theorem rotClos (p k : Int) (g : Nat) (w : World) (hp : -1000 ≤ p ∧ p ≤ 1000) (hk : -1000000 ≤ k ∧ k ≤ 1000000) (k0 : w.cell? ⟨g, 0, none⟩ = some (.int .i64 k)) :
    Calls Try.prog 74 #[.int .i64 p, .pointer (some ⟨g, 0, none⟩)] w fun e w' => e = .returned (.int .i64 (p + k)) ∧ w = w' := by
  obtain ⟨hp1, hp2⟩ := hp
  obtain ⟨hk1, hk2⟩ := hk
  go_enter Try.func74, Try.ntmps74
  go_wp2
  go_ret
  exact ⟨rfl, rfl⟩
set_option maxHeartbeats 1000000 in
theorem moved_any (s : Int) (A : Option Addr) (c : Nat) (xs : List Int) (k : Int) (g : Nat) (w : World) (hs : 1 ≤ s ∧ s ≤ 24) (hb : ∀ x ∈ xs, 0 ≤ x ∧ x < 24) (hl : xs.length ≤ 1000) (hk : -1000000 ≤ k ∧ k ≤ 1000000) (hg : g < w.heap.size) (kg : w.cell? ⟨g, 0, none⟩ = some (.int .i64 k)) (hx : IR w A xs) :
    Calls Try.prog 73 #[.agg #[.int .i64 s, .slice A xs.length c], .func (.func 74) #[] #[.pointer (some ⟨g, 0, none⟩)]] w (GivesRh w s (rotL s xs k)) := by
  have HBD := Bx.mk hb
  have HS := Bx.mk hs
  have HK := Bx.mk hk
  obtain ⟨W0, hW0⟩ : ∃ W0, W0 = (w.alloc (.cells #[.int .i64 s, .slice A xs.length c] 25)).alloc (.cells #[.int .i64 0, .slice none 0 0] 25) := ⟨_, rfl⟩
  have bw : Below w.heap.size w W0 := by rw [hW0]; exact (below_alloc _ _).alloc (by simp) _
  have hz : w.heap.size + 2 ≤ W0.heap.size := by rw [hW0]; simp
  have k0 : W0.cell? ⟨w.heap.size, 0, none⟩ = some (.int .i64 s) := by rw [hW0]; simp [go_sem]
  have k1 : W0.cell? ⟨w.heap.size, 1, none⟩ = some (.slice A xs.length c) := by rw [hW0]; simp [go_sem]
  have R0 : Blk W0 (w.heap.size + 1) 25 #[.int .i64 0, .slice none 0 0] := by rw [hW0]; have := Blk.new (w.alloc (.cells #[.int .i64 s, .slice A xs.length c] 25)) 25 #[.int .i64 0, .slice none 0 0]; simpa using this
  have kg0 := ((bcell bw).1 _ _ hg).trans kg
  have HX := Bx.mk (hx.below bw)
  clear hx hb hs hk kg
  go_enter Try.func73, Try.ntmps73
  go_wp2_with fail
  rw [← hW0]
  clear hW0
  go_loopw [5, 11] (fun v i wr => ∃ j : Nat, j ≤ xs.length ∧ i = .int .i64 j ∧ Row wr W0.heap.size v (addL k (xs.take j)) ∧ Below W0.heap.size W0 wr) (fun _ i _ => xs.length - (intOf i).toNat)
  case atStart => exact ⟨0, by omega, rfl, Row.nil _ _, Below.refl _ _⟩
  case round =>
    obtain ⟨j, hj, rfl, hrow, hbb⟩ := hrel
    have hlen := addL_len k xs j
    have hzr := hbb.size
    have q0 := ((bcell hbb).1 _ _ (by omega)).trans k0
    have q1 := ((bcell hbb).1 _ _ (by omega)).trans k1
    have qg := Bx.mk (((bcell hbb).1 _ _ (by omega)).trans kg0)
    by_cases hlt : j < xs.length
    · obtain ⟨b, o, x, rfl, hbk, c1, H3⟩ := (HX.out.below hbb).one hlt
      have H4 := Bx.mk H3.out
      clear H3
      have hki : (j : Int) < (xs.length : Int) := by omega
      obtain ⟨hx1, hx2⟩ := HBD.out x (List.mem_of_getElem? H4.out)
      have HN := Bx.mk (addL_take (k := k) H4.out)
      have HO := Bx.mk hrow
      have HB := Bx.mk hbb
      clear hrow hbb
      go_wp2_with fail
      refine (rotClos _ _ _ _ ⟨by omega, by omega⟩ HK.out qg.out).mono ?_
      rintro e w2 ⟨rfl, rfl⟩
      go_wp2_with (at_builtin; go_must (refine wpList_app1 rfl _ _ rfl W0.heap.size _ (addL k (xs.take j)) (x + k) rfl rfl (by exact HO.out) (by omega) (by exact hzr) ?_); intro v1 w4 hown1 hb1)
      have R := Bx.mk (And.intro hown1 (HB.out.trans hb1))
      clear hown1 hb1
      go_wp2_with fail
      go_roundw
      case rel => exact ⟨j + 1, by omega, by go_num, by rw [HN.out]; exact R.out.1, R.out.2⟩
      case measure => simp [intOf]; omega
    · have hkl : j = xs.length := by omega
      obtain ⟨A1, cc1, e1, io1⟩ := hrow.io (by omega)
      subst e1
      obtain ⟨zs, hzs⟩ : ∃ zs, zs = addL k (xs.take j) := ⟨_, rfl⟩
      have hzs2 : zs = addL k xs := by rw [hzs, hkl, List.take_length]
      have HZB : Bx (∀ x ∈ zs, -1000000000000 ≤ x ∧ x ≤ 1000000000000) := ⟨fun x hx => by
        rw [hzs2] at hx
        unfold addL at hx
        obtain ⟨y, hy, rfl⟩ := List.mem_map.1 hx
        have := HBD.out y hy
        have := HK.out
        omega⟩
      have hzl : zs.length ≤ 100000 := by rw [hzs]; omega
      have HR : Bx (rotL s xs k = coll (modL s zs)) := ⟨by rw [hzs2]; rfl⟩
      rw [← hzs] at io1 ⊢
      have HI1 := Bx.mk io1.reads
      have HB := Bx.mk hbb
      replace R0 := R0.below hbb (by omega)
      clear hrow hbb hkl io1 hzs hzs2
      go_wp2_with fail
      refine (rhythmOf_any _ _ _ _ _ HS.out HZB.out hzl (by exact HI1.out)).mono ?_
      rintro e w2 ⟨A2, c2, rfl, io, b⟩
      rw [← HR.out] at io ⊢
      obtain ⟨ys, hys⟩ : ∃ ys, ys = rotL s xs k := ⟨_, rfl⟩
      rw [← hys] at io ⊢
      have HYS := Bx.mk hys
      clear hys
      replace R0 := R0.below b (by omega)
      have cr0 := R0.at_ (i := 0) rfl
      have cr1 := R0.at_ (i := 1) rfl
      have fr0 := R0.frozen 0
      have fr1 := R0.frozen 1
      have bw2 := (bw.trans (HB.out.mono bw.size)).trans (b.mono (by omega))
      have RF := Bx.mk ((R0.set 0 (.int .i64 s)).set 1 (.slice A2 ys.length c2))
      have BF := Bx.mk ((bw2.setCell (p := ⟨w.heap.size + 1, 0, none⟩) (show w.heap.size ≤ w.heap.size + 1 by omega) (.int .i64 s)).setCell (p := ⟨w.heap.size + 1, 1, none⟩) (show w.heap.size ≤ w.heap.size + 1 by omega) (.slice A2 ys.length c2))
      have hlow : w.heap.size + 1 < wr.heap.size := by omega
      have HIO := Bx.mk (((io.setLow (p := ⟨w.heap.size + 1, 0, none⟩) hlow (.int .i64 s)).setLow (p := ⟨w.heap.size + 1, 1, none⟩) hlow (.slice A2 ys.length c2)).mono (show w.heap.size ≤ wr.heap.size by omega))
      clear R0 b io bw2
      go_wp2_with fail
      refine bodyPost_ret (v := .agg #[.int .i64 s, .slice A2 ys.length c2]) (by simp [results, Try.results73, go_sem, RF.out.at_ (i := 0) rfl, RF.out.at_ (i := 1) rfl]) rfl ?_
      rw [← HYS.out]
      exact ⟨A2, c2, rfl, HIO.out, BF.out⟩
set_option maxHeartbeats 1000000 in
theorem rotated_any (s : Int) (A : Option Addr) (c : Nat) (xs : List Int) (k : Int) (w : World) (hs : 1 ≤ s ∧ s ≤ 24) (hb : ∀ x ∈ xs, 0 ≤ x ∧ x < 24) (hl : xs.length ≤ 1000) (hk : -1000000 ≤ k ∧ k ≤ 1000000) (hx : IR w A xs) :
    Calls Try.prog 57 #[.agg #[.int .i64 s, .slice A xs.length c], .int .i64 k] w (GivesRh w s (rotL s xs k)) := by
  have HBD := Bx.mk hb
  obtain ⟨W0, hW0⟩ : ∃ W0, W0 = ((w.alloc (.cells #[.int .i64 s, .slice A xs.length c] 25)).alloc (.cells #[.int .i64 k] 3)).alloc (.cells #[.int .i64 0, .slice none 0 0] 25) := ⟨_, rfl⟩
  have bw : Below w.heap.size w W0 := by rw [hW0]; exact ((below_alloc _ _).alloc (by simp) _).alloc (by simp <;> omega) _
  have hz : w.heap.size + 3 ≤ W0.heap.size := by rw [hW0]; simp
  have k0 : W0.cell? ⟨w.heap.size, 0, none⟩ = some (.int .i64 s) := by rw [hW0]; simp [go_sem]
  have k1 : W0.cell? ⟨w.heap.size, 1, none⟩ = some (.slice A xs.length c) := by rw [hW0]; simp [go_sem]
  have kg : W0.cell? ⟨w.heap.size + 1, 0, none⟩ = some (.int .i64 k) := by rw [hW0]; simp [go_sem]
  have R0 : Blk W0 (w.heap.size + 1 + 1) 25 #[.int .i64 0, .slice none 0 0] := by rw [hW0]; have := Blk.new ((w.alloc (.cells #[.int .i64 s, .slice A xs.length c] 25)).alloc (.cells #[.int .i64 k] 3)) 25 #[.int .i64 0, .slice none 0 0]; simpa using this
  have HX := Bx.mk (hx.below bw)
  clear hx hb
  go_enter Try.func57, Try.ntmps57
  go_wp2_with fail
  rw [← hW0]
  clear hW0
  refine (moved_any _ _ _ _ k _ _ hs HBD.out hl hk (by omega) kg (by exact HX.out)).mono ?_
  rintro e w2 ⟨A2, c2, rfl, io, b⟩
  obtain ⟨ys, hys⟩ : ∃ ys, ys = rotL s xs k := ⟨_, rfl⟩
  rw [← hys] at io ⊢
  have HYS := Bx.mk hys
  clear hys
  replace R0 := R0.below b (by omega)
  have cr0 := R0.at_ (i := 0) rfl
  have cr1 := R0.at_ (i := 1) rfl
  have fr0 := R0.frozen 0
  have fr1 := R0.frozen 1
  have bw2 := bw.trans (b.mono bw.size)
  have RF := Bx.mk ((R0.set 0 (.int .i64 s)).set 1 (.slice A2 ys.length c2))
  have BF := Bx.mk ((bw2.setCell (p := ⟨w.heap.size + 1 + 1, 0, none⟩) (show w.heap.size ≤ w.heap.size + 1 + 1 by omega) (.int .i64 s)).setCell (p := ⟨w.heap.size + 1 + 1, 1, none⟩) (show w.heap.size ≤ w.heap.size + 1 + 1 by omega) (.slice A2 ys.length c2))
  have hlow : w.heap.size + 1 + 1 < W0.heap.size := by omega
  have HIO := Bx.mk (((io.setLow (p := ⟨w.heap.size + 1 + 1, 0, none⟩) hlow (.int .i64 s)).setLow (p := ⟨w.heap.size + 1 + 1, 1, none⟩) hlow (.slice A2 ys.length c2)).mono (show w.heap.size ≤ W0.heap.size by omega))
  clear R0 b io bw2
  go_wp2_with fail
  refine bodyPost_ret (v := .agg #[.int .i64 s, .slice A2 ys.length c2]) (by simp [results, Try.results57, go_sem, RF.out.at_ (i := 0) rfl, RF.out.at_ (i := 1) rfl]) rfl ?_
  rw [← HYS.out]
  exact ⟨A2, c2, rfl, HIO.out, BF.out⟩
end Go.Proofs.Ytgfdmjhdfddopaa
