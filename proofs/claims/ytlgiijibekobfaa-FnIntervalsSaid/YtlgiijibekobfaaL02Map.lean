/- The map of a rhythm by a rotation: the reference. -/
import Derived.Test.YtlgiijibekobfaaL02Of
namespace Go.Proofs.Ytlgiijibekobfaa
open Go.RowKit

theorem rotL_sel {s : Int} (hs : 1 ≤ s) (xs : List Int) (k : Int) : rotL s xs k = selTo (memB (modL s (addL k xs))) s.toNat := by
  unfold rotL
  refine coll_sel fun x hx => ?_
  unfold modL at hx
  obtain ⟨y, _, rfl⟩ := List.mem_map.1 hx
  have h1 := Int.emod_nonneg y (show s ≠ 0 by omega)
  have h2 := Int.emod_lt_of_pos y (show 0 < s by omega)
  omega
def mapT (s k : Int) (xs : List Int) (j : Nat) : List Int := modL s (addL k (xs.take j))
theorem mapT_step {s k : Int} {xs : List Int} {j : Nat} {x : Int} (hx : xs[j]? = some x) : mapT s k xs (j + 1) = mapT s k xs j ++ [(x + k) % s] := by
  unfold mapT
  rw [addL_take hx]
  unfold modL
  rw [List.map_append]; rfl
theorem mapT_len (s k : Int) (xs : List Int) (j : Nat) : (mapT s k xs j).length ≤ xs.length := by
  unfold mapT modL; rw [List.length_map]; exact addL_len k xs j
set_option maxHeartbeats 1000000 in
theorem l02Map_any (s : Int) (A : Option Addr) (c : Nat) (xs : List Int) (k : Int) (w : World) (hs : 1 ≤ s ∧ s ≤ 24) (hb : ∀ x ∈ xs, 0 ≤ x ∧ x < 24) (hl : xs.length ≤ 1000) (hk : -1000000 ≤ k ∧ k ≤ 1000000) (hx : IR w A xs) :
    Calls Try.prog 70 #[.agg #[.int .i64 s, .slice A xs.length c], .int .i64 1, .int .i64 k] w (GivesRh w s (rotL s xs k)) := by
  have HBD := Bx.mk hb
  obtain ⟨hs1, hs2⟩ := hs
  obtain ⟨hk1, hk2⟩ := hk
  obtain ⟨W0, hW0⟩ : ∃ W0, W0 = (w.alloc (.cells #[.int .i64 s, .slice A xs.length c] 30)).alloc (.cells #[.int .i64 0, .slice none 0 0] 30) := ⟨_, rfl⟩
  have bw : Below w.heap.size w W0 := by rw [hW0]; exact (below_alloc _ _).alloc (by simp) _
  have hz : w.heap.size + 2 ≤ W0.heap.size := by rw [hW0]; simp
  have hzE : W0.heap.size = w.heap.size + 1 + 1 := by rw [hW0]; simp
  have k0 : W0.cell? ⟨w.heap.size, 0, none⟩ = some (.int .i64 s) := by rw [hW0]; simp [go_sem]
  have k1 : W0.cell? ⟨w.heap.size, 1, none⟩ = some (.slice A xs.length c) := by rw [hW0]; simp [go_sem]
  have R0 : Blk W0 (w.heap.size + 1) 30 #[.int .i64 0, .slice none 0 0] := by rw [hW0]; have := Blk.new (w.alloc (.cells #[.int .i64 s, .slice A xs.length c] 30)) 30 #[.int .i64 0, .slice none 0 0]; simpa using this
  have HX := Bx.mk ((RB.of_ir hx).below bw (Nat.le_refl _))
  clear hx hb
  have HRW := Bx.mk (Row.empty W0 W0.heap.size (Nat.le_refl _))
  obtain ⟨w1, hw1⟩ : ∃ w1, w1 = W0.alloc (.cells #[] 3) := ⟨_, rfl⟩
  obtain ⟨BB, hBB⟩ : ∃ BB, BB = w.heap.size + 1 + 1 := ⟨_, rfl⟩
  have b : Below BB W0 w1 := by rw [hw1, hBB, ← hzE]; exact below_alloc _ _
  rw [← hw1, hzE, ← hBB] at HRW
  go_enter Try.func70, Try.ntmps70
  go_wp2_with fail
  rw [← hW0, ← hw1, ← hBB]
  replace k0 := ((bcell b).1 _ _ (by omega)).trans k0
  replace k1 := ((bcell b).1 _ _ (by omega)).trans k1
  replace R0 := R0.below b (by omega)
  replace HX := Bx.mk (HX.out.below b (by omega))
  have hw1s := b.size
  have hBB1 : BB ≤ w1.heap.size := by omega
  have hwB : w.heap.size + 1 < BB := by omega
  have HXB : Bx (RB 0 BB w1 A xs) := ⟨⟨HX.out.ir, fun h x hx => by have := HX.out.2 h x hx; omega⟩⟩
  have bw1 := bw.trans (b.mono (by omega))
  clear b bw hz HX hw1 hBB hW0 hw1s hzE
  go_loopw [7, 14] (fun v i wr => ∃ j : Nat, j ≤ xs.length ∧ i = .int .i64 j ∧ Row wr BB v (mapT s k xs j) ∧ Below BB w1 wr) (fun _ i _ => xs.length - (intOf i).toNat)
  case atStart => exact ⟨0, by omega, rfl, HRW.out, Below.refl _ _⟩
  case round =>
    obtain ⟨j, hj, rfl, hrow, hbb⟩ := hrel
    clear HRW
    have hlen := mapT_len s k xs j
    have hzr := hbb.size
    have q0 := ((bcell hbb).1 _ _ (by omega)).trans k0
    have q1 := ((bcell hbb).1 _ _ (by omega)).trans k1
    have HXr := Bx.mk (HXB.out.below hbb (Nat.le_refl _)).ir
    by_cases hlt : j < xs.length
    · obtain ⟨b, o, x, rfl, hbk, c1, H3⟩ := HXr.out.one hlt
      have H4 := Bx.mk H3.out
      clear H3
      have hki : (j : Int) < (xs.length : Int) := by omega
      obtain ⟨hx1, hx2⟩ := HBD.out x (List.mem_of_getElem? H4.out)
      have HN := Bx.mk (mapT_step (s := s) (k := k) H4.out)
      have HO := Bx.mk hrow
      have HB := Bx.mk hbb
      clear hrow hbb
      go_wp2_with fail
      refine (l02Mod_any _ _ hs1 (by omega) _).mono ?_
      rintro e w2 ⟨rfl, rfl⟩
      go_wp2_with (at_builtin; go_must (refine wpList_app1 rfl _ _ rfl BB _ (mapT s k xs j) ((x + k) % s) rfl rfl (by exact HO.out) (by omega) (by omega) ?_); intro v1 w4 hown1 hb1)
      have R := Bx.mk (And.intro hown1 (HB.out.trans hb1))
      clear hown1 hb1
      go_wp2_with fail
      go_roundw
      case rel => exact ⟨j + 1, by omega, by go_num, by rw [HN.out]; exact R.out.1, R.out.2⟩
      case measure => simp [intOf]; omega
    · have hkl : j = xs.length := by omega
      obtain ⟨A1, cc1, e1, io1⟩ := hrow.io (by omega)
      subst e1
      obtain ⟨zs, hzs⟩ : ∃ zs, zs = mapT s k xs j := ⟨_, rfl⟩
      have HR : Bx (rotL s xs k = selTo (memB zs) s.toNat) := ⟨by rw [rotL_sel hs1, hzs, hkl]; unfold mapT; rw [List.take_length]⟩
      rw [← hzs] at io1 ⊢
      have HI1 := Bx.mk io1.reads
      have HB := Bx.mk hbb
      replace R0 := R0.below hbb (by omega)
      clear hrow hbb hkl io1 hzs
      obtain ⟨n, hn⟩ := Int.eq_ofNat_of_zero_le (show 0 ≤ s by omega)
      subst hn
      rw [Int.toNat_natCast] at HR
      go_wp2_with fail
      refine (l02Of_any n _ _ _ _ (by omega) (by omega) (by exact HI1.out)).mono ?_
      rintro e w2 ⟨A2, c2, rfl, io, b⟩
      rw [← HR.out] at io ⊢
      obtain ⟨ys, hys⟩ : ∃ ys, ys = rotL n xs k := ⟨_, rfl⟩
      rw [← hys] at io ⊢
      have HYS := Bx.mk hys
      clear hys
      replace R0 := R0.below b (by omega)
      have cr0 := R0.at_ (i := 0) rfl
      have cr1 := R0.at_ (i := 1) rfl
      have fr0 := R0.frozen 0
      have fr1 := R0.frozen 1
      have bw2 := (bw1.trans (HB.out.mono (by omega))).trans (b.mono (by omega))
      have RF := Bx.mk ((R0.set 0 (.int .i64 n)).set 1 (.slice A2 ys.length c2))
      have BF := Bx.mk ((bw2.setCell (p := ⟨w.heap.size + 1, 0, none⟩) (show w.heap.size ≤ w.heap.size + 1 by omega) (.int .i64 n)).setCell (p := ⟨w.heap.size + 1, 1, none⟩) (show w.heap.size ≤ w.heap.size + 1 by omega) (.slice A2 ys.length c2))
      have hlow : w.heap.size + 1 < wr.heap.size := by omega
      have HIO := Bx.mk (((io.setLow (p := ⟨w.heap.size + 1, 0, none⟩) hlow (.int .i64 n)).setLow (p := ⟨w.heap.size + 1, 1, none⟩) hlow (.slice A2 ys.length c2)).mono (show w.heap.size ≤ wr.heap.size by omega))
      clear R0 b io bw2
      go_wp2_with fail
      refine bodyPost_ret (v := .agg #[.int .i64 n, .slice A2 ys.length c2]) (by simp [results, Try.results70, go_sem, RF.out.at_ (i := 0) rfl, RF.out.at_ (i := 1) rfl]) rfl ?_
      rw [← HYS.out]
      exact ⟨A2, c2, rfl, HIO.out, BF.out⟩
end Go.Proofs.Ytlgiijibekobfaa
