/- Mirrors and stretches of a rhythm. -/
import Derived.Test.YtikifkbgmniobaaGreatRts
import Derived.Test.YtikifkbgmniobaaGreatDiff
import Derived.Test.YtikifkbgmniobaaGreatTls
import Derived.Test.YtikifkbgmniobaaGreatBas
namespace Go.Proofs.YtikifkbgmniobaaGreat
open Go.RowKit
set_option maxRecDepth 20000

def negL (xs : List Int) : List Int := xs.map fun x => -x
def mirL (s : Int) (xs : List Int) : List Int := coll (modL s (negL xs))
theorem negL_take {xs : List Int} {j : Nat} {x : Int} (hx : xs[j]? = some x) : negL (xs.take (j + 1)) = negL (xs.take j) ++ [-x] := by
  unfold negL
  rw [List.take_add_one, hx, Option.toList_some, List.map_append]; rfl
theorem negL_len (xs : List Int) (j : Nat) : (negL (xs.take j)).length ≤ xs.length := by
  unfold negL; rw [List.length_map, List.length_take]; omega
def mulM (k : Int) (xs : List Int) : List Int := xs.map (k * ·)
def stL (s : Int) (xs : List Int) (k : Int) : List Int := coll (modL s (mulM k xs))
theorem mulM_take {k : Int} {xs : List Int} {j : Nat} {x : Int} (hx : xs[j]? = some x) : mulM k (xs.take (j + 1)) = mulM k (xs.take j) ++ [k * x] := by
  unfold mulM
  rw [List.take_add_one, hx, Option.toList_some, List.map_append]; rfl
theorem mulM_len (k : Int) (xs : List Int) (j : Nat) : (mulM k (xs.take j)).length ≤ xs.length := by
  unfold mulM; rw [List.length_map, List.length_take]; omega
theorem mul_bd {k x : Int} (hk : 0 ≤ k ∧ k ≤ 24) (hx : 0 ≤ x ∧ x ≤ 24) : 0 ≤ k * x ∧ k * x ≤ 576 :=
  ⟨Int.mul_nonneg hk.1 hx.1, by have := Int.mul_le_mul hk.2 hx.2 hx.1 (show (0 : Int) ≤ 24 by omega); omega⟩
theorem strClos (p k : Int) (g : Nat) (w : World) (hp : 0 ≤ p ∧ p ≤ 24) (hk : 0 ≤ k ∧ k ≤ 24) (k0 : w.cell? ⟨g, 0, none⟩ = some (.int .i64 k)) :
    Calls Tryz.prog 67 #[.int .i64 p, .pointer (some ⟨g, 0, none⟩)] w fun e w' => e = .returned (.int .i64 (k * p)) ∧ w = w' := by
  have hb := mul_bd hk hp
  obtain ⟨M, hM⟩ : ∃ M, k * p = M := ⟨_, rfl⟩
  rw [hM] at hb ⊢
  go_enter Tryz.func67, Tryz.ntmps67
  go_wp2
  go_ret
  exact ⟨rfl, rfl⟩
set_option maxHeartbeats 1000000 in
theorem movedStr_any (s : Int) (A : Option Addr) (c : Nat) (xs : List Int) (k : Int) (g : Nat) (w : World) (hs : 1 ≤ s ∧ s ≤ 24) (hb : ∀ x ∈ xs, 0 ≤ x ∧ x < 24) (hl : xs.length ≤ 1000) (hk : 0 ≤ k ∧ k ≤ 24) (hg : g < w.heap.size) (kg : w.cell? ⟨g, 0, none⟩ = some (.int .i64 k)) (hx : IR w A xs) :
    Calls Tryz.prog 53 #[.agg #[.int .i64 s, .slice A xs.length c], .func (.func 67) #[] #[.pointer (some ⟨g, 0, none⟩)]] w (GivesRh w s (stL s xs k)) := by
  have HBD := Bx.mk hb
  have HS := Bx.mk hs
  have HK := Bx.mk hk
  obtain ⟨W0, hW0⟩ : ∃ W0, W0 = (w.alloc (.cells #[.int .i64 s, .slice A xs.length c] 26)).alloc (.cells #[.int .i64 0, .slice none 0 0] 26) := ⟨_, rfl⟩
  have bw : Below w.heap.size w W0 := by rw [hW0]; exact (below_alloc _ _).alloc (by simp) _
  have hz : w.heap.size + 2 ≤ W0.heap.size := by rw [hW0]; simp
  have k0 : W0.cell? ⟨w.heap.size, 0, none⟩ = some (.int .i64 s) := by rw [hW0]; simp [go_sem]
  have k1 : W0.cell? ⟨w.heap.size, 1, none⟩ = some (.slice A xs.length c) := by rw [hW0]; simp [go_sem]
  have R0 : Blk W0 (w.heap.size + 1) 26 #[.int .i64 0, .slice none 0 0] := by rw [hW0]; have := Blk.new (w.alloc (.cells #[.int .i64 s, .slice A xs.length c] 26)) 26 #[.int .i64 0, .slice none 0 0]; simpa using this
  have kg0 := ((bcell bw).1 _ _ hg).trans kg
  have HX := Bx.mk (hx.below bw)
  clear hx hb hs hk kg
  go_enter Tryz.func53, Tryz.ntmps53
  go_wp2_with fail
  rw [← hW0]
  clear hW0
  go_loopw [5, 11] (fun v i wr => ∃ j : Nat, j ≤ xs.length ∧ i = .int .i64 j ∧ Row wr W0.heap.size v (mulM k (xs.take j)) ∧ Below W0.heap.size W0 wr) (fun _ i _ => xs.length - (intOf i).toNat)
  case atStart => exact ⟨0, by omega, rfl, Row.nil _ _, Below.refl _ _⟩
  case round =>
    obtain ⟨j, hj, rfl, hrow, hbb⟩ := hrel
    have hlen := mulM_len k xs j
    have hzr := hbb.size
    have q0 := ((bcell hbb).1 _ _ (by omega)).trans k0
    have q1 := ((bcell hbb).1 _ _ (by omega)).trans k1
    have qg := Bx.mk (((bcell hbb).1 _ _ (by omega)).trans kg0)
    by_cases hlt : j < xs.length
    · obtain ⟨b, o, x, rfl, hbk, c1, H3⟩ := (HX.out.below hbb).one hlt
      have H4 := Bx.mk H3.out
      clear H3
      have hki : (j : Int) < (xs.length : Int) := by omega
      obtain ⟨hx1, hx2⟩ := HBD.out x (List.mem_of_getElem? H4.out)
      have HN := Bx.mk (mulM_take (k := k) H4.out)
      have HO := Bx.mk hrow
      have HB := Bx.mk hbb
      clear hrow hbb
      go_wp2_with fail
      refine (strClos _ _ _ _ ⟨by omega, by omega⟩ HK.out qg.out).mono ?_
      rintro e w2 ⟨rfl, rfl⟩
      go_wp2_with (at_builtin; go_must (refine wpList_app1 rfl _ _ rfl W0.heap.size _ (mulM k (xs.take j)) (k * x) rfl rfl (by exact HO.out) (by omega) (by exact hzr) ?_); intro v1 w4 hown1 hb1)
      have R := Bx.mk (And.intro hown1 (HB.out.trans hb1))
      clear hown1 hb1
      go_wp2_with fail
      go_roundw
      case rel => exact ⟨j + 1, by omega, by go_num, by rw [HN.out]; exact R.out.1, R.out.2⟩
      case measure => simp [intOf]; omega
    · have hkl : j = xs.length := by omega
      obtain ⟨A1, cc1, e1, io1⟩ := hrow.io (by omega)
      subst e1
      obtain ⟨zs, hzs⟩ : ∃ zs, zs = mulM k (xs.take j) := ⟨_, rfl⟩
      have hzs2 : zs = mulM k xs := by rw [hzs, hkl, List.take_length]
      have HZB : Bx (∀ x ∈ zs, -1000000000000 ≤ x ∧ x ≤ 1000000000000) := ⟨fun x hx => by
        rw [hzs2] at hx
        unfold mulM at hx
        obtain ⟨y, hy, rfl⟩ := List.mem_map.1 hx
        have h1 := HBD.out y hy
        have h2 := HK.out
        have h3 := mul_bd h2 (show 0 ≤ y ∧ y ≤ 24 by omega)
        omega⟩
      have hzl : zs.length ≤ 100000 := by rw [hzs]; omega
      have HR : Bx (stL s xs k = coll (modL s zs)) := ⟨by rw [hzs2]; rfl⟩
      rw [← hzs] at io1 ⊢
      have HI1 := Bx.mk io1.reads
      have HB := Bx.mk hbb
      replace R0 := R0.below hbb (by omega)
      clear hrow hbb hkl io1 hzs hzs2
      go_wp2_with fail
      refine (rhythmOf_any _ _ _ _ _ HS.out HZB.out hzl (by exact HI1.out)).mono ?_
      rintro e w2 ⟨A2, c2, rfl, io, b⟩
      rw [← HR.out] at io ⊢
      obtain ⟨ys, hys⟩ : ∃ ys, ys = stL s xs k := ⟨_, rfl⟩
      rw [← hys] at io ⊢
      have HYS := Bx.mk hys
      clear hys
      replace R0 := R0.below b (by omega)
      have cr0 := R0.at_ (i := 0) rfl
      have cr1 := R0.at_ (i := 1) rfl
      have fr0 := R0.frozen 0
      have fr1 := R0.frozen 1
      have bw2 := (bw.trans (HB.out.mono bw.size)).trans (b.mono (by omega))
      have RF := Bx.mk ((R0.set 0 (.int .i64 s)).set 1 (.slice A2 ys.length c2))
      have BF := Bx.mk ((bw2.setCell (p := ⟨w.heap.size + 1, 0, none⟩) (show w.heap.size ≤ w.heap.size + 1 by omega) (.int .i64 s)).setCell (p := ⟨w.heap.size + 1, 1, none⟩) (show w.heap.size ≤ w.heap.size + 1 by omega) (.slice A2 ys.length c2))
      have hlow : w.heap.size + 1 < wr.heap.size := by omega
      have HIO := Bx.mk (((io.setLow (p := ⟨w.heap.size + 1, 0, none⟩) hlow (.int .i64 s)).setLow (p := ⟨w.heap.size + 1, 1, none⟩) hlow (.slice A2 ys.length c2)).mono (show w.heap.size ≤ wr.heap.size by omega))
      clear R0 b io bw2
      go_wp2_with fail
      refine bodyPost_ret (v := .agg #[.int .i64 s, .slice A2 ys.length c2]) (by simp [results, Tryz.results53, go_sem, RF.out.at_ (i := 0) rfl, RF.out.at_ (i := 1) rfl]) rfl ?_
      rw [← HYS.out]
      exact ⟨A2, c2, rfl, HIO.out, BF.out⟩
set_option maxHeartbeats 1000000 in
theorem stretched_any (s : Int) (A : Option Addr) (c : Nat) (xs : List Int) (k : Int) (w : World) (hs : 1 ≤ s ∧ s ≤ 24) (hb : ∀ x ∈ xs, 0 ≤ x ∧ x < 24) (hl : xs.length ≤ 1000) (hk : 0 ≤ k ∧ k ≤ 24) (hx : IR w A xs) :
    Calls Tryz.prog 45 #[.agg #[.int .i64 s, .slice A xs.length c], .int .i64 k] w (GivesRh w s (stL s xs k)) := by
  have HBD := Bx.mk hb
  obtain ⟨W0, hW0⟩ : ∃ W0, W0 = ((w.alloc (.cells #[.int .i64 s, .slice A xs.length c] 26)).alloc (.cells #[.int .i64 k] 3)).alloc (.cells #[.int .i64 0, .slice none 0 0] 26) := ⟨_, rfl⟩
  have bw : Below w.heap.size w W0 := by rw [hW0]; exact ((below_alloc _ _).alloc (by simp) _).alloc (by simp <;> omega) _
  have hz : w.heap.size + 3 ≤ W0.heap.size := by rw [hW0]; simp
  have k0 : W0.cell? ⟨w.heap.size, 0, none⟩ = some (.int .i64 s) := by rw [hW0]; simp [go_sem]
  have k1 : W0.cell? ⟨w.heap.size, 1, none⟩ = some (.slice A xs.length c) := by rw [hW0]; simp [go_sem]
  have kg : W0.cell? ⟨w.heap.size + 1, 0, none⟩ = some (.int .i64 k) := by rw [hW0]; simp [go_sem]
  have R0 : Blk W0 (w.heap.size + 1 + 1) 26 #[.int .i64 0, .slice none 0 0] := by rw [hW0]; have := Blk.new ((w.alloc (.cells #[.int .i64 s, .slice A xs.length c] 26)).alloc (.cells #[.int .i64 k] 3)) 26 #[.int .i64 0, .slice none 0 0]; simpa using this
  have HX := Bx.mk (hx.below bw)
  clear hx hb
  go_enter Tryz.func45, Tryz.ntmps45
  go_wp2_with fail
  rw [← hW0]
  clear hW0
  refine (movedStr_any _ _ _ _ k _ _ hs HBD.out hl hk (by omega) kg (by exact HX.out)).mono ?_
  rintro e w2 ⟨A2, c2, rfl, io, b⟩
  obtain ⟨ys, hys⟩ : ∃ ys, ys = stL s xs k := ⟨_, rfl⟩
  rw [← hys] at io ⊢
  have HYS := Bx.mk hys
  clear hys
  replace R0 := R0.below b (by omega)
  have cr0 := R0.at_ (i := 0) rfl
  have cr1 := R0.at_ (i := 1) rfl
  have fr0 := R0.frozen 0
  have fr1 := R0.frozen 1
  have bw2 := bw.trans (b.mono bw.size)
  have RF := Bx.mk ((R0.set 0 (.int .i64 s)).set 1 (.slice A2 ys.length c2))
  have BF := Bx.mk ((bw2.setCell (p := ⟨w.heap.size + 1 + 1, 0, none⟩) (show w.heap.size ≤ w.heap.size + 1 + 1 by omega) (.int .i64 s)).setCell (p := ⟨w.heap.size + 1 + 1, 1, none⟩) (show w.heap.size ≤ w.heap.size + 1 + 1 by omega) (.slice A2 ys.length c2))
  have hlow : w.heap.size + 1 + 1 < W0.heap.size := by omega
  have HIO := Bx.mk (((io.setLow (p := ⟨w.heap.size + 1 + 1, 0, none⟩) hlow (.int .i64 s)).setLow (p := ⟨w.heap.size + 1 + 1, 1, none⟩) hlow (.slice A2 ys.length c2)).mono (show w.heap.size ≤ W0.heap.size by omega))
  clear R0 b io bw2
  go_wp2_with fail
  refine bodyPost_ret (v := .agg #[.int .i64 s, .slice A2 ys.length c2]) (by simp [results, Tryz.results45, go_sem, RF.out.at_ (i := 0) rfl, RF.out.at_ (i := 1) rfl]) rfl ?_
  rw [← HYS.out]
  exact ⟨A2, c2, rfl, HIO.out, BF.out⟩
set_option maxHeartbeats 1000000 in
theorem unit_ok (n u : Nat) (hn : 1 ≤ n ∧ n ≤ 24) (hu : (n = 1 ∧ u = 1) ∨ (2 ≤ n ∧ u + 1 = n)) (w : World) : Calls Tryz.prog 44 #[.int .i64 u, .int .i64 n] w fun e w' => e = .returned (.bool true) ∧ Below w.heap.size w w' := by
  have hg : Bx (gcdI (u : Int) (n : Int) = 1) := ⟨by
    rcases hu with ⟨rfl, rfl⟩ | ⟨h2, h3⟩
    · rfl
    · subst h3
      unfold gcdI
      rw [show Int.gcd (u : Int) ((u + 1 : Nat) : Int) = Nat.gcd u (u + 1) from rfl, Nat.gcd_self_add_right, Nat.gcd_one_right]; rfl⟩
  have HGC : Bx (∀ W, Calls Tryz.prog 64 #[.int .i64 u, .int .i64 n] W fun e w' => e = .returned (.int .i64 1) ∧ Below W.heap.size W w') := ⟨fun W => by
    refine (gcd_any u n (by omega) (by omega) (by omega) (by omega) W).mono ?_
    rintro e w' ⟨rfl, k, rfl⟩
    exact ⟨by rw [hg.out], bdrewN_refl _ _⟩⟩
  clear hg
  rcases hu with ⟨rfl, rfl⟩ | ⟨h2, h3⟩
  · have hin : inB 1 1 1 = true := by decide
    go_enter Tryz.func44, Tryz.ntmps44
    go_wp2_with (go_at_call 52; refine (within_any _ _ _ _).mono ?_; rintro e w' ⟨rfl, rfl⟩)
    refine (HGC.out _).mono ?_
    rintro e w' ⟨rfl, b⟩
    have HB := Bx.mk b
    clear b
    go_wp2_with fail
    go_ret
    exact ⟨rfl, HB.out⟩
  · have hni : (n : Int) - 1 = (u : Int) := by omega
    have hin : inB (u : Int) 1 (u : Int) = true := inB_iff.2 ⟨by omega, by omega⟩
    clear h3
    by_cases h1 : u = 1
    · subst h1
      go_enter Tryz.func44, Tryz.ntmps44
      go_wp2_with (go_at_call 52; refine (within_any _ _ _ _).mono ?_; rintro e w' ⟨rfl, rfl⟩)
      refine (HGC.out _).mono ?_
      rintro e w' ⟨rfl, b⟩
      have HB := Bx.mk b
      clear b
      go_wp2_with fail
      go_ret
      exact ⟨rfl, HB.out⟩
    · have hmx : max (u : Int) 1 = (u : Int) := by omega
      have t1 : ¬ (u : Int) ≤ 1 := by omega
      have t2 : (1 : Int) < (u : Int) := by omega
      have t3 : 1 < u := by omega
      go_enter Tryz.func44, Tryz.ntmps44
      go_wp2_with (go_at_call 52; refine (within_any _ _ _ _).mono ?_; rintro e w' ⟨rfl, rfl⟩)
      refine (HGC.out _).mono ?_
      rintro e w' ⟨rfl, b⟩
      have HB := Bx.mk b
      clear b
      go_wp2_with fail
      go_ret
      exact ⟨rfl, HB.out⟩
set_option maxHeartbeats 1000000 in
theorem stretch_ok (s : Int) (A : Option Addr) (c : Nat) (xs : List Int) (n u : Nat) (hsn : s = n) (hu : (n = 1 ∧ u = 1) ∨ (2 ≤ n ∧ u + 1 = n)) (w : World) (hok : rhOk s xs = true) (hx : IR w A xs) :
    Calls Tryz.prog 19 #[.agg #[.int .i64 s, .slice A xs.length c], .int .i64 u] w (GivesRB w s (stL s xs (u : Int)) true) := by
  obtain ⟨⟨hs1, hs2⟩, hxb, _⟩ := rhOk_iff.1 hok
  have HXB := Bx.mk hxb
  have hll := (rhOk_len hok).1
  obtain ⟨W0, hW0⟩ : ∃ W0, W0 = (w.alloc (.cells #[.int .i64 s, .slice A xs.length c] 26)).alloc (.cells #[.int .i64 0, .slice none 0 0] 26) := ⟨_, rfl⟩
  have bw : Below w.heap.size w W0 := by rw [hW0]; exact (below_alloc _ _).alloc (by simp) _
  have hz : w.heap.size < W0.heap.size := by rw [hW0]; simp <;> omega
  have R0 : Blk W0 (w.heap.size + 1) 26 #[.int .i64 0, .slice none 0 0] := by rw [hW0]; have := Blk.new (w.alloc (.cells #[.int .i64 s, .slice A xs.length c] 26)) 26 #[.int .i64 0, .slice none 0 0]; simpa using this
  have hz2 : w.heap.size + 1 < W0.heap.size := by rw [hW0]; simp <;> omega
  have HUN : Bx (∀ W, Calls Tryz.prog 44 #[.int .i64 u, .int .i64 s] W fun e w' => e = .returned (.bool true) ∧ Below W.heap.size W w') := ⟨fun W => by rw [hsn]; exact unit_ok n u (by omega) hu W⟩
  have hub : u ≤ 24 := by omega
  clear hu hsn
  have k0 : W0.cell? ⟨w.heap.size, 0, none⟩ = some (.int .i64 s) := by rw [hW0]; simp [go_sem]
  have k1 : W0.cell? ⟨w.heap.size, 1, none⟩ = some (.slice A xs.length c) := by rw [hW0]; simp [go_sem]
  have HX := Bx.mk ((RB.of_ir hx).below bw (Nat.le_refl _))
  have HOK := Bx.mk hok
  have HS : Bx (-9223372036854775808 ≤ s ∧ s ≤ 9223372036854775807) := ⟨by omega⟩
  clear hx hxb
  go_enter Tryz.func19, Tryz.ntmps19
  go_wp2_with fail
  rw [← hW0]
  clear hW0
  refine (lit_b hok (implRhythmOk_any _ _ _ _ _ HS.out (by exact HX.out.ir))).mono ?_
  clear hok
  rintro e w1 ⟨rfl, b⟩
  replace k0 := ((bcell b).1 _ _ (by omega)).trans k0
  replace k1 := ((bcell b).1 _ _ (by omega)).trans k1
  replace HX := Bx.mk (HX.out.below b (by omega))
  replace bw := bw.trans (b.mono bw.size)
  replace R0 := R0.below b hz2
  have hz3 : w.heap.size + 2 ≤ w1.heap.size := by have := b.size; omega
  clear b
  go_wp2_with fail
  refine (HUN.out _).mono ?_
  rintro e w3 ⟨rfl, b⟩
  replace k0 := ((bcell b).1 _ _ (by omega)).trans k0
  replace k1 := ((bcell b).1 _ _ (by omega)).trans k1
  replace HX := Bx.mk (HX.out.below b (by omega))
  replace bw := bw.trans (b.mono bw.size)
  replace R0 := R0.below b (by omega)
  replace hz3 : w.heap.size + 2 ≤ w3.heap.size := Nat.le_trans hz3 b.size
  clear b
  go_wp2_with fail
  refine (stretched_any _ _ _ _ _ _ ⟨hs1, hs2⟩ (fun x hx => by have := HXB.out x hx; omega) (by omega) (by omega) (by exact HX.out.ir)).mono ?_
  rintro e w2 ⟨A2, c2, rfl, io, b⟩
  replace R0 := R0.below b (by omega)
  have cr0 := R0.at_ (i := 0) rfl
  have cr1 := R0.at_ (i := 1) rfl
  have fr0 := R0.frozen 0
  have fr1 := R0.frozen 1
  replace bw := bw.trans (b.mono bw.size)
  have RF := Bx.mk ((R0.set 0 (.int .i64 s)).set 1 (.slice A2 (stL s xs (u : Int)).length c2))
  have BF := Bx.mk ((bw.setCell (p := ⟨w.heap.size + 1, 0, none⟩) (show w.heap.size ≤ w.heap.size + 1 by omega) (.int .i64 s)).setCell (p := ⟨w.heap.size + 1, 1, none⟩) (show w.heap.size ≤ w.heap.size + 1 by omega) (.slice A2 (stL s xs (u : Int)).length c2))
  have HIO := Bx.mk ((io.setLow (p := ⟨w.heap.size + 1, 0, none⟩) (show w.heap.size + 1 < w3.heap.size by omega) (.int .i64 s)).setLow (p := ⟨w.heap.size + 1, 1, none⟩) (show w.heap.size + 1 < w3.heap.size by omega) (.slice A2 (stL s xs (u : Int)).length c2))
  clear R0 io b
  generalize stL s xs (u : Int) = L at *
  go_wp2_with fail
  exact bodyPost_ret (v := .tuple #[.agg #[.int .i64 s, .slice A2 L.length c2], .bool true]) (by simp [results, Tryz.results19, go_sem, RF.out.at_ (i := 0) rfl, RF.out.at_ (i := 1) rfl]) rfl ⟨A2, c2, rfl, HIO.out.mono (by omega), BF.out⟩
end Go.Proofs.YtikifkbgmniobaaGreat
