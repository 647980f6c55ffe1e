/- A generated rhythm with one beat more at the end of its chain: the reference. -/
import Derived.Test.YtbgfhbaaacmndaaExt
import Derived.Deep.RegionHeld3
import Derived.Deep.DeepCutAuto
import Derived.Deep.QuietTactic
import Derived.BigQuiet
namespace Go.Proofs.Ytbgfhbaaacmndaa
open Go.RowKit

set_option maxHeartbeats 1000000 in
set_option maxRecDepth 20000 in
theorem specExt_any (s : Int) (A : Option Addr) (c : Nat) (xs : List Int) (g : Int) (w : World) (hs : -9223372036854775808 ≤ s ∧ s ≤ 9223372036854775807) (hx : IR w A xs) :
    Calls Try.prog 25 #[.agg #[.int .i64 s, .slice A xs.length c], .int .i64 g] w (GivesRB w (extS s xs g) (extL s xs g) (extOk s xs g)) := by
  obtain ⟨W0, hW0⟩ : ∃ W0, W0 = (w.alloc (.cells #[.int .i64 s, .slice A xs.length c] 27)).alloc (.cells #[.int .i64 0, .slice none 0 0] 27) := ⟨_, rfl⟩
  have bw : Below w.heap.size w W0 := by rw [hW0]; exact (below_alloc _ _).alloc (by simp) _
  have hz : w.heap.size + 2 ≤ W0.heap.size := by rw [hW0]; simp
  have k0 : W0.cell? ⟨w.heap.size, 0, none⟩ = some (.int .i64 s) := by rw [hW0]; simp [go_sem]
  have k1 : W0.cell? ⟨w.heap.size, 1, none⟩ = some (.slice A xs.length c) := by rw [hW0]; simp [go_sem]
  have R0 : Blk W0 (w.heap.size + 1) 27 #[.int .i64 0, .slice none 0 0] := by rw [hW0]; have := Blk.new (w.alloc (.cells #[.int .i64 s, .slice A xs.length c] 27)) 27 #[.int .i64 0, .slice none 0 0]; simpa using this
  have HX := Bx.mk ((RB.of_ir hx).below bw (Nat.le_refl _))
  have HS := Bx.mk hs
  clear hx hs
  have hcl := chainR_len s xs g
  have HCB := Bx.mk (chain_bd (s := s) (xs := xs) (g := g))
  have HSEL := Bx.mk (fun (n : Nat) (h : 1 ≤ n) (e : (n : Int) = s) => (e ▸ ext_sel (n := n) (xs := xs) (g := g) h : coll (modL s (chainR s xs g ++ [extP s xs g])) = selTo (memB (chainR s xs g ++ [extP s xs g % s])) n))
  obtain ⟨C, hC⟩ : ∃ C, C = chainR s xs g := ⟨_, rfl⟩
  have HST : Bx (∀ c W, IR W A xs → Calls Try.prog 54 #[.agg #[.int .i64 s, .slice A xs.length c], .int .i64 g] W (GivesRw W C)) := ⟨fun c W h => by rw [hC]; exact specChain_any s A c xs g W HS.out h⟩
  obtain ⟨p, hp⟩ : ∃ p, p = extP s xs g := ⟨_, rfl⟩
  have HP : Bx (p = C[C.length - 1]?.getD 0 + g) := ⟨by rw [hp, hC]; rfl⟩
  have HOK : Bx (extOk s xs g = (decide (0 < C.length) && !hasR s xs p)) := ⟨by rw [hp, hC]; rfl⟩
  have HL : Bx (extOk s xs g = true → extL s xs g = coll (modL s (C ++ [p]))) := ⟨fun h => by unfold extL; rw [if_pos h, hp, hC]⟩
  rw [← hC, ← hp] at HSEL
  rw [← hC] at hcl HCB
  clear hC hp
  by_cases h0 : C.length = 0
  · have HNO : Bx (extOk s xs g = false) := ⟨by rw [HOK.out, h0]; rfl⟩
    have hC0 : C = [] := List.eq_nil_of_length_eq_zero h0
    subst hC0
    go_enter Try.func25, Try.ntmps25
    go_wp2_with fail
    rw [← hW0]
    clear hW0
    refine (HST.out _ _ (by exact HX.out.ir)).mono ?_
    rintro e w1 ⟨v1, rfl, hr, b⟩
    have hb0 := Bx.mk (show W0.heap.size ≤ w1.heap.size from b.size)
    have HROW := Bx.mk (hr.low (show w.heap.size + 2 ≤ W0.heap.size by omega))
    clear hr HST
    replace k0 := ((bcell b).1 _ _ (by omega)).trans k0
    replace k1 := ((bcell b).1 _ _ (by omega)).trans k1
    replace HX := Bx.mk (HX.out.below b (by omega))
    replace R0 := R0.below b (by omega)
    replace bw := bw.trans (b.mono bw.size)
    replace hz := Nat.le_trans hz b.size
    clear b
    obtain ⟨A1, c1, rfl⟩ := HROW.out.slice
    have cr0 := R0.at_ (i := 0) rfl
    have cr1 := R0.at_ (i := 1) rfl
    have fr0 := R0.frozen 0
    have fr1 := R0.frozen 1
    have RF := Bx.mk ((R0.set 0 (.int .i64 0)).set 1 (.slice none 0 0))
    have BF := Bx.mk ((bw.setCell (p := ⟨w.heap.size + 1, 0, none⟩) (show w.heap.size ≤ w.heap.size + 1 by omega) (.int .i64 0)).setCell (p := ⟨w.heap.size + 1, 1, none⟩) (show w.heap.size ≤ w.heap.size + 1 by omega) (.slice none 0 0))
    clear R0
    go_wp2_with fail
    refine bodyPost_ret (v := .tuple #[.agg #[.int .i64 0, .slice none 0 0], .bool false]) (by simp [results, Try.results25, go_sem, RF.out.at_ (i := 0) rfl, RF.out.at_ (i := 1) rfl]) rfl (GivesRB.eno HNO.out BF.out)
  · have hC0 : 0 < C.length := by omega
    obtain ⟨hok, hg1, hg2, hcb⟩ := HCB.out hC0
    obtain ⟨hs1, hs2⟩ := (rhOk_iff.1 hok).1
    have hs12 : 1 ≤ s ∧ s ≤ 24 := ⟨hs1, hs2⟩
    obtain ⟨m, hm⟩ : ∃ m, m = C.length - 1 := ⟨_, rfl⟩
    have hml : m < C.length := by omega
    have hzb := hcb m hml
    obtain ⟨z, hz'⟩ : ∃ z, z = C[m]?.getD 0 := ⟨_, rfl⟩
    rw [← hm, ← hz'] at HP
    rw [← hz'] at hzb
    obtain ⟨hz1, hz2⟩ := hzb
    have hpe := HP.out
    subst hpe
    have HHX : Bx (extOk s xs g = !hasR s xs (z + g)) := ⟨by rw [HOK.out, show decide (0 < C.length) = true from decide_eq_true hC0]; rfl⟩
    have HCBB : Bx (∀ x ∈ C ++ [z + g], -1000000000000 ≤ x ∧ x ≤ 1000000000000) := ⟨fun x hx => by
      rcases List.mem_append.1 hx with hx | hx
      · obtain ⟨i, hi, rfl⟩ := List.getElem_of_mem hx
        have := hcb i hi
        rw [List.getElem?_eq_getElem hi] at this
        simp only [Option.getD_some] at this
        omega
      · simp at hx; omega⟩
    have hmw : IntKind.i64.wrap ((C.length : Int) - 1) = (m : Int) := (IntWalk.i64_in _ (by omega)).trans (by omega)
    have hmi : (m : Int) < (C.length : Int) := by omega
    have hzg : IntKind.i64.wrap (z + g) = z + g := IntWalk.i64_in _ (by omega)
    have HME := Bx.mk hm
    have hcne : (((C.length : Int) == 0)) = false := by rw [beq_eq_false_iff_ne]; omega
    have h0i : ¬ (C.length : Int) = 0 := by omega
    clear hcb HCB HOK h0 hok
    have HZ := Bx.mk hz'
    clear hz' hm
    obtain ⟨n, hn⟩ := Int.eq_ofNat_of_zero_le (show 0 ≤ s by omega)
    have hn1 : 1 ≤ n := by omega
    have hn24 : n ≤ 24 := by omega
    have HSL := Bx.mk (HSEL.out n hn1 hn.symm)
    obtain ⟨q, hq⟩ : ∃ q, q = (z + g) % s := ⟨_, rfl⟩
    have htm : (z + g).tmod s = q := by rw [hq]; exact Int.tmod_eq_emod_of_nonneg (by omega)
    have HHQ : Bx (extOk s xs g = !memB xs q) := ⟨by rw [HHX.out, hq]; rfl⟩
    rw [← hq] at HSL
    have hs0 : ¬ s = 0 := by omega
    subst hn
    clear hq HSEL HHX
    cases hh : memB xs q with
    | true =>
      have HNO : Bx (extOk n xs g = false) := ⟨by rw [HHQ.out, hh]; rfl⟩
      go_enter Try.func25, Try.ntmps25
      go_wp2_with fail
      rw [← hW0]
      clear hW0
      refine (HST.out _ _ (by exact HX.out.ir)).mono ?_
      rintro e w1 ⟨v1, rfl, hr, b⟩
      have hb0 := Bx.mk (show W0.heap.size ≤ w1.heap.size from b.size)
      have HROW := Bx.mk (hr.low (show w.heap.size + 2 ≤ W0.heap.size by omega))
      clear hr HST
      replace k0 := ((bcell b).1 _ _ (by omega)).trans k0
      replace k1 := ((bcell b).1 _ _ (by omega)).trans k1
      replace HX := Bx.mk (HX.out.below b (by omega))
      replace R0 := R0.below b (by omega)
      replace bw := bw.trans (b.mono bw.size)
      replace hz := Nat.le_trans hz b.size
      clear b
      obtain ⟨A1, c1, e1, io⟩ := HROW.out.io (by omega)
      subst e1
      obtain ⟨gC, hgE⟩ : ∃ g, A1 = some ⟨g, 0, none⟩ := by
        rcases io.2.2 with ⟨_, e⟩ | ⟨g, cur, e, _⟩
        · rw [e] at hC0; simp at hC0
        · exact ⟨g, e⟩
      subst hgE
      obtain ⟨gC', oC, eA, hgC, hcC⟩ := io.reads.at_ hC0
      injection eA with eA
      injection eA with e1 e2
      subst e1 e2
      have cm := hcC m hml
      rw [Nat.zero_add] at cm
      rw [← HZ.out] at cm
      clear hcC io
      go_upto_region 4 with (fail)
      go_quiet (fail)
      replace k0 : (w1.drewN nq).cell? ⟨w.heap.size, 0, none⟩ = some (.int .i64 n) := k0
      replace k1 : (w1.drewN nq).cell? ⟨w.heap.size, 1, none⟩ = some (.slice A xs.length c) := k1
      replace HX : Bx (RB 0 w.heap.size (w1.drewN nq) A xs) := HX
      replace R0 : Blk (w1.drewN nq) (w.heap.size + 1) 27 #[.int .i64 0, .slice none 0 0] := R0
      replace bw := bdrewN bw nq
      replace hz : w.heap.size + 2 ≤ (w1.drewN nq).heap.size := hz
      replace HROW : Bx (Row (w1.drewN nq) (w.heap.size + 2) (.slice (some ⟨gC, 0, none⟩) C.length c1) C) := HROW
      generalize w1.drewN nq = w2 at *
      clear cm hgC
      go_wp2_with fail
      refine (l02Has_any _ _ _ _ _ (by exact HX.out.ir)).mono ?_
      rw [hh]
      rintro e w3 ⟨rfl, rfl⟩
      have cr0 := R0.at_ (i := 0) rfl
      have cr1 := R0.at_ (i := 1) rfl
      have fr0 := R0.frozen 0
      have fr1 := R0.frozen 1
      have RF := Bx.mk ((R0.set 0 (.int .i64 0)).set 1 (.slice none 0 0))
      have BF := Bx.mk ((bw.setCell (p := ⟨w.heap.size + 1, 0, none⟩) (show w.heap.size ≤ w.heap.size + 1 by omega) (.int .i64 0)).setCell (p := ⟨w.heap.size + 1, 1, none⟩) (show w.heap.size ≤ w.heap.size + 1 by omega) (.slice none 0 0))
      clear R0
      go_wp2_with fail
      refine bodyPost_ret (v := .tuple #[.agg #[.int .i64 0, .slice none 0 0], .bool false]) (by simp [results, Try.results25, go_sem, RF.out.at_ (i := 0) rfl, RF.out.at_ (i := 1) rfl]) rfl (GivesRB.eno HNO.out BF.out)
    | false =>
      have HYES : Bx (extOk n xs g = true) := ⟨by rw [HHQ.out, hh]; rfl⟩
      have HLL := Bx.mk (HL.out HYES.out)
      obtain ⟨L, hL⟩ : ∃ L, L = selTo (memB (C ++ [q])) n := ⟨_, rfl⟩
      have HRO : Bx (∀ A' c' W, IR W A' (C ++ [q]) → Calls Try.prog 47 #[.int .i64 n, .slice A' (C.length + 1) c'] W (GivesRh W n L)) := ⟨fun A' c' W h => by
        have := l02Of_any n A' c' (C ++ [q]) W hn1 hn24 h
        rw [show (C ++ [q]).length = C.length + 1 by simp, ← hL] at this
        exact this⟩
      rw [HSL.out, ← hL] at HLL
      clear hL
      go_enter Try.func25, Try.ntmps25
      go_wp2_with fail
      rw [← hW0]
      clear hW0
      refine (HST.out _ _ (by exact HX.out.ir)).mono ?_
      rintro e w1 ⟨v1, rfl, hr, b⟩
      have hb0 := Bx.mk (show W0.heap.size ≤ w1.heap.size from b.size)
      have HROW := Bx.mk (hr.low (show w.heap.size + 2 ≤ W0.heap.size by omega))
      clear hr HST
      replace k0 := ((bcell b).1 _ _ (by omega)).trans k0
      replace k1 := ((bcell b).1 _ _ (by omega)).trans k1
      replace HX := Bx.mk (HX.out.below b (by omega))
      replace R0 := R0.below b (by omega)
      replace bw := bw.trans (b.mono bw.size)
      replace hz := Nat.le_trans hz b.size
      clear b
      obtain ⟨A1, c1, e1, io⟩ := HROW.out.io (by omega)
      subst e1
      obtain ⟨gC, hgE⟩ : ∃ g, A1 = some ⟨g, 0, none⟩ := by
        rcases io.2.2 with ⟨_, e⟩ | ⟨g, cur, e, _⟩
        · rw [e] at hC0; simp at hC0
        · exact ⟨g, e⟩
      subst hgE
      obtain ⟨gC', oC, eA, hgC, hcC⟩ := io.reads.at_ hC0
      injection eA with eA
      injection eA with e1 e2
      subst e1 e2
      have cm := hcC m hml
      rw [Nat.zero_add] at cm
      rw [← HZ.out] at cm
      clear hcC io
      go_upto_region 4 with (fail)
      go_quiet (fail)
      replace k0 : (w1.drewN nq).cell? ⟨w.heap.size, 0, none⟩ = some (.int .i64 n) := k0
      replace k1 : (w1.drewN nq).cell? ⟨w.heap.size, 1, none⟩ = some (.slice A xs.length c) := k1
      replace HX : Bx (RB 0 w.heap.size (w1.drewN nq) A xs) := HX
      replace R0 : Blk (w1.drewN nq) (w.heap.size + 1) 27 #[.int .i64 0, .slice none 0 0] := R0
      replace bw := bdrewN bw nq
      replace hz : w.heap.size + 2 ≤ (w1.drewN nq).heap.size := hz
      replace HROW : Bx (Row (w1.drewN nq) (w.heap.size + 2) (.slice (some ⟨gC, 0, none⟩) C.length c1) C) := HROW
      generalize w1.drewN nq = w2 at *
      clear cm hgC
      go_wp2_with fail
      refine (l02Has_any _ _ _ _ _ (by exact HX.out.ir)).mono ?_
      rw [hh]
      rintro e w3 ⟨rfl, rfl⟩
      clear hh
      go_upto_region 7 with (fail)
      have hB0 : Bx (Below (w.heap.size + 1) w2 w2) := ⟨Below.refl _ _⟩
      have hBd : Bx (Below (w.heap.size + 1) w2 w2.drew) := ⟨(Below.refl _ _).drew⟩
      have hRd : Bx (Row w2.drew (w.heap.size + 2) (.slice (some ⟨gC, 0, none⟩) C.length c1) C) := ⟨HROW.out⟩
      have HR2 := Bx.mk R0
      clear R0 HX
      go_region_held3 (fun w' => w'.cell? ⟨w.heap.size, 0, none⟩ = some (.int .i64 n) ∧ Bx (Below (w.heap.size + 1) w2 w'))
        ((refine (fun (hK : Bx (Below (w.heap.size + 1) w2 _)) => ⟨((bcell hK.out).1 _ _ (by omega)).trans k0, hK⟩) ?_; first | assumption | exact ⟨Below.alloc (Bx.out (by assumption)) (by simp; omega) _⟩ | exact ⟨Below.drew (Bx.out (by assumption))⟩ | exact ⟨Below.setCell (p := ⟨w.heap.size + 1, 1, none⟩) (Below.setCell (p := ⟨w.heap.size + 1, 0, none⟩) (Bx.out (by assumption)) (Nat.le_refl _) _) (Nat.le_refl _) _⟩))
        (first
          | (go_at_call 47; refine (HRO.out _ _ _ HR3.out).mono ?_; rintro e w4 ⟨A4, c4, rfl, io4, b4⟩; have hBs4 : Bx (Below (w.heap.size + 2) w2 w4) := ⟨hBs3.out.trans (b4.mono (Nat.le_trans hz hBs3.out.size))⟩; have hBw4 : Bx (Below (w.heap.size + 1) w2 w4) := ⟨hBs4.out.mono (by omega)⟩; have R4 := HR2.out.below hBs4.out (by omega); have cr0 := R4.at_ (i := 0) rfl; have cr1 := R4.at_ (i := 1) rfl; have fr0 := R4.frozen 0; have fr1 := R4.frozen 1; have HR4 := Bx.mk R4; have HIO4 := Bx.mk (io4.mono (Nat.le_trans hz hBs3.out.size)); have hz4 : w.heap.size + 2 ≤ w4.heap.size := Nat.le_trans hz hBs4.out.size; clear R4 io4 b4)
          | (refine step_appL (by rfl) _ _ (by rfl) (w.heap.size + 2) (.slice (some ⟨gC, 0, none⟩) C.length c1) C (by rfl) (by exact hRd.out.alloc _) _ 0 1 [q] (by rfl) (ir_one (by refine blk_undrew ?_; exact blk_eq rfl)) (by simp) (by simp; omega) (by first | (simp; done) | (simp; omega)) ?_; intro g3 cap3 w3 hrow3 hgr3 hat3 hlt3; have hBs3 : Bx (Below (w.heap.size + 2) w2 w3) := ⟨((Below.refl _ _).drew).trans (below_of_row hRd.out _ hgr3 (by simp; omega))⟩; have hBw3 : Bx (Below (w.heap.size + 1) w2 w3) := ⟨hBs3.out.mono (by omega)⟩; have HR3 := Bx.mk (IO.reads (hrow3.io' rfl (by simp; omega))); clear hrow3 hgr3 hat3))
      have RF := Bx.mk ((HR4.out.set 0 (.int .i64 n)).set 1 (.slice A4 L.length c4))
      have BF := Bx.mk (((bw.trans (hBs4.out.mono (by omega))).setCell (p := ⟨w.heap.size + 1, 0, none⟩) (show w.heap.size ≤ w.heap.size + 1 by omega) (.int .i64 n)).setCell (p := ⟨w.heap.size + 1, 1, none⟩) (show w.heap.size ≤ w.heap.size + 1 by omega) (.slice A4 L.length c4))
      have HIO := Bx.mk (((HIO4.out.setLow (p := ⟨w.heap.size + 1, 0, none⟩) (show w.heap.size + 1 < w.heap.size + 2 by omega) (.int .i64 n)).setLow (p := ⟨w.heap.size + 1, 1, none⟩) (show w.heap.size + 1 < w.heap.size + 2 by omega) (.slice A4 L.length c4)).mono (show w.heap.size ≤ w.heap.size + 2 by omega))
      go_wp2_with fail
      refine bodyPost_ret (v := .tuple #[.agg #[.int .i64 n, .slice A4 L.length c4], .bool true]) (by simp [results, Try.results25, go_sem, RF.out.at_ (i := 0) rfl, RF.out.at_ (i := 1) rfl]) rfl (GivesRB.eyes HYES.out HLL.out HIO.out BF.out)
end Go.Proofs.Ytbgfhbaaacmndaa
