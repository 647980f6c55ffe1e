/- The law FnPolynomials, walked. -/
import Derived.Test.YtgfdmjhdfddopaaRegM
import Derived.Test.YtgfdmjhdfddopaaPolPl
import Derived.Test.YtgfdmjhdfddopaaDrw
import Derived.Test.YtgfdmjhdfddopaaLawH
import Derived.Test.YtgfdmjhdfddopaaDiff
import Derived.Test.YtgfdmjhdfddopaaLawB
import Derived.Test.YtgfdmjhdfddopaaBas
import Derived.Test.YtgfdmjhdfddopaaFinWords
import Derived.Deep.RegionHeld3
import Derived.Deep.DeepCutAuto
namespace Go.Proofs.Ytgfdmjhdfddopaa
open Go.RowKit
set_option maxRecDepth 20000

set_option linter.unusedSimpArgs false
theorem tot_bel {f : FuncId} {args : Array Value} {w : World} {v t : Int} (hv : v = t) (h : Calls Try.prog f args w fun e w' => e = .returned (.int .i64 v) ∧ ∃ k, w' = w.drewN k) : Calls Try.prog f args w fun e w' => e = .returned (.int .i64 t) ∧ Below w.heap.size w w' :=
  h.mono fun _ _ ⟨he, k, hk⟩ => ⟨by rw [he, hv], by rw [hk]; exact bdrewN_refl _ _⟩
theorem lit_two {f : FuncId} {args : Array Value} {w : World} {p : Int × Bool} {a : Int} (hp : p = (a, true)) (h : Calls Try.prog f args w fun e w' => e = .returned (two p) ∧ Below w.heap.size w w') : Calls Try.prog f args w fun e w' => e = .returned (.tuple #[.int .i64 a, .bool true]) ∧ Below w.heap.size w w' :=
  h.mono fun _ _ ⟨he, hb⟩ => ⟨by rw [he, hp]; rfl, hb⟩
set_option maxHeartbeats 16000000 in
set_option maxRecDepth 100000 in
theorem walkFnPolynomials (w : World) (A0 : Option Addr) (c0 : Nat) (xs0 : List Int) (ha0 : AR .u8 w A0 xs0) (hf0 : ∀ x ∈ xs0, 0 ≤ x ∧ x ≤ 255) :
    Calls Try.prog 4 #[.slice A0 xs0.length c0] w fun e w' => e = .returned (.bool true) ∧ Below w.heap.size w w' := by
  obtain ⟨n0, hn0⟩ : ∃ n0, n0 = xs0.length := ⟨_, rfl⟩
  by_cases hbig : n0 ≤ 1048576
  rotate_left
  · have hgt : (n0 : Int) > 1048576 := by omega
    rw [← hn0]
    clear hn0
    go_enter Try.func4, Try.ntmps4
    go_wp2_with fail
    go_ret
    exact ⟨rfl, Below.refl _ _⟩
  have HB : Bx (BR w A0 n0) := ⟨br_of hn0 hbig ha0 hf0⟩
  have bw : Below w.heap.size w w := Below.refl _ _
  have hgt : ¬ (n0 : Int) > 1048576 := by omega
  rw [← hn0]
  clear hn0 ha0 hf0
  go_enter Try.func4, Try.ntmps4
  go_wp2_with fail
  refine (makeNum_any _ _ _ 0 _ (by omega) (by exact HB.out)).mono ?_
  rintro e w1 ⟨q1, hq1, rfl, b⟩
  replace HB := Bx.mk (HB.out.below b)
  replace bw := bw.trans (b.mono bw.size)
  clear b
  obtain ⟨m1, hm⟩ : ∃ m : Nat, m = q1 % 24 := ⟨_, rfl⟩
  have hmb : m1 < 24 := by rw [hm]; exact Nat.mod_lt _ (by omega)
  have hme : (q1 : Int) % 24 = (m1 : Int) := by rw [hm]; exact (Int.natCast_emod q1 24).symm
  have hmt : (q1 : Int).tmod 24 = (m1 : Int) := by rw [hm]; exact (Int.ofNat_tmod q1 24).symm
  obtain ⟨n, hn⟩ : ∃ n : Nat, n = 1 + m1 := ⟨_, rfl⟩
  have hni : (1 : Int) + (m1 : Int) = (n : Int) := by omega
  have hn1 : 1 ≤ n := by omega
  have hnm : n < 1 + 24 := by omega
  clear hm hn
  have hn24 : n ≤ 24 := by omega
  clear hnm
  go_upto_region 4 with (fail)
  clear hme hmt hni hmb
  obtain ⟨L, hL⟩ : ∃ L, L = (divs n).length := ⟨_, rfl⟩
  obtain ⟨D, hD⟩ : ∃ D, D = divs (n : Int) := ⟨_, rfl⟩
  have HPF : Bx (PolEnd n) := ⟨pol_facts hn1 hn24⟩
  have HDI : Bx (∀ W, Calls Try.prog 11 #[.int .i64 n] W (GivesInts W D)) := ⟨fun W => by rw [hD]; exact implDivisorsOf_any n W⟩
  have HDL : Bx (D.length = L) := ⟨by rw [hD, hL]⟩
  have HDA : Bx (∀ i : Nat, D[i]?.getD 0 = dvAt n i) := ⟨fun i => by rw [hD]; rfl⟩
  have HLE : Bx (L = (divs n).length) := ⟨hL⟩
  have hL24 : L ≤ 24 := by rw [hL]; exact HPF.out.dl
  clear hL hD
  go_upto_region 5 with (fail)
  obtain ⟨w2, hW⟩ : ∃ w2, w2 = w1.alloc (.cells #[.int .i64 1] 3) := ⟨_, rfl⟩
  obtain ⟨gp, hg⟩ : ∃ gp, gp = w1.heap.size := ⟨_, rfl⟩
  have b : Below w1.heap.size w1 w2 := by rw [hW]; exact below_alloc _ _
  have kp : w2.cell? ⟨gp, 0, none⟩ = some (.int .i64 1) := by rw [hW, hg]; simp [go_sem]
  have lt_gp : gp < w2.heap.size := by rw [hW, hg]; simp
  have HP1 : Bx (IR w2 (some ⟨gp, 0, none⟩) (pT n 0)) := ⟨by
    rw [HPF.out.start]
    refine ⟨by simp, fun _ => ⟨gp, 0, rfl, lt_gp, fun k hk => ?_⟩⟩
    have : k = 0 := by simpa using hk
    subst this
    exact kp⟩
  clear kp
  rw [← hW, ← hg]
  clear hW hg lt_gp
  replace HB := Bx.mk (HB.out.below b)
  replace bw := bw.trans (b.mono bw.size)
  clear b
  go_wp2_with fail
  refine (HDI.out _).mono ?_
  rintro e w3 ⟨AD, cD, rfl, io, b⟩
  replace HP1 := Bx.mk (HP1.out.below b)
  replace HB := Bx.mk (HB.out.below b)
  replace bw := bw.trans (b.mono bw.size)
  clear b
  have HDr := Bx.mk io.reads
  clear io
  clear HDI
  have hDLI : (D.length : Int) = (L : Int) := by rw [HDL.out]
  have HP0 : Bx (Value.slice (some ⟨gp, 0, none⟩) 1 1 = .slice (some ⟨gp, 0, none⟩) (pT n 0).length 1) := ⟨by rw [HPF.out.start]; rfl⟩
  go_wp2_with fail
  go_loopw [4, 5, 6, 36] (fun p ok dg iv wr => ∃ (k : Nat) (A : Option Addr) (c : Nat), k ≤ L ∧ p = .slice A (pT n k).length c ∧ ok = .bool true ∧ dg = .int .i64 (dT n k) ∧ iv = .int .i64 k ∧ Bx (IR wr A (pT n k)) ∧ Bx (Below w3.heap.size w3 wr)) (fun _ _ _ iv _ => L - (intOf iv).toNat)
  case atStart => exact ⟨0, _, _, by omega, HP0.out, rfl, rfl, rfl, HP1, ⟨Below.refl _ _⟩⟩
  case round =>
    obtain ⟨k, Ap, cp, hk, rfl, rfl, rfl, rfl, HP, HR⟩ := hrel
    clear HP0 HP1
    by_cases hlt : k < L
    · have hli : (k : Int) < D.length := by rw [HDL.out]; omega
      have HF : Bx (PolAt n k) := ⟨HPF.out.step k (by rw [← HLE.out]; exact hlt)⟩
      obtain ⟨bD, oD, d, rfl, lt_bD, kD, H1⟩ := (HDr.out.below HR.out).one (k := k) (by rw [HDL.out]; exact hlt)
      have hd := HDA.out k
      rw [H1.out] at hd
      simp only [Option.getD_some] at hd
      clear H1
      obtain ⟨C, hC⟩ : ∃ C, C = cyc d.toNat := ⟨_, rfl⟩
      obtain ⟨t, ht⟩ : ∃ t, t = tot d := ⟨_, rfl⟩
      obtain ⟨P, hP⟩ : ∃ P, P = pT n k := ⟨_, rfl⟩
      obtain ⟨P2, hP2⟩ : ∃ P2, P2 = pT n (k + 1) := ⟨_, rfl⟩
      obtain ⟨g0, hg0⟩ : ∃ g0, g0 = dT n k := ⟨_, rfl⟩
      obtain ⟨f1, f2, f3, f4, f5, f6, f7⟩ := HF.out
      rw [← hd] at f1 f2 f3 f4 f5 f7
      have f8 : dT n (k + 1) = g0 + t := by simp only [dT]; rw [← hg0, ← hd, ht]
      rw [← hC] at f2 f3 f4 f5
      rw [← ht] at f2 f7
      rw [← hP] at f4 f5 HP ⊢
      rw [← hP2] at f5
      rw [← hg0] at f6 ⊢
      have HCY : Bx (∀ W, Calls Try.prog 20 #[.int .i64 d] W (GivesInts W C)) := ⟨fun W => by
        have := implCyc_any d W
        unfold cycI at this
        rw [if_pos (inB_yes f1), ← hC] at this
        exact this⟩
      have HT1 : Bx (∀ W, Calls Try.prog 21 #[.int .i64 d] W fun e w' => e = .returned (.int .i64 t) ∧ Below W.heap.size W w') := ⟨fun W => tot_bel ht.symm (specTotient_any d W)⟩
      have HT2 : Bx (∀ W, Calls Try.prog 22 #[.int .i64 d] W fun e w' => e = .returned (.int .i64 t) ∧ Below W.heap.size W w') := ⟨fun W => tot_bel ht.symm (implTotient_any d W)⟩
      have HTM : Bx (∀ A B c d' W, IR W A P → IR W B C → Calls Try.prog 23 #[.slice A P.length c, .slice B C.length d'] W (GivesIB W P2 true)) := ⟨fun A B c d' W h1 h2 => by
        have := implTimes_any A B c d' P C W h1 h2
        unfold timesI at this
        rw [if_pos f4, f4, f5] at this
        exact this⟩
      have HG := Bx.mk f8
      have HPE := Bx.mk hP2
      obtain ⟨e0, he0⟩ : ∃ e0 : Nat, e0 = C.length - 1 := ⟨_, rfl⟩
      have hel : e0 < C.length := by omega
      have heb : e0 ≤ 100 := by omega
      have hLC : (((C.length : Nat) : Int) != t + 1) = false := by rw [bne_eq_false_iff_eq, f2]
      have hce : (C.length : Int) - 1 = (e0 : Int) := by omega
      have hlast : C[e0]?.getD 0 = 1 := by rw [he0]; exact f3
      have HLA := Bx.mk hlast
      have htt : (t != t) = false := by simp
      obtain ⟨f9, f10⟩ := f7
      obtain ⟨f11, f12⟩ := f6
      obtain ⟨f13, f14⟩ := f1
      clear hC ht hP hP2 hg0 hd f2 f3 f4 f5 f8 he0 hlast HF
      have bw := HR.out
      clear HR
      go_wp2_with fail
      refine (HCY.out _).mono ?_
      rintro e w4 ⟨AC, cC, rfl, io, b⟩
      replace kD := ((bcell b).1 _ _ lt_bD).trans kD
      replace lt_bD := Nat.lt_of_lt_of_le lt_bD b.size
      replace HP := Bx.mk (HP.out.below b)
      replace bw := bw.trans (b.mono bw.size)
      clear b
      have HCr := Bx.mk io.reads
      clear io
      obtain ⟨bC, oC, z, rfl, lt_bC, kC, H3⟩ := HCr.out.one (k := e0) hel
      have hz := HLA.out
      rw [H3.out] at hz
      simp only [Option.getD_some] at hz
      subst hz
      clear H3 HLA
      have hel2 : (e0 : Int) < (C.length : Int) := by omega
      go_wp2_with fail
      refine (HT1.out _).mono ?_
      rintro e w5 ⟨rfl, b⟩
      replace kD := ((bcell b).1 _ _ lt_bD).trans kD
      replace kC := ((bcell b).1 _ _ lt_bC).trans kC
      replace lt_bD := Nat.lt_of_lt_of_le lt_bD b.size
      replace lt_bC := Nat.lt_of_lt_of_le lt_bC b.size
      replace HP := Bx.mk (HP.out.below b)
      replace HCr := Bx.mk (HCr.out.below b)
      replace bw := bw.trans (b.mono bw.size)
      clear b
      go_wp2_with fail
      refine (HT2.out _).mono ?_
      rintro e w6 ⟨rfl, b⟩
      replace kD := ((bcell b).1 _ _ lt_bD).trans kD
      replace kC := ((bcell b).1 _ _ lt_bC).trans kC
      replace lt_bD := Nat.lt_of_lt_of_le lt_bD b.size
      replace lt_bC := Nat.lt_of_lt_of_le lt_bC b.size
      replace HP := Bx.mk (HP.out.below b)
      replace HCr := Bx.mk (HCr.out.below b)
      replace bw := bw.trans (b.mono bw.size)
      clear b
      go_wp2_with fail
      refine (HT1.out _).mono ?_
      rintro e w7 ⟨rfl, b⟩
      replace kD := ((bcell b).1 _ _ lt_bD).trans kD
      replace kC := ((bcell b).1 _ _ lt_bC).trans kC
      replace lt_bD := Nat.lt_of_lt_of_le lt_bD b.size
      replace lt_bC := Nat.lt_of_lt_of_le lt_bC b.size
      replace HP := Bx.mk (HP.out.below b)
      replace HCr := Bx.mk (HCr.out.below b)
      replace bw := bw.trans (b.mono bw.size)
      clear b
      go_wp2_with fail
      refine (HT2.out _).mono ?_
      rintro e w8 ⟨rfl, b⟩
      replace kD := ((bcell b).1 _ _ lt_bD).trans kD
      replace kC := ((bcell b).1 _ _ lt_bC).trans kC
      replace lt_bD := Nat.lt_of_lt_of_le lt_bD b.size
      replace lt_bC := Nat.lt_of_lt_of_le lt_bC b.size
      replace HP := Bx.mk (HP.out.below b)
      replace HCr := Bx.mk (HCr.out.below b)
      replace bw := bw.trans (b.mono bw.size)
      clear b
      go_wp2_with fail
      refine (HTM.out _ _ _ _ _ (by exact HP.out) (by exact HCr.out)).mono ?_
      rintro e w9 ⟨A2, c2, rfl, io, b⟩
      replace kD := ((bcell b).1 _ _ lt_bD).trans kD
      replace kC := ((bcell b).1 _ _ lt_bC).trans kC
      replace lt_bD := Nat.lt_of_lt_of_le lt_bD b.size
      replace lt_bC := Nat.lt_of_lt_of_le lt_bC b.size
      replace HP := Bx.mk (HP.out.below b)
      replace HCr := Bx.mk (HCr.out.below b)
      replace bw := bw.trans (b.mono bw.size)
      clear b
      have HP2 := Bx.mk io.reads
      clear io
      have HRF := Bx.mk bw
      clear bw
      go_wp2_with fail
      rw [HPE.out] at HP2 ⊢
      go_roundw
      case rel => exact ⟨k + 1, A2, c2, by omega, rfl, rfl, by rw [HG.out], by go_num, HP2, HRF⟩
      case measure => simp [intOf]; omega
    have hkL : k = L := by omega
    have hli : ¬ (k : Int) < D.length := by rw [HDL.out]; omega
    obtain ⟨P, hP⟩ : ∃ P, P = pT n k := ⟨_, rfl⟩
    have f1 := HPF.out.len
    have f2 := HPF.out.deg
    have f3 := HPF.out.low
    have f4 := HPF.out.high
    have HPM : Bx (∀ i, 1 ≤ i → i < n → P[i]? = some 0) := ⟨fun i h1 h2 => by rw [hP, hkL, HLE.out]; exact HPF.out.mid i h1 h2⟩
    rw [← HLE.out, ← hkL] at f1 f2 f3 f4
    rw [f2]
    rw [← hP] at f1 f3 f4 HP ⊢
    obtain ⟨bP, oP, z, rfl, lt_bP, kP0, H0⟩ := HP.out.one (k := 0) (by omega)
    obtain ⟨b2, o2, z2, e1, _, kPn, H1⟩ := HP.out.one (k := n) (by omega)
    injection e1 with e1; injection e1 with e1 e2; subst e1 e2
    have hz := H0.out
    rw [f3] at hz
    injection hz with hz
    have hz2 := H1.out
    rw [f4] at hz2
    injection hz2 with hz2
    subst hz hz2
    have kP0' : wr.cell? ⟨bP, oP, none⟩ = some (.int .i64 (-1)) := kP0
    have hPl : (((P.length : Nat) : Int) != (n : Int) + 1) = false := by rw [bne_eq_false_iff_eq, f1]; omega
    have hnn : (((n : Nat) : Int) != (n : Int)) = false := by simp
    have hp0 : (0 : Int) < (P.length : Int) := by omega
    have hpn : (n : Int) < (P.length : Int) := by omega
    have HPL : Bx (P.length = n + 1) := ⟨f1⟩
    clear H0 H1 f1 f2 f3 f4 hP hkL hlt hk HPF HLE HDA HDL
    have b := HR.out
    clear HR
    replace HDr := Bx.mk (HDr.out.below b)
    replace HB := Bx.mk (HB.out.below b)
    replace bw := bw.trans (b.mono bw.size)
    clear b
    go_upto_region 20 with (fail)
    clear kP0 kP0' kPn hPl hnn hp0 hpn hDLI HDr
    go_wp2_with fail
    go_loopw [10] (fun iv wr2 => ∃ i : Nat, 1 ≤ i ∧ i ≤ n ∧ iv = .int .i64 i ∧ Bx (Below wr.heap.size wr wr2)) (fun iv _ => n - (intOf iv).toNat)
    case atStart => exact ⟨1, by omega, hn1, rfl, ⟨Below.refl _ _⟩⟩
    case round =>
      obtain ⟨i, hi1, hin, rfl, HR⟩ := hrel
      by_cases hlt : i < n
      · have hli : (i : Int) < (n : Int) := by omega
        obtain ⟨b2, o2, z2, e1, _, kPi, H1⟩ := (HP.out.below HR.out).one (k := i) (by rw [HPL.out]; omega)
        injection e1 with e1; injection e1 with e1 e2; subst e1 e2
        have hz2 := H1.out
        rw [HPM.out i hi1 hlt] at hz2
        injection hz2 with hz2
        subst hz2
        have hpi : (i : Int) < (P.length : Int) := by rw [HPL.out]; omega
        clear H1
        go_wp2_with fail
        go_roundw
        case rel => exact ⟨i + 1, by omega, by omega, by go_num, HR⟩
        case measure => simp [intOf]; omega
      have hli : ¬ (i : Int) < (n : Int) := by omega
      have b := HR.out
      clear HR HPM HPL hlt
      replace lt_bP := Nat.lt_of_lt_of_le lt_bP b.size
      replace HP := Bx.mk (HP.out.below b)
      replace HB := Bx.mk (HB.out.below b)
      replace bw := bw.trans (b.mono bw.size)
      clear b
      go_wp2_with fail
      clear hli HP
      refine (makeRhythm_any _ _ _ 2 _ (by omega) (by exact HB.out)).mono ?_
      rintro e w10 ⟨s, hs1, hs16, a, haok, Aa, ca, rfl, io, b⟩
      replace lt_bP := Nat.lt_of_lt_of_le lt_bP b.size
      replace HB := Bx.mk (HB.out.below b)
      replace bw := bw.trans (b.mono bw.size)
      clear b
      have HAOK := Bx.mk haok
      have hal := (rhOk_len haok).1
      clear haok
      have HA := Bx.mk io.reads
      clear io
      obtain ⟨w11, hW⟩ : ∃ w11, w11 = w10.alloc (.cells #[.int .i64 s, .slice Aa a.length ca] 25) := ⟨_, rfl⟩
      obtain ⟨ga, hg⟩ : ∃ ga, ga = w10.heap.size := ⟨_, rfl⟩
      have b : Below w10.heap.size w10 w11 := by rw [hW]; exact below_alloc _ _
      have kga0 : w11.cell? ⟨ga, 0, none⟩ = some (.int .i64 s) := by rw [hW, hg]; simp [go_sem]
      have kga1 : w11.cell? ⟨ga, 1, none⟩ = some (.slice Aa a.length ca) := by rw [hW, hg]; simp [go_sem]
      have lt_ga : ga < w11.heap.size := by rw [hW, hg]; simp
      replace lt_bP := Nat.lt_of_lt_of_le lt_bP b.size
      replace HA := Bx.mk (HA.out.below b)
      replace HB := Bx.mk (HB.out.below b)
      replace bw := bw.trans (b.mono bw.size)
      clear b
      go_upto_region 26 with (fail)
      rw [← hW, ← hg]
      clear hW hg
      go_wp2_with fail
      refine (makeNum_any _ _ _ 30 _ (by omega) (by exact HB.out)).mono ?_
      rintro e w12 ⟨q2, hq2, rfl, b⟩
      replace kga0 := ((bcell b).1 _ _ lt_ga).trans kga0
      replace kga1 := ((bcell b).1 _ _ lt_ga).trans kga1
      replace lt_bP := Nat.lt_of_lt_of_le lt_bP b.size
      replace lt_ga := Nat.lt_of_lt_of_le lt_ga b.size
      replace HA := Bx.mk (HA.out.below b)
      replace HB := Bx.mk (HB.out.below b)
      replace bw := bw.trans (b.mono bw.size)
      clear b
      obtain ⟨m1, hm⟩ : ∃ m : Nat, m = q2 % 12 := ⟨_, rfl⟩
      have hmb : m1 < 12 := by rw [hm]; exact Nat.mod_lt _ (by omega)
      have hme : (q2 : Int) % 12 = (m1 : Int) := by rw [hm]; exact (Int.natCast_emod q2 12).symm
      have hmt : (q2 : Int).tmod 12 = (m1 : Int) := by rw [hm]; exact (Int.ofNat_tmod q2 12).symm
      obtain ⟨d, hd⟩ : ∃ d : Nat, d = 1 + m1 := ⟨_, rfl⟩
      have hdi : (1 : Int) + (m1 : Int) = (d : Int) := by omega
      have hd1 : 1 ≤ d := by omega
      have hdm : d < 1 + 12 := by omega
      clear hm hd
      have hd12 : d ≤ 12 := by omega
      clear hdm
      obtain ⟨R, hR⟩ : ∃ R, R = restI s a d := ⟨_, rfl⟩
      obtain ⟨t, ht⟩ : ∃ t, t = tot d := ⟨_, rfl⟩
      obtain ⟨vb, hvb⟩ : ∃ vb, vb = vanI s a d := ⟨_, rfl⟩
      have HRB : Bx (∀ A c W, IR W A a → Calls Try.prog 25 #[.agg #[.int .i64 s, .slice A a.length c], .int .i64 d] W (GivesInts W R)) := ⟨fun A c W h => by rw [hR]; exact implRest_any s A c a d W ⟨by omega, by omega⟩ h⟩
      have HVA : Bx (∀ A c W, IR W A a → Calls Try.prog 13 #[.agg #[.int .i64 s, .slice A a.length c], .int .i64 d] W fun e w' => e = .returned (.bool vb) ∧ Below W.heap.size W w') := ⟨fun A c W h => by rw [hvb]; exact implVan_any s A c a d W ⟨by omega, by omega⟩ h⟩
      have HTT : Bx (∀ W, Calls Try.prog 22 #[.int .i64 d] W fun e w' => e = .returned (.int .i64 t) ∧ Below W.heap.size W w') := ⟨fun W => tot_bel ht.symm (implTotient_any d W)⟩
      have hRt : ¬ (R.length : Int) > t := by have := rest_tot HAOK.out (d := d) hd1 (by omega); rw [← hR, ← ht] at this; omega
      have hvr : (((R.length : Nat) : Int) == 0) = vb := by
        rw [hvb, hR]
        unfold vanI
        rw [HAOK.out, inB_yes (by omega : (1 : Int) ≤ (d : Int) ∧ (d : Int) ≤ 24), Bool.eq_iff_iff]
        simp only [Bool.true_and, beq_iff_eq, decide_eq_true_eq]
        omega
      have HVR := Bx.mk hvr
      have HRT := Bx.mk hRt
      obtain ⟨pa, hpa⟩ : ∃ pa, pa = polyL s a := ⟨_, rfl⟩
      have HPO : Bx (∀ A c W, IR W A a → Calls Try.prog 27 #[.agg #[.int .i64 s, .slice A a.length c]] W (GivesInts W pa)) := ⟨fun A c W h => by
        have := implPoly_any s A c a W ⟨by omega, by omega⟩ h
        unfold polyI at this
        rw [if_pos HAOK.out, ← hpa] at this
        exact this⟩
      have hpk : polyOk pa = true := by rw [hpa]; exact polyL_ok HAOK.out
      have hpl : pa.length ≤ 25 := by rw [hpa]; have := polyL_len (s := (s : Int)) (xs := a) ⟨by omega, by omega⟩; omega
      obtain ⟨od, hod⟩ : ∃ od, od = oddTo a a.length := ⟨_, rfl⟩
      have hodb := oddTo_bd (xs := a) a.length
      rw [← hod] at hodb
      obtain ⟨z2, hz2⟩ : ∃ z2, z2 = (a.length : Int) - 2 * od := ⟨_, rfl⟩
      have HV1 : Bx (∀ A c W, IR W A pa → Calls Try.prog 28 #[.slice A pa.length c, .int .i64 1] W fun e w' => e = .returned (.tuple #[.int .i64 (a.length : Int), .bool true]) ∧ Below W.heap.size W w') := ⟨fun A c W h => lit_two (by
        unfold valueI
        rw [if_pos ⟨hpk, hpl, by decide⟩, hpa, horn_one HAOK.out]) (implValueAt_any A c pa 1 W h)⟩
      have HV2 : Bx (∀ A c W, IR W A pa → Calls Try.prog 28 #[.slice A pa.length c, .int .i64 (-1)] W fun e w' => e = .returned (.tuple #[.int .i64 z2, .bool true]) ∧ Below W.heap.size W w') := ⟨fun A c W h => lit_two (by
        unfold valueI
        rw [if_pos ⟨hpk, hpl, by decide⟩, hpa, horn_neg HAOK.out, hz2, hod]) (implValueAt_any A c pa (-1) W h)⟩
      have HO2 : Bx (s % 2 = 0 → memB (ordI s a) 2 = decide (2 * od = a.length)) := ⟨fun h => by rw [hod]; exact ord_two HAOK.out h⟩
      have HOD := Bx.mk hod
      have HZ2 := Bx.mk hz2
      have HVB := Bx.mk hvb
      have HODB := Bx.mk hodb
      clear hR ht hvb hpa hpk hpl hod hz2 hRt hvr hodb
      go_wp2_with fail
      clear hme hmt hdi hmb
      refine (HRB.out _ _ _ (by exact HA.out)).mono ?_
      rintro e w13 ⟨AR', cR, rfl, io, b⟩
      replace kga0 := ((bcell b).1 _ _ lt_ga).trans kga0
      replace kga1 := ((bcell b).1 _ _ lt_ga).trans kga1
      replace lt_bP := Nat.lt_of_lt_of_le lt_bP b.size
      replace lt_ga := Nat.lt_of_lt_of_le lt_ga b.size
      replace HA := Bx.mk (HA.out.below b)
      replace HB := Bx.mk (HB.out.below b)
      replace bw := bw.trans (b.mono bw.size)
      clear b
      have HRr := Bx.mk io.reads
      clear io
      have hsz : ¬ (s : Int) = 0 := by omega
      have hsz2 : ¬ s = 0 := by omega
      go_upto_region 28 with (fail)
      have hB : Bx (Below w13.heap.size w13 w13.drew) := ⟨(Below.refl _ _).drew⟩
      have hB0 : Bx (Below w13.heap.size w13 w13) := ⟨Below.refl _ _⟩
      have kga0_d : w13.drew.cell? _ = _ := kga0
      go_region_held3 (fun w' => w'.cell? ⟨ga, 0, none⟩ = some (.int .i64 s) ∧ Bx (Below w13.heap.size w13 w'))
        ((refine (fun (hK : Bx (Below w13.heap.size w13 _)) => ⟨((bcell hK.out).1 _ _ lt_ga).trans kga0, hK⟩) ?_; (first | with_reducible assumption | with_reducible exact bx_alloc (by with_reducible assumption) _ | with_reducible exact bx_drew (by with_reducible assumption) | with_reducible exact bx_drew (bx_alloc (by with_reducible assumption) _))))
        (first
          | (go_at_call 19; refine (makeNum_any _ _ _ 32 _ (by omega) (by exact HB.out.below (Bx.out (by (first | with_reducible assumption | with_reducible exact bx_alloc (by with_reducible assumption) _ | with_reducible exact bx_drew (by with_reducible assumption) | with_reducible exact bx_drew (bx_alloc (by with_reducible assumption) _)))))).mono ?_; rintro e w14 ⟨q3, hq3, rfl, bw14⟩; obtain ⟨k, hk⟩ : ∃ k : Nat, k = q3 % s := ⟨_, rfl⟩; have hke : (q3 : Int) % (s : Int) = (k : Int) := (by rw [hk]; exact (Int.natCast_emod q3 s).symm); have hkt : (q3 : Int).tmod (s : Int) = (k : Int) := (by rw [hk]; exact (Int.ofNat_tmod q3 s).symm); have hkn : k < s := (by rw [hk]; exact Nat.mod_lt _ (by omega)); clear hk; have hBw14 : Bx (Below w13.heap.size w13 w14) := bx_to (by (first | with_reducible assumption | with_reducible exact bx_alloc (by with_reducible assumption) _ | with_reducible exact bx_drew (by with_reducible assumption) | with_reducible exact bx_drew (bx_alloc (by with_reducible assumption) _))) bw14; have hzw14 := bx_size hBw14; have kga0_w14 := ((bcell hBw14.out).1 _ _ lt_ga).trans kga0))
      have b := hBw14.out
      replace kga0 := ((bcell b).1 _ _ lt_ga).trans kga0
      replace kga1 := ((bcell b).1 _ _ lt_ga).trans kga1
      replace lt_bP := Nat.lt_of_lt_of_le lt_bP b.size
      replace lt_ga := Nat.lt_of_lt_of_le lt_ga b.size
      replace HA := Bx.mk (HA.out.below b)
      replace HRr := Bx.mk (HRr.out.below b)
      replace HB := Bx.mk (HB.out.below b)
      replace bw := bw.trans (b.mono bw.size)
      clear b
      obtain ⟨Tr, hTr⟩ : ∃ Tr, Tr = rotL s a k := ⟨_, rfl⟩
      have HRO : Bx (∀ A c W, IR W A a → Calls Try.prog 26 #[.agg #[.int .i64 s, .slice A a.length c], .int .i64 k] W (GivesRB W s Tr true)) := ⟨fun A c W h => by rw [hTr]; exact rotate_ok s A c a k W HAOK.out h ⟨by omega, by omega⟩⟩
      have HVT : Bx (s % d = 0 → ∀ A c W, IR W A Tr → Calls Try.prog 13 #[.agg #[.int .i64 s, .slice A Tr.length c], .int .i64 d] W fun e w' => e = .returned (.bool vb) ∧ Below W.heap.size W w') := ⟨fun h0 A c W h => by
        have := implVan_any s A c Tr d W ⟨by omega, by omega⟩ h
        rw [show vanI s Tr d = vb by rw [hTr, HVB.out]; exact van_rot HAOK.out hs16 hd1 hd12 h0 hkn] at this
        exact this⟩
      clear hTr hsz hsz2
      go_wp2_with fail
      refine (HRO.out _ _ _ (by exact HA.out)).mono ?_
      rintro e w15 ⟨AT, cT, rfl, io, b⟩
      clear hke hkt
      replace kga0 := ((bcell b).1 _ _ lt_ga).trans kga0
      replace kga1 := ((bcell b).1 _ _ lt_ga).trans kga1
      replace lt_bP := Nat.lt_of_lt_of_le lt_bP b.size
      replace lt_ga := Nat.lt_of_lt_of_le lt_ga b.size
      replace HA := Bx.mk (HA.out.below b)
      replace HRr := Bx.mk (HRr.out.below b)
      replace HB := Bx.mk (HB.out.below b)
      replace bw := bw.trans (b.mono bw.size)
      clear b
      have HTr := Bx.mk io.reads
      clear io
      obtain ⟨w16, hW⟩ : ∃ w16, w16 = w15.alloc (.cells #[.int .i64 s, .slice AT Tr.length cT] 25) := ⟨_, rfl⟩
      obtain ⟨gt, hg⟩ : ∃ gt, gt = w15.heap.size := ⟨_, rfl⟩
      have b : Below w15.heap.size w15 w16 := by rw [hW]; exact below_alloc _ _
      have kgt0 : w16.cell? ⟨gt, 0, none⟩ = some (.int .i64 s) := by rw [hW, hg]; simp [go_sem]
      have kgt1 : w16.cell? ⟨gt, 1, none⟩ = some (.slice AT Tr.length cT) := by rw [hW, hg]; simp [go_sem]
      have lt_gt : gt < w16.heap.size := by rw [hW, hg]; simp
      replace kga0 := ((bcell b).1 _ _ lt_ga).trans kga0
      replace kga1 := ((bcell b).1 _ _ lt_ga).trans kga1
      replace lt_bP := Nat.lt_of_lt_of_le lt_bP b.size
      replace lt_ga := Nat.lt_of_lt_of_le lt_ga b.size
      replace HA := Bx.mk (HA.out.below b)
      replace HRr := Bx.mk (HRr.out.below b)
      replace HTr := Bx.mk (HTr.out.below b)
      replace HB := Bx.mk (HB.out.below b)
      replace bw := bw.trans (b.mono bw.size)
      clear b
      go_upto_region 30 with (fail)
      rw [← hW, ← hg]
      clear hW hg
      go_wp2_with fail
      refine (HPO.out _ _ _ (by exact HA.out)).mono ?_
      rintro e w17 ⟨AP, cP, rfl, io, b⟩
      replace kga0 := ((bcell b).1 _ _ lt_ga).trans kga0
      replace kga1 := ((bcell b).1 _ _ lt_ga).trans kga1
      replace kgt0 := ((bcell b).1 _ _ lt_gt).trans kgt0
      replace kgt1 := ((bcell b).1 _ _ lt_gt).trans kgt1
      replace lt_bP := Nat.lt_of_lt_of_le lt_bP b.size
      replace lt_ga := Nat.lt_of_lt_of_le lt_ga b.size
      replace lt_gt := Nat.lt_of_lt_of_le lt_gt b.size
      replace HA := Bx.mk (HA.out.below b)
      replace HRr := Bx.mk (HRr.out.below b)
      replace HTr := Bx.mk (HTr.out.below b)
      replace HB := Bx.mk (HB.out.below b)
      replace bw := bw.trans (b.mono bw.size)
      clear b
      have HPr := Bx.mk io.reads
      clear io
      go_wp2_with fail
      refine (HV1.out _ _ _ (by exact HPr.out)).mono ?_
      rintro e w18 ⟨rfl, b⟩
      replace kga0 := ((bcell b).1 _ _ lt_ga).trans kga0
      replace kga1 := ((bcell b).1 _ _ lt_ga).trans kga1
      replace kgt0 := ((bcell b).1 _ _ lt_gt).trans kgt0
      replace kgt1 := ((bcell b).1 _ _ lt_gt).trans kgt1
      replace lt_bP := Nat.lt_of_lt_of_le lt_bP b.size
      replace lt_ga := Nat.lt_of_lt_of_le lt_ga b.size
      replace lt_gt := Nat.lt_of_lt_of_le lt_gt b.size
      replace HA := Bx.mk (HA.out.below b)
      replace HRr := Bx.mk (HRr.out.below b)
      replace HTr := Bx.mk (HTr.out.below b)
      replace HPr := Bx.mk (HPr.out.below b)
      replace HB := Bx.mk (HB.out.below b)
      replace bw := bw.trans (b.mono bw.size)
      clear b
      go_wp2_with fail
      refine (HV2.out _ _ _ (by exact HPr.out)).mono ?_
      rintro e w19 ⟨rfl, b⟩
      replace kga0 := ((bcell b).1 _ _ lt_ga).trans kga0
      replace kga1 := ((bcell b).1 _ _ lt_ga).trans kga1
      replace kgt0 := ((bcell b).1 _ _ lt_gt).trans kgt0
      replace kgt1 := ((bcell b).1 _ _ lt_gt).trans kgt1
      replace lt_bP := Nat.lt_of_lt_of_le lt_bP b.size
      replace lt_ga := Nat.lt_of_lt_of_le lt_ga b.size
      replace lt_gt := Nat.lt_of_lt_of_le lt_gt b.size
      replace HA := Bx.mk (HA.out.below b)
      replace HRr := Bx.mk (HRr.out.below b)
      replace HTr := Bx.mk (HTr.out.below b)
      replace HPr := Bx.mk (HPr.out.below b)
      replace HB := Bx.mk (HB.out.below b)
      replace bw := bw.trans (b.mono bw.size)
      clear b
      go_wp2_with fail
      go_loopw [22, 145] (fun ov iv wr3 => ∃ i : Nat, i ≤ a.length ∧ iv = .int .i64 i ∧ ov = .int .i64 (oddTo a i) ∧ Bx (Below w19.heap.size w19 wr3)) (fun _ iv _ => a.length - (intOf iv).toNat)
      case atStart => exact ⟨0, by omega, rfl, rfl, ⟨Below.refl _ _⟩⟩
      case round =>
        obtain ⟨i, hi, rfl, rfl, HR⟩ := hrel
        by_cases hlt : i < a.length
        · have hli : (i : Int) < (a.length : Int) := by omega
          obtain ⟨bA, oA, p, rfl, _, kA, H1⟩ := (HA.out.below HR.out).one (k := i) hlt
          have hpb := (rhOk_iff.1 HAOK.out).2.1 p (List.mem_of_getElem? H1.out)
          have HS := Bx.mk (oddTo_succ H1.out)
          obtain ⟨o1, ho1⟩ : ∃ o1, o1 = oddTo a i := ⟨_, rfl⟩
          have hob := oddTo_bd (xs := a) i
          rw [← ho1] at HS hob ⊢
          obtain ⟨hp0, hp1⟩ := hpb
          obtain ⟨hp2, hp3⟩ := hob
          obtain ⟨r2, hr2⟩ : ∃ r2, r2 = p % 2 := ⟨_, rfl⟩
          have hrt : p.tmod 2 = r2 := by rw [hr2]; exact Int.tmod_eq_emod_of_nonneg hp0
          have hr3 : 0 ≤ r2 := by omega
          have hr4 : r2 ≤ 1 := by omega
          rw [← hr2] at HS
          clear H1 ho1 hr2
          go_wp2_with fail
          go_roundw
          case rel => exact ⟨i + 1, by omega, by go_num, by rw [HS.out], HR⟩
          case measure => simp [intOf]; omega
        have hia : i = a.length := by omega
        have hli : ¬ (i : Int) < (a.length : Int) := by omega
        subst hia
        rw [← HOD.out]
        have b := HR.out
        clear HR hlt hi
        replace kga0 := ((bcell b).1 _ _ lt_ga).trans kga0
        replace kga1 := ((bcell b).1 _ _ lt_ga).trans kga1
        replace kgt0 := ((bcell b).1 _ _ lt_gt).trans kgt0
        replace kgt1 := ((bcell b).1 _ _ lt_gt).trans kgt1
        replace lt_bP := Nat.lt_of_lt_of_le lt_bP b.size
        replace lt_ga := Nat.lt_of_lt_of_le lt_ga b.size
        replace lt_gt := Nat.lt_of_lt_of_le lt_gt b.size
        replace HA := Bx.mk (HA.out.below b)
        replace HRr := Bx.mk (HRr.out.below b)
        replace HTr := Bx.mk (HTr.out.below b)
        replace HPr := Bx.mk (HPr.out.below b)
        replace HB := Bx.mk (HB.out.below b)
        replace bw := bw.trans (b.mono bw.size)
        clear b
        obtain ⟨hod1, hod2⟩ := HODB.out
        obtain ⟨m2, hm2⟩ : ∃ m2, m2 = 2 * od := ⟨_, rfl⟩
        have hm2b := hm2
        have hz2 := HZ2.out
        rw [← hm2] at hz2
        have hz3 : (a.length : Int) - m2 = z2 := hz2.symm
        have hal24 : a.length ≤ 24 := hal
        have hm3 : 0 ≤ m2 := by omega
        have hm4 : m2 ≤ 48 := by omega
        have hz4 : -48 ≤ z2 := by omega
        have hz5 : z2 ≤ 48 := by omega
        have hmi : 2 * od = m2 := hm2.symm
        have hll : (((a.length : Nat) : Int) != (a.length : Int)) = false := by simp
        have hzz : (z2 != z2) = false := by simp
        have hRt := HRT.out
        have hvr := HVR.out
        obtain ⟨rr, hrr⟩ : ∃ rr : Nat, rr = s % d := ⟨_, rfl⟩
        have hre : (s : Int) % (d : Int) = (rr : Int) := by rw [hrr]; exact (Int.natCast_emod s d).symm
        have hrt : (s : Int).tmod (d : Int) = (rr : Int) := by rw [hrr]; exact (Int.ofNat_tmod s d).symm
        have hdz : ¬ (d : Int) = 0 := by omega
        have hdz2 : ¬ d = 0 := by omega
        clear hm2 hm2b hz2
        go_wp2_with fail
        refine (HTT.out _).mono ?_
        rintro e w20 ⟨rfl, b⟩
        replace kga0 := ((bcell b).1 _ _ lt_ga).trans kga0
        replace kga1 := ((bcell b).1 _ _ lt_ga).trans kga1
        replace kgt0 := ((bcell b).1 _ _ lt_gt).trans kgt0
        replace kgt1 := ((bcell b).1 _ _ lt_gt).trans kgt1
        replace lt_bP := Nat.lt_of_lt_of_le lt_bP b.size
        replace lt_ga := Nat.lt_of_lt_of_le lt_ga b.size
        replace lt_gt := Nat.lt_of_lt_of_le lt_gt b.size
        replace HA := Bx.mk (HA.out.below b)
        replace HRr := Bx.mk (HRr.out.below b)
        replace HTr := Bx.mk (HTr.out.below b)
        replace HPr := Bx.mk (HPr.out.below b)
        replace HB := Bx.mk (HB.out.below b)
        replace bw := bw.trans (b.mono bw.size)
        clear b
        go_wp2_with fail
        refine (HVA.out _ _ _ (by exact HA.out)).mono ?_
        rintro e w21 ⟨rfl, b⟩
        replace kga0 := ((bcell b).1 _ _ lt_ga).trans kga0
        replace kga1 := ((bcell b).1 _ _ lt_ga).trans kga1
        replace kgt0 := ((bcell b).1 _ _ lt_gt).trans kgt0
        replace kgt1 := ((bcell b).1 _ _ lt_gt).trans kgt1
        replace lt_bP := Nat.lt_of_lt_of_le lt_bP b.size
        replace lt_ga := Nat.lt_of_lt_of_le lt_ga b.size
        replace lt_gt := Nat.lt_of_lt_of_le lt_gt b.size
        replace HA := Bx.mk (HA.out.below b)
        replace HRr := Bx.mk (HRr.out.below b)
        replace HTr := Bx.mk (HTr.out.below b)
        replace HPr := Bx.mk (HPr.out.below b)
        replace HB := Bx.mk (HB.out.below b)
        replace bw := bw.trans (b.mono bw.size)
        clear b
        have hvv : (vb != vb) = false := by simp
        by_cases h0 : rr = 0
        · have hr0 : (((rr : Nat) : Int) == 0) = true := by rw [beq_iff_eq]; omega
          have HVU := Bx.mk (HVT.out (by rw [← hrr]; exact h0))
          clear hrr h0 HVT
          go_wp2_with fail
          refine (HVU.out _ _ _ (by exact HTr.out)).mono ?_
          rintro e w22 ⟨rfl, b⟩
          replace kga0 := ((bcell b).1 _ _ lt_ga).trans kga0
          replace kga1 := ((bcell b).1 _ _ lt_ga).trans kga1
          replace kgt0 := ((bcell b).1 _ _ lt_gt).trans kgt0
          replace kgt1 := ((bcell b).1 _ _ lt_gt).trans kgt1
          replace lt_bP := Nat.lt_of_lt_of_le lt_bP b.size
          replace lt_ga := Nat.lt_of_lt_of_le lt_ga b.size
          replace lt_gt := Nat.lt_of_lt_of_le lt_gt b.size
          replace HA := Bx.mk (HA.out.below b)
          replace HRr := Bx.mk (HRr.out.below b)
          replace HTr := Bx.mk (HTr.out.below b)
          replace HPr := Bx.mk (HPr.out.below b)
          replace HB := Bx.mk (HB.out.below b)
          replace bw := bw.trans (b.mono bw.size)
          clear b
          rcases Nat.mod_two_eq_zero_or_one s with hp | hp
          · have hpe : (s : Int) % 2 = 0 := by omega
            have hpt : (s : Int).tmod 2 = 0 := by rw [Int.tmod_eq_emod_of_nonneg (by omega)]; exact hpe
            obtain ⟨ho, hho⟩ : ∃ ho, ho = decide (m2 = (a.length : Int)) := ⟨_, rfl⟩
            have HHS : Bx (∀ A c W, IR W A (ordI s a) → Calls Try.prog 12 #[.slice A (ordI s a).length c, .int .i64 2] W fun e w' => e = .returned (.bool ho) ∧ W = w') := ⟨fun A c W h => by
              have := lawHas_any A c (ordI s a) 2 W h
              rw [HO2.out hp, hmi, ← hho] at this
              exact this⟩
            have hhe : (m2 == (a.length : Int)) = ho := by rw [hho, Bool.eq_iff_iff]; simp
            have HVO : Bx (∀ A c W, IR W A a → Calls Try.prog 10 #[.agg #[.int .i64 s, .slice A a.length c]] W (GivesInts W (ordI s a))) := ⟨fun A c W h => implOrd_any s A c a W ⟨by omega, by omega⟩ h⟩
            obtain ⟨OL, hOL⟩ : ∃ OL, OL = ordI s a := ⟨_, rfl⟩
            rw [← hOL] at HHS HVO
            have hmw : IntKind.i64.wrap m2 = m2 := IntWalk.i64_in _ (by omega)
            have hoo : (ho == ho) = true := by simp
            clear hho hOL hp hz3 HO2
            go_upto_region 41 with (fail)
            have hB : Bx (Below w22.heap.size w22 w22.drew) := ⟨(Below.refl _ _).drew⟩
            have hB0 : Bx (Below w22.heap.size w22 w22) := ⟨Below.refl _ _⟩
            have kga0_d : w22.drew.cell? _ = _ := kga0
            have kga1_d : w22.drew.cell? _ = _ := kga1
            go_region_held3 (fun w' => w'.cell? ⟨ga, 0, none⟩ = some (.int .i64 s) ∧ w'.cell? ⟨ga, 1, none⟩ = some (.slice Aa a.length ca) ∧ Bx (Below w22.heap.size w22 w'))
              ((refine (fun (hK : Bx (Below w22.heap.size w22 _)) => ⟨((bcell hK.out).1 _ _ lt_ga).trans kga0, ((bcell hK.out).1 _ _ lt_ga).trans kga1, hK⟩) ?_; (first | with_reducible assumption | with_reducible exact bx_alloc (by with_reducible assumption) _ | with_reducible exact bx_drew (by with_reducible assumption) | with_reducible exact bx_drew (bx_alloc (by with_reducible assumption) _))))
              (first
                | (go_at_call 10; refine (HVO.out _ _ _ (by exact HA.out.below (Bx.out (by (first | with_reducible assumption | with_reducible exact bx_alloc (by with_reducible assumption) _ | with_reducible exact bx_drew (by with_reducible assumption) | with_reducible exact bx_drew (bx_alloc (by with_reducible assumption) _)))))).mono ?_; rintro e w23 ⟨AO, cO, rfl, io, bw23⟩; have HOr := Bx.mk io.reads; clear io; have hBw23 : Bx (Below w22.heap.size w22 w23) := bx_to (by (first | with_reducible assumption | with_reducible exact bx_alloc (by with_reducible assumption) _ | with_reducible exact bx_drew (by with_reducible assumption) | with_reducible exact bx_drew (bx_alloc (by with_reducible assumption) _))) bw23; have hzw23 := bx_size hBw23; have kga0_w23 := ((bcell hBw23.out).1 _ _ lt_ga).trans kga0; have kga1_w23 := ((bcell hBw23.out).1 _ _ lt_ga).trans kga1)
                | (go_at_call 12; refine (HHS.out _ _ _ (by exact HOr.out)).mono ?_; rintro e w' ⟨rfl, rfl⟩))
            have b := hBw23.out
            replace kga0 := ((bcell b).1 _ _ lt_ga).trans kga0
            replace kga1 := ((bcell b).1 _ _ lt_ga).trans kga1
            replace kgt0 := ((bcell b).1 _ _ lt_gt).trans kgt0
            replace kgt1 := ((bcell b).1 _ _ lt_gt).trans kgt1
            replace lt_bP := Nat.lt_of_lt_of_le lt_bP b.size
            replace lt_ga := Nat.lt_of_lt_of_le lt_ga b.size
            replace lt_gt := Nat.lt_of_lt_of_le lt_gt b.size
            replace HA := Bx.mk (HA.out.below b)
            replace HRr := Bx.mk (HRr.out.below b)
            replace HTr := Bx.mk (HTr.out.below b)
            replace HPr := Bx.mk (HPr.out.below b)
            replace HB := Bx.mk (HB.out.below b)
            replace bw := bw.trans (b.mono bw.size)
            clear b
            go_wp2_with fail
            go_ret
            exact ⟨rfl, bw⟩
          · have hpe : (s : Int) % 2 = 1 := by omega
            have hpt : (s : Int).tmod 2 = 1 := by rw [Int.tmod_eq_emod_of_nonneg (by omega)]; exact hpe
            clear hp hz3
            go_upto_region 41 with (fail)
            have hB : Bx (Below w22.heap.size w22 w22.drew) := ⟨(Below.refl _ _).drew⟩
            have hB0 : Bx (Below w22.heap.size w22 w22) := ⟨Below.refl _ _⟩
            have kga0_d : w22.drew.cell? _ = _ := kga0
            have kga1_d : w22.drew.cell? _ = _ := kga1
            refine wp_region_held_drew (S := fun w' => w'.cell? ⟨ga, 0, none⟩ = some (.int .i64 s) ∧ w'.cell? ⟨ga, 1, none⟩ = some (.slice Aa a.length ca) ∧ Bx (Below w22.heap.size w22 w')) (by kernel_rfl) ?hS1000 (fun hHeld => ?rest1000)
            case hS1000 => (try dsimp only); (refine (fun (hK : Bx (Below w22.heap.size w22 _)) => ⟨((bcell hK.out).1 _ _ lt_ga).trans kga0, ((bcell hK.out).1 _ _ lt_ga).trans kga1, hK⟩) ?_; (first | with_reducible assumption | with_reducible exact bx_alloc (by with_reducible assumption) _ | with_reducible exact bx_drew (by with_reducible assumption) | with_reducible exact bx_drew (bx_alloc (by with_reducible assumption) _)))
            case rest1000 =>
            refine wpAnyH_take (i := 0) (v := ?v1001) (at_list rfl) (by kernel_rfl) (by kernel_rfl) (by kernel_rfl) (fun _ _ _ h => h) (Or.inl ⟨by rfl, ?hy1001⟩) (by assumption) ?rest1001
            case hy1001 => intro w hSw; (try dsimp only at hSw); go_simp; try (with_reducible rfl)
            case rest1001 =>
            try simp only [Act.put, List.setIfInBounds_toArray, List.set_cons_zero, List.set_cons_succ]
            refine wpAnyH_take (i := 1) (v := ?v1002) (at_list rfl) (by kernel_rfl) (by kernel_rfl) (by kernel_rfl) (fun _ _ _ h => h) (Or.inl ⟨by rfl, ?hy1002⟩) (by assumption) ?rest1002
            case hy1002 => intro w hSw; (try dsimp only at hSw); go_simp; try (with_reducible rfl)
            case rest1002 =>
            try simp only [Act.put, List.setIfInBounds_toArray, List.set_cons_zero, List.set_cons_succ]
            refine wpAnyH_take (i := 2) (v := ?v1003) (at_list rfl) (by kernel_rfl) (by kernel_rfl) (by kernel_rfl) (fun _ _ _ h => h) (Or.inl ⟨by rfl, ?hy1003⟩) (by assumption) ?rest1003
            case hy1003 => intro w hSw; (try dsimp only at hSw); go_simp; try (with_reducible rfl)
            case rest1003 =>
            try simp only [Act.put, List.setIfInBounds_toArray, List.set_cons_zero, List.set_cons_succ]
            refine wpAnyH_take (i := 3) (v := ?v1004) (at_list rfl) (by kernel_rfl) (by kernel_rfl) (by kernel_rfl) (fun _ _ _ h => h) (Or.inl ⟨by rfl, ?hy1004⟩) (by assumption) ?rest1004
            case hy1004 => intro w hSw; (try dsimp only at hSw); go_simp; try (with_reducible rfl)
            case rest1004 =>
            try simp only [Act.put, List.setIfInBounds_toArray, List.set_cons_zero, List.set_cons_succ]
            refine wpAnyH_take (i := 4) (v := ?v1005) (at_list rfl) (by kernel_rfl) (by kernel_rfl) (by kernel_rfl) (fun _ _ _ h => h) (Or.inl ⟨by rfl, ?hy1005⟩) (by assumption) ?rest1005
            case hy1005 => intro w hSw; (try dsimp only at hSw); go_simp; try (with_reducible rfl)
            case rest1005 =>
            try simp only [Act.put, List.setIfInBounds_toArray, List.set_cons_zero, List.set_cons_succ]
            refine wpAnyH_take (i := 5) (v := undef) (at_list rfl) (by kernel_rfl) (by kernel_rfl) (by kernel_rfl) (fun _ _ _ h => h) (Or.inr ⟨by rfl, rfl⟩) (by assumption) ?rest1006
            case rest1006 =>
            try simp only [Act.put, List.setIfInBounds_toArray, List.set_cons_zero, List.set_cons_succ]
            refine wpAnyH_take (i := 6) (v := undef) (at_list rfl) (by kernel_rfl) (by kernel_rfl) (by kernel_rfl) (fun _ _ _ h => h) (Or.inr ⟨by rfl, rfl⟩) (by assumption) ?rest1007
            case rest1007 =>
            try simp only [Act.put, List.setIfInBounds_toArray, List.set_cons_zero, List.set_cons_succ]
            refine wpAnyH_take (i := 7) (v := undef) (at_list rfl) (by kernel_rfl) (by kernel_rfl) (by kernel_rfl) (fun _ _ _ h => h) (Or.inr ⟨by rfl, rfl⟩) (by assumption) ?rest1008
            case rest1008 =>
            try simp only [Act.put, List.setIfInBounds_toArray, List.set_cons_zero, List.set_cons_succ]
            refine wpAnyH_take (i := 8) (v := undef) (at_list rfl) (by kernel_rfl) (by kernel_rfl) (by kernel_rfl) (fun _ _ _ h => h) (Or.inr ⟨by rfl, rfl⟩) (by assumption) ?rest1009
            case rest1009 =>
            try simp only [Act.put, List.setIfInBounds_toArray, List.set_cons_zero, List.set_cons_succ]
            refine wpAnyH_take (i := 9) (v := undef) (at_list rfl) (by kernel_rfl) (by kernel_rfl) (by kernel_rfl) (fun _ _ _ h => h) (Or.inr ⟨by rfl, rfl⟩) (by assumption) ?rest1010
            case rest1010 =>
            try simp only [Act.put, List.setIfInBounds_toArray, List.set_cons_zero, List.set_cons_succ]
            refine wpAnyH_take (i := 10) (v := undef) (at_list rfl) (by kernel_rfl) (by kernel_rfl) (by kernel_rfl) (fun _ _ _ h => h) (Or.inr ⟨by rfl, rfl⟩) (by assumption) ?rest1011
            case rest1011 =>
            try simp only [Act.put, List.setIfInBounds_toArray, List.set_cons_zero, List.set_cons_succ]
            refine wpAnyH_take (i := 11) (v := undef) (at_list rfl) (by kernel_rfl) (by kernel_rfl) (by kernel_rfl) (fun _ _ _ h => h) (Or.inr ⟨by rfl, rfl⟩) (by assumption) ?rest1012
            case rest1012 =>
            try simp only [Act.put, List.setIfInBounds_toArray, List.set_cons_zero, List.set_cons_succ]
            refine wpAnyH_take (i := 12) (v := undef) (at_list rfl) (by kernel_rfl) (by kernel_rfl) (by kernel_rfl) (fun _ _ _ h => h) (Or.inr ⟨by rfl, rfl⟩) (by assumption) ?rest1013
            case rest1013 =>
            try simp only [Act.put, List.setIfInBounds_toArray, List.set_cons_zero, List.set_cons_succ]
            refine wpAnyH_take (i := 13) (v := undef) (at_list rfl) (by kernel_rfl) (by kernel_rfl) (by kernel_rfl) (fun _ _ _ h => h) (Or.inr ⟨by rfl, rfl⟩) (by assumption) ?rest1014
            case rest1014 =>
            try simp only [Act.put, List.setIfInBounds_toArray, List.set_cons_zero, List.set_cons_succ]
            refine wpAnyH_take (i := 14) (v := undef) (at_list rfl) (by kernel_rfl) (by kernel_rfl) (by kernel_rfl) (fun _ _ _ h => h) (Or.inr ⟨by rfl, rfl⟩) (by assumption) ?rest1015
            case rest1015 =>
            try simp only [Act.put, List.setIfInBounds_toArray, List.set_cons_zero, List.set_cons_succ]
            refine wpAnyH_take (i := 15) (v := ?v1016) (at_list rfl) (by kernel_rfl) (by kernel_rfl) (by kernel_rfl) (fun _ _ _ h => h) (Or.inl ⟨by rfl, ?hy1016⟩) (by assumption) ?rest1016
            case hy1016 => intro w hSw; (try dsimp only at hSw); go_simp; try (with_reducible rfl)
            case rest1016 =>
            try simp only [Act.put, List.setIfInBounds_toArray, List.set_cons_zero, List.set_cons_succ]
            refine wpAnyH_take (i := 16) (v := ?v1017) (at_list rfl) (by kernel_rfl) (by kernel_rfl) (by kernel_rfl) (fun _ _ _ h => h) (Or.inl ⟨by rfl, ?hy1017⟩) (by assumption) ?rest1017
            case hy1017 => intro w hSw; (try dsimp only at hSw); go_simp; try (with_reducible rfl)
            case rest1017 =>
            try simp only [Act.put, List.setIfInBounds_toArray, List.set_cons_zero, List.set_cons_succ]
            refine wpAnyH_done (by kernel_rfl) ?_ _
            go_wp2_with fail
            go_ret
            exact ⟨rfl, bw.drew⟩
        have hr0 : (((rr : Nat) : Int) == 0) = false := by rw [beq_eq_false_iff_ne]; omega
        clear hrr h0 HVT
        rcases Nat.mod_two_eq_zero_or_one s with hp | hp
        · have hpe : (s : Int) % 2 = 0 := by omega
          have hpt : (s : Int).tmod 2 = 0 := by rw [Int.tmod_eq_emod_of_nonneg (by omega)]; exact hpe
          obtain ⟨ho, hho⟩ : ∃ ho, ho = decide (m2 = (a.length : Int)) := ⟨_, rfl⟩
          have HHS : Bx (∀ A c W, IR W A (ordI s a) → Calls Try.prog 12 #[.slice A (ordI s a).length c, .int .i64 2] W fun e w' => e = .returned (.bool ho) ∧ W = w') := ⟨fun A c W h => by
            have := lawHas_any A c (ordI s a) 2 W h
            rw [HO2.out hp, hmi, ← hho] at this
            exact this⟩
          have hhe : (m2 == (a.length : Int)) = ho := by rw [hho, Bool.eq_iff_iff]; simp
          have HVO : Bx (∀ A c W, IR W A a → Calls Try.prog 10 #[.agg #[.int .i64 s, .slice A a.length c]] W (GivesInts W (ordI s a))) := ⟨fun A c W h => implOrd_any s A c a W ⟨by omega, by omega⟩ h⟩
          obtain ⟨OL, hOL⟩ : ∃ OL, OL = ordI s a := ⟨_, rfl⟩
          rw [← hOL] at HHS HVO
          have hmw : IntKind.i64.wrap m2 = m2 := IntWalk.i64_in _ (by omega)
          have hoo : (ho == ho) = true := by simp
          clear hho hOL hp hz3 HO2
          go_upto_region 41 with (fail)
          have hB : Bx (Below w21.heap.size w21 w21.drew) := ⟨(Below.refl _ _).drew⟩
          have hB0 : Bx (Below w21.heap.size w21 w21) := ⟨Below.refl _ _⟩
          have kga0_d : w21.drew.cell? _ = _ := kga0
          have kga1_d : w21.drew.cell? _ = _ := kga1
          go_region_held3 (fun w' => w'.cell? ⟨ga, 0, none⟩ = some (.int .i64 s) ∧ w'.cell? ⟨ga, 1, none⟩ = some (.slice Aa a.length ca) ∧ Bx (Below w21.heap.size w21 w'))
            ((refine (fun (hK : Bx (Below w21.heap.size w21 _)) => ⟨((bcell hK.out).1 _ _ lt_ga).trans kga0, ((bcell hK.out).1 _ _ lt_ga).trans kga1, hK⟩) ?_; (first | with_reducible assumption | with_reducible exact bx_alloc (by with_reducible assumption) _ | with_reducible exact bx_drew (by with_reducible assumption) | with_reducible exact bx_drew (bx_alloc (by with_reducible assumption) _))))
            (first
              | (go_at_call 10; refine (HVO.out _ _ _ (by exact HA.out.below (Bx.out (by (first | with_reducible assumption | with_reducible exact bx_alloc (by with_reducible assumption) _ | with_reducible exact bx_drew (by with_reducible assumption) | with_reducible exact bx_drew (bx_alloc (by with_reducible assumption) _)))))).mono ?_; rintro e w25 ⟨AO, cO, rfl, io, bw25⟩; have HOr := Bx.mk io.reads; clear io; have hBw25 : Bx (Below w21.heap.size w21 w25) := bx_to (by (first | with_reducible assumption | with_reducible exact bx_alloc (by with_reducible assumption) _ | with_reducible exact bx_drew (by with_reducible assumption) | with_reducible exact bx_drew (bx_alloc (by with_reducible assumption) _))) bw25; have hzw25 := bx_size hBw25; have kga0_w25 := ((bcell hBw25.out).1 _ _ lt_ga).trans kga0; have kga1_w25 := ((bcell hBw25.out).1 _ _ lt_ga).trans kga1)
              | (go_at_call 12; refine (HHS.out _ _ _ (by exact HOr.out)).mono ?_; rintro e w' ⟨rfl, rfl⟩))
          have b := hBw25.out
          replace kga0 := ((bcell b).1 _ _ lt_ga).trans kga0
          replace kga1 := ((bcell b).1 _ _ lt_ga).trans kga1
          replace kgt0 := ((bcell b).1 _ _ lt_gt).trans kgt0
          replace kgt1 := ((bcell b).1 _ _ lt_gt).trans kgt1
          replace lt_bP := Nat.lt_of_lt_of_le lt_bP b.size
          replace lt_ga := Nat.lt_of_lt_of_le lt_ga b.size
          replace lt_gt := Nat.lt_of_lt_of_le lt_gt b.size
          replace HA := Bx.mk (HA.out.below b)
          replace HRr := Bx.mk (HRr.out.below b)
          replace HTr := Bx.mk (HTr.out.below b)
          replace HPr := Bx.mk (HPr.out.below b)
          replace HB := Bx.mk (HB.out.below b)
          replace bw := bw.trans (b.mono bw.size)
          clear b
          go_wp2_with fail
          go_ret
          exact ⟨rfl, bw⟩
        · have hpe : (s : Int) % 2 = 1 := by omega
          have hpt : (s : Int).tmod 2 = 1 := by rw [Int.tmod_eq_emod_of_nonneg (by omega)]; exact hpe
          clear hp hz3
          go_upto_region 41 with (fail)
          have hB : Bx (Below w21.heap.size w21 w21.drew) := ⟨(Below.refl _ _).drew⟩
          have hB0 : Bx (Below w21.heap.size w21 w21) := ⟨Below.refl _ _⟩
          have kga0_d : w21.drew.cell? _ = _ := kga0
          have kga1_d : w21.drew.cell? _ = _ := kga1
          refine wp_region_held_drew (S := fun w' => w'.cell? ⟨ga, 0, none⟩ = some (.int .i64 s) ∧ w'.cell? ⟨ga, 1, none⟩ = some (.slice Aa a.length ca) ∧ Bx (Below w21.heap.size w21 w')) (by kernel_rfl) ?hS2000 (fun hHeld => ?rest2000)
          case hS2000 => (try dsimp only); (refine (fun (hK : Bx (Below w21.heap.size w21 _)) => ⟨((bcell hK.out).1 _ _ lt_ga).trans kga0, ((bcell hK.out).1 _ _ lt_ga).trans kga1, hK⟩) ?_; (first | with_reducible assumption | with_reducible exact bx_alloc (by with_reducible assumption) _ | with_reducible exact bx_drew (by with_reducible assumption) | with_reducible exact bx_drew (bx_alloc (by with_reducible assumption) _)))
          case rest2000 =>
          refine wpAnyH_take (i := 0) (v := ?v2001) (at_list rfl) (by kernel_rfl) (by kernel_rfl) (by kernel_rfl) (fun _ _ _ h => h) (Or.inl ⟨by rfl, ?hy2001⟩) (by assumption) ?rest2001
          case hy2001 => intro w hSw; (try dsimp only at hSw); go_simp; try (with_reducible rfl)
          case rest2001 =>
          try simp only [Act.put, List.setIfInBounds_toArray, List.set_cons_zero, List.set_cons_succ]
          refine wpAnyH_take (i := 1) (v := ?v2002) (at_list rfl) (by kernel_rfl) (by kernel_rfl) (by kernel_rfl) (fun _ _ _ h => h) (Or.inl ⟨by rfl, ?hy2002⟩) (by assumption) ?rest2002
          case hy2002 => intro w hSw; (try dsimp only at hSw); go_simp; try (with_reducible rfl)
          case rest2002 =>
          try simp only [Act.put, List.setIfInBounds_toArray, List.set_cons_zero, List.set_cons_succ]
          refine wpAnyH_take (i := 2) (v := ?v2003) (at_list rfl) (by kernel_rfl) (by kernel_rfl) (by kernel_rfl) (fun _ _ _ h => h) (Or.inl ⟨by rfl, ?hy2003⟩) (by assumption) ?rest2003
          case hy2003 => intro w hSw; (try dsimp only at hSw); go_simp; try (with_reducible rfl)
          case rest2003 =>
          try simp only [Act.put, List.setIfInBounds_toArray, List.set_cons_zero, List.set_cons_succ]
          refine wpAnyH_take (i := 3) (v := ?v2004) (at_list rfl) (by kernel_rfl) (by kernel_rfl) (by kernel_rfl) (fun _ _ _ h => h) (Or.inl ⟨by rfl, ?hy2004⟩) (by assumption) ?rest2004
          case hy2004 => intro w hSw; (try dsimp only at hSw); go_simp; try (with_reducible rfl)
          case rest2004 =>
          try simp only [Act.put, List.setIfInBounds_toArray, List.set_cons_zero, List.set_cons_succ]
          refine wpAnyH_take (i := 4) (v := ?v2005) (at_list rfl) (by kernel_rfl) (by kernel_rfl) (by kernel_rfl) (fun _ _ _ h => h) (Or.inl ⟨by rfl, ?hy2005⟩) (by assumption) ?rest2005
          case hy2005 => intro w hSw; (try dsimp only at hSw); go_simp; try (with_reducible rfl)
          case rest2005 =>
          try simp only [Act.put, List.setIfInBounds_toArray, List.set_cons_zero, List.set_cons_succ]
          refine wpAnyH_take (i := 5) (v := undef) (at_list rfl) (by kernel_rfl) (by kernel_rfl) (by kernel_rfl) (fun _ _ _ h => h) (Or.inr ⟨by rfl, rfl⟩) (by assumption) ?rest2006
          case rest2006 =>
          try simp only [Act.put, List.setIfInBounds_toArray, List.set_cons_zero, List.set_cons_succ]
          refine wpAnyH_take (i := 6) (v := undef) (at_list rfl) (by kernel_rfl) (by kernel_rfl) (by kernel_rfl) (fun _ _ _ h => h) (Or.inr ⟨by rfl, rfl⟩) (by assumption) ?rest2007
          case rest2007 =>
          try simp only [Act.put, List.setIfInBounds_toArray, List.set_cons_zero, List.set_cons_succ]
          refine wpAnyH_take (i := 7) (v := undef) (at_list rfl) (by kernel_rfl) (by kernel_rfl) (by kernel_rfl) (fun _ _ _ h => h) (Or.inr ⟨by rfl, rfl⟩) (by assumption) ?rest2008
          case rest2008 =>
          try simp only [Act.put, List.setIfInBounds_toArray, List.set_cons_zero, List.set_cons_succ]
          refine wpAnyH_take (i := 8) (v := undef) (at_list rfl) (by kernel_rfl) (by kernel_rfl) (by kernel_rfl) (fun _ _ _ h => h) (Or.inr ⟨by rfl, rfl⟩) (by assumption) ?rest2009
          case rest2009 =>
          try simp only [Act.put, List.setIfInBounds_toArray, List.set_cons_zero, List.set_cons_succ]
          refine wpAnyH_take (i := 9) (v := undef) (at_list rfl) (by kernel_rfl) (by kernel_rfl) (by kernel_rfl) (fun _ _ _ h => h) (Or.inr ⟨by rfl, rfl⟩) (by assumption) ?rest2010
          case rest2010 =>
          try simp only [Act.put, List.setIfInBounds_toArray, List.set_cons_zero, List.set_cons_succ]
          refine wpAnyH_take (i := 10) (v := undef) (at_list rfl) (by kernel_rfl) (by kernel_rfl) (by kernel_rfl) (fun _ _ _ h => h) (Or.inr ⟨by rfl, rfl⟩) (by assumption) ?rest2011
          case rest2011 =>
          try simp only [Act.put, List.setIfInBounds_toArray, List.set_cons_zero, List.set_cons_succ]
          refine wpAnyH_take (i := 11) (v := undef) (at_list rfl) (by kernel_rfl) (by kernel_rfl) (by kernel_rfl) (fun _ _ _ h => h) (Or.inr ⟨by rfl, rfl⟩) (by assumption) ?rest2012
          case rest2012 =>
          try simp only [Act.put, List.setIfInBounds_toArray, List.set_cons_zero, List.set_cons_succ]
          refine wpAnyH_take (i := 12) (v := undef) (at_list rfl) (by kernel_rfl) (by kernel_rfl) (by kernel_rfl) (fun _ _ _ h => h) (Or.inr ⟨by rfl, rfl⟩) (by assumption) ?rest2013
          case rest2013 =>
          try simp only [Act.put, List.setIfInBounds_toArray, List.set_cons_zero, List.set_cons_succ]
          refine wpAnyH_take (i := 13) (v := undef) (at_list rfl) (by kernel_rfl) (by kernel_rfl) (by kernel_rfl) (fun _ _ _ h => h) (Or.inr ⟨by rfl, rfl⟩) (by assumption) ?rest2014
          case rest2014 =>
          try simp only [Act.put, List.setIfInBounds_toArray, List.set_cons_zero, List.set_cons_succ]
          refine wpAnyH_take (i := 14) (v := undef) (at_list rfl) (by kernel_rfl) (by kernel_rfl) (by kernel_rfl) (fun _ _ _ h => h) (Or.inr ⟨by rfl, rfl⟩) (by assumption) ?rest2015
          case rest2015 =>
          try simp only [Act.put, List.setIfInBounds_toArray, List.set_cons_zero, List.set_cons_succ]
          refine wpAnyH_take (i := 15) (v := ?v2016) (at_list rfl) (by kernel_rfl) (by kernel_rfl) (by kernel_rfl) (fun _ _ _ h => h) (Or.inl ⟨by rfl, ?hy2016⟩) (by assumption) ?rest2016
          case hy2016 => intro w hSw; (try dsimp only at hSw); go_simp; try (with_reducible rfl)
          case rest2016 =>
          try simp only [Act.put, List.setIfInBounds_toArray, List.set_cons_zero, List.set_cons_succ]
          refine wpAnyH_take (i := 16) (v := ?v2017) (at_list rfl) (by kernel_rfl) (by kernel_rfl) (by kernel_rfl) (fun _ _ _ h => h) (Or.inl ⟨by rfl, ?hy2017⟩) (by assumption) ?rest2017
          case hy2017 => intro w hSw; (try dsimp only at hSw); go_simp; try (with_reducible rfl)
          case rest2017 =>
          try simp only [Act.put, List.setIfInBounds_toArray, List.set_cons_zero, List.set_cons_succ]
          refine wpAnyH_done (by kernel_rfl) ?_ _
          go_wp2_with fail
          go_ret
          exact ⟨rfl, bw.drew⟩
end Go.Proofs.Ytgfdmjhdfddopaa
