/- The law FnIntervals, walked. -/
import Derived.Test.YtlgiijibekobfaaRegM
import Derived.Test.YtlgiijibekobfaaIvC
import Derived.Test.YtlgiijibekobfaaIvPl4
import Derived.Test.YtlgiijibekobfaaMv
import Derived.Test.YtlgiijibekobfaaVec
import Derived.Test.YtlgiijibekobfaaDraw3
import Derived.Test.YtlgiijibekobfaaLawH
import Derived.Test.YtlgiijibekobfaaDiff
import Derived.Test.YtlgiijibekobfaaLawB
import Derived.Test.YtlgiijibekobfaaBas
import Derived.Test.YtlgiijibekobfaaFinWords
import Derived.Deep.RegionHeld3
import Derived.Deep.DeepCutAuto
namespace Go.Proofs.Ytlgiijibekobfaa
open Go.RowKit

set_option linter.unusedSimpArgs false
set_option maxHeartbeats 16000000 in
set_option maxRecDepth 100000 in
theorem walkFnIntervals (w : World) (A0 : Option Addr) (c0 : Nat) (xs0 : List Int) (ha0 : AR .u8 w A0 xs0) (hf0 : ∀ x ∈ xs0, 0 ≤ x ∧ x ≤ 255) :
    Calls Try.prog 6 #[.slice A0 xs0.length c0] w fun e w' => e = .returned (.bool true) ∧ Below w.heap.size w w' := by
  obtain ⟨n0, hn0⟩ : ∃ n0, n0 = xs0.length := ⟨_, rfl⟩
  by_cases hbig : n0 ≤ 1048576
  rotate_left
  · have hgt : (n0 : Int) > 1048576 := by omega
    rw [← hn0]
    clear hn0
    go_enter Try.func6, Try.ntmps6
    go_wp2_with fail
    go_ret
    exact ⟨rfl, Below.refl _ _⟩
  have HB : Bx (BR w A0 n0) := ⟨br_of hn0 hbig ha0 hf0⟩
  have bw : Below w.heap.size w w := Below.refl _ _
  have hgt : ¬ (n0 : Int) > 1048576 := by omega
  rw [← hn0]
  clear hn0 ha0 hf0
  go_enter Try.func6, Try.ntmps6
  go_wp2_with fail
  refine (makeRhythm_any _ _ _ 0 _ (by omega) (by exact HB.out)).mono ?_
  rintro e w1 ⟨n, hn1, hn16, a, haok, Aa, ca, rfl, io, b⟩
  clear HB
  replace bw := bw.trans (b.mono bw.size)
  clear b
  have HAOK := Bx.mk haok
  have HCA : Bx (a.length ≤ ca) := ⟨io.1⟩
  have hal := (rhOk_len haok).1
  have HA := Bx.mk io.reads
  clear io
  obtain ⟨w2, hW⟩ : ∃ w2, w2 = w1.alloc (.cells #[.int .i64 n, .slice Aa a.length ca] 30) := ⟨_, rfl⟩
  obtain ⟨ga, hg⟩ : ∃ ga, ga = w1.heap.size := ⟨_, rfl⟩
  have b : Below w1.heap.size w1 w2 := by rw [hW]; exact below_alloc _ _
  have kga0 : w2.cell? ⟨ga, 0, none⟩ = some (.int .i64 n) := by rw [hW, hg]; simp [go_sem]
  have kga1 : w2.cell? ⟨ga, 1, none⟩ = some (.slice Aa a.length ca) := by rw [hW, hg]; simp [go_sem]
  have lt_ga : ga < w2.heap.size := by rw [hW, hg]; simp
  replace HA := Bx.mk (HA.out.below b)
  replace bw := bw.trans (b.mono bw.size)
  clear b
  obtain ⟨D, hD⟩ : ∃ D, D = difC n a := ⟨_, rfl⟩
  obtain ⟨V, hV⟩ : ∃ V, V = vecC n a := ⟨_, rfl⟩
  obtain ⟨O, hO⟩ : ∃ O, O = othL n a := ⟨_, rfl⟩
  obtain ⟨E, hE⟩ : ∃ E, E = difC n O := ⟨_, rfl⟩
  have HOOK : Bx (rhOk n O = true) := ⟨by rw [hO]; exact oth_ok hn1 (by omega) a⟩
  have hDl : D.length = n := by rw [hD, difC_len, Int.toNat_natCast]
  have hEl : E.length = n := by rw [hE, difC_len, Int.toNat_natCast]
  obtain ⟨h, hh⟩ : ∃ h : Nat, h = n / 2 := ⟨_, rfl⟩
  have hqt : (n : Int).tdiv 2 = (h : Int) := by rw [hh]; exact (Int.ofNat_tdiv n 2).symm
  have hqe : (n : Int) / 2 = (h : Int) := by rw [hh]; exact (Int.natCast_ediv n 2).symm
  have hVl : V.length = h := by rw [hV, vecC_len, hqe, Int.toNat_natCast]
  have hDv : ∀ i : Nat, i < n → D[i]?.getD 0 = ((dfI n a i : Nat) : Int) := fun i hi => by rw [hD]; exact difC_at (by omega) (by rw [Int.toNat_natCast]; exact hi)
  have hEv : ∀ i : Nat, i < n → E[i]?.getD 0 = ((dfI n O i : Nat) : Int) := fun i hi => by rw [hE]; exact difC_at (by omega) (by rw [Int.toNat_natCast]; exact hi)
  have HED : Bx (∀ i : Nat, i < n → dfI n O i + 2 * a.length = n + dfI n a i) := ⟨fun i hi => by rw [hO]; exact df_oth haok ⟨by omega, by omega⟩⟩
  have HDa : Bx (∀ A c W, IR W A a → Calls Try.prog 19 #[.agg #[.int .i64 n, .slice A a.length c]] W (GivesInts W D)) := ⟨fun A c W h => by rw [hD]; exact diffs_ok n A c a W HAOK.out h⟩
  have HVa : Bx (∀ W, IR W Aa a → Calls Try.prog 45 #[.agg #[.int .i64 n, .slice Aa a.length ca]] W (GivesInts W V)) := ⟨fun W h => by rw [hV]; exact vectorOf_ok n Aa ca a W HAOK.out h HCA.out⟩
  have HOa : Bx (∀ A c W, IR W A a → Calls Try.prog 26 #[.agg #[.int .i64 n, .slice A a.length c]] W (GivesRB W n O true)) := ⟨fun A c W h => by rw [hO]; exact other_ok n A c a W HAOK.out h⟩
  have HDo : Bx (∀ A c W, IR W A O → Calls Try.prog 19 #[.agg #[.int .i64 n, .slice A O.length c]] W (GivesInts W E)) := ⟨fun A c W h => by rw [hE]; exact diffs_ok n A c O W HOOK.out h⟩
  have HOV : Bx (∀ A c W, IR W A a → Calls Try.prog 46 #[.agg #[.int .i64 n, .slice A a.length c], .agg #[.int .i64 n, .slice A a.length c]] W (GivesInts W D)) := ⟨fun A c W h => by rw [hD, ← ov_dif HAOK.out]; exact overlaps_ok n A c a W HAOK.out h⟩
  have hDS : D.sum = ((a.length * a.length : Nat) : Int) := by rw [hD, difC_sum (by omega)]
  have hVS : 2 * V.sum = (a.length : Int) * ((a.length : Int) - 1) := by rw [hV]; exact vec_sum haok
  have hDB : ∀ x ∈ D, 0 ≤ x ∧ x ≤ 100000 := fun x hx => by
    obtain ⟨i, hi⟩ := List.mem_iff_getElem?.1 hx
    have := outC_bd (n : Int) a (a.map fun q => -q) a.length i x (by rw [hD] at hi; exact hi)
    rw [List.length_map] at this
    have h2 := Nat.mul_le_mul hal hal
    omega
  have hVB : ∀ x ∈ V, 0 ≤ x ∧ x ≤ 100000 := fun x hx => by
    obtain ⟨i, hi⟩ := List.mem_iff_getElem?.1 hx
    rw [hV] at hi
    have := vout_ub (s := n) (xs := a) a.length hal i x hi
    omega
  obtain ⟨M, hM⟩ : ∃ M : Nat, M = a.length * a.length := ⟨_, rfl⟩
  have hMb : M ≤ 576 := by rw [hM]; have := Nat.mul_le_mul hal hal; omega
  have hMi : (a.length : Int) * (a.length : Int) = (M : Int) := by rw [hM]; simp
  obtain ⟨S, hS⟩ : ∃ S, S = V.sum := ⟨_, rfl⟩
  have hSb : 0 ≤ S ∧ S ≤ 1000 := by
    rw [← hS] at hVS
    rw [Int.mul_sub, hMi] at hVS
    have hk24 : a.length ≤ 24 := by omega
    have : (a.length : Int) ≤ M := by
      rw [hM]
      have : a.length ≤ a.length * a.length := by
        rcases Nat.eq_zero_or_pos a.length with h0 | h0
        · omega
        · exact Nat.le_mul_of_pos_left _ h0
      omega
    omega
  have HSD : Bx (∀ A c W, IR W A D → Calls Try.prog 40 #[.slice A D.length c] W fun e w' => e = .returned (.int .i64 (M : Int)) ∧ W = w') := ⟨fun A c W h => by
    have := lawSum_any A c D W hDB (by omega) h
    rw [hDS, ← hM] at this
    exact this⟩
  have HSV : Bx (∀ A c W, IR W A V → Calls Try.prog 40 #[.slice A V.length c] W fun e w' => e = .returned (.int .i64 S) ∧ W = w') := ⟨fun A c W h => by
    have := lawSum_any A c V W hVB (by omega) h
    rw [← hS] at this
    exact this⟩
  rw [← hS] at hVS
  have HPI : Bx ((a.length : Int) * ((a.length : Int) - 1) = 2 * S) := ⟨hVS.symm⟩
  have HDZ : Bx (D[0]?.getD 0 = (a.length : Int)) := ⟨by rw [hDv 0 (by omega)]; have := df_zero haok; exact congrArg _ this⟩
  have HDL := Bx.mk hDl
  have HEL := Bx.mk hEl
  have HVL := Bx.mk hVl
  have HDV := Bx.mk hDv
  have HEV := Bx.mk hEv
  have HOE := Bx.mk hO
  have hk24 : a.length ≤ 24 := by omega
  clear haok hD hV hO hE hDl hEl hVl hDv hEv hh hDS hVS hDB hVB hM hS
  go_upto_region 4 with (fail)
  rw [← hW, ← hg]
  clear hW hg
  go_wp2_with fail
  refine (HDa.out _ _ _ (by exact HA.out)).mono ?_
  rintro e w3 ⟨AD, cD, rfl, io, b⟩
  replace kga0 := ((bcell b).1 _ _ lt_ga).trans kga0
  replace kga1 := ((bcell b).1 _ _ lt_ga).trans kga1
  replace lt_ga := Nat.lt_of_lt_of_le lt_ga b.size
  replace HA := Bx.mk (HA.out.below b)
  replace bw := bw.trans (b.mono bw.size)
  clear b
  have HDr := Bx.mk io.reads
  clear io
  go_wp2_with fail
  refine (HVa.out _ (by exact HA.out)).mono ?_
  rintro e w4 ⟨AV, cV, rfl, io, b⟩
  replace kga0 := ((bcell b).1 _ _ lt_ga).trans kga0
  replace kga1 := ((bcell b).1 _ _ lt_ga).trans kga1
  replace lt_ga := Nat.lt_of_lt_of_le lt_ga b.size
  replace HA := Bx.mk (HA.out.below b)
  replace HDr := Bx.mk (HDr.out.below b)
  replace bw := bw.trans (b.mono bw.size)
  clear b
  have HVr := Bx.mk io.reads
  clear io
  go_wp2_with fail
  refine (HOa.out _ _ _ (by exact HA.out)).mono ?_
  rintro e w5 ⟨AO, cO, rfl, io, b⟩
  replace kga0 := ((bcell b).1 _ _ lt_ga).trans kga0
  replace kga1 := ((bcell b).1 _ _ lt_ga).trans kga1
  replace lt_ga := Nat.lt_of_lt_of_le lt_ga b.size
  replace HA := Bx.mk (HA.out.below b)
  replace HDr := Bx.mk (HDr.out.below b)
  replace HVr := Bx.mk (HVr.out.below b)
  replace bw := bw.trans (b.mono bw.size)
  clear b
  have HCO : Bx (O.length ≤ cO) := ⟨io.1⟩
  have HOr := Bx.mk io.reads
  clear io
  obtain ⟨w6, hW⟩ : ∃ w6, w6 = w5.alloc (.cells #[.int .i64 n, .slice AO O.length cO] 30) := ⟨_, rfl⟩
  obtain ⟨go, hg⟩ : ∃ go, go = w5.heap.size := ⟨_, rfl⟩
  have b : Below w5.heap.size w5 w6 := by rw [hW]; exact below_alloc _ _
  have kgo0 : w6.cell? ⟨go, 0, none⟩ = some (.int .i64 n) := by rw [hW, hg]; simp [go_sem]
  have kgo1 : w6.cell? ⟨go, 1, none⟩ = some (.slice AO O.length cO) := by rw [hW, hg]; simp [go_sem]
  have lt_go : go < w6.heap.size := by rw [hW, hg]; simp
  replace kga0 := ((bcell b).1 _ _ lt_ga).trans kga0
  replace kga1 := ((bcell b).1 _ _ lt_ga).trans kga1
  replace lt_ga := Nat.lt_of_lt_of_le lt_ga b.size
  replace HA := Bx.mk (HA.out.below b)
  replace HDr := Bx.mk (HDr.out.below b)
  replace HVr := Bx.mk (HVr.out.below b)
  replace HOr := Bx.mk (HOr.out.below b)
  replace bw := bw.trans (b.mono bw.size)
  clear b
  go_upto_region 9 with (fail)
  rw [← hW, ← hg]
  clear hW hg
  go_wp2_with fail
  refine (HDo.out _ _ _ (by exact HOr.out)).mono ?_
  rintro e w7 ⟨AE, cE, rfl, io, b⟩
  replace kga0 := ((bcell b).1 _ _ lt_ga).trans kga0
  replace kga1 := ((bcell b).1 _ _ lt_ga).trans kga1
  replace kgo0 := ((bcell b).1 _ _ lt_go).trans kgo0
  replace kgo1 := ((bcell b).1 _ _ lt_go).trans kgo1
  replace lt_ga := Nat.lt_of_lt_of_le lt_ga b.size
  replace lt_go := Nat.lt_of_lt_of_le lt_go b.size
  replace HA := Bx.mk (HA.out.below b)
  replace HDr := Bx.mk (HDr.out.below b)
  replace HVr := Bx.mk (HVr.out.below b)
  replace HOr := Bx.mk (HOr.out.below b)
  replace bw := bw.trans (b.mono bw.size)
  clear b
  have HEr := Bx.mk io.reads
  clear io
  go_wp2_with fail
  refine (HOV.out _ _ _ (by exact HA.out)).mono ?_
  rintro e w8 ⟨AC, cC, rfl, io, b⟩
  replace kga0 := ((bcell b).1 _ _ lt_ga).trans kga0
  replace kga1 := ((bcell b).1 _ _ lt_ga).trans kga1
  replace kgo0 := ((bcell b).1 _ _ lt_go).trans kgo0
  replace kgo1 := ((bcell b).1 _ _ lt_go).trans kgo1
  replace lt_ga := Nat.lt_of_lt_of_le lt_ga b.size
  replace lt_go := Nat.lt_of_lt_of_le lt_go b.size
  replace HA := Bx.mk (HA.out.below b)
  replace HDr := Bx.mk (HDr.out.below b)
  replace HVr := Bx.mk (HVr.out.below b)
  replace HOr := Bx.mk (HOr.out.below b)
  replace HEr := Bx.mk (HEr.out.below b)
  replace bw := bw.trans (b.mono bw.size)
  clear b
  have HCr := Bx.mk io.reads
  clear io
  obtain ⟨bD, oD, z, rfl, lt_bD, kD0, H3⟩ := HDr.out.one (k := 0) (by rw [HDL.out]; omega)
  have hz := HDZ.out
  rw [H3.out] at hz
  simp only [Option.getD_some] at hz
  subst hz
  have kD0' : w8.cell? ⟨bD, oD, none⟩ = some (.int .i64 (a.length : Int)) := kD0
  have hd0 : (0 : Int) < D.length := by rw [HDL.out]; omega
  have hd1 : (((D.length : Nat) : Int) != ((n : Nat) : Int)) = false := by rw [bne_eq_false_iff_eq, HDL.out]
  have hd2 : (((E.length : Nat) : Int) != ((n : Nat) : Int)) = false := by rw [bne_eq_false_iff_eq, HEL.out]
  have hd3 : (((V.length : Nat) : Int) != ((h : Nat) : Int)) = false := by rw [bne_eq_false_iff_eq, HVL.out]
  have hkk : (((a.length : Nat) : Int) != ((a.length : Nat) : Int)) = false := by simp
  have HMI := Bx.mk hMi
  clear H3 hMi
  go_wp2_with fail
  refine (HSD.out _ _ _ (by exact HDr.out)).mono ?_
  rintro e w' ⟨rfl, rfl⟩
  clear hd0 hd1 hd2 hd3 hkk kD0 kD0' hqt hqe
  have hMi := HMI.out
  have hMM : (((M : Nat) : Int) != ((M : Nat) : Int)) = false := by simp
  go_wp2_with fail
  clear hMi hMM
  refine (HSV.out _ _ _ (by exact HVr.out)).mono ?_
  rintro e w' ⟨rfl, rfl⟩
  obtain ⟨P1, hP1⟩ : ∃ P1, P1 = (a.length : Int) - 1 := ⟨_, rfl⟩
  have hP2 : (a.length : Int) - 1 = P1 := hP1.symm
  have hP1b : -1 ≤ P1 ∧ P1 ≤ 100 := by omega
  have hPi : (a.length : Int) * P1 = 2 * S := by rw [hP1]; exact HPI.out
  obtain ⟨hP3, hP4⟩ := hP1b
  clear hP1
  go_wp2_with fail
  clear hPi hP2 hP3 hP4 HMI HSD HSV HDZ HOV HDa HVa HOa HDo HVr HVL HPI
  go_loopw [12] (fun iv wr => ∃ i : Nat, i ≤ n ∧ iv = .int .i64 i ∧ Bx (Below w8.heap.size w8 wr)) (fun iv _ => n - (intOf iv).toNat)
  case atStart => exact ⟨0, by omega, rfl, ⟨Below.refl _ _⟩⟩
  case round =>
    obtain ⟨i, hi, rfl, HR⟩ := hrel
    by_cases hlt : i < n
    · have hli : (i : Int) < (n : Int) := by omega
      obtain ⟨j, hj⟩ : ∃ j : Nat, j = (n - i) % n := ⟨_, rfl⟩
      have hjn : j < n := by rw [hj]; exact Nat.mod_lt _ (by omega)
      obtain ⟨u, hu⟩ : ∃ u : Nat, u = n - i := ⟨_, rfl⟩
      have hui : (n : Int) - (i : Int) = (u : Int) := by omega
      have hjt : (u : Int).tmod (n : Int) = (j : Int) := by rw [hj, hu]; exact (Int.ofNat_tmod _ n).symm
      have hje : (u : Int) % (n : Int) = (j : Int) := by rw [hj, hu]; exact (Int.natCast_emod _ n).symm
      have hnz : ¬ (n : Int) = 0 := by omega
      have hnz2 : ¬ n = 0 := by omega
      obtain ⟨dv, hdv⟩ : ∃ dv : Nat, dv = dfI n a i := ⟨_, rfl⟩
      have hdj : dfI n a j = dv := by
        rw [hdv, ← df_sym HAOK.out (i := (i : Int)) ⟨by omega, by omega⟩, hui, hje]
      obtain ⟨b1, o1, x1, e1, lt_bD1, kd1, H1⟩ := (HDr.out.below HR.out).one (k := i) (by rw [HDL.out]; exact hlt)
      injection e1 with e1; injection e1 with e1 e2; subst e1 e2
      obtain ⟨b2, o2, x2, e1, _, kd2, H2⟩ := (HDr.out.below HR.out).one (k := j) (by rw [HDL.out]; exact hjn)
      injection e1 with e1; injection e1 with e1 e2; subst e1 e2
      obtain ⟨bE, oE, x3, rfl, lt_bE, ke, H3⟩ := (HEr.out.below HR.out).one (k := i) (by rw [HEL.out]; exact hlt)
      obtain ⟨bC, oC, x4, rfl, lt_bC, kc, H4⟩ := (HCr.out.below HR.out).one (k := i) (by rw [HDL.out]; exact hlt)
      have y1 := HDV.out i hlt
      rw [H1.out, ← hdv] at y1
      simp only [Option.getD_some] at y1
      subst y1
      have y2 := HDV.out j hjn
      rw [H2.out, hdj] at y2
      simp only [Option.getD_some] at y2
      subst y2
      have y3 := HEV.out i hlt
      have y5 := HED.out i hlt
      rw [H3.out] at y3
      simp only [Option.getD_some] at y3
      have y4 := HDV.out i hlt
      rw [H4.out, ← hdv] at y4
      simp only [Option.getD_some] at y4
      subst y4
      obtain ⟨ev, hev⟩ : ∃ ev : Nat, ev = dfI n O i := ⟨_, rfl⟩
      rw [← hev] at y3 y5
      subst y3
      rw [← hdv] at y5
      have hdb : dv ≤ 24 := by rw [hdv, ← cm_rot HAOK.out hlt]; unfold cmN; have := List.length_filter_le (fun x => memB (rotL n a (i : Int)) x) a; omega
      obtain ⟨q, hq⟩ : ∃ q : Int, q = (n : Int) - 2 * (a.length : Int) := ⟨_, rfl⟩
      have hed : (ev : Int) - (dv : Int) = q := by omega
      have hnk : (n : Int) - 2 * (a.length : Int) = q := hq.symm
      have hq1 : -100 ≤ q := by omega
      have hq2 : q ≤ 100 := by omega
      have hne : (q != q) = false := by simp
      have hqw : IntKind.i64.wrap q = q := IntWalk.i64_in _ (by omega)
      have hkw : IntKind.i64.wrap (2 * (a.length : Int)) = 2 * (a.length : Int) := IntWalk.i64_in _ (by omega)
      have huw : IntKind.i64.wrap (u : Int) = (u : Int) := IntWalk.i64_in _ (by omega)
      clear hq
      have hdd : (((dv : Nat) : Int) != ((dv : Nat) : Int)) = false := by simp
      have hdl : (i : Int) < D.length := by rw [HDL.out]; exact hli
      have hdl2 : (j : Int) < D.length := by rw [HDL.out]; omega
      have hel : (i : Int) < E.length := by rw [HEL.out]; exact hli
      have hevb : ev ≤ 1000 := by omega
      have qa0 := ((bcell HR.out).1 _ _ lt_ga).trans kga0
      have qa1 := ((bcell HR.out).1 _ _ lt_ga).trans kga1
      have lt_gA := Nat.lt_of_lt_of_le lt_ga HR.out.size
      have HA2 := Bx.mk (HA.out.below HR.out)
      have bw := HR.out
      obtain ⟨X, hX⟩ : ∃ X, X = rotL n a (i : Int) := ⟨_, rfl⟩
      have HXOK : Bx (rhOk n X = true) := ⟨by rw [hX]; exact rot_ok hn1 (by omega) _⟩
      have HRX : Bx (∀ A c W, IR W A a → Calls Try.prog 41 #[.agg #[.int .i64 n, .slice A a.length c], .int .i64 i] W (GivesRB W n X true)) := ⟨fun A c W h => by rw [hX]; exact rotate_ok n A c a i W HAOK.out h ⟨by omega, by omega⟩⟩
      have HVX : Bx (vecC n a = vecC n X) := ⟨vec_same HAOK.out HXOK.out fun i' hi' => by rw [hX, df_rot HAOK.out hi']⟩
      have HRB : Bx (rotB n a X = true) := ⟨by rw [hX]; exact rotB_rot hlt⟩
      have HCM : Bx (∀ A B c d W, IR W A a → IR W B X → Calls Try.prog 47 #[.agg #[.int .i64 n, .slice A a.length c], .agg #[.int .i64 n, .slice B X.length d]] W fun e w' => e = .returned (.int .i64 (dv : Int)) ∧ Below W.heap.size W w') := ⟨fun A B c d W h1 h2 => by
        have := commonBeats_ok n A B c d a X W HAOK.out HXOK.out h1 h2
        rw [hX, cm_rot HAOK.out hlt, ← hdv, ← hX] at this
        exact this⟩
      clear H1 H2 H3 H4 hdj hj hu hdv hev y5 hX hi
      have hBd : Bx (Below wr.heap.size wr wr.drew) := ⟨(Below.refl _ _).drew⟩
      have lt_bD := lt_bD1
      go_upto_region 16 with (fail)
      have hB : Bx (Below wr.heap.size wr wr.drew) := ⟨(Below.refl _ _).drew⟩
      have hB0 : Bx (Below wr.heap.size wr wr) := ⟨Below.refl _ _⟩
      have kd1_d : wr.drew.cell? _ = _ := kd1
      have kd2_d : wr.drew.cell? _ = _ := kd2
      have ke_d : wr.drew.cell? _ = _ := ke
      have kc_d : wr.drew.cell? _ = _ := kc
      refine wp_region_held_drew (S := fun w' => w'.cell? ⟨bD, oD + i, none⟩ = some (.int .i64 (dv : Int)) ∧ w'.cell? ⟨bD, oD + j, none⟩ = some (.int .i64 (dv : Int)) ∧ w'.cell? ⟨bE, oE + i, none⟩ = some (.int .i64 (ev : Int)) ∧ w'.cell? ⟨bC, oC + i, none⟩ = some (.int .i64 (dv : Int)) ∧ Bx (Below wr.heap.size wr w')) (by kernel_rfl) ?hS1000 (fun hHeld => ?rest1000)
      case hS1000 => (try dsimp only); (refine (fun (hK : Bx (Below wr.heap.size wr _)) => ⟨((bcell hK.out).1 _ _ lt_bD).trans kd1, ((bcell hK.out).1 _ _ lt_bD).trans kd2, ((bcell hK.out).1 _ _ lt_bE).trans ke, ((bcell hK.out).1 _ _ lt_bC).trans kc, hK⟩) ?_; (first | with_reducible assumption | with_reducible exact bx_alloc (by with_reducible assumption) _ | with_reducible exact bx_drew (by with_reducible assumption) | with_reducible exact bx_drew (bx_alloc (by with_reducible assumption) _)))
      case rest1000 =>
      refine wpAnyH_take (i := 0) (v := ?v1001) (at_list rfl) (by kernel_rfl) (by kernel_rfl) (by kernel_rfl) (fun _ _ _ h => h) (Or.inl ⟨by rfl, ?hy1001⟩) (by assumption) ?rest1001
      case hy1001 => intro w hSw; (try dsimp only at hSw); go_simp; try (with_reducible rfl)
      case rest1001 =>
      try simp only [Act.put, List.setIfInBounds_toArray, List.set_cons_zero, List.set_cons_succ]
      refine wpAnyH_take (i := 1) (v := ?v1002) (at_list rfl) (by kernel_rfl) (by kernel_rfl) (by kernel_rfl) (fun _ _ _ h => h) (Or.inl ⟨by rfl, ?hy1002⟩) (by assumption) ?rest1002
      case hy1002 => intro w hSw; (try dsimp only at hSw); go_simp; try (with_reducible rfl)
      case rest1002 =>
      try simp only [Act.put, List.setIfInBounds_toArray, List.set_cons_zero, List.set_cons_succ]
      refine wpAnyH_take (i := 2) (v := ?v1003) (at_list rfl) (by kernel_rfl) (by kernel_rfl) (by kernel_rfl) (fun _ _ _ h => h) (Or.inl ⟨by rfl, ?hy1003⟩) (by assumption) ?rest1003
      case hy1003 => intro w hSw; (try dsimp only at hSw); go_simp; try (with_reducible rfl)
      case rest1003 =>
      try simp only [Act.put, List.setIfInBounds_toArray, List.set_cons_zero, List.set_cons_succ]
      refine wpAnyH_take (i := 3) (v := .int .i64 (ev : Int)) (at_list rfl) (by kernel_rfl) (by kernel_rfl) (by kernel_rfl) (fun _ _ _ h => h) (Or.inl ⟨by rfl, ?hy1004⟩) (by assumption) ?rest1004
      case hy1004 => intro w hSw; (try dsimp only at hSw); go_simp; try (with_reducible rfl)
      case rest1004 =>
      try simp only [Act.put, List.setIfInBounds_toArray, List.set_cons_zero, List.set_cons_succ]
      refine wpAnyH_take (i := 4) (v := ?v1005) (at_list rfl) (by kernel_rfl) (by kernel_rfl) (by kernel_rfl) (fun _ _ _ h => h) (Or.inl ⟨by rfl, ?hy1005⟩) (by assumption) ?rest1005
      case hy1005 => intro w hSw; (try dsimp only at hSw); go_simp; try (with_reducible rfl)
      case rest1005 =>
      try simp only [Act.put, List.setIfInBounds_toArray, List.set_cons_zero, List.set_cons_succ]
      refine wpAnyH_take (i := 5) (v := ?v1006) (at_list rfl) (by kernel_rfl) (by kernel_rfl) (by kernel_rfl) (fun _ _ _ h => h) (Or.inl ⟨by rfl, ?hy1006⟩) (by assumption) ?rest1006
      case hy1006 => intro w hSw; (try dsimp only at hSw); go_simp; try (with_reducible rfl)
      case rest1006 =>
      try simp only [Act.put, List.setIfInBounds_toArray, List.set_cons_zero, List.set_cons_succ]
      refine wpAnyH_take (i := 6) (v := ?v1007) (at_list rfl) (by kernel_rfl) (by kernel_rfl) (by kernel_rfl) (fun _ _ _ h => h) (Or.inl ⟨by rfl, ?hy1007⟩) (by assumption) ?rest1007
      case hy1007 => intro w hSw; (try dsimp only at hSw); go_simp; try (with_reducible rfl)
      case rest1007 =>
      try simp only [Act.put, List.setIfInBounds_toArray, List.set_cons_zero, List.set_cons_succ]
      refine wpAnyH_take (i := 7) (v := .int .i64 (dv : Int)) (at_list rfl) (by kernel_rfl) (by kernel_rfl) (by kernel_rfl) (fun _ _ _ h => h) (Or.inl ⟨by rfl, ?hy1008⟩) (by assumption) ?rest1008
      case hy1008 => intro w hSw; (try dsimp only at hSw); go_simp; try (with_reducible rfl)
      case rest1008 =>
      try simp only [Act.put, List.setIfInBounds_toArray, List.set_cons_zero, List.set_cons_succ]
      refine wpAnyH_take (i := 8) (v := .int .i64 q) (at_list rfl) (by kernel_rfl) (by kernel_rfl) (by kernel_rfl) (fun _ _ _ h => h) (Or.inl ⟨by rfl, ?hy1009⟩) (by assumption) ?rest1009
      case hy1009 => intro w hSw; (try dsimp only at hSw); go_simp; try (with_reducible rfl)
      case rest1009 =>
      try simp only [Act.put, List.setIfInBounds_toArray, List.set_cons_zero, List.set_cons_succ]
      refine wpAnyH_take (i := 9) (v := ?v1010) (at_list rfl) (by kernel_rfl) (by kernel_rfl) (by kernel_rfl) (fun _ _ _ h => h) (Or.inl ⟨by rfl, ?hy1010⟩) (by assumption) ?rest1010
      case hy1010 => intro w hSw; (try dsimp only at hSw); go_simp; try (with_reducible rfl)
      case rest1010 =>
      try simp only [Act.put, List.setIfInBounds_toArray, List.set_cons_zero, List.set_cons_succ]
      refine wpAnyH_take (i := 10) (v := ?v1011) (at_list rfl) (by kernel_rfl) (by kernel_rfl) (by kernel_rfl) (fun _ _ _ h => h) (Or.inl ⟨by rfl, ?hy1011⟩) (by assumption) ?rest1011
      case hy1011 => intro w hSw; (try dsimp only at hSw); go_simp; try (with_reducible rfl)
      case rest1011 =>
      try simp only [Act.put, List.setIfInBounds_toArray, List.set_cons_zero, List.set_cons_succ]
      refine wpAnyH_take (i := 11) (v := .int .i64 (2 * (a.length : Int))) (at_list rfl) (by kernel_rfl) (by kernel_rfl) (by kernel_rfl) (fun _ _ _ h => h) (Or.inl ⟨by rfl, ?hy1012⟩) (by assumption) ?rest1012
      case hy1012 => intro w hSw; (try dsimp only at hSw); go_simp; try (with_reducible rfl)
      case rest1012 =>
      try simp only [Act.put, List.setIfInBounds_toArray, List.set_cons_zero, List.set_cons_succ]
      refine wpAnyH_take (i := 12) (v := .int .i64 q) (at_list rfl) (by kernel_rfl) (by kernel_rfl) (by kernel_rfl) (fun _ _ _ h => h) (Or.inl ⟨by rfl, ?hy1013⟩) (by assumption) ?rest1013
      case hy1013 => intro w hSw; (try dsimp only at hSw); go_simp; try (with_reducible rfl)
      case rest1013 =>
      try simp only [Act.put, List.setIfInBounds_toArray, List.set_cons_zero, List.set_cons_succ]
      refine wpAnyH_take (i := 13) (v := .bool false) (at_list rfl) (by kernel_rfl) (by kernel_rfl) (by kernel_rfl) (fun _ _ _ h => h) (Or.inl ⟨by rfl, ?hy1014⟩) (by assumption) ?rest1014
      case hy1014 => intro w hSw; (try dsimp only at hSw); go_simp; try (with_reducible rfl)
      case rest1014 =>
      try simp only [Act.put, List.setIfInBounds_toArray, List.set_cons_zero, List.set_cons_succ]
      refine wpAnyH_take (i := 14) (v := .bool false) (at_list rfl) (by kernel_rfl) (by kernel_rfl) (by kernel_rfl) (fun _ _ _ h => h) (Or.inl ⟨by rfl, ?hy1015⟩) (by assumption) ?rest1015
      case hy1015 => intro w hSw; (try dsimp only at hSw); go_simp; try (with_reducible rfl)
      case rest1015 =>
      try simp only [Act.put, List.setIfInBounds_toArray, List.set_cons_zero, List.set_cons_succ]
      refine wpAnyH_take (i := 15) (v := ?v1016) (at_list rfl) (by kernel_rfl) (by kernel_rfl) (by kernel_rfl) (fun _ _ _ h => h) (Or.inl ⟨by rfl, ?hy1016⟩) (by assumption) ?rest1016
      case hy1016 => intro w hSw; (try dsimp only at hSw); go_simp; try (with_reducible rfl)
      case rest1016 =>
      try simp only [Act.put, List.setIfInBounds_toArray, List.set_cons_zero, List.set_cons_succ]
      refine wpAnyH_take (i := 16) (v := ?v1017) (at_list rfl) (by kernel_rfl) (by kernel_rfl) (by kernel_rfl) (fun _ _ _ h => h) (Or.inl ⟨by rfl, ?hy1017⟩) (by assumption) ?rest1017
      case hy1017 => intro w hSw; (try dsimp only at hSw); go_simp; try (with_reducible rfl)
      case rest1017 =>
      try simp only [Act.put, List.setIfInBounds_toArray, List.set_cons_zero, List.set_cons_succ]
      refine wpAnyH_take (i := 17) (v := ?v1018) (at_list rfl) (by kernel_rfl) (by kernel_rfl) (by kernel_rfl) (fun _ _ _ h => h) (Or.inl ⟨by rfl, ?hy1018⟩) (by assumption) ?rest1018
      case hy1018 => intro w hSw; (try dsimp only at hSw); go_simp; try (with_reducible rfl)
      case rest1018 =>
      try simp only [Act.put, List.setIfInBounds_toArray, List.set_cons_zero, List.set_cons_succ]
      refine wpAnyH_take (i := 18) (v := .int .i64 (dv : Int)) (at_list rfl) (by kernel_rfl) (by kernel_rfl) (by kernel_rfl) (fun _ _ _ h => h) (Or.inl ⟨by rfl, ?hy1019⟩) (by assumption) ?rest1019
      case hy1019 => intro w hSw; (try dsimp only at hSw); go_simp; try (with_reducible rfl)
      case rest1019 =>
      try simp only [Act.put, List.setIfInBounds_toArray, List.set_cons_zero, List.set_cons_succ]
      refine wpAnyH_take (i := 19) (v := ?v1020) (at_list rfl) (by kernel_rfl) (by kernel_rfl) (by kernel_rfl) (fun _ _ _ h => h) (Or.inl ⟨by rfl, ?hy1020⟩) (by assumption) ?rest1020
      case hy1020 => intro w hSw; (try dsimp only at hSw); go_simp; try (with_reducible rfl)
      case rest1020 =>
      try simp only [Act.put, List.setIfInBounds_toArray, List.set_cons_zero, List.set_cons_succ]
      refine wpAnyH_take (i := 20) (v := ?v1021) (at_list rfl) (by kernel_rfl) (by kernel_rfl) (by kernel_rfl) (fun _ _ _ h => h) (Or.inl ⟨by rfl, ?hy1021⟩) (by assumption) ?rest1021
      case hy1021 => intro w hSw; (try dsimp only at hSw); go_simp; try (with_reducible rfl)
      case rest1021 =>
      try simp only [Act.put, List.setIfInBounds_toArray, List.set_cons_zero, List.set_cons_succ]
      refine wpAnyH_take (i := 21) (v := ?v1022) (at_list rfl) (by kernel_rfl) (by kernel_rfl) (by kernel_rfl) (fun _ _ _ h => h) (Or.inl ⟨by rfl, ?hy1022⟩) (by assumption) ?rest1022
      case hy1022 => intro w hSw; (try dsimp only at hSw); go_simp; try (with_reducible rfl)
      case rest1022 =>
      try simp only [Act.put, List.setIfInBounds_toArray, List.set_cons_zero, List.set_cons_succ]
      refine wpAnyH_take (i := 22) (v := .int .i64 (dv : Int)) (at_list rfl) (by kernel_rfl) (by kernel_rfl) (by kernel_rfl) (fun _ _ _ h => h) (Or.inl ⟨by rfl, ?hy1023⟩) (by assumption) ?rest1023
      case hy1023 => intro w hSw; (try dsimp only at hSw); go_simp; try (with_reducible rfl)
      case rest1023 =>
      try simp only [Act.put, List.setIfInBounds_toArray, List.set_cons_zero, List.set_cons_succ]
      refine wpAnyH_take (i := 23) (v := .bool false) (at_list rfl) (by kernel_rfl) (by kernel_rfl) (by kernel_rfl) (fun _ _ _ h => h) (Or.inl ⟨by rfl, ?hy1024⟩) (by assumption) ?rest1024
      case hy1024 => intro w hSw; (try dsimp only at hSw); go_simp; try (with_reducible rfl)
      case rest1024 =>
      try simp only [Act.put, List.setIfInBounds_toArray, List.set_cons_zero, List.set_cons_succ]
      refine wpAnyH_take (i := 24) (v := .bool false) (at_list rfl) (by kernel_rfl) (by kernel_rfl) (by kernel_rfl) (fun _ _ _ h => h) (Or.inl ⟨by rfl, ?hy1025⟩) (by assumption) ?rest1025
      case hy1025 => intro w hSw; (try dsimp only at hSw); go_simp; try (with_reducible rfl)
      case rest1025 =>
      try simp only [Act.put, List.setIfInBounds_toArray, List.set_cons_zero, List.set_cons_succ]
      refine wpAnyH_take (i := 25) (v := .bool false) (at_list rfl) (by kernel_rfl) (by kernel_rfl) (by kernel_rfl) (fun _ _ _ h => h) (Or.inl ⟨by rfl, ?hy1026⟩) (by assumption) ?rest1026
      case hy1026 => intro w hSw; (try dsimp only at hSw); go_simp; try (with_reducible rfl)
      case rest1026 =>
      try simp only [Act.put, List.setIfInBounds_toArray, List.set_cons_zero, List.set_cons_succ]
      refine wpAnyH_take (i := 26) (v := ?v1027) (at_list rfl) (by kernel_rfl) (by kernel_rfl) (by kernel_rfl) (fun _ _ _ h => h) (Or.inl ⟨by rfl, ?hy1027⟩) (by assumption) ?rest1027
      case hy1027 => intro w hSw; (try dsimp only at hSw); go_simp; try (with_reducible rfl)
      case rest1027 =>
      try simp only [Act.put, List.setIfInBounds_toArray, List.set_cons_zero, List.set_cons_succ]
      refine wpAnyH_take (i := 27) (v := ?v1028) (at_list rfl) (by kernel_rfl) (by kernel_rfl) (by kernel_rfl) (fun _ _ _ h => h) (Or.inl ⟨by rfl, ?hy1028⟩) (by assumption) ?rest1028
      case hy1028 => intro w hSw; (try dsimp only at hSw); go_simp; try (with_reducible rfl)
      case rest1028 =>
      try simp only [Act.put, List.setIfInBounds_toArray, List.set_cons_zero, List.set_cons_succ]
      refine wpAnyH_take (i := 28) (v := ?v1029) (at_list rfl) (by kernel_rfl) (by kernel_rfl) (by kernel_rfl) (fun _ _ _ h => h) (Or.inl ⟨by rfl, ?hy1029⟩) (by assumption) ?rest1029
      case hy1029 => intro w hSw; (try dsimp only at hSw); go_simp; try (with_reducible rfl)
      case rest1029 =>
      try simp only [Act.put, List.setIfInBounds_toArray, List.set_cons_zero, List.set_cons_succ]
      refine wpAnyH_take (i := 29) (v := .int .i64 (dv : Int)) (at_list rfl) (by kernel_rfl) (by kernel_rfl) (by kernel_rfl) (fun _ _ _ h => h) (Or.inl ⟨by rfl, ?hy1030⟩) (by assumption) ?rest1030
      case hy1030 => intro w hSw; (try dsimp only at hSw); go_simp; try (with_reducible rfl)
      case rest1030 =>
      try simp only [Act.put, List.setIfInBounds_toArray, List.set_cons_zero, List.set_cons_succ]
      refine wpAnyH_take (i := 30) (v := ?v1031) (at_list rfl) (by kernel_rfl) (by kernel_rfl) (by kernel_rfl) (fun _ _ _ h => h) (Or.inl ⟨by rfl, ?hy1031⟩) (by assumption) ?rest1031
      case hy1031 => intro w hSw; (try dsimp only at hSw); go_simp; try (with_reducible rfl)
      case rest1031 =>
      try simp only [Act.put, List.setIfInBounds_toArray, List.set_cons_zero, List.set_cons_succ]
      refine wpAnyH_take (i := 31) (v := ?v1032) (at_list rfl) (by kernel_rfl) (by kernel_rfl) (by kernel_rfl) (fun _ _ _ h => h) (Or.inl ⟨by rfl, ?hy1032⟩) (by assumption) ?rest1032
      case hy1032 => intro w hSw; (try dsimp only at hSw); go_simp; try (with_reducible rfl)
      case rest1032 =>
      try simp only [Act.put, List.setIfInBounds_toArray, List.set_cons_zero, List.set_cons_succ]
      refine wpAnyH_take (i := 32) (v := ?v1033) (at_list rfl) (by kernel_rfl) (by kernel_rfl) (by kernel_rfl) (fun _ _ _ h => h) (Or.inl ⟨by rfl, ?hy1033⟩) (by assumption) ?rest1033
      case hy1033 => intro w hSw; (try dsimp only at hSw); go_simp; try (with_reducible rfl)
      case rest1033 =>
      try simp only [Act.put, List.setIfInBounds_toArray, List.set_cons_zero, List.set_cons_succ]
      refine wpAnyH_take (i := 33) (v := .int .i64 (u : Int)) (at_list rfl) (by kernel_rfl) (by kernel_rfl) (by kernel_rfl) (fun _ _ _ h => h) (Or.inl ⟨by rfl, ?hy1034⟩) (by assumption) ?rest1034
      case hy1034 => intro w hSw; (try dsimp only at hSw); go_simp; try (with_reducible rfl)
      case rest1034 =>
      try simp only [Act.put, List.setIfInBounds_toArray, List.set_cons_zero, List.set_cons_succ]
      refine wpAnyH_take (i := 34) (v := ?v1035) (at_list rfl) (by kernel_rfl) (by kernel_rfl) (by kernel_rfl) (fun _ _ _ h => h) (Or.inl ⟨by rfl, ?hy1035⟩) (by assumption) ?rest1035
      case hy1035 => intro w hSw; (try dsimp only at hSw); go_simp; try (with_reducible rfl)
      case rest1035 =>
      try simp only [Act.put, List.setIfInBounds_toArray, List.set_cons_zero, List.set_cons_succ]
      refine wpAnyH_take (i := 35) (v := .int .i64 (j : Int)) (at_list rfl) (by kernel_rfl) (by kernel_rfl) (by kernel_rfl) (fun _ _ _ h => h) (Or.inl ⟨by rfl, ?hy1036⟩) (by assumption) ?rest1036
      case hy1036 => intro w hSw; (try dsimp only at hSw); go_simp; try (with_reducible rfl)
      case rest1036 =>
      try simp only [Act.put, List.setIfInBounds_toArray, List.set_cons_zero, List.set_cons_succ]
      refine wpAnyH_take (i := 36) (v := ?v1037) (at_list rfl) (by kernel_rfl) (by kernel_rfl) (by kernel_rfl) (fun _ _ _ h => h) (Or.inl ⟨by rfl, ?hy1037⟩) (by assumption) ?rest1037
      case hy1037 => intro w hSw; (try dsimp only at hSw); go_simp; try (with_reducible rfl)
      case rest1037 =>
      try simp only [Act.put, List.setIfInBounds_toArray, List.set_cons_zero, List.set_cons_succ]
      refine wpAnyH_take (i := 37) (v := .int .i64 (dv : Int)) (at_list rfl) (by kernel_rfl) (by kernel_rfl) (by kernel_rfl) (fun _ _ _ h => h) (Or.inl ⟨by rfl, ?hy1038⟩) (by assumption) ?rest1038
      case hy1038 => intro w hSw; (try dsimp only at hSw); go_simp; try (with_reducible rfl)
      case rest1038 =>
      try simp only [Act.put, List.setIfInBounds_toArray, List.set_cons_zero, List.set_cons_succ]
      refine wpAnyH_take (i := 38) (v := .bool false) (at_list rfl) (by kernel_rfl) (by kernel_rfl) (by kernel_rfl) (fun _ _ _ h => h) (Or.inl ⟨by rfl, ?hy1039⟩) (by assumption) ?rest1039
      case hy1039 => intro w hSw; (try dsimp only at hSw); go_simp; try (with_reducible rfl)
      case rest1039 =>
      try simp only [Act.put, List.setIfInBounds_toArray, List.set_cons_zero, List.set_cons_succ]
      refine wpAnyH_take (i := 39) (v := .bool false) (at_list rfl) (by kernel_rfl) (by kernel_rfl) (by kernel_rfl) (fun _ _ _ h => h) (Or.inl ⟨by rfl, ?hy1040⟩) (by assumption) ?rest1040
      case hy1040 => intro w hSw; (try dsimp only at hSw); go_simp; try (with_reducible rfl)
      case rest1040 =>
      try simp only [Act.put, List.setIfInBounds_toArray, List.set_cons_zero, List.set_cons_succ]
      refine wpAnyH_done (by kernel_rfl) ?_ _
      have kd1d : wr.drew.cell? ⟨bD, oD + i, none⟩ = some (.int .i64 (dv : Int)) := kd1
      clear kd1 kd2 ke kc hed hne hnk hq1 hq2 hdl2 hel hui hjt hje hqw hkw huw lt_bE lt_bC hHeld
      replace qa0 := ((bcell hBd.out).1 _ _ lt_gA).trans qa0
      replace qa1 := ((bcell hBd.out).1 _ _ lt_gA).trans qa1
      replace HA2 := Bx.mk (HA2.out.below hBd.out)
      replace bw := bw.trans (hBd.out.mono bw.size)
      obtain ⟨wd, hwd⟩ : ∃ wd, wd = wr.drew := ⟨_, rfl⟩
      have lt_d : wr.heap.size ≤ wd.heap.size := by rw [hwd]; exact hBd.out.size
      replace lt_gA := Nat.lt_of_lt_of_le lt_gA lt_d
      replace lt_bD1 := Nat.lt_of_lt_of_le lt_bD1 lt_d
      rw [← hwd] at qa0 qa1 HA2 bw kd1d
      rw [← hwd]
      clear hwd hBd
      go_wp2_with fail
      refine (HRX.out _ _ _ (by exact HA2.out)).mono ?_
      rintro e w9 ⟨AX, cX, rfl, io, b⟩
      replace qa0 := ((bcell b).1 _ _ lt_gA).trans qa0
      replace qa1 := ((bcell b).1 _ _ lt_gA).trans qa1
      replace kd1d := ((bcell b).1 _ _ lt_bD1).trans kd1d
      replace lt_gA := Nat.lt_of_lt_of_le lt_gA b.size
      replace lt_bD1 := Nat.lt_of_lt_of_le lt_bD1 b.size
      replace HA2 := Bx.mk (HA2.out.below b)
      replace bw := bw.trans (b.mono bw.size)
      clear b
      have hcx : X.length ≤ cX := io.1
      have HXr := Bx.mk io.reads
      clear io
      obtain ⟨w10, hW⟩ : ∃ w10, w10 = w9.alloc (.cells #[.int .i64 n, .slice AX X.length cX] 30) := ⟨_, rfl⟩
      obtain ⟨gx, hg⟩ : ∃ gx, gx = w9.heap.size := ⟨_, rfl⟩
      have b : Below w9.heap.size w9 w10 := by rw [hW]; exact below_alloc _ _
      have kgx0 : w10.cell? ⟨gx, 0, none⟩ = some (.int .i64 n) := by rw [hW, hg]; simp [go_sem]
      have kgx1 : w10.cell? ⟨gx, 1, none⟩ = some (.slice AX X.length cX) := by rw [hW, hg]; simp [go_sem]
      have lt_gx : gx < w10.heap.size := by rw [hW, hg]; simp
      replace qa0 := ((bcell b).1 _ _ lt_gA).trans qa0
      replace qa1 := ((bcell b).1 _ _ lt_gA).trans qa1
      replace kd1d := ((bcell b).1 _ _ lt_bD1).trans kd1d
      replace lt_gA := Nat.lt_of_lt_of_le lt_gA b.size
      replace lt_bD1 := Nat.lt_of_lt_of_le lt_bD1 b.size
      replace HA2 := Bx.mk (HA2.out.below b)
      replace HXr := Bx.mk (HXr.out.below b)
      replace bw := bw.trans (b.mono bw.size)
      clear b
      go_upto_region 19 with (fail)
      rw [← hW, ← hg]
      clear hW hg
      have HSX : Bx (∀ W, IR W Aa a → IR W AX X → Calls Try.prog 48 #[.agg #[.int .i64 n, .slice Aa a.length ca], .agg #[.int .i64 n, .slice AX X.length cX]] W fun e w' => e = .returned (.bool true) ∧ Below W.heap.size W w') := ⟨fun W h1 h2 => sameVec_ok n Aa AX ca cX a X W HAOK.out HXOK.out HCA.out hcx HVX.out h1 h2⟩
      have HTX : Bx (∀ W, IR W Aa a → IR W AX X → Calls Try.prog 49 #[.agg #[.int .i64 n, .slice Aa a.length ca], .agg #[.int .i64 n, .slice AX X.length cX]] W fun e w' => e = .returned (.bool false) ∧ Below W.heap.size W w') := ⟨fun W h1 h2 => twins_ok n Aa AX ca cX a X W HAOK.out HXOK.out HCA.out hcx HVX.out HRB.out h1 h2⟩
      clear hcx
      have lt_ga := lt_gA
      have lt_bD := lt_bD1
      have hB : Bx (Below w10.heap.size w10 w10.drew) := ⟨(Below.refl _ _).drew⟩
      have hB0 : Bx (Below w10.heap.size w10 w10) := ⟨Below.refl _ _⟩
      have qa0_d : w10.drew.cell? _ = _ := qa0
      have qa1_d : w10.drew.cell? _ = _ := qa1
      have kgx0_d : w10.drew.cell? _ = _ := kgx0
      have kgx1_d : w10.drew.cell? _ = _ := kgx1
      have kd1d_d : w10.drew.cell? _ = _ := kd1d
      go_region_held3 (fun w' => w'.cell? ⟨ga, 0, none⟩ = some (.int .i64 n) ∧ w'.cell? ⟨ga, 1, none⟩ = some (.slice Aa a.length ca) ∧ w'.cell? ⟨gx, 0, none⟩ = some (.int .i64 n) ∧ w'.cell? ⟨gx, 1, none⟩ = some (.slice AX X.length cX) ∧ w'.cell? ⟨bD, oD + i, none⟩ = some (.int .i64 (dv : Int)) ∧ Bx (Below w10.heap.size w10 w'))
        ((refine (fun (hK : Bx (Below w10.heap.size w10 _)) => ⟨((bcell hK.out).1 _ _ lt_ga).trans qa0, ((bcell hK.out).1 _ _ lt_ga).trans qa1, ((bcell hK.out).1 _ _ lt_gx).trans kgx0, ((bcell hK.out).1 _ _ lt_gx).trans kgx1, ((bcell hK.out).1 _ _ lt_bD).trans kd1d, hK⟩) ?_; (first | with_reducible assumption | with_reducible exact bx_alloc (by with_reducible assumption) _ | with_reducible exact bx_drew (by with_reducible assumption) | with_reducible exact bx_drew (bx_alloc (by with_reducible assumption) _))))
        (first
          | (go_at_call 47; refine (HCM.out _ _ _ _ _ (by exact HA2.out.below (Bx.out (by (first | with_reducible assumption | with_reducible exact bx_alloc (by with_reducible assumption) _ | with_reducible exact bx_drew (by with_reducible assumption) | with_reducible exact bx_drew (bx_alloc (by with_reducible assumption) _))))) (by exact HXr.out.below (Bx.out (by (first | with_reducible assumption | with_reducible exact bx_alloc (by with_reducible assumption) _ | with_reducible exact bx_drew (by with_reducible assumption) | with_reducible exact bx_drew (bx_alloc (by with_reducible assumption) _)))))).mono ?_; rintro e w11 ⟨rfl, bw11⟩; have hBw11 : Bx (Below w10.heap.size w10 w11) := bx_to (by (first | with_reducible assumption | with_reducible exact bx_alloc (by with_reducible assumption) _ | with_reducible exact bx_drew (by with_reducible assumption) | with_reducible exact bx_drew (bx_alloc (by with_reducible assumption) _))) bw11; have hzw11 := bx_size hBw11; have qa0_w11 := ((bcell hBw11.out).1 _ _ lt_ga).trans qa0; have qa1_w11 := ((bcell hBw11.out).1 _ _ lt_ga).trans qa1; have kgx0_w11 := ((bcell hBw11.out).1 _ _ lt_gx).trans kgx0; have kgx1_w11 := ((bcell hBw11.out).1 _ _ lt_gx).trans kgx1; have kd1d_w11 := ((bcell hBw11.out).1 _ _ lt_bD).trans kd1d)
          | (go_at_call 48; refine (HSX.out _ (by exact HA2.out.below (Bx.out (by (first | with_reducible assumption | with_reducible exact bx_alloc (by with_reducible assumption) _ | with_reducible exact bx_drew (by with_reducible assumption) | with_reducible exact bx_drew (bx_alloc (by with_reducible assumption) _))))) (by exact HXr.out.below (Bx.out (by (first | with_reducible assumption | with_reducible exact bx_alloc (by with_reducible assumption) _ | with_reducible exact bx_drew (by with_reducible assumption) | with_reducible exact bx_drew (bx_alloc (by with_reducible assumption) _)))))).mono ?_; rintro e w12 ⟨rfl, bw12⟩; have hBw12 : Bx (Below w10.heap.size w10 w12) := bx_to (by (first | with_reducible assumption | with_reducible exact bx_alloc (by with_reducible assumption) _ | with_reducible exact bx_drew (by with_reducible assumption) | with_reducible exact bx_drew (bx_alloc (by with_reducible assumption) _))) bw12; have hzw12 := bx_size hBw12; have qa0_w12 := ((bcell hBw12.out).1 _ _ lt_ga).trans qa0; have qa1_w12 := ((bcell hBw12.out).1 _ _ lt_ga).trans qa1; have kgx0_w12 := ((bcell hBw12.out).1 _ _ lt_gx).trans kgx0; have kgx1_w12 := ((bcell hBw12.out).1 _ _ lt_gx).trans kgx1; have kd1d_w12 := ((bcell hBw12.out).1 _ _ lt_bD).trans kd1d)
          | (go_at_call 49; refine (HTX.out _ (by exact HA2.out.below (Bx.out (by (first | with_reducible assumption | with_reducible exact bx_alloc (by with_reducible assumption) _ | with_reducible exact bx_drew (by with_reducible assumption) | with_reducible exact bx_drew (bx_alloc (by with_reducible assumption) _))))) (by exact HXr.out.below (Bx.out (by (first | with_reducible assumption | with_reducible exact bx_alloc (by with_reducible assumption) _ | with_reducible exact bx_drew (by with_reducible assumption) | with_reducible exact bx_drew (bx_alloc (by with_reducible assumption) _)))))).mono ?_; rintro e w13 ⟨rfl, bw13⟩; have hBw13 : Bx (Below w10.heap.size w10 w13) := bx_to (by (first | with_reducible assumption | with_reducible exact bx_alloc (by with_reducible assumption) _ | with_reducible exact bx_drew (by with_reducible assumption) | with_reducible exact bx_drew (bx_alloc (by with_reducible assumption) _))) bw13; have hzw13 := bx_size hBw13; have qa0_w13 := ((bcell hBw13.out).1 _ _ lt_ga).trans qa0; have qa1_w13 := ((bcell hBw13.out).1 _ _ lt_ga).trans qa1; have kgx0_w13 := ((bcell hBw13.out).1 _ _ lt_gx).trans kgx0; have kgx1_w13 := ((bcell hBw13.out).1 _ _ lt_gx).trans kgx1; have kd1d_w13 := ((bcell hBw13.out).1 _ _ lt_bD).trans kd1d))
      have b := hBw13.out
      replace qa0 := ((bcell b).1 _ _ lt_gA).trans qa0
      replace qa1 := ((bcell b).1 _ _ lt_gA).trans qa1
      replace kd1d := ((bcell b).1 _ _ lt_bD1).trans kd1d
      replace kgx0 := ((bcell b).1 _ _ lt_gx).trans kgx0
      replace kgx1 := ((bcell b).1 _ _ lt_gx).trans kgx1
      replace lt_gA := Nat.lt_of_lt_of_le lt_gA b.size
      replace lt_bD1 := Nat.lt_of_lt_of_le lt_bD1 b.size
      replace lt_gx := Nat.lt_of_lt_of_le lt_gx b.size
      replace HA2 := Bx.mk (HA2.out.below b)
      replace HXr := Bx.mk (HXr.out.below b)
      replace bw := bw.trans (b.mono bw.size)
      clear b
      have HRF := Bx.mk bw
      clear bw
      go_wp2_with fail
      go_roundw
      case rel => exact ⟨i + 1, by omega, by go_num, HRF⟩
      case measure => simp [intOf]; omega
    have hli : ¬ (i : Int) < (n : Int) := by omega
    have b := HR.out
    clear HR
    replace kga0 := ((bcell b).1 _ _ lt_ga).trans kga0
    replace kga1 := ((bcell b).1 _ _ lt_ga).trans kga1
    replace kgo0 := ((bcell b).1 _ _ lt_go).trans kgo0
    replace kgo1 := ((bcell b).1 _ _ lt_go).trans kgo1
    replace lt_ga := Nat.lt_of_lt_of_le lt_ga b.size
    replace lt_go := Nat.lt_of_lt_of_le lt_go b.size
    replace HA := Bx.mk (HA.out.below b)
    replace HDr := Bx.mk (HDr.out.below b)
    replace HOr := Bx.mk (HOr.out.below b)
    replace HEr := Bx.mk (HEr.out.below b)
    replace HCr := Bx.mk (HCr.out.below b)
    replace bw := bw.trans (b.mono bw.size)
    clear b
    obtain ⟨Mi, hMi⟩ : ∃ Mi, Mi = mirL n a := ⟨_, rfl⟩
    have HMOK : Bx (rhOk n Mi = true) := ⟨by rw [hMi]; exact mir_ok hn1 (by omega) a⟩
    have HVM : Bx (vecC n a = vecC n Mi) := ⟨vec_same HAOK.out HMOK.out fun i' hi' => by rw [hMi, df_mir HAOK.out hi']⟩
    have HMa : Bx (∀ A c W, IR W A a → Calls Try.prog 50 #[.agg #[.int .i64 n, .slice A a.length c]] W (GivesRB W n Mi true)) := ⟨fun A c W h => by rw [hMi]; exact mirror_ok n A c a W HAOK.out h⟩
    have HMI := Bx.mk hMi
    clear hMi
    go_wp2_with fail
    refine (HMa.out _ _ _ (by exact HA.out)).mono ?_
    rintro e w14 ⟨AM, cM, rfl, io, b⟩
    replace kga0 := ((bcell b).1 _ _ lt_ga).trans kga0
    replace kga1 := ((bcell b).1 _ _ lt_ga).trans kga1
    replace kgo0 := ((bcell b).1 _ _ lt_go).trans kgo0
    replace kgo1 := ((bcell b).1 _ _ lt_go).trans kgo1
    replace lt_ga := Nat.lt_of_lt_of_le lt_ga b.size
    replace lt_go := Nat.lt_of_lt_of_le lt_go b.size
    replace HA := Bx.mk (HA.out.below b)
    replace HDr := Bx.mk (HDr.out.below b)
    replace HOr := Bx.mk (HOr.out.below b)
    replace HEr := Bx.mk (HEr.out.below b)
    replace HCr := Bx.mk (HCr.out.below b)
    replace bw := bw.trans (b.mono bw.size)
    clear b
    have HCM : Bx (Mi.length ≤ cM) := ⟨io.1⟩
    have HMr := Bx.mk io.reads
    clear io
    obtain ⟨w15, hW⟩ : ∃ w15, w15 = w14.alloc (.cells #[.int .i64 n, .slice AM Mi.length cM] 30) := ⟨_, rfl⟩
    obtain ⟨gm, hg⟩ : ∃ gm, gm = w14.heap.size := ⟨_, rfl⟩
    have b : Below w14.heap.size w14 w15 := by rw [hW]; exact below_alloc _ _
    have kgm0 : w15.cell? ⟨gm, 0, none⟩ = some (.int .i64 n) := by rw [hW, hg]; simp [go_sem]
    have kgm1 : w15.cell? ⟨gm, 1, none⟩ = some (.slice AM Mi.length cM) := by rw [hW, hg]; simp [go_sem]
    have lt_gm : gm < w15.heap.size := by rw [hW, hg]; simp
    replace kga0 := ((bcell b).1 _ _ lt_ga).trans kga0
    replace kga1 := ((bcell b).1 _ _ lt_ga).trans kga1
    replace kgo0 := ((bcell b).1 _ _ lt_go).trans kgo0
    replace kgo1 := ((bcell b).1 _ _ lt_go).trans kgo1
    replace lt_ga := Nat.lt_of_lt_of_le lt_ga b.size
    replace lt_go := Nat.lt_of_lt_of_le lt_go b.size
    replace HA := Bx.mk (HA.out.below b)
    replace HDr := Bx.mk (HDr.out.below b)
    replace HOr := Bx.mk (HOr.out.below b)
    replace HEr := Bx.mk (HEr.out.below b)
    replace HCr := Bx.mk (HCr.out.below b)
    replace HMr := Bx.mk (HMr.out.below b)
    replace bw := bw.trans (b.mono bw.size)
    clear b
    go_upto_region 22 with (fail)
    rw [← hW, ← hg]
    clear hW hg
    obtain ⟨u, hu⟩ : ∃ u : Nat, (n = 1 ∧ u = 1) ∨ (2 ≤ n ∧ u + 1 = n) := by
      by_cases h : n = 1
      · exact ⟨1, .inl ⟨h, rfl⟩⟩
      · exact ⟨n - 1, .inr ⟨by omega, by omega⟩⟩
    obtain ⟨H, hH⟩ : ∃ H, H = stL n a (u : Int) := ⟨_, rfl⟩
    have HST : Bx (∀ A c W, IR W A a → Calls Try.prog 51 #[.agg #[.int .i64 n, .slice A a.length c], .int .i64 u] W (GivesRB W n H true)) := ⟨fun A c W h => by rw [hH]; exact stretch_ok n A c a n u rfl hu W HAOK.out h⟩
    have HHM : Bx (n ≠ 1 → H = Mi) := ⟨fun h => by rw [hH, HMI.out]; exact st_mir (by omega) a⟩
    clear hH
    go_cut [17, 18] (fun p q wx => ∃ gh Ah ch, p = .pointer (some ⟨gh, 0, none⟩) ∧ q = .bool true ∧ Bx (wx.cell? ⟨gh, 0, none⟩ = some (.int .i64 n) ∧ wx.cell? ⟨gh, 1, none⟩ = some (.slice Ah H.length ch) ∧ gh < wx.heap.size ∧ IR wx Ah H ∧ Below w15.heap.size w15 wx))
    case first =>
      obtain ⟨u0, hu0⟩ : ∃ u0 : Nat, u0 = n - 1 := ⟨_, rfl⟩
      have hui : (n : Int) - 1 = (u0 : Int) := by omega
      have hmx : max (1 : Int) (u0 : Int) = (u : Int) := by omega
      clear hu hu0
      go_wp2_with fail
      refine (HST.out _ _ _ (by exact HA.out)).mono ?_
      rintro e wq ⟨Ah, ch, rfl, io, b⟩
      obtain ⟨W3, hW3⟩ : ∃ W3, W3 = wq.alloc (.cells #[.int .i64 n, .slice Ah H.length ch] 30) := ⟨_, rfl⟩
      have b3 : Below wq.heap.size wq W3 := by rw [hW3]; exact below_alloc _ _
      have HF : Bx (W3.cell? ⟨wq.heap.size, 0, none⟩ = some (.int .i64 n) ∧ W3.cell? ⟨wq.heap.size, 1, none⟩ = some (.slice Ah H.length ch) ∧ wq.heap.size < W3.heap.size ∧ IR W3 Ah H ∧ Below w15.heap.size w15 W3) := ⟨by rw [hW3]; simp [go_sem], by rw [hW3]; simp [go_sem], by rw [hW3]; simp, io.reads.below b3, b.trans (b3.mono b.size)⟩
      clear io b b3
      go_wp2_with fail
      rw [← hW3]
      clear hW3
      go_meet
      exact ⟨_, _, _, rfl, rfl, HF⟩
    case rest =>
      obtain ⟨gh, Ah, ch, rfl, rfl, HBW⟩ := hcut
      rename World => wz
      obtain ⟨kgh0, kgh1, lt_gh, hhr, b⟩ := HBW.out
      clear HBW HST hu
      replace kga0 := ((bcell b).1 _ _ lt_ga).trans kga0
      replace kga1 := ((bcell b).1 _ _ lt_ga).trans kga1
      replace kgo0 := ((bcell b).1 _ _ lt_go).trans kgo0
      replace kgo1 := ((bcell b).1 _ _ lt_go).trans kgo1
      replace kgm0 := ((bcell b).1 _ _ lt_gm).trans kgm0
      replace kgm1 := ((bcell b).1 _ _ lt_gm).trans kgm1
      replace lt_ga := Nat.lt_of_lt_of_le lt_ga b.size
      replace lt_go := Nat.lt_of_lt_of_le lt_go b.size
      replace lt_gm := Nat.lt_of_lt_of_le lt_gm b.size
      replace HA := Bx.mk (HA.out.below b)
      replace HDr := Bx.mk (HDr.out.below b)
      replace HOr := Bx.mk (HOr.out.below b)
      replace HEr := Bx.mk (HEr.out.below b)
      replace HCr := Bx.mk (HCr.out.below b)
      replace HMr := Bx.mk (HMr.out.below b)
      replace bw := bw.trans (b.mono bw.size)
      clear b
      have HHr := Bx.mk hhr
      clear hhr
      have HSM : Bx (∀ W, IR W Aa a → IR W AM Mi → Calls Try.prog 48 #[.agg #[.int .i64 n, .slice Aa a.length ca], .agg #[.int .i64 n, .slice AM Mi.length cM]] W fun e w' => e = .returned (.bool true) ∧ Below W.heap.size W w') := ⟨fun W h1 h2 => sameVec_ok n Aa AM ca cM a Mi W HAOK.out HMOK.out HCA.out HCM.out HVM.out h1 h2⟩
      obtain ⟨bf, hbf⟩ : ∃ bf, bf = flatB ((difC n a).drop 1) := ⟨_, rfl⟩
      have HF1 : Bx (∀ A c W, IR W A a → Calls Try.prog 52 #[.agg #[.int .i64 n, .slice A a.length c]] W fun e w' => e = .returned (.bool bf) ∧ Below W.heap.size W w') := ⟨fun A c W h => by rw [hbf]; exact flat_ok n A c a n ⟨rfl⟩ W HAOK.out h⟩
      have HF2 : Bx (∀ A c W, IR W A O → Calls Try.prog 52 #[.agg #[.int .i64 n, .slice A O.length c]] W fun e w' => e = .returned (.bool bf) ∧ Below W.heap.size W w') := ⟨fun A c W h => by rw [hbf, ← flat_oth HAOK.out, ← HOE.out]; exact flat_ok n A c O n ⟨rfl⟩ W HOOK.out h⟩
      have hkw : IntKind.i64.wrap (2 * (a.length : Int)) = 2 * (a.length : Int) := IntWalk.i64_in _ (by omega)
      clear hbf
      by_cases hn : n = 1
      · subst hn
        have h2k : ((2 * (a.length : Int)) != 1) = true := by rw [bne_iff_ne]; omega
        go_upto_region 23 with (fail)
        have hB : Bx (Below wz.heap.size wz wz.drew) := ⟨(Below.refl _ _).drew⟩
        have hB0 : Bx (Below wz.heap.size wz wz) := ⟨Below.refl _ _⟩
        have kga0_d : wz.drew.cell? _ = _ := kga0
        have kga1_d : wz.drew.cell? _ = _ := kga1
        have kgm0_d : wz.drew.cell? _ = _ := kgm0
        have kgm1_d : wz.drew.cell? _ = _ := kgm1
        have kgh0_d : wz.drew.cell? _ = _ := kgh0
        have kgh1_d : wz.drew.cell? _ = _ := kgh1
        have kgo0_d : wz.drew.cell? _ = _ := kgo0
        have kgo1_d : wz.drew.cell? _ = _ := kgo1
        refine wp_region_held_drew (S := fun w' => w'.cell? ⟨ga, 0, none⟩ = some (.int .i64 (1 : Nat)) ∧ w'.cell? ⟨ga, 1, none⟩ = some (.slice Aa a.length ca) ∧ w'.cell? ⟨gm, 0, none⟩ = some (.int .i64 (1 : Nat)) ∧ w'.cell? ⟨gm, 1, none⟩ = some (.slice AM Mi.length cM) ∧ w'.cell? ⟨gh, 0, none⟩ = some (.int .i64 (1 : Nat)) ∧ w'.cell? ⟨gh, 1, none⟩ = some (.slice Ah H.length ch) ∧ w'.cell? ⟨go, 0, none⟩ = some (.int .i64 (1 : Nat)) ∧ w'.cell? ⟨go, 1, none⟩ = some (.slice AO O.length cO) ∧ Bx (Below wz.heap.size wz w')) (by kernel_rfl) ?hS2000 (fun hHeld => ?rest2000)
        case hS2000 => (try dsimp only); (refine (fun (hK : Bx (Below wz.heap.size wz _)) => ⟨((bcell hK.out).1 _ _ lt_ga).trans kga0, ((bcell hK.out).1 _ _ lt_ga).trans kga1, ((bcell hK.out).1 _ _ lt_gm).trans kgm0, ((bcell hK.out).1 _ _ lt_gm).trans kgm1, ((bcell hK.out).1 _ _ lt_gh).trans kgh0, ((bcell hK.out).1 _ _ lt_gh).trans kgh1, ((bcell hK.out).1 _ _ lt_go).trans kgo0, ((bcell hK.out).1 _ _ lt_go).trans kgo1, hK⟩) ?_; (first | with_reducible assumption | with_reducible exact bx_alloc (by with_reducible assumption) _ | with_reducible exact bx_drew (by with_reducible assumption) | with_reducible exact bx_drew (bx_alloc (by with_reducible assumption) _)))
        case rest2000 =>
        refine wpAnyH_take (i := 0) (v := ?v2001) (at_list rfl) (by kernel_rfl) (by kernel_rfl) (by kernel_rfl) (fun _ _ _ h => h) (Or.inl ⟨by rfl, ?hy2001⟩) (by assumption) ?rest2001
        case hy2001 => intro w hSw; (try dsimp only at hSw); go_simp; try (with_reducible rfl)
        case rest2001 =>
        try simp only [Act.put, List.setIfInBounds_toArray, List.set_cons_zero, List.set_cons_succ]
        refine wpAnyH_take (i := 1) (v := ?v2002) (at_list rfl) (by kernel_rfl) (by kernel_rfl) (by kernel_rfl) (fun _ _ _ h => h) (Or.inl ⟨by rfl, ?hy2002⟩) (by assumption) ?rest2002
        case hy2002 => intro w hSw; (try dsimp only at hSw); go_simp; try (with_reducible rfl)
        case rest2002 =>
        try simp only [Act.put, List.setIfInBounds_toArray, List.set_cons_zero, List.set_cons_succ]
        refine wpAnyH_ready (rs := [2]) (by kernel_rfl) (by simp) ?_
        refine AllReadyH.cons (at_list rfl) (fun K hK => ?_) AllReadyH.nil
        go_simp
        go_at_call 48; refine (HSM.out _ (by exact HA.out.below (Bx.out (by (first | with_reducible assumption | with_reducible exact bx_alloc (by with_reducible assumption) _ | with_reducible exact bx_drew (by with_reducible assumption) | with_reducible exact bx_drew (bx_alloc (by with_reducible assumption) _))))) (by exact HMr.out.below (Bx.out (by (first | with_reducible assumption | with_reducible exact bx_alloc (by with_reducible assumption) _ | with_reducible exact bx_drew (by with_reducible assumption) | with_reducible exact bx_drew (bx_alloc (by with_reducible assumption) _)))))).mono ?_; rintro e w16 ⟨rfl, bw16⟩; have hBw16 : Bx (Below wz.heap.size wz w16) := bx_to (by (first | with_reducible assumption | with_reducible exact bx_alloc (by with_reducible assumption) _ | with_reducible exact bx_drew (by with_reducible assumption) | with_reducible exact bx_drew (bx_alloc (by with_reducible assumption) _))) bw16; have hzw16 := bx_size hBw16; have kga0_w16 := ((bcell hBw16.out).1 _ _ lt_ga).trans kga0; have kga1_w16 := ((bcell hBw16.out).1 _ _ lt_ga).trans kga1; have kgm0_w16 := ((bcell hBw16.out).1 _ _ lt_gm).trans kgm0; have kgm1_w16 := ((bcell hBw16.out).1 _ _ lt_gm).trans kgm1; have kgh0_w16 := ((bcell hBw16.out).1 _ _ lt_gh).trans kgh0; have kgh1_w16 := ((bcell hBw16.out).1 _ _ lt_gh).trans kgh1; have kgo0_w16 := ((bcell hBw16.out).1 _ _ lt_go).trans kgo0; have kgo1_w16 := ((bcell hBw16.out).1 _ _ lt_go).trans kgo1
        refine hK.out _ _ ?hS2003 (fun hHeld => ?rest2003)
        case hS2003 => (try dsimp only); (refine (fun (hK : Bx (Below wz.heap.size wz _)) => ⟨((bcell hK.out).1 _ _ lt_ga).trans kga0, ((bcell hK.out).1 _ _ lt_ga).trans kga1, ((bcell hK.out).1 _ _ lt_gm).trans kgm0, ((bcell hK.out).1 _ _ lt_gm).trans kgm1, ((bcell hK.out).1 _ _ lt_gh).trans kgh0, ((bcell hK.out).1 _ _ lt_gh).trans kgh1, ((bcell hK.out).1 _ _ lt_go).trans kgo0, ((bcell hK.out).1 _ _ lt_go).trans kgo1, hK⟩) ?_; (first | with_reducible assumption | with_reducible exact bx_alloc (by with_reducible assumption) _ | with_reducible exact bx_drew (by with_reducible assumption) | with_reducible exact bx_drew (bx_alloc (by with_reducible assumption) _)))
        case rest2003 =>
        clear hK K
        try simp only [Act.put, List.setIfInBounds_toArray, List.set_cons_zero, List.set_cons_succ]
        refine wpAnyH_take (i := 3) (v := ?v2004) (at_list rfl) (by kernel_rfl) (by kernel_rfl) (by kernel_rfl) (fun _ _ _ h => h) (Or.inl ⟨by rfl, ?hy2004⟩) (by assumption) ?rest2004
        case hy2004 => intro w hSw; (try dsimp only at hSw); go_simp; try (with_reducible rfl)
        case rest2004 =>
        try simp only [Act.put, List.setIfInBounds_toArray, List.set_cons_zero, List.set_cons_succ]
        refine wpAnyH_take (i := 4) (v := ?v2005) (at_list rfl) (by kernel_rfl) (by kernel_rfl) (by kernel_rfl) (fun _ _ _ h => h) (Or.inl ⟨by rfl, ?hy2005⟩) (by assumption) ?rest2005
        case hy2005 => intro w hSw; (try dsimp only at hSw); go_simp; try (with_reducible rfl)
        case rest2005 =>
        try simp only [Act.put, List.setIfInBounds_toArray, List.set_cons_zero, List.set_cons_succ]
        refine wpAnyH_take (i := 5) (v := .bool true) (at_list rfl) (by kernel_rfl) (by kernel_rfl) (by kernel_rfl) (fun _ _ _ h => h) (Or.inl ⟨by rfl, ?hy2006⟩) (by assumption) ?rest2006
        case hy2006 => intro w hSw; (try dsimp only at hSw); go_simp; try (with_reducible rfl)
        case rest2006 =>
        try simp only [Act.put, List.setIfInBounds_toArray, List.set_cons_zero, List.set_cons_succ]
        refine wpAnyH_take (i := 6) (v := ?v2007) (at_list rfl) (by kernel_rfl) (by kernel_rfl) (by kernel_rfl) (fun _ _ _ h => h) (Or.inl ⟨by rfl, ?hy2007⟩) (by assumption) ?rest2007
        case hy2007 => intro w hSw; (try dsimp only at hSw); go_simp; try (with_reducible rfl)
        case rest2007 =>
        try simp only [Act.put, List.setIfInBounds_toArray, List.set_cons_zero, List.set_cons_succ]
        refine wpAnyH_take (i := 7) (v := undef) (at_list rfl) (by kernel_rfl) (by kernel_rfl) (by kernel_rfl) (fun _ _ _ h => h) (Or.inr ⟨by rfl, rfl⟩) (by assumption) ?rest2008
        case rest2008 =>
        try simp only [Act.put, List.setIfInBounds_toArray, List.set_cons_zero, List.set_cons_succ]
        refine wpAnyH_take (i := 8) (v := undef) (at_list rfl) (by kernel_rfl) (by kernel_rfl) (by kernel_rfl) (fun _ _ _ h => h) (Or.inr ⟨by rfl, rfl⟩) (by assumption) ?rest2009
        case rest2009 =>
        try simp only [Act.put, List.setIfInBounds_toArray, List.set_cons_zero, List.set_cons_succ]
        refine wpAnyH_take (i := 9) (v := undef) (at_list rfl) (by kernel_rfl) (by kernel_rfl) (by kernel_rfl) (fun _ _ _ h => h) (Or.inr ⟨by rfl, rfl⟩) (by assumption) ?rest2010
        case rest2010 =>
        try simp only [Act.put, List.setIfInBounds_toArray, List.set_cons_zero, List.set_cons_succ]
        refine wpAnyH_take (i := 10) (v := undef) (at_list rfl) (by kernel_rfl) (by kernel_rfl) (by kernel_rfl) (fun _ _ _ h => h) (Or.inr ⟨by rfl, rfl⟩) (by assumption) ?rest2011
        case rest2011 =>
        try simp only [Act.put, List.setIfInBounds_toArray, List.set_cons_zero, List.set_cons_succ]
        refine wpAnyH_take (i := 11) (v := undef) (at_list rfl) (by kernel_rfl) (by kernel_rfl) (by kernel_rfl) (fun _ _ _ h => h) (Or.inr ⟨by rfl, rfl⟩) (by assumption) ?rest2012
        case rest2012 =>
        try simp only [Act.put, List.setIfInBounds_toArray, List.set_cons_zero, List.set_cons_succ]
        refine wpAnyH_take (i := 12) (v := undef) (at_list rfl) (by kernel_rfl) (by kernel_rfl) (by kernel_rfl) (fun _ _ _ h => h) (Or.inr ⟨by rfl, rfl⟩) (by assumption) ?rest2013
        case rest2013 =>
        try simp only [Act.put, List.setIfInBounds_toArray, List.set_cons_zero, List.set_cons_succ]
        refine wpAnyH_take (i := 13) (v := ?v2014) (at_list rfl) (by kernel_rfl) (by kernel_rfl) (by kernel_rfl) (fun _ _ _ h => h) (Or.inl ⟨by rfl, ?hy2014⟩) (by assumption) ?rest2014
        case hy2014 => intro w hSw; (try dsimp only at hSw); go_simp; try (with_reducible rfl)
        case rest2014 =>
        try simp only [Act.put, List.setIfInBounds_toArray, List.set_cons_zero, List.set_cons_succ]
        refine wpAnyH_take (i := 14) (v := ?v2015) (at_list rfl) (by kernel_rfl) (by kernel_rfl) (by kernel_rfl) (fun _ _ _ h => h) (Or.inl ⟨by rfl, ?hy2015⟩) (by assumption) ?rest2015
        case hy2015 => intro w hSw; (try dsimp only at hSw); go_simp; try (with_reducible rfl)
        case rest2015 =>
        try simp only [Act.put, List.setIfInBounds_toArray, List.set_cons_zero, List.set_cons_succ]
        refine wpAnyH_take (i := 15) (v := ?v2016) (at_list rfl) (by kernel_rfl) (by kernel_rfl) (by kernel_rfl) (fun _ _ _ h => h) (Or.inl ⟨by rfl, ?hy2016⟩) (by assumption) ?rest2016
        case hy2016 => intro w hSw; (try dsimp only at hSw); go_simp; try (with_reducible rfl)
        case rest2016 =>
        try simp only [Act.put, List.setIfInBounds_toArray, List.set_cons_zero, List.set_cons_succ]
        refine wpAnyH_take (i := 16) (v := ?v2017) (at_list rfl) (by kernel_rfl) (by kernel_rfl) (by kernel_rfl) (fun _ _ _ h => h) (Or.inl ⟨by rfl, ?hy2017⟩) (by assumption) ?rest2017
        case hy2017 => intro w hSw; (try dsimp only at hSw); go_simp; try (with_reducible rfl)
        case rest2017 =>
        try simp only [Act.put, List.setIfInBounds_toArray, List.set_cons_zero, List.set_cons_succ]
        refine wpAnyH_take (i := 17) (v := .int .i64 (2 * (a.length : Int))) (at_list rfl) (by kernel_rfl) (by kernel_rfl) (by kernel_rfl) (fun _ _ _ h => h) (Or.inl ⟨by rfl, ?hy2018⟩) (by assumption) ?rest2018
        case hy2018 => intro w hSw; (try dsimp only at hSw); go_simp; try (with_reducible rfl)
        case rest2018 =>
        try simp only [Act.put, List.setIfInBounds_toArray, List.set_cons_zero, List.set_cons_succ]
        refine wpAnyH_take (i := 18) (v := ?v2019) (at_list rfl) (by kernel_rfl) (by kernel_rfl) (by kernel_rfl) (fun _ _ _ h => h) (Or.inl ⟨by rfl, ?hy2019⟩) (by assumption) ?rest2019
        case hy2019 => intro w hSw; (try dsimp only at hSw); go_simp; try (with_reducible rfl)
        case rest2019 =>
        try simp only [Act.put, List.setIfInBounds_toArray, List.set_cons_zero, List.set_cons_succ]
        refine wpAnyH_take (i := 19) (v := .bool true) (at_list rfl) (by kernel_rfl) (by kernel_rfl) (by kernel_rfl) (fun _ _ _ h => h) (Or.inl ⟨by rfl, ?hy2020⟩) (by assumption) ?rest2020
        case hy2020 => intro w hSw; (try dsimp only at hSw); go_simp; try (with_reducible rfl)
        case rest2020 =>
        try simp only [Act.put, List.setIfInBounds_toArray, List.set_cons_zero, List.set_cons_succ]
        refine wpAnyH_take (i := 20) (v := ?v2021) (at_list rfl) (by kernel_rfl) (by kernel_rfl) (by kernel_rfl) (fun _ _ _ h => h) (Or.inl ⟨by rfl, ?hy2021⟩) (by assumption) ?rest2021
        case hy2021 => intro w hSw; (try dsimp only at hSw); go_simp; try (with_reducible rfl)
        case rest2021 =>
        try simp only [Act.put, List.setIfInBounds_toArray, List.set_cons_zero, List.set_cons_succ]
        refine wpAnyH_take (i := 21) (v := undef) (at_list rfl) (by kernel_rfl) (by kernel_rfl) (by kernel_rfl) (fun _ _ _ h => h) (Or.inr ⟨by rfl, rfl⟩) (by assumption) ?rest2022
        case rest2022 =>
        try simp only [Act.put, List.setIfInBounds_toArray, List.set_cons_zero, List.set_cons_succ]
        refine wpAnyH_take (i := 22) (v := undef) (at_list rfl) (by kernel_rfl) (by kernel_rfl) (by kernel_rfl) (fun _ _ _ h => h) (Or.inr ⟨by rfl, rfl⟩) (by assumption) ?rest2023
        case rest2023 =>
        try simp only [Act.put, List.setIfInBounds_toArray, List.set_cons_zero, List.set_cons_succ]
        refine wpAnyH_take (i := 23) (v := undef) (at_list rfl) (by kernel_rfl) (by kernel_rfl) (by kernel_rfl) (fun _ _ _ h => h) (Or.inr ⟨by rfl, rfl⟩) (by assumption) ?rest2024
        case rest2024 =>
        try simp only [Act.put, List.setIfInBounds_toArray, List.set_cons_zero, List.set_cons_succ]
        refine wpAnyH_take (i := 24) (v := ?v2025) (at_list rfl) (by kernel_rfl) (by kernel_rfl) (by kernel_rfl) (fun _ _ _ h => h) (Or.inl ⟨by rfl, ?hy2025⟩) (by assumption) ?rest2025
        case hy2025 => intro w hSw; (try dsimp only at hSw); go_simp; try (with_reducible rfl)
        case rest2025 =>
        try simp only [Act.put, List.setIfInBounds_toArray, List.set_cons_zero, List.set_cons_succ]
        refine wpAnyH_take (i := 25) (v := ?v2026) (at_list rfl) (by kernel_rfl) (by kernel_rfl) (by kernel_rfl) (fun _ _ _ h => h) (Or.inl ⟨by rfl, ?hy2026⟩) (by assumption) ?rest2026
        case hy2026 => intro w hSw; (try dsimp only at hSw); go_simp; try (with_reducible rfl)
        case rest2026 =>
        try simp only [Act.put, List.setIfInBounds_toArray, List.set_cons_zero, List.set_cons_succ]
        refine wpAnyH_take (i := 26) (v := ?v2027) (at_list rfl) (by kernel_rfl) (by kernel_rfl) (by kernel_rfl) (fun _ _ _ h => h) (Or.inl ⟨by rfl, ?hy2027⟩) (by assumption) ?rest2027
        case hy2027 => intro w hSw; (try dsimp only at hSw); go_simp; try (with_reducible rfl)
        case rest2027 =>
        try simp only [Act.put, List.setIfInBounds_toArray, List.set_cons_zero, List.set_cons_succ]
        refine wpAnyH_take (i := 27) (v := ?v2028) (at_list rfl) (by kernel_rfl) (by kernel_rfl) (by kernel_rfl) (fun _ _ _ h => h) (Or.inl ⟨by rfl, ?hy2028⟩) (by assumption) ?rest2028
        case hy2028 => intro w hSw; (try dsimp only at hSw); go_simp; try (with_reducible rfl)
        case rest2028 =>
        try simp only [Act.put, List.setIfInBounds_toArray, List.set_cons_zero, List.set_cons_succ]
        refine wpAnyH_take (i := 29) (v := ?v2029) (at_list rfl) (by kernel_rfl) (by kernel_rfl) (by kernel_rfl) (fun _ _ _ h => h) (Or.inl ⟨by rfl, ?hy2029⟩) (by assumption) ?rest2029
        case hy2029 => intro w hSw; (try dsimp only at hSw); go_simp; try (with_reducible rfl)
        case rest2029 =>
        try simp only [Act.put, List.setIfInBounds_toArray, List.set_cons_zero, List.set_cons_succ]
        refine wpAnyH_ready (rs := [28]) (by kernel_rfl) (by simp) ?_
        refine AllReadyH.cons (at_list rfl) (fun K hK => ?_) AllReadyH.nil
        go_simp
        go_at_call 52; refine (HF1.out _ _ _ (by exact HA.out.below (Bx.out (by (first | with_reducible assumption | with_reducible exact bx_alloc (by with_reducible assumption) _ | with_reducible exact bx_drew (by with_reducible assumption) | with_reducible exact bx_drew (bx_alloc (by with_reducible assumption) _)))))).mono ?_; rintro e w17 ⟨rfl, bw17⟩; have hBw17 : Bx (Below wz.heap.size wz w17) := bx_to (by (first | with_reducible assumption | with_reducible exact bx_alloc (by with_reducible assumption) _ | with_reducible exact bx_drew (by with_reducible assumption) | with_reducible exact bx_drew (bx_alloc (by with_reducible assumption) _))) bw17; have hzw17 := bx_size hBw17; have kga0_w17 := ((bcell hBw17.out).1 _ _ lt_ga).trans kga0; have kga1_w17 := ((bcell hBw17.out).1 _ _ lt_ga).trans kga1; have kgm0_w17 := ((bcell hBw17.out).1 _ _ lt_gm).trans kgm0; have kgm1_w17 := ((bcell hBw17.out).1 _ _ lt_gm).trans kgm1; have kgh0_w17 := ((bcell hBw17.out).1 _ _ lt_gh).trans kgh0; have kgh1_w17 := ((bcell hBw17.out).1 _ _ lt_gh).trans kgh1; have kgo0_w17 := ((bcell hBw17.out).1 _ _ lt_go).trans kgo0; have kgo1_w17 := ((bcell hBw17.out).1 _ _ lt_go).trans kgo1
        refine hK.out _ _ ?hS2030 (fun hHeld => ?rest2030)
        case hS2030 => (try dsimp only); (refine (fun (hK : Bx (Below wz.heap.size wz _)) => ⟨((bcell hK.out).1 _ _ lt_ga).trans kga0, ((bcell hK.out).1 _ _ lt_ga).trans kga1, ((bcell hK.out).1 _ _ lt_gm).trans kgm0, ((bcell hK.out).1 _ _ lt_gm).trans kgm1, ((bcell hK.out).1 _ _ lt_gh).trans kgh0, ((bcell hK.out).1 _ _ lt_gh).trans kgh1, ((bcell hK.out).1 _ _ lt_go).trans kgo0, ((bcell hK.out).1 _ _ lt_go).trans kgo1, hK⟩) ?_; (first | with_reducible assumption | with_reducible exact bx_alloc (by with_reducible assumption) _ | with_reducible exact bx_drew (by with_reducible assumption) | with_reducible exact bx_drew (bx_alloc (by with_reducible assumption) _)))
        case rest2030 =>
        clear hK K
        try simp only [Act.put, List.setIfInBounds_toArray, List.set_cons_zero, List.set_cons_succ]
        refine wpAnyH_ready (rs := [30]) (by kernel_rfl) (by simp) ?_
        refine AllReadyH.cons (at_list rfl) (fun K hK => ?_) AllReadyH.nil
        go_simp
        go_at_call 52; refine (HF2.out _ _ _ (by exact HOr.out.below (Bx.out (by (first | with_reducible assumption | with_reducible exact bx_alloc (by with_reducible assumption) _ | with_reducible exact bx_drew (by with_reducible assumption) | with_reducible exact bx_drew (bx_alloc (by with_reducible assumption) _)))))).mono ?_; rintro e w18 ⟨rfl, bw18⟩; have hBw18 : Bx (Below wz.heap.size wz w18) := bx_to (by (first | with_reducible assumption | with_reducible exact bx_alloc (by with_reducible assumption) _ | with_reducible exact bx_drew (by with_reducible assumption) | with_reducible exact bx_drew (bx_alloc (by with_reducible assumption) _))) bw18; have hzw18 := bx_size hBw18; have kga0_w18 := ((bcell hBw18.out).1 _ _ lt_ga).trans kga0; have kga1_w18 := ((bcell hBw18.out).1 _ _ lt_ga).trans kga1; have kgm0_w18 := ((bcell hBw18.out).1 _ _ lt_gm).trans kgm0; have kgm1_w18 := ((bcell hBw18.out).1 _ _ lt_gm).trans kgm1; have kgh0_w18 := ((bcell hBw18.out).1 _ _ lt_gh).trans kgh0; have kgh1_w18 := ((bcell hBw18.out).1 _ _ lt_gh).trans kgh1; have kgo0_w18 := ((bcell hBw18.out).1 _ _ lt_go).trans kgo0; have kgo1_w18 := ((bcell hBw18.out).1 _ _ lt_go).trans kgo1
        refine hK.out _ _ ?hS2031 (fun hHeld => ?rest2031)
        case hS2031 => (try dsimp only); (refine (fun (hK : Bx (Below wz.heap.size wz _)) => ⟨((bcell hK.out).1 _ _ lt_ga).trans kga0, ((bcell hK.out).1 _ _ lt_ga).trans kga1, ((bcell hK.out).1 _ _ lt_gm).trans kgm0, ((bcell hK.out).1 _ _ lt_gm).trans kgm1, ((bcell hK.out).1 _ _ lt_gh).trans kgh0, ((bcell hK.out).1 _ _ lt_gh).trans kgh1, ((bcell hK.out).1 _ _ lt_go).trans kgo0, ((bcell hK.out).1 _ _ lt_go).trans kgo1, hK⟩) ?_; (first | with_reducible assumption | with_reducible exact bx_alloc (by with_reducible assumption) _ | with_reducible exact bx_drew (by with_reducible assumption) | with_reducible exact bx_drew (bx_alloc (by with_reducible assumption) _)))
        case rest2031 =>
        clear hK K
        try simp only [Act.put, List.setIfInBounds_toArray, List.set_cons_zero, List.set_cons_succ]
        refine wpAnyH_take (i := 31) (v := ?v2032) (at_list rfl) (by kernel_rfl) (by kernel_rfl) (by kernel_rfl) (fun _ _ _ h => h) (Or.inl ⟨by rfl, ?hy2032⟩) (by assumption) ?rest2032
        case hy2032 => intro w hSw; (try dsimp only at hSw); go_simp; try (with_reducible rfl)
        case rest2032 =>
        try simp only [Act.put, List.setIfInBounds_toArray, List.set_cons_zero, List.set_cons_succ]
        refine wpAnyH_take (i := 32) (v := ?v2033) (at_list rfl) (by kernel_rfl) (by kernel_rfl) (by kernel_rfl) (fun _ _ _ h => h) (Or.inl ⟨by rfl, ?hy2033⟩) (by assumption) ?rest2033
        case hy2033 => intro w hSw; (try dsimp only at hSw); go_simp; try (with_reducible rfl)
        case rest2033 =>
        try simp only [Act.put, List.setIfInBounds_toArray, List.set_cons_zero, List.set_cons_succ]
        refine wpAnyH_ready (rs := [33]) (by kernel_rfl) (by simp) ?_
        refine AllReadyH.cons (at_list rfl) (fun K hK => ?_) AllReadyH.nil
        go_simp
        refine hK.out _ _ ?hS2034 (fun hHeld => ?rest2034)
        case hS2034 => (try dsimp only); (refine (fun (hK : Bx (Below wz.heap.size wz _)) => ⟨((bcell hK.out).1 _ _ lt_ga).trans kga0, ((bcell hK.out).1 _ _ lt_ga).trans kga1, ((bcell hK.out).1 _ _ lt_gm).trans kgm0, ((bcell hK.out).1 _ _ lt_gm).trans kgm1, ((bcell hK.out).1 _ _ lt_gh).trans kgh0, ((bcell hK.out).1 _ _ lt_gh).trans kgh1, ((bcell hK.out).1 _ _ lt_go).trans kgo0, ((bcell hK.out).1 _ _ lt_go).trans kgo1, hK⟩) ?_; (first | with_reducible assumption | with_reducible exact bx_alloc (by with_reducible assumption) _ | with_reducible exact bx_drew (by with_reducible assumption) | with_reducible exact bx_drew (bx_alloc (by with_reducible assumption) _)))
        case rest2034 =>
        clear hK K
        try simp only [Act.put, List.setIfInBounds_toArray, List.set_cons_zero, List.set_cons_succ]
        refine wpAnyH_done (by kernel_rfl) ?_ _
        have b := hBw18.out
        replace kga0 := ((bcell b).1 _ _ lt_ga).trans kga0
        replace kga1 := ((bcell b).1 _ _ lt_ga).trans kga1
        replace kgo0 := ((bcell b).1 _ _ lt_go).trans kgo0
        replace kgo1 := ((bcell b).1 _ _ lt_go).trans kgo1
        replace kgm0 := ((bcell b).1 _ _ lt_gm).trans kgm0
        replace kgm1 := ((bcell b).1 _ _ lt_gm).trans kgm1
        replace kgh0 := ((bcell b).1 _ _ lt_gh).trans kgh0
        replace kgh1 := ((bcell b).1 _ _ lt_gh).trans kgh1
        replace lt_ga := Nat.lt_of_lt_of_le lt_ga b.size
        replace lt_go := Nat.lt_of_lt_of_le lt_go b.size
        replace lt_gm := Nat.lt_of_lt_of_le lt_gm b.size
        replace lt_gh := Nat.lt_of_lt_of_le lt_gh b.size
        replace HA := Bx.mk (HA.out.below b)
        replace HDr := Bx.mk (HDr.out.below b)
        replace HOr := Bx.mk (HOr.out.below b)
        replace HEr := Bx.mk (HEr.out.below b)
        replace HCr := Bx.mk (HCr.out.below b)
        replace HMr := Bx.mk (HMr.out.below b)
        replace HHr := Bx.mk (HHr.out.below b)
        replace bw := bw.trans (b.mono bw.size)
        clear b
        go_wp2_with fail
        go_ret
        exact ⟨rfl, bw⟩
      have hnb : (((n : Nat) : Int) == 1) = false := by rw [beq_eq_false_iff_ne]; omega
      have HHE := HHM.out hn
      have HRH : Bx (∀ A B c d W, IR W A H → IR W B Mi → Calls Try.prog 39 #[.agg #[.int .i64 n, .slice A H.length c], .agg #[.int .i64 n, .slice B Mi.length d]] W fun e w' => e = .returned (.bool true) ∧ Below W.heap.size W w') := ⟨fun A B c d W h1 h2 => by
        have := lawRhythms_any n n A B c d H Mi W h1 h2
        rw [HHE] at this ⊢
        simpa using this⟩
      clear HHM HHE hn
      by_cases h2 : 2 * a.length = n
      · skip
        have h2k : ((2 * (a.length : Int)) != (n : Int)) = false := by rw [bne_eq_false_iff_eq]; omega
        have HSO : Bx (∀ W, IR W Aa a → IR W AO O → Calls Try.prog 48 #[.agg #[.int .i64 n, .slice Aa a.length ca], .agg #[.int .i64 n, .slice AO O.length cO]] W fun e w' => e = .returned (.bool true) ∧ Below W.heap.size W w') := ⟨fun W h1 h2' => sameVec_ok n Aa AO ca cO a O W HAOK.out HOOK.out HCA.out HCO.out (vec_same HAOK.out HOOK.out fun i' hi' => by
          have := df_oth HAOK.out hi'
          rw [← HOE.out] at this
          omega) h1 h2'⟩
        clear h2
        go_upto_region 23 with (fail)
        have hB : Bx (Below wz.heap.size wz wz.drew) := ⟨(Below.refl _ _).drew⟩
        have hB0 : Bx (Below wz.heap.size wz wz) := ⟨Below.refl _ _⟩
        have kga0_d : wz.drew.cell? _ = _ := kga0
        have kga1_d : wz.drew.cell? _ = _ := kga1
        have kgm0_d : wz.drew.cell? _ = _ := kgm0
        have kgm1_d : wz.drew.cell? _ = _ := kgm1
        have kgh0_d : wz.drew.cell? _ = _ := kgh0
        have kgh1_d : wz.drew.cell? _ = _ := kgh1
        have kgo0_d : wz.drew.cell? _ = _ := kgo0
        have kgo1_d : wz.drew.cell? _ = _ := kgo1
        refine wp_region_held_drew (S := fun w' => w'.cell? ⟨ga, 0, none⟩ = some (.int .i64 n) ∧ w'.cell? ⟨ga, 1, none⟩ = some (.slice Aa a.length ca) ∧ w'.cell? ⟨gm, 0, none⟩ = some (.int .i64 n) ∧ w'.cell? ⟨gm, 1, none⟩ = some (.slice AM Mi.length cM) ∧ w'.cell? ⟨gh, 0, none⟩ = some (.int .i64 n) ∧ w'.cell? ⟨gh, 1, none⟩ = some (.slice Ah H.length ch) ∧ w'.cell? ⟨go, 0, none⟩ = some (.int .i64 n) ∧ w'.cell? ⟨go, 1, none⟩ = some (.slice AO O.length cO) ∧ Bx (Below wz.heap.size wz w')) (by kernel_rfl) ?hS3000 (fun hHeld => ?rest3000)
        case hS3000 => (try dsimp only); (refine (fun (hK : Bx (Below wz.heap.size wz _)) => ⟨((bcell hK.out).1 _ _ lt_ga).trans kga0, ((bcell hK.out).1 _ _ lt_ga).trans kga1, ((bcell hK.out).1 _ _ lt_gm).trans kgm0, ((bcell hK.out).1 _ _ lt_gm).trans kgm1, ((bcell hK.out).1 _ _ lt_gh).trans kgh0, ((bcell hK.out).1 _ _ lt_gh).trans kgh1, ((bcell hK.out).1 _ _ lt_go).trans kgo0, ((bcell hK.out).1 _ _ lt_go).trans kgo1, hK⟩) ?_; (first | with_reducible assumption | with_reducible exact bx_alloc (by with_reducible assumption) _ | with_reducible exact bx_drew (by with_reducible assumption) | with_reducible exact bx_drew (bx_alloc (by with_reducible assumption) _)))
        case rest3000 =>
        refine wpAnyH_take (i := 0) (v := ?v3001) (at_list rfl) (by kernel_rfl) (by kernel_rfl) (by kernel_rfl) (fun _ _ _ h => h) (Or.inl ⟨by rfl, ?hy3001⟩) (by assumption) ?rest3001
        case hy3001 => intro w hSw; (try dsimp only at hSw); go_simp; try (with_reducible rfl)
        case rest3001 =>
        try simp only [Act.put, List.setIfInBounds_toArray, List.set_cons_zero, List.set_cons_succ]
        refine wpAnyH_take (i := 1) (v := ?v3002) (at_list rfl) (by kernel_rfl) (by kernel_rfl) (by kernel_rfl) (fun _ _ _ h => h) (Or.inl ⟨by rfl, ?hy3002⟩) (by assumption) ?rest3002
        case hy3002 => intro w hSw; (try dsimp only at hSw); go_simp; try (with_reducible rfl)
        case rest3002 =>
        try simp only [Act.put, List.setIfInBounds_toArray, List.set_cons_zero, List.set_cons_succ]
        refine wpAnyH_ready (rs := [2]) (by kernel_rfl) (by simp) ?_
        refine AllReadyH.cons (at_list rfl) (fun K hK => ?_) AllReadyH.nil
        go_simp
        go_at_call 48; refine (HSM.out _ (by exact HA.out.below (Bx.out (by (first | with_reducible assumption | with_reducible exact bx_alloc (by with_reducible assumption) _ | with_reducible exact bx_drew (by with_reducible assumption) | with_reducible exact bx_drew (bx_alloc (by with_reducible assumption) _))))) (by exact HMr.out.below (Bx.out (by (first | with_reducible assumption | with_reducible exact bx_alloc (by with_reducible assumption) _ | with_reducible exact bx_drew (by with_reducible assumption) | with_reducible exact bx_drew (bx_alloc (by with_reducible assumption) _)))))).mono ?_; rintro e w19 ⟨rfl, bw19⟩; have hBw19 : Bx (Below wz.heap.size wz w19) := bx_to (by (first | with_reducible assumption | with_reducible exact bx_alloc (by with_reducible assumption) _ | with_reducible exact bx_drew (by with_reducible assumption) | with_reducible exact bx_drew (bx_alloc (by with_reducible assumption) _))) bw19; have hzw19 := bx_size hBw19; have kga0_w19 := ((bcell hBw19.out).1 _ _ lt_ga).trans kga0; have kga1_w19 := ((bcell hBw19.out).1 _ _ lt_ga).trans kga1; have kgm0_w19 := ((bcell hBw19.out).1 _ _ lt_gm).trans kgm0; have kgm1_w19 := ((bcell hBw19.out).1 _ _ lt_gm).trans kgm1; have kgh0_w19 := ((bcell hBw19.out).1 _ _ lt_gh).trans kgh0; have kgh1_w19 := ((bcell hBw19.out).1 _ _ lt_gh).trans kgh1; have kgo0_w19 := ((bcell hBw19.out).1 _ _ lt_go).trans kgo0; have kgo1_w19 := ((bcell hBw19.out).1 _ _ lt_go).trans kgo1
        refine hK.out _ _ ?hS3003 (fun hHeld => ?rest3003)
        case hS3003 => (try dsimp only); (refine (fun (hK : Bx (Below wz.heap.size wz _)) => ⟨((bcell hK.out).1 _ _ lt_ga).trans kga0, ((bcell hK.out).1 _ _ lt_ga).trans kga1, ((bcell hK.out).1 _ _ lt_gm).trans kgm0, ((bcell hK.out).1 _ _ lt_gm).trans kgm1, ((bcell hK.out).1 _ _ lt_gh).trans kgh0, ((bcell hK.out).1 _ _ lt_gh).trans kgh1, ((bcell hK.out).1 _ _ lt_go).trans kgo0, ((bcell hK.out).1 _ _ lt_go).trans kgo1, hK⟩) ?_; (first | with_reducible assumption | with_reducible exact bx_alloc (by with_reducible assumption) _ | with_reducible exact bx_drew (by with_reducible assumption) | with_reducible exact bx_drew (bx_alloc (by with_reducible assumption) _)))
        case rest3003 =>
        clear hK K
        try simp only [Act.put, List.setIfInBounds_toArray, List.set_cons_zero, List.set_cons_succ]
        refine wpAnyH_take (i := 3) (v := ?v3004) (at_list rfl) (by kernel_rfl) (by kernel_rfl) (by kernel_rfl) (fun _ _ _ h => h) (Or.inl ⟨by rfl, ?hy3004⟩) (by assumption) ?rest3004
        case hy3004 => intro w hSw; (try dsimp only at hSw); go_simp; try (with_reducible rfl)
        case rest3004 =>
        try simp only [Act.put, List.setIfInBounds_toArray, List.set_cons_zero, List.set_cons_succ]
        refine wpAnyH_take (i := 4) (v := ?v3005) (at_list rfl) (by kernel_rfl) (by kernel_rfl) (by kernel_rfl) (fun _ _ _ h => h) (Or.inl ⟨by rfl, ?hy3005⟩) (by assumption) ?rest3005
        case hy3005 => intro w hSw; (try dsimp only at hSw); go_simp; try (with_reducible rfl)
        case rest3005 =>
        try simp only [Act.put, List.setIfInBounds_toArray, List.set_cons_zero, List.set_cons_succ]
        refine wpAnyH_take (i := 5) (v := .bool false) (at_list rfl) (by kernel_rfl) (by kernel_rfl) (by kernel_rfl) (fun _ _ _ h => h) (Or.inl ⟨by rfl, ?hy3006⟩) (by assumption) ?rest3006
        case hy3006 => intro w hSw; (try dsimp only at hSw); go_simp; try (with_reducible rfl)
        case rest3006 =>
        try simp only [Act.put, List.setIfInBounds_toArray, List.set_cons_zero, List.set_cons_succ]
        refine wpAnyH_take (i := 6) (v := ?v3007) (at_list rfl) (by kernel_rfl) (by kernel_rfl) (by kernel_rfl) (fun _ _ _ h => h) (Or.inl ⟨by rfl, ?hy3007⟩) (by assumption) ?rest3007
        case hy3007 => intro w hSw; (try dsimp only at hSw); go_simp; try (with_reducible rfl)
        case rest3007 =>
        try simp only [Act.put, List.setIfInBounds_toArray, List.set_cons_zero, List.set_cons_succ]
        refine wpAnyH_take (i := 7) (v := ?v3008) (at_list rfl) (by kernel_rfl) (by kernel_rfl) (by kernel_rfl) (fun _ _ _ h => h) (Or.inl ⟨by rfl, ?hy3008⟩) (by assumption) ?rest3008
        case hy3008 => intro w hSw; (try dsimp only at hSw); go_simp; try (with_reducible rfl)
        case rest3008 =>
        try simp only [Act.put, List.setIfInBounds_toArray, List.set_cons_zero, List.set_cons_succ]
        refine wpAnyH_take (i := 8) (v := ?v3009) (at_list rfl) (by kernel_rfl) (by kernel_rfl) (by kernel_rfl) (fun _ _ _ h => h) (Or.inl ⟨by rfl, ?hy3009⟩) (by assumption) ?rest3009
        case hy3009 => intro w hSw; (try dsimp only at hSw); go_simp; try (with_reducible rfl)
        case rest3009 =>
        try simp only [Act.put, List.setIfInBounds_toArray, List.set_cons_zero, List.set_cons_succ]
        refine wpAnyH_take (i := 9) (v := ?v3010) (at_list rfl) (by kernel_rfl) (by kernel_rfl) (by kernel_rfl) (fun _ _ _ h => h) (Or.inl ⟨by rfl, ?hy3010⟩) (by assumption) ?rest3010
        case hy3010 => intro w hSw; (try dsimp only at hSw); go_simp; try (with_reducible rfl)
        case rest3010 =>
        try simp only [Act.put, List.setIfInBounds_toArray, List.set_cons_zero, List.set_cons_succ]
        refine wpAnyH_take (i := 10) (v := ?v3011) (at_list rfl) (by kernel_rfl) (by kernel_rfl) (by kernel_rfl) (fun _ _ _ h => h) (Or.inl ⟨by rfl, ?hy3011⟩) (by assumption) ?rest3011
        case hy3011 => intro w hSw; (try dsimp only at hSw); go_simp; try (with_reducible rfl)
        case rest3011 =>
        try simp only [Act.put, List.setIfInBounds_toArray, List.set_cons_zero, List.set_cons_succ]
        refine wpAnyH_ready (rs := [11]) (by kernel_rfl) (by simp) ?_
        refine AllReadyH.cons (at_list rfl) (fun K hK => ?_) AllReadyH.nil
        go_simp
        go_at_call 39; refine (HRH.out _ _ _ _ _ (by exact HHr.out.below (Bx.out (by (first | with_reducible assumption | with_reducible exact bx_alloc (by with_reducible assumption) _ | with_reducible exact bx_drew (by with_reducible assumption) | with_reducible exact bx_drew (bx_alloc (by with_reducible assumption) _))))) (by exact HMr.out.below (Bx.out (by (first | with_reducible assumption | with_reducible exact bx_alloc (by with_reducible assumption) _ | with_reducible exact bx_drew (by with_reducible assumption) | with_reducible exact bx_drew (bx_alloc (by with_reducible assumption) _)))))).mono ?_; rintro e w20 ⟨rfl, bw20⟩; have hBw20 : Bx (Below wz.heap.size wz w20) := bx_to (by (first | with_reducible assumption | with_reducible exact bx_alloc (by with_reducible assumption) _ | with_reducible exact bx_drew (by with_reducible assumption) | with_reducible exact bx_drew (bx_alloc (by with_reducible assumption) _))) bw20; have hzw20 := bx_size hBw20; have kga0_w20 := ((bcell hBw20.out).1 _ _ lt_ga).trans kga0; have kga1_w20 := ((bcell hBw20.out).1 _ _ lt_ga).trans kga1; have kgm0_w20 := ((bcell hBw20.out).1 _ _ lt_gm).trans kgm0; have kgm1_w20 := ((bcell hBw20.out).1 _ _ lt_gm).trans kgm1; have kgh0_w20 := ((bcell hBw20.out).1 _ _ lt_gh).trans kgh0; have kgh1_w20 := ((bcell hBw20.out).1 _ _ lt_gh).trans kgh1; have kgo0_w20 := ((bcell hBw20.out).1 _ _ lt_go).trans kgo0; have kgo1_w20 := ((bcell hBw20.out).1 _ _ lt_go).trans kgo1
        refine hK.out _ _ ?hS3012 (fun hHeld => ?rest3012)
        case hS3012 => (try dsimp only); (refine (fun (hK : Bx (Below wz.heap.size wz _)) => ⟨((bcell hK.out).1 _ _ lt_ga).trans kga0, ((bcell hK.out).1 _ _ lt_ga).trans kga1, ((bcell hK.out).1 _ _ lt_gm).trans kgm0, ((bcell hK.out).1 _ _ lt_gm).trans kgm1, ((bcell hK.out).1 _ _ lt_gh).trans kgh0, ((bcell hK.out).1 _ _ lt_gh).trans kgh1, ((bcell hK.out).1 _ _ lt_go).trans kgo0, ((bcell hK.out).1 _ _ lt_go).trans kgo1, hK⟩) ?_; (first | with_reducible assumption | with_reducible exact bx_alloc (by with_reducible assumption) _ | with_reducible exact bx_drew (by with_reducible assumption) | with_reducible exact bx_drew (bx_alloc (by with_reducible assumption) _)))
        case rest3012 =>
        clear hK K
        try simp only [Act.put, List.setIfInBounds_toArray, List.set_cons_zero, List.set_cons_succ]
        refine wpAnyH_take (i := 12) (v := ?v3013) (at_list rfl) (by kernel_rfl) (by kernel_rfl) (by kernel_rfl) (fun _ _ _ h => h) (Or.inl ⟨by rfl, ?hy3013⟩) (by assumption) ?rest3013
        case hy3013 => intro w hSw; (try dsimp only at hSw); go_simp; try (with_reducible rfl)
        case rest3013 =>
        try simp only [Act.put, List.setIfInBounds_toArray, List.set_cons_zero, List.set_cons_succ]
        refine wpAnyH_take (i := 13) (v := ?v3014) (at_list rfl) (by kernel_rfl) (by kernel_rfl) (by kernel_rfl) (fun _ _ _ h => h) (Or.inl ⟨by rfl, ?hy3014⟩) (by assumption) ?rest3014
        case hy3014 => intro w hSw; (try dsimp only at hSw); go_simp; try (with_reducible rfl)
        case rest3014 =>
        try simp only [Act.put, List.setIfInBounds_toArray, List.set_cons_zero, List.set_cons_succ]
        refine wpAnyH_take (i := 14) (v := ?v3015) (at_list rfl) (by kernel_rfl) (by kernel_rfl) (by kernel_rfl) (fun _ _ _ h => h) (Or.inl ⟨by rfl, ?hy3015⟩) (by assumption) ?rest3015
        case hy3015 => intro w hSw; (try dsimp only at hSw); go_simp; try (with_reducible rfl)
        case rest3015 =>
        try simp only [Act.put, List.setIfInBounds_toArray, List.set_cons_zero, List.set_cons_succ]
        refine wpAnyH_take (i := 15) (v := ?v3016) (at_list rfl) (by kernel_rfl) (by kernel_rfl) (by kernel_rfl) (fun _ _ _ h => h) (Or.inl ⟨by rfl, ?hy3016⟩) (by assumption) ?rest3016
        case hy3016 => intro w hSw; (try dsimp only at hSw); go_simp; try (with_reducible rfl)
        case rest3016 =>
        try simp only [Act.put, List.setIfInBounds_toArray, List.set_cons_zero, List.set_cons_succ]
        refine wpAnyH_take (i := 16) (v := ?v3017) (at_list rfl) (by kernel_rfl) (by kernel_rfl) (by kernel_rfl) (fun _ _ _ h => h) (Or.inl ⟨by rfl, ?hy3017⟩) (by assumption) ?rest3017
        case hy3017 => intro w hSw; (try dsimp only at hSw); go_simp; try (with_reducible rfl)
        case rest3017 =>
        try simp only [Act.put, List.setIfInBounds_toArray, List.set_cons_zero, List.set_cons_succ]
        refine wpAnyH_take (i := 17) (v := .int .i64 (2 * (a.length : Int))) (at_list rfl) (by kernel_rfl) (by kernel_rfl) (by kernel_rfl) (fun _ _ _ h => h) (Or.inl ⟨by rfl, ?hy3018⟩) (by assumption) ?rest3018
        case hy3018 => intro w hSw; (try dsimp only at hSw); go_simp; try (with_reducible rfl)
        case rest3018 =>
        try simp only [Act.put, List.setIfInBounds_toArray, List.set_cons_zero, List.set_cons_succ]
        refine wpAnyH_take (i := 18) (v := ?v3019) (at_list rfl) (by kernel_rfl) (by kernel_rfl) (by kernel_rfl) (fun _ _ _ h => h) (Or.inl ⟨by rfl, ?hy3019⟩) (by assumption) ?rest3019
        case hy3019 => intro w hSw; (try dsimp only at hSw); go_simp; try (with_reducible rfl)
        case rest3019 =>
        try simp only [Act.put, List.setIfInBounds_toArray, List.set_cons_zero, List.set_cons_succ]
        refine wpAnyH_take (i := 19) (v := .bool false) (at_list rfl) (by kernel_rfl) (by kernel_rfl) (by kernel_rfl) (fun _ _ _ h => h) (Or.inl ⟨by rfl, ?hy3020⟩) (by assumption) ?rest3020
        case hy3020 => intro w hSw; (try dsimp only at hSw); go_simp; try (with_reducible rfl)
        case rest3020 =>
        try simp only [Act.put, List.setIfInBounds_toArray, List.set_cons_zero, List.set_cons_succ]
        refine wpAnyH_take (i := 20) (v := ?v3021) (at_list rfl) (by kernel_rfl) (by kernel_rfl) (by kernel_rfl) (fun _ _ _ h => h) (Or.inl ⟨by rfl, ?hy3021⟩) (by assumption) ?rest3021
        case hy3021 => intro w hSw; (try dsimp only at hSw); go_simp; try (with_reducible rfl)
        case rest3021 =>
        try simp only [Act.put, List.setIfInBounds_toArray, List.set_cons_zero, List.set_cons_succ]
        refine wpAnyH_take (i := 21) (v := ?v3022) (at_list rfl) (by kernel_rfl) (by kernel_rfl) (by kernel_rfl) (fun _ _ _ h => h) (Or.inl ⟨by rfl, ?hy3022⟩) (by assumption) ?rest3022
        case hy3022 => intro w hSw; (try dsimp only at hSw); go_simp; try (with_reducible rfl)
        case rest3022 =>
        try simp only [Act.put, List.setIfInBounds_toArray, List.set_cons_zero, List.set_cons_succ]
        refine wpAnyH_take (i := 22) (v := ?v3023) (at_list rfl) (by kernel_rfl) (by kernel_rfl) (by kernel_rfl) (fun _ _ _ h => h) (Or.inl ⟨by rfl, ?hy3023⟩) (by assumption) ?rest3023
        case hy3023 => intro w hSw; (try dsimp only at hSw); go_simp; try (with_reducible rfl)
        case rest3023 =>
        try simp only [Act.put, List.setIfInBounds_toArray, List.set_cons_zero, List.set_cons_succ]
        refine wpAnyH_ready (rs := [23]) (by kernel_rfl) (by simp) ?_
        refine AllReadyH.cons (at_list rfl) (fun K hK => ?_) AllReadyH.nil
        go_simp
        go_at_call 48; refine (HSO.out _ (by exact HA.out.below (Bx.out (by (first | with_reducible assumption | with_reducible exact bx_alloc (by with_reducible assumption) _ | with_reducible exact bx_drew (by with_reducible assumption) | with_reducible exact bx_drew (bx_alloc (by with_reducible assumption) _))))) (by exact HOr.out.below (Bx.out (by (first | with_reducible assumption | with_reducible exact bx_alloc (by with_reducible assumption) _ | with_reducible exact bx_drew (by with_reducible assumption) | with_reducible exact bx_drew (bx_alloc (by with_reducible assumption) _)))))).mono ?_; rintro e w21 ⟨rfl, bw21⟩; have hBw21 : Bx (Below wz.heap.size wz w21) := bx_to (by (first | with_reducible assumption | with_reducible exact bx_alloc (by with_reducible assumption) _ | with_reducible exact bx_drew (by with_reducible assumption) | with_reducible exact bx_drew (bx_alloc (by with_reducible assumption) _))) bw21; have hzw21 := bx_size hBw21; have kga0_w21 := ((bcell hBw21.out).1 _ _ lt_ga).trans kga0; have kga1_w21 := ((bcell hBw21.out).1 _ _ lt_ga).trans kga1; have kgm0_w21 := ((bcell hBw21.out).1 _ _ lt_gm).trans kgm0; have kgm1_w21 := ((bcell hBw21.out).1 _ _ lt_gm).trans kgm1; have kgh0_w21 := ((bcell hBw21.out).1 _ _ lt_gh).trans kgh0; have kgh1_w21 := ((bcell hBw21.out).1 _ _ lt_gh).trans kgh1; have kgo0_w21 := ((bcell hBw21.out).1 _ _ lt_go).trans kgo0; have kgo1_w21 := ((bcell hBw21.out).1 _ _ lt_go).trans kgo1
        refine hK.out _ _ ?hS3024 (fun hHeld => ?rest3024)
        case hS3024 => (try dsimp only); (refine (fun (hK : Bx (Below wz.heap.size wz _)) => ⟨((bcell hK.out).1 _ _ lt_ga).trans kga0, ((bcell hK.out).1 _ _ lt_ga).trans kga1, ((bcell hK.out).1 _ _ lt_gm).trans kgm0, ((bcell hK.out).1 _ _ lt_gm).trans kgm1, ((bcell hK.out).1 _ _ lt_gh).trans kgh0, ((bcell hK.out).1 _ _ lt_gh).trans kgh1, ((bcell hK.out).1 _ _ lt_go).trans kgo0, ((bcell hK.out).1 _ _ lt_go).trans kgo1, hK⟩) ?_; (first | with_reducible assumption | with_reducible exact bx_alloc (by with_reducible assumption) _ | with_reducible exact bx_drew (by with_reducible assumption) | with_reducible exact bx_drew (bx_alloc (by with_reducible assumption) _)))
        case rest3024 =>
        clear hK K
        try simp only [Act.put, List.setIfInBounds_toArray, List.set_cons_zero, List.set_cons_succ]
        refine wpAnyH_take (i := 24) (v := ?v3025) (at_list rfl) (by kernel_rfl) (by kernel_rfl) (by kernel_rfl) (fun _ _ _ h => h) (Or.inl ⟨by rfl, ?hy3025⟩) (by assumption) ?rest3025
        case hy3025 => intro w hSw; (try dsimp only at hSw); go_simp; try (with_reducible rfl)
        case rest3025 =>
        try simp only [Act.put, List.setIfInBounds_toArray, List.set_cons_zero, List.set_cons_succ]
        refine wpAnyH_take (i := 25) (v := ?v3026) (at_list rfl) (by kernel_rfl) (by kernel_rfl) (by kernel_rfl) (fun _ _ _ h => h) (Or.inl ⟨by rfl, ?hy3026⟩) (by assumption) ?rest3026
        case hy3026 => intro w hSw; (try dsimp only at hSw); go_simp; try (with_reducible rfl)
        case rest3026 =>
        try simp only [Act.put, List.setIfInBounds_toArray, List.set_cons_zero, List.set_cons_succ]
        refine wpAnyH_take (i := 26) (v := ?v3027) (at_list rfl) (by kernel_rfl) (by kernel_rfl) (by kernel_rfl) (fun _ _ _ h => h) (Or.inl ⟨by rfl, ?hy3027⟩) (by assumption) ?rest3027
        case hy3027 => intro w hSw; (try dsimp only at hSw); go_simp; try (with_reducible rfl)
        case rest3027 =>
        try simp only [Act.put, List.setIfInBounds_toArray, List.set_cons_zero, List.set_cons_succ]
        refine wpAnyH_take (i := 27) (v := ?v3028) (at_list rfl) (by kernel_rfl) (by kernel_rfl) (by kernel_rfl) (fun _ _ _ h => h) (Or.inl ⟨by rfl, ?hy3028⟩) (by assumption) ?rest3028
        case hy3028 => intro w hSw; (try dsimp only at hSw); go_simp; try (with_reducible rfl)
        case rest3028 =>
        try simp only [Act.put, List.setIfInBounds_toArray, List.set_cons_zero, List.set_cons_succ]
        refine wpAnyH_take (i := 29) (v := ?v3029) (at_list rfl) (by kernel_rfl) (by kernel_rfl) (by kernel_rfl) (fun _ _ _ h => h) (Or.inl ⟨by rfl, ?hy3029⟩) (by assumption) ?rest3029
        case hy3029 => intro w hSw; (try dsimp only at hSw); go_simp; try (with_reducible rfl)
        case rest3029 =>
        try simp only [Act.put, List.setIfInBounds_toArray, List.set_cons_zero, List.set_cons_succ]
        refine wpAnyH_ready (rs := [28]) (by kernel_rfl) (by simp) ?_
        refine AllReadyH.cons (at_list rfl) (fun K hK => ?_) AllReadyH.nil
        go_simp
        go_at_call 52; refine (HF1.out _ _ _ (by exact HA.out.below (Bx.out (by (first | with_reducible assumption | with_reducible exact bx_alloc (by with_reducible assumption) _ | with_reducible exact bx_drew (by with_reducible assumption) | with_reducible exact bx_drew (bx_alloc (by with_reducible assumption) _)))))).mono ?_; rintro e w22 ⟨rfl, bw22⟩; have hBw22 : Bx (Below wz.heap.size wz w22) := bx_to (by (first | with_reducible assumption | with_reducible exact bx_alloc (by with_reducible assumption) _ | with_reducible exact bx_drew (by with_reducible assumption) | with_reducible exact bx_drew (bx_alloc (by with_reducible assumption) _))) bw22; have hzw22 := bx_size hBw22; have kga0_w22 := ((bcell hBw22.out).1 _ _ lt_ga).trans kga0; have kga1_w22 := ((bcell hBw22.out).1 _ _ lt_ga).trans kga1; have kgm0_w22 := ((bcell hBw22.out).1 _ _ lt_gm).trans kgm0; have kgm1_w22 := ((bcell hBw22.out).1 _ _ lt_gm).trans kgm1; have kgh0_w22 := ((bcell hBw22.out).1 _ _ lt_gh).trans kgh0; have kgh1_w22 := ((bcell hBw22.out).1 _ _ lt_gh).trans kgh1; have kgo0_w22 := ((bcell hBw22.out).1 _ _ lt_go).trans kgo0; have kgo1_w22 := ((bcell hBw22.out).1 _ _ lt_go).trans kgo1
        refine hK.out _ _ ?hS3030 (fun hHeld => ?rest3030)
        case hS3030 => (try dsimp only); (refine (fun (hK : Bx (Below wz.heap.size wz _)) => ⟨((bcell hK.out).1 _ _ lt_ga).trans kga0, ((bcell hK.out).1 _ _ lt_ga).trans kga1, ((bcell hK.out).1 _ _ lt_gm).trans kgm0, ((bcell hK.out).1 _ _ lt_gm).trans kgm1, ((bcell hK.out).1 _ _ lt_gh).trans kgh0, ((bcell hK.out).1 _ _ lt_gh).trans kgh1, ((bcell hK.out).1 _ _ lt_go).trans kgo0, ((bcell hK.out).1 _ _ lt_go).trans kgo1, hK⟩) ?_; (first | with_reducible assumption | with_reducible exact bx_alloc (by with_reducible assumption) _ | with_reducible exact bx_drew (by with_reducible assumption) | with_reducible exact bx_drew (bx_alloc (by with_reducible assumption) _)))
        case rest3030 =>
        clear hK K
        try simp only [Act.put, List.setIfInBounds_toArray, List.set_cons_zero, List.set_cons_succ]
        refine wpAnyH_ready (rs := [30]) (by kernel_rfl) (by simp) ?_
        refine AllReadyH.cons (at_list rfl) (fun K hK => ?_) AllReadyH.nil
        go_simp
        go_at_call 52; refine (HF2.out _ _ _ (by exact HOr.out.below (Bx.out (by (first | with_reducible assumption | with_reducible exact bx_alloc (by with_reducible assumption) _ | with_reducible exact bx_drew (by with_reducible assumption) | with_reducible exact bx_drew (bx_alloc (by with_reducible assumption) _)))))).mono ?_; rintro e w23 ⟨rfl, bw23⟩; have hBw23 : Bx (Below wz.heap.size wz w23) := bx_to (by (first | with_reducible assumption | with_reducible exact bx_alloc (by with_reducible assumption) _ | with_reducible exact bx_drew (by with_reducible assumption) | with_reducible exact bx_drew (bx_alloc (by with_reducible assumption) _))) bw23; have hzw23 := bx_size hBw23; have kga0_w23 := ((bcell hBw23.out).1 _ _ lt_ga).trans kga0; have kga1_w23 := ((bcell hBw23.out).1 _ _ lt_ga).trans kga1; have kgm0_w23 := ((bcell hBw23.out).1 _ _ lt_gm).trans kgm0; have kgm1_w23 := ((bcell hBw23.out).1 _ _ lt_gm).trans kgm1; have kgh0_w23 := ((bcell hBw23.out).1 _ _ lt_gh).trans kgh0; have kgh1_w23 := ((bcell hBw23.out).1 _ _ lt_gh).trans kgh1; have kgo0_w23 := ((bcell hBw23.out).1 _ _ lt_go).trans kgo0; have kgo1_w23 := ((bcell hBw23.out).1 _ _ lt_go).trans kgo1
        refine hK.out _ _ ?hS3031 (fun hHeld => ?rest3031)
        case hS3031 => (try dsimp only); (refine (fun (hK : Bx (Below wz.heap.size wz _)) => ⟨((bcell hK.out).1 _ _ lt_ga).trans kga0, ((bcell hK.out).1 _ _ lt_ga).trans kga1, ((bcell hK.out).1 _ _ lt_gm).trans kgm0, ((bcell hK.out).1 _ _ lt_gm).trans kgm1, ((bcell hK.out).1 _ _ lt_gh).trans kgh0, ((bcell hK.out).1 _ _ lt_gh).trans kgh1, ((bcell hK.out).1 _ _ lt_go).trans kgo0, ((bcell hK.out).1 _ _ lt_go).trans kgo1, hK⟩) ?_; (first | with_reducible assumption | with_reducible exact bx_alloc (by with_reducible assumption) _ | with_reducible exact bx_drew (by with_reducible assumption) | with_reducible exact bx_drew (bx_alloc (by with_reducible assumption) _)))
        case rest3031 =>
        clear hK K
        try simp only [Act.put, List.setIfInBounds_toArray, List.set_cons_zero, List.set_cons_succ]
        refine wpAnyH_take (i := 31) (v := ?v3032) (at_list rfl) (by kernel_rfl) (by kernel_rfl) (by kernel_rfl) (fun _ _ _ h => h) (Or.inl ⟨by rfl, ?hy3032⟩) (by assumption) ?rest3032
        case hy3032 => intro w hSw; (try dsimp only at hSw); go_simp; try (with_reducible rfl)
        case rest3032 =>
        try simp only [Act.put, List.setIfInBounds_toArray, List.set_cons_zero, List.set_cons_succ]
        refine wpAnyH_take (i := 32) (v := ?v3033) (at_list rfl) (by kernel_rfl) (by kernel_rfl) (by kernel_rfl) (fun _ _ _ h => h) (Or.inl ⟨by rfl, ?hy3033⟩) (by assumption) ?rest3033
        case hy3033 => intro w hSw; (try dsimp only at hSw); go_simp; try (with_reducible rfl)
        case rest3033 =>
        try simp only [Act.put, List.setIfInBounds_toArray, List.set_cons_zero, List.set_cons_succ]
        refine wpAnyH_ready (rs := [33]) (by kernel_rfl) (by simp) ?_
        refine AllReadyH.cons (at_list rfl) (fun K hK => ?_) AllReadyH.nil
        go_simp
        refine hK.out _ _ ?hS3034 (fun hHeld => ?rest3034)
        case hS3034 => (try dsimp only); (refine (fun (hK : Bx (Below wz.heap.size wz _)) => ⟨((bcell hK.out).1 _ _ lt_ga).trans kga0, ((bcell hK.out).1 _ _ lt_ga).trans kga1, ((bcell hK.out).1 _ _ lt_gm).trans kgm0, ((bcell hK.out).1 _ _ lt_gm).trans kgm1, ((bcell hK.out).1 _ _ lt_gh).trans kgh0, ((bcell hK.out).1 _ _ lt_gh).trans kgh1, ((bcell hK.out).1 _ _ lt_go).trans kgo0, ((bcell hK.out).1 _ _ lt_go).trans kgo1, hK⟩) ?_; (first | with_reducible assumption | with_reducible exact bx_alloc (by with_reducible assumption) _ | with_reducible exact bx_drew (by with_reducible assumption) | with_reducible exact bx_drew (bx_alloc (by with_reducible assumption) _)))
        case rest3034 =>
        clear hK K
        try simp only [Act.put, List.setIfInBounds_toArray, List.set_cons_zero, List.set_cons_succ]
        refine wpAnyH_done (by kernel_rfl) ?_ _
        have b := hBw23.out
        replace kga0 := ((bcell b).1 _ _ lt_ga).trans kga0
        replace kga1 := ((bcell b).1 _ _ lt_ga).trans kga1
        replace kgo0 := ((bcell b).1 _ _ lt_go).trans kgo0
        replace kgo1 := ((bcell b).1 _ _ lt_go).trans kgo1
        replace kgm0 := ((bcell b).1 _ _ lt_gm).trans kgm0
        replace kgm1 := ((bcell b).1 _ _ lt_gm).trans kgm1
        replace kgh0 := ((bcell b).1 _ _ lt_gh).trans kgh0
        replace kgh1 := ((bcell b).1 _ _ lt_gh).trans kgh1
        replace lt_ga := Nat.lt_of_lt_of_le lt_ga b.size
        replace lt_go := Nat.lt_of_lt_of_le lt_go b.size
        replace lt_gm := Nat.lt_of_lt_of_le lt_gm b.size
        replace lt_gh := Nat.lt_of_lt_of_le lt_gh b.size
        replace HA := Bx.mk (HA.out.below b)
        replace HDr := Bx.mk (HDr.out.below b)
        replace HOr := Bx.mk (HOr.out.below b)
        replace HEr := Bx.mk (HEr.out.below b)
        replace HCr := Bx.mk (HCr.out.below b)
        replace HMr := Bx.mk (HMr.out.below b)
        replace HHr := Bx.mk (HHr.out.below b)
        replace bw := bw.trans (b.mono bw.size)
        clear b
        go_wp2_with fail
        go_ret
        exact ⟨rfl, bw⟩
      have h2k : ((2 * (a.length : Int)) != (n : Int)) = true := by rw [bne_iff_ne]; omega
      clear h2
      go_upto_region 23 with (fail)
      have hB : Bx (Below wz.heap.size wz wz.drew) := ⟨(Below.refl _ _).drew⟩
      have hB0 : Bx (Below wz.heap.size wz wz) := ⟨Below.refl _ _⟩
      have kga0_d : wz.drew.cell? _ = _ := kga0
      have kga1_d : wz.drew.cell? _ = _ := kga1
      have kgm0_d : wz.drew.cell? _ = _ := kgm0
      have kgm1_d : wz.drew.cell? _ = _ := kgm1
      have kgh0_d : wz.drew.cell? _ = _ := kgh0
      have kgh1_d : wz.drew.cell? _ = _ := kgh1
      have kgo0_d : wz.drew.cell? _ = _ := kgo0
      have kgo1_d : wz.drew.cell? _ = _ := kgo1
      refine wp_region_held_drew (S := fun w' => w'.cell? ⟨ga, 0, none⟩ = some (.int .i64 n) ∧ w'.cell? ⟨ga, 1, none⟩ = some (.slice Aa a.length ca) ∧ w'.cell? ⟨gm, 0, none⟩ = some (.int .i64 n) ∧ w'.cell? ⟨gm, 1, none⟩ = some (.slice AM Mi.length cM) ∧ w'.cell? ⟨gh, 0, none⟩ = some (.int .i64 n) ∧ w'.cell? ⟨gh, 1, none⟩ = some (.slice Ah H.length ch) ∧ w'.cell? ⟨go, 0, none⟩ = some (.int .i64 n) ∧ w'.cell? ⟨go, 1, none⟩ = some (.slice AO O.length cO) ∧ Bx (Below wz.heap.size wz w')) (by kernel_rfl) ?hS4000 (fun hHeld => ?rest4000)
      case hS4000 => (try dsimp only); (refine (fun (hK : Bx (Below wz.heap.size wz _)) => ⟨((bcell hK.out).1 _ _ lt_ga).trans kga0, ((bcell hK.out).1 _ _ lt_ga).trans kga1, ((bcell hK.out).1 _ _ lt_gm).trans kgm0, ((bcell hK.out).1 _ _ lt_gm).trans kgm1, ((bcell hK.out).1 _ _ lt_gh).trans kgh0, ((bcell hK.out).1 _ _ lt_gh).trans kgh1, ((bcell hK.out).1 _ _ lt_go).trans kgo0, ((bcell hK.out).1 _ _ lt_go).trans kgo1, hK⟩) ?_; (first | with_reducible assumption | with_reducible exact bx_alloc (by with_reducible assumption) _ | with_reducible exact bx_drew (by with_reducible assumption) | with_reducible exact bx_drew (bx_alloc (by with_reducible assumption) _)))
      case rest4000 =>
      refine wpAnyH_take (i := 0) (v := ?v4001) (at_list rfl) (by kernel_rfl) (by kernel_rfl) (by kernel_rfl) (fun _ _ _ h => h) (Or.inl ⟨by rfl, ?hy4001⟩) (by assumption) ?rest4001
      case hy4001 => intro w hSw; (try dsimp only at hSw); go_simp; try (with_reducible rfl)
      case rest4001 =>
      try simp only [Act.put, List.setIfInBounds_toArray, List.set_cons_zero, List.set_cons_succ]
      refine wpAnyH_take (i := 1) (v := ?v4002) (at_list rfl) (by kernel_rfl) (by kernel_rfl) (by kernel_rfl) (fun _ _ _ h => h) (Or.inl ⟨by rfl, ?hy4002⟩) (by assumption) ?rest4002
      case hy4002 => intro w hSw; (try dsimp only at hSw); go_simp; try (with_reducible rfl)
      case rest4002 =>
      try simp only [Act.put, List.setIfInBounds_toArray, List.set_cons_zero, List.set_cons_succ]
      refine wpAnyH_ready (rs := [2]) (by kernel_rfl) (by simp) ?_
      refine AllReadyH.cons (at_list rfl) (fun K hK => ?_) AllReadyH.nil
      go_simp
      go_at_call 48; refine (HSM.out _ (by exact HA.out.below (Bx.out (by (first | with_reducible assumption | with_reducible exact bx_alloc (by with_reducible assumption) _ | with_reducible exact bx_drew (by with_reducible assumption) | with_reducible exact bx_drew (bx_alloc (by with_reducible assumption) _))))) (by exact HMr.out.below (Bx.out (by (first | with_reducible assumption | with_reducible exact bx_alloc (by with_reducible assumption) _ | with_reducible exact bx_drew (by with_reducible assumption) | with_reducible exact bx_drew (bx_alloc (by with_reducible assumption) _)))))).mono ?_; rintro e w24 ⟨rfl, bw24⟩; have hBw24 : Bx (Below wz.heap.size wz w24) := bx_to (by (first | with_reducible assumption | with_reducible exact bx_alloc (by with_reducible assumption) _ | with_reducible exact bx_drew (by with_reducible assumption) | with_reducible exact bx_drew (bx_alloc (by with_reducible assumption) _))) bw24; have hzw24 := bx_size hBw24; have kga0_w24 := ((bcell hBw24.out).1 _ _ lt_ga).trans kga0; have kga1_w24 := ((bcell hBw24.out).1 _ _ lt_ga).trans kga1; have kgm0_w24 := ((bcell hBw24.out).1 _ _ lt_gm).trans kgm0; have kgm1_w24 := ((bcell hBw24.out).1 _ _ lt_gm).trans kgm1; have kgh0_w24 := ((bcell hBw24.out).1 _ _ lt_gh).trans kgh0; have kgh1_w24 := ((bcell hBw24.out).1 _ _ lt_gh).trans kgh1; have kgo0_w24 := ((bcell hBw24.out).1 _ _ lt_go).trans kgo0; have kgo1_w24 := ((bcell hBw24.out).1 _ _ lt_go).trans kgo1
      refine hK.out _ _ ?hS4003 (fun hHeld => ?rest4003)
      case hS4003 => (try dsimp only); (refine (fun (hK : Bx (Below wz.heap.size wz _)) => ⟨((bcell hK.out).1 _ _ lt_ga).trans kga0, ((bcell hK.out).1 _ _ lt_ga).trans kga1, ((bcell hK.out).1 _ _ lt_gm).trans kgm0, ((bcell hK.out).1 _ _ lt_gm).trans kgm1, ((bcell hK.out).1 _ _ lt_gh).trans kgh0, ((bcell hK.out).1 _ _ lt_gh).trans kgh1, ((bcell hK.out).1 _ _ lt_go).trans kgo0, ((bcell hK.out).1 _ _ lt_go).trans kgo1, hK⟩) ?_; (first | with_reducible assumption | with_reducible exact bx_alloc (by with_reducible assumption) _ | with_reducible exact bx_drew (by with_reducible assumption) | with_reducible exact bx_drew (bx_alloc (by with_reducible assumption) _)))
      case rest4003 =>
      clear hK K
      try simp only [Act.put, List.setIfInBounds_toArray, List.set_cons_zero, List.set_cons_succ]
      refine wpAnyH_take (i := 3) (v := ?v4004) (at_list rfl) (by kernel_rfl) (by kernel_rfl) (by kernel_rfl) (fun _ _ _ h => h) (Or.inl ⟨by rfl, ?hy4004⟩) (by assumption) ?rest4004
      case hy4004 => intro w hSw; (try dsimp only at hSw); go_simp; try (with_reducible rfl)
      case rest4004 =>
      try simp only [Act.put, List.setIfInBounds_toArray, List.set_cons_zero, List.set_cons_succ]
      refine wpAnyH_take (i := 4) (v := ?v4005) (at_list rfl) (by kernel_rfl) (by kernel_rfl) (by kernel_rfl) (fun _ _ _ h => h) (Or.inl ⟨by rfl, ?hy4005⟩) (by assumption) ?rest4005
      case hy4005 => intro w hSw; (try dsimp only at hSw); go_simp; try (with_reducible rfl)
      case rest4005 =>
      try simp only [Act.put, List.setIfInBounds_toArray, List.set_cons_zero, List.set_cons_succ]
      refine wpAnyH_take (i := 5) (v := .bool false) (at_list rfl) (by kernel_rfl) (by kernel_rfl) (by kernel_rfl) (fun _ _ _ h => h) (Or.inl ⟨by rfl, ?hy4006⟩) (by assumption) ?rest4006
      case hy4006 => intro w hSw; (try dsimp only at hSw); go_simp; try (with_reducible rfl)
      case rest4006 =>
      try simp only [Act.put, List.setIfInBounds_toArray, List.set_cons_zero, List.set_cons_succ]
      refine wpAnyH_take (i := 6) (v := ?v4007) (at_list rfl) (by kernel_rfl) (by kernel_rfl) (by kernel_rfl) (fun _ _ _ h => h) (Or.inl ⟨by rfl, ?hy4007⟩) (by assumption) ?rest4007
      case hy4007 => intro w hSw; (try dsimp only at hSw); go_simp; try (with_reducible rfl)
      case rest4007 =>
      try simp only [Act.put, List.setIfInBounds_toArray, List.set_cons_zero, List.set_cons_succ]
      refine wpAnyH_take (i := 7) (v := ?v4008) (at_list rfl) (by kernel_rfl) (by kernel_rfl) (by kernel_rfl) (fun _ _ _ h => h) (Or.inl ⟨by rfl, ?hy4008⟩) (by assumption) ?rest4008
      case hy4008 => intro w hSw; (try dsimp only at hSw); go_simp; try (with_reducible rfl)
      case rest4008 =>
      try simp only [Act.put, List.setIfInBounds_toArray, List.set_cons_zero, List.set_cons_succ]
      refine wpAnyH_take (i := 8) (v := ?v4009) (at_list rfl) (by kernel_rfl) (by kernel_rfl) (by kernel_rfl) (fun _ _ _ h => h) (Or.inl ⟨by rfl, ?hy4009⟩) (by assumption) ?rest4009
      case hy4009 => intro w hSw; (try dsimp only at hSw); go_simp; try (with_reducible rfl)
      case rest4009 =>
      try simp only [Act.put, List.setIfInBounds_toArray, List.set_cons_zero, List.set_cons_succ]
      refine wpAnyH_take (i := 9) (v := ?v4010) (at_list rfl) (by kernel_rfl) (by kernel_rfl) (by kernel_rfl) (fun _ _ _ h => h) (Or.inl ⟨by rfl, ?hy4010⟩) (by assumption) ?rest4010
      case hy4010 => intro w hSw; (try dsimp only at hSw); go_simp; try (with_reducible rfl)
      case rest4010 =>
      try simp only [Act.put, List.setIfInBounds_toArray, List.set_cons_zero, List.set_cons_succ]
      refine wpAnyH_take (i := 10) (v := ?v4011) (at_list rfl) (by kernel_rfl) (by kernel_rfl) (by kernel_rfl) (fun _ _ _ h => h) (Or.inl ⟨by rfl, ?hy4011⟩) (by assumption) ?rest4011
      case hy4011 => intro w hSw; (try dsimp only at hSw); go_simp; try (with_reducible rfl)
      case rest4011 =>
      try simp only [Act.put, List.setIfInBounds_toArray, List.set_cons_zero, List.set_cons_succ]
      refine wpAnyH_ready (rs := [11]) (by kernel_rfl) (by simp) ?_
      refine AllReadyH.cons (at_list rfl) (fun K hK => ?_) AllReadyH.nil
      go_simp
      go_at_call 39; refine (HRH.out _ _ _ _ _ (by exact HHr.out.below (Bx.out (by (first | with_reducible assumption | with_reducible exact bx_alloc (by with_reducible assumption) _ | with_reducible exact bx_drew (by with_reducible assumption) | with_reducible exact bx_drew (bx_alloc (by with_reducible assumption) _))))) (by exact HMr.out.below (Bx.out (by (first | with_reducible assumption | with_reducible exact bx_alloc (by with_reducible assumption) _ | with_reducible exact bx_drew (by with_reducible assumption) | with_reducible exact bx_drew (bx_alloc (by with_reducible assumption) _)))))).mono ?_; rintro e w25 ⟨rfl, bw25⟩; have hBw25 : Bx (Below wz.heap.size wz w25) := bx_to (by (first | with_reducible assumption | with_reducible exact bx_alloc (by with_reducible assumption) _ | with_reducible exact bx_drew (by with_reducible assumption) | with_reducible exact bx_drew (bx_alloc (by with_reducible assumption) _))) bw25; have hzw25 := bx_size hBw25; have kga0_w25 := ((bcell hBw25.out).1 _ _ lt_ga).trans kga0; have kga1_w25 := ((bcell hBw25.out).1 _ _ lt_ga).trans kga1; have kgm0_w25 := ((bcell hBw25.out).1 _ _ lt_gm).trans kgm0; have kgm1_w25 := ((bcell hBw25.out).1 _ _ lt_gm).trans kgm1; have kgh0_w25 := ((bcell hBw25.out).1 _ _ lt_gh).trans kgh0; have kgh1_w25 := ((bcell hBw25.out).1 _ _ lt_gh).trans kgh1; have kgo0_w25 := ((bcell hBw25.out).1 _ _ lt_go).trans kgo0; have kgo1_w25 := ((bcell hBw25.out).1 _ _ lt_go).trans kgo1
      refine hK.out _ _ ?hS4012 (fun hHeld => ?rest4012)
      case hS4012 => (try dsimp only); (refine (fun (hK : Bx (Below wz.heap.size wz _)) => ⟨((bcell hK.out).1 _ _ lt_ga).trans kga0, ((bcell hK.out).1 _ _ lt_ga).trans kga1, ((bcell hK.out).1 _ _ lt_gm).trans kgm0, ((bcell hK.out).1 _ _ lt_gm).trans kgm1, ((bcell hK.out).1 _ _ lt_gh).trans kgh0, ((bcell hK.out).1 _ _ lt_gh).trans kgh1, ((bcell hK.out).1 _ _ lt_go).trans kgo0, ((bcell hK.out).1 _ _ lt_go).trans kgo1, hK⟩) ?_; (first | with_reducible assumption | with_reducible exact bx_alloc (by with_reducible assumption) _ | with_reducible exact bx_drew (by with_reducible assumption) | with_reducible exact bx_drew (bx_alloc (by with_reducible assumption) _)))
      case rest4012 =>
      clear hK K
      try simp only [Act.put, List.setIfInBounds_toArray, List.set_cons_zero, List.set_cons_succ]
      refine wpAnyH_take (i := 12) (v := ?v4013) (at_list rfl) (by kernel_rfl) (by kernel_rfl) (by kernel_rfl) (fun _ _ _ h => h) (Or.inl ⟨by rfl, ?hy4013⟩) (by assumption) ?rest4013
      case hy4013 => intro w hSw; (try dsimp only at hSw); go_simp; try (with_reducible rfl)
      case rest4013 =>
      try simp only [Act.put, List.setIfInBounds_toArray, List.set_cons_zero, List.set_cons_succ]
      refine wpAnyH_take (i := 13) (v := ?v4014) (at_list rfl) (by kernel_rfl) (by kernel_rfl) (by kernel_rfl) (fun _ _ _ h => h) (Or.inl ⟨by rfl, ?hy4014⟩) (by assumption) ?rest4014
      case hy4014 => intro w hSw; (try dsimp only at hSw); go_simp; try (with_reducible rfl)
      case rest4014 =>
      try simp only [Act.put, List.setIfInBounds_toArray, List.set_cons_zero, List.set_cons_succ]
      refine wpAnyH_take (i := 14) (v := ?v4015) (at_list rfl) (by kernel_rfl) (by kernel_rfl) (by kernel_rfl) (fun _ _ _ h => h) (Or.inl ⟨by rfl, ?hy4015⟩) (by assumption) ?rest4015
      case hy4015 => intro w hSw; (try dsimp only at hSw); go_simp; try (with_reducible rfl)
      case rest4015 =>
      try simp only [Act.put, List.setIfInBounds_toArray, List.set_cons_zero, List.set_cons_succ]
      refine wpAnyH_take (i := 15) (v := ?v4016) (at_list rfl) (by kernel_rfl) (by kernel_rfl) (by kernel_rfl) (fun _ _ _ h => h) (Or.inl ⟨by rfl, ?hy4016⟩) (by assumption) ?rest4016
      case hy4016 => intro w hSw; (try dsimp only at hSw); go_simp; try (with_reducible rfl)
      case rest4016 =>
      try simp only [Act.put, List.setIfInBounds_toArray, List.set_cons_zero, List.set_cons_succ]
      refine wpAnyH_take (i := 16) (v := ?v4017) (at_list rfl) (by kernel_rfl) (by kernel_rfl) (by kernel_rfl) (fun _ _ _ h => h) (Or.inl ⟨by rfl, ?hy4017⟩) (by assumption) ?rest4017
      case hy4017 => intro w hSw; (try dsimp only at hSw); go_simp; try (with_reducible rfl)
      case rest4017 =>
      try simp only [Act.put, List.setIfInBounds_toArray, List.set_cons_zero, List.set_cons_succ]
      refine wpAnyH_take (i := 17) (v := .int .i64 (2 * (a.length : Int))) (at_list rfl) (by kernel_rfl) (by kernel_rfl) (by kernel_rfl) (fun _ _ _ h => h) (Or.inl ⟨by rfl, ?hy4018⟩) (by assumption) ?rest4018
      case hy4018 => intro w hSw; (try dsimp only at hSw); go_simp; try (with_reducible rfl)
      case rest4018 =>
      try simp only [Act.put, List.setIfInBounds_toArray, List.set_cons_zero, List.set_cons_succ]
      refine wpAnyH_take (i := 18) (v := ?v4019) (at_list rfl) (by kernel_rfl) (by kernel_rfl) (by kernel_rfl) (fun _ _ _ h => h) (Or.inl ⟨by rfl, ?hy4019⟩) (by assumption) ?rest4019
      case hy4019 => intro w hSw; (try dsimp only at hSw); go_simp; try (with_reducible rfl)
      case rest4019 =>
      try simp only [Act.put, List.setIfInBounds_toArray, List.set_cons_zero, List.set_cons_succ]
      refine wpAnyH_take (i := 19) (v := .bool true) (at_list rfl) (by kernel_rfl) (by kernel_rfl) (by kernel_rfl) (fun _ _ _ h => h) (Or.inl ⟨by rfl, ?hy4020⟩) (by assumption) ?rest4020
      case hy4020 => intro w hSw; (try dsimp only at hSw); go_simp; try (with_reducible rfl)
      case rest4020 =>
      try simp only [Act.put, List.setIfInBounds_toArray, List.set_cons_zero, List.set_cons_succ]
      refine wpAnyH_take (i := 20) (v := ?v4021) (at_list rfl) (by kernel_rfl) (by kernel_rfl) (by kernel_rfl) (fun _ _ _ h => h) (Or.inl ⟨by rfl, ?hy4021⟩) (by assumption) ?rest4021
      case hy4021 => intro w hSw; (try dsimp only at hSw); go_simp; try (with_reducible rfl)
      case rest4021 =>
      try simp only [Act.put, List.setIfInBounds_toArray, List.set_cons_zero, List.set_cons_succ]
      refine wpAnyH_take (i := 21) (v := undef) (at_list rfl) (by kernel_rfl) (by kernel_rfl) (by kernel_rfl) (fun _ _ _ h => h) (Or.inr ⟨by rfl, rfl⟩) (by assumption) ?rest4022
      case rest4022 =>
      try simp only [Act.put, List.setIfInBounds_toArray, List.set_cons_zero, List.set_cons_succ]
      refine wpAnyH_take (i := 22) (v := undef) (at_list rfl) (by kernel_rfl) (by kernel_rfl) (by kernel_rfl) (fun _ _ _ h => h) (Or.inr ⟨by rfl, rfl⟩) (by assumption) ?rest4023
      case rest4023 =>
      try simp only [Act.put, List.setIfInBounds_toArray, List.set_cons_zero, List.set_cons_succ]
      refine wpAnyH_take (i := 23) (v := undef) (at_list rfl) (by kernel_rfl) (by kernel_rfl) (by kernel_rfl) (fun _ _ _ h => h) (Or.inr ⟨by rfl, rfl⟩) (by assumption) ?rest4024
      case rest4024 =>
      try simp only [Act.put, List.setIfInBounds_toArray, List.set_cons_zero, List.set_cons_succ]
      refine wpAnyH_take (i := 24) (v := ?v4025) (at_list rfl) (by kernel_rfl) (by kernel_rfl) (by kernel_rfl) (fun _ _ _ h => h) (Or.inl ⟨by rfl, ?hy4025⟩) (by assumption) ?rest4025
      case hy4025 => intro w hSw; (try dsimp only at hSw); go_simp; try (with_reducible rfl)
      case rest4025 =>
      try simp only [Act.put, List.setIfInBounds_toArray, List.set_cons_zero, List.set_cons_succ]
      refine wpAnyH_take (i := 25) (v := ?v4026) (at_list rfl) (by kernel_rfl) (by kernel_rfl) (by kernel_rfl) (fun _ _ _ h => h) (Or.inl ⟨by rfl, ?hy4026⟩) (by assumption) ?rest4026
      case hy4026 => intro w hSw; (try dsimp only at hSw); go_simp; try (with_reducible rfl)
      case rest4026 =>
      try simp only [Act.put, List.setIfInBounds_toArray, List.set_cons_zero, List.set_cons_succ]
      refine wpAnyH_take (i := 26) (v := ?v4027) (at_list rfl) (by kernel_rfl) (by kernel_rfl) (by kernel_rfl) (fun _ _ _ h => h) (Or.inl ⟨by rfl, ?hy4027⟩) (by assumption) ?rest4027
      case hy4027 => intro w hSw; (try dsimp only at hSw); go_simp; try (with_reducible rfl)
      case rest4027 =>
      try simp only [Act.put, List.setIfInBounds_toArray, List.set_cons_zero, List.set_cons_succ]
      refine wpAnyH_take (i := 27) (v := ?v4028) (at_list rfl) (by kernel_rfl) (by kernel_rfl) (by kernel_rfl) (fun _ _ _ h => h) (Or.inl ⟨by rfl, ?hy4028⟩) (by assumption) ?rest4028
      case hy4028 => intro w hSw; (try dsimp only at hSw); go_simp; try (with_reducible rfl)
      case rest4028 =>
      try simp only [Act.put, List.setIfInBounds_toArray, List.set_cons_zero, List.set_cons_succ]
      refine wpAnyH_take (i := 29) (v := ?v4029) (at_list rfl) (by kernel_rfl) (by kernel_rfl) (by kernel_rfl) (fun _ _ _ h => h) (Or.inl ⟨by rfl, ?hy4029⟩) (by assumption) ?rest4029
      case hy4029 => intro w hSw; (try dsimp only at hSw); go_simp; try (with_reducible rfl)
      case rest4029 =>
      try simp only [Act.put, List.setIfInBounds_toArray, List.set_cons_zero, List.set_cons_succ]
      refine wpAnyH_ready (rs := [28]) (by kernel_rfl) (by simp) ?_
      refine AllReadyH.cons (at_list rfl) (fun K hK => ?_) AllReadyH.nil
      go_simp
      go_at_call 52; refine (HF1.out _ _ _ (by exact HA.out.below (Bx.out (by (first | with_reducible assumption | with_reducible exact bx_alloc (by with_reducible assumption) _ | with_reducible exact bx_drew (by with_reducible assumption) | with_reducible exact bx_drew (bx_alloc (by with_reducible assumption) _)))))).mono ?_; rintro e w26 ⟨rfl, bw26⟩; have hBw26 : Bx (Below wz.heap.size wz w26) := bx_to (by (first | with_reducible assumption | with_reducible exact bx_alloc (by with_reducible assumption) _ | with_reducible exact bx_drew (by with_reducible assumption) | with_reducible exact bx_drew (bx_alloc (by with_reducible assumption) _))) bw26; have hzw26 := bx_size hBw26; have kga0_w26 := ((bcell hBw26.out).1 _ _ lt_ga).trans kga0; have kga1_w26 := ((bcell hBw26.out).1 _ _ lt_ga).trans kga1; have kgm0_w26 := ((bcell hBw26.out).1 _ _ lt_gm).trans kgm0; have kgm1_w26 := ((bcell hBw26.out).1 _ _ lt_gm).trans kgm1; have kgh0_w26 := ((bcell hBw26.out).1 _ _ lt_gh).trans kgh0; have kgh1_w26 := ((bcell hBw26.out).1 _ _ lt_gh).trans kgh1; have kgo0_w26 := ((bcell hBw26.out).1 _ _ lt_go).trans kgo0; have kgo1_w26 := ((bcell hBw26.out).1 _ _ lt_go).trans kgo1
      refine hK.out _ _ ?hS4030 (fun hHeld => ?rest4030)
      case hS4030 => (try dsimp only); (refine (fun (hK : Bx (Below wz.heap.size wz _)) => ⟨((bcell hK.out).1 _ _ lt_ga).trans kga0, ((bcell hK.out).1 _ _ lt_ga).trans kga1, ((bcell hK.out).1 _ _ lt_gm).trans kgm0, ((bcell hK.out).1 _ _ lt_gm).trans kgm1, ((bcell hK.out).1 _ _ lt_gh).trans kgh0, ((bcell hK.out).1 _ _ lt_gh).trans kgh1, ((bcell hK.out).1 _ _ lt_go).trans kgo0, ((bcell hK.out).1 _ _ lt_go).trans kgo1, hK⟩) ?_; (first | with_reducible assumption | with_reducible exact bx_alloc (by with_reducible assumption) _ | with_reducible exact bx_drew (by with_reducible assumption) | with_reducible exact bx_drew (bx_alloc (by with_reducible assumption) _)))
      case rest4030 =>
      clear hK K
      try simp only [Act.put, List.setIfInBounds_toArray, List.set_cons_zero, List.set_cons_succ]
      refine wpAnyH_ready (rs := [30]) (by kernel_rfl) (by simp) ?_
      refine AllReadyH.cons (at_list rfl) (fun K hK => ?_) AllReadyH.nil
      go_simp
      go_at_call 52; refine (HF2.out _ _ _ (by exact HOr.out.below (Bx.out (by (first | with_reducible assumption | with_reducible exact bx_alloc (by with_reducible assumption) _ | with_reducible exact bx_drew (by with_reducible assumption) | with_reducible exact bx_drew (bx_alloc (by with_reducible assumption) _)))))).mono ?_; rintro e w27 ⟨rfl, bw27⟩; have hBw27 : Bx (Below wz.heap.size wz w27) := bx_to (by (first | with_reducible assumption | with_reducible exact bx_alloc (by with_reducible assumption) _ | with_reducible exact bx_drew (by with_reducible assumption) | with_reducible exact bx_drew (bx_alloc (by with_reducible assumption) _))) bw27; have hzw27 := bx_size hBw27; have kga0_w27 := ((bcell hBw27.out).1 _ _ lt_ga).trans kga0; have kga1_w27 := ((bcell hBw27.out).1 _ _ lt_ga).trans kga1; have kgm0_w27 := ((bcell hBw27.out).1 _ _ lt_gm).trans kgm0; have kgm1_w27 := ((bcell hBw27.out).1 _ _ lt_gm).trans kgm1; have kgh0_w27 := ((bcell hBw27.out).1 _ _ lt_gh).trans kgh0; have kgh1_w27 := ((bcell hBw27.out).1 _ _ lt_gh).trans kgh1; have kgo0_w27 := ((bcell hBw27.out).1 _ _ lt_go).trans kgo0; have kgo1_w27 := ((bcell hBw27.out).1 _ _ lt_go).trans kgo1
      refine hK.out _ _ ?hS4031 (fun hHeld => ?rest4031)
      case hS4031 => (try dsimp only); (refine (fun (hK : Bx (Below wz.heap.size wz _)) => ⟨((bcell hK.out).1 _ _ lt_ga).trans kga0, ((bcell hK.out).1 _ _ lt_ga).trans kga1, ((bcell hK.out).1 _ _ lt_gm).trans kgm0, ((bcell hK.out).1 _ _ lt_gm).trans kgm1, ((bcell hK.out).1 _ _ lt_gh).trans kgh0, ((bcell hK.out).1 _ _ lt_gh).trans kgh1, ((bcell hK.out).1 _ _ lt_go).trans kgo0, ((bcell hK.out).1 _ _ lt_go).trans kgo1, hK⟩) ?_; (first | with_reducible assumption | with_reducible exact bx_alloc (by with_reducible assumption) _ | with_reducible exact bx_drew (by with_reducible assumption) | with_reducible exact bx_drew (bx_alloc (by with_reducible assumption) _)))
      case rest4031 =>
      clear hK K
      try simp only [Act.put, List.setIfInBounds_toArray, List.set_cons_zero, List.set_cons_succ]
      refine wpAnyH_take (i := 31) (v := ?v4032) (at_list rfl) (by kernel_rfl) (by kernel_rfl) (by kernel_rfl) (fun _ _ _ h => h) (Or.inl ⟨by rfl, ?hy4032⟩) (by assumption) ?rest4032
      case hy4032 => intro w hSw; (try dsimp only at hSw); go_simp; try (with_reducible rfl)
      case rest4032 =>
      try simp only [Act.put, List.setIfInBounds_toArray, List.set_cons_zero, List.set_cons_succ]
      refine wpAnyH_take (i := 32) (v := ?v4033) (at_list rfl) (by kernel_rfl) (by kernel_rfl) (by kernel_rfl) (fun _ _ _ h => h) (Or.inl ⟨by rfl, ?hy4033⟩) (by assumption) ?rest4033
      case hy4033 => intro w hSw; (try dsimp only at hSw); go_simp; try (with_reducible rfl)
      case rest4033 =>
      try simp only [Act.put, List.setIfInBounds_toArray, List.set_cons_zero, List.set_cons_succ]
      refine wpAnyH_ready (rs := [33]) (by kernel_rfl) (by simp) ?_
      refine AllReadyH.cons (at_list rfl) (fun K hK => ?_) AllReadyH.nil
      go_simp
      refine hK.out _ _ ?hS4034 (fun hHeld => ?rest4034)
      case hS4034 => (try dsimp only); (refine (fun (hK : Bx (Below wz.heap.size wz _)) => ⟨((bcell hK.out).1 _ _ lt_ga).trans kga0, ((bcell hK.out).1 _ _ lt_ga).trans kga1, ((bcell hK.out).1 _ _ lt_gm).trans kgm0, ((bcell hK.out).1 _ _ lt_gm).trans kgm1, ((bcell hK.out).1 _ _ lt_gh).trans kgh0, ((bcell hK.out).1 _ _ lt_gh).trans kgh1, ((bcell hK.out).1 _ _ lt_go).trans kgo0, ((bcell hK.out).1 _ _ lt_go).trans kgo1, hK⟩) ?_; (first | with_reducible assumption | with_reducible exact bx_alloc (by with_reducible assumption) _ | with_reducible exact bx_drew (by with_reducible assumption) | with_reducible exact bx_drew (bx_alloc (by with_reducible assumption) _)))
      case rest4034 =>
      clear hK K
      try simp only [Act.put, List.setIfInBounds_toArray, List.set_cons_zero, List.set_cons_succ]
      refine wpAnyH_done (by kernel_rfl) ?_ _
      have b := hBw27.out
      replace kga0 := ((bcell b).1 _ _ lt_ga).trans kga0
      replace kga1 := ((bcell b).1 _ _ lt_ga).trans kga1
      replace kgo0 := ((bcell b).1 _ _ lt_go).trans kgo0
      replace kgo1 := ((bcell b).1 _ _ lt_go).trans kgo1
      replace kgm0 := ((bcell b).1 _ _ lt_gm).trans kgm0
      replace kgm1 := ((bcell b).1 _ _ lt_gm).trans kgm1
      replace kgh0 := ((bcell b).1 _ _ lt_gh).trans kgh0
      replace kgh1 := ((bcell b).1 _ _ lt_gh).trans kgh1
      replace lt_ga := Nat.lt_of_lt_of_le lt_ga b.size
      replace lt_go := Nat.lt_of_lt_of_le lt_go b.size
      replace lt_gm := Nat.lt_of_lt_of_le lt_gm b.size
      replace lt_gh := Nat.lt_of_lt_of_le lt_gh b.size
      replace HA := Bx.mk (HA.out.below b)
      replace HDr := Bx.mk (HDr.out.below b)
      replace HOr := Bx.mk (HOr.out.below b)
      replace HEr := Bx.mk (HEr.out.below b)
      replace HCr := Bx.mk (HCr.out.below b)
      replace HMr := Bx.mk (HMr.out.below b)
      replace HHr := Bx.mk (HHr.out.below b)
      replace bw := bw.trans (b.mono bw.size)
      clear b
      go_wp2_with fail
      go_ret
      exact ⟨rfl, bw⟩
end Go.Proofs.Ytlgiijibekobfaa
