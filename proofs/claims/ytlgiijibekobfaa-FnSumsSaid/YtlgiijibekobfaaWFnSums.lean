/- The law FnSums, walked. -/
import Derived.Test.YtlgiijibekobfaaRegM
import Derived.Test.YtlgiijibekobfaaDraw2
import Derived.Test.YtlgiijibekobfaaLawH
import Derived.Test.YtlgiijibekobfaaDiff
import Derived.Test.YtlgiijibekobfaaSumsPl
import Derived.Test.YtlgiijibekobfaaSumRh
import Derived.Test.YtlgiijibekobfaaTls
import Derived.Test.YtlgiijibekobfaaFinWords
import Derived.Test.YtlgiijibekobfaaBas
import Derived.Test.YtlgiijibekobfaaPer
import Derived.Deep.RegionHeld3
import Derived.Deep.DeepCutAuto
namespace Go.Proofs.Ytlgiijibekobfaa
open Go.RowKit

theorem br_of {w : World} {A : Option Addr} {n : Nat} {xs : List Int} (hn : n = xs.length) (hb : n ≤ 1048576) (h : AR .u8 w A xs) (hf : ∀ x ∈ xs, 0 ≤ x ∧ x ≤ 255) : BR w A n := by
  subst hn
  refine ⟨hb, fun h0 => ?_⟩
  obtain ⟨b, o, e, hlt, hc⟩ := h.2 h0
  refine ⟨b, o, e, hlt, fun k hk => ?_⟩
  have hx := hf _ (List.getElem_mem hk)
  obtain ⟨y, hy⟩ := Int.eq_ofNat_of_zero_le hx.1
  refine ⟨y, by omega, ?_⟩
  rw [hc k hk, List.getElem?_eq_getElem hk, ← hy]; rfl
set_option maxHeartbeats 16000000 in
set_option maxRecDepth 100000 in
theorem walkFnSums (w : World) (A0 : Option Addr) (c0 : Nat) (xs0 : List Int) (ha0 : AR .u8 w A0 xs0) (hf0 : ∀ x ∈ xs0, 0 ≤ x ∧ x ≤ 255) :
    Calls Try.prog 5 #[.slice A0 xs0.length c0] w fun e w' => e = .returned (.bool true) ∧ Below w.heap.size w w' := by
  obtain ⟨n0, hn0⟩ : ∃ n0, n0 = xs0.length := ⟨_, rfl⟩
  by_cases hbig : n0 ≤ 1048576
  rotate_left
  · have hgt : (n0 : Int) > 1048576 := by omega
    rw [← hn0]
    clear hn0
    go_enter Try.func5, Try.ntmps5
    go_wp2_with fail
    go_ret
    exact ⟨rfl, Below.refl _ _⟩
  have HB : Bx (BR w A0 n0) := ⟨br_of hn0 hbig ha0 hf0⟩
  have bw : Below w.heap.size w w := Below.refl _ _
  have hgt : ¬ (n0 : Int) > 1048576 := by omega
  rw [← hn0]
  clear hn0 ha0 hf0
  go_enter Try.func5, Try.ntmps5
  go_wp2_with fail
  refine (makeNum_any _ _ _ 0 _ (by omega) (by exact HB.out)).mono ?_
  rintro e w1 ⟨q1, hq1, rfl, b⟩
  replace HB := Bx.mk (HB.out.below b)
  replace bw := bw.trans (b.mono bw.size)
  clear b
  obtain ⟨m, hm⟩ : ∃ m : Nat, m = q1 % 14 := ⟨_, rfl⟩
  have hmb : m ≤ 13 := by omega
  have hme : (q1 : Int) % 14 = (m : Int) := by rw [hm]; exact (Int.natCast_emod q1 14).symm
  have hmt : (q1 : Int).tmod 14 = (m : Int) := by rw [hm]; exact (Int.ofNat_tmod q1 14).symm
  obtain ⟨n, hn⟩ : ∃ n : Nat, n = 1 + m := ⟨_, rfl⟩
  have hni : (1 : Int) + (m : Int) = (n : Int) := by omega
  have hn1 : 1 ≤ n := by omega
  have hn14 : n ≤ 14 := by omega
  clear hm hn
  go_wp2_with fail
  refine (makeOf_any _ _ _ 2 n _ (by omega) hn1 (by omega) (by exact HB.out)).mono ?_
  rintro e w2 ⟨a, haok, Aa, ca, rfl, io, b⟩
  clear hme hmt hni
  replace HB := Bx.mk (HB.out.below b)
  replace bw := bw.trans (b.mono bw.size)
  clear b
  have HAOK := Bx.mk haok
  have hal := (rhOk_len haok).1
  clear haok
  have HA := Bx.mk io.reads
  clear io
  obtain ⟨w3, hW⟩ : ∃ w3, w3 = w2.alloc (.cells #[.int .i64 n, .slice Aa a.length ca] 30) := ⟨_, rfl⟩
  obtain ⟨ga, hg⟩ : ∃ ga, ga = w2.heap.size := ⟨_, rfl⟩
  have b : Below w2.heap.size w2 w3 := by rw [hW]; exact below_alloc _ _
  have kga0 : w3.cell? ⟨ga, 0, none⟩ = some (.int .i64 n) := by rw [hW, hg]; simp [go_sem]
  have kga1 : w3.cell? ⟨ga, 1, none⟩ = some (.slice Aa a.length ca) := by rw [hW, hg]; simp [go_sem]
  have lt_ga : ga < w3.heap.size := by rw [hW, hg]; simp
  replace HA := Bx.mk (HA.out.below b)
  replace HB := Bx.mk (HB.out.below b)
  replace bw := bw.trans (b.mono bw.size)
  clear b
  go_upto_region 5 with (fail)
  rw [← hW, ← hg]
  clear hW hg
  go_wp2_with fail
  refine (makeOf_any _ _ _ 30 n _ (by omega) hn1 (by omega) (by exact HB.out)).mono ?_
  rintro e w4 ⟨b', hbok, Ab, cb, rfl, io, b⟩
  replace kga0 := ((bcell b).1 _ _ lt_ga).trans kga0
  replace kga1 := ((bcell b).1 _ _ lt_ga).trans kga1
  replace lt_ga := Nat.lt_of_lt_of_le lt_ga b.size
  replace HA := Bx.mk (HA.out.below b)
  replace HB := Bx.mk (HB.out.below b)
  replace bw := bw.trans (b.mono bw.size)
  clear b
  have HBOK := Bx.mk hbok
  have hbl := (rhOk_len hbok).1
  clear hbok
  have HBb := Bx.mk io.reads
  clear io
  obtain ⟨w5, hW⟩ : ∃ w5, w5 = w4.alloc (.cells #[.int .i64 n, .slice Ab b'.length cb] 30) := ⟨_, rfl⟩
  obtain ⟨gb, hg⟩ : ∃ gb, gb = w4.heap.size := ⟨_, rfl⟩
  have b : Below w4.heap.size w4 w5 := by rw [hW]; exact below_alloc _ _
  have kgb0 : w5.cell? ⟨gb, 0, none⟩ = some (.int .i64 n) := by rw [hW, hg]; simp [go_sem]
  have kgb1 : w5.cell? ⟨gb, 1, none⟩ = some (.slice Ab b'.length cb) := by rw [hW, hg]; simp [go_sem]
  have lt_gb : gb < w5.heap.size := by rw [hW, hg]; simp
  replace kga0 := ((bcell b).1 _ _ lt_ga).trans kga0
  replace kga1 := ((bcell b).1 _ _ lt_ga).trans kga1
  replace lt_ga := Nat.lt_of_lt_of_le lt_ga b.size
  replace HA := Bx.mk (HA.out.below b)
  replace HBb := Bx.mk (HBb.out.below b)
  replace HB := Bx.mk (HB.out.below b)
  replace bw := bw.trans (b.mono bw.size)
  clear b
  go_upto_region 6 with (fail)
  rw [← hW, ← hg]
  clear hW hg
  go_wp2_with fail
  have HTW : Bx (twoOk n a n b' = true) := ⟨twoOk_iff.2 ⟨HAOK.out, HBOK.out, rfl⟩⟩
  have HTV : Bx (twoOk n b' n a = true) := ⟨twoOk_iff.2 ⟨HBOK.out, HAOK.out, rfl⟩⟩
  have HN64 : Bx (-9223372036854775808 ≤ (n : Int) ∧ (n : Int) ≤ 9223372036854775807) := ⟨by omega⟩
  obtain ⟨C, hC⟩ : ∃ C, C = sumC n a b' := ⟨_, rfl⟩
  have HC1 : Bx (∀ A B c d W, IR W A a → IR W B b' → Calls Try.prog 36 #[.agg #[.int .i64 n, .slice A a.length c], .agg #[.int .i64 n, .slice B b'.length d]] W (GivesInts W C)) := ⟨fun A B c d W h1 h2 => by
    have := implSumCounts_any n n A B c d a b' W HN64.out HN64.out h1 h2
    rw [show sumCL n a n b' = C by unfold sumCL; rw [if_pos HTW.out, hC]] at this
    exact this⟩
  obtain ⟨S, hS⟩ : ∃ S, S = sumL n a b' := ⟨_, rfl⟩
  have HS1 : Bx (∀ A B c d W, IR W A a → IR W B b' → Calls Try.prog 37 #[.agg #[.int .i64 n, .slice A a.length c], .agg #[.int .i64 n, .slice B b'.length d]] W (GivesRB W n S true)) := ⟨fun A B c d W h1 h2 => by
    have := implSumRh_any n n A B c d a b' W HN64.out HN64.out h1 h2
    rw [show sumRs n a n b' = n by unfold sumRs; rw [if_pos HTW.out], show sumRl n a n b' = S by unfold sumRl; rw [if_pos HTW.out, hS], HTW.out] at this
    exact this⟩
  have HS2 : Bx (∀ A B c d W, IR W A b' → IR W B a → Calls Try.prog 37 #[.agg #[.int .i64 n, .slice A b'.length c], .agg #[.int .i64 n, .slice B a.length d]] W (GivesRB W n S true)) := ⟨fun A B c d W h1 h2 => by
    have := implSumRh_any n n A B c d b' a W HN64.out HN64.out h1 h2
    rw [show sumRs n b' n a = n by unfold sumRs; rw [if_pos HTV.out], show sumRl n b' n a = S by unfold sumRl; rw [if_pos HTV.out, hS, sumL_comm hn1], HTV.out] at this
    exact this⟩
  obtain ⟨Gp, hG⟩ : ∃ Gp, Gp = selTo (gapP C) n := ⟨_, rfl⟩
  have HG1 : Bx (∀ A B c d W, IR W A a → IR W B b' → Calls Try.prog 38 #[.agg #[.int .i64 n, .slice A a.length c], .agg #[.int .i64 n, .slice B b'.length d]] W (GivesInts W Gp)) := ⟨fun A B c d W h1 h2 => by
    have := implGaps_any n n A B c d a b' W HN64.out HN64.out h1 h2
    rw [show gapsL n a n b' = Gp by unfold gapsL; rw [if_pos HTW.out, Int.toNat_natCast, ← hC, hG]] at this
    exact this⟩
  have HCE := Bx.mk hC
  have HSE := Bx.mk hS
  have HGE := Bx.mk hG
  have HSOK : Bx (rhOk n S = true) := ⟨by rw [hS]; exact selTo_ok ⟨by omega, by omega⟩ _⟩
  have hSl : S.length ≤ 24 := (rhOk_len HSOK.out).1
  have HCl : Bx (C.length = n) := ⟨by rw [hC, sumC_len, Int.toNat_natCast]⟩
  have HGS : Bx (Gp.length + S.length = n) := ⟨by rw [hG, hS, hC]; unfold sumL; rw [Int.toNat_natCast]; exact gaps_rest hn1 a b'⟩
  obtain ⟨M, hM⟩ : ∃ M : Nat, M = a.length * b'.length := ⟨_, rfl⟩
  have hMb : M ≤ 576 := by rw [hM]; have := Nat.mul_le_mul hal hbl; omega
  have hMi : (a.length : Int) * (b'.length : Int) = (M : Int) := by rw [hM]; simp
  have hMw : IntKind.i64.wrap ((a.length : Int) * (b'.length : Int)) = (M : Int) := by rw [hMi]; exact IntWalk.i64_in _ (by omega)
  have HCS : Bx (C.sum = (M : Int)) := ⟨by rw [hC, sumC_sum (by omega), hM]⟩
  have HCB : Bx (∀ x ∈ C, 0 ≤ x ∧ x ≤ 100000) := ⟨fun x hx => by
    obtain ⟨i, hi⟩ := List.mem_iff_getElem?.1 hx
    rw [hC] at hi
    have := outC_bd (n : Int) a b' a.length i x hi
    rw [← hM] at this
    omega⟩
  have HMM := Bx.mk hM
  clear hC hS hG hM
  refine (HC1.out _ _ _ _ _ (by exact HA.out) (by exact HBb.out)).mono ?_
  rintro e w6 ⟨AC, cC, rfl, io, b⟩
  replace kga0 := ((bcell b).1 _ _ lt_ga).trans kga0
  replace kga1 := ((bcell b).1 _ _ lt_ga).trans kga1
  replace kgb0 := ((bcell b).1 _ _ lt_gb).trans kgb0
  replace kgb1 := ((bcell b).1 _ _ lt_gb).trans kgb1
  replace lt_ga := Nat.lt_of_lt_of_le lt_ga b.size
  replace lt_gb := Nat.lt_of_lt_of_le lt_gb b.size
  replace HA := Bx.mk (HA.out.below b)
  replace HBb := Bx.mk (HBb.out.below b)
  replace HB := Bx.mk (HB.out.below b)
  replace bw := bw.trans (b.mono bw.size)
  clear b
  have HCr := Bx.mk io.reads
  clear io
  go_wp2_with fail
  refine (HS1.out _ _ _ _ _ (by exact HA.out) (by exact HBb.out)).mono ?_
  rintro e w7 ⟨AS, cS, rfl, io, b⟩
  replace kga0 := ((bcell b).1 _ _ lt_ga).trans kga0
  replace kga1 := ((bcell b).1 _ _ lt_ga).trans kga1
  replace kgb0 := ((bcell b).1 _ _ lt_gb).trans kgb0
  replace kgb1 := ((bcell b).1 _ _ lt_gb).trans kgb1
  replace lt_ga := Nat.lt_of_lt_of_le lt_ga b.size
  replace lt_gb := Nat.lt_of_lt_of_le lt_gb b.size
  replace HA := Bx.mk (HA.out.below b)
  replace HBb := Bx.mk (HBb.out.below b)
  replace HCr := Bx.mk (HCr.out.below b)
  replace HB := Bx.mk (HB.out.below b)
  replace bw := bw.trans (b.mono bw.size)
  clear b
  have HSr := Bx.mk io.reads
  clear io
  obtain ⟨w8, hW⟩ : ∃ w8, w8 = w7.alloc (.cells #[.int .i64 n, .slice AS S.length cS] 30) := ⟨_, rfl⟩
  obtain ⟨gs, hg⟩ : ∃ gs, gs = w7.heap.size := ⟨_, rfl⟩
  have b : Below w7.heap.size w7 w8 := by rw [hW]; exact below_alloc _ _
  have kgs0 : w8.cell? ⟨gs, 0, none⟩ = some (.int .i64 n) := by rw [hW, hg]; simp [go_sem]
  have kgs1 : w8.cell? ⟨gs, 1, none⟩ = some (.slice AS S.length cS) := by rw [hW, hg]; simp [go_sem]
  have lt_gs : gs < w8.heap.size := by rw [hW, hg]; simp
  replace kga0 := ((bcell b).1 _ _ lt_ga).trans kga0
  replace kga1 := ((bcell b).1 _ _ lt_ga).trans kga1
  replace kgb0 := ((bcell b).1 _ _ lt_gb).trans kgb0
  replace kgb1 := ((bcell b).1 _ _ lt_gb).trans kgb1
  replace lt_ga := Nat.lt_of_lt_of_le lt_ga b.size
  replace lt_gb := Nat.lt_of_lt_of_le lt_gb b.size
  replace HA := Bx.mk (HA.out.below b)
  replace HBb := Bx.mk (HBb.out.below b)
  replace HCr := Bx.mk (HCr.out.below b)
  replace HSr := Bx.mk (HSr.out.below b)
  replace HB := Bx.mk (HB.out.below b)
  replace bw := bw.trans (b.mono bw.size)
  clear b
  go_upto_region 8 with (fail)
  rw [← hW, ← hg]
  clear hW hg
  go_wp2_with fail
  refine (HS2.out _ _ _ _ _ (by exact HBb.out) (by exact HA.out)).mono ?_
  rintro e w9 ⟨AT, cT, rfl, io, b⟩
  replace kga0 := ((bcell b).1 _ _ lt_ga).trans kga0
  replace kga1 := ((bcell b).1 _ _ lt_ga).trans kga1
  replace kgb0 := ((bcell b).1 _ _ lt_gb).trans kgb0
  replace kgb1 := ((bcell b).1 _ _ lt_gb).trans kgb1
  replace kgs0 := ((bcell b).1 _ _ lt_gs).trans kgs0
  replace kgs1 := ((bcell b).1 _ _ lt_gs).trans kgs1
  replace lt_ga := Nat.lt_of_lt_of_le lt_ga b.size
  replace lt_gb := Nat.lt_of_lt_of_le lt_gb b.size
  replace lt_gs := Nat.lt_of_lt_of_le lt_gs b.size
  replace HA := Bx.mk (HA.out.below b)
  replace HBb := Bx.mk (HBb.out.below b)
  replace HCr := Bx.mk (HCr.out.below b)
  replace HSr := Bx.mk (HSr.out.below b)
  replace HB := Bx.mk (HB.out.below b)
  replace bw := bw.trans (b.mono bw.size)
  clear b
  have HTr := Bx.mk io.reads
  clear io
  obtain ⟨w10, hW⟩ : ∃ w10, w10 = w9.alloc (.cells #[.int .i64 n, .slice AT S.length cT] 30) := ⟨_, rfl⟩
  obtain ⟨gt, hg⟩ : ∃ gt, gt = w9.heap.size := ⟨_, rfl⟩
  have b : Below w9.heap.size w9 w10 := by rw [hW]; exact below_alloc _ _
  have kgt0 : w10.cell? ⟨gt, 0, none⟩ = some (.int .i64 n) := by rw [hW, hg]; simp [go_sem]
  have kgt1 : w10.cell? ⟨gt, 1, none⟩ = some (.slice AT S.length cT) := by rw [hW, hg]; simp [go_sem]
  have lt_gt : gt < w10.heap.size := by rw [hW, hg]; simp
  replace kga0 := ((bcell b).1 _ _ lt_ga).trans kga0
  replace kga1 := ((bcell b).1 _ _ lt_ga).trans kga1
  replace kgb0 := ((bcell b).1 _ _ lt_gb).trans kgb0
  replace kgb1 := ((bcell b).1 _ _ lt_gb).trans kgb1
  replace kgs0 := ((bcell b).1 _ _ lt_gs).trans kgs0
  replace kgs1 := ((bcell b).1 _ _ lt_gs).trans kgs1
  replace lt_ga := Nat.lt_of_lt_of_le lt_ga b.size
  replace lt_gb := Nat.lt_of_lt_of_le lt_gb b.size
  replace lt_gs := Nat.lt_of_lt_of_le lt_gs b.size
  replace HA := Bx.mk (HA.out.below b)
  replace HBb := Bx.mk (HBb.out.below b)
  replace HCr := Bx.mk (HCr.out.below b)
  replace HSr := Bx.mk (HSr.out.below b)
  replace HTr := Bx.mk (HTr.out.below b)
  replace HB := Bx.mk (HB.out.below b)
  replace bw := bw.trans (b.mono bw.size)
  clear b
  go_upto_region 9 with (fail)
  rw [← hW, ← hg]
  clear hW hg
  go_wp2_with fail
  refine (HG1.out _ _ _ _ _ (by exact HA.out) (by exact HBb.out)).mono ?_
  rintro e w11 ⟨AG, cG, rfl, io, b⟩
  replace kga0 := ((bcell b).1 _ _ lt_ga).trans kga0
  replace kga1 := ((bcell b).1 _ _ lt_ga).trans kga1
  replace kgb0 := ((bcell b).1 _ _ lt_gb).trans kgb0
  replace kgb1 := ((bcell b).1 _ _ lt_gb).trans kgb1
  replace kgs0 := ((bcell b).1 _ _ lt_gs).trans kgs0
  replace kgs1 := ((bcell b).1 _ _ lt_gs).trans kgs1
  replace kgt0 := ((bcell b).1 _ _ lt_gt).trans kgt0
  replace kgt1 := ((bcell b).1 _ _ lt_gt).trans kgt1
  replace lt_ga := Nat.lt_of_lt_of_le lt_ga b.size
  replace lt_gb := Nat.lt_of_lt_of_le lt_gb b.size
  replace lt_gs := Nat.lt_of_lt_of_le lt_gs b.size
  replace lt_gt := Nat.lt_of_lt_of_le lt_gt b.size
  replace HA := Bx.mk (HA.out.below b)
  replace HBb := Bx.mk (HBb.out.below b)
  replace HCr := Bx.mk (HCr.out.below b)
  replace HSr := Bx.mk (HSr.out.below b)
  replace HTr := Bx.mk (HTr.out.below b)
  replace HB := Bx.mk (HB.out.below b)
  replace bw := bw.trans (b.mono bw.size)
  clear b
  have HGr := Bx.mk io.reads
  clear io
  have HRH : Bx (∀ A B c d W, IR W A S → IR W B S → Calls Try.prog 39 #[.agg #[.int .i64 n, .slice A S.length c], .agg #[.int .i64 n, .slice B S.length d]] W fun e w' => e = .returned (.bool true) ∧ Below W.heap.size W w') := ⟨fun A B c d W h1 h2 => by
    have := lawRhythms_any n n A B c d S S W h1 h2
    simpa using this⟩
  have HSM : Bx (∀ A c W, IR W A C → Calls Try.prog 40 #[.slice A C.length c] W fun e w' => e = .returned (.int .i64 (M : Int)) ∧ W = w') := ⟨fun A c W h => by
    have := lawSum_any A c C W HCB.out (by rw [HCl.out]; omega) h
    rw [HCS.out] at this
    exact this⟩
  have hcb1 : (((C.length : Nat) : Int) != ((n : Nat) : Int)) = false := by rw [bne_eq_false_iff_eq, HCl.out]
  have hcb2 : (((C.length : Nat) : Int) == ((n : Nat) : Int)) = true := by rw [beq_iff_eq, HCl.out]
  have hgi : (Gp.length : Int) + (S.length : Int) = (n : Int) := by have := HGS.out; omega
  have hgw : IntKind.i64.wrap ((Gp.length : Int) + (S.length : Int)) = (n : Int) := by rw [hgi]; exact IntWalk.i64_in _ (by omega)
  have hMz : IntKind.i64.wrap (M : Int) = (M : Int) := IntWalk.i64_in _ (by omega)
  have hgz : IntKind.i64.wrap (n : Int) = (n : Int) := IntWalk.i64_in _ (by omega)
  have hMM : (((M : Nat) : Int) != ((M : Nat) : Int)) = false := by simp
  have hnn : (((n : Nat) : Int) != ((n : Nat) : Int)) = false := by simp
  go_upto_region 10 with (fail)
  have hB : Bx (Below w11.heap.size w11 w11.drew) := ⟨(Below.refl _ _).drew⟩
  have hB0 : Bx (Below w11.heap.size w11 w11) := ⟨Below.refl _ _⟩
  have kgs0_d : w11.drew.cell? _ = _ := kgs0
  have kgs1_d : w11.drew.cell? _ = _ := kgs1
  have kgt0_d : w11.drew.cell? _ = _ := kgt0
  have kgt1_d : w11.drew.cell? _ = _ := kgt1
  have kga1_d : w11.drew.cell? _ = _ := kga1
  have kgb1_d : w11.drew.cell? _ = _ := kgb1
  go_region_held3 (fun w' => w'.cell? ⟨gs, 0, none⟩ = some (.int .i64 n) ∧ w'.cell? ⟨gs, 1, none⟩ = some (.slice AS S.length cS) ∧ w'.cell? ⟨gt, 0, none⟩ = some (.int .i64 n) ∧ w'.cell? ⟨gt, 1, none⟩ = some (.slice AT S.length cT) ∧ w'.cell? ⟨ga, 1, none⟩ = some (.slice Aa a.length ca) ∧ w'.cell? ⟨gb, 1, none⟩ = some (.slice Ab b'.length cb) ∧ Bx (Below w11.heap.size w11 w'))
    ((refine (fun (hK : Bx (Below w11.heap.size w11 _)) => ⟨((bcell hK.out).1 _ _ lt_gs).trans kgs0, ((bcell hK.out).1 _ _ lt_gs).trans kgs1, ((bcell hK.out).1 _ _ lt_gt).trans kgt0, ((bcell hK.out).1 _ _ lt_gt).trans kgt1, ((bcell hK.out).1 _ _ lt_ga).trans kga1, ((bcell hK.out).1 _ _ lt_gb).trans kgb1, hK⟩) ?_; (first | with_reducible assumption | with_reducible exact bx_alloc (by with_reducible assumption) _ | with_reducible exact bx_drew (by with_reducible assumption) | with_reducible exact bx_drew (bx_alloc (by with_reducible assumption) _))))
    (first
      | (go_at_call 39; refine (HRH.out _ _ _ _ _ (by exact HSr.out.below (Bx.out (by (first | with_reducible assumption | with_reducible exact bx_alloc (by with_reducible assumption) _ | with_reducible exact bx_drew (by with_reducible assumption) | with_reducible exact bx_drew (bx_alloc (by with_reducible assumption) _))))) (by exact HTr.out.below (Bx.out (by (first | with_reducible assumption | with_reducible exact bx_alloc (by with_reducible assumption) _ | with_reducible exact bx_drew (by with_reducible assumption) | with_reducible exact bx_drew (bx_alloc (by with_reducible assumption) _)))))).mono ?_; rintro e w12 ⟨rfl, bw12⟩; have hBw12 : Bx (Below w11.heap.size w11 w12) := bx_to (by (first | with_reducible assumption | with_reducible exact bx_alloc (by with_reducible assumption) _ | with_reducible exact bx_drew (by with_reducible assumption) | with_reducible exact bx_drew (bx_alloc (by with_reducible assumption) _))) bw12; have hzw12 := bx_size hBw12; have kgs0_w12 := ((bcell hBw12.out).1 _ _ lt_gs).trans kgs0; have kgs1_w12 := ((bcell hBw12.out).1 _ _ lt_gs).trans kgs1; have kgt0_w12 := ((bcell hBw12.out).1 _ _ lt_gt).trans kgt0; have kgt1_w12 := ((bcell hBw12.out).1 _ _ lt_gt).trans kgt1; have kga1_w12 := ((bcell hBw12.out).1 _ _ lt_ga).trans kga1; have kgb1_w12 := ((bcell hBw12.out).1 _ _ lt_gb).trans kgb1)
      | (go_at_call 40; refine (HSM.out _ _ _ (by exact HCr.out.below (Bx.out (by (first | with_reducible assumption | with_reducible exact bx_alloc (by with_reducible assumption) _ | with_reducible exact bx_drew (by with_reducible assumption) | with_reducible exact bx_drew (bx_alloc (by with_reducible assumption) _)))))).mono ?_; rintro e w' ⟨rfl, rfl⟩)
      | (go_at_call 16; refine (countBeats_ok _ _ _ _ _ HSOK.out (by exact HSr.out.below (Bx.out (by (first | with_reducible assumption | with_reducible exact bx_alloc (by with_reducible assumption) _ | with_reducible exact bx_drew (by with_reducible assumption) | with_reducible exact bx_drew (bx_alloc (by with_reducible assumption) _)))))).mono ?_; rintro e w14 ⟨rfl, bw14⟩; have hBw14 : Bx (Below w11.heap.size w11 w14) := bx_to (by (first | with_reducible assumption | with_reducible exact bx_alloc (by with_reducible assumption) _ | with_reducible exact bx_drew (by with_reducible assumption) | with_reducible exact bx_drew (bx_alloc (by with_reducible assumption) _))) bw14; have hzw14 := bx_size hBw14; have kgs0_w14 := ((bcell hBw14.out).1 _ _ lt_gs).trans kgs0; have kgs1_w14 := ((bcell hBw14.out).1 _ _ lt_gs).trans kgs1; have kgt0_w14 := ((bcell hBw14.out).1 _ _ lt_gt).trans kgt0; have kgt1_w14 := ((bcell hBw14.out).1 _ _ lt_gt).trans kgt1; have kga1_w14 := ((bcell hBw14.out).1 _ _ lt_ga).trans kga1; have kgb1_w14 := ((bcell hBw14.out).1 _ _ lt_gb).trans kgb1))
  have b := hBw14.out
  replace kga0 := ((bcell b).1 _ _ lt_ga).trans kga0
  replace kga1 := ((bcell b).1 _ _ lt_ga).trans kga1
  replace kgb0 := ((bcell b).1 _ _ lt_gb).trans kgb0
  replace kgb1 := ((bcell b).1 _ _ lt_gb).trans kgb1
  replace kgs0 := ((bcell b).1 _ _ lt_gs).trans kgs0
  replace kgs1 := ((bcell b).1 _ _ lt_gs).trans kgs1
  replace kgt0 := ((bcell b).1 _ _ lt_gt).trans kgt0
  replace kgt1 := ((bcell b).1 _ _ lt_gt).trans kgt1
  replace lt_ga := Nat.lt_of_lt_of_le lt_ga b.size
  replace lt_gb := Nat.lt_of_lt_of_le lt_gb b.size
  replace lt_gs := Nat.lt_of_lt_of_le lt_gs b.size
  replace lt_gt := Nat.lt_of_lt_of_le lt_gt b.size
  replace HA := Bx.mk (HA.out.below b)
  replace HBb := Bx.mk (HBb.out.below b)
  replace HCr := Bx.mk (HCr.out.below b)
  replace HSr := Bx.mk (HSr.out.below b)
  replace HTr := Bx.mk (HTr.out.below b)
  replace HGr := Bx.mk (HGr.out.below b)
  replace HB := Bx.mk (HB.out.below b)
  replace bw := bw.trans (b.mono bw.size)
  clear b
  clear hcb1 hcb2 hgi hgw hMi hMw hMz hgz hMM hnn
  go_wp2_with fail
  refine (makeNum_any _ _ _ 60 _ (by omega) (by exact HB.out)).mono ?_
  rintro e w15 ⟨q2, hq2, rfl, b⟩
  replace kga0 := ((bcell b).1 _ _ lt_ga).trans kga0
  replace kga1 := ((bcell b).1 _ _ lt_ga).trans kga1
  replace kgb0 := ((bcell b).1 _ _ lt_gb).trans kgb0
  replace kgb1 := ((bcell b).1 _ _ lt_gb).trans kgb1
  replace kgs0 := ((bcell b).1 _ _ lt_gs).trans kgs0
  replace kgs1 := ((bcell b).1 _ _ lt_gs).trans kgs1
  replace kgt0 := ((bcell b).1 _ _ lt_gt).trans kgt0
  replace kgt1 := ((bcell b).1 _ _ lt_gt).trans kgt1
  replace lt_ga := Nat.lt_of_lt_of_le lt_ga b.size
  replace lt_gb := Nat.lt_of_lt_of_le lt_gb b.size
  replace lt_gs := Nat.lt_of_lt_of_le lt_gs b.size
  replace lt_gt := Nat.lt_of_lt_of_le lt_gt b.size
  replace HA := Bx.mk (HA.out.below b)
  replace HBb := Bx.mk (HBb.out.below b)
  replace HCr := Bx.mk (HCr.out.below b)
  replace HSr := Bx.mk (HSr.out.below b)
  replace HTr := Bx.mk (HTr.out.below b)
  replace HGr := Bx.mk (HGr.out.below b)
  replace HB := Bx.mk (HB.out.below b)
  replace bw := bw.trans (b.mono bw.size)
  clear b
  obtain ⟨k, hk⟩ : ∃ k : Nat, k = q2 % n := ⟨_, rfl⟩
  have hkn : k < n := by rw [hk]; exact Nat.mod_lt _ (by omega)
  have hke : (q2 : Int) % (n : Int) = (k : Int) := by rw [hk]; exact (Int.natCast_emod q2 n).symm
  have hkt : (q2 : Int).tmod (n : Int) = (k : Int) := by rw [hk]; exact (Int.ofNat_tmod q2 n).symm
  have hnz : ¬ (n : Int) = 0 := by omega
  clear hk
  obtain ⟨X, hX⟩ : ∃ X, X = rotL n a (k : Int) := ⟨_, rfl⟩
  have HRX : Bx (∀ A c W, IR W A a → Calls Try.prog 41 #[.agg #[.int .i64 n, .slice A a.length c], .int .i64 k] W (GivesRB W n X true)) := ⟨fun A c W h => by rw [hX]; exact rotate_ok n A c a k W HAOK.out h ⟨by omega, by omega⟩⟩
  obtain ⟨Z, hZ⟩ : ∃ Z, Z = rotL n S (k : Int) := ⟨_, rfl⟩
  have HRZ : Bx (∀ A c W, IR W A S → Calls Try.prog 41 #[.agg #[.int .i64 n, .slice A S.length c], .int .i64 k] W (GivesRB W n Z true)) := ⟨fun A c W h => by rw [hZ]; exact rotate_ok n A c S k W HSOK.out h ⟨by omega, by omega⟩⟩
  have HXOK : Bx (rhOk n X = true) := ⟨by rw [hX]; exact rot_ok hn1 (by omega) _⟩
  have hXl : X.length ≤ 24 := (rhOk_len HXOK.out).1
  have HS3 : Bx (∀ A B c d W, IR W A X → IR W B b' → Calls Try.prog 37 #[.agg #[.int .i64 n, .slice A X.length c], .agg #[.int .i64 n, .slice B b'.length d]] W (GivesRB W n Z true)) := ⟨fun A B c d W h1 h2 => by
    have := implSumRh_any n n A B c d X b' W HN64.out HN64.out h1 h2
    have ht : twoOk n X n b' = true := twoOk_iff.2 ⟨HXOK.out, HBOK.out, rfl⟩
    rw [show sumRs n X n b' = n by unfold sumRs; rw [if_pos ht], show sumRl n X n b' = Z by unfold sumRl; rw [if_pos ht, hX, sum_rot hn1, hZ, HSE.out], ht] at this
    exact this⟩
  obtain ⟨D, hD⟩ : ∃ D, D = difC n a := ⟨_, rfl⟩
  obtain ⟨E, hE⟩ : ∃ E, E = difC n b' := ⟨_, rfl⟩
  have HDa : Bx (∀ A c W, IR W A a → Calls Try.prog 19 #[.agg #[.int .i64 n, .slice A a.length c]] W (GivesInts W D)) := ⟨fun A c W h => by rw [hD]; exact diffs_ok n A c a W HAOK.out h⟩
  have HDb : Bx (∀ A c W, IR W A b' → Calls Try.prog 19 #[.agg #[.int .i64 n, .slice A b'.length c]] W (GivesInts W E)) := ⟨fun A c W h => by rw [hE]; exact diffs_ok n A c b' W HBOK.out h⟩
  have HDl : Bx (D.length = n) := ⟨by rw [hD, difC_len, Int.toNat_natCast]⟩
  have HEl : Bx (E.length = n) := ⟨by rw [hE, difC_len, Int.toNat_natCast]⟩
  have HDv : Bx (∀ i : Nat, i < n → D[i]?.getD 0 = ((dfI n a i : Nat) : Int)) := ⟨fun i hi => by rw [hD]; exact difC_at (by omega) (by rw [Int.toNat_natCast]; exact hi)⟩
  have HEv : Bx (∀ i : Nat, i < n → E[i]?.getD 0 = ((dfI n b' i : Nat) : Int)) := ⟨fun i hi => by rw [hE]; exact difC_at (by omega) (by rw [Int.toNat_natCast]; exact hi)⟩
  clear hX hZ hD hE
  go_wp2_with fail
  refine (HRX.out _ _ _ (by exact HA.out)).mono ?_
  rintro e w16 ⟨AX, cX, rfl, io, b⟩
  clear hke hkt
  replace kga0 := ((bcell b).1 _ _ lt_ga).trans kga0
  replace kga1 := ((bcell b).1 _ _ lt_ga).trans kga1
  replace kgb0 := ((bcell b).1 _ _ lt_gb).trans kgb0
  replace kgb1 := ((bcell b).1 _ _ lt_gb).trans kgb1
  replace kgs0 := ((bcell b).1 _ _ lt_gs).trans kgs0
  replace kgs1 := ((bcell b).1 _ _ lt_gs).trans kgs1
  replace kgt0 := ((bcell b).1 _ _ lt_gt).trans kgt0
  replace kgt1 := ((bcell b).1 _ _ lt_gt).trans kgt1
  replace lt_ga := Nat.lt_of_lt_of_le lt_ga b.size
  replace lt_gb := Nat.lt_of_lt_of_le lt_gb b.size
  replace lt_gs := Nat.lt_of_lt_of_le lt_gs b.size
  replace lt_gt := Nat.lt_of_lt_of_le lt_gt b.size
  replace HA := Bx.mk (HA.out.below b)
  replace HBb := Bx.mk (HBb.out.below b)
  replace HCr := Bx.mk (HCr.out.below b)
  replace HSr := Bx.mk (HSr.out.below b)
  replace HTr := Bx.mk (HTr.out.below b)
  replace HGr := Bx.mk (HGr.out.below b)
  replace HB := Bx.mk (HB.out.below b)
  replace bw := bw.trans (b.mono bw.size)
  clear b
  have HXr := Bx.mk io.reads
  clear io
  obtain ⟨w17, hW⟩ : ∃ w17, w17 = w16.alloc (.cells #[.int .i64 n, .slice AX X.length cX] 30) := ⟨_, rfl⟩
  obtain ⟨gx, hg⟩ : ∃ gx, gx = w16.heap.size := ⟨_, rfl⟩
  have b : Below w16.heap.size w16 w17 := by rw [hW]; exact below_alloc _ _
  have kgx0 : w17.cell? ⟨gx, 0, none⟩ = some (.int .i64 n) := by rw [hW, hg]; simp [go_sem]
  have kgx1 : w17.cell? ⟨gx, 1, none⟩ = some (.slice AX X.length cX) := by rw [hW, hg]; simp [go_sem]
  have lt_gx : gx < w17.heap.size := by rw [hW, hg]; simp
  replace kga0 := ((bcell b).1 _ _ lt_ga).trans kga0
  replace kga1 := ((bcell b).1 _ _ lt_ga).trans kga1
  replace kgb0 := ((bcell b).1 _ _ lt_gb).trans kgb0
  replace kgb1 := ((bcell b).1 _ _ lt_gb).trans kgb1
  replace kgs0 := ((bcell b).1 _ _ lt_gs).trans kgs0
  replace kgs1 := ((bcell b).1 _ _ lt_gs).trans kgs1
  replace kgt0 := ((bcell b).1 _ _ lt_gt).trans kgt0
  replace kgt1 := ((bcell b).1 _ _ lt_gt).trans kgt1
  replace lt_ga := Nat.lt_of_lt_of_le lt_ga b.size
  replace lt_gb := Nat.lt_of_lt_of_le lt_gb b.size
  replace lt_gs := Nat.lt_of_lt_of_le lt_gs b.size
  replace lt_gt := Nat.lt_of_lt_of_le lt_gt b.size
  replace HA := Bx.mk (HA.out.below b)
  replace HBb := Bx.mk (HBb.out.below b)
  replace HCr := Bx.mk (HCr.out.below b)
  replace HSr := Bx.mk (HSr.out.below b)
  replace HTr := Bx.mk (HTr.out.below b)
  replace HGr := Bx.mk (HGr.out.below b)
  replace HXr := Bx.mk (HXr.out.below b)
  replace HB := Bx.mk (HB.out.below b)
  replace bw := bw.trans (b.mono bw.size)
  clear b
  go_upto_region 14 with (fail)
  rw [← hW, ← hg]
  clear hW hg
  go_wp2_with fail
  refine (HS3.out _ _ _ _ _ (by exact HXr.out) (by exact HBb.out)).mono ?_
  rintro e w18 ⟨AY, cY, rfl, io, b⟩
  replace kga0 := ((bcell b).1 _ _ lt_ga).trans kga0
  replace kga1 := ((bcell b).1 _ _ lt_ga).trans kga1
  replace kgb0 := ((bcell b).1 _ _ lt_gb).trans kgb0
  replace kgb1 := ((bcell b).1 _ _ lt_gb).trans kgb1
  replace kgs0 := ((bcell b).1 _ _ lt_gs).trans kgs0
  replace kgs1 := ((bcell b).1 _ _ lt_gs).trans kgs1
  replace kgt0 := ((bcell b).1 _ _ lt_gt).trans kgt0
  replace kgt1 := ((bcell b).1 _ _ lt_gt).trans kgt1
  replace kgx0 := ((bcell b).1 _ _ lt_gx).trans kgx0
  replace kgx1 := ((bcell b).1 _ _ lt_gx).trans kgx1
  replace lt_ga := Nat.lt_of_lt_of_le lt_ga b.size
  replace lt_gb := Nat.lt_of_lt_of_le lt_gb b.size
  replace lt_gs := Nat.lt_of_lt_of_le lt_gs b.size
  replace lt_gt := Nat.lt_of_lt_of_le lt_gt b.size
  replace lt_gx := Nat.lt_of_lt_of_le lt_gx b.size
  replace HA := Bx.mk (HA.out.below b)
  replace HBb := Bx.mk (HBb.out.below b)
  replace HCr := Bx.mk (HCr.out.below b)
  replace HSr := Bx.mk (HSr.out.below b)
  replace HTr := Bx.mk (HTr.out.below b)
  replace HGr := Bx.mk (HGr.out.below b)
  replace HXr := Bx.mk (HXr.out.below b)
  replace HB := Bx.mk (HB.out.below b)
  replace bw := bw.trans (b.mono bw.size)
  clear b
  have HYr := Bx.mk io.reads
  clear io
  obtain ⟨w19, hW⟩ : ∃ w19, w19 = w18.alloc (.cells #[.int .i64 n, .slice AY Z.length cY] 30) := ⟨_, rfl⟩
  obtain ⟨gy, hg⟩ : ∃ gy, gy = w18.heap.size := ⟨_, rfl⟩
  have b : Below w18.heap.size w18 w19 := by rw [hW]; exact below_alloc _ _
  have kgy0 : w19.cell? ⟨gy, 0, none⟩ = some (.int .i64 n) := by rw [hW, hg]; simp [go_sem]
  have kgy1 : w19.cell? ⟨gy, 1, none⟩ = some (.slice AY Z.length cY) := by rw [hW, hg]; simp [go_sem]
  have lt_gy : gy < w19.heap.size := by rw [hW, hg]; simp
  replace kga0 := ((bcell b).1 _ _ lt_ga).trans kga0
  replace kga1 := ((bcell b).1 _ _ lt_ga).trans kga1
  replace kgb0 := ((bcell b).1 _ _ lt_gb).trans kgb0
  replace kgb1 := ((bcell b).1 _ _ lt_gb).trans kgb1
  replace kgs0 := ((bcell b).1 _ _ lt_gs).trans kgs0
  replace kgs1 := ((bcell b).1 _ _ lt_gs).trans kgs1
  replace kgt0 := ((bcell b).1 _ _ lt_gt).trans kgt0
  replace kgt1 := ((bcell b).1 _ _ lt_gt).trans kgt1
  replace kgx0 := ((bcell b).1 _ _ lt_gx).trans kgx0
  replace kgx1 := ((bcell b).1 _ _ lt_gx).trans kgx1
  replace lt_ga := Nat.lt_of_lt_of_le lt_ga b.size
  replace lt_gb := Nat.lt_of_lt_of_le lt_gb b.size
  replace lt_gs := Nat.lt_of_lt_of_le lt_gs b.size
  replace lt_gt := Nat.lt_of_lt_of_le lt_gt b.size
  replace lt_gx := Nat.lt_of_lt_of_le lt_gx b.size
  replace HA := Bx.mk (HA.out.below b)
  replace HBb := Bx.mk (HBb.out.below b)
  replace HCr := Bx.mk (HCr.out.below b)
  replace HSr := Bx.mk (HSr.out.below b)
  replace HTr := Bx.mk (HTr.out.below b)
  replace HGr := Bx.mk (HGr.out.below b)
  replace HXr := Bx.mk (HXr.out.below b)
  replace HYr := Bx.mk (HYr.out.below b)
  replace HB := Bx.mk (HB.out.below b)
  replace bw := bw.trans (b.mono bw.size)
  clear b
  go_upto_region 15 with (fail)
  rw [← hW, ← hg]
  clear hW hg
  go_wp2_with fail
  refine (HRZ.out _ _ _ (by exact HSr.out)).mono ?_
  rintro e w20 ⟨AZ, cZ, rfl, io, b⟩
  replace kga0 := ((bcell b).1 _ _ lt_ga).trans kga0
  replace kga1 := ((bcell b).1 _ _ lt_ga).trans kga1
  replace kgb0 := ((bcell b).1 _ _ lt_gb).trans kgb0
  replace kgb1 := ((bcell b).1 _ _ lt_gb).trans kgb1
  replace kgs0 := ((bcell b).1 _ _ lt_gs).trans kgs0
  replace kgs1 := ((bcell b).1 _ _ lt_gs).trans kgs1
  replace kgt0 := ((bcell b).1 _ _ lt_gt).trans kgt0
  replace kgt1 := ((bcell b).1 _ _ lt_gt).trans kgt1
  replace kgx0 := ((bcell b).1 _ _ lt_gx).trans kgx0
  replace kgx1 := ((bcell b).1 _ _ lt_gx).trans kgx1
  replace kgy0 := ((bcell b).1 _ _ lt_gy).trans kgy0
  replace kgy1 := ((bcell b).1 _ _ lt_gy).trans kgy1
  replace lt_ga := Nat.lt_of_lt_of_le lt_ga b.size
  replace lt_gb := Nat.lt_of_lt_of_le lt_gb b.size
  replace lt_gs := Nat.lt_of_lt_of_le lt_gs b.size
  replace lt_gt := Nat.lt_of_lt_of_le lt_gt b.size
  replace lt_gx := Nat.lt_of_lt_of_le lt_gx b.size
  replace lt_gy := Nat.lt_of_lt_of_le lt_gy b.size
  replace HA := Bx.mk (HA.out.below b)
  replace HBb := Bx.mk (HBb.out.below b)
  replace HCr := Bx.mk (HCr.out.below b)
  replace HSr := Bx.mk (HSr.out.below b)
  replace HTr := Bx.mk (HTr.out.below b)
  replace HGr := Bx.mk (HGr.out.below b)
  replace HXr := Bx.mk (HXr.out.below b)
  replace HYr := Bx.mk (HYr.out.below b)
  replace HB := Bx.mk (HB.out.below b)
  replace bw := bw.trans (b.mono bw.size)
  clear b
  have HZr := Bx.mk io.reads
  clear io
  obtain ⟨w21, hW⟩ : ∃ w21, w21 = w20.alloc (.cells #[.int .i64 n, .slice AZ Z.length cZ] 30) := ⟨_, rfl⟩
  obtain ⟨gz, hg⟩ : ∃ gz, gz = w20.heap.size := ⟨_, rfl⟩
  have b : Below w20.heap.size w20 w21 := by rw [hW]; exact below_alloc _ _
  have kgz0 : w21.cell? ⟨gz, 0, none⟩ = some (.int .i64 n) := by rw [hW, hg]; simp [go_sem]
  have kgz1 : w21.cell? ⟨gz, 1, none⟩ = some (.slice AZ Z.length cZ) := by rw [hW, hg]; simp [go_sem]
  have lt_gz : gz < w21.heap.size := by rw [hW, hg]; simp
  replace kga0 := ((bcell b).1 _ _ lt_ga).trans kga0
  replace kga1 := ((bcell b).1 _ _ lt_ga).trans kga1
  replace kgb0 := ((bcell b).1 _ _ lt_gb).trans kgb0
  replace kgb1 := ((bcell b).1 _ _ lt_gb).trans kgb1
  replace kgs0 := ((bcell b).1 _ _ lt_gs).trans kgs0
  replace kgs1 := ((bcell b).1 _ _ lt_gs).trans kgs1
  replace kgt0 := ((bcell b).1 _ _ lt_gt).trans kgt0
  replace kgt1 := ((bcell b).1 _ _ lt_gt).trans kgt1
  replace kgx0 := ((bcell b).1 _ _ lt_gx).trans kgx0
  replace kgx1 := ((bcell b).1 _ _ lt_gx).trans kgx1
  replace kgy0 := ((bcell b).1 _ _ lt_gy).trans kgy0
  replace kgy1 := ((bcell b).1 _ _ lt_gy).trans kgy1
  replace lt_ga := Nat.lt_of_lt_of_le lt_ga b.size
  replace lt_gb := Nat.lt_of_lt_of_le lt_gb b.size
  replace lt_gs := Nat.lt_of_lt_of_le lt_gs b.size
  replace lt_gt := Nat.lt_of_lt_of_le lt_gt b.size
  replace lt_gx := Nat.lt_of_lt_of_le lt_gx b.size
  replace lt_gy := Nat.lt_of_lt_of_le lt_gy b.size
  replace HA := Bx.mk (HA.out.below b)
  replace HBb := Bx.mk (HBb.out.below b)
  replace HCr := Bx.mk (HCr.out.below b)
  replace HSr := Bx.mk (HSr.out.below b)
  replace HTr := Bx.mk (HTr.out.below b)
  replace HGr := Bx.mk (HGr.out.below b)
  replace HXr := Bx.mk (HXr.out.below b)
  replace HYr := Bx.mk (HYr.out.below b)
  replace HZr := Bx.mk (HZr.out.below b)
  replace HB := Bx.mk (HB.out.below b)
  replace bw := bw.trans (b.mono bw.size)
  clear b
  go_upto_region 16 with (fail)
  rw [← hW, ← hg]
  clear hW hg
  go_wp2_with fail
  refine (HDa.out _ _ _ (by exact HA.out)).mono ?_
  rintro e w22 ⟨AD, cD, rfl, io, b⟩
  replace kga0 := ((bcell b).1 _ _ lt_ga).trans kga0
  replace kga1 := ((bcell b).1 _ _ lt_ga).trans kga1
  replace kgb0 := ((bcell b).1 _ _ lt_gb).trans kgb0
  replace kgb1 := ((bcell b).1 _ _ lt_gb).trans kgb1
  replace kgs0 := ((bcell b).1 _ _ lt_gs).trans kgs0
  replace kgs1 := ((bcell b).1 _ _ lt_gs).trans kgs1
  replace kgt0 := ((bcell b).1 _ _ lt_gt).trans kgt0
  replace kgt1 := ((bcell b).1 _ _ lt_gt).trans kgt1
  replace kgx0 := ((bcell b).1 _ _ lt_gx).trans kgx0
  replace kgx1 := ((bcell b).1 _ _ lt_gx).trans kgx1
  replace kgy0 := ((bcell b).1 _ _ lt_gy).trans kgy0
  replace kgy1 := ((bcell b).1 _ _ lt_gy).trans kgy1
  replace kgz0 := ((bcell b).1 _ _ lt_gz).trans kgz0
  replace kgz1 := ((bcell b).1 _ _ lt_gz).trans kgz1
  replace lt_ga := Nat.lt_of_lt_of_le lt_ga b.size
  replace lt_gb := Nat.lt_of_lt_of_le lt_gb b.size
  replace lt_gs := Nat.lt_of_lt_of_le lt_gs b.size
  replace lt_gt := Nat.lt_of_lt_of_le lt_gt b.size
  replace lt_gx := Nat.lt_of_lt_of_le lt_gx b.size
  replace lt_gy := Nat.lt_of_lt_of_le lt_gy b.size
  replace lt_gz := Nat.lt_of_lt_of_le lt_gz b.size
  replace HA := Bx.mk (HA.out.below b)
  replace HBb := Bx.mk (HBb.out.below b)
  replace HCr := Bx.mk (HCr.out.below b)
  replace HSr := Bx.mk (HSr.out.below b)
  replace HTr := Bx.mk (HTr.out.below b)
  replace HGr := Bx.mk (HGr.out.below b)
  replace HXr := Bx.mk (HXr.out.below b)
  replace HYr := Bx.mk (HYr.out.below b)
  replace HZr := Bx.mk (HZr.out.below b)
  replace HB := Bx.mk (HB.out.below b)
  replace bw := bw.trans (b.mono bw.size)
  clear b
  have HDr := Bx.mk io.reads
  clear io
  go_wp2_with fail
  refine (HDb.out _ _ _ (by exact HBb.out)).mono ?_
  rintro e w23 ⟨AE, cE, rfl, io, b⟩
  replace kga0 := ((bcell b).1 _ _ lt_ga).trans kga0
  replace kga1 := ((bcell b).1 _ _ lt_ga).trans kga1
  replace kgb0 := ((bcell b).1 _ _ lt_gb).trans kgb0
  replace kgb1 := ((bcell b).1 _ _ lt_gb).trans kgb1
  replace kgs0 := ((bcell b).1 _ _ lt_gs).trans kgs0
  replace kgs1 := ((bcell b).1 _ _ lt_gs).trans kgs1
  replace kgt0 := ((bcell b).1 _ _ lt_gt).trans kgt0
  replace kgt1 := ((bcell b).1 _ _ lt_gt).trans kgt1
  replace kgx0 := ((bcell b).1 _ _ lt_gx).trans kgx0
  replace kgx1 := ((bcell b).1 _ _ lt_gx).trans kgx1
  replace kgy0 := ((bcell b).1 _ _ lt_gy).trans kgy0
  replace kgy1 := ((bcell b).1 _ _ lt_gy).trans kgy1
  replace kgz0 := ((bcell b).1 _ _ lt_gz).trans kgz0
  replace kgz1 := ((bcell b).1 _ _ lt_gz).trans kgz1
  replace lt_ga := Nat.lt_of_lt_of_le lt_ga b.size
  replace lt_gb := Nat.lt_of_lt_of_le lt_gb b.size
  replace lt_gs := Nat.lt_of_lt_of_le lt_gs b.size
  replace lt_gt := Nat.lt_of_lt_of_le lt_gt b.size
  replace lt_gx := Nat.lt_of_lt_of_le lt_gx b.size
  replace lt_gy := Nat.lt_of_lt_of_le lt_gy b.size
  replace lt_gz := Nat.lt_of_lt_of_le lt_gz b.size
  replace HA := Bx.mk (HA.out.below b)
  replace HBb := Bx.mk (HBb.out.below b)
  replace HCr := Bx.mk (HCr.out.below b)
  replace HSr := Bx.mk (HSr.out.below b)
  replace HTr := Bx.mk (HTr.out.below b)
  replace HGr := Bx.mk (HGr.out.below b)
  replace HXr := Bx.mk (HXr.out.below b)
  replace HYr := Bx.mk (HYr.out.below b)
  replace HZr := Bx.mk (HZr.out.below b)
  replace HDr := Bx.mk (HDr.out.below b)
  replace HB := Bx.mk (HB.out.below b)
  replace bw := bw.trans (b.mono bw.size)
  clear b
  have HEr := Bx.mk io.reads
  clear io
  have hd1 : (((D.length : Nat) : Int) != ((n : Nat) : Int)) = false := by rw [bne_eq_false_iff_eq, HDl.out]
  have hd2 : (((D.length : Nat) : Int) == ((n : Nat) : Int)) = true := by rw [beq_iff_eq, HDl.out]
  have hd3 : (((E.length : Nat) : Int) != ((n : Nat) : Int)) = false := by rw [bne_eq_false_iff_eq, HEl.out]
  have hd4 : (((E.length : Nat) : Int) == ((n : Nat) : Int)) = true := by rw [beq_iff_eq, HEl.out]
  have HRH2 : Bx (∀ A B c d W, IR W A Z → IR W B Z → Calls Try.prog 39 #[.agg #[.int .i64 n, .slice A Z.length c], .agg #[.int .i64 n, .slice B Z.length d]] W fun e w' => e = .returned (.bool true) ∧ Below W.heap.size W w') := ⟨fun A B c d W h1 h2 => by
    have := lawRhythms_any n n A B c d Z Z W h1 h2
    simpa using this⟩
  go_wp2_with fail
  refine (HRH2.out _ _ _ _ _ (by exact HYr.out) (by exact HZr.out)).mono ?_
  rintro e w24 ⟨rfl, b⟩
  replace kga0 := ((bcell b).1 _ _ lt_ga).trans kga0
  replace kga1 := ((bcell b).1 _ _ lt_ga).trans kga1
  replace kgb0 := ((bcell b).1 _ _ lt_gb).trans kgb0
  replace kgb1 := ((bcell b).1 _ _ lt_gb).trans kgb1
  replace kgs0 := ((bcell b).1 _ _ lt_gs).trans kgs0
  replace kgs1 := ((bcell b).1 _ _ lt_gs).trans kgs1
  replace kgt0 := ((bcell b).1 _ _ lt_gt).trans kgt0
  replace kgt1 := ((bcell b).1 _ _ lt_gt).trans kgt1
  replace kgx0 := ((bcell b).1 _ _ lt_gx).trans kgx0
  replace kgx1 := ((bcell b).1 _ _ lt_gx).trans kgx1
  replace kgy0 := ((bcell b).1 _ _ lt_gy).trans kgy0
  replace kgy1 := ((bcell b).1 _ _ lt_gy).trans kgy1
  replace kgz0 := ((bcell b).1 _ _ lt_gz).trans kgz0
  replace kgz1 := ((bcell b).1 _ _ lt_gz).trans kgz1
  replace lt_ga := Nat.lt_of_lt_of_le lt_ga b.size
  replace lt_gb := Nat.lt_of_lt_of_le lt_gb b.size
  replace lt_gs := Nat.lt_of_lt_of_le lt_gs b.size
  replace lt_gt := Nat.lt_of_lt_of_le lt_gt b.size
  replace lt_gx := Nat.lt_of_lt_of_le lt_gx b.size
  replace lt_gy := Nat.lt_of_lt_of_le lt_gy b.size
  replace lt_gz := Nat.lt_of_lt_of_le lt_gz b.size
  replace HA := Bx.mk (HA.out.below b)
  replace HBb := Bx.mk (HBb.out.below b)
  replace HCr := Bx.mk (HCr.out.below b)
  replace HSr := Bx.mk (HSr.out.below b)
  replace HTr := Bx.mk (HTr.out.below b)
  replace HGr := Bx.mk (HGr.out.below b)
  replace HXr := Bx.mk (HXr.out.below b)
  replace HYr := Bx.mk (HYr.out.below b)
  replace HZr := Bx.mk (HZr.out.below b)
  replace HDr := Bx.mk (HDr.out.below b)
  replace HEr := Bx.mk (HEr.out.below b)
  replace HB := Bx.mk (HB.out.below b)
  replace bw := bw.trans (b.mono bw.size)
  clear b
  go_wp2_with fail
  clear hd1 hd2 hd3 hd4
  have HDIR : Bx (btw n a n b' 0 1 = apartB n a b' n) := ⟨direct_apart HAOK.out HBOK.out⟩
  go_loop [21, 22] (fun av iv => ∃ i : Nat, 1 ≤ i ∧ i ≤ n ∧ iv = .int .i64 i ∧ av = .bool (apartB n a b' i)) (fun _ iv => n - (intOf iv).toNat)
  case atStart => exact ⟨1, by omega, hn1, rfl, by simp [apartB]⟩
  case round =>
    obtain ⟨i, hi1, hin, rfl, rfl⟩ := hrel
    by_cases hlt : i < n
    · have hli : (i : Int) < n := by omega
      have HAP : Bx (apartB n a b' (i + 1) = (apartB n a b' i && (dfI n a i == 0 || dfI n b' i == 0))) := ⟨by simp only [apartB]; rw [show (i == 0) = false from beq_eq_false_iff_ne.2 (by omega), Bool.or_false]⟩
      obtain ⟨bD, oD, x, rfl, hbD, cD1, H3⟩ := HDr.out.one (k := i) (by rw [HDl.out]; exact hlt)
      obtain ⟨bE, oE, y, rfl, hbE, cE1, H4⟩ := HEr.out.one (k := i) (by rw [HEl.out]; exact hlt)
      have hx := HDv.out i hlt
      have hy := HEv.out i hlt
      rw [H3.out] at hx
      rw [H4.out] at hy
      simp only [Option.getD_some] at hx hy
      obtain ⟨v, hv⟩ : ∃ v : Nat, v = dfI n a i := ⟨_, rfl⟩
      obtain ⟨u, hu⟩ : ∃ u : Nat, u = dfI n b' i := ⟨_, rfl⟩
      rw [← hv, ← hu] at HAP
      rw [← hv] at hx
      rw [← hu] at hy
      subst hx hy
      have hDl : (i : Int) < D.length := by rw [HDl.out]; exact hli
      have hEl : (i : Int) < E.length := by rw [HEl.out]; exact hli
      clear H3 H4 hv hu
      cases hB : apartB n a b' i with
      | false =>
        have HN : Bx (apartB n a b' (i + 1) = false) := ⟨by rw [HAP.out, hB]; rfl⟩
        clear hB
        go_wp2_with fail
        go_round
        case rel => exact ⟨i + 1, by omega, by omega, by go_num, by rw [HN.out]⟩
        case measure => simp [intOf]; omega
      | true =>
        by_cases hv0 : v = 0
        · have hvb : (((v : Nat) : Int) == 0) = true := by rw [beq_iff_eq]; omega
          have HN : Bx (apartB n a b' (i + 1) = true) := ⟨by rw [HAP.out, hB, hv0]; rfl⟩
          clear hB hv0
          go_wp2_with fail
          go_round
          case rel => exact ⟨i + 1, by omega, by omega, by go_num, by rw [HN.out]⟩
          case measure => simp [intOf]; omega
        · have hvb : (((v : Nat) : Int) == 0) = false := by rw [beq_eq_false_iff_ne]; omega
          have hvb0 : (v == 0) = false := beq_eq_false_iff_ne.2 hv0
          by_cases hu0 : u = 0
          · have hub : (((u : Nat) : Int) == 0) = true := by rw [beq_iff_eq]; omega
            have HN : Bx (apartB n a b' (i + 1) = true) := ⟨by rw [HAP.out, hB, hu0]; simp⟩
            clear hB hu0 hv0 hvb0
            go_wp2_with fail
            go_round
            case rel => exact ⟨i + 1, by omega, by omega, by go_num, by rw [HN.out]⟩
            case measure => simp [intOf]; omega
          · have hub : (((u : Nat) : Int) == 0) = false := by rw [beq_eq_false_iff_ne]; omega
            have hub0 : (u == 0) = false := beq_eq_false_iff_ne.2 hu0
            have HN : Bx (apartB n a b' (i + 1) = false) := ⟨by rw [HAP.out, hB, hvb0, hub0]; rfl⟩
            clear hB hu0 hv0 hvb0 hub0
            go_wp2_with fail
            go_round
            case rel => exact ⟨i + 1, by omega, by omega, by go_num, by rw [HN.out]⟩
            case measure => simp [intOf]; omega
    have hie : i = n := by omega
    have hli : ¬ (i : Int) < n := by omega
    obtain ⟨PD, hPD⟩ : ∃ PD, PD = apartB n a b' i := ⟨_, rfl⟩
    rw [← hPD]
    have HPD : Bx (btw n a n b' 0 1 = PD) := ⟨by rw [HDIR.out, hPD, hie]⟩
    have HID : Bx (∀ A B c d W, IR W A a → IR W B b' → Calls Try.prog 42 #[.agg #[.int .i64 n, .slice A a.length c], .agg #[.int .i64 n, .slice B b'.length d]] W fun e w' => e = .returned (.bool PD) ∧ Below W.heap.size W w') := ⟨fun A B c d W h1 h2 => by
      have := implIsDirect_any n n A B c d a b' W HN64.out HN64.out h1 h2
      rw [HPD.out] at this
      exact this⟩
    clear hPD hie
    go_upto_region 25 with (fail)
    go_cut [181] (fun s wx => s = .bool false ∧ Bx (Below w24.heap.size w24 wx))
    case first =>
      by_cases hA0 : a = []
      · subst hA0
        go_wp2_with fail
        go_meet
        exact ⟨rfl, ⟨Below.refl _ _⟩⟩
      · have ha1 : 0 < a.length := List.length_pos_iff.2 hA0
        have ha2 : (0 : Int) < a.length := by omega
        by_cases hB0 : b' = []
        · subst hB0
          go_wp2_with fail
          go_meet
          exact ⟨rfl, ⟨Below.refl _ _⟩⟩
        · have hb1 : 0 < b'.length := List.length_pos_iff.2 hB0
          have hb2 : (0 : Int) < b'.length := by omega
          go_wp2_with fail
          refine (HID.out _ _ _ _ _ (by exact HA.out) (by exact HBb.out)).mono ?_
          rintro e wq ⟨rfl, b⟩
          have HBz := Bx.mk b
          clear b
          cases PD <;> (go_wp2_with fail; go_meet; exact ⟨rfl, HBz⟩)
    case rest =>
      obtain ⟨rfl, HBW⟩ := hcut
      rename World => wz
      have b := HBW.out
      clear HBW
      replace kga0 := ((bcell b).1 _ _ lt_ga).trans kga0
      replace kga1 := ((bcell b).1 _ _ lt_ga).trans kga1
      replace kgb0 := ((bcell b).1 _ _ lt_gb).trans kgb0
      replace kgb1 := ((bcell b).1 _ _ lt_gb).trans kgb1
      replace kgs0 := ((bcell b).1 _ _ lt_gs).trans kgs0
      replace kgs1 := ((bcell b).1 _ _ lt_gs).trans kgs1
      replace kgt0 := ((bcell b).1 _ _ lt_gt).trans kgt0
      replace kgt1 := ((bcell b).1 _ _ lt_gt).trans kgt1
      replace kgx0 := ((bcell b).1 _ _ lt_gx).trans kgx0
      replace kgx1 := ((bcell b).1 _ _ lt_gx).trans kgx1
      replace kgy0 := ((bcell b).1 _ _ lt_gy).trans kgy0
      replace kgy1 := ((bcell b).1 _ _ lt_gy).trans kgy1
      replace kgz0 := ((bcell b).1 _ _ lt_gz).trans kgz0
      replace kgz1 := ((bcell b).1 _ _ lt_gz).trans kgz1
      replace lt_ga := Nat.lt_of_lt_of_le lt_ga b.size
      replace lt_gb := Nat.lt_of_lt_of_le lt_gb b.size
      replace lt_gs := Nat.lt_of_lt_of_le lt_gs b.size
      replace lt_gt := Nat.lt_of_lt_of_le lt_gt b.size
      replace lt_gx := Nat.lt_of_lt_of_le lt_gx b.size
      replace lt_gy := Nat.lt_of_lt_of_le lt_gy b.size
      replace lt_gz := Nat.lt_of_lt_of_le lt_gz b.size
      replace HA := Bx.mk (HA.out.below b)
      replace HBb := Bx.mk (HBb.out.below b)
      replace HCr := Bx.mk (HCr.out.below b)
      replace HSr := Bx.mk (HSr.out.below b)
      replace HTr := Bx.mk (HTr.out.below b)
      replace HGr := Bx.mk (HGr.out.below b)
      replace HXr := Bx.mk (HXr.out.below b)
      replace HYr := Bx.mk (HYr.out.below b)
      replace HZr := Bx.mk (HZr.out.below b)
      replace HDr := Bx.mk (HDr.out.below b)
      replace HEr := Bx.mk (HEr.out.below b)
      replace HB := Bx.mk (HB.out.below b)
      replace bw := bw.trans (b.mono bw.size)
      clear b
      go_wp2_with fail
      go_loopw [184] (fun iv wr => ∃ i : Nat, i ≤ n ∧ iv = .int .i64 i ∧ Bx (Below wz.heap.size wz wr)) (fun iv _ => n - (intOf iv).toNat)
      case atStart => exact ⟨0, by omega, rfl, ⟨Below.refl _ _⟩⟩
      case round =>
        obtain ⟨i2, hi2, rfl, HR⟩ := hrel
        by_cases hlt : i2 < n
        · have hCi : (i2 : Int) < C.length := by rw [HCl.out]; omega
          obtain ⟨bC, oC, z, rfl, hbC, cC1, H3⟩ := (HCr.out.below HR.out).one (k := i2) (by rw [HCl.out]; exact hlt)
          have hz := pr_nonneg n a b' i2 hlt hn1
          rw [← HCE.out, H3.out] at hz
          simp only [Option.getD_some] at hz
          obtain ⟨v, hv⟩ : ∃ v : Nat, v = prI n a b' i2 := ⟨_, rfl⟩
          rw [← hv] at hz
          subst hz
          have HGV : Bx (memB Gp (i2 : Int) = decide (v = 0)) := ⟨by
            rw [HGE.out, memB_sel hlt]; unfold gapP; rw [Int.toNat_natCast, H3.out, Bool.eq_iff_iff, decide_eq_true_iff]; simp⟩
          have HSV : Bx (hasR n S (i2 : Int) = decide (0 < v)) := ⟨by
            rw [hasR_in ⟨by omega, by omega⟩, HSE.out]; unfold sumL; rw [Int.toNat_natCast, memB_sel hlt, ← HCE.out]; unfold sumP; rw [Int.toNat_natCast, H3.out]; simp⟩
          have k0 := ((bcell HR.out).1 _ _ lt_gs).trans kgs0
          have k1 := ((bcell HR.out).1 _ _ lt_gs).trans kgs1
          have HG2 := Bx.mk (HGr.out.below HR.out)
          have HS2r := Bx.mk (HSr.out.below HR.out)
          clear H3 hv
          have HAH : Bx (∀ A c W, IR W A Gp → Calls Try.prog 10 #[.slice A Gp.length c, .int .i64 i2] W fun e w' => e = .returned (.bool (decide (v = 0))) ∧ W = w') := ⟨fun A c W h => by rw [← HGV.out]; exact lawHas_any A c Gp i2 W h⟩
          have HHH : Bx (∀ A c W, IR W A S → Calls Try.prog 30 #[.agg #[.int .i64 n, .slice A S.length c], .int .i64 i2] W fun e w' => e = .returned (.bool (decide (0 < v))) ∧ Below W.heap.size W w') := ⟨fun A c W h => by rw [← HSV.out]; exact hasBeat_ok n A c S i2 W HSOK.out h ⟨by omega, by omega⟩⟩
          by_cases hv0 : v = 0
          · have d1 : decide (v = 0) = true := by simpa using hv0
            have d2 : decide (0 < v) = false := by simp; omega
            rw [d1] at HAH
            rw [d2] at HHH
            have hvb : (((v : Nat) : Int) == 0) = true := by rw [beq_iff_eq]; omega
            have hvg : ¬ (0 : Int) < (v : Int) := by omega
            clear hv0 d1 d2
            go_wp2_with fail
            refine (HAH.out _ _ _ (by exact HG2.out)).mono ?_
            rintro e w' ⟨rfl, rfl⟩
            go_wp2_with fail
            refine (HHH.out _ _ _ (by exact HS2r.out)).mono ?_
            rintro e wq ⟨rfl, b⟩
            have HR2 := Bx.mk (HR.out.trans (b.mono HR.out.size))
            clear b
            go_wp2_with fail
            go_roundw
            case rel => exact ⟨i2 + 1, by omega, by go_num, HR2⟩
            case measure => simp [intOf]; omega
          · have d1 : decide (v = 0) = false := by simpa using hv0
            have d2 : decide (0 < v) = true := by simp; omega
            rw [d1] at HAH
            rw [d2] at HHH
            have hvb : (((v : Nat) : Int) == 0) = false := by rw [beq_eq_false_iff_ne]; omega
            have hvg : (0 : Int) < (v : Int) := by omega
            have hvn : 0 < v := by omega
            clear hv0 d1 d2
            go_wp2_with fail
            refine (HAH.out _ _ _ (by exact HG2.out)).mono ?_
            rintro e w' ⟨rfl, rfl⟩
            go_wp2_with fail
            refine (HHH.out _ _ _ (by exact HS2r.out)).mono ?_
            rintro e wq ⟨rfl, b⟩
            have HR2 := Bx.mk (HR.out.trans (b.mono HR.out.size))
            clear b
            go_wp2_with fail
            go_roundw
            case rel => exact ⟨i2 + 1, by omega, by go_num, HR2⟩
            case measure => simp [intOf]; omega
        have hCi : ¬ (i2 : Int) < C.length := by rw [HCl.out]; omega
        have b := HR.out
        clear HR
        replace kga0 := ((bcell b).1 _ _ lt_ga).trans kga0
        replace kga1 := ((bcell b).1 _ _ lt_ga).trans kga1
        replace kgb0 := ((bcell b).1 _ _ lt_gb).trans kgb0
        replace kgb1 := ((bcell b).1 _ _ lt_gb).trans kgb1
        replace kgs0 := ((bcell b).1 _ _ lt_gs).trans kgs0
        replace kgs1 := ((bcell b).1 _ _ lt_gs).trans kgs1
        replace kgt0 := ((bcell b).1 _ _ lt_gt).trans kgt0
        replace kgt1 := ((bcell b).1 _ _ lt_gt).trans kgt1
        replace kgx0 := ((bcell b).1 _ _ lt_gx).trans kgx0
        replace kgx1 := ((bcell b).1 _ _ lt_gx).trans kgx1
        replace kgy0 := ((bcell b).1 _ _ lt_gy).trans kgy0
        replace kgy1 := ((bcell b).1 _ _ lt_gy).trans kgy1
        replace kgz0 := ((bcell b).1 _ _ lt_gz).trans kgz0
        replace kgz1 := ((bcell b).1 _ _ lt_gz).trans kgz1
        replace lt_ga := Nat.lt_of_lt_of_le lt_ga b.size
        replace lt_gb := Nat.lt_of_lt_of_le lt_gb b.size
        replace lt_gs := Nat.lt_of_lt_of_le lt_gs b.size
        replace lt_gt := Nat.lt_of_lt_of_le lt_gt b.size
        replace lt_gx := Nat.lt_of_lt_of_le lt_gx b.size
        replace lt_gy := Nat.lt_of_lt_of_le lt_gy b.size
        replace lt_gz := Nat.lt_of_lt_of_le lt_gz b.size
        replace HA := Bx.mk (HA.out.below b)
        replace HBb := Bx.mk (HBb.out.below b)
        replace HCr := Bx.mk (HCr.out.below b)
        replace HSr := Bx.mk (HSr.out.below b)
        replace HTr := Bx.mk (HTr.out.below b)
        replace HGr := Bx.mk (HGr.out.below b)
        replace HXr := Bx.mk (HXr.out.below b)
        replace HYr := Bx.mk (HYr.out.below b)
        replace HZr := Bx.mk (HZr.out.below b)
        replace HDr := Bx.mk (HDr.out.below b)
        replace HEr := Bx.mk (HEr.out.below b)
        replace HB := Bx.mk (HB.out.below b)
        replace bw := bw.trans (b.mono bw.size)
        clear b
        have HTT : Bx (btw n a n b' 1 1 = (PD && decide (Gp.length = 0))) := ⟨by rw [tile_direct HAOK.out HBOK.out, HPD.out, ← HCE.out, ← HGE.out]⟩
        have HSL : Bx (PD = decide ((S.length : Int) = (M : Int))) := ⟨by rw [← HPD.out, direct_len HAOK.out HBOK.out, ← HSE.out, HMM.out, Int.natCast_mul]⟩
        have HTI : Bx (∀ TT, TT = (PD && decide (Gp.length = 0)) → ∀ A B c d W, IR W A a → IR W B b' → Calls Try.prog 43 #[.agg #[.int .i64 n, .slice A a.length c], .agg #[.int .i64 n, .slice B b'.length d]] W fun e w' => e = .returned (.bool TT) ∧ Below W.heap.size W w') := ⟨fun TT hT A B c d W h1 h2 => by
          have := implIsTiling_any n n A B c d a b' W HN64.out HN64.out h1 h2
          rw [HTT.out, ← hT] at this
          exact this⟩
        have hMi : (a.length : Int) * (b'.length : Int) = (M : Int) := by rw [HMM.out]; simp
        have hMw : IntKind.i64.wrap ((a.length : Int) * (b'.length : Int)) = (M : Int) := by rw [hMi]; exact IntWalk.i64_in _ (by omega)
        have hMz : IntKind.i64.wrap (M : Int) = (M : Int) := IntWalk.i64_in _ (by omega)
        clear hlt
        cases PD with
        | false =>
          have HTL : Bx (∀ A B c d W, IR W A a → IR W B b' → Calls Try.prog 43 #[.agg #[.int .i64 n, .slice A a.length c], .agg #[.int .i64 n, .slice B b'.length d]] W fun e w' => e = .returned (.bool false) ∧ Below W.heap.size W w') := ⟨HTI.out false (by rfl)⟩
          have hsm : (((S.length : Nat) : Int) == ((M : Nat) : Int)) = false := by have := HSL.out; rw [beq_eq_false_iff_ne]; simpa using this
          clear HSL HTT HTI HPD HDIR
          go_upto_region 33 with (fail)
          have hB : Bx (Below wr.heap.size wr wr.drew) := ⟨(Below.refl _ _).drew⟩
          have hB0 : Bx (Below wr.heap.size wr wr) := ⟨Below.refl _ _⟩
          have kga0_d : wr.drew.cell? _ = _ := kga0
          have kga1_d : wr.drew.cell? _ = _ := kga1
          have kgb0_d : wr.drew.cell? _ = _ := kgb0
          have kgb1_d : wr.drew.cell? _ = _ := kgb1
          have kgs0_d : wr.drew.cell? _ = _ := kgs0
          have kgs1_d : wr.drew.cell? _ = _ := kgs1
          refine wp_region_held_drew (S := fun w' => w'.cell? ⟨ga, 0, none⟩ = some (.int .i64 n) ∧ w'.cell? ⟨ga, 1, none⟩ = some (.slice Aa a.length ca) ∧ w'.cell? ⟨gb, 0, none⟩ = some (.int .i64 n) ∧ w'.cell? ⟨gb, 1, none⟩ = some (.slice Ab b'.length cb) ∧ w'.cell? ⟨gs, 0, none⟩ = some (.int .i64 n) ∧ w'.cell? ⟨gs, 1, none⟩ = some (.slice AS S.length cS) ∧ Bx (Below wr.heap.size wr w')) (by kernel_rfl) ?hS0 (fun hHeld => ?rest0)
          case hS0 => (try dsimp only); (refine (fun (hK : Bx (Below wr.heap.size wr _)) => ⟨((bcell hK.out).1 _ _ lt_ga).trans kga0, ((bcell hK.out).1 _ _ lt_ga).trans kga1, ((bcell hK.out).1 _ _ lt_gb).trans kgb0, ((bcell hK.out).1 _ _ lt_gb).trans kgb1, ((bcell hK.out).1 _ _ lt_gs).trans kgs0, ((bcell hK.out).1 _ _ lt_gs).trans kgs1, hK⟩) ?_; (first | with_reducible assumption | with_reducible exact bx_alloc (by with_reducible assumption) _ | with_reducible exact bx_drew (by with_reducible assumption) | with_reducible exact bx_drew (bx_alloc (by with_reducible assumption) _)))
          case rest0 =>
          refine wpAnyH_take (i := 0) (v := ?v1) (at_list rfl) (by kernel_rfl) (by kernel_rfl) (by kernel_rfl) (fun _ _ _ h => h) (Or.inl ⟨by rfl, ?hy1⟩) (by assumption) ?rest1
          case hy1 => intro w hSw; (try dsimp only at hSw); go_simp; try (with_reducible rfl)
          case rest1 =>
          try simp only [Act.put, List.setIfInBounds_toArray, List.set_cons_zero, List.set_cons_succ]
          refine wpAnyH_take (i := 1) (v := ?v2) (at_list rfl) (by kernel_rfl) (by kernel_rfl) (by kernel_rfl) (fun _ _ _ h => h) (Or.inl ⟨by rfl, ?hy2⟩) (by assumption) ?rest2
          case hy2 => intro w hSw; (try dsimp only at hSw); go_simp; try (with_reducible rfl)
          case rest2 =>
          try simp only [Act.put, List.setIfInBounds_toArray, List.set_cons_zero, List.set_cons_succ]
          refine wpAnyH_take (i := 3) (v := ?v3) (at_list rfl) (by kernel_rfl) (by kernel_rfl) (by kernel_rfl) (fun _ _ _ h => h) (Or.inl ⟨by rfl, ?hy3⟩) (by assumption) ?rest3
          case hy3 => intro w hSw; (try dsimp only at hSw); go_simp; try (with_reducible rfl)
          case rest3 =>
          try simp only [Act.put, List.setIfInBounds_toArray, List.set_cons_zero, List.set_cons_succ]
          refine wpAnyH_take (i := 4) (v := ?v4) (at_list rfl) (by kernel_rfl) (by kernel_rfl) (by kernel_rfl) (fun _ _ _ h => h) (Or.inl ⟨by rfl, ?hy4⟩) (by assumption) ?rest4
          case hy4 => intro w hSw; (try dsimp only at hSw); go_simp; try (with_reducible rfl)
          case rest4 =>
          try simp only [Act.put, List.setIfInBounds_toArray, List.set_cons_zero, List.set_cons_succ]
          refine wpAnyH_ready (rs := [2]) (by kernel_rfl) (by simp) ?_
          refine AllReadyH.cons (at_list rfl) (fun K hK => ?_) AllReadyH.nil
          go_simp
          go_at_call 43; refine (HTL.out _ _ _ _ _ (by exact HA.out.below (Bx.out (by (first | with_reducible assumption | with_reducible exact bx_alloc (by with_reducible assumption) _ | with_reducible exact bx_drew (by with_reducible assumption) | with_reducible exact bx_drew (bx_alloc (by with_reducible assumption) _))))) (by exact HBb.out.below (Bx.out (by (first | with_reducible assumption | with_reducible exact bx_alloc (by with_reducible assumption) _ | with_reducible exact bx_drew (by with_reducible assumption) | with_reducible exact bx_drew (bx_alloc (by with_reducible assumption) _)))))).mono ?_; rintro e w25 ⟨rfl, bw25⟩; have hBw25 : Bx (Below wr.heap.size wr w25) := bx_to (by (first | with_reducible assumption | with_reducible exact bx_alloc (by with_reducible assumption) _ | with_reducible exact bx_drew (by with_reducible assumption) | with_reducible exact bx_drew (bx_alloc (by with_reducible assumption) _))) bw25; have hzw25 := bx_size hBw25; have kga0_w25 := ((bcell hBw25.out).1 _ _ lt_ga).trans kga0; have kga1_w25 := ((bcell hBw25.out).1 _ _ lt_ga).trans kga1; have kgb0_w25 := ((bcell hBw25.out).1 _ _ lt_gb).trans kgb0; have kgb1_w25 := ((bcell hBw25.out).1 _ _ lt_gb).trans kgb1; have kgs0_w25 := ((bcell hBw25.out).1 _ _ lt_gs).trans kgs0; have kgs1_w25 := ((bcell hBw25.out).1 _ _ lt_gs).trans kgs1
          refine hK.out _ _ ?hS5 (fun hHeld => ?rest5)
          case hS5 => (try dsimp only); (refine (fun (hK : Bx (Below wr.heap.size wr _)) => ⟨((bcell hK.out).1 _ _ lt_ga).trans kga0, ((bcell hK.out).1 _ _ lt_ga).trans kga1, ((bcell hK.out).1 _ _ lt_gb).trans kgb0, ((bcell hK.out).1 _ _ lt_gb).trans kgb1, ((bcell hK.out).1 _ _ lt_gs).trans kgs0, ((bcell hK.out).1 _ _ lt_gs).trans kgs1, hK⟩) ?_; (first | with_reducible assumption | with_reducible exact bx_alloc (by with_reducible assumption) _ | with_reducible exact bx_drew (by with_reducible assumption) | with_reducible exact bx_drew (bx_alloc (by with_reducible assumption) _)))
          case rest5 =>
          clear hK K
          try simp only [Act.put, List.setIfInBounds_toArray, List.set_cons_zero, List.set_cons_succ]
          refine wpAnyH_ready (rs := [5]) (by kernel_rfl) (by simp) ?_
          refine AllReadyH.cons (at_list rfl) (fun K hK => ?_) AllReadyH.nil
          go_simp
          go_at_call 42; refine (HID.out _ _ _ _ _ (by exact HA.out.below (Bx.out (by (first | with_reducible assumption | with_reducible exact bx_alloc (by with_reducible assumption) _ | with_reducible exact bx_drew (by with_reducible assumption) | with_reducible exact bx_drew (bx_alloc (by with_reducible assumption) _))))) (by exact HBb.out.below (Bx.out (by (first | with_reducible assumption | with_reducible exact bx_alloc (by with_reducible assumption) _ | with_reducible exact bx_drew (by with_reducible assumption) | with_reducible exact bx_drew (bx_alloc (by with_reducible assumption) _)))))).mono ?_; rintro e w26 ⟨rfl, bw26⟩; have hBw26 : Bx (Below wr.heap.size wr w26) := bx_to (by (first | with_reducible assumption | with_reducible exact bx_alloc (by with_reducible assumption) _ | with_reducible exact bx_drew (by with_reducible assumption) | with_reducible exact bx_drew (bx_alloc (by with_reducible assumption) _))) bw26; have hzw26 := bx_size hBw26; have kga0_w26 := ((bcell hBw26.out).1 _ _ lt_ga).trans kga0; have kga1_w26 := ((bcell hBw26.out).1 _ _ lt_ga).trans kga1; have kgb0_w26 := ((bcell hBw26.out).1 _ _ lt_gb).trans kgb0; have kgb1_w26 := ((bcell hBw26.out).1 _ _ lt_gb).trans kgb1; have kgs0_w26 := ((bcell hBw26.out).1 _ _ lt_gs).trans kgs0; have kgs1_w26 := ((bcell hBw26.out).1 _ _ lt_gs).trans kgs1
          refine hK.out _ _ ?hS6 (fun hHeld => ?rest6)
          case hS6 => (try dsimp only); (refine (fun (hK : Bx (Below wr.heap.size wr _)) => ⟨((bcell hK.out).1 _ _ lt_ga).trans kga0, ((bcell hK.out).1 _ _ lt_ga).trans kga1, ((bcell hK.out).1 _ _ lt_gb).trans kgb0, ((bcell hK.out).1 _ _ lt_gb).trans kgb1, ((bcell hK.out).1 _ _ lt_gs).trans kgs0, ((bcell hK.out).1 _ _ lt_gs).trans kgs1, hK⟩) ?_; (first | with_reducible assumption | with_reducible exact bx_alloc (by with_reducible assumption) _ | with_reducible exact bx_drew (by with_reducible assumption) | with_reducible exact bx_drew (bx_alloc (by with_reducible assumption) _)))
          case rest6 =>
          clear hK K
          try simp only [Act.put, List.setIfInBounds_toArray, List.set_cons_zero, List.set_cons_succ]
          refine wpAnyH_take (i := 6) (v := ?v7) (at_list rfl) (by kernel_rfl) (by kernel_rfl) (by kernel_rfl) (fun _ _ _ h => h) (Or.inl ⟨by rfl, ?hy7⟩) (by assumption) ?rest7
          case hy7 => intro w hSw; (try dsimp only at hSw); go_simp; try (with_reducible rfl)
          case rest7 =>
          try simp only [Act.put, List.setIfInBounds_toArray, List.set_cons_zero, List.set_cons_succ]
          refine wpAnyH_take (i := 7) (v := undef) (at_list rfl) (by kernel_rfl) (by kernel_rfl) (by kernel_rfl) (fun _ _ _ h => h) (Or.inr ⟨by rfl, rfl⟩) (by assumption) ?rest8
          case rest8 =>
          try simp only [Act.put, List.setIfInBounds_toArray, List.set_cons_zero, List.set_cons_succ]
          refine wpAnyH_take (i := 8) (v := undef) (at_list rfl) (by kernel_rfl) (by kernel_rfl) (by kernel_rfl) (fun _ _ _ h => h) (Or.inr ⟨by rfl, rfl⟩) (by assumption) ?rest9
          case rest9 =>
          try simp only [Act.put, List.setIfInBounds_toArray, List.set_cons_zero, List.set_cons_succ]
          refine wpAnyH_take (i := 9) (v := undef) (at_list rfl) (by kernel_rfl) (by kernel_rfl) (by kernel_rfl) (fun _ _ _ h => h) (Or.inr ⟨by rfl, rfl⟩) (by assumption) ?rest10
          case rest10 =>
          try simp only [Act.put, List.setIfInBounds_toArray, List.set_cons_zero, List.set_cons_succ]
          refine wpAnyH_take (i := 10) (v := ?v11) (at_list rfl) (by kernel_rfl) (by kernel_rfl) (by kernel_rfl) (fun _ _ _ h => h) (Or.inl ⟨by rfl, ?hy11⟩) (by assumption) ?rest11
          case hy11 => intro w hSw; (try dsimp only at hSw); go_simp; try (with_reducible rfl)
          case rest11 =>
          try simp only [Act.put, List.setIfInBounds_toArray, List.set_cons_zero, List.set_cons_succ]
          refine wpAnyH_take (i := 11) (v := ?v12) (at_list rfl) (by kernel_rfl) (by kernel_rfl) (by kernel_rfl) (fun _ _ _ h => h) (Or.inl ⟨by rfl, ?hy12⟩) (by assumption) ?rest12
          case hy12 => intro w hSw; (try dsimp only at hSw); go_simp; try (with_reducible rfl)
          case rest12 =>
          try simp only [Act.put, List.setIfInBounds_toArray, List.set_cons_zero, List.set_cons_succ]
          refine wpAnyH_take (i := 12) (v := ?v13) (at_list rfl) (by kernel_rfl) (by kernel_rfl) (by kernel_rfl) (fun _ _ _ h => h) (Or.inl ⟨by rfl, ?hy13⟩) (by assumption) ?rest13
          case hy13 => intro w hSw; (try dsimp only at hSw); go_simp; try (with_reducible rfl)
          case rest13 =>
          try simp only [Act.put, List.setIfInBounds_toArray, List.set_cons_zero, List.set_cons_succ]
          refine wpAnyH_take (i := 13) (v := ?v14) (at_list rfl) (by kernel_rfl) (by kernel_rfl) (by kernel_rfl) (fun _ _ _ h => h) (Or.inl ⟨by rfl, ?hy14⟩) (by assumption) ?rest14
          case hy14 => intro w hSw; (try dsimp only at hSw); go_simp; try (with_reducible rfl)
          case rest14 =>
          try simp only [Act.put, List.setIfInBounds_toArray, List.set_cons_zero, List.set_cons_succ]
          refine wpAnyH_take (i := 14) (v := ?v15) (at_list rfl) (by kernel_rfl) (by kernel_rfl) (by kernel_rfl) (fun _ _ _ h => h) (Or.inl ⟨by rfl, ?hy15⟩) (by assumption) ?rest15
          case hy15 => intro w hSw; (try dsimp only at hSw); go_simp; try (with_reducible rfl)
          case rest15 =>
          try simp only [Act.put, List.setIfInBounds_toArray, List.set_cons_zero, List.set_cons_succ]
          refine wpAnyH_take (i := 16) (v := ?v16) (at_list rfl) (by kernel_rfl) (by kernel_rfl) (by kernel_rfl) (fun _ _ _ h => h) (Or.inl ⟨by rfl, ?hy16⟩) (by assumption) ?rest16
          case hy16 => intro w hSw; (try dsimp only at hSw); go_simp; try (with_reducible rfl)
          case rest16 =>
          try simp only [Act.put, List.setIfInBounds_toArray, List.set_cons_zero, List.set_cons_succ]
          refine wpAnyH_take (i := 18) (v := ?v17) (at_list rfl) (by kernel_rfl) (by kernel_rfl) (by kernel_rfl) (fun _ _ _ h => h) (Or.inl ⟨by rfl, ?hy17⟩) (by assumption) ?rest17
          case hy17 => intro w hSw; (try dsimp only at hSw); go_simp; try (with_reducible rfl)
          case rest17 =>
          try simp only [Act.put, List.setIfInBounds_toArray, List.set_cons_zero, List.set_cons_succ]
          refine wpAnyH_take (i := 19) (v := ?v18) (at_list rfl) (by kernel_rfl) (by kernel_rfl) (by kernel_rfl) (fun _ _ _ h => h) (Or.inl ⟨by rfl, ?hy18⟩) (by assumption) ?rest18
          case hy18 => intro w hSw; (try dsimp only at hSw); go_simp; try (with_reducible rfl)
          case rest18 =>
          try simp only [Act.put, List.setIfInBounds_toArray, List.set_cons_zero, List.set_cons_succ]
          refine wpAnyH_take (i := 20) (v := ?v19) (at_list rfl) (by kernel_rfl) (by kernel_rfl) (by kernel_rfl) (fun _ _ _ h => h) (Or.inl ⟨by rfl, ?hy19⟩) (by assumption) ?rest19
          case hy19 => intro w hSw; (try dsimp only at hSw); go_simp; try (with_reducible rfl)
          case rest19 =>
          try simp only [Act.put, List.setIfInBounds_toArray, List.set_cons_zero, List.set_cons_succ]
          refine wpAnyH_take (i := 21) (v := ?v20) (at_list rfl) (by kernel_rfl) (by kernel_rfl) (by kernel_rfl) (fun _ _ _ h => h) (Or.inl ⟨by rfl, ?hy20⟩) (by assumption) ?rest20
          case hy20 => intro w hSw; (try dsimp only at hSw); go_simp; try (with_reducible rfl)
          case rest20 =>
          try simp only [Act.put, List.setIfInBounds_toArray, List.set_cons_zero, List.set_cons_succ]
          refine wpAnyH_take (i := 22) (v := ?v21) (at_list rfl) (by kernel_rfl) (by kernel_rfl) (by kernel_rfl) (fun _ _ _ h => h) (Or.inl ⟨by rfl, ?hy21⟩) (by assumption) ?rest21
          case hy21 => intro w hSw; (try dsimp only at hSw); go_simp; try (with_reducible rfl)
          case rest21 =>
          try simp only [Act.put, List.setIfInBounds_toArray, List.set_cons_zero, List.set_cons_succ]
          refine wpAnyH_take (i := 23) (v := ?v22) (at_list rfl) (by kernel_rfl) (by kernel_rfl) (by kernel_rfl) (fun _ _ _ h => h) (Or.inl ⟨by rfl, ?hy22⟩) (by assumption) ?rest22
          case hy22 => intro w hSw; (try dsimp only at hSw); go_simp; try (with_reducible rfl)
          case rest22 =>
          try simp only [Act.put, List.setIfInBounds_toArray, List.set_cons_zero, List.set_cons_succ]
          refine wpAnyH_take (i := 24) (v := ?v23) (at_list rfl) (by kernel_rfl) (by kernel_rfl) (by kernel_rfl) (fun _ _ _ h => h) (Or.inl ⟨by rfl, ?hy23⟩) (by assumption) ?rest23
          case hy23 => intro w hSw; (try dsimp only at hSw); go_simp; try (with_reducible rfl)
          case rest23 =>
          try simp only [Act.put, List.setIfInBounds_toArray, List.set_cons_zero, List.set_cons_succ]
          refine wpAnyH_ready (rs := [15]) (by kernel_rfl) (by simp) ?_
          refine AllReadyH.cons (at_list rfl) (fun K hK => ?_) AllReadyH.nil
          go_simp
          go_at_call 42; refine (HID.out _ _ _ _ _ (by exact HA.out.below (Bx.out (by (first | with_reducible assumption | with_reducible exact bx_alloc (by with_reducible assumption) _ | with_reducible exact bx_drew (by with_reducible assumption) | with_reducible exact bx_drew (bx_alloc (by with_reducible assumption) _))))) (by exact HBb.out.below (Bx.out (by (first | with_reducible assumption | with_reducible exact bx_alloc (by with_reducible assumption) _ | with_reducible exact bx_drew (by with_reducible assumption) | with_reducible exact bx_drew (bx_alloc (by with_reducible assumption) _)))))).mono ?_; rintro e w27 ⟨rfl, bw27⟩; have hBw27 : Bx (Below wr.heap.size wr w27) := bx_to (by (first | with_reducible assumption | with_reducible exact bx_alloc (by with_reducible assumption) _ | with_reducible exact bx_drew (by with_reducible assumption) | with_reducible exact bx_drew (bx_alloc (by with_reducible assumption) _))) bw27; have hzw27 := bx_size hBw27; have kga0_w27 := ((bcell hBw27.out).1 _ _ lt_ga).trans kga0; have kga1_w27 := ((bcell hBw27.out).1 _ _ lt_ga).trans kga1; have kgb0_w27 := ((bcell hBw27.out).1 _ _ lt_gb).trans kgb0; have kgb1_w27 := ((bcell hBw27.out).1 _ _ lt_gb).trans kgb1; have kgs0_w27 := ((bcell hBw27.out).1 _ _ lt_gs).trans kgs0; have kgs1_w27 := ((bcell hBw27.out).1 _ _ lt_gs).trans kgs1
          refine hK.out _ _ ?hS24 (fun hHeld => ?rest24)
          case hS24 => (try dsimp only); (refine (fun (hK : Bx (Below wr.heap.size wr _)) => ⟨((bcell hK.out).1 _ _ lt_ga).trans kga0, ((bcell hK.out).1 _ _ lt_ga).trans kga1, ((bcell hK.out).1 _ _ lt_gb).trans kgb0, ((bcell hK.out).1 _ _ lt_gb).trans kgb1, ((bcell hK.out).1 _ _ lt_gs).trans kgs0, ((bcell hK.out).1 _ _ lt_gs).trans kgs1, hK⟩) ?_; (first | with_reducible assumption | with_reducible exact bx_alloc (by with_reducible assumption) _ | with_reducible exact bx_drew (by with_reducible assumption) | with_reducible exact bx_drew (bx_alloc (by with_reducible assumption) _)))
          case rest24 =>
          clear hK K
          try simp only [Act.put, List.setIfInBounds_toArray, List.set_cons_zero, List.set_cons_succ]
          refine wpAnyH_ready (rs := [17]) (by kernel_rfl) (by simp) ?_
          refine AllReadyH.cons (at_list rfl) (fun K hK => ?_) AllReadyH.nil
          go_simp
          go_at_call 16; refine (countBeats_ok _ _ _ _ _ HSOK.out (by exact HSr.out.below (Bx.out (by (first | with_reducible assumption | with_reducible exact bx_alloc (by with_reducible assumption) _ | with_reducible exact bx_drew (by with_reducible assumption) | with_reducible exact bx_drew (bx_alloc (by with_reducible assumption) _)))))).mono ?_; rintro e w28 ⟨rfl, bw28⟩; have hBw28 : Bx (Below wr.heap.size wr w28) := bx_to (by (first | with_reducible assumption | with_reducible exact bx_alloc (by with_reducible assumption) _ | with_reducible exact bx_drew (by with_reducible assumption) | with_reducible exact bx_drew (bx_alloc (by with_reducible assumption) _))) bw28; have hzw28 := bx_size hBw28; have kga0_w28 := ((bcell hBw28.out).1 _ _ lt_ga).trans kga0; have kga1_w28 := ((bcell hBw28.out).1 _ _ lt_ga).trans kga1; have kgb0_w28 := ((bcell hBw28.out).1 _ _ lt_gb).trans kgb0; have kgb1_w28 := ((bcell hBw28.out).1 _ _ lt_gb).trans kgb1; have kgs0_w28 := ((bcell hBw28.out).1 _ _ lt_gs).trans kgs0; have kgs1_w28 := ((bcell hBw28.out).1 _ _ lt_gs).trans kgs1
          refine hK.out _ _ ?hS25 (fun hHeld => ?rest25)
          case hS25 => (try dsimp only); (refine (fun (hK : Bx (Below wr.heap.size wr _)) => ⟨((bcell hK.out).1 _ _ lt_ga).trans kga0, ((bcell hK.out).1 _ _ lt_ga).trans kga1, ((bcell hK.out).1 _ _ lt_gb).trans kgb0, ((bcell hK.out).1 _ _ lt_gb).trans kgb1, ((bcell hK.out).1 _ _ lt_gs).trans kgs0, ((bcell hK.out).1 _ _ lt_gs).trans kgs1, hK⟩) ?_; (first | with_reducible assumption | with_reducible exact bx_alloc (by with_reducible assumption) _ | with_reducible exact bx_drew (by with_reducible assumption) | with_reducible exact bx_drew (bx_alloc (by with_reducible assumption) _)))
          case rest25 =>
          clear hK K
          try simp only [Act.put, List.setIfInBounds_toArray, List.set_cons_zero, List.set_cons_succ]
          refine wpAnyH_take (i := 25) (v := ?v26) (at_list rfl) (by kernel_rfl) (by kernel_rfl) (by kernel_rfl) (fun _ _ _ h => h) (Or.inl ⟨by rfl, ?hy26⟩) (by assumption) ?rest26
          case hy26 => intro w hSw; (try dsimp only at hSw); go_simp; try (with_reducible rfl)
          case rest26 =>
          try simp only [Act.put, List.setIfInBounds_toArray, List.set_cons_zero, List.set_cons_succ]
          refine wpAnyH_take (i := 26) (v := ?v27) (at_list rfl) (by kernel_rfl) (by kernel_rfl) (by kernel_rfl) (fun _ _ _ h => h) (Or.inl ⟨by rfl, ?hy27⟩) (by assumption) ?rest27
          case hy27 => intro w hSw; (try dsimp only at hSw); go_simp; try (with_reducible rfl)
          case rest27 =>
          try simp only [Act.put, List.setIfInBounds_toArray, List.set_cons_zero, List.set_cons_succ]
          refine wpAnyH_take (i := 27) (v := ?v28) (at_list rfl) (by kernel_rfl) (by kernel_rfl) (by kernel_rfl) (fun _ _ _ h => h) (Or.inl ⟨by rfl, ?hy28⟩) (by assumption) ?rest28
          case hy28 => intro w hSw; (try dsimp only at hSw); go_simp; try (with_reducible rfl)
          case rest28 =>
          try simp only [Act.put, List.setIfInBounds_toArray, List.set_cons_zero, List.set_cons_succ]
          refine wpAnyH_take (i := 28) (v := ?v29) (at_list rfl) (by kernel_rfl) (by kernel_rfl) (by kernel_rfl) (fun _ _ _ h => h) (Or.inl ⟨by rfl, ?hy29⟩) (by assumption) ?rest29
          case hy29 => intro w hSw; (try dsimp only at hSw); go_simp; try (with_reducible rfl)
          case rest29 =>
          try simp only [Act.put, List.setIfInBounds_toArray, List.set_cons_zero, List.set_cons_succ]
          refine wpAnyH_done (by kernel_rfl) ?_ _
          have b := hBw28.out
          replace kga0 := ((bcell b).1 _ _ lt_ga).trans kga0
          replace kga1 := ((bcell b).1 _ _ lt_ga).trans kga1
          replace kgb0 := ((bcell b).1 _ _ lt_gb).trans kgb0
          replace kgb1 := ((bcell b).1 _ _ lt_gb).trans kgb1
          replace kgs0 := ((bcell b).1 _ _ lt_gs).trans kgs0
          replace kgs1 := ((bcell b).1 _ _ lt_gs).trans kgs1
          replace kgt0 := ((bcell b).1 _ _ lt_gt).trans kgt0
          replace kgt1 := ((bcell b).1 _ _ lt_gt).trans kgt1
          replace kgx0 := ((bcell b).1 _ _ lt_gx).trans kgx0
          replace kgx1 := ((bcell b).1 _ _ lt_gx).trans kgx1
          replace kgy0 := ((bcell b).1 _ _ lt_gy).trans kgy0
          replace kgy1 := ((bcell b).1 _ _ lt_gy).trans kgy1
          replace kgz0 := ((bcell b).1 _ _ lt_gz).trans kgz0
          replace kgz1 := ((bcell b).1 _ _ lt_gz).trans kgz1
          replace lt_ga := Nat.lt_of_lt_of_le lt_ga b.size
          replace lt_gb := Nat.lt_of_lt_of_le lt_gb b.size
          replace lt_gs := Nat.lt_of_lt_of_le lt_gs b.size
          replace lt_gt := Nat.lt_of_lt_of_le lt_gt b.size
          replace lt_gx := Nat.lt_of_lt_of_le lt_gx b.size
          replace lt_gy := Nat.lt_of_lt_of_le lt_gy b.size
          replace lt_gz := Nat.lt_of_lt_of_le lt_gz b.size
          replace HA := Bx.mk (HA.out.below b)
          replace HBb := Bx.mk (HBb.out.below b)
          replace HCr := Bx.mk (HCr.out.below b)
          replace HSr := Bx.mk (HSr.out.below b)
          replace HTr := Bx.mk (HTr.out.below b)
          replace HGr := Bx.mk (HGr.out.below b)
          replace HXr := Bx.mk (HXr.out.below b)
          replace HYr := Bx.mk (HYr.out.below b)
          replace HZr := Bx.mk (HZr.out.below b)
          replace HDr := Bx.mk (HDr.out.below b)
          replace HEr := Bx.mk (HEr.out.below b)
          replace HB := Bx.mk (HB.out.below b)
          replace bw := bw.trans (b.mono bw.size)
          clear b
          go_wp2_with fail
          go_ret
          exact ⟨rfl, bw⟩
        | true =>
          have hsm : (((S.length : Nat) : Int) == ((M : Nat) : Int)) = true := by have := HSL.out; rw [beq_iff_eq]; simpa using this
          by_cases hg0 : Gp.length = 0
          · skip
            have HTL : Bx (∀ A B c d W, IR W A a → IR W B b' → Calls Try.prog 43 #[.agg #[.int .i64 n, .slice A a.length c], .agg #[.int .i64 n, .slice B b'.length d]] W fun e w' => e = .returned (.bool true) ∧ Below W.heap.size W w') := ⟨HTI.out true (by rw [decide_eq_true hg0]; rfl)⟩
            have hgb : (((Gp.length : Nat) : Int) == 0) = true := by rw [beq_iff_eq]; omega
            clear hg0
            clear HSL HTT HTI HPD HDIR
            go_upto_region 33 with (fail)
            have hB : Bx (Below wr.heap.size wr wr.drew) := ⟨(Below.refl _ _).drew⟩
            have hB0 : Bx (Below wr.heap.size wr wr) := ⟨Below.refl _ _⟩
            have kga0_d : wr.drew.cell? _ = _ := kga0
            have kga1_d : wr.drew.cell? _ = _ := kga1
            have kgb0_d : wr.drew.cell? _ = _ := kgb0
            have kgb1_d : wr.drew.cell? _ = _ := kgb1
            have kgs0_d : wr.drew.cell? _ = _ := kgs0
            have kgs1_d : wr.drew.cell? _ = _ := kgs1
            go_region_held3 (fun w' => w'.cell? ⟨ga, 0, none⟩ = some (.int .i64 n) ∧ w'.cell? ⟨ga, 1, none⟩ = some (.slice Aa a.length ca) ∧ w'.cell? ⟨gb, 0, none⟩ = some (.int .i64 n) ∧ w'.cell? ⟨gb, 1, none⟩ = some (.slice Ab b'.length cb) ∧ w'.cell? ⟨gs, 0, none⟩ = some (.int .i64 n) ∧ w'.cell? ⟨gs, 1, none⟩ = some (.slice AS S.length cS) ∧ Bx (Below wr.heap.size wr w'))
              ((refine (fun (hK : Bx (Below wr.heap.size wr _)) => ⟨((bcell hK.out).1 _ _ lt_ga).trans kga0, ((bcell hK.out).1 _ _ lt_ga).trans kga1, ((bcell hK.out).1 _ _ lt_gb).trans kgb0, ((bcell hK.out).1 _ _ lt_gb).trans kgb1, ((bcell hK.out).1 _ _ lt_gs).trans kgs0, ((bcell hK.out).1 _ _ lt_gs).trans kgs1, hK⟩) ?_; (first | with_reducible assumption | with_reducible exact bx_alloc (by with_reducible assumption) _ | with_reducible exact bx_drew (by with_reducible assumption) | with_reducible exact bx_drew (bx_alloc (by with_reducible assumption) _))))
              (first
                | (go_at_call 43; refine (HTL.out _ _ _ _ _ (by exact HA.out.below (Bx.out (by (first | with_reducible assumption | with_reducible exact bx_alloc (by with_reducible assumption) _ | with_reducible exact bx_drew (by with_reducible assumption) | with_reducible exact bx_drew (bx_alloc (by with_reducible assumption) _))))) (by exact HBb.out.below (Bx.out (by (first | with_reducible assumption | with_reducible exact bx_alloc (by with_reducible assumption) _ | with_reducible exact bx_drew (by with_reducible assumption) | with_reducible exact bx_drew (bx_alloc (by with_reducible assumption) _)))))).mono ?_; rintro e w25 ⟨rfl, bw25⟩; have hBw25 : Bx (Below wr.heap.size wr w25) := bx_to (by (first | with_reducible assumption | with_reducible exact bx_alloc (by with_reducible assumption) _ | with_reducible exact bx_drew (by with_reducible assumption) | with_reducible exact bx_drew (bx_alloc (by with_reducible assumption) _))) bw25; have hzw25 := bx_size hBw25; have kga0_w25 := ((bcell hBw25.out).1 _ _ lt_ga).trans kga0; have kga1_w25 := ((bcell hBw25.out).1 _ _ lt_ga).trans kga1; have kgb0_w25 := ((bcell hBw25.out).1 _ _ lt_gb).trans kgb0; have kgb1_w25 := ((bcell hBw25.out).1 _ _ lt_gb).trans kgb1; have kgs0_w25 := ((bcell hBw25.out).1 _ _ lt_gs).trans kgs0; have kgs1_w25 := ((bcell hBw25.out).1 _ _ lt_gs).trans kgs1)
                | (go_at_call 42; refine (HID.out _ _ _ _ _ (by exact HA.out.below (Bx.out (by (first | with_reducible assumption | with_reducible exact bx_alloc (by with_reducible assumption) _ | with_reducible exact bx_drew (by with_reducible assumption) | with_reducible exact bx_drew (bx_alloc (by with_reducible assumption) _))))) (by exact HBb.out.below (Bx.out (by (first | with_reducible assumption | with_reducible exact bx_alloc (by with_reducible assumption) _ | with_reducible exact bx_drew (by with_reducible assumption) | with_reducible exact bx_drew (bx_alloc (by with_reducible assumption) _)))))).mono ?_; rintro e w26 ⟨rfl, bw26⟩; have hBw26 : Bx (Below wr.heap.size wr w26) := bx_to (by (first | with_reducible assumption | with_reducible exact bx_alloc (by with_reducible assumption) _ | with_reducible exact bx_drew (by with_reducible assumption) | with_reducible exact bx_drew (bx_alloc (by with_reducible assumption) _))) bw26; have hzw26 := bx_size hBw26; have kga0_w26 := ((bcell hBw26.out).1 _ _ lt_ga).trans kga0; have kga1_w26 := ((bcell hBw26.out).1 _ _ lt_ga).trans kga1; have kgb0_w26 := ((bcell hBw26.out).1 _ _ lt_gb).trans kgb0; have kgb1_w26 := ((bcell hBw26.out).1 _ _ lt_gb).trans kgb1; have kgs0_w26 := ((bcell hBw26.out).1 _ _ lt_gs).trans kgs0; have kgs1_w26 := ((bcell hBw26.out).1 _ _ lt_gs).trans kgs1)
                | (go_at_call 16; refine (countBeats_ok _ _ _ _ _ HSOK.out (by exact HSr.out.below (Bx.out (by (first | with_reducible assumption | with_reducible exact bx_alloc (by with_reducible assumption) _ | with_reducible exact bx_drew (by with_reducible assumption) | with_reducible exact bx_drew (bx_alloc (by with_reducible assumption) _)))))).mono ?_; rintro e w27 ⟨rfl, bw27⟩; have hBw27 : Bx (Below wr.heap.size wr w27) := bx_to (by (first | with_reducible assumption | with_reducible exact bx_alloc (by with_reducible assumption) _ | with_reducible exact bx_drew (by with_reducible assumption) | with_reducible exact bx_drew (bx_alloc (by with_reducible assumption) _))) bw27; have hzw27 := bx_size hBw27; have kga0_w27 := ((bcell hBw27.out).1 _ _ lt_ga).trans kga0; have kga1_w27 := ((bcell hBw27.out).1 _ _ lt_ga).trans kga1; have kgb0_w27 := ((bcell hBw27.out).1 _ _ lt_gb).trans kgb0; have kgb1_w27 := ((bcell hBw27.out).1 _ _ lt_gb).trans kgb1; have kgs0_w27 := ((bcell hBw27.out).1 _ _ lt_gs).trans kgs0; have kgs1_w27 := ((bcell hBw27.out).1 _ _ lt_gs).trans kgs1))
            have b := hBw27.out
            replace kga0 := ((bcell b).1 _ _ lt_ga).trans kga0
            replace kga1 := ((bcell b).1 _ _ lt_ga).trans kga1
            replace kgb0 := ((bcell b).1 _ _ lt_gb).trans kgb0
            replace kgb1 := ((bcell b).1 _ _ lt_gb).trans kgb1
            replace kgs0 := ((bcell b).1 _ _ lt_gs).trans kgs0
            replace kgs1 := ((bcell b).1 _ _ lt_gs).trans kgs1
            replace kgt0 := ((bcell b).1 _ _ lt_gt).trans kgt0
            replace kgt1 := ((bcell b).1 _ _ lt_gt).trans kgt1
            replace kgx0 := ((bcell b).1 _ _ lt_gx).trans kgx0
            replace kgx1 := ((bcell b).1 _ _ lt_gx).trans kgx1
            replace kgy0 := ((bcell b).1 _ _ lt_gy).trans kgy0
            replace kgy1 := ((bcell b).1 _ _ lt_gy).trans kgy1
            replace kgz0 := ((bcell b).1 _ _ lt_gz).trans kgz0
            replace kgz1 := ((bcell b).1 _ _ lt_gz).trans kgz1
            replace lt_ga := Nat.lt_of_lt_of_le lt_ga b.size
            replace lt_gb := Nat.lt_of_lt_of_le lt_gb b.size
            replace lt_gs := Nat.lt_of_lt_of_le lt_gs b.size
            replace lt_gt := Nat.lt_of_lt_of_le lt_gt b.size
            replace lt_gx := Nat.lt_of_lt_of_le lt_gx b.size
            replace lt_gy := Nat.lt_of_lt_of_le lt_gy b.size
            replace lt_gz := Nat.lt_of_lt_of_le lt_gz b.size
            replace HA := Bx.mk (HA.out.below b)
            replace HBb := Bx.mk (HBb.out.below b)
            replace HCr := Bx.mk (HCr.out.below b)
            replace HSr := Bx.mk (HSr.out.below b)
            replace HTr := Bx.mk (HTr.out.below b)
            replace HGr := Bx.mk (HGr.out.below b)
            replace HXr := Bx.mk (HXr.out.below b)
            replace HYr := Bx.mk (HYr.out.below b)
            replace HZr := Bx.mk (HZr.out.below b)
            replace HDr := Bx.mk (HDr.out.below b)
            replace HEr := Bx.mk (HEr.out.below b)
            replace HB := Bx.mk (HB.out.below b)
            replace bw := bw.trans (b.mono bw.size)
            clear b
            go_wp2_with fail
            go_ret
            exact ⟨rfl, bw⟩
          · skip
            have HTL : Bx (∀ A B c d W, IR W A a → IR W B b' → Calls Try.prog 43 #[.agg #[.int .i64 n, .slice A a.length c], .agg #[.int .i64 n, .slice B b'.length d]] W fun e w' => e = .returned (.bool false) ∧ Below W.heap.size W w') := ⟨HTI.out false (by rw [decide_eq_false hg0]; rfl)⟩
            have hgb : (((Gp.length : Nat) : Int) == 0) = false := by rw [beq_eq_false_iff_ne]; omega
            clear hg0
            clear HSL HTT HTI HPD HDIR
            go_upto_region 33 with (fail)
            have hB : Bx (Below wr.heap.size wr wr.drew) := ⟨(Below.refl _ _).drew⟩
            have hB0 : Bx (Below wr.heap.size wr wr) := ⟨Below.refl _ _⟩
            have kga0_d : wr.drew.cell? _ = _ := kga0
            have kga1_d : wr.drew.cell? _ = _ := kga1
            have kgb0_d : wr.drew.cell? _ = _ := kgb0
            have kgb1_d : wr.drew.cell? _ = _ := kgb1
            have kgs0_d : wr.drew.cell? _ = _ := kgs0
            have kgs1_d : wr.drew.cell? _ = _ := kgs1
            go_region_held3 (fun w' => w'.cell? ⟨ga, 0, none⟩ = some (.int .i64 n) ∧ w'.cell? ⟨ga, 1, none⟩ = some (.slice Aa a.length ca) ∧ w'.cell? ⟨gb, 0, none⟩ = some (.int .i64 n) ∧ w'.cell? ⟨gb, 1, none⟩ = some (.slice Ab b'.length cb) ∧ w'.cell? ⟨gs, 0, none⟩ = some (.int .i64 n) ∧ w'.cell? ⟨gs, 1, none⟩ = some (.slice AS S.length cS) ∧ Bx (Below wr.heap.size wr w'))
              ((refine (fun (hK : Bx (Below wr.heap.size wr _)) => ⟨((bcell hK.out).1 _ _ lt_ga).trans kga0, ((bcell hK.out).1 _ _ lt_ga).trans kga1, ((bcell hK.out).1 _ _ lt_gb).trans kgb0, ((bcell hK.out).1 _ _ lt_gb).trans kgb1, ((bcell hK.out).1 _ _ lt_gs).trans kgs0, ((bcell hK.out).1 _ _ lt_gs).trans kgs1, hK⟩) ?_; (first | with_reducible assumption | with_reducible exact bx_alloc (by with_reducible assumption) _ | with_reducible exact bx_drew (by with_reducible assumption) | with_reducible exact bx_drew (bx_alloc (by with_reducible assumption) _))))
              (first
                | (go_at_call 43; refine (HTL.out _ _ _ _ _ (by exact HA.out.below (Bx.out (by (first | with_reducible assumption | with_reducible exact bx_alloc (by with_reducible assumption) _ | with_reducible exact bx_drew (by with_reducible assumption) | with_reducible exact bx_drew (bx_alloc (by with_reducible assumption) _))))) (by exact HBb.out.below (Bx.out (by (first | with_reducible assumption | with_reducible exact bx_alloc (by with_reducible assumption) _ | with_reducible exact bx_drew (by with_reducible assumption) | with_reducible exact bx_drew (bx_alloc (by with_reducible assumption) _)))))).mono ?_; rintro e w25 ⟨rfl, bw25⟩; have hBw25 : Bx (Below wr.heap.size wr w25) := bx_to (by (first | with_reducible assumption | with_reducible exact bx_alloc (by with_reducible assumption) _ | with_reducible exact bx_drew (by with_reducible assumption) | with_reducible exact bx_drew (bx_alloc (by with_reducible assumption) _))) bw25; have hzw25 := bx_size hBw25; have kga0_w25 := ((bcell hBw25.out).1 _ _ lt_ga).trans kga0; have kga1_w25 := ((bcell hBw25.out).1 _ _ lt_ga).trans kga1; have kgb0_w25 := ((bcell hBw25.out).1 _ _ lt_gb).trans kgb0; have kgb1_w25 := ((bcell hBw25.out).1 _ _ lt_gb).trans kgb1; have kgs0_w25 := ((bcell hBw25.out).1 _ _ lt_gs).trans kgs0; have kgs1_w25 := ((bcell hBw25.out).1 _ _ lt_gs).trans kgs1)
                | (go_at_call 42; refine (HID.out _ _ _ _ _ (by exact HA.out.below (Bx.out (by (first | with_reducible assumption | with_reducible exact bx_alloc (by with_reducible assumption) _ | with_reducible exact bx_drew (by with_reducible assumption) | with_reducible exact bx_drew (bx_alloc (by with_reducible assumption) _))))) (by exact HBb.out.below (Bx.out (by (first | with_reducible assumption | with_reducible exact bx_alloc (by with_reducible assumption) _ | with_reducible exact bx_drew (by with_reducible assumption) | with_reducible exact bx_drew (bx_alloc (by with_reducible assumption) _)))))).mono ?_; rintro e w26 ⟨rfl, bw26⟩; have hBw26 : Bx (Below wr.heap.size wr w26) := bx_to (by (first | with_reducible assumption | with_reducible exact bx_alloc (by with_reducible assumption) _ | with_reducible exact bx_drew (by with_reducible assumption) | with_reducible exact bx_drew (bx_alloc (by with_reducible assumption) _))) bw26; have hzw26 := bx_size hBw26; have kga0_w26 := ((bcell hBw26.out).1 _ _ lt_ga).trans kga0; have kga1_w26 := ((bcell hBw26.out).1 _ _ lt_ga).trans kga1; have kgb0_w26 := ((bcell hBw26.out).1 _ _ lt_gb).trans kgb0; have kgb1_w26 := ((bcell hBw26.out).1 _ _ lt_gb).trans kgb1; have kgs0_w26 := ((bcell hBw26.out).1 _ _ lt_gs).trans kgs0; have kgs1_w26 := ((bcell hBw26.out).1 _ _ lt_gs).trans kgs1)
                | (go_at_call 16; refine (countBeats_ok _ _ _ _ _ HSOK.out (by exact HSr.out.below (Bx.out (by (first | with_reducible assumption | with_reducible exact bx_alloc (by with_reducible assumption) _ | with_reducible exact bx_drew (by with_reducible assumption) | with_reducible exact bx_drew (bx_alloc (by with_reducible assumption) _)))))).mono ?_; rintro e w27 ⟨rfl, bw27⟩; have hBw27 : Bx (Below wr.heap.size wr w27) := bx_to (by (first | with_reducible assumption | with_reducible exact bx_alloc (by with_reducible assumption) _ | with_reducible exact bx_drew (by with_reducible assumption) | with_reducible exact bx_drew (bx_alloc (by with_reducible assumption) _))) bw27; have hzw27 := bx_size hBw27; have kga0_w27 := ((bcell hBw27.out).1 _ _ lt_ga).trans kga0; have kga1_w27 := ((bcell hBw27.out).1 _ _ lt_ga).trans kga1; have kgb0_w27 := ((bcell hBw27.out).1 _ _ lt_gb).trans kgb0; have kgb1_w27 := ((bcell hBw27.out).1 _ _ lt_gb).trans kgb1; have kgs0_w27 := ((bcell hBw27.out).1 _ _ lt_gs).trans kgs0; have kgs1_w27 := ((bcell hBw27.out).1 _ _ lt_gs).trans kgs1))
            have b := hBw27.out
            replace kga0 := ((bcell b).1 _ _ lt_ga).trans kga0
            replace kga1 := ((bcell b).1 _ _ lt_ga).trans kga1
            replace kgb0 := ((bcell b).1 _ _ lt_gb).trans kgb0
            replace kgb1 := ((bcell b).1 _ _ lt_gb).trans kgb1
            replace kgs0 := ((bcell b).1 _ _ lt_gs).trans kgs0
            replace kgs1 := ((bcell b).1 _ _ lt_gs).trans kgs1
            replace kgt0 := ((bcell b).1 _ _ lt_gt).trans kgt0
            replace kgt1 := ((bcell b).1 _ _ lt_gt).trans kgt1
            replace kgx0 := ((bcell b).1 _ _ lt_gx).trans kgx0
            replace kgx1 := ((bcell b).1 _ _ lt_gx).trans kgx1
            replace kgy0 := ((bcell b).1 _ _ lt_gy).trans kgy0
            replace kgy1 := ((bcell b).1 _ _ lt_gy).trans kgy1
            replace kgz0 := ((bcell b).1 _ _ lt_gz).trans kgz0
            replace kgz1 := ((bcell b).1 _ _ lt_gz).trans kgz1
            replace lt_ga := Nat.lt_of_lt_of_le lt_ga b.size
            replace lt_gb := Nat.lt_of_lt_of_le lt_gb b.size
            replace lt_gs := Nat.lt_of_lt_of_le lt_gs b.size
            replace lt_gt := Nat.lt_of_lt_of_le lt_gt b.size
            replace lt_gx := Nat.lt_of_lt_of_le lt_gx b.size
            replace lt_gy := Nat.lt_of_lt_of_le lt_gy b.size
            replace lt_gz := Nat.lt_of_lt_of_le lt_gz b.size
            replace HA := Bx.mk (HA.out.below b)
            replace HBb := Bx.mk (HBb.out.below b)
            replace HCr := Bx.mk (HCr.out.below b)
            replace HSr := Bx.mk (HSr.out.below b)
            replace HTr := Bx.mk (HTr.out.below b)
            replace HGr := Bx.mk (HGr.out.below b)
            replace HXr := Bx.mk (HXr.out.below b)
            replace HYr := Bx.mk (HYr.out.below b)
            replace HZr := Bx.mk (HZr.out.below b)
            replace HDr := Bx.mk (HDr.out.below b)
            replace HEr := Bx.mk (HEr.out.below b)
            replace HB := Bx.mk (HB.out.below b)
            replace bw := bw.trans (b.mono bw.size)
            clear b
            go_wp2_with fail
            go_ret
            exact ⟨rfl, bw⟩
end Go.Proofs.Ytlgiijibekobfaa
