/- The law FnForbidden, walked. -/
import Derived.Test.YtlgiijibekobfaaRegM
import Derived.Test.YtlgiijibekobfaaForbJ
import Derived.Test.YtlgiijibekobfaaDraw2
import Derived.Test.YtlgiijibekobfaaLawH
import Derived.Test.YtlgiijibekobfaaDiff
import Derived.Test.YtlgiijibekobfaaJoin
import Derived.Test.YtlgiijibekobfaaBas
import Derived.Test.YtlgiijibekobfaaFinWords
import Derived.Deep.RegionHeld3
import Derived.Deep.DeepCutAuto
namespace Go.Proofs.Ytlgiijibekobfaa
open Go.RowKit

set_option linter.unusedSimpArgs false
set_option maxHeartbeats 16000000 in
set_option maxRecDepth 100000 in
theorem walkFnForbidden (w : World) (A0 : Option Addr) (c0 : Nat) (xs0 : List Int) (ha0 : AR .u8 w A0 xs0) (hf0 : ∀ x ∈ xs0, 0 ≤ x ∧ x ≤ 255) :
    Calls Try.prog 3 #[.slice A0 xs0.length c0] w fun e w' => e = .returned (.bool true) ∧ Below w.heap.size w w' := by
  obtain ⟨n0, hn0⟩ : ∃ n0, n0 = xs0.length := ⟨_, rfl⟩
  by_cases hbig : n0 ≤ 1048576
  rotate_left
  · have hgt : (n0 : Int) > 1048576 := by omega
    rw [← hn0]
    clear hn0
    go_enter Try.func3, Try.ntmps3
    go_wp2_with fail
    go_ret
    exact ⟨rfl, Below.refl _ _⟩
  have HB : Bx (BR w A0 n0) := ⟨br_of hn0 hbig ha0 hf0⟩
  have bw : Below w.heap.size w w := Below.refl _ _
  have hgt : ¬ (n0 : Int) > 1048576 := by omega
  rw [← hn0]
  clear hn0 ha0 hf0
  go_enter Try.func3, Try.ntmps3
  go_wp2_with fail
  refine (makeNum_any _ _ _ 0 _ (by omega) (by exact HB.out)).mono ?_
  rintro e w1 ⟨q1, hq1, rfl, b⟩
  replace HB := Bx.mk (HB.out.below b)
  replace bw := bw.trans (b.mono bw.size)
  clear b
  obtain ⟨m1, hm⟩ : ∃ m : Nat, m = q1 % 9 := ⟨_, rfl⟩
  have hmb : m1 ≤ 8 := by omega
  have hme : (q1 : Int) % 9 = (m1 : Int) := by rw [hm]; exact (Int.natCast_emod q1 9).symm
  have hmt : (q1 : Int).tmod 9 = (m1 : Int) := by rw [hm]; exact (Int.ofNat_tmod q1 9).symm
  obtain ⟨n, hn⟩ : ∃ n : Nat, n = 2 + m1 := ⟨_, rfl⟩
  have hni : (2 : Int) + (m1 : Int) = (n : Int) := by omega
  have hn2 : 2 ≤ n := by omega
  have hn10 : n ≤ 10 := by omega
  clear hm hn
  go_wp2_with fail
  refine (makeNum_any _ _ _ 2 _ (by omega) (by exact HB.out)).mono ?_
  rintro e w2 ⟨q2, hq2, rfl, b⟩
  clear hme hmt hni
  replace HB := Bx.mk (HB.out.below b)
  replace bw := bw.trans (b.mono bw.size)
  clear b
  obtain ⟨r1, hr1⟩ : ∃ r1 : Nat, r1 = n - 1 := ⟨_, rfl⟩
  have hri : (n : Int) - 1 = (r1 : Int) := by omega
  have hrz : ¬ (r1 : Int) = 0 := by omega
  obtain ⟨m2, hm⟩ : ∃ m : Nat, m = q2 % r1 := ⟨_, rfl⟩
  have hmb2 : m2 < r1 := by rw [hm]; exact Nat.mod_lt _ (by omega)
  have hme : (q2 : Int) % (r1 : Int) = (m2 : Int) := by rw [hm]; exact (Int.natCast_emod q2 r1).symm
  have hmt : (q2 : Int).tmod (r1 : Int) = (m2 : Int) := by rw [hm]; exact (Int.ofNat_tmod q2 r1).symm
  obtain ⟨d, hd⟩ : ∃ d : Nat, d = 1 + m2 := ⟨_, rfl⟩
  have hdi : (1 : Int) + (m2 : Int) = (d : Int) := by omega
  have hd1 : 1 ≤ d := by omega
  have hdn : d < n := by omega
  clear hm hd hr1 hmb2
  go_wp2_with fail
  refine (makeNum_any _ _ _ 4 _ (by omega) (by exact HB.out)).mono ?_
  rintro e w3 ⟨q3, hq3, rfl, b⟩
  clear hme hmt hdi hri hrz
  replace HB := Bx.mk (HB.out.below b)
  replace bw := bw.trans (b.mono bw.size)
  clear b
  obtain ⟨r2, hr2⟩ : ∃ r2 : Nat, r2 = n + 1 := ⟨_, rfl⟩
  have hri : (n : Int) + 1 = (r2 : Int) := by omega
  have hrz : ¬ (r2 : Int) = 0 := by omega
  obtain ⟨k, hm⟩ : ∃ m : Nat, m = q3 % r2 := ⟨_, rfl⟩
  have hkb : k < r2 := by rw [hm]; exact Nat.mod_lt _ (by omega)
  have hme : (q3 : Int) % (r2 : Int) = (k : Int) := by rw [hm]; exact (Int.natCast_emod q3 r2).symm
  have hmt : (q3 : Int).tmod (r2 : Int) = (k : Int) := by rw [hm]; exact (Int.ofNat_tmod q3 r2).symm
  have hkn : k ≤ n := by omega
  clear hm hr2 hkb
  go_wp2_with fail
  clear hme hmt hri hrz
  obtain ⟨gc, hgc⟩ : ∃ gc : Nat, gc = Nat.gcd n d := ⟨_, rfl⟩
  obtain ⟨L, hL⟩ : ∃ L, L = circlesI n d := ⟨_, rfl⟩
  obtain ⟨hf1, hf2, hf3, hf4⟩ := circ_facts hn2 hn10 hd1 hdn
  have HCI : Bx (∀ W, Calls Try.prog 8 #[.int .i64 n, .int .i64 d] W (GivesRows W L)) := ⟨fun W => by rw [hL]; exact implCircles_any n d W⟩
  rw [← hL] at hf1 hf2 hf3 hf4
  rw [← hgc] at hf1 hf4
  have hgp : 1 ≤ gc := by rw [hgc]; exact Nat.gcd_pos_of_pos_left _ (by omega)
  have hgn : gc ≤ n := by rw [hgc]; exact Nat.gcd_le_left _ (by omega)
  have HGC : Bx (∀ W, Calls Try.prog 9 #[.int .i64 n, .int .i64 d] W fun e w' => e = .returned (.int .i64 (gc : Int)) ∧ W = w') := ⟨fun W => by rw [hgc]; exact forb_gcd n d (by omega) (by omega) W⟩
  obtain ⟨ng, hng⟩ : ∃ ng, ng = n / gc := ⟨_, rfl⟩
  rw [← hng] at hf1
  have hnb : ng ≤ n := by rw [hng]; exact Nat.div_le_self _ _
  have hdt : (n : Int).tdiv (gc : Int) = (ng : Int) := by rw [hng]; exact (Int.ofNat_tdiv n gc).symm
  have hde : (n : Int) / (gc : Int) = (ng : Int) := by rw [hng]; exact (Int.natCast_ediv n gc).symm
  have hgz : ¬ (gc : Int) = 0 := by omega
  have hLl : L.length ≤ 24 := by omega
  have HF1 := Bx.mk hf1
  have HF2 := Bx.mk hf2
  have HF3 := Bx.mk hf3
  have HF4 := Bx.mk hf4
  clear hf1 hf2 hf3 hf4 hgc hL hng
  refine (HCI.out _).mono ?_
  rintro e w4 ⟨V, gs, vs, rfl, hrows, b⟩
  replace HB := Bx.mk (HB.out.below b)
  replace bw := bw.trans (b.mono bw.size)
  clear b
  have HRo : Bx (RowsR w4 _ V gs vs L) := ⟨hrows⟩
  clear hrows
  obtain ⟨A4, c4, rfl⟩ := Rows2.slice HRo.out
  obtain ⟨W0, hW0⟩ : ∃ W0, W0 = w4.alloc (.cells #[] 3) := ⟨_, rfl⟩
  have HSe : Bx (Row W0 w4.heap.size (.slice (some ⟨w4.heap.size, 0, none⟩) 0 0) []) := ⟨by rw [hW0]; exact Row.empty _ _ (Nat.le_refl _)⟩
  have b0 : Bx (Below w4.heap.size w4 W0) := ⟨by rw [hW0]; exact below_alloc _ _⟩
  go_upto_region 8 with (fail)
  rw [← hW0]
  clear hW0
  go_wp2_with fail
  go_loopw [7, 46] (fun sv iv wr => ∃ i : Nat, i ≤ L.length ∧ iv = .int .i64 i ∧ Bx (Row wr w4.heap.size sv (L.take i).flatten) ∧ Bx (Below w4.heap.size w4 wr)) (fun _ iv _ => L.length - (intOf iv).toNat)
  case atStart => exact ⟨0, by omega, rfl, HSe, b0⟩
  case round =>
    obtain ⟨i, hi, rfl, HR, HW⟩ := hrel
    by_cases hlt : i < L.length
    · have hli : (i : Int) < (L.length : Int) := by omega
      obtain ⟨g0, gk, ck, l, rfl, hg0, cl, iol, HL, _⟩ := Rows2.cell HRo.out (k := i) hlt
      obtain ⟨Al, hAl⟩ : ∃ Al : Option Addr, Al = some ⟨gk, 0, none⟩ := ⟨_, rfl⟩
      rw [← hAl] at cl iol
      have HLI := Bx.mk iol.reads
      have cl2 := ((bcell HW.out).1 _ _ hg0).trans cl
      have HLx : Bx (L[i]? = some l) := ⟨HL.out.1⟩
      have hll : l.length = ng := HF1.out l (List.mem_of_getElem? HLx.out)
      have hlb : (((l.length : Nat) : Int) != (ng : Int)) = false := by rw [bne_eq_false_iff_eq, hll]
      have hlb24 : l.length ≤ 24 := by omega
      clear hll HL iol hAl cl
      go_wp2_with fail
      refine (HGC.out _).mono ?_
      rintro e w' ⟨rfl, rfl⟩
      go_wp2_with fail
      go_loopw [7, 60] (fun sv jv wx => ∃ j : Nat, j ≤ l.length ∧ jv = .int .i64 j ∧ Bx (Row wx w4.heap.size sv ((L.take i).flatten ++ l.take j)) ∧ Bx (Below w4.heap.size w4 wx)) (fun _ jv _ => l.length - (intOf jv).toNat)
      case atStart => exact ⟨0, by omega, rfl, ⟨by simpa using HR.out⟩, HW⟩
      case round =>
        obtain ⟨j, hj, rfl, HR2, HW2⟩ := hrel
        by_cases hlt2 : j < l.length
        · have hlj : (j : Int) < (l.length : Int) := by omega
          obtain ⟨bl, ol, p, rfl, hbl, cp, H3⟩ := (HLI.out.below HW2.out).one (k := j) hlt2
          have hnew := seen_new HF2.out HLx.out H3.out
          obtain ⟨Z, hZ⟩ : ∃ Z, Z = (L.take i).flatten ++ l.take j := ⟨_, rfl⟩
          rw [← hZ] at hnew HR2
          have hzl : Z.length ≤ 1000000 := by
            rw [hZ, List.length_append]
            have h1 : (L.take i).flatten.length + (L.drop i).flatten.length = L.flatten.length := by rw [← List.length_append, ← List.flatten_append, List.take_append_drop]
            have h2 : (l.take j).length ≤ l.length := by simp [List.length_take]; omega
            have := HF3.out
            omega
          have HAS : Bx (∀ A c W, IR W A Z → Calls Try.prog 10 #[.slice A Z.length c, .int .i64 p] W fun e w' => e = .returned (.bool false) ∧ W = w') := ⟨fun A c W h => by rw [← hnew.1]; exact lawHas_any A c Z p W h⟩
          have HN := Bx.mk hnew.2
          obtain ⟨As, cs, rfl, ios⟩ := HR2.out.io (by omega)
          have HIS := Bx.mk ios.reads
          have hzb : w4.heap.size ≤ wr.heap.size := HW2.out.size
          clear H3 hnew hZ ios
          go_wp2_with fail
          refine (HAS.out _ _ _ (by exact HIS.out)).mono ?_
          rintro e w' ⟨rfl, rfl⟩
          go_wp2_with (at_builtin; go_must (refine wpList_app1 rfl _ _ rfl w4.heap.size _ Z p rfl rfl (by exact HR2.out) (by omega) (by exact hzb) ?_); intro v1 w6 hrow hb)
          have HR3 : Bx (Row w6 w4.heap.size v1 ((L.take i).flatten ++ l.take (j + 1))) := ⟨by rw [HN.out]; exact hrow⟩
          have HW3 := Bx.mk (HW2.out.trans hb)
          clear hrow hb
          go_wp2_with fail
          go_roundw
          case rel => exact ⟨j + 1, by omega, by go_num, HR3, HW3⟩
          case measure => simp [intOf]; omega
        · have hlj : ¬ (j : Int) < (l.length : Int) := by omega
          have HR4 : Bx (Row wr w4.heap.size _ (L.take (i + 1)).flatten) := ⟨by
            have := HR2.out
            rw [show l.take j = l from List.take_of_length_le (by omega), ← seen_next HLx.out] at this
            exact this⟩
          clear HR2
          go_wp2_with fail
          go_roundw
          case rel => exact ⟨i + 1, by omega, by go_num, HR4, HW2⟩
          case measure => simp [intOf]; omega
    have hli : ¬ (i : Int) < (L.length : Int) := by omega
    obtain ⟨Z, hZ⟩ : ∃ Z, Z = (L.take i).flatten := ⟨_, rfl⟩
    rw [← hZ] at HR
    have hzl : Z.length = n := by rw [hZ, List.take_of_length_le (by omega)]; exact HF3.out
    obtain ⟨As, cs, rfl, ios⟩ := HR.out.io (by omega)
    have HZL := Bx.mk hzl
    have b := HW.out
    clear hZ hzl HR HW b0 HSe
    replace HRo := Bx.mk (HRo.out.below b)
    replace HB := Bx.mk (HB.out.below b)
    replace bw := bw.trans (b.mono bw.size)
    clear b
    clear HRo
    have HZr := Bx.mk ios.reads
    clear ios
    obtain ⟨M, hM⟩ : ∃ M : Nat, M = mostN n d := ⟨_, rfl⟩
    obtain ⟨CK, hCK⟩ : ∃ CK : Nat, CK = cntTo n d k (2 ^ n) := ⟨_, rfl⟩
    obtain ⟨nd, hnd⟩ : ∃ nd : Nat, nd = n - d := ⟨_, rfl⟩
    obtain ⟨hp1, hp2, _, hp4, hp5⟩ := forb_parts hn2 hn10 hd1 hdn hkn
    have hp3 := (forb_parts hn2 hn10 hd1 hdn (show 1 ≤ n by omega)).2.2.1 rfl
    have hndi : (n : Int) - (d : Int) = (nd : Int) := by omega
    have HMA : Bx (∀ W, Calls Try.prog 11 #[.int .i64 n, .int .i64 d] W fun e w' => e = .returned (.int .i64 (M : Int)) ∧ Below W.heap.size W w') := ⟨fun W => by rw [hM]; exact forb_most hn2 hn10 hd1 hdn W⟩
    have HC1 : Bx (∀ W, Calls Try.prog 13 #[.int .i64 n, .int .i64 d, .int .i64 k] W fun e w' => e = .returned (.int .i64 (CK : Int)) ∧ Below W.heap.size W w') := ⟨fun W => by rw [hCK]; exact forb_count hn2 hn10 hd1 hdn hkn W⟩
    have HC2 : Bx (∀ W, Calls Try.prog 13 #[.int .i64 n, .int .i64 d, .int .i64 1] W fun e w' => e = .returned (.int .i64 (n : Int)) ∧ Below W.heap.size W w') := ⟨fun W => by
      have h := forb_count hn2 hn10 hd1 hdn (show 1 ≤ n by omega) W
      rw [hp3] at h
      exact h⟩
    have HC3 : Bx (∀ W, Calls Try.prog 13 #[.int .i64 n, .int .i64 nd, .int .i64 k] W fun e w' => e = .returned (.int .i64 (CK : Int)) ∧ Below W.heap.size W w') := ⟨fun W => by rw [hCK, hp2, ← hnd]; exact forb_count hn2 hn10 (by omega) (by omega) hkn W⟩
    rw [← hM, ← hCK] at hp1
    rw [← hM] at hp4 hp5
    have HP1 := Bx.mk hp1
    have HME := Bx.mk hM
    have HCE := Bx.mk hCK
    have hsl : (((Z.length : Nat) : Int) != ((n : Nat) : Int)) = false := by rw [bne_eq_false_iff_eq, HZL.out]
    have hcl : (((L.length : Nat) : Int) != ((gc : Nat) : Int)) = false := by rw [bne_eq_false_iff_eq, HF4.out]
    have hnn : (((n : Nat) : Int) != ((n : Nat) : Int)) = false := by simp
    have hcc : (((CK : Nat) : Int) != ((CK : Nat) : Int)) = false := by simp
    have hM1 : ¬ (M : Int) < 1 := by omega
    have hM2 : ¬ (n : Int) < 2 * (M : Int) := by omega
    clear hp1 hp2 hp3 hM hCK hnd
    go_wp2_with fail
    refine (HMA.out _).mono ?_
    rintro e w5 ⟨rfl, b⟩
    replace HZr := Bx.mk (HZr.out.below b)
    replace HB := Bx.mk (HB.out.below b)
    replace bw := bw.trans (b.mono bw.size)
    clear b
    go_wp2_with fail
    obtain ⟨O, hO⟩ : ∃ O, O = firstR n d k := ⟨_, rfl⟩
    have HFS : Bx (O.isSome = decide (k ≤ M)) := ⟨by rw [hO, first_some, ← HCE.out, Bool.eq_iff_iff, decide_eq_true_iff, decide_eq_true_iff]; exact HP1.out⟩
    have HOE := Bx.mk hO
    clear hO
    cases O with
    | none =>
      have hkM : ¬ (k : Int) ≤ (M : Int) := by have := HFS.out; simp at this; omega
      have hck : ¬ (0 : Int) < (CK : Int) := by have := HP1.out; omega
      have HFO : Bx (∀ W, Calls Try.prog 12 #[.int .i64 n, .int .i64 d, .int .i64 k] W fun e w' => ∃ A c, e = .returned (.tuple #[.agg #[.int .i64 0, .slice A 0 c], .bool false]) ∧ Below W.heap.size W w') := ⟨fun W => forb_none hn2 hn10 hd1 hdn hkn HOE.out.symm W⟩
      refine (HFO.out _).mono ?_
      rintro e w6 ⟨AR', cR, rfl, b⟩
      replace HZr := Bx.mk (HZr.out.below b)
      replace HB := Bx.mk (HB.out.below b)
      replace bw := bw.trans (b.mono bw.size)
      clear b
      obtain ⟨w7, hW⟩ : ∃ w7, w7 = w6.alloc (.cells #[.int .i64 0, .slice AR' 0 cR] 30) := ⟨_, rfl⟩
      obtain ⟨gr, hg⟩ : ∃ gr, gr = w6.heap.size := ⟨_, rfl⟩
      have b : Below w6.heap.size w6 w7 := by rw [hW]; exact below_alloc _ _
      have kgr0 : w7.cell? ⟨gr, 0, none⟩ = some (.int .i64 0) := by rw [hW, hg]; simp [go_sem]
      have kgr1 : w7.cell? ⟨gr, 1, none⟩ = some (.slice AR' 0 cR) := by rw [hW, hg]; simp [go_sem]
      have lt_gr : gr < w7.heap.size := by rw [hW, hg]; simp
      replace HZr := Bx.mk (HZr.out.below b)
      replace HB := Bx.mk (HB.out.below b)
      replace bw := bw.trans (b.mono bw.size)
      clear b
      clear HFS HP1
      go_upto_region 23 with (fail)
      rw [← hW, ← hg]
      clear hW hg
      go_wp2_with fail
      refine (HGC.out _).mono ?_
      rintro e w' ⟨rfl, rfl⟩
      go_wp2_with fail
      refine (HC1.out _).mono ?_
      rintro e w8 ⟨rfl, b⟩
      replace kgr0 := ((bcell b).1 _ _ lt_gr).trans kgr0
      replace kgr1 := ((bcell b).1 _ _ lt_gr).trans kgr1
      replace lt_gr := Nat.lt_of_lt_of_le lt_gr b.size
      replace HZr := Bx.mk (HZr.out.below b)
      replace HB := Bx.mk (HB.out.below b)
      replace bw := bw.trans (b.mono bw.size)
      clear b
      go_wp2_with fail
      refine (HC2.out _).mono ?_
      rintro e w9 ⟨rfl, b⟩
      replace kgr0 := ((bcell b).1 _ _ lt_gr).trans kgr0
      replace kgr1 := ((bcell b).1 _ _ lt_gr).trans kgr1
      replace lt_gr := Nat.lt_of_lt_of_le lt_gr b.size
      replace HZr := Bx.mk (HZr.out.below b)
      replace HB := Bx.mk (HB.out.below b)
      replace bw := bw.trans (b.mono bw.size)
      clear b
      go_wp2_with fail
      refine (HC1.out _).mono ?_
      rintro e w10 ⟨rfl, b⟩
      replace kgr0 := ((bcell b).1 _ _ lt_gr).trans kgr0
      replace kgr1 := ((bcell b).1 _ _ lt_gr).trans kgr1
      replace lt_gr := Nat.lt_of_lt_of_le lt_gr b.size
      replace HZr := Bx.mk (HZr.out.below b)
      replace HB := Bx.mk (HB.out.below b)
      replace bw := bw.trans (b.mono bw.size)
      clear b
      go_wp2_with fail
      refine (HC3.out _).mono ?_
      rintro e w11 ⟨rfl, b⟩
      replace kgr0 := ((bcell b).1 _ _ lt_gr).trans kgr0
      replace kgr1 := ((bcell b).1 _ _ lt_gr).trans kgr1
      replace lt_gr := Nat.lt_of_lt_of_le lt_gr b.size
      replace HZr := Bx.mk (HZr.out.below b)
      replace HB := Bx.mk (HB.out.below b)
      replace bw := bw.trans (b.mono bw.size)
      clear b
      go_wp2_with fail
      clear hsl hcl hnn hcc hM1 hM2 hck
      refine (makeOf_any _ _ _ 10 n _ (by omega) (by omega) (by omega) (by exact HB.out)).mono ?_
      rintro e w12 ⟨a, haok, Aa, ca, rfl, io, b⟩
      replace kgr0 := ((bcell b).1 _ _ lt_gr).trans kgr0
      replace kgr1 := ((bcell b).1 _ _ lt_gr).trans kgr1
      replace lt_gr := Nat.lt_of_lt_of_le lt_gr b.size
      replace HZr := Bx.mk (HZr.out.below b)
      replace HB := Bx.mk (HB.out.below b)
      replace bw := bw.trans (b.mono bw.size)
      clear b
      have HAOK := Bx.mk haok
      clear haok
      have HA := Bx.mk io.reads
      clear io
      obtain ⟨w13, hW⟩ : ∃ w13, w13 = w12.alloc (.cells #[.int .i64 n, .slice Aa a.length ca] 30) := ⟨_, rfl⟩
      obtain ⟨ga, hg⟩ : ∃ ga, ga = w12.heap.size := ⟨_, rfl⟩
      have b : Below w12.heap.size w12 w13 := by rw [hW]; exact below_alloc _ _
      have kga0 : w13.cell? ⟨ga, 0, none⟩ = some (.int .i64 n) := by rw [hW, hg]; simp [go_sem]
      have kga1 : w13.cell? ⟨ga, 1, none⟩ = some (.slice Aa a.length ca) := by rw [hW, hg]; simp [go_sem]
      have lt_ga : ga < w13.heap.size := by rw [hW, hg]; simp
      replace kgr0 := ((bcell b).1 _ _ lt_gr).trans kgr0
      replace kgr1 := ((bcell b).1 _ _ lt_gr).trans kgr1
      replace lt_gr := Nat.lt_of_lt_of_le lt_gr b.size
      replace HZr := Bx.mk (HZr.out.below b)
      replace HA := Bx.mk (HA.out.below b)
      replace HB := Bx.mk (HB.out.below b)
      replace bw := bw.trans (b.mono bw.size)
      clear b
      go_upto_region 37 with (fail)
      rw [← hW, ← hg]
      clear hW hg
      go_wp2_with fail
      obtain ⟨D, hD⟩ : ∃ D, D = difC n a := ⟨_, rfl⟩
      have HDa : Bx (∀ A c W, IR W A a → Calls Try.prog 19 #[.agg #[.int .i64 n, .slice A a.length c]] W (GivesInts W D)) := ⟨fun A c W h => by rw [hD]; exact diffs_ok n A c a W HAOK.out h⟩
      have HDl : Bx (D.length = n) := ⟨by rw [hD, difC_len, Int.toNat_natCast]⟩
      have hdv : D[d]?.getD 0 = ((dfI n a d : Nat) : Int) := by rw [hD]; exact difC_at (by omega) (by rw [Int.toNat_natCast]; exact hdn)
      obtain ⟨v, hv⟩ : ∃ v : Nat, v = dfI n a d := ⟨_, rfl⟩
      obtain ⟨bv, hbv⟩ : ∃ bv : Bool, bv = decide (v = 0) := ⟨_, rfl⟩
      have HAV : Bx (avoidsL n d a = bv) := ⟨by rw [dfI_avoids HAOK.out hdn, hbv, hv]⟩
      rw [← hv] at hdv
      have hvb : ((v : Int) == 0) = bv := by rw [hbv, Bool.eq_iff_iff]; simp
      have HDV := Bx.mk hdv
      clear hD hv hbv hdv
      refine (HDa.out _ _ _ (by exact HA.out)).mono ?_
      rintro e w14 ⟨AD, cD, rfl, io, b⟩
      replace kgr0 := ((bcell b).1 _ _ lt_gr).trans kgr0
      replace kgr1 := ((bcell b).1 _ _ lt_gr).trans kgr1
      replace kga0 := ((bcell b).1 _ _ lt_ga).trans kga0
      replace kga1 := ((bcell b).1 _ _ lt_ga).trans kga1
      replace lt_gr := Nat.lt_of_lt_of_le lt_gr b.size
      replace lt_ga := Nat.lt_of_lt_of_le lt_ga b.size
      replace HZr := Bx.mk (HZr.out.below b)
      replace HA := Bx.mk (HA.out.below b)
      replace HB := Bx.mk (HB.out.below b)
      replace bw := bw.trans (b.mono bw.size)
      clear b
      have HDr := Bx.mk io.reads
      clear io
      obtain ⟨bV, oV, z, rfl, lt_bV, kV, H3⟩ := HDr.out.one (k := d) (by rw [HDl.out]; exact hdn)
      have hz := HDV.out
      rw [H3.out] at hz
      simp only [Option.getD_some] at hz
      subst hz
      have hdl : (d : Int) < D.length := by rw [HDl.out]; omega
      have hdl2 : (((D.length : Nat) : Int) == ((n : Nat) : Int)) = true := by rw [beq_iff_eq, HDl.out]
      have HCA : Bx (∀ A c W, IR W A a → Calls Try.prog 15 #[.agg #[.int .i64 n, .slice A a.length c], .int .i64 d] W fun e w' => e = .returned (.bool bv) ∧ Below W.heap.size W w') := ⟨fun A c W h => by rw [← HAV.out]; exact forb_avoids (by omega) HAOK.out hd1 hdn A c W h⟩
      obtain ⟨bo, hbo⟩ : ∃ bo : Bool, bo = oddityI n a := ⟨_, rfl⟩
      have HOD : Bx (∀ A c W, IR W A a → Calls Try.prog 20 #[.agg #[.int .i64 n, .slice A a.length c]] W fun e w' => e = .returned (.bool bo) ∧ Below W.heap.size W w') := ⟨fun A c W h => by rw [hbo]; exact implOddity_any n A c a W ⟨by omega, by omega⟩ h⟩
      have HOE : Bx (bo = (decide ((n : Int) % 2 = 1) || decide ((oppL n a).length = 0))) := ⟨by rw [hbo]; exact oddity_opp HAOK.out⟩
      clear H3 hbo HDV
      rcases Nat.mod_two_eq_zero_or_one n with hp | hp
      · have hpe : (n : Int) % 2 = 0 := by omega
        have hpt : (n : Int).tmod 2 = 0 := by rw [Int.tmod_eq_emod_of_nonneg (by omega)]; exact hpe
        have hob : (((oppL n a).length : Int) == 0) = bo := by rw [HOE.out, hpe, Bool.eq_iff_iff]; simp
        obtain ⟨ol, hol⟩ : ∃ ol, ol = (oppL n a).length := ⟨_, rfl⟩
        rw [← hol] at hob
        have HOP : Bx (∀ A c W, IR W A a → Calls Try.prog 21 #[.agg #[.int .i64 n, .slice A a.length c]] W fun e w' => ∃ B d, e = .returned (.slice B ol d) ∧ Below W.heap.size W w') := ⟨fun A c W h => by rw [hol]; exact forb_opp (by omega) A c W h⟩
        clear hol
        clear HOE hp
        go_upto_region 38 with (fail)
        have hB : Bx (Below w14.heap.size w14 w14.drew) := ⟨(Below.refl _ _).drew⟩
        have hB0 : Bx (Below w14.heap.size w14 w14) := ⟨Below.refl _ _⟩
        have kga0_d : w14.drew.cell? _ = _ := kga0
        have kga1_d : w14.drew.cell? _ = _ := kga1
        have kV_d : w14.drew.cell? _ = _ := kV
        go_region_held3 (fun w' => w'.cell? ⟨ga, 0, none⟩ = some (.int .i64 n) ∧ w'.cell? ⟨ga, 1, none⟩ = some (.slice Aa a.length ca) ∧ w'.cell? ⟨bV, oV + d, none⟩ = some (.int .i64 (v : Int)) ∧ Bx (Below w14.heap.size w14 w'))
          ((refine (fun (hK : Bx (Below w14.heap.size w14 _)) => ⟨((bcell hK.out).1 _ _ lt_ga).trans kga0, ((bcell hK.out).1 _ _ lt_ga).trans kga1, ((bcell hK.out).1 _ _ lt_bV).trans kV, hK⟩) ?_; (first | with_reducible assumption | with_reducible exact bx_alloc (by with_reducible assumption) _ | with_reducible exact bx_drew (by with_reducible assumption) | with_reducible exact bx_drew (bx_alloc (by with_reducible assumption) _))))
          (first
            | (go_at_call 15; refine (HCA.out _ _ _ (by exact HA.out.below (Bx.out (by (first | with_reducible assumption | with_reducible exact bx_alloc (by with_reducible assumption) _ | with_reducible exact bx_drew (by with_reducible assumption) | with_reducible exact bx_drew (bx_alloc (by with_reducible assumption) _)))))).mono ?_; rintro e w15 ⟨rfl, bw15⟩; have hBw15 : Bx (Below w14.heap.size w14 w15) := bx_to (by (first | with_reducible assumption | with_reducible exact bx_alloc (by with_reducible assumption) _ | with_reducible exact bx_drew (by with_reducible assumption) | with_reducible exact bx_drew (bx_alloc (by with_reducible assumption) _))) bw15; have hzw15 := bx_size hBw15; have kga0_w15 := ((bcell hBw15.out).1 _ _ lt_ga).trans kga0; have kga1_w15 := ((bcell hBw15.out).1 _ _ lt_ga).trans kga1; have kV_w15 := ((bcell hBw15.out).1 _ _ lt_bV).trans kV)
            | (go_at_call 20; refine (HOD.out _ _ _ (by exact HA.out.below (Bx.out (by (first | with_reducible assumption | with_reducible exact bx_alloc (by with_reducible assumption) _ | with_reducible exact bx_drew (by with_reducible assumption) | with_reducible exact bx_drew (bx_alloc (by with_reducible assumption) _)))))).mono ?_; rintro e w16 ⟨rfl, bw16⟩; have hBw16 : Bx (Below w14.heap.size w14 w16) := bx_to (by (first | with_reducible assumption | with_reducible exact bx_alloc (by with_reducible assumption) _ | with_reducible exact bx_drew (by with_reducible assumption) | with_reducible exact bx_drew (bx_alloc (by with_reducible assumption) _))) bw16; have hzw16 := bx_size hBw16; have kga0_w16 := ((bcell hBw16.out).1 _ _ lt_ga).trans kga0; have kga1_w16 := ((bcell hBw16.out).1 _ _ lt_ga).trans kga1; have kV_w16 := ((bcell hBw16.out).1 _ _ lt_bV).trans kV)
            | (go_at_call 21; refine (HOP.out _ _ _ (by exact HA.out.below (Bx.out (by (first | with_reducible assumption | with_reducible exact bx_alloc (by with_reducible assumption) _ | with_reducible exact bx_drew (by with_reducible assumption) | with_reducible exact bx_drew (bx_alloc (by with_reducible assumption) _)))))).mono ?_; rintro e w17 ⟨Bw17, dw17, rfl, bw17⟩; have hBw17 : Bx (Below w14.heap.size w14 w17) := bx_to (by (first | with_reducible assumption | with_reducible exact bx_alloc (by with_reducible assumption) _ | with_reducible exact bx_drew (by with_reducible assumption) | with_reducible exact bx_drew (bx_alloc (by with_reducible assumption) _))) bw17; have hzw17 := bx_size hBw17; have kga0_w17 := ((bcell hBw17.out).1 _ _ lt_ga).trans kga0; have kga1_w17 := ((bcell hBw17.out).1 _ _ lt_ga).trans kga1; have kV_w17 := ((bcell hBw17.out).1 _ _ lt_bV).trans kV))
        have b := hBw17.out
        replace kgr0 := ((bcell b).1 _ _ lt_gr).trans kgr0
        replace kgr1 := ((bcell b).1 _ _ lt_gr).trans kgr1
        replace kga0 := ((bcell b).1 _ _ lt_ga).trans kga0
        replace kga1 := ((bcell b).1 _ _ lt_ga).trans kga1
        replace lt_gr := Nat.lt_of_lt_of_le lt_gr b.size
        replace lt_ga := Nat.lt_of_lt_of_le lt_ga b.size
        replace HZr := Bx.mk (HZr.out.below b)
        replace HA := Bx.mk (HA.out.below b)
        replace HDr := Bx.mk (HDr.out.below b)
        replace HB := Bx.mk (HB.out.below b)
        replace bw := bw.trans (b.mono bw.size)
        clear b
        go_wp2_with fail
        go_ret
        exact ⟨rfl, bw⟩
      · have hpe : (n : Int) % 2 = 1 := by omega
        have hpt : (n : Int).tmod 2 = 1 := by rw [Int.tmod_eq_emod_of_nonneg (by omega)]; exact hpe
        have hb1 : bo = true := by rw [HOE.out, hpe]; rfl
        subst hb1
        clear HOE hp
        go_upto_region 38 with (fail)
        have hB : Bx (Below w14.heap.size w14 w14.drew) := ⟨(Below.refl _ _).drew⟩
        have hB0 : Bx (Below w14.heap.size w14 w14) := ⟨Below.refl _ _⟩
        have kga0_d : w14.drew.cell? _ = _ := kga0
        have kga1_d : w14.drew.cell? _ = _ := kga1
        have kV_d : w14.drew.cell? _ = _ := kV
        refine wp_region_held_drew (S := fun w' => w'.cell? ⟨ga, 0, none⟩ = some (.int .i64 n) ∧ w'.cell? ⟨ga, 1, none⟩ = some (.slice Aa a.length ca) ∧ w'.cell? ⟨bV, oV + d, none⟩ = some (.int .i64 (v : Int)) ∧ Bx (Below w14.heap.size w14 w')) (by kernel_rfl) ?hS1000 (fun hHeld => ?rest1000)
        case hS1000 => (try dsimp only); (refine (fun (hK : Bx (Below w14.heap.size w14 _)) => ⟨((bcell hK.out).1 _ _ lt_ga).trans kga0, ((bcell hK.out).1 _ _ lt_ga).trans kga1, ((bcell hK.out).1 _ _ lt_bV).trans kV, hK⟩) ?_; (first | with_reducible assumption | with_reducible exact bx_alloc (by with_reducible assumption) _ | with_reducible exact bx_drew (by with_reducible assumption) | with_reducible exact bx_drew (bx_alloc (by with_reducible assumption) _)))
        case rest1000 =>
        refine wpAnyH_take (i := 0) (v := ?v1001) (at_list rfl) (by kernel_rfl) (by kernel_rfl) (by kernel_rfl) (fun _ _ _ h => h) (Or.inl ⟨by rfl, ?hy1001⟩) (by assumption) ?rest1001
        case hy1001 => intro w hSw; (try dsimp only at hSw); go_simp; try (with_reducible rfl)
        case rest1001 =>
        try simp only [Act.put, List.setIfInBounds_toArray, List.set_cons_zero, List.set_cons_succ]
        refine wpAnyH_take (i := 1) (v := ?v1002) (at_list rfl) (by kernel_rfl) (by kernel_rfl) (by kernel_rfl) (fun _ _ _ h => h) (Or.inl ⟨by rfl, ?hy1002⟩) (by assumption) ?rest1002
        case hy1002 => intro w hSw; (try dsimp only at hSw); go_simp; try (with_reducible rfl)
        case rest1002 =>
        try simp only [Act.put, List.setIfInBounds_toArray, List.set_cons_zero, List.set_cons_succ]
        refine wpAnyH_take (i := 2) (v := ?v1003) (at_list rfl) (by kernel_rfl) (by kernel_rfl) (by kernel_rfl) (fun _ _ _ h => h) (Or.inl ⟨by rfl, ?hy1003⟩) (by assumption) ?rest1003
        case hy1003 => intro w hSw; (try dsimp only at hSw); go_simp; try (with_reducible rfl)
        case rest1003 =>
        try simp only [Act.put, List.setIfInBounds_toArray, List.set_cons_zero, List.set_cons_succ]
        refine wpAnyH_take (i := 3) (v := ?v1004) (at_list rfl) (by kernel_rfl) (by kernel_rfl) (by kernel_rfl) (fun _ _ _ h => h) (Or.inl ⟨by rfl, ?hy1004⟩) (by assumption) ?rest1004
        case hy1004 => intro w hSw; (try dsimp only at hSw); go_simp; try (with_reducible rfl)
        case rest1004 =>
        try simp only [Act.put, List.setIfInBounds_toArray, List.set_cons_zero, List.set_cons_succ]
        refine wpAnyH_take (i := 4) (v := ?v1005) (at_list rfl) (by kernel_rfl) (by kernel_rfl) (by kernel_rfl) (fun _ _ _ h => h) (Or.inl ⟨by rfl, ?hy1005⟩) (by assumption) ?rest1005
        case hy1005 => intro w hSw; (try dsimp only at hSw); go_simp; try (with_reducible rfl)
        case rest1005 =>
        try simp only [Act.put, List.setIfInBounds_toArray, List.set_cons_zero, List.set_cons_succ]
        refine wpAnyH_take (i := 5) (v := ?v1006) (at_list rfl) (by kernel_rfl) (by kernel_rfl) (by kernel_rfl) (fun _ _ _ h => h) (Or.inl ⟨by rfl, ?hy1006⟩) (by assumption) ?rest1006
        case hy1006 => intro w hSw; (try dsimp only at hSw); go_simp; try (with_reducible rfl)
        case rest1006 =>
        try simp only [Act.put, List.setIfInBounds_toArray, List.set_cons_zero, List.set_cons_succ]
        refine wpAnyH_take (i := 6) (v := ?v1007) (at_list rfl) (by kernel_rfl) (by kernel_rfl) (by kernel_rfl) (fun _ _ _ h => h) (Or.inl ⟨by rfl, ?hy1007⟩) (by assumption) ?rest1007
        case hy1007 => intro w hSw; (try dsimp only at hSw); go_simp; try (with_reducible rfl)
        case rest1007 =>
        try simp only [Act.put, List.setIfInBounds_toArray, List.set_cons_zero, List.set_cons_succ]
        refine wpAnyH_take (i := 8) (v := ?v1008) (at_list rfl) (by kernel_rfl) (by kernel_rfl) (by kernel_rfl) (fun _ _ _ h => h) (Or.inl ⟨by rfl, ?hy1008⟩) (by assumption) ?rest1008
        case hy1008 => intro w hSw; (try dsimp only at hSw); go_simp; try (with_reducible rfl)
        case rest1008 =>
        try simp only [Act.put, List.setIfInBounds_toArray, List.set_cons_zero, List.set_cons_succ]
        refine wpAnyH_take (i := 9) (v := ?v1009) (at_list rfl) (by kernel_rfl) (by kernel_rfl) (by kernel_rfl) (fun _ _ _ h => h) (Or.inl ⟨by rfl, ?hy1009⟩) (by assumption) ?rest1009
        case hy1009 => intro w hSw; (try dsimp only at hSw); go_simp; try (with_reducible rfl)
        case rest1009 =>
        try simp only [Act.put, List.setIfInBounds_toArray, List.set_cons_zero, List.set_cons_succ]
        refine wpAnyH_take (i := 10) (v := ?v1010) (at_list rfl) (by kernel_rfl) (by kernel_rfl) (by kernel_rfl) (fun _ _ _ h => h) (Or.inl ⟨by rfl, ?hy1010⟩) (by assumption) ?rest1010
        case hy1010 => intro w hSw; (try dsimp only at hSw); go_simp; try (with_reducible rfl)
        case rest1010 =>
        try simp only [Act.put, List.setIfInBounds_toArray, List.set_cons_zero, List.set_cons_succ]
        refine wpAnyH_take (i := 11) (v := ?v1011) (at_list rfl) (by kernel_rfl) (by kernel_rfl) (by kernel_rfl) (fun _ _ _ h => h) (Or.inl ⟨by rfl, ?hy1011⟩) (by assumption) ?rest1011
        case hy1011 => intro w hSw; (try dsimp only at hSw); go_simp; try (with_reducible rfl)
        case rest1011 =>
        try simp only [Act.put, List.setIfInBounds_toArray, List.set_cons_zero, List.set_cons_succ]
        refine wpAnyH_take (i := 12) (v := ?v1012) (at_list rfl) (by kernel_rfl) (by kernel_rfl) (by kernel_rfl) (fun _ _ _ h => h) (Or.inl ⟨by rfl, ?hy1012⟩) (by assumption) ?rest1012
        case hy1012 => intro w hSw; (try dsimp only at hSw); go_simp; try (with_reducible rfl)
        case rest1012 =>
        try simp only [Act.put, List.setIfInBounds_toArray, List.set_cons_zero, List.set_cons_succ]
        refine wpAnyH_ready (rs := [7]) (by kernel_rfl) (by simp) ?_
        refine AllReadyH.cons (at_list rfl) (fun K hK => ?_) AllReadyH.nil
        go_simp
        go_at_call 15; refine (HCA.out _ _ _ (by exact HA.out.below (Bx.out (by (first | with_reducible assumption | with_reducible exact bx_alloc (by with_reducible assumption) _ | with_reducible exact bx_drew (by with_reducible assumption) | with_reducible exact bx_drew (bx_alloc (by with_reducible assumption) _)))))).mono ?_; rintro e w18 ⟨rfl, bw18⟩; have hBw18 : Bx (Below w14.heap.size w14 w18) := bx_to (by (first | with_reducible assumption | with_reducible exact bx_alloc (by with_reducible assumption) _ | with_reducible exact bx_drew (by with_reducible assumption) | with_reducible exact bx_drew (bx_alloc (by with_reducible assumption) _))) bw18; have hzw18 := bx_size hBw18; have kga0_w18 := ((bcell hBw18.out).1 _ _ lt_ga).trans kga0; have kga1_w18 := ((bcell hBw18.out).1 _ _ lt_ga).trans kga1; have kV_w18 := ((bcell hBw18.out).1 _ _ lt_bV).trans kV
        refine hK.out _ _ ?hS1013 (fun hHeld => ?rest1013)
        case hS1013 => (try dsimp only); (refine (fun (hK : Bx (Below w14.heap.size w14 _)) => ⟨((bcell hK.out).1 _ _ lt_ga).trans kga0, ((bcell hK.out).1 _ _ lt_ga).trans kga1, ((bcell hK.out).1 _ _ lt_bV).trans kV, hK⟩) ?_; (first | with_reducible assumption | with_reducible exact bx_alloc (by with_reducible assumption) _ | with_reducible exact bx_drew (by with_reducible assumption) | with_reducible exact bx_drew (bx_alloc (by with_reducible assumption) _)))
        case rest1013 =>
        clear hK K
        try simp only [Act.put, List.setIfInBounds_toArray, List.set_cons_zero, List.set_cons_succ]
        refine wpAnyH_take (i := 13) (v := ?v1014) (at_list rfl) (by kernel_rfl) (by kernel_rfl) (by kernel_rfl) (fun _ _ _ h => h) (Or.inl ⟨by rfl, ?hy1014⟩) (by assumption) ?rest1014
        case hy1014 => intro w hSw; (try dsimp only at hSw); go_simp; try (with_reducible rfl)
        case rest1014 =>
        try simp only [Act.put, List.setIfInBounds_toArray, List.set_cons_zero, List.set_cons_succ]
        refine wpAnyH_take (i := 14) (v := ?v1015) (at_list rfl) (by kernel_rfl) (by kernel_rfl) (by kernel_rfl) (fun _ _ _ h => h) (Or.inl ⟨by rfl, ?hy1015⟩) (by assumption) ?rest1015
        case hy1015 => intro w hSw; (try dsimp only at hSw); go_simp; try (with_reducible rfl)
        case rest1015 =>
        try simp only [Act.put, List.setIfInBounds_toArray, List.set_cons_zero, List.set_cons_succ]
        refine wpAnyH_take (i := 15) (v := ?v1016) (at_list rfl) (by kernel_rfl) (by kernel_rfl) (by kernel_rfl) (fun _ _ _ h => h) (Or.inl ⟨by rfl, ?hy1016⟩) (by assumption) ?rest1016
        case hy1016 => intro w hSw; (try dsimp only at hSw); go_simp; try (with_reducible rfl)
        case rest1016 =>
        try simp only [Act.put, List.setIfInBounds_toArray, List.set_cons_zero, List.set_cons_succ]
        refine wpAnyH_take (i := 16) (v := ?v1017) (at_list rfl) (by kernel_rfl) (by kernel_rfl) (by kernel_rfl) (fun _ _ _ h => h) (Or.inl ⟨by rfl, ?hy1017⟩) (by assumption) ?rest1017
        case hy1017 => intro w hSw; (try dsimp only at hSw); go_simp; try (with_reducible rfl)
        case rest1017 =>
        try simp only [Act.put, List.setIfInBounds_toArray, List.set_cons_zero, List.set_cons_succ]
        refine wpAnyH_take (i := 18) (v := ?v1018) (at_list rfl) (by kernel_rfl) (by kernel_rfl) (by kernel_rfl) (fun _ _ _ h => h) (Or.inl ⟨by rfl, ?hy1018⟩) (by assumption) ?rest1018
        case hy1018 => intro w hSw; (try dsimp only at hSw); go_simp; try (with_reducible rfl)
        case rest1018 =>
        try simp only [Act.put, List.setIfInBounds_toArray, List.set_cons_zero, List.set_cons_succ]
        refine wpAnyH_take (i := 19) (v := ?v1019) (at_list rfl) (by kernel_rfl) (by kernel_rfl) (by kernel_rfl) (fun _ _ _ h => h) (Or.inl ⟨by rfl, ?hy1019⟩) (by assumption) ?rest1019
        case hy1019 => intro w hSw; (try dsimp only at hSw); go_simp; try (with_reducible rfl)
        case rest1019 =>
        try simp only [Act.put, List.setIfInBounds_toArray, List.set_cons_zero, List.set_cons_succ]
        refine wpAnyH_take (i := 20) (v := ?v1020) (at_list rfl) (by kernel_rfl) (by kernel_rfl) (by kernel_rfl) (fun _ _ _ h => h) (Or.inl ⟨by rfl, ?hy1020⟩) (by assumption) ?rest1020
        case hy1020 => intro w hSw; (try dsimp only at hSw); go_simp; try (with_reducible rfl)
        case rest1020 =>
        try simp only [Act.put, List.setIfInBounds_toArray, List.set_cons_zero, List.set_cons_succ]
        refine wpAnyH_ready (rs := [17]) (by kernel_rfl) (by simp) ?_
        refine AllReadyH.cons (at_list rfl) (fun K hK => ?_) AllReadyH.nil
        go_simp
        go_at_call 20; refine (HOD.out _ _ _ (by exact HA.out.below (Bx.out (by (first | with_reducible assumption | with_reducible exact bx_alloc (by with_reducible assumption) _ | with_reducible exact bx_drew (by with_reducible assumption) | with_reducible exact bx_drew (bx_alloc (by with_reducible assumption) _)))))).mono ?_; rintro e w19 ⟨rfl, bw19⟩; have hBw19 : Bx (Below w14.heap.size w14 w19) := bx_to (by (first | with_reducible assumption | with_reducible exact bx_alloc (by with_reducible assumption) _ | with_reducible exact bx_drew (by with_reducible assumption) | with_reducible exact bx_drew (bx_alloc (by with_reducible assumption) _))) bw19; have hzw19 := bx_size hBw19; have kga0_w19 := ((bcell hBw19.out).1 _ _ lt_ga).trans kga0; have kga1_w19 := ((bcell hBw19.out).1 _ _ lt_ga).trans kga1; have kV_w19 := ((bcell hBw19.out).1 _ _ lt_bV).trans kV
        refine hK.out _ _ ?hS1021 (fun hHeld => ?rest1021)
        case hS1021 => (try dsimp only); (refine (fun (hK : Bx (Below w14.heap.size w14 _)) => ⟨((bcell hK.out).1 _ _ lt_ga).trans kga0, ((bcell hK.out).1 _ _ lt_ga).trans kga1, ((bcell hK.out).1 _ _ lt_bV).trans kV, hK⟩) ?_; (first | with_reducible assumption | with_reducible exact bx_alloc (by with_reducible assumption) _ | with_reducible exact bx_drew (by with_reducible assumption) | with_reducible exact bx_drew (bx_alloc (by with_reducible assumption) _)))
        case rest1021 =>
        clear hK K
        try simp only [Act.put, List.setIfInBounds_toArray, List.set_cons_zero, List.set_cons_succ]
        refine wpAnyH_take (i := 21) (v := ?v1022) (at_list rfl) (by kernel_rfl) (by kernel_rfl) (by kernel_rfl) (fun _ _ _ h => h) (Or.inl ⟨by rfl, ?hy1022⟩) (by assumption) ?rest1022
        case hy1022 => intro w hSw; (try dsimp only at hSw); go_simp; try (with_reducible rfl)
        case rest1022 =>
        try simp only [Act.put, List.setIfInBounds_toArray, List.set_cons_zero, List.set_cons_succ]
        refine wpAnyH_take (i := 22) (v := undef) (at_list rfl) (by kernel_rfl) (by kernel_rfl) (by kernel_rfl) (fun _ _ _ h => h) (Or.inr ⟨by rfl, rfl⟩) (by assumption) ?rest1023
        case rest1023 =>
        try simp only [Act.put, List.setIfInBounds_toArray, List.set_cons_zero, List.set_cons_succ]
        refine wpAnyH_take (i := 23) (v := undef) (at_list rfl) (by kernel_rfl) (by kernel_rfl) (by kernel_rfl) (fun _ _ _ h => h) (Or.inr ⟨by rfl, rfl⟩) (by assumption) ?rest1024
        case rest1024 =>
        try simp only [Act.put, List.setIfInBounds_toArray, List.set_cons_zero, List.set_cons_succ]
        refine wpAnyH_take (i := 24) (v := undef) (at_list rfl) (by kernel_rfl) (by kernel_rfl) (by kernel_rfl) (fun _ _ _ h => h) (Or.inr ⟨by rfl, rfl⟩) (by assumption) ?rest1025
        case rest1025 =>
        try simp only [Act.put, List.setIfInBounds_toArray, List.set_cons_zero, List.set_cons_succ]
        refine wpAnyH_take (i := 25) (v := undef) (at_list rfl) (by kernel_rfl) (by kernel_rfl) (by kernel_rfl) (fun _ _ _ h => h) (Or.inr ⟨by rfl, rfl⟩) (by assumption) ?rest1026
        case rest1026 =>
        try simp only [Act.put, List.setIfInBounds_toArray, List.set_cons_zero, List.set_cons_succ]
        refine wpAnyH_take (i := 26) (v := ?v1027) (at_list rfl) (by kernel_rfl) (by kernel_rfl) (by kernel_rfl) (fun _ _ _ h => h) (Or.inl ⟨by rfl, ?hy1027⟩) (by assumption) ?rest1027
        case hy1027 => intro w hSw; (try dsimp only at hSw); go_simp; try (with_reducible rfl)
        case rest1027 =>
        try simp only [Act.put, List.setIfInBounds_toArray, List.set_cons_zero, List.set_cons_succ]
        refine wpAnyH_take (i := 27) (v := ?v1028) (at_list rfl) (by kernel_rfl) (by kernel_rfl) (by kernel_rfl) (fun _ _ _ h => h) (Or.inl ⟨by rfl, ?hy1028⟩) (by assumption) ?rest1028
        case hy1028 => intro w hSw; (try dsimp only at hSw); go_simp; try (with_reducible rfl)
        case rest1028 =>
        try simp only [Act.put, List.setIfInBounds_toArray, List.set_cons_zero, List.set_cons_succ]
        refine wpAnyH_take (i := 28) (v := ?v1029) (at_list rfl) (by kernel_rfl) (by kernel_rfl) (by kernel_rfl) (fun _ _ _ h => h) (Or.inl ⟨by rfl, ?hy1029⟩) (by assumption) ?rest1029
        case hy1029 => intro w hSw; (try dsimp only at hSw); go_simp; try (with_reducible rfl)
        case rest1029 =>
        try simp only [Act.put, List.setIfInBounds_toArray, List.set_cons_zero, List.set_cons_succ]
        refine wpAnyH_ready (rs := [29]) (by kernel_rfl) (by simp) ?_
        refine AllReadyH.cons (at_list rfl) (fun K hK => ?_) AllReadyH.nil
        go_simp
        refine hK.out _ _ ?hS1030 (fun hHeld => ?rest1030)
        case hS1030 => (try dsimp only); (refine (fun (hK : Bx (Below w14.heap.size w14 _)) => ⟨((bcell hK.out).1 _ _ lt_ga).trans kga0, ((bcell hK.out).1 _ _ lt_ga).trans kga1, ((bcell hK.out).1 _ _ lt_bV).trans kV, hK⟩) ?_; (first | with_reducible assumption | with_reducible exact bx_alloc (by with_reducible assumption) _ | with_reducible exact bx_drew (by with_reducible assumption) | with_reducible exact bx_drew (bx_alloc (by with_reducible assumption) _)))
        case rest1030 =>
        clear hK K
        try simp only [Act.put, List.setIfInBounds_toArray, List.set_cons_zero, List.set_cons_succ]
        refine wpAnyH_done (by kernel_rfl) ?_ _
        have b := hBw19.out
        replace kgr0 := ((bcell b).1 _ _ lt_gr).trans kgr0
        replace kgr1 := ((bcell b).1 _ _ lt_gr).trans kgr1
        replace kga0 := ((bcell b).1 _ _ lt_ga).trans kga0
        replace kga1 := ((bcell b).1 _ _ lt_ga).trans kga1
        replace lt_gr := Nat.lt_of_lt_of_le lt_gr b.size
        replace lt_ga := Nat.lt_of_lt_of_le lt_ga b.size
        replace HZr := Bx.mk (HZr.out.below b)
        replace HA := Bx.mk (HA.out.below b)
        replace HDr := Bx.mk (HDr.out.below b)
        replace HB := Bx.mk (HB.out.below b)
        replace bw := bw.trans (b.mono bw.size)
        clear b
        go_wp2_with fail
        go_ret
        exact ⟨rfl, bw⟩
    | some r =>
      have hkM : (k : Int) ≤ (M : Int) := by have := HFS.out; simp at this; omega
      have hck : (0 : Int) < (CK : Int) := by have := HP1.out; omega
      have HFO : Bx (∀ W, Calls Try.prog 12 #[.int .i64 n, .int .i64 d, .int .i64 k] W (GivesRB W n r true)) := ⟨fun W => forb_some hn2 hn10 hd1 hdn hkn HOE.out.symm W⟩
      refine (HFO.out _).mono ?_
      rintro e w20 ⟨AR', cR, rfl, io, b⟩
      replace HZr := Bx.mk (HZr.out.below b)
      replace HB := Bx.mk (HB.out.below b)
      replace bw := bw.trans (b.mono bw.size)
      clear b
      have HRr := Bx.mk io.reads
      clear io
      obtain ⟨w21, hW⟩ : ∃ w21, w21 = w20.alloc (.cells #[.int .i64 n, .slice AR' r.length cR] 30) := ⟨_, rfl⟩
      obtain ⟨gr, hg⟩ : ∃ gr, gr = w20.heap.size := ⟨_, rfl⟩
      have b : Below w20.heap.size w20 w21 := by rw [hW]; exact below_alloc _ _
      have kgr0 : w21.cell? ⟨gr, 0, none⟩ = some (.int .i64 n) := by rw [hW, hg]; simp [go_sem]
      have kgr1 : w21.cell? ⟨gr, 1, none⟩ = some (.slice AR' r.length cR) := by rw [hW, hg]; simp [go_sem]
      have lt_gr : gr < w21.heap.size := by rw [hW, hg]; simp
      replace HZr := Bx.mk (HZr.out.below b)
      replace HRr := Bx.mk (HRr.out.below b)
      replace HB := Bx.mk (HB.out.below b)
      replace bw := bw.trans (b.mono bw.size)
      clear b
      clear HFS HP1
      go_upto_region 23 with (fail)
      rw [← hW, ← hg]
      clear hW hg
      go_wp2_with fail
      refine (HGC.out _).mono ?_
      rintro e w' ⟨rfl, rfl⟩
      go_wp2_with fail
      refine (HC1.out _).mono ?_
      rintro e w22 ⟨rfl, b⟩
      replace kgr0 := ((bcell b).1 _ _ lt_gr).trans kgr0
      replace kgr1 := ((bcell b).1 _ _ lt_gr).trans kgr1
      replace lt_gr := Nat.lt_of_lt_of_le lt_gr b.size
      replace HZr := Bx.mk (HZr.out.below b)
      replace HRr := Bx.mk (HRr.out.below b)
      replace HB := Bx.mk (HB.out.below b)
      replace bw := bw.trans (b.mono bw.size)
      clear b
      go_wp2_with fail
      refine (HC2.out _).mono ?_
      rintro e w23 ⟨rfl, b⟩
      replace kgr0 := ((bcell b).1 _ _ lt_gr).trans kgr0
      replace kgr1 := ((bcell b).1 _ _ lt_gr).trans kgr1
      replace lt_gr := Nat.lt_of_lt_of_le lt_gr b.size
      replace HZr := Bx.mk (HZr.out.below b)
      replace HRr := Bx.mk (HRr.out.below b)
      replace HB := Bx.mk (HB.out.below b)
      replace bw := bw.trans (b.mono bw.size)
      clear b
      go_wp2_with fail
      refine (HC1.out _).mono ?_
      rintro e w24 ⟨rfl, b⟩
      replace kgr0 := ((bcell b).1 _ _ lt_gr).trans kgr0
      replace kgr1 := ((bcell b).1 _ _ lt_gr).trans kgr1
      replace lt_gr := Nat.lt_of_lt_of_le lt_gr b.size
      replace HZr := Bx.mk (HZr.out.below b)
      replace HRr := Bx.mk (HRr.out.below b)
      replace HB := Bx.mk (HB.out.below b)
      replace bw := bw.trans (b.mono bw.size)
      clear b
      go_wp2_with fail
      refine (HC3.out _).mono ?_
      rintro e w25 ⟨rfl, b⟩
      replace kgr0 := ((bcell b).1 _ _ lt_gr).trans kgr0
      replace kgr1 := ((bcell b).1 _ _ lt_gr).trans kgr1
      replace lt_gr := Nat.lt_of_lt_of_le lt_gr b.size
      replace HZr := Bx.mk (HZr.out.below b)
      replace HRr := Bx.mk (HRr.out.below b)
      replace HB := Bx.mk (HB.out.below b)
      replace bw := bw.trans (b.mono bw.size)
      clear b
      go_wp2_with fail
      clear hsl hcl hnn hcc hM1 hM2 hck
      obtain ⟨hrok, hrav, hrl⟩ := first_facts hn2 hn10 hd1 hdn HOE.out.symm
      have HROK := Bx.mk hrok
      have HRAV := Bx.mk hrav
      have hrl24 := (rhOk_len hrok).1
      obtain ⟨F, hF⟩ : ∃ F, F = freeL n r d := ⟨_, rfl⟩
      have HFR : Bx (∀ A c W, IR W A r → Calls Try.prog 14 #[.agg #[.int .i64 n, .slice A r.length c], .int .i64 d] W (GivesInts W F)) := ⟨fun A c W h => by rw [hF]; exact implFree_any n A c r d W ⟨by omega, by omega⟩ h⟩
      have HFM : Bx (k = M → F.length = 0) := ⟨fun e => by rw [hF, free_full hn2 hn10 hd1 hdn hrok hrav (by rw [hrl, e, HME.out])]; rfl⟩
      have HFE := Bx.mk hF
      have hfl : F.length ≤ 24 := by rw [hF]; exact freeL_len _ _ _
      have HRL := Bx.mk hrl
      have HAR : Bx (∀ A c W, IR W A r → Calls Try.prog 15 #[.agg #[.int .i64 n, .slice A r.length c], .int .i64 d] W fun e w' => e = .returned (.bool true) ∧ Below W.heap.size W w') := ⟨fun A c W h => by
        have := forb_avoids (by omega) HROK.out hd1 hdn A c W h
        rw [HRAV.out] at this
        exact this⟩
      have HCR : Bx (∀ A c W, IR W A r → Calls Try.prog 16 #[.agg #[.int .i64 n, .slice A r.length c]] W fun e w' => e = .returned (.int .i64 (k : Int)) ∧ Below W.heap.size W w') := ⟨fun A c W h => by
        have := countBeats_ok n A c r W HROK.out h
        rw [HRL.out] at this
        rw [HRL.out]
        exact this⟩
      have hkk : (((k : Nat) : Int) != ((k : Nat) : Int)) = false := by simp
      clear hrok hrav hrl hF
      refine (HFR.out _ _ _ (by exact HRr.out)).mono ?_
      rintro e w26 ⟨AF, cF, rfl, io, b⟩
      replace kgr0 := ((bcell b).1 _ _ lt_gr).trans kgr0
      replace kgr1 := ((bcell b).1 _ _ lt_gr).trans kgr1
      replace lt_gr := Nat.lt_of_lt_of_le lt_gr b.size
      replace HZr := Bx.mk (HZr.out.below b)
      replace HRr := Bx.mk (HRr.out.below b)
      replace HB := Bx.mk (HB.out.below b)
      replace bw := bw.trans (b.mono bw.size)
      clear b
      have HFr := Bx.mk io.reads
      clear io
      go_upto_region 27 with (fail)
      go_cut [164] (fun s wx => s = .bool false ∧ Bx (Below w26.heap.size w26 wx))
      case first =>
        go_wp2_with fail
        refine (HAR.out _ _ _ (by exact HRr.out)).mono ?_
        rintro e wq ⟨rfl, b⟩
        have HBz := Bx.mk b
        have kq0 := ((bcell b).1 _ _ lt_gr).trans kgr0
        have kq1 := ((bcell b).1 _ _ lt_gr).trans kgr1
        have HRq := Bx.mk (HRr.out.below b)
        clear b
        by_cases hkm : k = M
        · have hfl0 : F.length = 0 := HFM.out hkm
          have hfb : ¬ (0 : Int) < (F.length : Int) := by omega
          have hfbN : ¬ 0 < F.length := by omega
          have hkb2 : (((k : Nat) : Int) == ((M : Nat) : Int)) = true := by rw [beq_iff_eq, hkm]
          clear hkm hfl0
          go_wp2_with fail
          refine (HCR.out _ _ _ (by exact HRq.out)).mono ?_
          rintro e wq2 ⟨rfl, b⟩
          have HBy := Bx.mk (HBz.out.trans (b.mono HBz.out.size))
          clear b
          go_wp2_with fail
          go_meet
          exact ⟨rfl, HBy⟩
        · have hkb2 : (((k : Nat) : Int) == ((M : Nat) : Int)) = false := by rw [beq_eq_false_iff_ne]; omega
          clear hkm
          go_wp2_with fail
          refine (HCR.out _ _ _ (by exact HRq.out)).mono ?_
          rintro e wq2 ⟨rfl, b⟩
          have HBy := Bx.mk (HBz.out.trans (b.mono HBz.out.size))
          clear b
          go_wp2_with fail
          go_meet
          exact ⟨rfl, HBy⟩
      case rest =>
        obtain ⟨rfl, HBW⟩ := hcut
        rename World => wz
        have b := HBW.out
        clear HBW
        replace kgr0 := ((bcell b).1 _ _ lt_gr).trans kgr0
        replace kgr1 := ((bcell b).1 _ _ lt_gr).trans kgr1
        replace lt_gr := Nat.lt_of_lt_of_le lt_gr b.size
        replace HZr := Bx.mk (HZr.out.below b)
        replace HRr := Bx.mk (HRr.out.below b)
        replace HFr := Bx.mk (HFr.out.below b)
        replace HB := Bx.mk (HB.out.below b)
        replace bw := bw.trans (b.mono bw.size)
        clear b
        go_wp2_with fail
        go_loopw [167] (fun iv wr => ∃ i : Nat, i ≤ F.length ∧ iv = .int .i64 i ∧ Bx (Below wz.heap.size wz wr)) (fun iv _ => F.length - (intOf iv).toNat)
        case atStart => exact ⟨0, by omega, rfl, ⟨Below.refl _ _⟩⟩
        case round =>
          obtain ⟨i2, hi2, rfl, HR⟩ := hrel
          by_cases hlt : i2 < F.length
          · have hCi : (i2 : Int) < (F.length : Int) := by omega
            obtain ⟨bF, oF, p, rfl, hbF, cF1, H3⟩ := (HFr.out.below HR.out).one (k := i2) hlt
            have hpm : p ∈ freeL n r d := by rw [← HFE.out]; exact List.mem_of_getElem? H3.out
            have hpb := freeL_bd hpm
            obtain ⟨hj1, hj2, hj3⟩ := free_join hd1 hdn HROK.out HRAV.out hpm
            obtain ⟨X, hX⟩ : ∃ X, X = coll (modL n (r ++ [p])) := ⟨_, rfl⟩
            have HJ : Bx (∀ A B c d W, IR W A r → IR W B [p] → Calls Try.prog 17 #[.agg #[.int .i64 n, .slice A r.length c], .agg #[.int .i64 n, .slice B 1 d]] W (GivesRB W n X true)) := ⟨fun A B c d W h1 h2 => by rw [hX]; exact implJoin_ok n A B c d r [p] W HROK.out (one_ok (by omega) (by omega) hpb) h1 h2⟩
            rw [← hX] at hj1 hj2 hj3
            have hxl := (rhOk_len hj1).1
            have HXA : Bx (∀ A c W, IR W A X → Calls Try.prog 15 #[.agg #[.int .i64 n, .slice A X.length c], .int .i64 d] W fun e w' => e = .returned (.bool true) ∧ Below W.heap.size W w') := ⟨fun A c W h => by
              have := forb_avoids (by omega) hj1 hd1 hdn A c W h
              rw [hj2] at this
              exact this⟩
            obtain ⟨k2, hk2⟩ : ∃ k2 : Nat, k2 = k + 1 := ⟨_, rfl⟩
            have hki : (k : Int) + 1 = (k2 : Int) := by omega
            have HXC : Bx (∀ A c W, IR W A X → Calls Try.prog 16 #[.agg #[.int .i64 n, .slice A X.length c]] W fun e w' => e = .returned (.int .i64 (k2 : Int)) ∧ Below W.heap.size W w') := ⟨fun A c W h => by
              have := countBeats_ok n A c X W hj1 h
              rw [hj3, HRL.out, ← hk2] at this
              rw [hj3, HRL.out, ← hk2]
              exact this⟩
            have hkk2 : (((k2 : Nat) : Int) != ((k2 : Nat) : Int)) = false := by simp
            have kr0 := ((bcell HR.out).1 _ _ lt_gr).trans kgr0
            have kr1 := ((bcell HR.out).1 _ _ lt_gr).trans kgr1
            have lt_r := Nat.lt_of_lt_of_le lt_gr HR.out.size
            have HRr2 := Bx.mk (HRr.out.below HR.out)
            obtain ⟨W1, hW1⟩ : ∃ W1, W1 = wr.alloc (.cells #[.int .i64 p] 3) := ⟨_, rfl⟩
            have b1 : Below wr.heap.size wr W1 := by rw [hW1]; exact below_alloc _ _
            have HP := Bx.mk (one_reads wr p)
            rw [← hW1] at HP
            have HRr3 := Bx.mk (HRr2.out.below b1)
            have HR1 := Bx.mk (HR.out.trans (b1.mono HR.out.size))
            clear H3 hpm hpb hj1 hj2 hj3 hX b1 hk2
            go_wp2_with fail
            rw [← hW1]
            clear hW1
            refine (HJ.out _ _ _ _ _ (by exact HRr3.out) (by exact HP.out)).mono ?_
            rintro e w2 ⟨AX, cX, rfl, io, b2⟩
            have HX := Bx.mk io.reads
            have HR2 := Bx.mk (HR1.out.trans (b2.mono HR1.out.size))
            clear io b2
            obtain ⟨W3, hW3⟩ : ∃ W3, W3 = w2.alloc (.cells #[.int .i64 n, .slice AX X.length cX] 30) := ⟨_, rfl⟩
            obtain ⟨gx, hgx⟩ : ∃ gx, gx = w2.heap.size := ⟨_, rfl⟩
            have b3 : Below w2.heap.size w2 W3 := by rw [hW3]; exact below_alloc _ _
            have kx0 : W3.cell? ⟨gx, 0, none⟩ = some (.int .i64 n) := by rw [hW3, hgx]; simp [go_sem]
            have kx1 : W3.cell? ⟨gx, 1, none⟩ = some (.slice AX X.length cX) := by rw [hW3, hgx]; simp [go_sem]
            have lt_gx : gx < W3.heap.size := by rw [hW3, hgx]; simp
            have HX3 := Bx.mk (HX.out.below b3)
            have HR3 := Bx.mk (HR2.out.trans (b3.mono HR2.out.size))
            clear b3
            go_upto_region 33 with (fail)
            rw [← hW3, ← hgx]
            clear hW3 hgx
            go_wp2_with fail
            refine (HXA.out _ _ _ (by exact HX3.out)).mono ?_
            rintro e w4 ⟨rfl, b4⟩
            have HX4 := Bx.mk (HX3.out.below b4)
            have HR4 := Bx.mk (HR3.out.trans (b4.mono HR3.out.size))
            have ky0 := ((bcell b4).1 _ _ lt_gx).trans kx0
            have ky1 := ((bcell b4).1 _ _ lt_gx).trans kx1
            clear b4
            go_wp2_with fail
            refine (HXC.out _ _ _ (by exact HX4.out)).mono ?_
            rintro e w5 ⟨rfl, b5⟩
            have HR5 := Bx.mk (HR4.out.trans (b5.mono HR4.out.size))
            clear b5
            go_wp2_with fail
            go_roundw
            case rel => exact ⟨i2 + 1, by omega, by go_num, HR5⟩
            case measure => simp [intOf]; omega
          have hCi : ¬ (i2 : Int) < (F.length : Int) := by omega
          have b := HR.out
          clear HR
          replace kgr0 := ((bcell b).1 _ _ lt_gr).trans kgr0
          replace kgr1 := ((bcell b).1 _ _ lt_gr).trans kgr1
          replace lt_gr := Nat.lt_of_lt_of_le lt_gr b.size
          replace HZr := Bx.mk (HZr.out.below b)
          replace HRr := Bx.mk (HRr.out.below b)
          replace HFr := Bx.mk (HFr.out.below b)
          replace HB := Bx.mk (HB.out.below b)
          replace bw := bw.trans (b.mono bw.size)
          clear b
          go_wp2_with fail
          refine (makeOf_any _ _ _ 10 n _ (by omega) (by omega) (by omega) (by exact HB.out)).mono ?_
          rintro e w27 ⟨a, haok, Aa, ca, rfl, io, b⟩
          replace kgr0 := ((bcell b).1 _ _ lt_gr).trans kgr0
          replace kgr1 := ((bcell b).1 _ _ lt_gr).trans kgr1
          replace lt_gr := Nat.lt_of_lt_of_le lt_gr b.size
          replace HZr := Bx.mk (HZr.out.below b)
          replace HRr := Bx.mk (HRr.out.below b)
          replace HFr := Bx.mk (HFr.out.below b)
          replace HB := Bx.mk (HB.out.below b)
          replace bw := bw.trans (b.mono bw.size)
          clear b
          have HAOK := Bx.mk haok
          clear haok
          have HA := Bx.mk io.reads
          clear io
          obtain ⟨w28, hW⟩ : ∃ w28, w28 = w27.alloc (.cells #[.int .i64 n, .slice Aa a.length ca] 30) := ⟨_, rfl⟩
          obtain ⟨ga, hg⟩ : ∃ ga, ga = w27.heap.size := ⟨_, rfl⟩
          have b : Below w27.heap.size w27 w28 := by rw [hW]; exact below_alloc _ _
          have kga0 : w28.cell? ⟨ga, 0, none⟩ = some (.int .i64 n) := by rw [hW, hg]; simp [go_sem]
          have kga1 : w28.cell? ⟨ga, 1, none⟩ = some (.slice Aa a.length ca) := by rw [hW, hg]; simp [go_sem]
          have lt_ga : ga < w28.heap.size := by rw [hW, hg]; simp
          replace kgr0 := ((bcell b).1 _ _ lt_gr).trans kgr0
          replace kgr1 := ((bcell b).1 _ _ lt_gr).trans kgr1
          replace lt_gr := Nat.lt_of_lt_of_le lt_gr b.size
          replace HZr := Bx.mk (HZr.out.below b)
          replace HRr := Bx.mk (HRr.out.below b)
          replace HFr := Bx.mk (HFr.out.below b)
          replace HA := Bx.mk (HA.out.below b)
          replace HB := Bx.mk (HB.out.below b)
          replace bw := bw.trans (b.mono bw.size)
          clear b
          go_upto_region 37 with (fail)
          rw [← hW, ← hg]
          clear hW hg
          go_wp2_with fail
          obtain ⟨D, hD⟩ : ∃ D, D = difC n a := ⟨_, rfl⟩
          have HDa : Bx (∀ A c W, IR W A a → Calls Try.prog 19 #[.agg #[.int .i64 n, .slice A a.length c]] W (GivesInts W D)) := ⟨fun A c W h => by rw [hD]; exact diffs_ok n A c a W HAOK.out h⟩
          have HDl : Bx (D.length = n) := ⟨by rw [hD, difC_len, Int.toNat_natCast]⟩
          have hdv : D[d]?.getD 0 = ((dfI n a d : Nat) : Int) := by rw [hD]; exact difC_at (by omega) (by rw [Int.toNat_natCast]; exact hdn)
          obtain ⟨v, hv⟩ : ∃ v : Nat, v = dfI n a d := ⟨_, rfl⟩
          obtain ⟨bv, hbv⟩ : ∃ bv : Bool, bv = decide (v = 0) := ⟨_, rfl⟩
          have HAV : Bx (avoidsL n d a = bv) := ⟨by rw [dfI_avoids HAOK.out hdn, hbv, hv]⟩
          rw [← hv] at hdv
          have hvb : ((v : Int) == 0) = bv := by rw [hbv, Bool.eq_iff_iff]; simp
          have HDV := Bx.mk hdv
          clear hD hv hbv hdv
          refine (HDa.out _ _ _ (by exact HA.out)).mono ?_
          rintro e w29 ⟨AD, cD, rfl, io, b⟩
          replace kgr0 := ((bcell b).1 _ _ lt_gr).trans kgr0
          replace kgr1 := ((bcell b).1 _ _ lt_gr).trans kgr1
          replace kga0 := ((bcell b).1 _ _ lt_ga).trans kga0
          replace kga1 := ((bcell b).1 _ _ lt_ga).trans kga1
          replace lt_gr := Nat.lt_of_lt_of_le lt_gr b.size
          replace lt_ga := Nat.lt_of_lt_of_le lt_ga b.size
          replace HZr := Bx.mk (HZr.out.below b)
          replace HRr := Bx.mk (HRr.out.below b)
          replace HFr := Bx.mk (HFr.out.below b)
          replace HA := Bx.mk (HA.out.below b)
          replace HB := Bx.mk (HB.out.below b)
          replace bw := bw.trans (b.mono bw.size)
          clear b
          have HDr := Bx.mk io.reads
          clear io
          obtain ⟨bV, oV, z, rfl, lt_bV, kV, H3⟩ := HDr.out.one (k := d) (by rw [HDl.out]; exact hdn)
          have hz := HDV.out
          rw [H3.out] at hz
          simp only [Option.getD_some] at hz
          subst hz
          have hdl : (d : Int) < D.length := by rw [HDl.out]; omega
          have hdl2 : (((D.length : Nat) : Int) == ((n : Nat) : Int)) = true := by rw [beq_iff_eq, HDl.out]
          have HCA : Bx (∀ A c W, IR W A a → Calls Try.prog 15 #[.agg #[.int .i64 n, .slice A a.length c], .int .i64 d] W fun e w' => e = .returned (.bool bv) ∧ Below W.heap.size W w') := ⟨fun A c W h => by rw [← HAV.out]; exact forb_avoids (by omega) HAOK.out hd1 hdn A c W h⟩
          obtain ⟨bo, hbo⟩ : ∃ bo : Bool, bo = oddityI n a := ⟨_, rfl⟩
          have HOD : Bx (∀ A c W, IR W A a → Calls Try.prog 20 #[.agg #[.int .i64 n, .slice A a.length c]] W fun e w' => e = .returned (.bool bo) ∧ Below W.heap.size W w') := ⟨fun A c W h => by rw [hbo]; exact implOddity_any n A c a W ⟨by omega, by omega⟩ h⟩
          have HOE : Bx (bo = (decide ((n : Int) % 2 = 1) || decide ((oppL n a).length = 0))) := ⟨by rw [hbo]; exact oddity_opp HAOK.out⟩
          clear H3 hbo HDV
          rcases Nat.mod_two_eq_zero_or_one n with hp | hp
          · have hpe : (n : Int) % 2 = 0 := by omega
            have hpt : (n : Int).tmod 2 = 0 := by rw [Int.tmod_eq_emod_of_nonneg (by omega)]; exact hpe
            have hob : (((oppL n a).length : Int) == 0) = bo := by rw [HOE.out, hpe, Bool.eq_iff_iff]; simp
            obtain ⟨ol, hol⟩ : ∃ ol, ol = (oppL n a).length := ⟨_, rfl⟩
            rw [← hol] at hob
            have HOP : Bx (∀ A c W, IR W A a → Calls Try.prog 21 #[.agg #[.int .i64 n, .slice A a.length c]] W fun e w' => ∃ B d, e = .returned (.slice B ol d) ∧ Below W.heap.size W w') := ⟨fun A c W h => by rw [hol]; exact forb_opp (by omega) A c W h⟩
            clear hol
            clear HOE hp
            go_upto_region 38 with (fail)
            have hB : Bx (Below w29.heap.size w29 w29.drew) := ⟨(Below.refl _ _).drew⟩
            have hB0 : Bx (Below w29.heap.size w29 w29) := ⟨Below.refl _ _⟩
            have kga0_d : w29.drew.cell? _ = _ := kga0
            have kga1_d : w29.drew.cell? _ = _ := kga1
            have kV_d : w29.drew.cell? _ = _ := kV
            go_region_held3 (fun w' => w'.cell? ⟨ga, 0, none⟩ = some (.int .i64 n) ∧ w'.cell? ⟨ga, 1, none⟩ = some (.slice Aa a.length ca) ∧ w'.cell? ⟨bV, oV + d, none⟩ = some (.int .i64 (v : Int)) ∧ Bx (Below w29.heap.size w29 w'))
              ((refine (fun (hK : Bx (Below w29.heap.size w29 _)) => ⟨((bcell hK.out).1 _ _ lt_ga).trans kga0, ((bcell hK.out).1 _ _ lt_ga).trans kga1, ((bcell hK.out).1 _ _ lt_bV).trans kV, hK⟩) ?_; (first | with_reducible assumption | with_reducible exact bx_alloc (by with_reducible assumption) _ | with_reducible exact bx_drew (by with_reducible assumption) | with_reducible exact bx_drew (bx_alloc (by with_reducible assumption) _))))
              (first
                | (go_at_call 15; refine (HCA.out _ _ _ (by exact HA.out.below (Bx.out (by (first | with_reducible assumption | with_reducible exact bx_alloc (by with_reducible assumption) _ | with_reducible exact bx_drew (by with_reducible assumption) | with_reducible exact bx_drew (bx_alloc (by with_reducible assumption) _)))))).mono ?_; rintro e w30 ⟨rfl, bw30⟩; have hBw30 : Bx (Below w29.heap.size w29 w30) := bx_to (by (first | with_reducible assumption | with_reducible exact bx_alloc (by with_reducible assumption) _ | with_reducible exact bx_drew (by with_reducible assumption) | with_reducible exact bx_drew (bx_alloc (by with_reducible assumption) _))) bw30; have hzw30 := bx_size hBw30; have kga0_w30 := ((bcell hBw30.out).1 _ _ lt_ga).trans kga0; have kga1_w30 := ((bcell hBw30.out).1 _ _ lt_ga).trans kga1; have kV_w30 := ((bcell hBw30.out).1 _ _ lt_bV).trans kV)
                | (go_at_call 20; refine (HOD.out _ _ _ (by exact HA.out.below (Bx.out (by (first | with_reducible assumption | with_reducible exact bx_alloc (by with_reducible assumption) _ | with_reducible exact bx_drew (by with_reducible assumption) | with_reducible exact bx_drew (bx_alloc (by with_reducible assumption) _)))))).mono ?_; rintro e w31 ⟨rfl, bw31⟩; have hBw31 : Bx (Below w29.heap.size w29 w31) := bx_to (by (first | with_reducible assumption | with_reducible exact bx_alloc (by with_reducible assumption) _ | with_reducible exact bx_drew (by with_reducible assumption) | with_reducible exact bx_drew (bx_alloc (by with_reducible assumption) _))) bw31; have hzw31 := bx_size hBw31; have kga0_w31 := ((bcell hBw31.out).1 _ _ lt_ga).trans kga0; have kga1_w31 := ((bcell hBw31.out).1 _ _ lt_ga).trans kga1; have kV_w31 := ((bcell hBw31.out).1 _ _ lt_bV).trans kV)
                | (go_at_call 21; refine (HOP.out _ _ _ (by exact HA.out.below (Bx.out (by (first | with_reducible assumption | with_reducible exact bx_alloc (by with_reducible assumption) _ | with_reducible exact bx_drew (by with_reducible assumption) | with_reducible exact bx_drew (bx_alloc (by with_reducible assumption) _)))))).mono ?_; rintro e w32 ⟨Bw32, dw32, rfl, bw32⟩; have hBw32 : Bx (Below w29.heap.size w29 w32) := bx_to (by (first | with_reducible assumption | with_reducible exact bx_alloc (by with_reducible assumption) _ | with_reducible exact bx_drew (by with_reducible assumption) | with_reducible exact bx_drew (bx_alloc (by with_reducible assumption) _))) bw32; have hzw32 := bx_size hBw32; have kga0_w32 := ((bcell hBw32.out).1 _ _ lt_ga).trans kga0; have kga1_w32 := ((bcell hBw32.out).1 _ _ lt_ga).trans kga1; have kV_w32 := ((bcell hBw32.out).1 _ _ lt_bV).trans kV))
            have b := hBw32.out
            replace kgr0 := ((bcell b).1 _ _ lt_gr).trans kgr0
            replace kgr1 := ((bcell b).1 _ _ lt_gr).trans kgr1
            replace kga0 := ((bcell b).1 _ _ lt_ga).trans kga0
            replace kga1 := ((bcell b).1 _ _ lt_ga).trans kga1
            replace lt_gr := Nat.lt_of_lt_of_le lt_gr b.size
            replace lt_ga := Nat.lt_of_lt_of_le lt_ga b.size
            replace HZr := Bx.mk (HZr.out.below b)
            replace HRr := Bx.mk (HRr.out.below b)
            replace HFr := Bx.mk (HFr.out.below b)
            replace HA := Bx.mk (HA.out.below b)
            replace HDr := Bx.mk (HDr.out.below b)
            replace HB := Bx.mk (HB.out.below b)
            replace bw := bw.trans (b.mono bw.size)
            clear b
            go_wp2_with fail
            go_ret
            exact ⟨rfl, bw⟩
          · have hpe : (n : Int) % 2 = 1 := by omega
            have hpt : (n : Int).tmod 2 = 1 := by rw [Int.tmod_eq_emod_of_nonneg (by omega)]; exact hpe
            have hb1 : bo = true := by rw [HOE.out, hpe]; rfl
            subst hb1
            clear HOE hp
            go_upto_region 38 with (fail)
            have hB : Bx (Below w29.heap.size w29 w29.drew) := ⟨(Below.refl _ _).drew⟩
            have hB0 : Bx (Below w29.heap.size w29 w29) := ⟨Below.refl _ _⟩
            have kga0_d : w29.drew.cell? _ = _ := kga0
            have kga1_d : w29.drew.cell? _ = _ := kga1
            have kV_d : w29.drew.cell? _ = _ := kV
            refine wp_region_held_drew (S := fun w' => w'.cell? ⟨ga, 0, none⟩ = some (.int .i64 n) ∧ w'.cell? ⟨ga, 1, none⟩ = some (.slice Aa a.length ca) ∧ w'.cell? ⟨bV, oV + d, none⟩ = some (.int .i64 (v : Int)) ∧ Bx (Below w29.heap.size w29 w')) (by kernel_rfl) ?hS2000 (fun hHeld => ?rest2000)
            case hS2000 => (try dsimp only); (refine (fun (hK : Bx (Below w29.heap.size w29 _)) => ⟨((bcell hK.out).1 _ _ lt_ga).trans kga0, ((bcell hK.out).1 _ _ lt_ga).trans kga1, ((bcell hK.out).1 _ _ lt_bV).trans kV, hK⟩) ?_; (first | with_reducible assumption | with_reducible exact bx_alloc (by with_reducible assumption) _ | with_reducible exact bx_drew (by with_reducible assumption) | with_reducible exact bx_drew (bx_alloc (by with_reducible assumption) _)))
            case rest2000 =>
            refine wpAnyH_take (i := 0) (v := ?v2001) (at_list rfl) (by kernel_rfl) (by kernel_rfl) (by kernel_rfl) (fun _ _ _ h => h) (Or.inl ⟨by rfl, ?hy2001⟩) (by assumption) ?rest2001
            case hy2001 => intro w hSw; (try dsimp only at hSw); go_simp; try (with_reducible rfl)
            case rest2001 =>
            try simp only [Act.put, List.setIfInBounds_toArray, List.set_cons_zero, List.set_cons_succ]
            refine wpAnyH_take (i := 1) (v := ?v2002) (at_list rfl) (by kernel_rfl) (by kernel_rfl) (by kernel_rfl) (fun _ _ _ h => h) (Or.inl ⟨by rfl, ?hy2002⟩) (by assumption) ?rest2002
            case hy2002 => intro w hSw; (try dsimp only at hSw); go_simp; try (with_reducible rfl)
            case rest2002 =>
            try simp only [Act.put, List.setIfInBounds_toArray, List.set_cons_zero, List.set_cons_succ]
            refine wpAnyH_take (i := 2) (v := ?v2003) (at_list rfl) (by kernel_rfl) (by kernel_rfl) (by kernel_rfl) (fun _ _ _ h => h) (Or.inl ⟨by rfl, ?hy2003⟩) (by assumption) ?rest2003
            case hy2003 => intro w hSw; (try dsimp only at hSw); go_simp; try (with_reducible rfl)
            case rest2003 =>
            try simp only [Act.put, List.setIfInBounds_toArray, List.set_cons_zero, List.set_cons_succ]
            refine wpAnyH_take (i := 3) (v := ?v2004) (at_list rfl) (by kernel_rfl) (by kernel_rfl) (by kernel_rfl) (fun _ _ _ h => h) (Or.inl ⟨by rfl, ?hy2004⟩) (by assumption) ?rest2004
            case hy2004 => intro w hSw; (try dsimp only at hSw); go_simp; try (with_reducible rfl)
            case rest2004 =>
            try simp only [Act.put, List.setIfInBounds_toArray, List.set_cons_zero, List.set_cons_succ]
            refine wpAnyH_take (i := 4) (v := ?v2005) (at_list rfl) (by kernel_rfl) (by kernel_rfl) (by kernel_rfl) (fun _ _ _ h => h) (Or.inl ⟨by rfl, ?hy2005⟩) (by assumption) ?rest2005
            case hy2005 => intro w hSw; (try dsimp only at hSw); go_simp; try (with_reducible rfl)
            case rest2005 =>
            try simp only [Act.put, List.setIfInBounds_toArray, List.set_cons_zero, List.set_cons_succ]
            refine wpAnyH_take (i := 5) (v := ?v2006) (at_list rfl) (by kernel_rfl) (by kernel_rfl) (by kernel_rfl) (fun _ _ _ h => h) (Or.inl ⟨by rfl, ?hy2006⟩) (by assumption) ?rest2006
            case hy2006 => intro w hSw; (try dsimp only at hSw); go_simp; try (with_reducible rfl)
            case rest2006 =>
            try simp only [Act.put, List.setIfInBounds_toArray, List.set_cons_zero, List.set_cons_succ]
            refine wpAnyH_take (i := 6) (v := ?v2007) (at_list rfl) (by kernel_rfl) (by kernel_rfl) (by kernel_rfl) (fun _ _ _ h => h) (Or.inl ⟨by rfl, ?hy2007⟩) (by assumption) ?rest2007
            case hy2007 => intro w hSw; (try dsimp only at hSw); go_simp; try (with_reducible rfl)
            case rest2007 =>
            try simp only [Act.put, List.setIfInBounds_toArray, List.set_cons_zero, List.set_cons_succ]
            refine wpAnyH_take (i := 8) (v := ?v2008) (at_list rfl) (by kernel_rfl) (by kernel_rfl) (by kernel_rfl) (fun _ _ _ h => h) (Or.inl ⟨by rfl, ?hy2008⟩) (by assumption) ?rest2008
            case hy2008 => intro w hSw; (try dsimp only at hSw); go_simp; try (with_reducible rfl)
            case rest2008 =>
            try simp only [Act.put, List.setIfInBounds_toArray, List.set_cons_zero, List.set_cons_succ]
            refine wpAnyH_take (i := 9) (v := ?v2009) (at_list rfl) (by kernel_rfl) (by kernel_rfl) (by kernel_rfl) (fun _ _ _ h => h) (Or.inl ⟨by rfl, ?hy2009⟩) (by assumption) ?rest2009
            case hy2009 => intro w hSw; (try dsimp only at hSw); go_simp; try (with_reducible rfl)
            case rest2009 =>
            try simp only [Act.put, List.setIfInBounds_toArray, List.set_cons_zero, List.set_cons_succ]
            refine wpAnyH_take (i := 10) (v := ?v2010) (at_list rfl) (by kernel_rfl) (by kernel_rfl) (by kernel_rfl) (fun _ _ _ h => h) (Or.inl ⟨by rfl, ?hy2010⟩) (by assumption) ?rest2010
            case hy2010 => intro w hSw; (try dsimp only at hSw); go_simp; try (with_reducible rfl)
            case rest2010 =>
            try simp only [Act.put, List.setIfInBounds_toArray, List.set_cons_zero, List.set_cons_succ]
            refine wpAnyH_take (i := 11) (v := ?v2011) (at_list rfl) (by kernel_rfl) (by kernel_rfl) (by kernel_rfl) (fun _ _ _ h => h) (Or.inl ⟨by rfl, ?hy2011⟩) (by assumption) ?rest2011
            case hy2011 => intro w hSw; (try dsimp only at hSw); go_simp; try (with_reducible rfl)
            case rest2011 =>
            try simp only [Act.put, List.setIfInBounds_toArray, List.set_cons_zero, List.set_cons_succ]
            refine wpAnyH_take (i := 12) (v := ?v2012) (at_list rfl) (by kernel_rfl) (by kernel_rfl) (by kernel_rfl) (fun _ _ _ h => h) (Or.inl ⟨by rfl, ?hy2012⟩) (by assumption) ?rest2012
            case hy2012 => intro w hSw; (try dsimp only at hSw); go_simp; try (with_reducible rfl)
            case rest2012 =>
            try simp only [Act.put, List.setIfInBounds_toArray, List.set_cons_zero, List.set_cons_succ]
            refine wpAnyH_ready (rs := [7]) (by kernel_rfl) (by simp) ?_
            refine AllReadyH.cons (at_list rfl) (fun K hK => ?_) AllReadyH.nil
            go_simp
            go_at_call 15; refine (HCA.out _ _ _ (by exact HA.out.below (Bx.out (by (first | with_reducible assumption | with_reducible exact bx_alloc (by with_reducible assumption) _ | with_reducible exact bx_drew (by with_reducible assumption) | with_reducible exact bx_drew (bx_alloc (by with_reducible assumption) _)))))).mono ?_; rintro e w33 ⟨rfl, bw33⟩; have hBw33 : Bx (Below w29.heap.size w29 w33) := bx_to (by (first | with_reducible assumption | with_reducible exact bx_alloc (by with_reducible assumption) _ | with_reducible exact bx_drew (by with_reducible assumption) | with_reducible exact bx_drew (bx_alloc (by with_reducible assumption) _))) bw33; have hzw33 := bx_size hBw33; have kga0_w33 := ((bcell hBw33.out).1 _ _ lt_ga).trans kga0; have kga1_w33 := ((bcell hBw33.out).1 _ _ lt_ga).trans kga1; have kV_w33 := ((bcell hBw33.out).1 _ _ lt_bV).trans kV
            refine hK.out _ _ ?hS2013 (fun hHeld => ?rest2013)
            case hS2013 => (try dsimp only); (refine (fun (hK : Bx (Below w29.heap.size w29 _)) => ⟨((bcell hK.out).1 _ _ lt_ga).trans kga0, ((bcell hK.out).1 _ _ lt_ga).trans kga1, ((bcell hK.out).1 _ _ lt_bV).trans kV, hK⟩) ?_; (first | with_reducible assumption | with_reducible exact bx_alloc (by with_reducible assumption) _ | with_reducible exact bx_drew (by with_reducible assumption) | with_reducible exact bx_drew (bx_alloc (by with_reducible assumption) _)))
            case rest2013 =>
            clear hK K
            try simp only [Act.put, List.setIfInBounds_toArray, List.set_cons_zero, List.set_cons_succ]
            refine wpAnyH_take (i := 13) (v := ?v2014) (at_list rfl) (by kernel_rfl) (by kernel_rfl) (by kernel_rfl) (fun _ _ _ h => h) (Or.inl ⟨by rfl, ?hy2014⟩) (by assumption) ?rest2014
            case hy2014 => intro w hSw; (try dsimp only at hSw); go_simp; try (with_reducible rfl)
            case rest2014 =>
            try simp only [Act.put, List.setIfInBounds_toArray, List.set_cons_zero, List.set_cons_succ]
            refine wpAnyH_take (i := 14) (v := ?v2015) (at_list rfl) (by kernel_rfl) (by kernel_rfl) (by kernel_rfl) (fun _ _ _ h => h) (Or.inl ⟨by rfl, ?hy2015⟩) (by assumption) ?rest2015
            case hy2015 => intro w hSw; (try dsimp only at hSw); go_simp; try (with_reducible rfl)
            case rest2015 =>
            try simp only [Act.put, List.setIfInBounds_toArray, List.set_cons_zero, List.set_cons_succ]
            refine wpAnyH_take (i := 15) (v := ?v2016) (at_list rfl) (by kernel_rfl) (by kernel_rfl) (by kernel_rfl) (fun _ _ _ h => h) (Or.inl ⟨by rfl, ?hy2016⟩) (by assumption) ?rest2016
            case hy2016 => intro w hSw; (try dsimp only at hSw); go_simp; try (with_reducible rfl)
            case rest2016 =>
            try simp only [Act.put, List.setIfInBounds_toArray, List.set_cons_zero, List.set_cons_succ]
            refine wpAnyH_take (i := 16) (v := ?v2017) (at_list rfl) (by kernel_rfl) (by kernel_rfl) (by kernel_rfl) (fun _ _ _ h => h) (Or.inl ⟨by rfl, ?hy2017⟩) (by assumption) ?rest2017
            case hy2017 => intro w hSw; (try dsimp only at hSw); go_simp; try (with_reducible rfl)
            case rest2017 =>
            try simp only [Act.put, List.setIfInBounds_toArray, List.set_cons_zero, List.set_cons_succ]
            refine wpAnyH_take (i := 18) (v := ?v2018) (at_list rfl) (by kernel_rfl) (by kernel_rfl) (by kernel_rfl) (fun _ _ _ h => h) (Or.inl ⟨by rfl, ?hy2018⟩) (by assumption) ?rest2018
            case hy2018 => intro w hSw; (try dsimp only at hSw); go_simp; try (with_reducible rfl)
            case rest2018 =>
            try simp only [Act.put, List.setIfInBounds_toArray, List.set_cons_zero, List.set_cons_succ]
            refine wpAnyH_take (i := 19) (v := ?v2019) (at_list rfl) (by kernel_rfl) (by kernel_rfl) (by kernel_rfl) (fun _ _ _ h => h) (Or.inl ⟨by rfl, ?hy2019⟩) (by assumption) ?rest2019
            case hy2019 => intro w hSw; (try dsimp only at hSw); go_simp; try (with_reducible rfl)
            case rest2019 =>
            try simp only [Act.put, List.setIfInBounds_toArray, List.set_cons_zero, List.set_cons_succ]
            refine wpAnyH_take (i := 20) (v := ?v2020) (at_list rfl) (by kernel_rfl) (by kernel_rfl) (by kernel_rfl) (fun _ _ _ h => h) (Or.inl ⟨by rfl, ?hy2020⟩) (by assumption) ?rest2020
            case hy2020 => intro w hSw; (try dsimp only at hSw); go_simp; try (with_reducible rfl)
            case rest2020 =>
            try simp only [Act.put, List.setIfInBounds_toArray, List.set_cons_zero, List.set_cons_succ]
            refine wpAnyH_ready (rs := [17]) (by kernel_rfl) (by simp) ?_
            refine AllReadyH.cons (at_list rfl) (fun K hK => ?_) AllReadyH.nil
            go_simp
            go_at_call 20; refine (HOD.out _ _ _ (by exact HA.out.below (Bx.out (by (first | with_reducible assumption | with_reducible exact bx_alloc (by with_reducible assumption) _ | with_reducible exact bx_drew (by with_reducible assumption) | with_reducible exact bx_drew (bx_alloc (by with_reducible assumption) _)))))).mono ?_; rintro e w34 ⟨rfl, bw34⟩; have hBw34 : Bx (Below w29.heap.size w29 w34) := bx_to (by (first | with_reducible assumption | with_reducible exact bx_alloc (by with_reducible assumption) _ | with_reducible exact bx_drew (by with_reducible assumption) | with_reducible exact bx_drew (bx_alloc (by with_reducible assumption) _))) bw34; have hzw34 := bx_size hBw34; have kga0_w34 := ((bcell hBw34.out).1 _ _ lt_ga).trans kga0; have kga1_w34 := ((bcell hBw34.out).1 _ _ lt_ga).trans kga1; have kV_w34 := ((bcell hBw34.out).1 _ _ lt_bV).trans kV
            refine hK.out _ _ ?hS2021 (fun hHeld => ?rest2021)
            case hS2021 => (try dsimp only); (refine (fun (hK : Bx (Below w29.heap.size w29 _)) => ⟨((bcell hK.out).1 _ _ lt_ga).trans kga0, ((bcell hK.out).1 _ _ lt_ga).trans kga1, ((bcell hK.out).1 _ _ lt_bV).trans kV, hK⟩) ?_; (first | with_reducible assumption | with_reducible exact bx_alloc (by with_reducible assumption) _ | with_reducible exact bx_drew (by with_reducible assumption) | with_reducible exact bx_drew (bx_alloc (by with_reducible assumption) _)))
            case rest2021 =>
            clear hK K
            try simp only [Act.put, List.setIfInBounds_toArray, List.set_cons_zero, List.set_cons_succ]
            refine wpAnyH_take (i := 21) (v := ?v2022) (at_list rfl) (by kernel_rfl) (by kernel_rfl) (by kernel_rfl) (fun _ _ _ h => h) (Or.inl ⟨by rfl, ?hy2022⟩) (by assumption) ?rest2022
            case hy2022 => intro w hSw; (try dsimp only at hSw); go_simp; try (with_reducible rfl)
            case rest2022 =>
            try simp only [Act.put, List.setIfInBounds_toArray, List.set_cons_zero, List.set_cons_succ]
            refine wpAnyH_take (i := 22) (v := undef) (at_list rfl) (by kernel_rfl) (by kernel_rfl) (by kernel_rfl) (fun _ _ _ h => h) (Or.inr ⟨by rfl, rfl⟩) (by assumption) ?rest2023
            case rest2023 =>
            try simp only [Act.put, List.setIfInBounds_toArray, List.set_cons_zero, List.set_cons_succ]
            refine wpAnyH_take (i := 23) (v := undef) (at_list rfl) (by kernel_rfl) (by kernel_rfl) (by kernel_rfl) (fun _ _ _ h => h) (Or.inr ⟨by rfl, rfl⟩) (by assumption) ?rest2024
            case rest2024 =>
            try simp only [Act.put, List.setIfInBounds_toArray, List.set_cons_zero, List.set_cons_succ]
            refine wpAnyH_take (i := 24) (v := undef) (at_list rfl) (by kernel_rfl) (by kernel_rfl) (by kernel_rfl) (fun _ _ _ h => h) (Or.inr ⟨by rfl, rfl⟩) (by assumption) ?rest2025
            case rest2025 =>
            try simp only [Act.put, List.setIfInBounds_toArray, List.set_cons_zero, List.set_cons_succ]
            refine wpAnyH_take (i := 25) (v := undef) (at_list rfl) (by kernel_rfl) (by kernel_rfl) (by kernel_rfl) (fun _ _ _ h => h) (Or.inr ⟨by rfl, rfl⟩) (by assumption) ?rest2026
            case rest2026 =>
            try simp only [Act.put, List.setIfInBounds_toArray, List.set_cons_zero, List.set_cons_succ]
            refine wpAnyH_take (i := 26) (v := ?v2027) (at_list rfl) (by kernel_rfl) (by kernel_rfl) (by kernel_rfl) (fun _ _ _ h => h) (Or.inl ⟨by rfl, ?hy2027⟩) (by assumption) ?rest2027
            case hy2027 => intro w hSw; (try dsimp only at hSw); go_simp; try (with_reducible rfl)
            case rest2027 =>
            try simp only [Act.put, List.setIfInBounds_toArray, List.set_cons_zero, List.set_cons_succ]
            refine wpAnyH_take (i := 27) (v := ?v2028) (at_list rfl) (by kernel_rfl) (by kernel_rfl) (by kernel_rfl) (fun _ _ _ h => h) (Or.inl ⟨by rfl, ?hy2028⟩) (by assumption) ?rest2028
            case hy2028 => intro w hSw; (try dsimp only at hSw); go_simp; try (with_reducible rfl)
            case rest2028 =>
            try simp only [Act.put, List.setIfInBounds_toArray, List.set_cons_zero, List.set_cons_succ]
            refine wpAnyH_take (i := 28) (v := ?v2029) (at_list rfl) (by kernel_rfl) (by kernel_rfl) (by kernel_rfl) (fun _ _ _ h => h) (Or.inl ⟨by rfl, ?hy2029⟩) (by assumption) ?rest2029
            case hy2029 => intro w hSw; (try dsimp only at hSw); go_simp; try (with_reducible rfl)
            case rest2029 =>
            try simp only [Act.put, List.setIfInBounds_toArray, List.set_cons_zero, List.set_cons_succ]
            refine wpAnyH_ready (rs := [29]) (by kernel_rfl) (by simp) ?_
            refine AllReadyH.cons (at_list rfl) (fun K hK => ?_) AllReadyH.nil
            go_simp
            refine hK.out _ _ ?hS2030 (fun hHeld => ?rest2030)
            case hS2030 => (try dsimp only); (refine (fun (hK : Bx (Below w29.heap.size w29 _)) => ⟨((bcell hK.out).1 _ _ lt_ga).trans kga0, ((bcell hK.out).1 _ _ lt_ga).trans kga1, ((bcell hK.out).1 _ _ lt_bV).trans kV, hK⟩) ?_; (first | with_reducible assumption | with_reducible exact bx_alloc (by with_reducible assumption) _ | with_reducible exact bx_drew (by with_reducible assumption) | with_reducible exact bx_drew (bx_alloc (by with_reducible assumption) _)))
            case rest2030 =>
            clear hK K
            try simp only [Act.put, List.setIfInBounds_toArray, List.set_cons_zero, List.set_cons_succ]
            refine wpAnyH_done (by kernel_rfl) ?_ _
            have b := hBw34.out
            replace kgr0 := ((bcell b).1 _ _ lt_gr).trans kgr0
            replace kgr1 := ((bcell b).1 _ _ lt_gr).trans kgr1
            replace kga0 := ((bcell b).1 _ _ lt_ga).trans kga0
            replace kga1 := ((bcell b).1 _ _ lt_ga).trans kga1
            replace lt_gr := Nat.lt_of_lt_of_le lt_gr b.size
            replace lt_ga := Nat.lt_of_lt_of_le lt_ga b.size
            replace HZr := Bx.mk (HZr.out.below b)
            replace HRr := Bx.mk (HRr.out.below b)
            replace HFr := Bx.mk (HFr.out.below b)
            replace HA := Bx.mk (HA.out.below b)
            replace HDr := Bx.mk (HDr.out.below b)
            replace HB := Bx.mk (HB.out.below b)
            replace bw := bw.trans (b.mono bw.size)
            clear b
            go_wp2_with fail
            go_ret
            exact ⟨rfl, bw⟩
end Go.Proofs.Ytlgiijibekobfaa
