/- Words that many parts of the proof share. -/
import Derived.Test.YtpejnhcmelkmeaaRts
import Derived.Test.YtpejnhcmelkmeaaBas
import Derived.Test.YtpejnhcmelkmeaaStepLaw
import Derived.Deep.RegionLaw
import Derived.Deep.RegionHeld3
namespace Go.Proofs.Ytpejnhcmelkmeaa
open Go.RowKit

/- Even rhythms: their beats and their period. -/
def evL (n k j : Nat) : List Int := (List.range j).map fun i => ((i * n / k : Nat) : Int)
theorem evL_len (n k j : Nat) : (evL n k j).length = j := by simp [evL]
theorem evL_succ (n k j : Nat) : evL n k (j + 1) = evL n k j ++ [((j * n / k : Nat) : Int)] := by simp [evL, List.range_succ]
theorem ev_lt {n k i : Nat} (hi : i < k) (hn : 1 ≤ n) : i * n / k < n := by
  rw [Nat.div_lt_iff_lt_mul (by omega), Nat.mul_comm n k]
  exact Nat.mul_lt_mul_of_pos_right hi (by omega)
theorem ev_asc {n k i j : Nat} (hk : 0 < k) (hkn : k ≤ n) (hij : i < j) : i * n / k < j * n / k := by
  have h1 : (i + 1) * n ≤ j * n := Nat.mul_le_mul_right n hij
  have h2 : i * n + k ≤ j * n := by rw [Nat.succ_mul] at h1; omega
  have h3 := Nat.div_le_div_right (c := k) h2
  rw [Nat.add_div_right _ hk] at h3
  omega
theorem evL_ok {n k : Nat} (hn1 : 1 ≤ n) (hn : n ≤ 24) (hk : k ≤ n) : rhOk n (evL n k k) = true := by
  refine rhOk_iff.2 ⟨by omega, fun x hx => ?_, ?_⟩
  · unfold evL at hx
    obtain ⟨i, hi, rfl⟩ := List.mem_map.1 hx
    exact ⟨Int.natCast_nonneg _, Int.ofNat_lt.2 (ev_lt (List.mem_range.1 hi) hn1)⟩
  · unfold evL
    rw [List.pairwise_map]
    by_cases hk0 : k = 0
    · subst hk0; simp
    · exact List.pairwise_lt_range.imp fun {a b} h => Int.ofNat_lt.2 (ev_asc (n := n) (k := k) (by omega) hk h)
def perQ (n : Nat) (xs : List Int) (k : Nat) : Bool := decide (selTo (memB (modL n (addL (k : Int) xs))) n = xs)
theorem perQ_eq {n : Nat} (hn : 1 ≤ n) (xs : List Int) : perP n xs = perQ n xs := by
  funext k
  unfold perP perQ
  rw [rotL_sel (by omega), Int.toNat_natCast]
set_option maxRecDepth 100000 in
theorem ev_per_all : ∀ n, n < 25 → ∀ k, k < 25 → 1 ≤ n → k ≤ n → perGo (perQ n (evL n k k)) 1 (n - 1) = n / Nat.gcd k n := by decide +kernel
theorem ev_per {n k : Nat} (hn1 : 1 ≤ n) (hn : n ≤ 24) (hk : k ≤ n) : perL n (evL n k k) = n / Nat.gcd k n := by
  unfold perL
  rw [Int.toNat_natCast, perQ_eq hn1]
  exact ev_per_all n (by omega) k (by omega) hn1 hk

/- Even rhythms: the program's and the reference's. -/
def evOk (k n : Int) : Bool := inB n 1 24 && inB k 0 n
theorem mul_bdE {a b : Nat} (ha : a ≤ 24) (hb : b ≤ 24) : a * b ≤ 576 := by
  have := Nat.mul_le_mul ha hb
  omega
set_option maxHeartbeats 2000000 in
set_option maxRecDepth 20000 in
theorem implShift_z (n : Nat) (hn1 : 1 ≤ n) (hn : n ≤ 24) (w : World) :
    Calls Try.prog 36 #[.int .i64 0, .int .i64 n, .int .i64 0] w (GivesRB w n (evL n 0 0) true) := by
  have i1 : inB n 1 24 = true := inB_yes (by omega)
  have i2 : inB 0 0 n = true := inB_yes (by omega)
  have i3 : inB 0 0 ((n : Int) - 1) = true := inB_yes (by omega)
  obtain ⟨W0, hW0⟩ : ∃ W0, W0 = (w.alloc (.cells #[.int .i64 0, .slice none 0 0] 26)).alloc (.cells #[.int .i64 n, .slice none 0 0] 26) := ⟨_, rfl⟩
  have bw : Below w.heap.size w W0 := by rw [hW0]; exact (below_alloc _ _).alloc (by simp) _
  have hz : w.heap.size + 2 ≤ W0.heap.size := by rw [hW0]; simp
  have HR0 : Blk W0 w.heap.size 26 #[.int .i64 0, .slice none 0 0] := by rw [hW0]; exact (Blk.new w 26 #[.int .i64 0, .slice none 0 0]).alloc (.cells #[.int .i64 n, .slice none 0 0] 26)
  have HG0 : Blk W0 (w.heap.size + 1) 26 #[.int .i64 n, .slice none 0 0] := by rw [hW0]; have := Blk.new (w.alloc (.cells #[.int .i64 0, .slice none 0 0] 26)) 26 #[.int .i64 n, .slice none 0 0]; simpa using this
  obtain ⟨g, hg⟩ : ∃ g, g = w.heap.size + 1 := ⟨_, rfl⟩
  obtain ⟨gr, hgr⟩ : ∃ gr, gr = w.heap.size := ⟨_, rfl⟩
  rw [← hg] at HG0
  rw [← hgr] at HR0
  have hg2 : g < W0.heap.size := by omega
  have hg3 : gr < g := by omega
  have hg4 : w.heap.size ≤ gr := by omega
  go_enter Try.func36, Try.ntmps36
  go_wp2_with (go_at_call 25; refine (within_any _ _ _ _).mono ?_; rintro e w' ⟨rfl, rfl⟩)
  rw [← hW0, ← hg, ← hgr]
  clear hg hgr hW0 i1 i2 i3
  go_loopw [38] (fun i wr => ∃ (j : Nat) (v : Value), j ≤ 0 ∧ i = .int .i64 j ∧ Blk wr g 26 #[.int .i64 n, v] ∧ Row wr W0.heap.size v (evL n 0 j) ∧ Only W0 wr (some ⟨g, 0, none⟩)) (fun i _ => 0 - (intOf i).toNat)
  case atStart => exact ⟨0, _, by omega, rfl, HG0, Row.nil _ _, Only.refl _ _⟩
  case round =>
    obtain ⟨j, v, hj, rfl, hG, hrow, ho⟩ := hrel
    clear HG0
    obtain ⟨A', c', rfl⟩ := hrow.slice
    have hlen : (evL n 0 j).length ≤ 24 := by rw [evL_len]; omega
    have HO := Bx.mk hrow
    have HN := Bx.mk ho
    have HR := Bx.mk (HR0.onlyAt ho (by omega))
    have hzr := ho.size
    have cg0 := hG.at_ (i := 0) rfl
    have cg1 := hG.at_ (i := 1) rfl
    have fg1 := hG.frozen 1
    have HG := Bx.mk hG
    clear hrow ho hG
    · have hke : j = 0 := by omega
      have HS2 : Bx (evL n 0 0 = evL n 0 j) := ⟨by rw [hke]⟩
      have hjz : ¬ (j : Int) < 0 := by omega
      clear hke
      have cr0 := HR.out.at_ (i := 0) rfl
      have cr1 := HR.out.at_ (i := 1) rfl
      have fr0 := HR.out.frozen 0
      have fr1 := HR.out.frozen 1
      have hln2 : (evL n 0 j).length ≤ 17592186044415 := by omega
      have RF := Bx.mk ((HR.out.set 0 (.int .i64 n)).set 1 (.slice A' (evL n 0 j).length c'))
      have HIO := Bx.mk (((HO.out.io' rfl hln2).setLow (p := ⟨gr, 0, none⟩) (show gr < W0.heap.size by omega) (.int .i64 n)).setLow (p := ⟨gr, 1, none⟩) (show gr < W0.heap.size by omega) (.slice A' (evL n 0 j).length c'))
      have hbl : Below w.heap.size w wr := bw.trans (HN.out.below bw.size (by intro x hx; injection hx with hx; subst hx; simp; omega))
      have HBL := Bx.mk ((hbl.setCell (p := ⟨gr, 0, none⟩) hg4 (.int .i64 n)).setCell (p := ⟨gr, 1, none⟩) hg4 (.slice A' (evL n 0 j).length c'))
      have hwm : w.heap.size ≤ W0.heap.size := by omega
      clear hbl
      go_wp2_with fail
      refine bodyPost_ret (v := .tuple #[.agg #[.int .i64 n, .slice A' (evL n 0 j).length c'], .bool true]) (by simp [results, Try.results36, go_sem, RF.out.at_ (i := 0) rfl, RF.out.at_ (i := 1) rfl]) rfl ?_
      rw [HS2.out]
      exact ⟨A', c', rfl, HIO.out.mono hwm, HBL.out⟩
set_option maxHeartbeats 2000000 in
set_option maxRecDepth 20000 in
theorem implShift_p (n k : Nat) (hn1 : 1 ≤ n) (hn : n ≤ 24) (hk0 : 1 ≤ k) (hk : k ≤ n) (w : World) :
    Calls Try.prog 36 #[.int .i64 k, .int .i64 n, .int .i64 0] w (GivesRB w n (evL n k k) true) := by
  have i1 : inB n 1 24 = true := inB_yes (by omega)
  have i2 : inB k 0 n = true := inB_yes (by omega)
  have i3 : inB 0 0 ((n : Int) - 1) = true := inB_yes (by omega)
  have hkb : (((k : Int) == 0)) = false := by rw [beq_eq_false_iff_ne]; omega
  have hkz : ¬ (k : Int) = 0 := by omega
  obtain ⟨W0, hW0⟩ : ∃ W0, W0 = (w.alloc (.cells #[.int .i64 0, .slice none 0 0] 26)).alloc (.cells #[.int .i64 n, .slice none 0 0] 26) := ⟨_, rfl⟩
  have bw : Below w.heap.size w W0 := by rw [hW0]; exact (below_alloc _ _).alloc (by simp) _
  have hz : w.heap.size + 2 ≤ W0.heap.size := by rw [hW0]; simp
  have HR0 : Blk W0 w.heap.size 26 #[.int .i64 0, .slice none 0 0] := by rw [hW0]; exact (Blk.new w 26 #[.int .i64 0, .slice none 0 0]).alloc (.cells #[.int .i64 n, .slice none 0 0] 26)
  have HG0 : Blk W0 (w.heap.size + 1) 26 #[.int .i64 n, .slice none 0 0] := by rw [hW0]; have := Blk.new (w.alloc (.cells #[.int .i64 0, .slice none 0 0] 26)) 26 #[.int .i64 n, .slice none 0 0]; simpa using this
  obtain ⟨g, hg⟩ : ∃ g, g = w.heap.size + 1 := ⟨_, rfl⟩
  obtain ⟨gr, hgr⟩ : ∃ gr, gr = w.heap.size := ⟨_, rfl⟩
  rw [← hg] at HG0
  rw [← hgr] at HR0
  have hg2 : g < W0.heap.size := by omega
  have hg3 : gr < g := by omega
  have hg4 : w.heap.size ≤ gr := by omega
  go_enter Try.func36, Try.ntmps36
  go_wp2_with (go_at_call 25; refine (within_any _ _ _ _).mono ?_; rintro e w' ⟨rfl, rfl⟩)
  rw [← hW0, ← hg, ← hgr]
  clear hg hgr hW0 i1 i2 i3
  go_loopw [38] (fun i wr => ∃ (j : Nat) (v : Value), j ≤ k ∧ i = .int .i64 j ∧ Blk wr g 26 #[.int .i64 n, v] ∧ Row wr W0.heap.size v (evL n k j) ∧ Only W0 wr (some ⟨g, 0, none⟩)) (fun i _ => k - (intOf i).toNat)
  case atStart => exact ⟨0, _, by omega, rfl, HG0, Row.nil _ _, Only.refl _ _⟩
  case round =>
    obtain ⟨j, v, hj, rfl, hG, hrow, ho⟩ := hrel
    clear HG0
    obtain ⟨A', c', rfl⟩ := hrow.slice
    have hlen : (evL n k j).length ≤ 24 := by rw [evL_len]; omega
    have HO := Bx.mk hrow
    have HN := Bx.mk ho
    have HR := Bx.mk (HR0.onlyAt ho (by omega))
    have hzr := ho.size
    have cg0 := hG.at_ (i := 0) rfl
    have cg1 := hG.at_ (i := 1) rfl
    have fg1 := hG.frozen 1
    have HG := Bx.mk hG
    clear hrow ho hG
    by_cases hlt : j < k
    · have hji : (j : Int) < (k : Int) := by omega
      obtain ⟨m, hm⟩ : ∃ m : Nat, m = j * n := ⟨_, rfl⟩
      have hmb : m ≤ 576 := by rw [hm]; exact mul_bdE (by omega) hn
      have hmi : (j : Int) * (n : Int) = (m : Int) := by rw [hm]; simp
      have hwm : IntKind.i64.wrap ((j : Int) * (n : Int)) = (m : Int) := by rw [hmi]; exact IntWalk.i64_in _ (by omega)
      have hwa : IntKind.i64.wrap ((m : Int) + 0) = (m : Int) := (IntWalk.i64_in _ (by omega)).trans (by omega)
      have hwn : IntKind.i64.wrap (m : Int) = (m : Int) := IntWalk.i64_in _ (by omega)
      obtain ⟨q, hq⟩ : ∃ q : Nat, q = m / k := ⟨_, rfl⟩
      have hkn : ¬ k = 0 := by omega
      have hqb : q ≤ 576 := by rw [hq]; exact Nat.le_trans (Nat.div_le_self _ _) hmb
      have hqd : (m : Int).tdiv (k : Int) = (q : Int) := by rw [hq]; exact (Int.ofNat_tdiv m k).symm
      have hwq : IntKind.i64.wrap (q : Int) = (q : Int) := IntWalk.i64_in _ (by omega)
      have HNX : Bx (evL n k (j + 1) = evL n k j ++ [(q : Int)]) := ⟨by rw [evL_succ, hq, hm]⟩
      have hRd : Bx (Row wr.drew W0.heap.size (.slice A' (evL n k j).length c') (evL n k j)) := ⟨HO.out⟩
      have cg1d : wr.drew.cell? ⟨g, 1, none⟩ = some (.slice A' (evL n k j).length c') := cg1
      have hgw : g < wr.heap.size := by omega
      clear hm hq hmb
      go_upto_region 7 with (fail)
      go_region_law (refine step_appL (by rfl) _ _ (by rfl) W0.heap.size (.slice A' (evL n k j).length c') (evL n k j) (by rfl) (by exact hRd.out.alloc _) _ 0 1 [(q : Int)] (by rfl) (ir_one (by refine blk_undrew ?_; exact blk_eq rfl)) (by simp) (by simp; omega) (by first | (simp; done) | (simp; omega)) ?_; intro g2 cap2 w4 hrow2 hgr2 hat2 hlt2; have hb1 : Below W0.heap.size wr w4 := ((Below.refl _ _).drew).trans (below_of_row hRd.out _ hgr2 (by exact hzr)); have hG4 := HG.out.below hb1 hg2; have cq1 := hG4.at_ (i := 1) rfl; have fq1 := hG4.frozen 1; rw [List.length_append, List.length_singleton] at hrow2; have HR4 := Bx.mk hrow2; have HG4 := Bx.mk hG4; have HB4 := Bx.mk hb1; clear hrow2 hgr2 hat2 hG4 hb1)
      all_goals have HG5 := Bx.mk (HG4.out.set 1 (.slice (some ⟨g2, 0, none⟩) ((evL n k j).length + 1) cap2))
      all_goals have HN5 : Bx (Only W0 (w4.setCell ⟨g, 1, none⟩ (.slice (some ⟨g2, 0, none⟩) ((evL n k j).length + 1) cap2)) (some ⟨g, 0, none⟩)) := ⟨(HN.out.after HB4.out).set _⟩
      all_goals have HO5 := Bx.mk (HR4.out.onlyAt ((Only.refl w4 (some ⟨g, 0, none⟩)).set (i := 1) (.slice (some ⟨g2, 0, none⟩) ((evL n k j).length + 1) cap2)) (by omega))
      all_goals clear hRd
      all_goals go_wp2_with fail
      all_goals go_roundw
      all_goals first
        | exact ⟨j + 1, _, by omega, by go_num, HG5.out, by rw [HNX.out]; exact HO5.out, HN5.out⟩
        | (simp [intOf]; omega)
    · have hke : j = k := by omega
      have HS2 : Bx (evL n k k = evL n k j) := ⟨by rw [hke]⟩
      clear hke
      have cr0 := HR.out.at_ (i := 0) rfl
      have cr1 := HR.out.at_ (i := 1) rfl
      have fr0 := HR.out.frozen 0
      have fr1 := HR.out.frozen 1
      have hln2 : (evL n k j).length ≤ 17592186044415 := by omega
      have RF := Bx.mk ((HR.out.set 0 (.int .i64 n)).set 1 (.slice A' (evL n k j).length c'))
      have HIO := Bx.mk (((HO.out.io' rfl hln2).setLow (p := ⟨gr, 0, none⟩) (show gr < W0.heap.size by omega) (.int .i64 n)).setLow (p := ⟨gr, 1, none⟩) (show gr < W0.heap.size by omega) (.slice A' (evL n k j).length c'))
      have hbl : Below w.heap.size w wr := bw.trans (HN.out.below bw.size (by intro x hx; injection hx with hx; subst hx; simp; omega))
      have HBL := Bx.mk ((hbl.setCell (p := ⟨gr, 0, none⟩) hg4 (.int .i64 n)).setCell (p := ⟨gr, 1, none⟩) hg4 (.slice A' (evL n k j).length c'))
      have hwm : w.heap.size ≤ W0.heap.size := by omega
      clear hbl
      go_wp2_with fail
      refine bodyPost_ret (v := .tuple #[.agg #[.int .i64 n, .slice A' (evL n k j).length c'], .bool true]) (by simp [results, Try.results36, go_sem, RF.out.at_ (i := 0) rfl, RF.out.at_ (i := 1) rfl]) rfl ?_
      rw [HS2.out]
      exact ⟨A', c', rfl, HIO.out.mono hwm, HBL.out⟩

def evS (k n : Int) : Int := if evOk k n = true then n else 0
def evLL (k n : Int) : List Int := if evOk k n = true then evL n.toNat k.toNat k.toNat else []
theorem GivesRB.evno {w w' : World} {k n : Int} (h : evOk k n = false) (hb : Below w.heap.size w w') : GivesRB w (evS k n) (evLL k n) (evOk k n) (.returned (.tuple #[.agg #[.int .i64 0, .slice none 0 0], .bool false])) w' := by
  have h1 : evS k n = 0 := by simp [evS, h]
  have h2 : evLL k n = [] := by simp [evLL, h]
  rw [h1, h2, h]
  exact ⟨none, 0, rfl, IO.nil _ _, hb⟩
theorem evOk_in {k n : Nat} (hn1 : 1 ≤ n) (hn : n ≤ 24) (hk : k ≤ n) : evOk k n = true ∧ evS k n = n ∧ evLL k n = evL n k k := by
  have h : evOk (k : Int) (n : Int) = true := by
    unfold evOk
    rw [show inB (n : Int) 1 24 = true from inB_yes (by omega), show inB (k : Int) 0 n = true from inB_yes (by omega)]; rfl
  exact ⟨h, by simp [evS, h], by simp [evLL, h]⟩
set_option maxHeartbeats 1000000 in
theorem implShift_any (k n : Int) (w : World) :
    Calls Try.prog 36 #[.int .i64 k, .int .i64 n, .int .i64 0] w (GivesRB w (evS k n) (evLL k n) (evOk k n)) := by
  by_cases h1 : inB n 1 24 = true
  · have b1 := inB_iff.1 h1
    by_cases h2 : inB k 0 n = true
    · have b2 := inB_iff.1 h2
      obtain ⟨n', rfl⟩ := Int.eq_ofNat_of_zero_le (show 0 ≤ n by omega)
      obtain ⟨k', rfl⟩ := Int.eq_ofNat_of_zero_le (show 0 ≤ k by omega)
      obtain ⟨e1, e2, e3⟩ := evOk_in (n := n') (k := k') (by omega) (by omega) (by omega)
      rw [e1, e2, e3]
      by_cases hk : k' = 0
      · subst hk
        exact implShift_z n' (by omega) (by omega) w
      · exact implShift_p n' k' (by omega) (by omega) (by omega) (by omega) w
    · have HN : Bx (evOk k n = false) := ⟨by unfold evOk; rw [Bool.eq_false_iff.2 h2]; simp⟩
      rw [Bool.not_eq_true] at h2
      obtain ⟨W0, hW0⟩ : ∃ W0, W0 = w.alloc (.cells #[.int .i64 0, .slice none 0 0] 26) := ⟨_, rfl⟩
      have bw : Below w.heap.size w W0 := by rw [hW0]; exact below_alloc _ _
      have hz : w.heap.size < W0.heap.size := by rw [hW0]; simp
      have R0 : Blk W0 w.heap.size 26 #[.int .i64 0, .slice none 0 0] := by rw [hW0]; exact Blk.new w _ _
      go_enter Try.func36, Try.ntmps36
      go_wp2_with fail
      rw [← hW0]
      clear hW0
      have cr0 := R0.at_ (i := 0) rfl
      have cr1 := R0.at_ (i := 1) rfl
      have fr0 := R0.frozen 0
      have fr1 := R0.frozen 1
      have RF := Bx.mk ((R0.set 0 (.int .i64 0)).set 1 (.slice none 0 0))
      have BF := Bx.mk ((bw.setCell (p := ⟨w.heap.size, 0, none⟩) (show w.heap.size ≤ w.heap.size by omega) (.int .i64 0)).setCell (p := ⟨w.heap.size, 1, none⟩) (show w.heap.size ≤ w.heap.size by omega) (.slice none 0 0))
      clear R0
      go_wp2_with (go_at_call 25; refine (within_any _ _ _ _).mono ?_; rintro e w' ⟨rfl, rfl⟩)
      exact bodyPost_ret (v := .tuple #[.agg #[.int .i64 0, .slice none 0 0], .bool false]) (by simp [results, Try.results36, go_sem, RF.out.at_ (i := 0) rfl, RF.out.at_ (i := 1) rfl]) rfl (GivesRB.evno HN.out BF.out)
  · have HN : Bx (evOk k n = false) := ⟨by unfold evOk; rw [Bool.eq_false_iff.2 h1]; rfl⟩
    rw [Bool.not_eq_true] at h1
    obtain ⟨W0, hW0⟩ : ∃ W0, W0 = w.alloc (.cells #[.int .i64 0, .slice none 0 0] 26) := ⟨_, rfl⟩
    have bw : Below w.heap.size w W0 := by rw [hW0]; exact below_alloc _ _
    have hz : w.heap.size < W0.heap.size := by rw [hW0]; simp
    have R0 : Blk W0 w.heap.size 26 #[.int .i64 0, .slice none 0 0] := by rw [hW0]; exact Blk.new w _ _
    go_enter Try.func36, Try.ntmps36
    go_wp2_with fail
    rw [← hW0]
    clear hW0
    have cr0 := R0.at_ (i := 0) rfl
    have cr1 := R0.at_ (i := 1) rfl
    have fr0 := R0.frozen 0
    have fr1 := R0.frozen 1
    have RF := Bx.mk ((R0.set 0 (.int .i64 0)).set 1 (.slice none 0 0))
    have BF := Bx.mk ((bw.setCell (p := ⟨w.heap.size, 0, none⟩) (show w.heap.size ≤ w.heap.size by omega) (.int .i64 0)).setCell (p := ⟨w.heap.size, 1, none⟩) (show w.heap.size ≤ w.heap.size by omega) (.slice none 0 0))
    clear R0
    go_wp2_with (go_at_call 25; refine (within_any _ _ _ _).mono ?_; rintro e w' ⟨rfl, rfl⟩)
    exact bodyPost_ret (v := .tuple #[.agg #[.int .i64 0, .slice none 0 0], .bool false]) (by simp [results, Try.results36, go_sem, RF.out.at_ (i := 0) rfl, RF.out.at_ (i := 1) rfl]) rfl (GivesRB.evno HN.out BF.out)
set_option maxHeartbeats 1000000 in
theorem implEvn_any (k n : Int) (w : World) :
    Calls Try.prog 20 #[.int .i64 k, .int .i64 n] w (GivesRB w (evS k n) (evLL k n) (evOk k n)) := by
  obtain ⟨S, hS⟩ : ∃ S, S = evS k n := ⟨_, rfl⟩
  obtain ⟨L, hL⟩ : ∃ L, L = evLL k n := ⟨_, rfl⟩
  obtain ⟨ok, hok⟩ : ∃ ok, ok = evOk k n := ⟨_, rfl⟩
  have HG : Bx (∀ W, Calls Try.prog 36 #[.int .i64 k, .int .i64 n, .int .i64 0] W (GivesRB W S L ok)) := ⟨fun W => by rw [hS, hL, hok]; exact implShift_any k n W⟩
  rw [← hS, ← hL, ← hok]
  clear hS hL hok
  obtain ⟨W0, hW0⟩ : ∃ W0, W0 = w.alloc (.cells #[.int .i64 0, .slice none 0 0] 26) := ⟨_, rfl⟩
  have bw : Below w.heap.size w W0 := by rw [hW0]; exact below_alloc _ _
  have hz : w.heap.size < W0.heap.size := by rw [hW0]; simp
  have R0 : Blk W0 w.heap.size 26 #[.int .i64 0, .slice none 0 0] := by rw [hW0]; exact Blk.new w _ _
  go_enter Try.func20, Try.ntmps20
  go_wp2_with fail
  rw [← hW0]
  clear hW0
  refine (HG.out _).mono ?_
  rintro e w2 ⟨A2, c2, rfl, io, b⟩
  replace R0 := R0.below b hz
  have bw2 := bw.trans (b.mono bw.size)
  have cr0 := R0.at_ (i := 0) rfl
  have cr1 := R0.at_ (i := 1) rfl
  have fr0 := R0.frozen 0
  have fr1 := R0.frozen 1
  have RF := Bx.mk ((R0.set 0 (.int .i64 S)).set 1 (.slice A2 L.length c2))
  have BF := Bx.mk ((bw2.setCell (p := ⟨w.heap.size, 0, none⟩) (show w.heap.size ≤ w.heap.size by omega) (.int .i64 S)).setCell (p := ⟨w.heap.size, 1, none⟩) (show w.heap.size ≤ w.heap.size by omega) (.slice A2 L.length c2))
  have HIO := Bx.mk (((io.setLow (p := ⟨w.heap.size, 0, none⟩) (show w.heap.size < W0.heap.size by omega) (.int .i64 S)).setLow (p := ⟨w.heap.size, 1, none⟩) (show w.heap.size < W0.heap.size by omega) (.slice A2 L.length c2)).mono (show w.heap.size ≤ W0.heap.size by omega))
  clear R0 io b bw2
  go_wp2_with fail
  refine bodyPost_ret (v := .tuple #[.agg #[.int .i64 S, .slice A2 L.length c2], .bool ok]) (by simp [results, Try.results20, go_sem, RF.out.at_ (i := 0) rfl, RF.out.at_ (i := 1) rfl]) rfl ?_
  exact ⟨A2, c2, rfl, HIO.out, BF.out⟩

/- An even rhythm, the reference's way. -/
end Go.Proofs.Ytpejnhcmelkmeaa
