/- Words that many parts of the proof share. -/
import Derived.Test.YtikifkbgmniobaaGreatRts
import Derived.Test.YtikifkbgmniobaaGreatBas
import Derived.Test.YtikifkbgmniobaaGreatStepLaw
import Derived.Deep.RegionLaw
import Derived.Deep.RegionHeld3
namespace Go.Proofs.YtikifkbgmniobaaGreat
open Go.RowKit
set_option maxRecDepth 20000

/- Even rhythms: their beats and their period. -/
def evL (n k j : Nat) : List Int := (List.range j).map fun i => ((i * n / k : Nat) : Int)
theorem evL_len (n k j : Nat) : (evL n k j).length = j := by simp [evL]
theorem evL_succ (n k j : Nat) : evL n k (j + 1) = evL n k j ++ [((j * n / k : Nat) : Int)] := by simp [evL, List.range_succ]
theorem ev_lt {n k i : Nat} (hi : i < k) (hn : 1 ≤ n) : i * n / k < n := by
  rw [Nat.div_lt_iff_lt_mul (by omega), Nat.mul_comm n k]
  exact Nat.mul_lt_mul_of_pos_right hi (by omega)
theorem ev_asc {n k i j : Nat} (hk : 0 < k) (hkn : k ≤ n) (hij : i < j) : i * n / k < j * n / k := by
  have h1 : (i + 1) * n ≤ j * n := Nat.mul_le_mul_right n hij
  have h2 : i * n + k ≤ j * n := by rw [Nat.succ_mul] at h1; omega
  have h3 := Nat.div_le_div_right (c := k) h2
  rw [Nat.add_div_right _ hk] at h3
  omega
theorem evL_ok {n k : Nat} (hn1 : 1 ≤ n) (hn : n ≤ 24) (hk : k ≤ n) : rhOk n (evL n k k) = true := by
  refine rhOk_iff.2 ⟨by omega, fun x hx => ?_, ?_⟩
  · unfold evL at hx
    obtain ⟨i, hi, rfl⟩ := List.mem_map.1 hx
    exact ⟨Int.natCast_nonneg _, Int.ofNat_lt.2 (ev_lt (List.mem_range.1 hi) hn1)⟩
  · unfold evL
    rw [List.pairwise_map]
    by_cases hk0 : k = 0
    · subst hk0; simp
    · exact List.pairwise_lt_range.imp fun {a b} h => Int.ofNat_lt.2 (ev_asc (n := n) (k := k) (by omega) hk h)
def perQ (n : Nat) (xs : List Int) (k : Nat) : Bool := decide (selTo (memB (modL n (addL (k : Int) xs))) n = xs)
theorem perQ_eq {n : Nat} (hn : 1 ≤ n) (xs : List Int) : perP n xs = perQ n xs := by
  funext k
  unfold perP perQ
  rw [rotL_sel (by omega), Int.toNat_natCast]
set_option maxRecDepth 100000 in
theorem ev_per_all : ∀ n, n < 25 → ∀ k, k < 25 → 1 ≤ n → k ≤ n → perGo (perQ n (evL n k k)) 1 (n - 1) = n / Nat.gcd k n := by decide +kernel
theorem ev_per {n k : Nat} (hn1 : 1 ≤ n) (hn : n ≤ 24) (hk : k ≤ n) : perL n (evL n k k) = n / Nat.gcd k n := by
  unfold perL
  rw [Int.toNat_natCast, perQ_eq hn1]
  exact ev_per_all n (by omega) k (by omega) hn1 hk

/- Even rhythms: the program's and the reference's. -/
def evOk (k n : Int) : Bool := inB n 1 24 && inB k 0 n
theorem mul_bdE {a b : Nat} (ha : a ≤ 24) (hb : b ≤ 24) : a * b ≤ 576 := by
  have := Nat.mul_le_mul ha hb
  omega

def evS (k n : Int) : Int := if evOk k n = true then n else 0
def evLL (k n : Int) : List Int := if evOk k n = true then evL n.toNat k.toNat k.toNat else []
theorem GivesRB.evno {w w' : World} {k n : Int} (h : evOk k n = false) (hb : Below w.heap.size w w') : GivesRB w (evS k n) (evLL k n) (evOk k n) (.returned (.tuple #[.agg #[.int .i64 0, .slice none 0 0], .bool false])) w' := by
  have h1 : evS k n = 0 := by simp [evS, h]
  have h2 : evLL k n = [] := by simp [evLL, h]
  rw [h1, h2, h]
  exact ⟨none, 0, rfl, IO.nil _ _, hb⟩
theorem evOk_in {k n : Nat} (hn1 : 1 ≤ n) (hn : n ≤ 24) (hk : k ≤ n) : evOk k n = true ∧ evS k n = n ∧ evLL k n = evL n k k := by
  have h : evOk (k : Int) (n : Int) = true := by
    unfold evOk
    rw [show inB (n : Int) 1 24 = true from inB_yes (by omega), show inB (k : Int) 0 n = true from inB_yes (by omega)]; rfl
  exact ⟨h, by simp [evS, h], by simp [evLL, h]⟩

/- An even rhythm, the reference's way. -/
set_option maxHeartbeats 1000000 in
theorem l06Even_z (n : Nat) (hn1 : 1 ≤ n) (hn : n ≤ 24) (w : World) :
    Calls Tryz.prog 51 #[.int .i64 0, .int .i64 n, .int .i64 0] w (GivesRh w n (evL n 0 0)) := by
  obtain ⟨W0, hW0⟩ : ∃ W0, W0 = w.alloc (.cells #[.int .i64 0, .slice none 0 0] 26) := ⟨_, rfl⟩
  have bw : Below w.heap.size w W0 := by rw [hW0]; exact below_alloc _ _
  have hz : w.heap.size < W0.heap.size := by rw [hW0]; simp
  have R0 : Blk W0 w.heap.size 26 #[.int .i64 0, .slice none 0 0] := by rw [hW0]; exact Blk.new w _ _
  have hzE : W0.heap.size = w.heap.size + 1 := by rw [hW0]; simp
  have HRW := Bx.mk (Row.empty W0 W0.heap.size (Nat.le_refl _))
  obtain ⟨W1, hW1⟩ : ∃ W1, W1 = W0.alloc (.cells #[] 3) := ⟨_, rfl⟩
  obtain ⟨BB, hBB⟩ : ∃ BB, BB = w.heap.size + 1 := ⟨_, rfl⟩
  have b : Below BB W0 W1 := by rw [hW1, hBB, ← hzE]; exact below_alloc _ _
  rw [← hW1, hzE, ← hBB] at HRW
  have HSE : Bx (selTo (memB (evL n 0 0)) n = evL n 0 0) := ⟨by have := sel_memB (evL_ok (n := n) (k := 0) hn1 hn (by omega)); rwa [Int.toNat_natCast] at this⟩
  go_enter Tryz.func51, Tryz.ntmps51
  go_wp2_with fail
  rw [← hW0, ← hW1, ← hBB]
  replace R0 := R0.below b (by omega)
  have bw1 := bw.trans (b.mono (by omega))
  have hw1s := b.size
  have hBB1 : BB ≤ W1.heap.size := by omega
  have hwB : w.heap.size < BB := by omega
  clear b bw hz hW1 hBB hW0 hw1s hzE
  go_loopw [7, 8] (fun v i wr => ∃ j : Nat, j ≤ 0 ∧ i = .int .i64 j ∧ Row wr BB v (evL n 0 j) ∧ Below BB W1 wr) (fun _ i _ => 0 - (intOf i).toNat)
  case atStart => exact ⟨0, by omega, rfl, HRW.out, Below.refl _ _⟩
  case round =>
    obtain ⟨j, hj, rfl, hrow, hbb⟩ := hrel
    clear HRW
    have hlen : (evL n 0 j).length ≤ 24 := by rw [evL_len]; omega
    have hzr := hbb.size
    · have hke : j = 0 := by omega
      have HLL : Bx (evL n 0 j = evL n 0 0) := ⟨by rw [hke]⟩
      have hji : ¬ (j : Int) < 0 := by omega
      obtain ⟨A1, c1, rfl, io1⟩ := hrow.io (by omega)
      have HI := Bx.mk io1.reads
      obtain ⟨L, hL⟩ : ∃ L, L = evL n 0 j := ⟨_, rfl⟩
      have HLS : Bx (selTo (memB L) n = L) := ⟨by rw [hL, HLL.out]; exact HSE.out⟩
      have HLE : Bx (L = evL n 0 0) := ⟨by rw [hL]; exact HLL.out⟩
      rw [← hL] at HI hlen ⊢
      replace R0 := R0.below hbb hwB
      have bw2 := bw1.trans (hbb.mono (by omega))
      clear hrow hbb io1 hke hL HLL
      go_wp2_with fail
      refine (l02Of_any _ _ _ _ _ hn1 hn HI.out).mono ?_
      rw [HLS.out]
      rintro e w2 ⟨A2, c2, rfl, io, b⟩
      have bs := b.size
      replace R0 := R0.below b (by omega)
      have bw3 := bw2.trans (b.mono (by omega))
      have cr0 := R0.at_ (i := 0) rfl
      have cr1 := R0.at_ (i := 1) rfl
      have fr0 := R0.frozen 0
      have fr1 := R0.frozen 1
      have RF := Bx.mk ((R0.set 0 (.int .i64 n)).set 1 (.slice A2 L.length c2))
      have BF := Bx.mk ((bw3.setCell (p := ⟨w.heap.size, 0, none⟩) (show w.heap.size ≤ w.heap.size by omega) (.int .i64 n)).setCell (p := ⟨w.heap.size, 1, none⟩) (show w.heap.size ≤ w.heap.size by omega) (.slice A2 L.length c2))
      have HIO := Bx.mk (((io.setLow (p := ⟨w.heap.size, 0, none⟩) (show w.heap.size < wr.heap.size by omega) (.int .i64 n)).setLow (p := ⟨w.heap.size, 1, none⟩) (show w.heap.size < wr.heap.size by omega) (.slice A2 L.length c2)).mono (show w.heap.size ≤ wr.heap.size by omega))
      clear R0 io b bw2 bw3
      go_wp2_with fail
      refine bodyPost_ret (v := .agg #[.int .i64 n, .slice A2 L.length c2]) (by simp [results, Tryz.results51, go_sem, RF.out.at_ (i := 0) rfl, RF.out.at_ (i := 1) rfl]) rfl ?_
      rw [← HLE.out]
      exact ⟨A2, c2, rfl, HIO.out, BF.out⟩
set_option maxHeartbeats 1000000 in
theorem l06Even_p (n k : Nat) (hn1 : 1 ≤ n) (hn : n ≤ 24) (hk0 : 1 ≤ k) (hk : k ≤ n) (w : World) :
    Calls Tryz.prog 51 #[.int .i64 k, .int .i64 n, .int .i64 0] w (GivesRh w n (evL n k k)) := by
  obtain ⟨W0, hW0⟩ : ∃ W0, W0 = w.alloc (.cells #[.int .i64 0, .slice none 0 0] 26) := ⟨_, rfl⟩
  have bw : Below w.heap.size w W0 := by rw [hW0]; exact below_alloc _ _
  have hz : w.heap.size < W0.heap.size := by rw [hW0]; simp
  have R0 : Blk W0 w.heap.size 26 #[.int .i64 0, .slice none 0 0] := by rw [hW0]; exact Blk.new w _ _
  have hzE : W0.heap.size = w.heap.size + 1 := by rw [hW0]; simp
  have HRW := Bx.mk (Row.empty W0 W0.heap.size (Nat.le_refl _))
  obtain ⟨W1, hW1⟩ : ∃ W1, W1 = W0.alloc (.cells #[] 3) := ⟨_, rfl⟩
  obtain ⟨BB, hBB⟩ : ∃ BB, BB = w.heap.size + 1 := ⟨_, rfl⟩
  have b : Below BB W0 W1 := by rw [hW1, hBB, ← hzE]; exact below_alloc _ _
  rw [← hW1, hzE, ← hBB] at HRW
  have HSE : Bx (selTo (memB (evL n k k)) n = evL n k k) := ⟨by have := sel_memB (evL_ok (n := n) (k := k) hn1 hn (by omega)); rwa [Int.toNat_natCast] at this⟩
  go_enter Tryz.func51, Tryz.ntmps51
  go_wp2_with fail
  rw [← hW0, ← hW1, ← hBB]
  replace R0 := R0.below b (by omega)
  have bw1 := bw.trans (b.mono (by omega))
  have hw1s := b.size
  have hBB1 : BB ≤ W1.heap.size := by omega
  have hwB : w.heap.size < BB := by omega
  clear b bw hz hW1 hBB hW0 hw1s hzE
  go_loopw [7, 8] (fun v i wr => ∃ j : Nat, j ≤ k ∧ i = .int .i64 j ∧ Row wr BB v (evL n k j) ∧ Below BB W1 wr) (fun _ i _ => k - (intOf i).toNat)
  case atStart => exact ⟨0, by omega, rfl, HRW.out, Below.refl _ _⟩
  case round =>
    obtain ⟨j, hj, rfl, hrow, hbb⟩ := hrel
    clear HRW
    have hlen : (evL n k j).length ≤ 24 := by rw [evL_len]; omega
    have hzr := hbb.size
    by_cases hlt : j < k
    · have hji : (j : Int) < (k : Int) := by omega
      obtain ⟨m, hm⟩ : ∃ m : Nat, m = j * n := ⟨_, rfl⟩
      have hmb : m ≤ 576 := by rw [hm]; exact mul_bdE (by omega) hn
      have hmi : (j : Int) * (n : Int) = (m : Int) := by rw [hm]; simp
      have hwm : IntKind.i64.wrap ((j : Int) * (n : Int)) = (m : Int) := by rw [hmi]; exact IntWalk.i64_in _ (by omega)
      obtain ⟨q, hq⟩ : ∃ q : Nat, q = m / k := ⟨_, rfl⟩
      have hkn : ¬ k = 0 := by omega
      have hkz : ¬ (k : Int) = 0 := by omega
      have hqb : q ≤ 576 := by rw [hq]; exact Nat.le_trans (Nat.div_le_self _ _) hmb
      have hqd : (m : Int).tdiv (k : Int) = (q : Int) := by rw [hq]; exact (Int.ofNat_tdiv m k).symm
      have hwq : IntKind.i64.wrap (q : Int) = (q : Int) := IntWalk.i64_in _ (by omega)
      have HNX : Bx (evL n k (j + 1) = evL n k j ++ [(q : Int)]) := ⟨by rw [evL_succ, hq, hm]⟩
      have HB := Bx.mk hbb
      have HO := Bx.mk hrow
      clear hm hrow hbb hq
      go_wp2_with (at_builtin; go_must (refine wpList_app1 rfl _ _ rfl BB _ (evL n k j) (q : Int) rfl rfl (by exact HO.out) (by omega) (by first | omega | (simp; omega)) ?_); intro v1 w4 hown1 hb1)
      have R := Bx.mk (And.intro hown1 (HB.out.trans hb1))
      clear hown1 hb1
      go_wp2_with fail
      go_roundw
      case rel => exact ⟨j + 1, by omega, by go_num, by rw [HNX.out]; exact R.out.1, R.out.2⟩
      case measure => simp [intOf]; omega
    · have hke : j = k := by omega
      have HLL : Bx (evL n k j = evL n k k) := ⟨by rw [hke]⟩
      have hji : ¬ (j : Int) < (k : Int) := by omega
      obtain ⟨A1, c1, rfl, io1⟩ := hrow.io (by omega)
      have HI := Bx.mk io1.reads
      obtain ⟨L, hL⟩ : ∃ L, L = evL n k j := ⟨_, rfl⟩
      have HLS : Bx (selTo (memB L) n = L) := ⟨by rw [hL, HLL.out]; exact HSE.out⟩
      have HLE : Bx (L = evL n k k) := ⟨by rw [hL]; exact HLL.out⟩
      rw [← hL] at HI hlen ⊢
      replace R0 := R0.below hbb hwB
      have bw2 := bw1.trans (hbb.mono (by omega))
      clear hrow hbb io1 hke hL HLL
      go_wp2_with fail
      refine (l02Of_any _ _ _ _ _ hn1 hn HI.out).mono ?_
      rw [HLS.out]
      rintro e w2 ⟨A2, c2, rfl, io, b⟩
      have bs := b.size
      replace R0 := R0.below b (by omega)
      have bw3 := bw2.trans (b.mono (by omega))
      have cr0 := R0.at_ (i := 0) rfl
      have cr1 := R0.at_ (i := 1) rfl
      have fr0 := R0.frozen 0
      have fr1 := R0.frozen 1
      have RF := Bx.mk ((R0.set 0 (.int .i64 n)).set 1 (.slice A2 L.length c2))
      have BF := Bx.mk ((bw3.setCell (p := ⟨w.heap.size, 0, none⟩) (show w.heap.size ≤ w.heap.size by omega) (.int .i64 n)).setCell (p := ⟨w.heap.size, 1, none⟩) (show w.heap.size ≤ w.heap.size by omega) (.slice A2 L.length c2))
      have HIO := Bx.mk (((io.setLow (p := ⟨w.heap.size, 0, none⟩) (show w.heap.size < wr.heap.size by omega) (.int .i64 n)).setLow (p := ⟨w.heap.size, 1, none⟩) (show w.heap.size < wr.heap.size by omega) (.slice A2 L.length c2)).mono (show w.heap.size ≤ wr.heap.size by omega))
      clear R0 io b bw2 bw3
      go_wp2_with fail
      refine bodyPost_ret (v := .agg #[.int .i64 n, .slice A2 L.length c2]) (by simp [results, Tryz.results51, go_sem, RF.out.at_ (i := 0) rfl, RF.out.at_ (i := 1) rfl]) rfl ?_
      rw [← HLE.out]
      exact ⟨A2, c2, rfl, HIO.out, BF.out⟩
theorem l06Even_any (n k : Nat) (hn1 : 1 ≤ n) (hn : n ≤ 24) (hk : k ≤ n) (w : World) :
    Calls Tryz.prog 51 #[.int .i64 k, .int .i64 n, .int .i64 0] w (GivesRh w n (evL n k k)) := by
  by_cases h : k = 0
  · subst h
    exact l06Even_z n hn1 hn w
  · exact l06Even_p n k hn1 hn (by omega) hk w
end Go.Proofs.YtikifkbgmniobaaGreat
