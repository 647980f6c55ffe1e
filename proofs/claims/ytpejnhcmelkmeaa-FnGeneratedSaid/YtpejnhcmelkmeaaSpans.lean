/- The sums of some steps of a rhythm, and their sizes: both sides. -/
import Derived.Test.YtpejnhcmelkmeaaSizes
import Derived.Test.YtpejnhcmelkmeaaSteps
import Derived.Test.YtpejnhcmelkmeaaSizesT
import Derived.Test.YtpejnhcmelkmeaaBas
namespace Go.Proofs.Ytpejnhcmelkmeaa
open Go.RowKit

def spanAt (L : List Int) (i k : Nat) : Int := ((List.range k).map fun j => L[(i + j) % L.length]?.getD 0).sum
theorem spanAt_zero (L : List Int) (i : Nat) : spanAt L i 0 = 0 := rfl
theorem spanAt_succ (L : List Int) (i k : Nat) : spanAt L i (k + 1) = spanAt L i k + L[(i + k) % L.length]?.getD 0 := by
  unfold spanAt; rw [List.range_succ, List.map_append, List.sum_append]; simp
theorem spanAt_bd {L : List Int} (h : ∀ x ∈ L, -24 ≤ x ∧ x ≤ 48) (i : Nat) : ∀ k : Nat, -(24 * (k : Int)) ≤ spanAt L i k ∧ spanAt L i k ≤ 48 * (k : Int) := by
  intro k
  induction k with
  | zero => simp [spanAt_zero]
  | succ k ih =>
    rw [spanAt_succ]
    have hx : -24 ≤ L[(i + k) % L.length]?.getD 0 ∧ L[(i + k) % L.length]?.getD 0 ≤ 48 := by
      by_cases hl : (i + k) % L.length < L.length
      · rw [List.getElem?_eq_getElem hl]; exact h _ (List.getElem_mem hl)
      · rw [List.getElem?_eq_none (by omega)]; simp
    omega
def spansTo (L : List Int) (k : Nat) (j : Nat) : List Int := (List.range j).map fun i => spanAt L i k
theorem spansTo_len (L : List Int) (k j : Nat) : (spansTo L k j).length = j := by simp [spansTo]
theorem spansTo_succ (L : List Int) (k j : Nat) : spansTo L k (j + 1) = spansTo L k j ++ [spanAt L j k] := by simp [spansTo, List.range_succ]
theorem spansTo_bd {L : List Int} (h : ∀ x ∈ L, -24 ≤ x ∧ x ≤ 48) {k : Nat} (hk : k ≤ 24) {j : Nat} : ∀ x ∈ spansTo L k j, -1152 ≤ x ∧ x ≤ 1152 := by
  intro x hx
  unfold spansTo at hx
  obtain ⟨i, _, rfl⟩ := List.mem_map.1 hx
  have := spanAt_bd h i k
  omega
def spanSz (s : Int) (xs : List Int) (k : Int) : List Int :=
  if 0 < (stepsR s xs).length ∧ 0 ≤ k ∧ k ≤ (stepsR s xs).length then coll (spansTo (stepsR s xs) k.toNat (stepsR s xs).length) else []
theorem spanSz_len (s : Int) (xs : List Int) (k : Int) : (spanSz s xs k).length ≤ 24 := by
  unfold spanSz
  split
  · have := coll_len (spansTo (stepsR s xs) k.toNat (stepsR s xs).length)
    rw [spansTo_len] at this
    have := stepsR_len s xs
    omega
  · simp
theorem spanSz_bd {s : Int} {xs : List Int} {k : Int} : ∀ x ∈ spanSz s xs k, -1152 ≤ x ∧ x ≤ 1152 := by
  unfold spanSz
  split
  · rename_i h
    have := stepsR_len s xs
    exact coll_bd (spansTo_bd stepsR_bd (by omega))
  · simp
theorem spanSz_pos {s : Int} {xs : List Int} {k : Nat} (h : rhOk s xs = true) (hx : 0 < xs.length) (hk : k ≤ xs.length) : 0 < (spanSz s xs k).length := by
  have hl : (stepsR s xs).length = xs.length := by simp [stepsR, h, stepsTo_len]
  unfold spanSz
  rw [if_pos (by rw [hl]; omega)]
  exact coll_pos (by rw [spansTo_len, hl]; exact hx)
set_option maxHeartbeats 1000000 in
theorem spanOf_any (A : Option Addr) (c : Nat) (L : List Int) (i k : Nat) (w : World) (hb : ∀ x ∈ L, -24 ≤ x ∧ x ≤ 48) (hll : L.length ≤ 24) (hi : i < L.length) (hk : k ≤ L.length) (hx : IR w A L) :
    Calls Try.prog 48 #[.slice A L.length c, .int .i64 i, .int .i64 k] w fun e w' => e = .returned (.int .i64 (spanAt L i k)) ∧ w = w' := by
  obtain ⟨b, o, rfl, hbk, hc⟩ := hx.at_ (by omega)
  have HC := Bx.mk hc
  have HBD := Bx.mk (fun k => spanAt_bd hb i k)
  have HXB : Bx (∀ m, m < L.length → -24 ≤ L[m]?.getD 0 ∧ L[m]?.getD 0 ≤ 48) := ⟨fun m hm => by rw [List.getElem?_eq_getElem hm]; exact hb _ (List.getElem_mem hm)⟩
  clear hc hb hx
  go_enter Try.func48, Try.ntmps48
  go_wp2_with fail
  go_loopw [7, 10] (fun v x wr => ∃ j : Nat, j ≤ k ∧ x = .int .i64 j ∧ v = .int .i64 (spanAt L i j) ∧ wr = w) (fun _ x _ => k - (intOf x).toNat)
  case atStart => exact ⟨0, by omega, rfl, rfl, rfl⟩
  case round =>
    obtain ⟨j, hj, rfl, rfl, rfl⟩ := hrel
    by_cases hlt : j < k
    · have hji : (j : Int) < (k : Int) := by omega
      obtain ⟨m, hm⟩ : ∃ m, m = (i + j) % L.length := ⟨_, rfl⟩
      have hml : m < L.length := by rw [hm]; exact Nat.mod_lt _ (by omega)
      have hmi : (m : Int) < (L.length : Int) := by omega
      have hmod : ((i : Int) + (j : Int)).tmod (L.length : Int) = (m : Int) := by
        rw [hm, Int.tmod_eq_emod_of_nonneg (by omega), Int.natCast_emod, Int.natCast_add]
      have hsum : IntKind.i64.wrap ((i : Int) + (j : Int)) = (i : Int) + (j : Int) := IntWalk.i64_in _ (by omega)
      have cm := HC.out m hml
      obtain ⟨h1, h2⟩ := HXB.out m hml
      obtain ⟨h3, h4⟩ := HBD.out j
      have HN : Bx (spanAt L i (j + 1) = spanAt L i j + L[m]?.getD 0) := ⟨by rw [spanAt_succ, ← hm]⟩
      obtain ⟨x, hx⟩ : ∃ x, x = L[m]?.getD 0 := ⟨_, rfl⟩
      obtain ⟨y, hy⟩ : ∃ y, y = spanAt L i j := ⟨_, rfl⟩
      rw [← hx] at cm h1 h2 HN
      rw [← hy] at h3 h4 HN ⊢
      clear hx hy hm
      have hadd : IntKind.i64.wrap (y + x) = y + x := IntWalk.i64_in _ (by omega)
      go_wp2_with fail
      go_roundw
      case rel => exact ⟨j + 1, by omega, by go_num, by rw [HN.out], by first | rfl | trivial⟩
      case measure => simp [intOf]; omega
    · have hke : j = k := by omega
      subst hke
      go_wp2_with fail
      go_ret
      exact ⟨rfl, rfl⟩
set_option maxHeartbeats 2000000 in
theorem implSpanSizes_any (s : Int) (A : Option Addr) (c : Nat) (xs : List Int) (k : Int) (w : World) (hs : -9223372036854775808 ≤ s ∧ s ≤ 9223372036854775807) (hx : IR w A xs) :
    Calls Try.prog 37 #[.agg #[.int .i64 s, .slice A xs.length c], .int .i64 k] w (GivesInts w (spanSz s xs k)) := by
  obtain ⟨W0, hW0⟩ : ∃ W0, W0 = w.alloc (.cells #[.int .i64 s, .slice A xs.length c] 26) := ⟨_, rfl⟩
  have bw : Below w.heap.size w W0 := by rw [hW0]; exact below_alloc _ _
  have hz : w.heap.size < W0.heap.size := by rw [hW0]; simp
  have k0 : W0.cell? ⟨w.heap.size, 0, none⟩ = some (.int .i64 s) := by rw [hW0]; simp [go_sem]
  have k1 : W0.cell? ⟨w.heap.size, 1, none⟩ = some (.slice A xs.length c) := by rw [hW0]; simp [go_sem]
  have HX := Bx.mk ((RB.of_ir hx).below bw (Nat.le_refl _))
  have HS := Bx.mk hs
  clear hx hs
  have hsl := stepsR_len s xs
  have HBD := Bx.mk (stepsR_bd (s := s) (xs := xs))
  obtain ⟨L, hL⟩ : ∃ L, L = stepsR s xs := ⟨_, rfl⟩
  have HR : Bx (spanSz s xs k = if 0 < L.length ∧ 0 ≤ k ∧ k ≤ L.length then coll (spansTo L k.toNat L.length) else []) := ⟨by rw [hL]; rfl⟩
  have HST : Bx (∀ c W, IR W A xs → Calls Try.prog 39 #[.agg #[.int .i64 s, .slice A xs.length c]] W (GivesRow W L)) := ⟨fun c W h => by rw [hL]; exact implSteps_any s A c xs W HS.out h⟩
  rw [← hL] at hsl HBD
  clear hL
  go_enter Try.func37, Try.ntmps37
  go_wp2_with fail
  rw [← hW0]
  clear hW0
  refine (HST.out _ _ (by exact HX.out.ir)).mono ?_
  rintro e w1 ⟨v, rfl, hr, b⟩
  obtain ⟨A1, c1, rfl, io⟩ := hr.io (by omega)
  have hb := b.size
  have HI := Bx.mk ((RB.of_ir io.reads))
  replace bw := bw.trans (b.mono bw.size)
  clear hr b io k0 k1 HX HST
  by_cases h0 : L.length = 0
  · have HR2 : Bx (spanSz s xs k = []) := ⟨by rw [HR.out, if_neg (by omega)]⟩
    have h0b : (((L.length : Int) == 0)) = true := by rw [beq_iff_eq]; omega
    clear h0
    go_wp2_with fail
    go_ret
    exact ⟨none, 0, by rw [HR2.out]; rfl, by rw [HR2.out]; exact IO.nil _ _, bw⟩
  · have hne : (((L.length : Int) == 0)) = false := by rw [beq_eq_false_iff_ne]; omega
    by_cases hk : inB k 0 L.length = true
    · have hkb := inB_iff.1 hk
      have HR2 : Bx (spanSz s xs k = coll (spansTo L k.toNat L.length)) := ⟨by rw [HR.out, if_pos (by omega)]⟩
      obtain ⟨kn, hkn⟩ := Int.eq_ofNat_of_zero_le (show 0 ≤ k by omega)
      subst hkn
      rw [Int.toNat_natCast] at HR2
      have hkl : kn ≤ L.length := by omega
      clear hkb HR
      go_wp2_with (go_at_call 25; refine (within_any _ _ _ _).mono ?_; rintro e w' ⟨rfl, rfl⟩)
      clear hk hne
      have HRW := Bx.mk (Row.nil w1 w1.heap.size)
      obtain ⟨W1, hW1⟩ : ∃ W1, W1 = w1 := ⟨_, rfl⟩
      obtain ⟨BB, hBB⟩ : ∃ BB, BB = w1.heap.size := ⟨_, rfl⟩
      rw [← hBB] at HRW HI
      rw [← hW1] at HRW HI bw ⊢
      have hBB1 : BB ≤ W1.heap.size := by rw [hW1]; omega
      have hwB : w.heap.size ≤ BB := by omega
      clear hBB hW1
      go_loopw [6, 22] (fun v i wr => ∃ j : Nat, j ≤ L.length ∧ i = .int .i64 j ∧ Row wr BB v (spansTo L kn j) ∧ Below BB W1 wr) (fun _ i _ => L.length - (intOf i).toNat)
      case atStart => exact ⟨0, by omega, rfl, HRW.out, Below.refl _ _⟩
      case round =>
        obtain ⟨j, hj, rfl, hrow, hbb⟩ := hrel
        clear HRW
        have hlen : (spansTo L kn j).length ≤ 24 := by rw [spansTo_len]; omega
        have hzs := hbb.size
        have hzr : BB ≤ wr.heap.size := by omega
        have HIr := Bx.mk (HI.out.below hbb (Nat.le_refl _)).ir
        have HO := Bx.mk hrow
        have HB := Bx.mk hbb
        clear hrow hbb
        by_cases hlt : j < L.length
        · have hji : (j : Int) < (L.length : Int) := by omega
          have HN := Bx.mk (spansTo_succ L kn j)
          obtain ⟨z, hz⟩ : ∃ z, z = spanAt L j kn := ⟨_, rfl⟩
          have HSP : Bx (∀ c W, IR W A1 L → Calls Try.prog 48 #[.slice A1 L.length c, .int .i64 j, .int .i64 kn] W fun e w' => e = .returned (.int .i64 z) ∧ W = w') := ⟨fun c W h => by rw [hz]; exact spanOf_any A1 c L j kn W HBD.out hsl hlt hkl h⟩
          rw [← hz] at HN
          clear hz
          go_wp2_with fail
          refine (HSP.out _ _ HIr.out).mono ?_
          rintro e w5 ⟨rfl, rfl⟩
          go_wp2_with (at_builtin; go_must (refine wpList_app1 rfl _ _ rfl BB _ (spansTo L kn j) z rfl rfl (by exact HO.out) (by omega) (by exact hzr) ?_); intro v1 w4 hown1 hb1)
          have R := Bx.mk (And.intro hown1 (HB.out.trans hb1))
          clear hown1 hb1
          go_wp2_with fail
          go_roundw
          case rel => exact ⟨j + 1, by omega, by go_num, by rw [HN.out]; exact R.out.1, R.out.2⟩
          case measure => simp [intOf]; omega
        · have hke : j = L.length := by omega
          have HSB := Bx.mk (spansTo_bd (k := kn) (j := L.length) HBD.out (by omega))
          obtain ⟨S, hS⟩ : ∃ S, S = spansTo L kn j := ⟨_, rfl⟩
          have HRS : Bx (spanSz s xs kn = coll S) := ⟨by rw [HR2.out, hS, hke]⟩
          rw [hke] at hS
          rw [← hS] at HSB
          rw [hke] at HO hlen
          rw [← hS] at HO hlen
          clear hS hke
          have HF := Bx.mk (bw.trans (HB.out.mono (by omega)))
          go_wp2_with fail
          refine (collected_row _ _ _ _ HO.out (by omega)).mono ?_
          rintro e w6 ⟨A6, c6, rfl, io, b⟩
          have HIO : Bx (IO w6 w.heap.size A6 c6 (coll S)) := ⟨io.mono (by omega)⟩
          have HFF := Bx.mk (HF.out.trans (b.mono (by omega)))
          clear io b
          go_wp2_with fail
          go_ret
          rw [HRS.out]
          exact ⟨A6, c6, rfl, HIO.out, HFF.out⟩
    · have HR2 : Bx (spanSz s xs k = []) := ⟨by rw [HR.out, if_neg (by rw [inB_iff] at hk; omega)]⟩
      rw [Bool.not_eq_true] at hk
      go_wp2_with (go_at_call 25; refine (within_any _ _ _ _).mono ?_; rintro e w' ⟨rfl, rfl⟩)
      go_ret
      exact ⟨none, 0, by rw [HR2.out]; rfl, by rw [HR2.out]; exact IO.nil _ _, bw⟩
end Go.Proofs.Ytpejnhcmelkmeaa
