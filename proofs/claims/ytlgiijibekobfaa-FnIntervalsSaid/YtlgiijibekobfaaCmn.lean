/- The code of a rhythm and the beats that two have in common: both sides. -/
import Derived.Test.YtlgiijibekobfaaCmnPlain
import Derived.Test.YtlgiijibekobfaaOnes
import Derived.Test.YtlgiijibekobfaaBas
import Derived.Deep.RegionHeld3
import Derived.Deep.DeepCutAuto
import Derived.Deep.RegionWith
namespace Go.Proofs.Ytlgiijibekobfaa
open Go.RowKit

theorem pow_small : ∀ q : Nat, q < 24 → 2 ^ q ≤ 8388608 := by decide
theorem take_snoc {xs : List Int} {j : Nat} (hj : j < xs.length) : xs.take (j + 1) = xs.take j ++ [xs[j]?.getD 0] := by
  rw [List.take_add_one, List.getElem?_eq_getElem hj]; rfl
set_option maxHeartbeats 1000000 in
theorem codeN_any (n : Nat) (A : Option Addr) (c : Nat) (xs : List Int) (w : World) (hn1 : 1 ≤ n) (hn : n ≤ 24) (hb : ∀ x ∈ xs, 0 ≤ x ∧ x < n) (hl : xs.length ≤ 1000) (hx : IR w A xs) :
    Calls Try.prog 96 #[.agg #[.int .i64 n, .slice A xs.length c]] w fun e w' => e = .returned (.int .i64 (codeN n xs : Nat)) ∧ Below w.heap.size w w' := by
  obtain ⟨W0, hW0⟩ : ∃ W0, W0 = w.alloc (.cells #[.int .i64 n, .slice A xs.length c] 30) := ⟨_, rfl⟩
  have bw : Below w.heap.size w W0 := by rw [hW0]; exact below_alloc _ _
  have k0 : W0.cell? ⟨w.heap.size, 0, none⟩ = some (.int .i64 n) := by rw [hW0]; simp [go_sem]
  have k1 : W0.cell? ⟨w.heap.size, 1, none⟩ = some (.slice A xs.length c) := by rw [hW0]; simp [go_sem]
  have HX := Bx.mk (hx.below bw)
  have HMB : Bx (∀ i, i < xs.length → 0 ≤ xs[i]?.getD 0 ∧ xs[i]?.getD 0 < n) := ⟨fun i hi => by rw [List.getElem?_eq_getElem hi]; exact hb _ (List.getElem_mem hi)⟩
  clear hx hb
  go_enter Try.func96, Try.ntmps96
  go_wp2_with fail
  rw [← hW0]
  clear hW0
  go_loopw [3, 9] (fun a i wr => ∃ j : Nat, j ≤ xs.length ∧ i = .int .i64 j ∧ a = .int .i64 (codeN n (xs.take j) : Nat) ∧ wr = W0) (fun _ i _ => xs.length - (intOf i).toNat)
  case atStart => exact ⟨0, by omega, rfl, by simp [codeN], rfl⟩
  case round =>
    obtain ⟨j, hj, rfl, rfl, rfl⟩ := hrel
    by_cases hlt : j < xs.length
    · have hji : (j : Int) < (xs.length : Int) := by omega
      obtain ⟨b, o, rfl, hbk, hc⟩ := HX.out.at_ (by omega)
      have cj := hc j hlt
      obtain ⟨hx1, hx2⟩ := HMB.out j hlt
      have HN : Bx (codeN n (xs.take (j + 1)) = codeN n (xs.take j) ||| 2 ^ (n - 1 - (xs[j]?.getD 0).toNat)) := ⟨by rw [take_snoc hlt, codeN_snoc]⟩
      obtain ⟨x, hxe⟩ : ∃ x, x = xs[j]?.getD 0 := ⟨_, rfl⟩
      rw [← hxe] at cj hx1 hx2 HN
      obtain ⟨q, hq⟩ : ∃ q, q = n - 1 - x.toNat := ⟨_, rfl⟩
      have hqi : (n : Int) - 1 - x = (q : Int) := by omega
      have hqb : q < 24 := by omega
      obtain ⟨m, hm⟩ : ∃ m : Nat, m = 2 ^ q := ⟨_, rfl⟩
      have hmb : m ≤ 8388608 := by rw [hm]; exact pow_small q hqb
      have hsh : wrap64 ((2 : Int) ^ q) = (m : Int) := by rw [hm]; exact wrap_pow (by omega)
      have hab := codeN_lt hn (xs.take j)
      obtain ⟨a, ha⟩ : ∃ a, a = codeN n (xs.take j) := ⟨_, rfl⟩
      rw [← ha] at hab HN ⊢
      rw [← hq, ← hm] at HN
      have hor : bits .or .i64 (a : Int) (m : Int) = ((a ||| m : Nat) : Int) := i64_or a m (Nat.lt_of_lt_of_le hab (by decide)) (Nat.lt_of_le_of_lt hmb (by decide))
      have hw1 : IntKind.i64.wrap ((n : Int) - 1) = (n : Int) - 1 := IntWalk.i64_in _ (by omega)
      have hw2 : IntKind.i64.wrap ((n : Int) - 1 - x) = (q : Int) := (IntWalk.i64_in _ (by omega)).trans hqi
      obtain ⟨r, hr⟩ : ∃ r, r = a ||| m := ⟨_, rfl⟩
      rw [← hr] at hor HN
      clear hc hxe hq hm ha hr
      go_wp2_with fail
      go_roundw
      case rel => exact ⟨j + 1, by omega, by go_num, by rw [HN.out], by first | rfl | trivial⟩
      case measure => simp [intOf]; omega
    · have HR : Bx (codeN n xs = codeN n (xs.take j)) := ⟨by rw [List.take_of_length_le (by omega)]⟩
      have hji : ¬ (j : Int) < (xs.length : Int) := by omega
      go_wp2_with fail
      go_ret
      exact ⟨by rw [HR.out] <;> rfl, bw⟩
set_option maxHeartbeats 1000000 in
set_option maxRecDepth 20000 in
theorem common_any (n : Nat) (A B : Option Addr) (c d : Nat) (xs ys : List Int) (w : World) (hox : rhOk n xs = true) (hoy : rhOk n ys = true) (hx : IR w A xs) (hy : IR w B ys) :
    Calls Try.prog 86 #[.agg #[.int .i64 n, .slice A xs.length c], .agg #[.int .i64 n, .slice B ys.length d]] w fun e w' => e = .returned (.int .i64 (cmN xs ys : Nat)) ∧ Below w.heap.size w w' := by
  obtain ⟨⟨hn1, hn2⟩, hbx, hax⟩ := rhOk_iff.1 hox
  obtain ⟨_, hby, _⟩ := rhOk_iff.1 hoy
  have hn24 : n ≤ 24 := by omega
  have HCM := Bx.mk (codes_common hn24 hby xs hbx hax)
  obtain ⟨a, ha⟩ : ∃ a, a = codeN n xs := ⟨_, rfl⟩
  obtain ⟨b, hb⟩ : ∃ b, b = codeN n ys := ⟨_, rfl⟩
  have hab : a < 16777216 := by rw [ha]; exact codeN_lt hn24 xs
  have hbb : b < 16777216 := by rw [hb]; exact codeN_lt hn24 ys
  have HA : Bx (∀ c W, IR W A xs → Calls Try.prog 96 #[.agg #[.int .i64 n, .slice A xs.length c]] W fun e w' => e = .returned (.int .i64 (a : Nat)) ∧ Below W.heap.size W w') := ⟨fun c W h => by rw [ha]; exact codeN_any n A c xs W (by omega) hn24 hbx (by have := (rhOk_len hox).1; omega) h⟩
  have HB : Bx (∀ c W, IR W B ys → Calls Try.prog 96 #[.agg #[.int .i64 n, .slice B ys.length c]] W fun e w' => e = .returned (.int .i64 (b : Nat)) ∧ Below W.heap.size W w') := ⟨fun c W h => by rw [hb]; exact codeN_any n B c ys W (by omega) hn24 hby (by have := (rhOk_len hoy).1; omega) h⟩
  rw [← ha, ← hb] at HCM
  obtain ⟨m, hm⟩ : ∃ m, m = a &&& b := ⟨_, rfl⟩
  have hmb : m < 16777216 := by rw [hm]; exact Nat.lt_of_le_of_lt Nat.and_le_left hab
  have hand : bits .and .i64 (a : Int) (b : Int) = (m : Int) := by rw [hm]; exact i64_and a b (by omega) (by omega)
  have hcv : IntKind.u64.wrap (m : Int) = (m : Int) := u64w m (by omega)
  rw [← hm] at HCM
  have HO : Bx (∀ W, Calls Try.prog 57 #[.int .u64 (m : Int)] W fun e w' => e = .returned (.int .i64 ((cmN xs ys : Nat) : Int)) ∧ W = w') := ⟨fun W => by rw [← HCM.out]; exact ones_any (m : Int) (by omega) (by omega) W⟩
  clear ha hb hbx hby hax hox hoy hm
  obtain ⟨W0, hW0⟩ : ∃ W0, W0 = (w.alloc (.cells #[.int .i64 n, .slice A xs.length c] 30)).alloc (.cells #[.int .i64 n, .slice B ys.length d] 30) := ⟨_, rfl⟩
  have bw : Below w.heap.size w W0 := by rw [hW0]; exact (below_alloc _ _).alloc (by simp) _
  have hz : w.heap.size + 2 ≤ W0.heap.size := by rw [hW0]; simp
  have k0 : W0.cell? ⟨w.heap.size, 0, none⟩ = some (.int .i64 n) := by rw [hW0]; simp [go_sem]
  have k1 : W0.cell? ⟨w.heap.size, 1, none⟩ = some (.slice A xs.length c) := by rw [hW0]; simp [go_sem]
  have k2 : W0.cell? ⟨w.heap.size + 1, 0, none⟩ = some (.int .i64 n) := by rw [hW0]; simp [go_sem]
  have k3 : W0.cell? ⟨w.heap.size + 1, 1, none⟩ = some (.slice B ys.length d) := by rw [hW0]; simp [go_sem]
  have HX := Bx.mk (hx.below bw)
  have HY := Bx.mk (hy.below bw)
  clear hx hy
  go_enter Try.func86, Try.ntmps86
  go_upto_region 1 with (fail)
  rw [← hW0]
  clear hW0
  have hB0 : Bx (Below W0.heap.size W0 W0) := ⟨Below.refl _ _⟩
  have hBd : Bx (Below W0.heap.size W0 W0.drew) := ⟨(Below.refl _ _).drew⟩
  go_cut [4] (fun sv wx => sv = .int .i64 ((cmN xs ys : Nat) : Int) ∧ Bx (Below W0.heap.size W0 wx))
  case first =>
    go_region_held3 (fun w' => w'.cell? ⟨w.heap.size, 0, none⟩ = some (.int .i64 n) ∧ w'.cell? ⟨w.heap.size, 1, none⟩ = some (.slice A xs.length c) ∧ w'.cell? ⟨w.heap.size + 1, 0, none⟩ = some (.int .i64 n) ∧ w'.cell? ⟨w.heap.size + 1, 1, none⟩ = some (.slice B ys.length d) ∧ Bx (Below W0.heap.size W0 w'))
      ((refine (fun (hK : Bx (Below W0.heap.size W0 _)) => ⟨((bcell hK.out).1 _ _ (by omega)).trans k0, ((bcell hK.out).1 _ _ (by omega)).trans k1, ((bcell hK.out).1 _ _ (by omega)).trans k2, ((bcell hK.out).1 _ _ (by omega)).trans k3, hK⟩) ?_; first | assumption | exact bx_drew (by assumption)))
      (first
        | (go_at_call_of 96 (Value.agg #[Value.int IntKind.i64 (n : Int), Value.slice A xs.length c]); refine (HA.out _ _ (HX.out.below (Bx.out (by assumption)))).mono ?_; rintro e w2 ⟨rfl, b2⟩; have hBw2 : Bx (Below W0.heap.size W0 w2) := bx_to (by assumption) b2; clear b2; try clear hB0 hBd)
        | (go_at_call_of 96 (Value.agg #[Value.int IntKind.i64 (n : Int), Value.slice B ys.length d]); refine (HB.out _ _ (HY.out.below (Bx.out (by assumption)))).mono ?_; rintro e w2 ⟨rfl, b2⟩; have hBw2 : Bx (Below W0.heap.size W0 w2) := bx_to (by assumption) b2; clear b2; try clear hB0 hBd)
        | (go_at_call 57; refine (HO.out _).mono ?_; rintro e w2 ⟨rfl, rfl⟩))
    all_goals (go_wp2_with fail; go_meet)
    all_goals exact ⟨rfl, by assumption⟩
  case rest =>
    obtain ⟨rfl, HBX⟩ := hcut
    have HBF := Bx.mk (bw.trans (HBX.out.mono bw.size))
    go_wp2_with fail
    go_ret
    exact ⟨rfl, HBF.out⟩
end Go.Proofs.Ytlgiijibekobfaa
