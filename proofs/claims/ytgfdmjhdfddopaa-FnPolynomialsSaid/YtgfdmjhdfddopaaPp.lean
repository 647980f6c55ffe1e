/- The prime powers among the orders; the first condition. -/
import Derived.Test.YtgfdmjhdfddopaaOrd
import Derived.Test.YtgfdmjhdfddopaaDvs
import Derived.Test.YtgfdmjhdfddopaaPrimeOf
import Derived.Test.YtgfdmjhdfddopaaBas
import Derived.Test.YtgfdmjhdfddopaaTls
namespace Go.Proofs.Ytgfdmjhdfddopaa
open Go.RowKit
set_option maxRecDepth 20000

def ppP (d : Int) : Bool := primeI d == 0
def ppI (s : Int) (xs : List Int) : List Int := (ordI s xs).filter (qn ppP)
theorem ppI_len (s : Int) (xs : List Int) : (ppI s xs).length ≤ 24 := Nat.le_trans (List.length_filter_le _ _) (ordI_len s xs)
def prodTo (l : List Int) : Nat → Int
  | 0 => 1
  | k + 1 => IntKind.i64.wrap (prodTo l k * primeI (l[k]?.getD 0))
theorem prodTo_step {l : List Int} {k : Nat} {x : Int} (h : l[k]? = some x) : prodTo l (k + 1) = IntKind.i64.wrap (prodTo l k * primeI x) := by simp [prodTo, h]
def mfI (s : Int) (xs : List Int) : Bool := rhOk s xs && (prodTo (ppI s xs) (ppI s xs).length == (xs.length : Int))
theorem ftake_hit {q : Int → Bool} {L : List Int} {k : Nat} {x : Int} (h : L[k]? = some x) (hq : q x = true) : (L.take (k + 1)).filter q = (L.take k).filter q ++ [x] := by
  rw [List.take_add_one, h, List.filter_append]; simp [hq]
theorem ftake_miss {q : Int → Bool} {L : List Int} {k : Nat} {x : Int} (h : L[k]? = some x) (hq : q x = false) : (L.take (k + 1)).filter q = (L.take k).filter q := by
  rw [List.take_add_one, h, List.filter_append]; simp [hq]
theorem ftake_len (q : Int → Bool) (L : List Int) (k : Nat) : ((L.take k).filter q).length ≤ L.length := Nat.le_trans (List.length_filter_le _ _) (by rw [List.length_take]; omega)
theorem primeI_nn (n : Int) : 0 ≤ primeI n := by
  unfold primeI
  split
  · rename_i h
    obtain ⟨p, hp⟩ := lp_exists n h.1
    obtain ⟨t, ht⟩ := divs_two n p hp h.2
    rw [ht]
    have := hp.two
    simp only [List.getElem?_cons_succ, List.getElem?_cons_zero, Option.getD_some]
    split <;> omega
  · omega
set_option maxHeartbeats 400000 in
theorem closP (x : Int) (w : World) :
    Calls Try.prog 39 #[.int .i64 x] w fun e w' => e = .returned (.bool (ppP x)) ∧ Below w.heap.size w w' := by
  obtain ⟨y, hy⟩ : ∃ y, y = primeI x := ⟨_, rfl⟩
  have HR : Bx (ppP x = (y == 0)) := ⟨by rw [hy]; rfl⟩
  go_enter Try.func39, Try.ntmps39
  go_wp2_with fail
  refine (implPrimeOf_any _ _).mono ?_
  rw [← hy]
  rintro e w1 ⟨rfl, b⟩
  clear hy
  go_wp2_with fail
  go_ret
  exact ⟨ret_bool HR.out.symm, b⟩
set_option maxHeartbeats 1000000 in
theorem implPp_any (s : Int) (A : Option Addr) (c : Nat) (xs : List Int) (w : World) (hs : -9223372036854775808 ≤ s ∧ s ≤ 9223372036854775807) (hx : IR w A xs) :
    Calls Try.prog 14 #[.agg #[.int .i64 s, .slice A xs.length c]] w (GivesInts w (ppI s xs)) := by
  obtain ⟨W0, hW0⟩ : ∃ W0, W0 = w.alloc (.cells #[.int .i64 s, .slice A xs.length c] 25) := ⟨_, rfl⟩
  have bw : Below w.heap.size w W0 := by rw [hW0]; exact below_alloc _ _
  have hz : w.heap.size < W0.heap.size := by rw [hW0]; simp
  have k0 : W0.cell? ⟨w.heap.size, 0, none⟩ = some (.int .i64 s) := by rw [hW0]; simp [go_sem]
  have k1 : W0.cell? ⟨w.heap.size, 1, none⟩ = some (.slice A xs.length c) := by rw [hW0]; simp [go_sem]
  have HX := Bx.mk ((RB.of_ir hx).below bw (Nat.le_refl _))
  have HS := Bx.mk hs
  clear hx hs
  have HR : Bx (ppI s xs = (ordI s xs).filter (qn ppP)) := ⟨rfl⟩
  go_enter Try.func14, Try.ntmps14
  go_wp2_with fail
  rw [← hW0]
  clear hW0
  refine (implOrd_any _ _ _ _ _ HS.out (by exact HX.out.ir)).mono ?_
  rintro e w1 ⟨A1, c1, rfl, io, b⟩
  have hl : (ordI s xs).length ≤ 1000 := Nat.le_trans (ordI_len s xs) (by omega)
  have hz1 := b.size
  have HIO := Bx.mk io
  have BW := Bx.mk bw
  have HB := Bx.mk b
  have HC : Bx (∀ x ∈ ordI s xs, ∀ W, Below W0.heap.size w1 W → Calls Try.prog 39 #[.int .i64 x] W fun e w' => e = .returned (.bool (ppP x)) ∧ Below W.heap.size W w') := ⟨fun x _ W _ => closP x W⟩
  clear b io bw
  go_wp2_with fail
  refine (delDelP ppP W0.heap.size W0.heap.size _ _ _ _ (Nat.le_refl _) (by exact hz1) (by exact hl) (by exact HIO.out) HC).mono ?_
  rintro e w3 ⟨rfl, io3, b3⟩
  have HF := Bx.mk (GivesInts.mono' io3 BW.out (HB.out.trans b3))
  clear b3 io3
  rw [← HR.out] at HF ⊢
  go_wp2_with fail
  go_ret
  exact HF.out
set_option maxHeartbeats 1000000 in
theorem implMf_any (s : Int) (A : Option Addr) (c : Nat) (xs : List Int) (w : World) (hs : -9223372036854775808 ≤ s ∧ s ≤ 9223372036854775807) (hx : IR w A xs) :
    Calls Try.prog 16 #[.agg #[.int .i64 s, .slice A xs.length c]] w fun e w' => e = .returned (.bool (mfI s xs)) ∧ Below w.heap.size w w' := by
  obtain ⟨W0, hW0⟩ : ∃ W0, W0 = w.alloc (.cells #[.int .i64 s, .slice A xs.length c] 25) := ⟨_, rfl⟩
  have bw : Below w.heap.size w W0 := by rw [hW0]; exact below_alloc _ _
  have hz : w.heap.size < W0.heap.size := by rw [hW0]; simp
  have k0 : W0.cell? ⟨w.heap.size, 0, none⟩ = some (.int .i64 s) := by rw [hW0]; simp [go_sem]
  have k1 : W0.cell? ⟨w.heap.size, 1, none⟩ = some (.slice A xs.length c) := by rw [hW0]; simp [go_sem]
  have HX := Bx.mk ((RB.of_ir hx).below bw (Nat.le_refl _))
  have HS := Bx.mk hs
  clear hx hs
  cases h1 : rhOk s xs with
  | false =>
    have HR : Bx (mfI s xs = false) := ⟨by simp [mfI, h1]⟩
    go_enter Try.func16, Try.ntmps16
    go_wp2_with fail
    rw [← hW0]
    clear hW0
    refine (rhOk_is' h1 (implRhythmOk_any _ _ _ _ _ HS.out (by exact HX.out.ir))).mono ?_
    rintro e w1 ⟨rfl, b⟩
    replace k0 := ((bcell b).1 _ _ (by omega)).trans k0
    replace k1 := ((bcell b).1 _ _ (by omega)).trans k1
    replace HX := Bx.mk (HX.out.below b (by omega))
    replace hz := Nat.lt_of_lt_of_le hz b.size
    replace bw := bw.trans (b.mono bw.size)
    clear b
    go_wp2_with fail
    go_ret
    exact ⟨ret_bool HR.out.symm, bw⟩
  | true =>
    go_enter Try.func16, Try.ntmps16
    go_wp2_with fail
    rw [← hW0]
    clear hW0
    refine (rhOk_is' h1 (implRhythmOk_any _ _ _ _ _ HS.out (by exact HX.out.ir))).mono ?_
    rintro e w1 ⟨rfl, b⟩
    replace k0 := ((bcell b).1 _ _ (by omega)).trans k0
    replace k1 := ((bcell b).1 _ _ (by omega)).trans k1
    replace HX := Bx.mk (HX.out.below b (by omega))
    replace hz := Nat.lt_of_lt_of_le hz b.size
    replace bw := bw.trans (b.mono bw.size)
    clear b
    go_wp2_with fail
    refine (implPp_any _ _ _ _ _ HS.out (by exact HX.out.ir)).mono ?_
    rintro e w2 ⟨A2, c2, rfl, io, b⟩
    replace k0 := ((bcell b).1 _ _ (by omega)).trans k0
    replace k1 := ((bcell b).1 _ _ (by omega)).trans k1
    have bw2 := bw.trans (b.mono bw.size)
    have hz2 : w.heap.size < w2.heap.size := Nat.lt_of_lt_of_le hz b.size
    obtain ⟨L, hL⟩ : ∃ L, L = ppI s xs := ⟨_, rfl⟩
    have hll : L.length ≤ 24 := by rw [hL]; exact ppI_len s xs
    have HR : Bx (mfI s xs = (prodTo L L.length == (xs.length : Int))) := ⟨by rw [hL]; simp [mfI, h1]⟩
    rw [← hL] at io ⊢
    have HI := Bx.mk io.reads
    clear hL b io bw hz HX
    go_wp2_with fail
    go_loopw [3, 12] (fun v i wr => ∃ k : Nat, k ≤ L.length ∧ i = .int .i64 k ∧ v = .int .i64 (prodTo L k) ∧ Below w2.heap.size w2 wr) (fun _ i _ => L.length - (intOf i).toNat)
    case atStart => exact ⟨0, by omega, rfl, rfl, Below.refl _ _⟩
    case round =>
      obtain ⟨k, hk, rfl, rfl, hb⟩ := hrel
      have q0 := ((bcell hb).1 _ _ (by omega)).trans k0
      have q1 := ((bcell hb).1 _ _ (by omega)).trans k1
      have hir := HI.out.below hb
      have hzr := hb.size
      obtain ⟨m, hm⟩ : ∃ m, m = prodTo L k := ⟨_, rfl⟩
      rw [← hm]
      have HM := Bx.mk hm
      clear hm
      by_cases hlt : k < L.length
      · obtain ⟨b, o, x, rfl, hbk, c1, H3⟩ := hir.one hlt
        have H4 := Bx.mk H3.out
        clear H3
        have hki : (k : Int) < (L.length : Int) := by omega
        obtain ⟨y, hy⟩ : ∃ y, y = primeI x := ⟨_, rfl⟩
        obtain ⟨z, hzz⟩ : ∃ z, IntKind.i64.wrap (m * y) = z := ⟨_, rfl⟩
        have HN : Bx (prodTo L (k + 1) = z) := ⟨by rw [prodTo_step H4.out, ← HM.out, ← hy, hzz]⟩
        have HB := Bx.mk hb
        clear hb
        go_wp2_with fail
        refine (implPrimeOf_any _ _).mono ?_
        rw [← hy]
        rintro e w3 ⟨rfl, b⟩
        clear hy
        have HB3 := Bx.mk (HB.out.trans (b.mono hzr))
        clear b
        go_wp2_with fail
        go_roundw
        case rel => exact ⟨k + 1, by omega, by go_num, by rw [HN.out], HB3.out⟩
        case measure => simp [intOf]; omega
      · have hkl : k = L.length := by omega
        have HR2 : Bx (mfI s xs = (m == (xs.length : Int))) := ⟨by rw [HR.out, HM.out, hkl]⟩
        have HB := Bx.mk (bw2.trans (hb.mono bw2.size))
        clear hkl
        go_wp2_with fail
        go_ret
        exact ⟨ret_bool HR2.out.symm, HB.out⟩
end Go.Proofs.Ytgfdmjhdfddopaa
