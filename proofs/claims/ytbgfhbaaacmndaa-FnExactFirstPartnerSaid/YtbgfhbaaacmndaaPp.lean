/- The prime powers among the orders; the first condition. -/
import Derived.Test.YtbgfhbaaacmndaaOrd
import Derived.Test.YtbgfhbaaacmndaaDvs
import Derived.Test.YtbgfhbaaacmndaaPrimeOf
import Derived.Test.YtbgfhbaaacmndaaBas
import Derived.Test.YtbgfhbaaacmndaaTls
namespace Go.Proofs.Ytbgfhbaaacmndaa
open Go.RowKit

def ppP (d : Int) : Bool := primeI d == 0
def ppI (s : Int) (xs : List Int) : List Int := (ordI s xs).filter (qn ppP)
theorem ppI_len (s : Int) (xs : List Int) : (ppI s xs).length ≤ 24 := Nat.le_trans (List.length_filter_le _ _) (ordI_len s xs)
def prodTo (l : List Int) : Nat → Int
  | 0 => 1
  | k + 1 => IntKind.i64.wrap (prodTo l k * primeI (l[k]?.getD 0))
theorem prodTo_step {l : List Int} {k : Nat} {x : Int} (h : l[k]? = some x) : prodTo l (k + 1) = IntKind.i64.wrap (prodTo l k * primeI x) := by simp [prodTo, h]
def mfI (s : Int) (xs : List Int) : Bool := rhOk s xs && (prodTo (ppI s xs) (ppI s xs).length == (xs.length : Int))
theorem ftake_hit {q : Int → Bool} {L : List Int} {k : Nat} {x : Int} (h : L[k]? = some x) (hq : q x = true) : (L.take (k + 1)).filter q = (L.take k).filter q ++ [x] := by
  rw [List.take_add_one, h, List.filter_append]; simp [hq]
theorem ftake_miss {q : Int → Bool} {L : List Int} {k : Nat} {x : Int} (h : L[k]? = some x) (hq : q x = false) : (L.take (k + 1)).filter q = (L.take k).filter q := by
  rw [List.take_add_one, h, List.filter_append]; simp [hq]
theorem ftake_len (q : Int → Bool) (L : List Int) (k : Nat) : ((L.take k).filter q).length ≤ L.length := Nat.le_trans (List.length_filter_le _ _) (by rw [List.length_take]; omega)
theorem primeI_nn (n : Int) : 0 ≤ primeI n := by
  unfold primeI
  split
  · rename_i h
    obtain ⟨p, hp⟩ := lp_exists n h.1
    obtain ⟨t, ht⟩ := divs_two n p hp h.2
    rw [ht]
    have := hp.two
    simp only [List.getElem?_cons_succ, List.getElem?_cons_zero, Option.getD_some]
    split <;> omega
  · omega
set_option maxHeartbeats 400000 in
theorem closP (x : Int) (w : World) :
    Calls Try.prog 72 #[.int .i64 x] w fun e w' => e = .returned (.bool (ppP x)) ∧ Below w.heap.size w w' := by
  obtain ⟨y, hy⟩ : ∃ y, y = primeI x := ⟨_, rfl⟩
  have HR : Bx (ppP x = (y == 0)) := ⟨by rw [hy]; rfl⟩
  go_enter Try.func72, Try.ntmps72
  go_wp2_with fail
  refine (implPrimeOf_any _ _).mono ?_
  rw [← hy]
  rintro e w1 ⟨rfl, b⟩
  clear hy
  go_wp2_with fail
  go_ret
  exact ⟨ret_bool HR.out.symm, b⟩
set_option maxHeartbeats 1000000 in
theorem implPp_any (s : Int) (A : Option Addr) (c : Nat) (xs : List Int) (w : World) (hs : -9223372036854775808 ≤ s ∧ s ≤ 9223372036854775807) (hx : IR w A xs) :
    Calls Try.prog 48 #[.agg #[.int .i64 s, .slice A xs.length c]] w (GivesInts w (ppI s xs)) := by
  obtain ⟨W0, hW0⟩ : ∃ W0, W0 = w.alloc (.cells #[.int .i64 s, .slice A xs.length c] 27) := ⟨_, rfl⟩
  have bw : Below w.heap.size w W0 := by rw [hW0]; exact below_alloc _ _
  have hz : w.heap.size < W0.heap.size := by rw [hW0]; simp
  have k0 : W0.cell? ⟨w.heap.size, 0, none⟩ = some (.int .i64 s) := by rw [hW0]; simp [go_sem]
  have k1 : W0.cell? ⟨w.heap.size, 1, none⟩ = some (.slice A xs.length c) := by rw [hW0]; simp [go_sem]
  have HX := Bx.mk ((RB.of_ir hx).below bw (Nat.le_refl _))
  have HS := Bx.mk hs
  clear hx hs
  have HR : Bx (ppI s xs = (ordI s xs).filter (qn ppP)) := ⟨rfl⟩
  go_enter Try.func48, Try.ntmps48
  go_wp2_with fail
  rw [← hW0]
  clear hW0
  refine (implOrd_any _ _ _ _ _ HS.out (by exact HX.out.ir)).mono ?_
  rintro e w1 ⟨A1, c1, rfl, io, b⟩
  have hl : (ordI s xs).length ≤ 1000 := Nat.le_trans (ordI_len s xs) (by omega)
  have hz1 := b.size
  have HIO := Bx.mk io
  have BW := Bx.mk bw
  have HB := Bx.mk b
  have HC : Bx (∀ x ∈ ordI s xs, ∀ W, Below W0.heap.size w1 W → Calls Try.prog 72 #[.int .i64 x] W fun e w' => e = .returned (.bool (ppP x)) ∧ Below W.heap.size W w') := ⟨fun x _ W _ => closP x W⟩
  clear b io bw
  go_wp2_with fail
  refine (delDelP ppP W0.heap.size W0.heap.size _ _ _ _ (Nat.le_refl _) (by exact hz1) (by exact hl) (by exact HIO.out) HC).mono ?_
  rintro e w3 ⟨rfl, io3, b3⟩
  have HF := Bx.mk (GivesInts.mono' io3 BW.out (HB.out.trans b3))
  clear b3 io3
  rw [← HR.out] at HF ⊢
  go_wp2_with fail
  go_ret
  exact HF.out
set_option maxHeartbeats 1000000 in
theorem specPp_any (s : Int) (A : Option Addr) (c : Nat) (xs : List Int) (w : World) (hs : -9223372036854775808 ≤ s ∧ s ≤ 9223372036854775807) (hx : IR w A xs) :
    Calls Try.prog 43 #[.agg #[.int .i64 s, .slice A xs.length c]] w (GivesInts w (ppI s xs)) := by
  obtain ⟨W0, hW0⟩ : ∃ W0, W0 = w.alloc (.cells #[.int .i64 s, .slice A xs.length c] 27) := ⟨_, rfl⟩
  have bw : Below w.heap.size w W0 := by rw [hW0]; exact below_alloc _ _
  have hz : w.heap.size < W0.heap.size := by rw [hW0]; simp
  have k0 : W0.cell? ⟨w.heap.size, 0, none⟩ = some (.int .i64 s) := by rw [hW0]; simp [go_sem]
  have k1 : W0.cell? ⟨w.heap.size, 1, none⟩ = some (.slice A xs.length c) := by rw [hW0]; simp [go_sem]
  have HX := Bx.mk ((RB.of_ir hx).below bw (Nat.le_refl _))
  have HS := Bx.mk hs
  clear hx hs
  cases h1 : rhOk s xs with
  | false =>
    have HR : Bx (ppI s xs = []) := ⟨by simp [ppI, ordI, h1]⟩
    go_enter Try.func43, Try.ntmps43
    go_wp2_with fail
    rw [← hW0]
    clear hW0
    refine (rhOk_is' h1 (specRhythmOk_any _ _ _ _ _ HS.out (by exact HX.out.ir))).mono ?_
    rintro e w1 ⟨rfl, b⟩
    replace k0 := ((bcell b).1 _ _ (by omega)).trans k0
    replace k1 := ((bcell b).1 _ _ (by omega)).trans k1
    replace HX := Bx.mk (HX.out.below b (by omega))
    replace hz := Nat.lt_of_lt_of_le hz b.size
    replace bw := bw.trans (b.mono bw.size)
    clear b
    go_wp2_with fail
    go_ret
    rw [HR.out]
    exact GivesInts.of_row (Row.nil _ _) (by simp) bw
  | true =>
    go_enter Try.func43, Try.ntmps43
    go_wp2_with fail
    rw [← hW0]
    clear hW0
    refine (rhOk_is' h1 (specRhythmOk_any _ _ _ _ _ HS.out (by exact HX.out.ir))).mono ?_
    rintro e w1 ⟨rfl, b⟩
    replace k0 := ((bcell b).1 _ _ (by omega)).trans k0
    replace k1 := ((bcell b).1 _ _ (by omega)).trans k1
    replace HX := Bx.mk (HX.out.below b (by omega))
    replace hz := Nat.lt_of_lt_of_le hz b.size
    replace bw := bw.trans (b.mono bw.size)
    clear b
    have hlt0 : w.heap.size < w1.heap.size := hz
    go_wp2_with fail
    obtain ⟨g0, hg0⟩ : ∃ g0, g0 = w1.heap.size := ⟨_, rfl⟩
    have hr0 : Row (w1.alloc (.cells #[] 3)) w1.heap.size (.slice (some ⟨w1.heap.size, 0, none⟩) 0 0) [] := Row.empty w1 _ (Nat.le_refl _)
    refine (specOrd_any _ _ _ _ _ HS.out (by exact HX.out.ir.alloc _)).mono ?_
    rintro e w2 ⟨A2, c2, rfl, io, b⟩
    have hr1 := hr0.below b (Nat.le_refl _)
    have hb2 : Below w1.heap.size w1 w2 := (below_alloc _ _).trans (b.mono (by simp))
    have hz2 : w1.heap.size + 1 ≤ w2.heap.size := by have := b.size; simpa using this
    have HI := Bx.mk (OB.of io (Nat.le_refl _)).rb
    have bw2 := bw.trans (hb2.mono bw.size)
    have HLO : Bx ((w1.alloc (.cells #[] 3)).heap.size = w1.heap.size + 1) := ⟨by simp⟩
    obtain ⟨L, hL⟩ : ∃ L, L = ordI s xs := ⟨_, rfl⟩
    have hll : L.length ≤ 24 := by rw [hL]; exact ordI_len s xs
    have HR : Bx (ppI s xs = L.filter (qn ppP)) := ⟨by rw [hL]; rfl⟩
    rw [← hL] at HI
    rw [← hL]
    rw [← hg0] at hr1 hz2
    have hgz : w.heap.size ≤ g0 := by omega
    rw [HLO.out, ← hg0] at HI
    clear hL b io hr0 HLO hb2 bw k0 k1 HX hz
    go_wp2_with fail
    rw [← hg0]
    clear hg0
    go_loopw [3, 13] (fun v i wr => ∃ k : Nat, k ≤ L.length ∧ i = .int .i64 k ∧ RowX wr g0 g0 w2.heap.size v ((L.take k).filter (qn ppP)) ∧ Only w2 wr (some ⟨g0, 0, none⟩)) (fun _ i _ => L.length - (intOf i).toNat)
    case atStart => exact ⟨0, by omega, rfl, RowX.start hr1, Only.refl _ _⟩
    case round =>
      obtain ⟨k, hk, rfl, hrow, ho⟩ := hrel
      have hlen := ftake_len (qn ppP) L k
      have HO := Bx.mk hrow
      have HN := Bx.mk ho
      have hi := IR.onlyAt HI.out ho (by omega)
      have hzr := ho.size
      by_cases hlt : k < L.length
      · clear hrow ho
        obtain ⟨b, o, x, rfl, hb, c1, H3⟩ := hi.one (k := k) (by omega)
        have H4 := Bx.mk H3.out
        clear H3
        have hki : (k : Int) < (L.length : Int) := by omega
        obtain ⟨y, hy⟩ : ∃ y, y = primeI x := ⟨_, rfl⟩
        have hy0 : 0 ≤ y := by rw [hy]; exact primeI_nn x
        cases hq : qn ppP x with
        | true =>
          have HH := Bx.mk (ftake_hit H4.out hq)
          have hyp : 0 < y := by
            have : (primeI x == 0) = false := by simpa [qn, ppP] using hq
            rw [← hy] at this
            simp at this; omega
          clear hq
          go_wp2_with fail
          refine (specPrimeOf_any _ _).mono ?_
          rw [← hy]
          rintro e w3 ⟨rfl, rfl⟩
          clear hy
          go_wp2_with (at_builtin; go_must (refine wpList_appX rfl _ _ rfl g0 g0 w2.heap.size w2 _ ((L.take k).filter (qn ppP)) x rfl rfl (by exact HO.out) (by omega) (by omega) (by exact hzr) (Nat.le_refl _) (by exact HN.out) ?_); intro v1 w4 hown1 ho1)
          have R := Bx.mk (And.intro hown1 ho1)
          clear hown1 ho1
          go_wp2_with fail
          go_roundw
          case rel => exact ⟨k + 1, by omega, by go_num, by rw [HH.out]; exact R.out.1, R.out.2⟩
          case measure => simp [intOf]; omega
        | false =>
          have HH := Bx.mk (ftake_miss H4.out hq)
          have hyp : y = 0 := by
            have : (primeI x == 0) = true := by simpa [qn, ppP] using hq
            rw [← hy] at this
            simpa using this
          rw [hyp] at hy
          clear hq hyp
          go_wp2_with fail
          refine (specPrimeOf_any _ _).mono ?_
          rw [← hy]
          rintro e w3 ⟨rfl, rfl⟩
          clear hy
          go_wp2_with fail
          go_roundw
          case rel => exact ⟨k + 1, by omega, by go_num, by rw [HH.out]; exact HO.out, HN.out⟩
          case measure => simp [intOf]; omega
      · have HS2 : Bx (ppI s xs = (L.take k).filter (qn ppP)) := ⟨by rw [HR.out, List.take_of_length_le (by omega)]⟩
        have hbl : Below w.heap.size w wr := bw2.trans (HN.out.below bw2.size (by intro x hx; injection hx with hx; subst hx; exact hgz))
        clear hrow ho
        go_wp2_with fail
        go_ret
        exact GivesInts.of_row' (base := g0) (by rw [HS2.out]; exact HO.out.1) hgz (by rw [HS2.out]; omega) hbl
end Go.Proofs.Ytbgfhbaaacmndaa
