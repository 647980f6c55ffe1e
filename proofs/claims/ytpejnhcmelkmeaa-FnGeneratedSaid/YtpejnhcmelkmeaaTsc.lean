/- For which numbers of beats a generated rhythm has at most two sizes of steps: both sides. -/
import Derived.Test.YtpejnhcmelkmeaaGens
import Derived.Test.YtpejnhcmelkmeaaSizesT
namespace Go.Proofs.Ytpejnhcmelkmeaa
open Go.RowKit

def tscP (n g : Int) (k : Int) : Bool := decide (2 ≤ k) && (genOk n k g && decide ((sizesR n (genL n k g)).length ≤ 2))
def tscR (n g : Int) : List Int := if inB n 1 24 = true ∧ inB g 1 n = true then selTo (tscP n g) n.toNat else []
theorem tscP_two (n g : Int) : selTo (tscP n g) 1 = [] ∧ selTo (tscP n g) 2 = [] := by
  have h0 : selTo (tscP n g) (0 + 1) = selTo (tscP n g) 0 := selTo_miss (by simp [tscP])
  have h1 : selTo (tscP n g) (1 + 1) = selTo (tscP n g) 1 := selTo_miss (by simp [tscP])
  exact ⟨h0, h1.trans h0⟩
theorem tscP_no {n g k : Int} (h : genOk n k g = false) : tscP n g k = false := by simp [tscP, h]
theorem tscP_yes {n g k : Int} {b : Bool} (hk : 2 ≤ k) (h : genOk n k g = true) (hb : decide ((sizesR n (genL n k g)).length ≤ 2) = b) : tscP n g k = b := by
  unfold tscP
  rw [h, hb, show decide (2 ≤ k) = true from decide_eq_true hk]; rfl
set_option maxHeartbeats 4000000 in
set_option maxRecDepth 20000 in
theorem implTsc_any (n0 g0 : Int) (w : World) : Calls Try.prog 19 #[.int .i64 n0, .int .i64 g0] w (GivesInts w (tscR n0 g0)) := by
  by_cases h1 : inB n0 1 24 = true
  · by_cases h2 : inB g0 1 n0 = true
    · have b1 := inB_iff.1 h1
      have b2 := inB_iff.1 h2
      have HR : Bx (tscR n0 g0 = selTo (tscP n0 g0) n0.toNat) := ⟨by simp [tscR, h1, h2]⟩
      obtain ⟨n, hn⟩ := Int.eq_ofNat_of_zero_le (show 0 ≤ n0 by omega)
      obtain ⟨g, hg⟩ := Int.eq_ofNat_of_zero_le (show 0 ≤ g0 by omega)
      subst hn hg
      have hn1 : 1 ≤ n := by omega
      have hn24 : n ≤ 24 := by omega
      rw [Int.toNat_natCast] at HR
      go_enter Try.func19, Try.ntmps19
      go_wp2_with (go_at_call 25; refine (within_any _ _ _ _).mono ?_; rintro e w' ⟨rfl, rfl⟩)
      have HRW := Bx.mk (Row.nil w w.heap.size)
      obtain ⟨W1, hW1⟩ : ∃ W1, W1 = w := ⟨_, rfl⟩
      have bw : Below w.heap.size w W1 := by rw [hW1]; exact Below.refl _ _
      obtain ⟨BB, hBB⟩ : ∃ BB, BB = w.heap.size := ⟨_, rfl⟩
      rw [← hBB] at HRW bw
      have HBB := Bx.mk hBB
      have hBB1 : BB ≤ W1.heap.size := by rw [hW1]; omega
      have HRW1 : Bx (Row W1 BB (.slice none 0 0) []) := ⟨by rw [hW1]; exact HRW.out⟩
      clear hBB
      clear HRW h1 h2 b1 b2
      go_loopw [5, 6] (fun v i wr => ∃ j : Nat, 2 ≤ j ∧ (j ≤ n ∨ j = 2) ∧ i = .int .i64 j ∧ Row wr BB v (selTo (tscP n g) j) ∧ Below BB W1 wr) (fun _ i _ => n - (intOf i).toNat)
      case atStart => exact ⟨2, by omega, by omega, rfl, by rw [(tscP_two _ _).2]; rw [hW1] at HRW1; exact HRW1.out, by rw [hW1]; exact Below.refl _ _⟩
      case round =>
        obtain ⟨j, hj1, hj, rfl, hrow, hbb⟩ := hrel
        clear HRW1
        have hlen := selTo_len (tscP n g) j
        have hzs := hbb.size
        have hzr : BB ≤ wr.heap.size := by omega
        have HO := Bx.mk hrow
        have HB := Bx.mk hbb
        clear hrow hbb
        by_cases hlt : j < n
        · have hji : (j : Int) < (n : Int) := by omega
          cases hg : genOk n j g with
          | false =>
            have HG : Bx (∀ W, Calls Try.prog 5 #[.int .i64 n, .int .i64 j, .int .i64 g] W (GivesRB W 0 [] false)) := ⟨fun W => by
              have := implGen_any n j g W
              rw [show genS n j g = 0 by simp [genS, hg], show genL n j g = [] by simp [genL, hg], hg] at this
              exact this⟩
            have HN := Bx.mk (selTo_miss (p := tscP n g) (k := j) (tscP_no hg))
            clear hg
            go_wp2_with fail
            refine (HG.out _).mono ?_
            rintro e w2 ⟨A2, c2, rfl, io, b⟩
            simp only [List.length_nil] at io ⊢
            clear HG
            have hbs := b.size
            have hBB3 : Below BB W1 (w2.alloc (.cells #[.int .i64 0, .slice A2 0 c2] 26)) := HB.out.trans ((b.trans ((below_alloc w2 _).mono hbs)).mono hzr)
            have HB3 := Bx.mk hBB3
            have HO3 : Bx (Row (w2.alloc (.cells #[.int .i64 0, .slice A2 0 c2] 26)) BB _ (selTo (tscP n g) (j + 1))) := ⟨by rw [HN.out]; exact (HO.out.below b (Nat.le_refl _)).below (below_alloc w2 _) (Nat.le_refl _)⟩
            clear hBB3 io
            go_wp2_with fail
            go_roundw
            case rel => exact ⟨j + 1, by omega, by omega, by go_num, HO3.out, HB3.out⟩
            case measure => simp [intOf]; omega
          | true =>
            obtain ⟨L, hL⟩ : ∃ L, L = genL n j g := ⟨_, rfl⟩
            have HG : Bx (∀ W, Calls Try.prog 5 #[.int .i64 n, .int .i64 j, .int .i64 g] W (GivesRB W n L true)) := ⟨fun W => by
              have := implGen_any n j g W
              rw [show genS n j g = n by simp [genS, hg], ← hL, hg] at this
              exact this⟩
            have HGP : Bx (∀ b, decide ((sizesR n L).length ≤ 2) = b → tscP n g j = b) := ⟨fun b hb => tscP_yes (by omega) hg (by rw [← hL]; exact hb)⟩
            have hs64 : -9223372036854775808 ≤ (n : Int) ∧ (n : Int) ≤ 9223372036854775807 := by omega
            obtain ⟨q, hq⟩ : ∃ q : Nat, q = (sizesR n L).length := ⟨_, rfl⟩
            have HCS : Bx (∀ A c W, IR W A L → Calls Try.prog 14 #[.agg #[.int .i64 n, .slice A L.length c]] W fun e w' => e = .returned (.int .i64 (q : Nat)) ∧ Below W.heap.size W w') := ⟨fun A c W h => by rw [hq]; exact implCountSizes_any n A c L W hs64 h⟩
            rw [← hq] at HGP
            clear hg hL hq hs64
            go_wp2_with fail
            refine (HG.out _).mono ?_
            rintro e w2 ⟨A2, c2, rfl, io, b⟩
            clear HG
            obtain ⟨W3, hW3⟩ : ∃ W3, W3 = w2.alloc (.cells #[.int .i64 n, .slice A2 L.length c2] 26) := ⟨_, rfl⟩
            have b3 : Below w2.heap.size w2 W3 := by rw [hW3]; exact below_alloc _ _
            have hN3 : Blk W3 w2.heap.size 26 #[.int .i64 n, .slice A2 L.length c2] := by rw [hW3]; exact Blk.new w2 26 #[.int .i64 n, .slice A2 L.length c2]
            have hbs := b.size
            have hb3s := b3.size
            have n0 := hN3.at_ (i := 0) rfl
            have n1 := hN3.at_ (i := 1) rfl
            have hBB3 := HB.out.trans ((b.mono hzr).trans (b3.mono (by omega)))
            have HB3 := Bx.mk hBB3
            have HI3 := Bx.mk (io.below b3 (Nat.le_refl _)).reads
            have HO3 := Bx.mk ((HO.out.below b (Nat.le_refl _)).below b3 (Nat.le_refl _))
            clear hBB3 hN3 io
            clear b b3
            have n0' := n0
            have n1' := n1
            rw [hW3] at n0' n1'
            go_wp2_with fail
            rw [← hW3]
            clear hW3 n0' n1'
            refine (HCS.out _ _ _ (by exact HI3.out)).mono ?_
            rintro e w4 ⟨rfl, b⟩
            have hb4 := b.size
            have HB4 := Bx.mk (HB3.out.trans (b.mono (by omega)))
            have HO4 := Bx.mk (HO3.out.below b (Nat.le_refl _))
            have hz4 : BB ≤ w4.heap.size := by omega
            clear b HO3 HB3 HO HCS
            by_cases hq2 : q ≤ 2
            · have HN := Bx.mk (selTo_hit (p := tscP n g) (k := j) (HGP.out _ (decide_eq_true hq2)))
              have hq2i : (q : Int) ≤ 2 := by omega
              go_wp2_with (at_builtin; go_must (refine wpList_app1 rfl _ _ rfl BB _ (selTo (tscP n g) j) (j : Int) rfl rfl (by exact HO4.out) (by omega) (by first | exact hz4 | omega) ?_); intro v1 w5 hown1 hb1)
              have R := Bx.mk (And.intro hown1 (HB4.out.trans hb1))
              clear hown1 hb1
              go_wp2_with fail
              go_roundw
              case rel => exact ⟨j + 1, by omega, by omega, by go_num, by rw [HN.out]; exact R.out.1, R.out.2⟩
              case measure => simp [intOf]; omega
            · have HN := Bx.mk (selTo_miss (p := tscP n g) (k := j) (HGP.out _ (decide_eq_false hq2)))
              have hq2i : ¬ (q : Int) ≤ 2 := by omega
              go_wp2_with fail
              go_roundw
              case rel => exact ⟨j + 1, by omega, by omega, by go_num, by rw [HN.out]; exact HO4.out, HB4.out⟩
              case measure => simp [intOf]; omega
        · have HE : Bx (tscR n g = selTo (tscP n g) j) := ⟨by
            rw [HR.out]
            by_cases e : j = n
            · rw [e]
            · rw [show n = 1 by omega, show j = 2 by omega, (tscP_two _ _).1, (tscP_two _ _).2]⟩
          have hji : ¬ (j : Int) < (n : Int) := by omega
          obtain ⟨A1, c1, rfl, io1⟩ := HO.out.io (by omega)
          have HF := Bx.mk (bw.trans HB.out)
          have HIO := Bx.mk io1
          clear io1 HO HB
          go_wp2_with fail
          go_ret
          have hf := HF.out
          have hio := HIO.out
          rw [HBB.out] at hf hio
          exact ⟨A1, c1, by rw [HE.out] <;> rfl, by rw [HE.out]; exact hio, hf⟩
    · have HR : Bx (tscR n0 g0 = []) := ⟨by simp [tscR, h2]⟩
      rw [Bool.not_eq_true] at h2
      go_enter Try.func19, Try.ntmps19
      go_wp2_with (go_at_call 25; refine (within_any _ _ _ _).mono ?_; rintro e w' ⟨rfl, rfl⟩)
      go_ret
      exact ⟨none, 0, by rw [HR.out]; rfl, by rw [HR.out]; exact IO.nil _ _, Below.refl _ _⟩
  · have HR : Bx (tscR n0 g0 = []) := ⟨by simp [tscR, h1]⟩
    rw [Bool.not_eq_true] at h1
    go_enter Try.func19, Try.ntmps19
    go_wp2_with (go_at_call 25; refine (within_any _ _ _ _).mono ?_; rintro e w' ⟨rfl, rfl⟩)
    go_ret
    exact ⟨none, 0, by rw [HR.out]; rfl, by rw [HR.out]; exact IO.nil _ _, Below.refl _ _⟩
end Go.Proofs.Ytpejnhcmelkmeaa
