/- The generators of a rhythm: both sides. -/
import Derived.Test.YtpejnhcmelkmeaaGen
import Derived.Test.YtpejnhcmelkmeaaRts
namespace Go.Proofs.Ytpejnhcmelkmeaa
open Go.RowKit

def gensP (s : Int) (xs : List Int) (g : Int) : Bool := decide (1 ≤ g) && (genOk s xs.length g && rotB s (genL s xs.length g) xs)
def gensR (s : Int) (xs : List Int) : List Int := if rhOk s xs = true then selTo (gensP s xs) s.toNat else []
theorem gensR_len (s : Int) (xs : List Int) : (gensR s xs).length ≤ 24 := by
  unfold gensR
  split
  · rename_i h
    have := selTo_len (gensP s xs) s.toNat
    have := (rhOk_iff.1 h).1
    omega
  · simp
theorem genL_bd {n k g : Int} (h : genOk n k g = true) : (∀ x ∈ genL n k g, 0 ≤ x ∧ x < n) ∧ (genL n k g).Pairwise (· < ·) ∧ 1 ≤ n ∧ n ≤ 24 ∧ (genL n k g).length ≤ 24 := by
  have h1 : 1 ≤ n ∧ n ≤ 24 ∧ 0 ≤ k ∧ k ≤ n ∧ 1 ≤ g ∧ g ≤ n := by
    unfold genOk at h
    rw [Bool.and_eq_true] at h
    simpa using h.1
  unfold genL
  rw [if_pos h]
  refine ⟨fun x hx => gL_bd (by omega) x ((coll_mem _ _).1 hx), coll_asc _, by omega, by omega, ?_⟩
  have := coll_len (gL n g k.toNat)
  rw [gL_len] at this
  omega
theorem genL_ok {n k g : Int} (h : genOk n k g = true) : rhOk n (genL n k g) = true := by
  obtain ⟨h1, h2, h3, h4, _⟩ := genL_bd h
  exact rhOk_iff.2 ⟨⟨h3, h4⟩, h1, h2⟩
theorem gensP_no {s : Int} {xs : List Int} {g : Int} (h : genOk s xs.length g = false) : gensP s xs g = false := by simp [gensP, h]
theorem gensP_rot {s : Int} {xs : List Int} {g : Int} {b : Bool} (hg : 1 ≤ g) (h : genOk s xs.length g = true) (hb : rotB s (genL s xs.length g) xs = b) : gensP s xs g = b := by simp [gensP, h, hb, hg]
theorem gensP_one (s : Int) (xs : List Int) : selTo (gensP s xs) 1 = [] := by
  rw [show (1 : Nat) = 0 + 1 from rfl, selTo_miss (by simp [gensP])]; rfl
set_option maxHeartbeats 4000000 in
set_option maxRecDepth 20000 in
theorem implGens_any (s : Int) (A : Option Addr) (c : Nat) (xs : List Int) (w : World) (hs : -9223372036854775808 ≤ s ∧ s ≤ 9223372036854775807) (hx : IR w A xs) :
    Calls Try.prog 9 #[.agg #[.int .i64 s, .slice A xs.length c]] w (GivesInts w (gensR s xs)) := by
  obtain ⟨W0, hW0⟩ : ∃ W0, W0 = w.alloc (.cells #[.int .i64 s, .slice A xs.length c] 26) := ⟨_, rfl⟩
  have bw : Below w.heap.size w W0 := by rw [hW0]; exact below_alloc _ _
  have hz : w.heap.size < W0.heap.size := by rw [hW0]; simp
  have k0 : W0.cell? ⟨w.heap.size, 0, none⟩ = some (.int .i64 s) := by rw [hW0]; simp [go_sem]
  have k1 : W0.cell? ⟨w.heap.size, 1, none⟩ = some (.slice A xs.length c) := by rw [hW0]; simp [go_sem]
  have HX := Bx.mk ((RB.of_ir hx).below bw (Nat.le_refl _))
  have HS := Bx.mk hs
  clear hx hs
  cases h1 : rhOk s xs with
  | false =>
    have HR : Bx (gensR s xs = []) := ⟨by simp [gensR, h1]⟩
    go_enter Try.func9, Try.ntmps9
    go_wp2_with fail
    rw [← hW0]
    clear hW0
    refine (lit_b h1 (implRhythmOk_any _ _ _ _ _ HS.out (by exact HX.out.ir))).mono ?_
    rintro e w1 ⟨rfl, b⟩
    have bw2 := bw.trans (b.mono bw.size)
    clear b
    go_wp2_with fail
    go_ret
    exact ⟨none, 0, by rw [HR.out]; rfl, by rw [HR.out]; exact IO.nil _ _, bw2⟩
  | true =>
    have hsb := (rhOk_iff.1 h1).1
    have hll := (rhOk_len h1).1
    have HOK := Bx.mk h1
    have HR : Bx (gensR s xs = selTo (gensP s xs) s.toNat) := ⟨by simp [gensR, h1]⟩
    obtain ⟨hs1, hs2⟩ := hsb
    obtain ⟨n, hn⟩ := Int.eq_ofNat_of_zero_le (show 0 ≤ s by omega)
    subst hn
    have hn1 : 1 ≤ n := by omega
    have hn24 : n ≤ 24 := by omega
    have hs12 : Bx (1 ≤ (n : Int) ∧ (n : Int) ≤ 24) := ⟨hs1, hs2⟩
    clear hs1 hs2
    go_enter Try.func9, Try.ntmps9
    go_wp2_with fail
    rw [← hW0]
    clear hW0
    refine (lit_b h1 (implRhythmOk_any _ _ _ _ _ HS.out (by exact HX.out.ir))).mono ?_
    clear h1
    rintro e w1 ⟨rfl, b⟩
    replace k0 := ((bcell b).1 _ _ (by omega)).trans k0
    replace k1 := ((bcell b).1 _ _ (by omega)).trans k1
    replace HX := Bx.mk (HX.out.below b (by omega))
    replace hz := Nat.lt_of_lt_of_le hz b.size
    replace bw := bw.trans (b.mono bw.size)
    clear b
    obtain ⟨W1, hW1⟩ : ∃ W1, W1 = w1 := ⟨_, rfl⟩
    rw [← hW1] at k0 k1 HX hz bw ⊢
    clear hW1
    go_wp2_with fail
    have HRW := Bx.mk (Row.nil W1 W1.heap.size)
    obtain ⟨BB, hBB⟩ : ∃ BB, BB = W1.heap.size := ⟨_, rfl⟩
    rw [← hBB] at HRW
    have hBB1 : BB ≤ W1.heap.size := by omega
    have hwB : w.heap.size < BB := by omega
    clear hBB
    go_loopw [3, 4] (fun v i wr => ∃ j : Nat, 1 ≤ j ∧ j ≤ n ∧ i = .int .i64 j ∧ Row wr BB v (selTo (gensP n xs) j) ∧ Below BB W1 wr) (fun _ i _ => n - (intOf i).toNat)
    case atStart => exact ⟨1, by omega, by omega, rfl, by rw [gensP_one]; exact HRW.out, Below.refl _ _⟩
    case round =>
      obtain ⟨j, hj1, hj, rfl, hrow, hbb⟩ := hrel
      clear HRW
      have hlen := selTo_len (gensP n xs) j
      have hzs := hbb.size
      have hzr : BB ≤ wr.heap.size := by omega
      have p0 := ((bcell hbb).1 _ _ (by omega)).trans k0
      have p1 := ((bcell hbb).1 _ _ (by omega)).trans k1
      have HXr := Bx.mk (HX.out.below hbb (by omega))
      have HO := Bx.mk hrow
      have HB := Bx.mk hbb
      clear hrow hbb
      by_cases hlt : j < n
      · have hji : (j : Int) < (n : Int) := by omega
        cases hg : genOk n xs.length j with
        | false =>
          have HG : Bx (∀ W, Calls Try.prog 5 #[.int .i64 n, .int .i64 xs.length, .int .i64 j] W (GivesRB W 0 [] false)) := ⟨fun W => by
            have := implGen_any n xs.length j W
            rw [show genS n xs.length j = 0 by simp [genS, hg], show genL n xs.length j = [] by simp [genL, hg], hg] at this
            exact this⟩
          have HN := Bx.mk (selTo_miss (p := gensP n xs) (k := j) (gensP_no hg))
          clear hg
          go_wp2_with fail
          refine (HG.out _).mono ?_
          rintro e w2 ⟨A2, c2, rfl, io, b⟩
          simp only [List.length_nil] at io ⊢
          clear HG
          have hbs := b.size
          have hBB3 : Below BB W1 (w2.alloc (.cells #[.int .i64 0, .slice A2 0 c2] 26)) := HB.out.trans ((b.trans ((below_alloc w2 _).mono hbs)).mono hzr)
          have HB3 := Bx.mk hBB3
          have HO3 : Bx (Row (w2.alloc (.cells #[.int .i64 0, .slice A2 0 c2] 26)) BB _ (selTo (gensP n xs) (j + 1))) := ⟨by rw [HN.out]; exact (HO.out.below b (Nat.le_refl _)).below (below_alloc w2 _) (Nat.le_refl _)⟩
          clear hBB3 io
          go_wp2_with fail
          go_roundw
          case rel => exact ⟨j + 1, by omega, by omega, by go_num, HO3.out, HB3.out⟩
          case measure => simp [intOf]; omega
        | true =>
          obtain ⟨L, hL⟩ : ∃ L, L = genL n xs.length j := ⟨_, rfl⟩
          have HG : Bx (∀ W, Calls Try.prog 5 #[.int .i64 n, .int .i64 xs.length, .int .i64 j] W (GivesRB W n L true)) := ⟨fun W => by
            have := implGen_any n xs.length j W
            rw [show genS n xs.length j = n by simp [genS, hg], ← hL, hg] at this
            exact this⟩
          have HLO : Bx (rhOk n L = true) := ⟨by rw [hL]; exact genL_ok hg⟩
          have HLB : Bx (∀ x ∈ L, 0 ≤ x ∧ x < 24) := ⟨fun x hx => by have := (rhOk_iff.1 HLO.out).2.1 x hx; omega⟩
          have hLl : L.length ≤ 1000 := by have := (rhOk_len HLO.out).1; omega
          have HGP : Bx (∀ b, rotB n L xs = b → gensP n xs j = b) := ⟨fun b hb => gensP_rot (by omega) hg (by rw [← hL]; exact hb)⟩
          clear hg hL
          go_wp2_with fail
          refine (HG.out _).mono ?_
          rintro e w2 ⟨A2, c2, rfl, io, b⟩
          clear HG
          obtain ⟨W3, hW3⟩ : ∃ W3, W3 = w2.alloc (.cells #[.int .i64 n, .slice A2 L.length c2] 26) := ⟨_, rfl⟩
          have b3 : Below w2.heap.size w2 W3 := by rw [hW3]; exact below_alloc _ _
          have hN3 : Blk W3 w2.heap.size 26 #[.int .i64 n, .slice A2 L.length c2] := by rw [hW3]; exact Blk.new w2 26 #[.int .i64 n, .slice A2 L.length c2]
          have hbs := b.size
          have hb3s := b3.size
          have q0 := ((bcell b3).1 _ _ (by omega)).trans (((bcell b).1 _ _ (by omega)).trans p0)
          have q1 := ((bcell b3).1 _ _ (by omega)).trans (((bcell b).1 _ _ (by omega)).trans p1)
          have n0 := hN3.at_ (i := 0) rfl
          have n1 := hN3.at_ (i := 1) rfl
          have hBB3 := HB.out.trans ((b.mono hzr).trans (b3.mono (by omega)))
          have HB3 := Bx.mk hBB3
          have HX3 := Bx.mk ((HXr.out.below b (by omega)).below b3 (by omega))
          have HI3 := Bx.mk (io.below b3 (Nat.le_refl _)).reads
          have HO3 := Bx.mk ((HO.out.below b (Nat.le_refl _)).below b3 (Nat.le_refl _))
          clear hBB3 hN3 io
          have hwr : w.heap.size < wr.heap.size := by omega
          have hw2 : w.heap.size < w2.heap.size := by omega
          clear p0 p1 b b3
          have q0' := q0
          have q1' := q1
          have n0' := n0
          have n1' := n1
          rw [hW3] at q0' q1' n0' n1'
          go_wp2_with fail
          rw [← hW3]
          clear hW3 q0' q1' n0' n1'
          cases hr : rotB n L xs with
          | true =>
            have HN := Bx.mk (selTo_hit (p := gensP n xs) (k := j) (HGP.out _ hr))
            have HRT : Bx (GivesRot W3 true = GivesRot W3 (rotB n L xs)) := ⟨by rw [hr]⟩
            clear hr
            refine (implRotTo_any _ _ _ _ _ _ _ _ hs12.out HLB.out hLl (by exact HI3.out) (by exact HX3.out.ir)).mono ?_
            rw [← HRT.out]
            rintro e w4 ⟨r, rfl, hr, b⟩
            have hr0 := hr.out.1 rfl
            have hb4 := b.size
            have HB4 := Bx.mk (HB3.out.trans (b.mono (by omega)))
            have HO4 := Bx.mk (HO3.out.below b (Nat.le_refl _))
            have hz4 : BB ≤ w4.heap.size := by omega
            clear b hr HO3 HB3 HO HRT
            go_wp2_with (at_builtin; go_must (refine wpList_app1 rfl _ _ rfl BB _ (selTo (gensP n xs) j) (j : Int) rfl rfl (by exact HO4.out) (by omega) (by first | exact hz4 | omega) ?_); intro v1 w5 hown1 hb1)
            have R := Bx.mk (And.intro hown1 (HB4.out.trans hb1))
            clear hown1 hb1
            go_wp2_with fail
            go_roundw
            case rel => exact ⟨j + 1, by omega, by omega, by go_num, by rw [HN.out]; exact R.out.1, R.out.2⟩
            case measure => simp [intOf]; omega
          | false =>
            have HN := Bx.mk (selTo_miss (p := gensP n xs) (k := j) (HGP.out _ hr))
            have HRT : Bx (GivesRot W3 false = GivesRot W3 (rotB n L xs)) := ⟨by rw [hr]⟩
            clear hr
            refine (implRotTo_any _ _ _ _ _ _ _ _ hs12.out HLB.out hLl (by exact HI3.out) (by exact HX3.out.ir)).mono ?_
            rw [← HRT.out]
            rintro e w4 ⟨r, rfl, hr, b⟩
            have hr0 := hr.out.2 rfl
            subst hr0
            have hb4 := b.size
            have HB4 := Bx.mk (HB3.out.trans (b.mono (by omega)))
            have HO4 := Bx.mk (HO3.out.below b (Nat.le_refl _))
            clear b hr HO3 HB3 HO HRT
            go_wp2_with fail
            go_roundw
            case rel => exact ⟨j + 1, by omega, by omega, by go_num, by rw [HN.out]; exact HO4.out, HB4.out⟩
            case measure => simp [intOf]; omega
      · have hke : j = n := by omega
        subst hke
        obtain ⟨A1, c1, rfl, io1⟩ := HO.out.io (by omega)
        have HF := Bx.mk (bw.trans (HB.out.mono (by omega)))
        have HIO := Bx.mk (io1.mono (show w.heap.size ≤ BB by omega))
        have HR2 : Bx (gensR j xs = selTo (gensP j xs) j) := ⟨by rw [HR.out, Int.toNat_natCast]⟩
        clear io1 HO HB
        go_wp2_with fail
        go_ret
        exact ⟨A1, c1, by rw [HR2.out] <;> rfl, by rw [HR2.out]; exact HIO.out, HF.out⟩
end Go.Proofs.Ytpejnhcmelkmeaa
