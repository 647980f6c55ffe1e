/- The sum of two rhythms and whether it is there. -/
import Derived.Test.YtbgfhbaaacmndaaSum
import Derived.Test.YtbgfhbaaacmndaaGaps
namespace Go.Proofs.Ytbgfhbaaacmndaa
open Go.RowKit

def sumRs (s : Int) (xs : List Int) (t : Int) (ys : List Int) : Int := if twoOk s xs t ys = true then s else 0
def sumRl (s : Int) (xs : List Int) (t : Int) (ys : List Int) : List Int := if twoOk s xs t ys = true then sumL s xs ys else []
theorem sumL_len {s : Int} {xs ys : List Int} (h : rhOk s xs = true) : (sumL s xs ys).length ≤ 24 := by
  have := (rhOk_iff.1 h).1
  have := selTo_len (sumP (sumC s xs ys)) s.toNat
  unfold sumL
  omega
set_option maxHeartbeats 1000000 in
theorem specSumRh_any (s t : Int) (A B : Option Addr) (c d : Nat) (xs ys : List Int) (w : World) (hs : -9223372036854775808 ≤ s ∧ s ≤ 9223372036854775807) (ht : -9223372036854775808 ≤ t ∧ t ≤ 9223372036854775807) (hx : IR w A xs) (hy : IR w B ys) :
    Calls Try.prog 46 #[.agg #[.int .i64 s, .slice A xs.length c], .agg #[.int .i64 t, .slice B ys.length d]] w (GivesRB w (sumRs s xs t ys) (sumRl s xs t ys) (twoOk s xs t ys)) := by
  obtain ⟨W0, hW0⟩ : ∃ W0, W0 = ((w.alloc (.cells #[.int .i64 s, .slice A xs.length c] 27)).alloc (.cells #[.int .i64 t, .slice B ys.length d] 27)).alloc (.cells #[.int .i64 0, .slice none 0 0] 27) := ⟨_, rfl⟩
  have bw : Below w.heap.size w W0 := by rw [hW0]; exact ((below_alloc _ _).alloc (by simp) _).alloc (by simp <;> omega) _
  have hz : w.heap.size + 3 ≤ W0.heap.size := by rw [hW0]; simp
  have k0 : W0.cell? ⟨w.heap.size, 0, none⟩ = some (.int .i64 s) := by rw [hW0]; simp [go_sem]
  have k1 : W0.cell? ⟨w.heap.size, 1, none⟩ = some (.slice A xs.length c) := by rw [hW0]; simp [go_sem]
  have k2 : W0.cell? ⟨w.heap.size + 1, 0, none⟩ = some (.int .i64 t) := by rw [hW0]; simp [go_sem]
  have k3 : W0.cell? ⟨w.heap.size + 1, 1, none⟩ = some (.slice B ys.length d) := by rw [hW0]; simp [go_sem]
  have R0 : Blk W0 (w.heap.size + 1 + 1) 27 #[.int .i64 0, .slice none 0 0] := by rw [hW0]; have := Blk.new ((w.alloc (.cells #[.int .i64 s, .slice A xs.length c] 27)).alloc (.cells #[.int .i64 t, .slice B ys.length d] 27)) 27 #[.int .i64 0, .slice none 0 0]; simpa using this
  have HX := Bx.mk (hx.below bw)
  have HY := Bx.mk (hy.below bw)
  have HS := Bx.mk hs
  have HT := Bx.mk ht
  clear hx hy hs ht
  cases h1 : twoOk s xs t ys with
  | false =>
    have HR : Bx (sumRs s xs t ys = 0 ∧ sumRl s xs t ys = []) := ⟨by simp [sumRs, sumRl, h1]⟩
    go_enter Try.func46, Try.ntmps46
    go_wp2_with fail
    rw [← hW0]
    clear hW0
    refine (specSame_any _ _ _ _ _ _ _ _ _ HS.out HT.out (by exact HX.out) (by exact HY.out)).mono ?_
    rintro e w1 ⟨rfl, b⟩
    replace R0 := R0.below b (by omega)
    replace k0 := ((bcell b).1 _ _ (by omega)).trans k0
    replace k1 := ((bcell b).1 _ _ (by omega)).trans k1
    replace k2 := ((bcell b).1 _ _ (by omega)).trans k2
    replace k3 := ((bcell b).1 _ _ (by omega)).trans k3
    replace HX := Bx.mk (HX.out.below b)
    replace HY := Bx.mk (HY.out.below b)
    replace hz := Nat.le_trans hz b.size
    replace bw := bw.trans (b.mono bw.size)
    clear b
    have cr0 := R0.at_ (i := 0) rfl
    have cr1 := R0.at_ (i := 1) rfl
    have fr0 := R0.frozen 0
    have fr1 := R0.frozen 1
    have RF := Bx.mk ((R0.set 0 (.int .i64 0)).set 1 (.slice none 0 0))
    have BF := Bx.mk ((bw.setCell (p := ⟨w.heap.size + 1 + 1, 0, none⟩) (show w.heap.size ≤ w.heap.size + 1 + 1 by omega) (.int .i64 0)).setCell (p := ⟨w.heap.size + 1 + 1, 1, none⟩) (show w.heap.size ≤ w.heap.size + 1 + 1 by omega) (.slice none 0 0))
    clear R0
    go_wp2_with fail
    refine bodyPost_ret (v := .tuple #[.agg #[.int .i64 0, .slice none 0 0], .bool false]) (by simp [results, Try.results46, go_sem, RF.out.at_ (i := 0) rfl, RF.out.at_ (i := 1) rfl]) rfl ⟨none, 0, ?_, ?_, BF.out⟩
    · rw [HR.out.1, HR.out.2]; rfl
    · rw [HR.out.2]; exact IO.nil _ _
  | true =>
    obtain ⟨e1, e2, e3⟩ := twoOk_iff.1 h1
    subst e3
    have HR9 : Bx (sumRs s xs s ys = s ∧ sumRl s xs s ys = sumL s xs ys) := ⟨by simp [sumRs, sumRl, h1]⟩
    have hsz := (rhOk_iff.1 e1).1
    obtain ⟨hs1, hs2⟩ := hsz
    have H1 := Bx.mk e1
    have H2 := Bx.mk e2
    have hln : Bx ((sumC s xs ys).length = s.toNat) := ⟨sumC_len _ _ _⟩
    clear e1 e2
    go_enter Try.func46, Try.ntmps46
    go_wp2_with fail
    rw [← hW0]
    clear hW0
    refine (specSame_any _ _ _ _ _ _ _ _ _ HS.out HT.out (by exact HX.out) (by exact HY.out)).mono ?_
    rintro e w1 ⟨rfl, b⟩
    replace R0 := R0.below b (by omega)
    replace k0 := ((bcell b).1 _ _ (by omega)).trans k0
    replace k1 := ((bcell b).1 _ _ (by omega)).trans k1
    replace k2 := ((bcell b).1 _ _ (by omega)).trans k2
    replace k3 := ((bcell b).1 _ _ (by omega)).trans k3
    replace HX := Bx.mk (HX.out.below b)
    replace HY := Bx.mk (HY.out.below b)
    replace hz := Nat.le_trans hz b.size
    replace bw := bw.trans (b.mono bw.size)
    clear b
    have hlt0 : w.heap.size < w1.heap.size := by omega
    have hlt1 : w.heap.size + 1 < w1.heap.size := by omega
    go_wp2_with fail
    have HG9 := Blk.new w1 27 #[.int .i64 s, .slice none 0 0]
    refine (l09Counts_any _ _ _ _ _ _ _ _ H1.out H2.out (by exact HX.out.alloc _) (by exact HY.out.alloc _)).mono ?_
    rintro e w2 ⟨A2, c2, rfl, io, b⟩
    have HG0 := HG9.below b (by simp)
    have HR0 := (R0.alloc (.cells #[.int .i64 s, .slice none 0 0] 27)).below b (by simp; omega)
    have hb2 : Below w1.heap.size w1 w2 := (below_alloc _ _).trans (b.mono (by simp))
    have bw2 := bw.trans (hb2.mono bw.size)
    have hz1 : w1.heap.size + 1 ≤ w2.heap.size := by have := b.size; simpa using this
    have HI := Bx.mk (OB.of io (Nat.le_refl _)).rb
    have HLO : Bx ((w1.alloc (.cells #[.int .i64 s, .slice none 0 0] 27)).heap.size = w1.heap.size + 1) := ⟨by simp⟩
    obtain ⟨g, hg⟩ : ∃ g, g = w1.heap.size := ⟨_, rfl⟩
    obtain ⟨gr, hgr⟩ : ∃ gr, gr = w.heap.size + 1 + 1 := ⟨_, rfl⟩
    obtain ⟨L, hL⟩ : ∃ L, L = sumC s xs ys := ⟨_, rfl⟩
    have HSS : Bx (sumL s xs ys = selTo (sumP L) s.toNat) := ⟨by rw [hL]; rfl⟩
    have hll : (L.length : Int) = s := by rw [hL, hln.out]; omega
    rw [← hL] at HI
    rw [← hL]
    rw [HLO.out, ← hg] at HI
    clear hL b io hln HLO hb2 HG9 R0
    rw [← hg] at HG0
    rw [← hgr] at HR0
    have hg2 : g < w2.heap.size := by omega
    have hg3 : gr < g := by omega
    have hg4 : w.heap.size ≤ gr := by omega
    go_wp2_with fail
    rw [← hg, ← hgr]
    clear hg hgr
    go_loopw [21] (fun i wr => ∃ (k : Nat) (v : Value), (k : Int) ≤ s ∧ i = .int .i64 k ∧ Blk wr g 27 #[.int .i64 s, v] ∧ Row wr w2.heap.size v (selTo (sumP L) k) ∧ Only w2 wr (some ⟨g, 0, none⟩)) (fun i _ => (s - intOf i).toNat)
    case atStart => exact ⟨0, _, by omega, rfl, HG0, Row.nil _ _, Only.refl _ _⟩
    case round =>
      obtain ⟨k, v, hk, rfl, hG, hrow, ho⟩ := hrel
      clear HG0
      obtain ⟨A', c', rfl⟩ := hrow.slice
      have hlen := selTo_len (sumP L) k
      have HO := Bx.mk hrow
      have HN := Bx.mk ho
      have HR := Bx.mk (HR0.onlyAt ho (by omega))
      have hi := IR.onlyAt HI.out ho (by omega)
      have hzr := ho.size
      have cg0 := hG.at_ (i := 0) rfl
      have cg1 := hG.at_ (i := 1) rfl
      have fg0 := hG.frozen 0
      have fg1 := hG.frozen 1
      have HG := Bx.mk hG
      clear hrow ho hG
      by_cases hlt : (k : Int) < s
      · obtain ⟨b, o, x, rfl, hb, c1, H3⟩ := hi.one (k := k) (by omega)
        have H4 := Bx.mk H3.out
        clear H3
        by_cases hp : 0 < x
        · have HH := Bx.mk (selTo_hit (p := sumP L) (k := k) (by unfold sumP; rw [Int.toNat_natCast, H4.out]; simpa using hp))
          go_wp2_with (at_builtin; go_must (refine wpList_app1 rfl _ _ rfl w2.heap.size _ (selTo (sumP L) k) (k : Int) rfl rfl (by exact HO.out) (by omega) (by exact hzr) ?_); intro v1 w4 hown1 hb1; have hG4 := HG.out.below hb1 (by omega); have cq1 := hG4.at_ (i := 1) rfl; have fq1 := hG4.frozen 1; obtain ⟨A5, c5, rfl⟩ := hown1.slice; obtain ⟨n5, hn5⟩ : ∃ n5, n5 = (selTo (sumP L) k ++ [(k : Int)]).length := ⟨_, rfl⟩; rw [← hn5] at hown1; rw [← hn5]; clear hn5)
          have HG5 := Bx.mk (hG4.set 1 (.slice A5 n5 c5))
          have hoo : Only w2 (w4.setCell ⟨g, 1, none⟩ (.slice A5 n5 c5)) (some ⟨g, 0, none⟩) := (HN.out.after hb1).set _
          have HN5 := Bx.mk hoo
          have HO5 := Bx.mk (hown1.onlyAt ((Only.refl w4 (some ⟨g, 0, none⟩)).set (i := 1) (.slice A5 n5 c5)) (by omega))
          clear hoo hown1 hb1 hG4
          go_wp2_with fail
          go_roundw
          case rel => exact ⟨k + 1, _, by omega, by go_num, HG5.out, by rw [HH.out]; exact HO5.out, HN5.out⟩
          case measure => simp [intOf]; omega
        · have HH := Bx.mk (selTo_miss (p := sumP L) (k := k) (by unfold sumP; rw [Int.toNat_natCast, H4.out]; simpa using hp))
          have hp2 : x ≤ 0 := by omega
          go_wp2_with fail
          go_roundw
          case rel => exact ⟨k + 1, _, by omega, by go_num, HG.out, by rw [HH.out]; exact HO.out, HN.out⟩
          case measure => simp [intOf]; omega
      · have hks : k = s.toNat := by omega
        have HS2 : Bx (sumRl s xs s ys = selTo (sumP L) k) := ⟨by rw [HR9.out.2, HSS.out, hks]⟩
        clear hks
        have cr0 := HR.out.at_ (i := 0) rfl
        have cr1 := HR.out.at_ (i := 1) rfl
        have fr0 := HR.out.frozen 0
        have fr1 := HR.out.frozen 1
        have hln2 : (selTo (sumP L) k).length ≤ 17592186044415 := by omega
        have HF := Bx.mk ((HR.out.set 0 (.int .i64 s)).set 1 (.slice A' (selTo (sumP L) k).length c'))
        have HIO := Bx.mk (((HO.out.io' rfl hln2).setLow (p := ⟨gr, 0, none⟩) (show gr < w2.heap.size by omega) (.int .i64 s)).setLow (p := ⟨gr, 1, none⟩) (show gr < w2.heap.size by omega) (.slice A' (selTo (sumP L) k).length c'))
        have hbl : Below w.heap.size w wr := bw2.trans (HN.out.below bw2.size (by intro x hx; injection hx with hx; subst hx; simp; omega))
        have HBL := Bx.mk ((hbl.setCell (p := ⟨gr, 0, none⟩) hg4 (.int .i64 s)).setCell (p := ⟨gr, 1, none⟩) hg4 (.slice A' (selTo (sumP L) k).length c'))
        have hwm : w.heap.size ≤ w2.heap.size := by omega
        clear hbl
        go_wp2_with fail
        refine bodyPost_ret (v := .tuple #[.agg #[.int .i64 s, .slice A' (selTo (sumP L) k).length c'], .bool true]) (by simp [results, Try.results46, go_sem, HF.out.at_ (i := 0) rfl, HF.out.at_ (i := 1) rfl]) rfl ⟨A', c', ?_, ?_, HBL.out⟩
        · rw [HS2.out, HR9.out.1]
        · rw [HS2.out]; exact HIO.out.mono hwm
end Go.Proofs.Ytbgfhbaaacmndaa
