/- The rhythm of some numbers, and the map of a rhythm: the reference. -/
import Derived.Test.YtgfdmjhdfddopaaRot
import Derived.Test.YtgfdmjhdfddopaaTls
import Derived.Test.YtgfdmjhdfddopaaBas
import Derived.Test.YtgfdmjhdfddopaaHasB
namespace Go.Proofs.Ytgfdmjhdfddopaa
open Go.RowKit
set_option maxRecDepth 20000

set_option maxHeartbeats 1000000 in
theorem l02Of_any (n : Nat) (A : Option Addr) (cx : Nat) (xs : List Int) (w : World) (_hn1 : 1 ≤ n) (hn : n ≤ 24) (hx : IR w A xs) :
    Calls Try.prog 59 #[.int .i64 n, .slice A xs.length cx] w (GivesRh w n (selTo (memB xs) n)) := by
  obtain ⟨W0, hW0⟩ : ∃ W0, W0 = (w.alloc (.cells #[.int .i64 0, .slice none 0 0] 25)).alloc (.cells #[.int .i64 (n : Int), .slice none 0 0] 25) := ⟨_, rfl⟩
  have bw : Below w.heap.size w W0 := by rw [hW0]; exact (below_alloc _ _).alloc (by simp) _
  have hz : w.heap.size + 2 ≤ W0.heap.size := by rw [hW0]; simp
  have HR0 : Blk W0 w.heap.size 25 #[.int .i64 0, .slice none 0 0] := by rw [hW0]; exact (Blk.new w 25 #[.int .i64 0, .slice none 0 0]).alloc (.cells #[.int .i64 (n : Int), .slice none 0 0] 25)
  have HG0 : Blk W0 (w.heap.size + 1) 25 #[.int .i64 n, .slice none 0 0] := by rw [hW0]; have := Blk.new (w.alloc (.cells #[.int .i64 0, .slice none 0 0] 25)) 25 #[.int .i64 (n : Int), .slice none 0 0]; simpa using this
  obtain ⟨g, hg⟩ : ∃ g, g = w.heap.size + 1 := ⟨_, rfl⟩
  obtain ⟨gr, hgr⟩ : ∃ gr, gr = w.heap.size := ⟨_, rfl⟩
  rw [← hg] at HG0
  rw [← hgr] at HR0
  have hg2 : g < W0.heap.size := by omega
  have hg3 : gr < g := by omega
  have hg4 : w.heap.size ≤ gr := by omega
  have HI := Bx.mk ((RB.of_ir hx).below bw (Nat.le_refl _))
  clear hx
  go_enter Try.func59, Try.ntmps59
  go_wp2_with fail
  rw [← hW0, ← hg, ← hgr]
  clear hg hgr hW0
  go_loopw [6] (fun i wr => ∃ (k : Nat) (v : Value), k ≤ n ∧ i = .int .i64 k ∧ Blk wr g 25 #[.int .i64 n, v] ∧ Row wr W0.heap.size v (selTo (memB xs) k) ∧ Only W0 wr (some ⟨g, 0, none⟩)) (fun i _ => n - (intOf i).toNat)
  case atStart => exact ⟨0, _, by omega, rfl, HG0, Row.nil _ _, Only.refl _ _⟩
  case round =>
    obtain ⟨k, v, hk, rfl, hG, hrow, ho⟩ := hrel
    clear HG0
    obtain ⟨A', c', rfl⟩ := hrow.slice
    have hlen := selTo_len (memB xs) k
    have HO := Bx.mk hrow
    have HN := Bx.mk ho
    have HR := Bx.mk (HR0.onlyAt ho (by omega))
    have hzr := ho.size
    have cg0 := hG.at_ (i := 0) rfl
    have cg1 := hG.at_ (i := 1) rfl
    have fg1 := hG.frozen 1
    have HG := Bx.mk hG
    clear hrow ho hG
    by_cases hlt : k < n
    · have hlti : (k : Int) < n := by omega
      have hir := Bx.mk (IR.onlyAt HI.out HN.out (by omega))
      cases hm : memB xs (k : Int) with
      | true =>
        have HH := Bx.mk (selTo_hit (p := memB xs) (k := k) hm)
        go_wp2_with fail
        refine (l02Has_any _ _ _ _ _ (by exact hir.out)).mono ?_
        rw [hm]
        rintro e w2 ⟨rfl, rfl⟩
        go_wp2_with (at_builtin; go_must (refine wpList_app1 rfl _ _ rfl W0.heap.size _ (selTo (memB xs) k) (k : Int) rfl rfl (by exact HO.out) (by omega) (by exact hzr) ?_); intro v1 w4 hown1 hb1; have hG4 := HG.out.below hb1 (by omega); have cq1 := hG4.at_ (i := 1) rfl; have fq1 := hG4.frozen 1; obtain ⟨A5, c5, rfl⟩ := hown1.slice; obtain ⟨n5, hn5⟩ : ∃ n5, n5 = (selTo (memB xs) k ++ [(k : Int)]).length := ⟨_, rfl⟩; rw [← hn5] at hown1; rw [← hn5]; clear hn5)
        have HG5 := Bx.mk (hG4.set 1 (.slice A5 n5 c5))
        have hoo : Only W0 (w4.setCell ⟨g, 1, none⟩ (.slice A5 n5 c5)) (some ⟨g, 0, none⟩) := (HN.out.after hb1).set _
        have HN5 := Bx.mk hoo
        have HO5 := Bx.mk (hown1.onlyAt ((Only.refl w4 (some ⟨g, 0, none⟩)).set (i := 1) (.slice A5 n5 c5)) (by omega))
        clear hoo hown1 hb1 hG4
        go_wp2_with fail
        go_roundw
        case rel => exact ⟨k + 1, _, by omega, by go_num, HG5.out, by rw [HH.out]; exact HO5.out, HN5.out⟩
        case measure => simp [intOf]; omega
      | false =>
        have HH := Bx.mk (selTo_miss (p := memB xs) (k := k) hm)
        go_wp2_with fail
        refine (l02Has_any _ _ _ _ _ (by exact hir.out)).mono ?_
        rw [hm]
        rintro e w2 ⟨rfl, rfl⟩
        go_wp2_with fail
        go_roundw
        case rel => exact ⟨k + 1, _, by omega, by go_num, HG.out, by rw [HH.out]; exact HO.out, HN.out⟩
        case measure => simp [intOf]; omega
    · have hks : k = n := by omega
      have HS2 : Bx (selTo (memB xs) n = selTo (memB xs) k) := ⟨by rw [hks]⟩
      clear hks
      have cr0 := HR.out.at_ (i := 0) rfl
      have cr1 := HR.out.at_ (i := 1) rfl
      have fr0 := HR.out.frozen 0
      have fr1 := HR.out.frozen 1
      have hln2 : (selTo (memB xs) k).length ≤ 17592186044415 := by omega
      have HF := Bx.mk ((HR.out.set 0 (.int .i64 n)).set 1 (.slice A' (selTo (memB xs) k).length c'))
      have HIO := Bx.mk (((HO.out.io' rfl hln2).setLow (p := ⟨gr, 0, none⟩) (show gr < W0.heap.size by omega) (.int .i64 n)).setLow (p := ⟨gr, 1, none⟩) (show gr < W0.heap.size by omega) (.slice A' (selTo (memB xs) k).length c'))
      have hbl : Below w.heap.size w wr := bw.trans (HN.out.below bw.size (by intro x hx; injection hx with hx; subst hx; simp; omega))
      have HBL := Bx.mk ((hbl.setCell (p := ⟨gr, 0, none⟩) hg4 (.int .i64 n)).setCell (p := ⟨gr, 1, none⟩) hg4 (.slice A' (selTo (memB xs) k).length c'))
      have hwm : w.heap.size ≤ W0.heap.size := by omega
      clear hbl
      go_wp2_with fail
      refine bodyPost_ret (v := .agg #[.int .i64 n, .slice A' (selTo (memB xs) k).length c']) (by simp [results, Try.results59, go_sem, HF.out.at_ (i := 0) rfl, HF.out.at_ (i := 1) rfl]) rfl ⟨A', c', ?_, ?_, HBL.out⟩
      · rw [HS2.out]
      · rw [HS2.out]; exact HIO.out.mono hwm
end Go.Proofs.Ytgfdmjhdfddopaa
