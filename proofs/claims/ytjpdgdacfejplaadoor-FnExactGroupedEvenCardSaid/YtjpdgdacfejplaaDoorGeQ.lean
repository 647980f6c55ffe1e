/- The program's rhythm of a text. -/
import Derived.Test.YtjpdgdacfejplaaDoorGeP
import Derived.Test.YtjpdgdacfejplaaDoorBas
import Derived.Test.YtjpdgdacfejplaaDoorShRp
namespace Go.Proofs.YtjpdgdacfejplaaDoor
open Go.RowKit
set_option maxRecDepth 20000

set_option maxHeartbeats 4000000 in
theorem implParse_any (T : List UInt8) (n : Nat) (h1 : 1 ≤ n) (hn : n ≤ 24) (hl : T.length = n) (hc : ∀ c ∈ T, c = 120 ∨ c = 46) (w : World) :
    Calls Tryd.prog 12 #[.string ⟨T.toArray⟩] w (GivesRB w n (posL T n) true) := by
  obtain ⟨S, hS⟩ : ∃ S : ByteArray, S = ⟨T.toArray⟩ := ⟨_, rfl⟩
  have hSz : S.size = n := by rw [hS]; show T.toArray.size = n; simp [hl]
  have HG : Bx (∀ i (h : i < S.size), T[i]? = some (S[i]'h)) := ⟨fun i h => by
    have := ByteArray.getElem_eq_getElem_data (h := h)
    rw [this]; subst hS; simp⟩
  have HTR : Bx ((⟨(Lib.trimS S.data.toList [120, 46]).toArray⟩ : ByteArray) = ⟨#[]⟩) := ⟨by
    rw [show S.data.toList = T by rw [hS], trim_none hc]⟩
  have i1 : inB (n : Int) 1 24 = true := inB_yes (by omega)
  rw [← hS]
  clear hS hl hc
  obtain ⟨W0, hW0⟩ : ∃ W0, W0 = w.alloc (.cells #[.int .i64 0, .slice none 0 0] 24) := ⟨_, rfl⟩
  have bw : Below w.heap.size w W0 := by rw [hW0]; exact below_alloc _ _
  have hz : w.heap.size < W0.heap.size := by rw [hW0]; simp
  have R0 : Blk W0 w.heap.size 24 #[.int .i64 0, .slice none 0 0] := by rw [hW0]; exact Blk.new w _ _
  go_enter Tryd.func12, Tryd.ntmps12
  go_wp2_with fail
  rw [← hW0]
  clear hW0
  refine (within_any _ _ _ _).mono ?_
  rintro e w' ⟨rfl, rfl⟩
  rw [i1]
  go_wp2_with fail
  refine (trim_any S _ (by omega)).mono ?_
  rintro e w1 ⟨rfl, b⟩
  rw [HTR.out]
  replace R0 := R0.below b hz
  replace bw := bw.trans (b.mono bw.size)
  replace hz := Nat.lt_of_lt_of_le hz b.size
  clear b HTR i1
  obtain ⟨g8, hg8⟩ : ∃ g8, g8 = w1.heap.size := ⟨_, rfl⟩
  obtain ⟨W2, hW2⟩ : ∃ W2, W2 = w1.alloc (.cells #[.int .i64 (n : Int), .slice none 0 0] 24) := ⟨_, rfl⟩
  have b2 : Below w1.heap.size w1 W2 := by rw [hW2]; exact below_alloc _ _
  have HG0 : Bx (Blk W2 g8 24 #[.int .i64 (n : Int), .slice none 0 0]) := ⟨by rw [hW2, hg8]; exact Blk.new w1 _ _⟩
  have HR2 := Bx.mk (R0.below b2 hz)
  have HB2 := Bx.mk (bw.trans (b2.mono bw.size))
  have hg8l : g8 < W2.heap.size := by rw [hW2, hg8]; simp
  have hwg : w.heap.size < g8 := by omega
  clear bw hz R0 b2
  go_wp2_with fail
  rw [← hW2, ← hg8]
  clear hW2 hg8
  go_loopw [21] (fun iv wr => ∃ (i : Nat) (v : Value), i ≤ n ∧ iv = .int .i64 i ∧ Blk wr g8 24 #[.int .i64 (n : Int), v] ∧ Row wr W2.heap.size v (posL T i) ∧ Bx (Blk wr w.heap.size 24 #[.int .i64 0, .slice none 0 0]) ∧ Bx (Below w.heap.size w wr) ∧ W2.heap.size ≤ wr.heap.size) (fun iv _ => n - (intOf iv).toNat)
  case atStart => exact ⟨0, _, by omega, rfl, HG0.out, Row.nil _ _, HR2, HB2, Nat.le_refl _⟩
  case round =>
    clear HG0 HR2 HB2
    obtain ⟨i, v, hi, rfl, hG, hrow, HR, HW, hzr⟩ := hrel
    have hlen : (posL T i).length ≤ 24 := posL_len (by omega)
    by_cases hlt : i < n
    · have hli : (i : Int) < (n : Int) := by omega
      have hl24 : (i : Int) < 24 := by omega
      have hlS : i < S.size := by omega
      obtain ⟨c, hc⟩ : ∃ c, c = S[i]'hlS := ⟨_, rfl⟩
      have HT := Bx.mk (HG.out i hlS)
      rw [← hc] at HT
      have hcc : S[i]'hlS = c := hc.symm
      clear hc
      by_cases h120 : c = 120
      · subst h120
        have HS : Bx (posL T (i + 1) = posL T i ++ [(i : Int)]) := ⟨by rw [posL_succ, if_pos HT.out]⟩
        obtain ⟨A', c', rfl⟩ := hrow.slice
        have cg1 := hG.at_ (i := 1) rfl
        have fg1 := hG.frozen 1
        have HG2 := Bx.mk hG
        have HO2 := Bx.mk hrow
        clear hG hrow HT
        go_wp2_with (at_builtin; go_must (refine wpList_app1 rfl _ _ rfl W2.heap.size _ (posL T i) (i : Int) rfl rfl (by exact HO2.out) (by omega) (by exact hzr) ?_); intro v1 w4 hown1 hb1; have hG4 := HG2.out.below hb1 (by omega); have cq1 := hG4.at_ (i := 1) rfl; have fq1 := hG4.frozen 1; obtain ⟨A5, c5, rfl⟩ := hown1.slice; obtain ⟨n5, hn5⟩ : ∃ n5, n5 = (posL T i ++ [(i : Int)]).length := ⟨_, rfl⟩; rw [← hn5] at hown1; rw [← hn5]; clear hn5)
        have HG5 := Bx.mk (hG4.set 1 (.slice A5 n5 c5))
        have hoo : Only w4 (w4.setCell ⟨g8, 1, none⟩ (.slice A5 n5 c5)) (some ⟨g8, 0, none⟩) := (Only.refl w4 _).set _
        have HO5 := Bx.mk (hown1.onlyAt hoo (by omega))
        have HR5 := Bx.mk ((HR.out.below hb1 (by omega)).onlyAt hoo (by omega))
        have HW5 := Bx.mk ((HW.out.trans (hb1.mono (show w.heap.size ≤ W2.heap.size by omega))).setCell (p := ⟨g8, 1, none⟩) (show w.heap.size ≤ g8 by omega) (.slice A5 n5 c5))
        have hz5 : W2.heap.size ≤ (w4.setCell ⟨g8, 1, none⟩ (.slice A5 n5 c5)).heap.size := Nat.le_trans hzr (Nat.le_trans hb1.size hoo.size)
        clear hoo hown1 hb1 hG4
        go_wp2_with fail
        go_roundw
        case rel => exact ⟨i + 1, _, by omega, by go_num, HG5.out, by rw [HS.out]; exact HO5.out, HR5, HW5, hz5⟩
        case measure => simp [intOf]; omega
      · have HS : Bx (posL T (i + 1) = posL T i) := ⟨by rw [posL_succ, if_neg (by rw [HT.out]; simpa using h120)]⟩
        have hcb : ((c.toNat : Int) == 120) = false := by
          rw [beq_eq_false_iff_ne]; intro h
          exact h120 (UInt8.toNat_inj.1 (by show c.toNat = 120; omega))
        have HG2 := Bx.mk hG
        have HO2 := Bx.mk hrow
        clear hG hrow HT
        go_wp2_with fail
        go_roundw
        case rel => exact ⟨i + 1, v, by omega, by go_num, HG2.out, by rw [HS.out]; exact HO2.out, HR, HW, hzr⟩
        case measure => simp [intOf]; omega
    · have hie : i = n := by omega
      subst hie
      obtain ⟨A', c', rfl⟩ := hrow.slice
      have cg0 := hG.at_ (i := 0) rfl
      have cg1 := hG.at_ (i := 1) rfl
      have HIR := Bx.mk (hrow.io' rfl (by omega))
      have HB := Bx.mk hG
      clear hG hrow
      have R3 := HR.out
      have cr0 := R3.at_ (i := 0) rfl
      have cr1 := R3.at_ (i := 1) rfl
      have fr0 := R3.frozen 0
      have fr1 := R3.frozen 1
      have RF := Bx.mk ((R3.set 0 (.int .i64 (i : Int))).set 1 (.slice A' (posL T i).length c'))
      have hw2 : w.heap.size < W2.heap.size := by omega
      have HBL := Bx.mk ((HW.out.setCell (p := ⟨w.heap.size, 0, none⟩) (Nat.le_refl w.heap.size) (.int .i64 (i : Int))).setCell (p := ⟨w.heap.size, 1, none⟩) (Nat.le_refl w.heap.size) (.slice A' (posL T i).length c'))
      have HIO := Bx.mk (((HIR.out.setLow (p := ⟨w.heap.size, 0, none⟩) hw2 (.int .i64 (i : Int))).setLow (p := ⟨w.heap.size, 1, none⟩) hw2 (.slice A' (posL T i).length c')).mono (show w.heap.size ≤ W2.heap.size by omega))
      clear R3
      go_wp2_with fail
      exact bodyPost_ret (v := .tuple #[.agg #[.int .i64 (i : Int), .slice A' (posL T i).length c'], .bool true]) (by simp [results, Tryd.results12, go_sem, RF.out.at_ (i := 0) rfl, RF.out.at_ (i := 1) rfl]) rfl ⟨A', c', rfl, HIO.out, HBL.out⟩
end Go.Proofs.YtjpdgdacfejplaaDoor
