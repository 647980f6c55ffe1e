/- The reference's rhythm of a text. -/
import Derived.Test.YtjpdgdacfejplaaDoorGeF
import Derived.Test.YtjpdgdacfejplaaDoorBas
import Derived.Test.YtjpdgdacfejplaaDoorTls
import Derived.Lib.Strings
namespace Go.Proofs.YtjpdgdacfejplaaDoor
open Go.RowKit
set_option maxRecDepth 20000

theorem posL_pw (T : List UInt8) (i : Nat) : (posL T i).Pairwise (· < ·) := by
  unfold posL
  rw [List.pairwise_map]
  exact (List.pairwise_lt_range.filter _).imp fun h => by omega
theorem posL_in {T : List UInt8} {i : Nat} {x : Int} (h : x ∈ posL T i) : 0 ≤ x ∧ x < i := by
  unfold posL at h
  obtain ⟨j, hj, rfl⟩ := List.mem_map.1 h
  have := List.mem_range.1 (List.mem_filter.1 hj).1
  omega
theorem posL_ok {T : List UInt8} {n : Nat} (h1 : 1 ≤ n) (h : n ≤ 24) : rhOk n (posL T n) = true :=
  rhOk_iff.2 ⟨by omega, fun x hx => by have := posL_in hx; omega, posL_pw T n⟩
theorem posL_len {T : List UInt8} {n : Nat} (h : n ≤ 24) : (posL T n).length ≤ 24 := by
  unfold posL
  rw [List.length_map]
  exact Nat.le_trans (List.length_filter_le _ _) (by rw [List.length_range]; exact h)
set_option maxHeartbeats 4000000 in
theorem specParse_any (T : List UInt8) (n : Nat) (h1 : 1 ≤ n) (hn : n ≤ 24) (hl : T.length = n) (hf : fmL (posL T n) n = T) (w : World) :
    Calls Tryd.prog 10 #[.string ⟨T.toArray⟩] w (GivesRB w n (posL T n) true) := by
  obtain ⟨S, hS⟩ : ∃ S : ByteArray, S = ⟨T.toArray⟩ := ⟨_, rfl⟩
  have hSz : S.size = n := by rw [hS]; show T.toArray.size = n; simp [hl]
  have HG : Bx (∀ i (h : i < S.size), T[i]? = some (S[i]'h)) := ⟨fun i h => by
    have := ByteArray.getElem_eq_getElem_data (h := h)
    rw [this]; subst hS; simp⟩
  have hSe : S.toList.isEmpty = false := by
    rw [ByteArray.toList_eq]
    cases hl2 : S.data.toList with
    | nil => rw [Lib.size_eq, hl2] at hSz; simp at hSz; omega
    | cons _ _ => rfl
  have hSn : ¬ S.toList = [] := by intro h; rw [h] at hSe; cases hSe
  have HF : Bx ((⟨(fmL (posL T n) n).toArray⟩ : ByteArray) = S) := ⟨by rw [hf, hS]⟩
  have HOK : Bx (rhOk n (posL T n) = true) := ⟨posL_ok h1 hn⟩
  rw [← hS]
  clear hS hf hl
  obtain ⟨W0, hW0⟩ : ∃ W0, W0 = w.alloc (.cells #[.int .i64 0, .slice none 0 0] 24) := ⟨_, rfl⟩
  have bw : Below w.heap.size w W0 := by rw [hW0]; exact below_alloc _ _
  have hz : w.heap.size < W0.heap.size := by rw [hW0]; simp
  have R0 : Blk W0 w.heap.size 24 #[.int .i64 0, .slice none 0 0] := by rw [hW0]; exact Blk.new w _ _
  obtain ⟨g8, hg8⟩ : ∃ g8, g8 = w.heap.size + 1 := ⟨_, rfl⟩
  have hg80 : W0.heap.size = g8 := by rw [hW0, hg8]; simp
  obtain ⟨W2, hW2⟩ : ∃ W2, W2 = W0.alloc (.cells #[.int .i64 (n : Int), .slice none 0 0] 24) := ⟨_, rfl⟩
  have b2 : Below W0.heap.size W0 W2 := by rw [hW2]; exact below_alloc _ _
  have HG0 : Bx (Blk W2 g8 24 #[.int .i64 (n : Int), .slice none 0 0]) := ⟨by rw [hW2, ← hg80]; exact Blk.new W0 _ _⟩
  have HR2 := Bx.mk (R0.below b2 hz)
  have HB2 := Bx.mk (bw.trans (b2.mono bw.size))
  have hg8l : g8 < W2.heap.size := by rw [hW2, ← hg80]; simp
  have hwg : w.heap.size < g8 := by omega
  clear bw hz R0 b2 hg80
  go_enter Tryd.func10, Tryd.ntmps10
  go_wp2_with fail
  rw [← hW0, ← hW2, ← hg8]
  clear hW2 hW0 hg8
  go_loopw [5] (fun iv wr => ∃ (i : Nat) (v : Value), i ≤ n ∧ iv = .int .i64 i ∧ Blk wr g8 24 #[.int .i64 (n : Int), v] ∧ Row wr W2.heap.size v (posL T i) ∧ Bx (Blk wr w.heap.size 24 #[.int .i64 0, .slice none 0 0]) ∧ Bx (Below w.heap.size w wr) ∧ W2.heap.size ≤ wr.heap.size) (fun iv _ => n - (intOf iv).toNat)
  case atStart => exact ⟨0, _, by omega, rfl, HG0.out, Row.nil _ _, HR2, HB2, Nat.le_refl _⟩
  case round =>
    clear HG0 HR2 HB2
    obtain ⟨i, v, hi, rfl, hG, hrow, HR, HW, hzr⟩ := hrel
    have hlen : (posL T i).length ≤ 24 := posL_len (by omega)
    by_cases hlt : i < n
    · have hli : (i : Int) < (n : Int) := by omega
      have hl24 : (i : Int) < 24 := by omega
      have hlS : i < S.size := by omega
      obtain ⟨c, hc⟩ : ∃ c, c = S[i]'hlS := ⟨_, rfl⟩
      have HT := Bx.mk (HG.out i hlS)
      rw [← hc] at HT
      have hcc : S[i]'hlS = c := hc.symm
      clear hc
      by_cases h120 : c = 120
      · subst h120
        have HS : Bx (posL T (i + 1) = posL T i ++ [(i : Int)]) := ⟨by rw [posL_succ, if_pos HT.out]⟩
        obtain ⟨A', c', rfl⟩ := hrow.slice
        have cg1 := hG.at_ (i := 1) rfl
        have fg1 := hG.frozen 1
        have HG2 := Bx.mk hG
        have HO2 := Bx.mk hrow
        clear hG hrow HT
        go_wp2_with (at_builtin; go_must (refine wpList_app1 rfl _ _ rfl W2.heap.size _ (posL T i) (i : Int) rfl rfl (by exact HO2.out) (by omega) (by exact hzr) ?_); intro v1 w4 hown1 hb1; have hG4 := HG2.out.below hb1 (by omega); have cq1 := hG4.at_ (i := 1) rfl; have fq1 := hG4.frozen 1; obtain ⟨A5, c5, rfl⟩ := hown1.slice; obtain ⟨n5, hn5⟩ : ∃ n5, n5 = (posL T i ++ [(i : Int)]).length := ⟨_, rfl⟩; rw [← hn5] at hown1; rw [← hn5]; clear hn5)
        have HG5 := Bx.mk (hG4.set 1 (.slice A5 n5 c5))
        have hoo : Only w4 (w4.setCell ⟨g8, 1, none⟩ (.slice A5 n5 c5)) (some ⟨g8, 0, none⟩) := (Only.refl w4 _).set _
        have HO5 := Bx.mk (hown1.onlyAt hoo (by omega))
        have HR5 := Bx.mk ((HR.out.below hb1 (by omega)).onlyAt hoo (by omega))
        have HW5 := Bx.mk ((HW.out.trans (hb1.mono (show w.heap.size ≤ W2.heap.size by omega))).setCell (p := ⟨g8, 1, none⟩) (show w.heap.size ≤ g8 by omega) (.slice A5 n5 c5))
        have hz5 : W2.heap.size ≤ (w4.setCell ⟨g8, 1, none⟩ (.slice A5 n5 c5)).heap.size := Nat.le_trans hzr (Nat.le_trans hb1.size hoo.size)
        clear hoo hown1 hb1 hG4
        go_wp2_with fail
        go_roundw
        case rel => exact ⟨i + 1, _, by omega, by go_num, HG5.out, by rw [HS.out]; exact HO5.out, HR5, HW5, hz5⟩
        case measure => simp [intOf]; omega
      · have HS : Bx (posL T (i + 1) = posL T i) := ⟨by rw [posL_succ, if_neg (by rw [HT.out]; simpa using h120)]⟩
        have hcb : ((c.toNat : Int) == 120) = false := by
          rw [beq_eq_false_iff_ne]; intro h
          exact h120 (UInt8.toNat_inj.1 (by show c.toNat = 120; omega))
        have HG2 := Bx.mk hG
        have HO2 := Bx.mk hrow
        clear hG hrow HT
        go_wp2_with fail
        go_roundw
        case rel => exact ⟨i + 1, v, by omega, by go_num, HG2.out, by rw [HS.out]; exact HO2.out, HR, HW, hzr⟩
        case measure => simp [intOf]; omega
    · have hie : i = n := by omega
      subst hie
      obtain ⟨A', c', rfl⟩ := hrow.slice
      have cg0 := hG.at_ (i := 0) rfl
      have cg1 := hG.at_ (i := 1) rfl
      have HIR := Bx.mk (hrow.io' rfl (by omega))
      have HB := Bx.mk hG
      clear hG hrow
      go_wp2_with fail
      refine (specFmt_any i A' c' (posL T i) _ HOK.out (by exact HIR.out.reads)).mono ?_
      rintro e w3 ⟨rfl, b⟩
      rw [HF.out]
      have hwr : w.heap.size < wr.heap.size := HR.out.lt
      have hG3 := HB.out.below b (by omega)
      replace cg0 := hG3.at_ (i := 0) rfl
      replace cg1 := hG3.at_ (i := 1) rfl
      have R3 := HR.out.below b hwr
      have cr0 := R3.at_ (i := 0) rfl
      have cr1 := R3.at_ (i := 1) rfl
      have fr0 := R3.frozen 0
      have fr1 := R3.frozen 1
      have IO3 := HIR.out.below b (Nat.le_refl _)
      have RF := Bx.mk ((R3.set 0 (.int .i64 (i : Int))).set 1 (.slice A' (posL T i).length c'))
      have hw2 : w.heap.size < W2.heap.size := by omega
      have HBL := Bx.mk (((HW.out.trans (b.mono HW.out.size)).setCell (p := ⟨w.heap.size, 0, none⟩) (Nat.le_refl w.heap.size) (.int .i64 (i : Int))).setCell (p := ⟨w.heap.size, 1, none⟩) (Nat.le_refl w.heap.size) (.slice A' (posL T i).length c'))
      have HIO := Bx.mk (((IO3.setLow (p := ⟨w.heap.size, 0, none⟩) hw2 (.int .i64 (i : Int))).setLow (p := ⟨w.heap.size, 1, none⟩) hw2 (.slice A' (posL T i).length c')).mono (show w.heap.size ≤ W2.heap.size by omega))
      clear hG3 R3 IO3 b
      go_wp2_with fail
      exact bodyPost_ret (v := .tuple #[.agg #[.int .i64 (i : Int), .slice A' (posL T i).length c'], .bool true]) (by simp [results, Tryd.results10, go_sem, RF.out.at_ (i := 0) rfl, RF.out.at_ (i := 1) rfl]) rfl ⟨A', c', rfl, HIO.out, HBL.out⟩
end Go.Proofs.YtjpdgdacfejplaaDoor
