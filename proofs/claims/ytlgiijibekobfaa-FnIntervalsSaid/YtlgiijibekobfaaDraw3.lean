/- The draws out of a code: some rhythm of some size. -/
import Derived.Test.YtlgiijibekobfaaDraw2
namespace Go.Proofs.Ytlgiijibekobfaa
open Go.RowKit

theorem only_bel {a b c : World} {A : Option Addr} {B : Nat} (h : Only a b A) (hb : Below B b c) (hB : a.heap.size ≤ B) : Only a c A :=
  ⟨hb.os.trans h.os, hb.tape.trans h.tape, hb.output.trans h.output, Nat.le_trans h.size hb.size, fun i hi hn => (hb.block i (by omega)).trans (h.block i hi hn)⟩
theorem only_far {a b c : World} {A : Option Addr} {g : Nat} (h : Only a b A) (o : Only b c (some ⟨g, 0, none⟩)) (hg : a.heap.size ≤ g) : Only a c A :=
  ⟨o.os.trans h.os, o.tape.trans h.tape, o.output.trans h.output, Nat.le_trans h.size o.size, fun i hi hn => (o.block i (Nat.lt_of_lt_of_le hi h.size) (by simp; omega)).trans (h.block i hi hn)⟩
theorem only_set {a b : World} {A : Option Addr} {g : Nat} (h : Only a b A) (hg : a.heap.size ≤ g) (i : Nat) (v : Value) : Only a (b.setCell ⟨g, i, none⟩ v) A := only_far h ((Only.refl b _).set v) hg
def GivesSomeN (w : World) (m : Nat) (e : Ending) (w' : World) : Prop := ∃ s : Nat, 1 ≤ s ∧ s ≤ m ∧ GivesSome w s e w'
set_option maxHeartbeats 2000000 in
theorem l02Draw_any (g : Nat) (A : Option Addr) (n c m : Nat) (w : World) (h1 : 1 ≤ m) (hm : m ≤ 24) (h : Cur w g A n c) (hA0 : 0 < n → ∀ x, A = some x → x.block < w.heap.size) :
    Calls Try.prog 84 #[.pointer (some ⟨g, 0, none⟩), .int .i64 m] w fun e w' => ∃ s : Nat, 1 ≤ s ∧ s ≤ m ∧ ∃ xs, rhOk s xs = true ∧ ∃ B d, e = .returned (.agg #[.int .i64 s, .slice B xs.length d]) ∧ IO w' w.heap.size B d xs ∧ Only w w' (some ⟨g, 0, none⟩) := by
  obtain ⟨W0, hW0⟩ : ∃ W0, W0 = w.alloc (.cells #[.int .i64 0, .slice none 0 0] 30) := ⟨_, rfl⟩
  have bw : Below w.heap.size w W0 := by rw [hW0]; exact below_alloc _ _
  have hz : w.heap.size < W0.heap.size := by rw [hW0]; simp
  have R0 : Blk W0 w.heap.size 30 #[.int .i64 0, .slice none 0 0] := by rw [hW0]; exact Blk.new w _ _
  have HA := Bx.mk hA0
  have hgw := h.lt
  have HC := Bx.mk (h.below bw)
  clear h hA0
  go_enter Try.func84, Try.ntmps84
  go_wp2_with fail
  rw [← hW0]
  clear hW0
  refine (l01Below_any g A n c m _ h1 (by omega) (by exact HC.out)).mono ?_
  rintro e w1 ⟨x, hx, rfl, hc, o⟩
  have HC1 := Bx.mk hc
  have R1 := R0.onlyAt o (by omega)
  have HO1 := Bx.mk (Only.trans (Only.of_below (some ⟨g, 0, none⟩) bw) o)
  have hz1 : w.heap.size < w1.heap.size := Nat.lt_of_lt_of_le hz o.size
  obtain ⟨s, hs⟩ : ∃ s : Nat, s = 1 + x := ⟨_, rfl⟩
  have hsi : (1 : Int) + (x : Int) = (s : Int) := by omega
  have hs1 : 1 ≤ s := by omega
  have hsm : s ≤ m := by omega
  have hs24 : s ≤ 24 := by omega
  clear hc o R0 hs hx bw hz
  obtain ⟨W2, hW2⟩ : ∃ W2, W2 = w1.alloc (.cells #[.int .i64 (s : Int), .slice none 0 0] 30) := ⟨_, rfl⟩
  obtain ⟨g8, hg8⟩ : ∃ g8, g8 = w1.heap.size := ⟨_, rfl⟩
  have b2 : Below w1.heap.size w1 W2 := by rw [hW2]; exact below_alloc _ _
  have HG0 : Bx (Blk W2 g8 30 #[.int .i64 (s : Int), .slice none 0 0]) := ⟨by rw [hW2, hg8]; exact Blk.new w1 _ _⟩
  have HC2 := Bx.mk (HC1.out.below b2)
  have R2 := R1.below b2 hz1
  have HBW := Bx.mk (only_bel HO1.out b2 (by omega))
  have hg8l : g8 < W2.heap.size := by rw [hW2, hg8]; simp
  have hwg : w.heap.size < g8 := by omega
  clear HC HC1 R1 HO1 b2
  go_wp2_with fail
  rw [← hW2, ← hg8]
  clear hW2 hg8
  have HR2 := Bx.mk R2
  clear R2
  go_loopw [7] (fun iv wr => ∃ (p : Nat) (v : Value) (xs : List Int), p ≤ s ∧ iv = .int .i64 p ∧ Bx (Cur wr g A n c) ∧ Blk wr g8 30 #[.int .i64 (s : Int), v] ∧ Row wr W2.heap.size v xs ∧ Bx (xs.Pairwise (· < ·) ∧ ∀ x ∈ xs, 0 ≤ x ∧ x < p) ∧ Bx (Blk wr w.heap.size 30 #[.int .i64 0, .slice none 0 0]) ∧ Bx (Only w wr (some ⟨g, 0, none⟩)) ∧ W2.heap.size ≤ wr.heap.size) (fun iv _ => s - (intOf iv).toNat)
  case atStart => exact ⟨0, _, [], by omega, rfl, HC2, HG0.out, Row.nil _ _, ⟨List.Pairwise.nil, fun x hx => by cases hx⟩, HR2, HBW, Nat.le_refl _⟩
  case round =>
    clear HG0 HR2 HBW HC2
    obtain ⟨p, v, xs, hp, rfl, HC, hG, hrow, HX, HR, HW, hzr⟩ := hrel
    have hlen : xs.length ≤ 24 := (rhOk_len (s := 24) (rhOk_iff.2 ⟨by omega, fun x hx => by have := HX.out.2 x hx; omega, HX.out.1⟩)).1
    have cg0 := hG.at_ (i := 0) rfl
    by_cases hlt : p < s
    · have hli : (p : Int) < (s : Int) := by omega
      have HG := Bx.mk hG
      have HO := Bx.mk hrow
      clear hG hrow
      go_wp2_with fail
      refine (l01Once_any g A n c _ (by exact HC.out)).mono ?_
      rintro e w2 ⟨b, rfl, hc, o⟩
      have hG2 := HG.out.onlyAt o (show g8 ≠ g by omega)
      have hrow2 := HO.out.onlyAt o (by omega)
      have HR2 := Bx.mk (HR.out.onlyAt o (by omega))
      have HW2 := Bx.mk (HW.out.trans o)
      have HC2 := Bx.mk hc
      have hz2 : W2.heap.size ≤ w2.heap.size := Nat.le_trans hzr o.size
      clear hc o HG HO HC cg0
      cases b with
      | false =>
        have HG2 := Bx.mk hG2
        have HO2 := Bx.mk hrow2
        clear hG2 hrow2
        go_wp2_with fail
        go_roundw
        case rel => exact ⟨p + 1, v, xs, by omega, by go_num, HC2, HG2.out, HO2.out, ⟨HX.out.1, fun x hx => by have := HX.out.2 x hx; omega⟩, HR2, HW2, hz2⟩
        case measure => simp [intOf]; omega
      | true =>
        obtain ⟨A', c', rfl⟩ := hrow2.slice
        have cg1 := hG2.at_ (i := 1) rfl
        have fg1 := hG2.frozen 1
        have HG2 := Bx.mk hG2
        have HO2 := Bx.mk hrow2
        clear hG2 hrow2
        go_wp2_with (at_builtin; go_must (refine wpList_app1 rfl _ _ rfl W2.heap.size _ xs (p : Int) rfl rfl (by exact HO2.out) (by omega) (by exact hz2) ?_); intro v1 w4 hown1 hb1; have hG4 := HG2.out.below hb1 (by omega); have cq1 := hG4.at_ (i := 1) rfl; have fq1 := hG4.frozen 1; obtain ⟨A5, c5, rfl⟩ := hown1.slice; obtain ⟨n5, hn5⟩ : ∃ n5, n5 = (xs ++ [(p : Int)]).length := ⟨_, rfl⟩; rw [← hn5] at hown1; rw [← hn5]; clear hn5)
        have HG5 := Bx.mk (hG4.set 1 (.slice A5 n5 c5))
        have hoo : Only w4 (w4.setCell ⟨g8, 1, none⟩ (.slice A5 n5 c5)) (some ⟨g8, 0, none⟩) := (Only.refl w4 _).set _
        have HO5 := Bx.mk (hown1.onlyAt hoo (by omega))
        have HC5 := Bx.mk (cur_only (HC2.out.below' hb1 (by omega) (fun h0 x hx => by have := HA.out h0 x hx; omega)) hoo (by omega) (fun h0 x hx => by have := HA.out h0 x hx; omega))
        have HR5 := Bx.mk ((HR2.out.below hb1 (by omega)).onlyAt hoo (by omega))
        have HW5 := Bx.mk (only_far (only_bel HW2.out hb1 (by omega)) hoo (by omega))
        have hz5 : W2.heap.size ≤ (w4.setCell ⟨g8, 1, none⟩ (.slice A5 n5 c5)).heap.size := Nat.le_trans hz2 (Nat.le_trans hb1.size hoo.size)
        have HX5 : Bx ((xs ++ [(p : Int)]).Pairwise (· < ·) ∧ ∀ x ∈ xs ++ [(p : Int)], 0 ≤ x ∧ x < ((p + 1 : Nat) : Int)) := ⟨List.pairwise_append.2 ⟨HX.out.1, by simp, fun x hx y hy => by rw [List.mem_singleton] at hy; have := HX.out.2 x hx; omega⟩, fun x hx => by
          rcases List.mem_append.1 hx with h | h
          · have := HX.out.2 x h; omega
          · rw [List.mem_singleton] at h; omega⟩
        clear hoo hown1 hb1 hG4
        go_wp2_with fail
        go_roundw
        case rel => exact ⟨p + 1, _, xs ++ [(p : Int)], by omega, by go_num, HC5, HG5.out, HO5.out, HX5, HR5, HW5, hz5⟩
        case measure => simp [intOf]; omega
    · have hpe : p = s := by omega
      have hli : ¬ (p : Int) < (s : Int) := by omega
      obtain ⟨A', c', rfl⟩ := hrow.slice
      have cg1 := hG.at_ (i := 1) rfl
      have cr0 := HR.out.at_ (i := 0) rfl
      have cr1 := HR.out.at_ (i := 1) rfl
      have fr0 := HR.out.frozen 0
      have fr1 := HR.out.frozen 1
      have HF := Bx.mk ((HR.out.set 0 (.int .i64 (s : Int))).set 1 (.slice A' xs.length c'))
      have hwl : w.heap.size < W2.heap.size := by omega
      have HIO := Bx.mk (((hrow.io' rfl (by omega)).setLow (p := ⟨w.heap.size, 0, none⟩) hwl (.int .i64 (s : Int))).setLow (p := ⟨w.heap.size, 1, none⟩) hwl (.slice A' xs.length c'))
      have HBL := Bx.mk (only_set (only_set HW.out (show w.heap.size ≤ w.heap.size from Nat.le_refl _) 0 (.int .i64 (s : Int))) (show w.heap.size ≤ w.heap.size from Nat.le_refl _) 1 (.slice A' xs.length c'))
      have HOK : Bx (rhOk (s : Int) xs = true) := ⟨rhOk_iff.2 ⟨by omega, fun x hx => by have := HX.out.2 x hx; omega, HX.out.1⟩⟩
      clear hG hrow
      go_wp2_with fail
      exact bodyPost_ret (v := .agg #[.int .i64 (s : Int), .slice A' xs.length c']) (by simp [results, Try.results84, go_sem, HF.out.at_ (i := 0) rfl, HF.out.at_ (i := 1) rfl]) rfl ⟨s, hs1, hsm, xs, HOK.out, A', c', rfl, HIO.out.mono (by omega), HBL.out⟩
set_option maxHeartbeats 2000000 in
theorem makeRhythm_any (A : Option Addr) (n c k : Nat) (w : World) (hk : k ≤ 1000) (hb : BR w A n) :
    Calls Try.prog 44 #[.slice A n c, .int .i64 k, .int .i64 16] w (GivesSomeN w 16) := by
  obtain ⟨W0, hW0⟩ : ∃ W0, W0 = w.alloc (.cells #[.int .i64 0, .slice none 0 0] 30) := ⟨_, rfl⟩
  have bw : Below w.heap.size w W0 := by rw [hW0]; exact below_alloc _ _
  have hz : w.heap.size < W0.heap.size := by rw [hW0]; simp
  have R0 : Blk W0 w.heap.size 30 #[.int .i64 0, .slice none 0 0] := by rw [hW0]; exact Blk.new w _ _
  have HA : Bx (0 < n → ∀ x, A = some x → x.block < w.heap.size) := ⟨fun h0 => hb.lt h0⟩
  have HB := Bx.mk (hb.below bw)
  clear hb
  go_enter Try.func44, Try.ntmps44
  go_wp2_with fail
  rw [← hW0]
  clear hW0
  refine (l31New_any A n c k _ hk (by exact HB.out)).mono ?_
  rintro e w1 ⟨g, rfl, hg, hc, b1⟩
  have HC1 := Bx.mk hc
  have R1 := R0.below b1 hz
  have bw1 := bw.trans (b1.mono bw.size)
  have hz1 : W0.heap.size ≤ w1.heap.size := b1.size
  clear hc b1 R0
  go_wp2_with fail
  refine (l02Draw_any g A n c 16 _ (by omega) (by omega) (by exact HC1.out) (fun h0 x hx => by have := HA.out h0 x hx; omega)).mono ?_
  rintro e w2 ⟨s, hs1, hsm, xs, hok, B, d, rfl, io, o⟩
  have R2 := R1.onlyAt o (by omega)
  have bw2 := bw1.trans (o.below (B := w.heap.size) (by omega) (fun x hx => by injection hx with hx; subst hx; simp; omega))
  have cr0 := R2.at_ (i := 0) rfl
  have cr1 := R2.at_ (i := 1) rfl
  have fr0 := R2.frozen 0
  have fr1 := R2.frozen 1
  have RF := Bx.mk ((R2.set 0 (.int .i64 (s : Int))).set 1 (.slice B xs.length d))
  have BF := Bx.mk ((bw2.setCell (p := ⟨w.heap.size, 0, none⟩) (Nat.le_refl _) (.int .i64 (s : Int))).setCell (p := ⟨w.heap.size, 1, none⟩) (Nat.le_refl _) (.slice B xs.length d))
  have hwl : w.heap.size < w1.heap.size := by omega
  have HIO := Bx.mk ((io.setLow (p := ⟨w.heap.size, 0, none⟩) hwl (.int .i64 (s : Int))).setLow (p := ⟨w.heap.size, 1, none⟩) hwl (.slice B xs.length d))
  have HOK := Bx.mk hok
  clear R2 R1 io o hok
  go_wp2_with fail
  exact bodyPost_ret (v := .agg #[.int .i64 (s : Int), .slice B xs.length d]) (by simp [results, Try.results44, go_sem, RF.out.at_ (i := 0) rfl, RF.out.at_ (i := 1) rfl]) rfl ⟨s, hs1, hsm, xs, HOK.out, B, d, rfl, HIO.out.mono (by omega), BF.out⟩
end Go.Proofs.Ytlgiijibekobfaa
