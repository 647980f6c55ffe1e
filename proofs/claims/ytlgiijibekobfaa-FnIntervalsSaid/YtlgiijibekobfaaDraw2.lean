/- The draws out of a code: some rhythm. -/
import Derived.Test.YtlgiijibekobfaaDraw
import Derived.Test.YtlgiijibekobfaaCm
namespace Go.Proofs.Ytlgiijibekobfaa
open Go.RowKit

theorem Cur.below' {w w' : World} {g n c B : Nat} {A : Option Addr} (h : Cur w g A n c) (hb : Below B w w') (hB : g < B) (hA : 0 < n → ∀ x, A = some x → x.block < B) : Cur w' g A n c :=
  ⟨by obtain ⟨i, q, h1, h2, h3⟩ := h.blk; exact ⟨i, q, h1, h2, h3.below hb hB⟩, ⟨h.br.1, fun h0 => by
    obtain ⟨b, o, e, hlt, hc⟩ := h.br.2 h0
    refine ⟨b, o, e, Nat.lt_of_lt_of_le hlt hb.size, fun k hk => ?_⟩
    obtain ⟨x, hx, hc⟩ := hc k hk
    exact ⟨x, hx, (hb.cell (p := ⟨b, o + k, none⟩) (show b < B from hA h0 ⟨b, o, none⟩ e)).trans hc⟩⟩, h.ne⟩
theorem cur_only {w w' : World} {g n c g' : Nat} {A : Option Addr} (h : Cur w g A n c) (o : Only w w' (some ⟨g', 0, none⟩)) (hne : g ≠ g') (hA : 0 < n → ∀ x, A = some x → x.block ≠ g') : Cur w' g A n c :=
  ⟨by obtain ⟨i, q, h1, h2, h3⟩ := h.blk; exact ⟨i, q, h1, h2, h3.onlyAt o hne⟩, by
    by_cases h0 : 0 < n
    · exact h.br.only o (hA h0)
    · exact ⟨h.br.1, fun h => absurd h h0⟩, h.ne⟩
set_option maxHeartbeats 1000000 in
theorem l01Below_any (g : Nat) (A : Option Addr) (n c m : Nat) (w : World) (h1 : 1 ≤ m) (hm : m ≤ 256) (h : Cur w g A n c) :
    Calls Try.prog 98 #[.pointer (some ⟨g, 0, none⟩), .int .i64 m] w fun e w' => ∃ x : Nat, x < m ∧ e = .returned (.int .i64 x) ∧ Cur w' g A n c ∧ Only w w' (some ⟨g, 0, none⟩) := by
  have HC := Bx.mk h
  clear h
  have hm0 : ¬ (m : Int) ≤ 0 := by omega
  have hm1 : (m : Int) ≤ 256 := by omega
  have hmn : ¬ (m : Int) = 0 := by omega
  go_enter Try.func98, Try.ntmps98
  go_wp2_with fail
  refine (l01Byte_any g A n c _ (by exact HC.out)).mono ?_
  rintro e w1 ⟨x, hx, rfl, hc, o⟩
  have HC1 := Bx.mk hc
  have HO1 := Bx.mk o
  have hlt : x % m < m := Nat.mod_lt _ (by omega)
  obtain ⟨y, hy⟩ : ∃ y, y = x % m := ⟨_, rfl⟩
  have hmod : (x : Int).tmod (m : Int) = (y : Int) := by rw [hy]; exact (Int.ofNat_tmod x m).symm
  have hmod2 : (x : Int) % (m : Int) = (y : Int) := by rw [hy]; exact (Int.natCast_emod x m).symm
  rw [← hy] at hlt
  clear hc o hy
  go_wp2_with fail
  go_ret
  exact ⟨y, hlt, ret_int (by first | exact hmod2 | exact hmod | rfl), HC1.out, HO1.out⟩
set_option maxHeartbeats 1000000 in
theorem l01Once_any (g : Nat) (A : Option Addr) (n c : Nat) (w : World) (h : Cur w g A n c) :
    Calls Try.prog 66 #[.pointer (some ⟨g, 0, none⟩), .int .i64 2] w fun e w' => ∃ b : Bool, e = .returned (.bool b) ∧ Cur w' g A n c ∧ Only w w' (some ⟨g, 0, none⟩) := by
  have HC := Bx.mk h
  clear h
  go_enter Try.func66, Try.ntmps66
  go_wp2_with fail
  refine (l01Below_any g A n c 2 _ (by omega) (by omega) (by exact HC.out)).mono ?_
  rintro e w1 ⟨x, hx, rfl, hc, o⟩
  have HR := Bx.mk (And.intro hc o)
  clear hc o
  go_wp2_with fail
  go_ret
  exact ⟨_, rfl, HR.out.1, HR.out.2⟩
def GivesSome (w : World) (s : Int) (e : Ending) (w' : World) : Prop := ∃ xs, rhOk s xs = true ∧ GivesRh w s xs e w'
set_option maxHeartbeats 2000000 in
theorem makeOf_any (A : Option Addr) (n c k s : Nat) (w : World) (hk : k ≤ 1000) (h1 : 1 ≤ s) (h24 : s ≤ 24) (hb : BR w A n) :
    Calls Try.prog 18 #[.slice A n c, .int .i64 k, .int .i64 s] w (GivesSome w s) := by
  obtain ⟨W0, hW0⟩ : ∃ W0, W0 = w.alloc (.cells #[.int .i64 0, .slice none 0 0] 30) := ⟨_, rfl⟩
  have bw : Below w.heap.size w W0 := by rw [hW0]; exact below_alloc _ _
  have hz : w.heap.size < W0.heap.size := by rw [hW0]; simp
  have R0 : Blk W0 w.heap.size 30 #[.int .i64 0, .slice none 0 0] := by rw [hW0]; exact Blk.new w _ _
  have HA : Bx (0 < n → ∀ x, A = some x → x.block < w.heap.size) := ⟨fun h0 => hb.lt h0⟩
  have HB := Bx.mk (hb.below bw)
  clear hb
  go_enter Try.func18, Try.ntmps18
  go_wp2_with fail
  rw [← hW0]
  clear hW0
  refine (l31New_any A n c k _ hk (by exact HB.out)).mono ?_
  rintro e w1 ⟨g, rfl, hg, hc, b1⟩
  have HC1 := Bx.mk hc
  have R1 := R0.below b1 hz
  have bw1 := bw.trans (b1.mono bw.size)
  have hz1 : w.heap.size < w1.heap.size := Nat.lt_of_lt_of_le hz b1.size
  have hgl := hc.lt
  clear hc b1 R0
  obtain ⟨W2, hW2⟩ : ∃ W2, W2 = w1.alloc (.cells #[.int .i64 (s : Int), .slice none 0 0] 30) := ⟨_, rfl⟩
  obtain ⟨g8, hg8⟩ : ∃ g8, g8 = w1.heap.size := ⟨_, rfl⟩
  have b2 : Below w1.heap.size w1 W2 := by rw [hW2]; exact below_alloc _ _
  have G0 : Blk W2 g8 30 #[.int .i64 (s : Int), .slice none 0 0] := by rw [hW2, hg8]; exact Blk.new w1 _ _
  have HC2 := Bx.mk (HC1.out.below b2)
  have R2 := R1.below b2 hz1
  have bw2 := bw1.trans (b2.mono bw1.size)
  have hg8l : g8 < W2.heap.size := by rw [hW2, hg8]; simp
  have hgg : g < g8 := by omega
  have hwg : w.heap.size < g := by omega
  have t1 : ¬ (24 : Int) < (s : Int) := by omega
  have t2 : (s : Int) ≤ 24 := by omega
  have t3 : (1 : Int) ≤ (s : Int) := by omega
  have t4 : ¬ (s : Int) < 1 := by omega
  by_cases hs1 : s = 1
  · subst hs1
    have hW2' : W2 = w1.alloc (.cells #[.int .i64 1, .slice none 0 0] 30) := hW2
    have G0' : Blk W2 g8 30 #[.int .i64 1, .slice none 0 0] := G0
    go_wp2_with fail
    rw [← hW2', ← hg8]
    have HR2 := Bx.mk R2
    have HBW := Bx.mk bw2
    clear hW2 hW2' hg8 b2 G0 R1 bw1 hgl R2 bw2 bw hz
    go_loopw [9] (fun iv wr => ∃ (p : Nat) (v : Value) (xs : List Int), p ≤ 1 ∧ iv = .int .i64 p ∧ Bx (Cur wr g A n c) ∧ Blk wr g8 30 #[.int .i64 1, v] ∧ Row wr W2.heap.size v xs ∧ Bx (xs.Pairwise (· < ·) ∧ ∀ x ∈ xs, 0 ≤ x ∧ x < p) ∧ Bx (Blk wr w.heap.size 30 #[.int .i64 0, .slice none 0 0]) ∧ Bx (Below w.heap.size w wr) ∧ W2.heap.size ≤ wr.heap.size) (fun iv _ => 1 - (intOf iv).toNat)
    case atStart => exact ⟨0, _, [], by omega, rfl, HC2, G0', Row.nil _ _, ⟨List.Pairwise.nil, fun x hx => by cases hx⟩, HR2, HBW, Nat.le_refl _⟩
    case round =>
      clear G0' HR2 HBW HC2
      obtain ⟨p, v, xs, hp, rfl, HC, hG, hrow, HX, HR, HW, hzr⟩ := hrel
      have hlen : xs.length ≤ 24 := (rhOk_len (s := 24) (rhOk_iff.2 ⟨by omega, fun x hx => by have := HX.out.2 x hx; omega, HX.out.1⟩)).1
      have cg0 := hG.at_ (i := 0) rfl
      by_cases hlt : p < 1
      · have hli : (p : Int) < 1 := by omega
        have HG := Bx.mk hG
        have HO := Bx.mk hrow
        clear hG hrow
        go_wp2_with fail
        refine (l01Once_any g A n c _ (by exact HC.out)).mono ?_
        rintro e w2 ⟨b, rfl, hc, o⟩
        have hG2 := HG.out.onlyAt o (show g8 ≠ g by omega)
        have hrow2 := HO.out.onlyAt o (by omega)
        have HR2 := Bx.mk (HR.out.onlyAt o (by omega))
        have HW2 := Bx.mk (HW.out.trans (o.below HW.out.size (fun x hx => by injection hx with hx; subst hx; simp; omega)))
        have HC2 := Bx.mk hc
        have hz2 : W2.heap.size ≤ w2.heap.size := Nat.le_trans hzr o.size
        clear hc o HG HO HC cg0
        cases b with
        | false =>
          have HG2 := Bx.mk hG2
          have HO2 := Bx.mk hrow2
          clear hG2 hrow2
          go_wp2_with fail
          go_roundw
          case rel => exact ⟨p + 1, v, xs, by omega, by go_num, HC2, HG2.out, HO2.out, ⟨HX.out.1, fun x hx => by have := HX.out.2 x hx; omega⟩, HR2, HW2, hz2⟩
          case measure => simp [intOf]; omega
        | true =>
          obtain ⟨A', c', rfl⟩ := hrow2.slice
          have cg1 := hG2.at_ (i := 1) rfl
          have fg1 := hG2.frozen 1
          have HG2 := Bx.mk hG2
          have HO2 := Bx.mk hrow2
          clear hG2 hrow2
          go_wp2_with (at_builtin; go_must (refine wpList_app1 rfl _ _ rfl W2.heap.size _ xs (p : Int) rfl rfl (by exact HO2.out) (by omega) (by exact hz2) ?_); intro v1 w4 hown1 hb1; have hG4 := HG2.out.below hb1 (by omega); have cq1 := hG4.at_ (i := 1) rfl; have fq1 := hG4.frozen 1; obtain ⟨A5, c5, rfl⟩ := hown1.slice; obtain ⟨n5, hn5⟩ : ∃ n5, n5 = (xs ++ [(p : Int)]).length := ⟨_, rfl⟩; rw [← hn5] at hown1; rw [← hn5]; clear hn5)
          have HG5 := Bx.mk (hG4.set 1 (.slice A5 n5 c5))
          have hoo : Only w4 (w4.setCell ⟨g8, 1, none⟩ (.slice A5 n5 c5)) (some ⟨g8, 0, none⟩) := (Only.refl w4 _).set _
          have HO5 := Bx.mk (hown1.onlyAt hoo (by omega))
          have HC5 := Bx.mk (cur_only (HC2.out.below' hb1 (by omega) (fun h0 x hx => by have := HA.out h0 x hx; omega)) hoo (by omega) (fun h0 x hx => by have := HA.out h0 x hx; omega))
          have HR5 := Bx.mk ((HR2.out.below hb1 (by omega)).onlyAt hoo (by omega))
          have HW5 := Bx.mk ((HW2.out.trans (hb1.mono (by omega))).setCell (p := ⟨g8, 1, none⟩) (show w.heap.size ≤ g8 by omega) (.slice A5 n5 c5))
          have hz5 : W2.heap.size ≤ (w4.setCell ⟨g8, 1, none⟩ (.slice A5 n5 c5)).heap.size := Nat.le_trans hz2 (Nat.le_trans hb1.size hoo.size)
          have HX5 : Bx ((xs ++ [(p : Int)]).Pairwise (· < ·) ∧ ∀ x ∈ xs ++ [(p : Int)], 0 ≤ x ∧ x < ((p + 1 : Nat) : Int)) := ⟨List.pairwise_append.2 ⟨HX.out.1, by simp, fun x hx y hy => by rw [List.mem_singleton] at hy; have := HX.out.2 x hx; omega⟩, fun x hx => by
            rcases List.mem_append.1 hx with h | h
            · have := HX.out.2 x h; omega
            · rw [List.mem_singleton] at h; omega⟩
          clear hoo hown1 hb1 hG4
          go_wp2_with fail
          go_roundw
          case rel => exact ⟨p + 1, _, xs ++ [(p : Int)], by omega, by go_num, HC5, HG5.out, HO5.out, HX5, HR5, HW5, hz5⟩
          case measure => simp [intOf]; omega
      · have hpe : p = 1 := by omega
        have hli : ¬ (p : Int) < 1 := by omega
        obtain ⟨A', c', rfl⟩ := hrow.slice
        have cg1 := hG.at_ (i := 1) rfl
        have cr0 := HR.out.at_ (i := 0) rfl
        have cr1 := HR.out.at_ (i := 1) rfl
        have fr0 := HR.out.frozen 0
        have fr1 := HR.out.frozen 1
        have HF := Bx.mk ((HR.out.set 0 (.int .i64 1)).set 1 (.slice A' xs.length c'))
        have hwl : w.heap.size < W2.heap.size := by omega
        have HIO := Bx.mk (((hrow.io' rfl (by omega)).setLow (p := ⟨w.heap.size, 0, none⟩) hwl (.int .i64 1)).setLow (p := ⟨w.heap.size, 1, none⟩) hwl (.slice A' xs.length c'))
        have HBL := Bx.mk ((HW.out.setCell (p := ⟨w.heap.size, 0, none⟩) (Nat.le_refl _) (.int .i64 1)).setCell (p := ⟨w.heap.size, 1, none⟩) (Nat.le_refl _) (.slice A' xs.length c'))
        have HOK : Bx (rhOk 1 xs = true) := ⟨rhOk_iff.2 ⟨by omega, fun x hx => by have := HX.out.2 x hx; omega, HX.out.1⟩⟩
        clear hG hrow
        go_wp2_with fail
        exact bodyPost_ret (v := .agg #[.int .i64 1, .slice A' xs.length c']) (by simp [results, Try.results18, go_sem, HF.out.at_ (i := 0) rfl, HF.out.at_ (i := 1) rfl]) rfl ⟨xs, HOK.out, A', c', rfl, HIO.out.mono (by omega), HBL.out⟩
  · have t5 : (1 : Int) < (s : Int) := by omega
    have t6 : ¬ (s : Int) ≤ 1 := by omega
    have hW2' : W2 = w1.alloc (.cells #[.int .i64 (s : Int), .slice none 0 0] 30) := hW2
    have G0' : Blk W2 g8 30 #[.int .i64 (s : Int), .slice none 0 0] := G0
    go_wp2_with fail
    rw [← hW2', ← hg8]
    have HR2 := Bx.mk R2
    have HBW := Bx.mk bw2
    clear hW2 hW2' hg8 b2 G0 R1 bw1 hgl R2 bw2 bw hz
    go_loopw [9] (fun iv wr => ∃ (p : Nat) (v : Value) (xs : List Int), p ≤ s ∧ iv = .int .i64 p ∧ Bx (Cur wr g A n c) ∧ Blk wr g8 30 #[.int .i64 (s : Int), v] ∧ Row wr W2.heap.size v xs ∧ Bx (xs.Pairwise (· < ·) ∧ ∀ x ∈ xs, 0 ≤ x ∧ x < p) ∧ Bx (Blk wr w.heap.size 30 #[.int .i64 0, .slice none 0 0]) ∧ Bx (Below w.heap.size w wr) ∧ W2.heap.size ≤ wr.heap.size) (fun iv _ => s - (intOf iv).toNat)
    case atStart => exact ⟨0, _, [], by omega, rfl, HC2, G0', Row.nil _ _, ⟨List.Pairwise.nil, fun x hx => by cases hx⟩, HR2, HBW, Nat.le_refl _⟩
    case round =>
      clear G0' HR2 HBW HC2
      obtain ⟨p, v, xs, hp, rfl, HC, hG, hrow, HX, HR, HW, hzr⟩ := hrel
      have hlen : xs.length ≤ 24 := (rhOk_len (s := 24) (rhOk_iff.2 ⟨by omega, fun x hx => by have := HX.out.2 x hx; omega, HX.out.1⟩)).1
      have cg0 := hG.at_ (i := 0) rfl
      by_cases hlt : p < s
      · have hli : (p : Int) < (s : Int) := by omega
        have HG := Bx.mk hG
        have HO := Bx.mk hrow
        clear hG hrow
        go_wp2_with fail
        refine (l01Once_any g A n c _ (by exact HC.out)).mono ?_
        rintro e w2 ⟨b, rfl, hc, o⟩
        have hG2 := HG.out.onlyAt o (show g8 ≠ g by omega)
        have hrow2 := HO.out.onlyAt o (by omega)
        have HR2 := Bx.mk (HR.out.onlyAt o (by omega))
        have HW2 := Bx.mk (HW.out.trans (o.below HW.out.size (fun x hx => by injection hx with hx; subst hx; simp; omega)))
        have HC2 := Bx.mk hc
        have hz2 : W2.heap.size ≤ w2.heap.size := Nat.le_trans hzr o.size
        clear hc o HG HO HC cg0
        cases b with
        | false =>
          have HG2 := Bx.mk hG2
          have HO2 := Bx.mk hrow2
          clear hG2 hrow2
          go_wp2_with fail
          go_roundw
          case rel => exact ⟨p + 1, v, xs, by omega, by go_num, HC2, HG2.out, HO2.out, ⟨HX.out.1, fun x hx => by have := HX.out.2 x hx; omega⟩, HR2, HW2, hz2⟩
          case measure => simp [intOf]; omega
        | true =>
          obtain ⟨A', c', rfl⟩ := hrow2.slice
          have cg1 := hG2.at_ (i := 1) rfl
          have fg1 := hG2.frozen 1
          have HG2 := Bx.mk hG2
          have HO2 := Bx.mk hrow2
          clear hG2 hrow2
          go_wp2_with (at_builtin; go_must (refine wpList_app1 rfl _ _ rfl W2.heap.size _ xs (p : Int) rfl rfl (by exact HO2.out) (by omega) (by exact hz2) ?_); intro v1 w4 hown1 hb1; have hG4 := HG2.out.below hb1 (by omega); have cq1 := hG4.at_ (i := 1) rfl; have fq1 := hG4.frozen 1; obtain ⟨A5, c5, rfl⟩ := hown1.slice; obtain ⟨n5, hn5⟩ : ∃ n5, n5 = (xs ++ [(p : Int)]).length := ⟨_, rfl⟩; rw [← hn5] at hown1; rw [← hn5]; clear hn5)
          have HG5 := Bx.mk (hG4.set 1 (.slice A5 n5 c5))
          have hoo : Only w4 (w4.setCell ⟨g8, 1, none⟩ (.slice A5 n5 c5)) (some ⟨g8, 0, none⟩) := (Only.refl w4 _).set _
          have HO5 := Bx.mk (hown1.onlyAt hoo (by omega))
          have HC5 := Bx.mk (cur_only (HC2.out.below' hb1 (by omega) (fun h0 x hx => by have := HA.out h0 x hx; omega)) hoo (by omega) (fun h0 x hx => by have := HA.out h0 x hx; omega))
          have HR5 := Bx.mk ((HR2.out.below hb1 (by omega)).onlyAt hoo (by omega))
          have HW5 := Bx.mk ((HW2.out.trans (hb1.mono (by omega))).setCell (p := ⟨g8, 1, none⟩) (show w.heap.size ≤ g8 by omega) (.slice A5 n5 c5))
          have hz5 : W2.heap.size ≤ (w4.setCell ⟨g8, 1, none⟩ (.slice A5 n5 c5)).heap.size := Nat.le_trans hz2 (Nat.le_trans hb1.size hoo.size)
          have HX5 : Bx ((xs ++ [(p : Int)]).Pairwise (· < ·) ∧ ∀ x ∈ xs ++ [(p : Int)], 0 ≤ x ∧ x < ((p + 1 : Nat) : Int)) := ⟨List.pairwise_append.2 ⟨HX.out.1, by simp, fun x hx y hy => by rw [List.mem_singleton] at hy; have := HX.out.2 x hx; omega⟩, fun x hx => by
            rcases List.mem_append.1 hx with h | h
            · have := HX.out.2 x h; omega
            · rw [List.mem_singleton] at h; omega⟩
          clear hoo hown1 hb1 hG4
          go_wp2_with fail
          go_roundw
          case rel => exact ⟨p + 1, _, xs ++ [(p : Int)], by omega, by go_num, HC5, HG5.out, HO5.out, HX5, HR5, HW5, hz5⟩
          case measure => simp [intOf]; omega
      · have hpe : p = s := by omega
        have hli : ¬ (p : Int) < (s : Int) := by omega
        obtain ⟨A', c', rfl⟩ := hrow.slice
        have cg1 := hG.at_ (i := 1) rfl
        have cr0 := HR.out.at_ (i := 0) rfl
        have cr1 := HR.out.at_ (i := 1) rfl
        have fr0 := HR.out.frozen 0
        have fr1 := HR.out.frozen 1
        have HF := Bx.mk ((HR.out.set 0 (.int .i64 (s : Int))).set 1 (.slice A' xs.length c'))
        have hwl : w.heap.size < W2.heap.size := by omega
        have HIO := Bx.mk (((hrow.io' rfl (by omega)).setLow (p := ⟨w.heap.size, 0, none⟩) hwl (.int .i64 (s : Int))).setLow (p := ⟨w.heap.size, 1, none⟩) hwl (.slice A' xs.length c'))
        have HBL := Bx.mk ((HW.out.setCell (p := ⟨w.heap.size, 0, none⟩) (Nat.le_refl _) (.int .i64 (s : Int))).setCell (p := ⟨w.heap.size, 1, none⟩) (Nat.le_refl _) (.slice A' xs.length c'))
        have HOK : Bx (rhOk (s : Int) xs = true) := ⟨rhOk_iff.2 ⟨by omega, fun x hx => by have := HX.out.2 x hx; omega, HX.out.1⟩⟩
        clear hG hrow
        go_wp2_with fail
        exact bodyPost_ret (v := .agg #[.int .i64 (s : Int), .slice A' xs.length c']) (by simp [results, Try.results18, go_sem, HF.out.at_ (i := 0) rfl, HF.out.at_ (i := 1) rfl]) rfl ⟨xs, HOK.out, A', c', rfl, HIO.out.mono (by omega), HBL.out⟩
end Go.Proofs.Ytlgiijibekobfaa
