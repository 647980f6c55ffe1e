/- Pulses that are no sum; the rhythm of the sum. -/
import Derived.Test.YtiiiejkolodjpaaSum
import Derived.Test.YtiiiejkolodjpaaAppX
namespace Go.Proofs.Ytiiiejkolodjpaa
open Go.RowKit

theorem selTo_mem {p : Int → Bool} {k : Nat} {x : Int} : x ∈ selTo p k ↔ ∃ i : Nat, i < k ∧ x = (i : Int) ∧ p (i : Int) = true := by
  induction k with
  | zero => simp [selTo]
  | succ k ih =>
    cases hp : p (k : Int) with
    | true =>
      rw [selTo_hit hp, List.mem_append, ih]
      simp only [List.mem_singleton]
      constructor
      · rintro (⟨i, h1, h2, h3⟩ | h)
        · exact ⟨i, by omega, h2, h3⟩
        · exact ⟨k, by omega, h, hp⟩
      · rintro ⟨i, h1, h2, h3⟩
        by_cases he : i = k
        · right; rw [h2, he]
        · left; exact ⟨i, by omega, h2, h3⟩
    | false =>
      rw [selTo_miss hp, ih]
      constructor
      · rintro ⟨i, h1, h2, h3⟩; exact ⟨i, by omega, h2, h3⟩
      · rintro ⟨i, h1, h2, h3⟩
        by_cases he : i = k
        · rw [he, hp] at h3; cases h3
        · exact ⟨i, by omega, h2, h3⟩
theorem selTo_asc (p : Int → Bool) (k : Nat) : (selTo p k).Pairwise (· < ·) := by
  induction k with
  | zero => simp [selTo]
  | succ k ih =>
    cases hp : p (k : Int) with
    | true =>
      rw [selTo_hit hp, List.pairwise_append]
      refine ⟨ih, by simp, fun x hx y hy => ?_⟩
      obtain ⟨i, h1, h2, _⟩ := selTo_mem.1 hx
      simp at hy
      omega
    | false => rw [selTo_miss hp]; exact ih
theorem selTo_ok {s : Int} (hs : 1 ≤ s ∧ s ≤ 24) (p : Int → Bool) : rhOk s (selTo p s.toNat) = true := by
  refine rhOk_iff.2 ⟨hs, fun x hx => ?_, selTo_asc _ _⟩
  obtain ⟨i, h1, h2, _⟩ := selTo_mem.1 hx
  omega
theorem memB_sel {p : Int → Bool} {n k : Nat} (hk : k < n) : memB (selTo p n) (k : Int) = p (k : Int) := by
  rw [Bool.eq_iff_iff, memB_iff, selTo_mem]
  constructor
  · rintro ⟨i, h1, h2, h3⟩
    have : i = k := by omega
    rw [← this]; exact h3
  · intro h; exact ⟨k, hk, rfl, h⟩
def othP (xs : List Int) (p : Int) : Bool := !memB xs p
def othL (s : Int) (xs : List Int) : List Int := selTo (othP xs) s.toNat
set_option maxHeartbeats 1000000 in
theorem others_any (s : Int) (A : Option Addr) (c : Nat) (xs : List Int) (w : World) (hs : 1 ≤ s ∧ s ≤ 24) (hx : IR w A xs) :
    Calls Try.prog 73 #[.agg #[.int .i64 s, .slice A xs.length c]] w (GivesRh w s (othL s xs)) := by
  obtain ⟨hs1, hs2⟩ := hs
  obtain ⟨W0, hW0⟩ : ∃ W0, W0 = ((w.alloc (.cells #[.int .i64 s, .slice A xs.length c] 27)).alloc (.cells #[.int .i64 0, .slice none 0 0] 27)).alloc (.cells #[.int .i64 s, .slice none 0 0] 27) := ⟨_, rfl⟩
  have bw : Below w.heap.size w W0 := by rw [hW0]; exact ((below_alloc _ _).alloc (by simp) _).alloc (by simp <;> omega) _
  have hz : w.heap.size + 3 ≤ W0.heap.size := by rw [hW0]; simp
  have k0 : W0.cell? ⟨w.heap.size, 0, none⟩ = some (.int .i64 s) := by rw [hW0]; simp [go_sem]
  have k1 : W0.cell? ⟨w.heap.size, 1, none⟩ = some (.slice A xs.length c) := by rw [hW0]; simp [go_sem]
  have HR0 : Blk W0 (w.heap.size + 1) 27 #[.int .i64 0, .slice none 0 0] := by rw [hW0]; have := (Blk.new (w.alloc (.cells #[.int .i64 s, .slice A xs.length c] 27)) 27 #[.int .i64 0, .slice none 0 0]).alloc (.cells #[.int .i64 s, .slice none 0 0] 27); simpa using this
  have HG0 : Blk W0 (w.heap.size + 1 + 1) 27 #[.int .i64 s, .slice none 0 0] := by rw [hW0]; have := Blk.new ((w.alloc (.cells #[.int .i64 s, .slice A xs.length c] 27)).alloc (.cells #[.int .i64 0, .slice none 0 0] 27)) 27 #[.int .i64 s, .slice none 0 0]; simpa using this
  have HI := Bx.mk ((RB.of_ir hx).below bw (Nat.le_refl _))
  clear hx
  obtain ⟨gb, hgb⟩ : ∃ gb, gb = w.heap.size := ⟨_, rfl⟩
  obtain ⟨g, hg⟩ : ∃ g, g = w.heap.size + 1 + 1 := ⟨_, rfl⟩
  obtain ⟨gr, hgr⟩ : ∃ gr, gr = w.heap.size + 1 := ⟨_, rfl⟩
  rw [← hg] at HG0
  rw [← hgr] at HR0
  have hg2 : g < W0.heap.size := by omega
  have hg3 : gr < g := by omega
  have hg4 : w.heap.size ≤ gr := by omega
  have hg5 : w.heap.size < gr := by omega
  have HS : Bx (othL s xs = selTo (othP xs) s.toNat) := ⟨rfl⟩
  go_enter Try.func73, Try.ntmps73
  go_wp2_with fail
  rw [← hW0, ← hg, ← hgr]
  clear hg hgr hW0
  go_loopw [10] (fun i wr => ∃ (k : Nat) (v : Value), (k : Int) ≤ s ∧ i = .int .i64 k ∧ Blk wr g 27 #[.int .i64 s, v] ∧ Row wr W0.heap.size v (selTo (othP xs) k) ∧ Only W0 wr (some ⟨g, 0, none⟩)) (fun i _ => (s - intOf i).toNat)
  case atStart => exact ⟨0, _, by omega, rfl, HG0, Row.nil _ _, Only.refl _ _⟩
  case round =>
    obtain ⟨k, v, hk, rfl, hG, hrow, ho⟩ := hrel
    clear HG0
    obtain ⟨A', c', rfl⟩ := hrow.slice
    have hlen := selTo_len (othP xs) k
    have HO := Bx.mk hrow
    have HN := Bx.mk ho
    have HR := Bx.mk (HR0.onlyAt ho (by omega))
    have HX := Bx.mk (IR.onlyAt HI.out ho (by omega))
    replace k0 := (ho.cellAt (by omega) (by omega)).trans k0
    replace k1 := (ho.cellAt (by omega) (by omega)).trans k1
    have hzr := ho.size
    have HG := Bx.mk hG
    clear hrow ho hG
    by_cases hlt : (k : Int) < s
    · have h1e : Bx (hasR s xs k = memB xs k) := ⟨hasR_in (by omega)⟩
      cases hm : memB xs k with
      | false =>
        have HH := Bx.mk (selTo_hit (p := othP xs) (k := k) (by unfold othP; rw [hm]; rfl))
        go_wp2_with fail
        refine (has_any _ _ _ _ _ _ ⟨hs1, hs2⟩ (by omega) (by exact HX.out)).mono ?_
        rw [h1e.out, hm]
        rintro e w2 ⟨rfl, b⟩
        have hG2 := HG.out.below b (by omega)
        have cg0 := hG2.at_ (i := 0) rfl
        have cg1 := hG2.at_ (i := 1) rfl
        have fg1 := hG2.frozen 1
        have HG2 := Bx.mk hG2
        have HN2 := Bx.mk (HN.out.after (b.mono hzr))
        have HO2 := Bx.mk (HO.out.below b (Nat.le_refl _))
        have hz2 := b.size
        clear b hG2
        go_wp2_with (at_builtin; go_must (refine wpList_app1 rfl _ _ rfl W0.heap.size _ (selTo (othP xs) k) (k : Int) rfl rfl (by exact HO2.out) (by omega) (by exact Nat.le_trans hzr hz2) ?_); intro v1 w4 hown1 hb1; have hG4 := HG2.out.below hb1 (by omega); have cq1 := hG4.at_ (i := 1) rfl; have fq1 := hG4.frozen 1; obtain ⟨A5, c5, rfl⟩ := hown1.slice; obtain ⟨n5, hn5⟩ : ∃ n5, n5 = (selTo (othP xs) k ++ [(k : Int)]).length := ⟨_, rfl⟩; rw [← hn5] at hown1; rw [← hn5]; clear hn5)
        have HG5 := Bx.mk (hG4.set 1 (.slice A5 n5 c5))
        have hoo : Only W0 (w4.setCell ⟨g, 1, none⟩ (.slice A5 n5 c5)) (some ⟨g, 0, none⟩) := (HN2.out.after hb1).set _
        have HN5 := Bx.mk hoo
        have HO5 := Bx.mk (hown1.onlyAt ((Only.refl w4 (some ⟨g, 0, none⟩)).set (i := 1) (.slice A5 n5 c5)) (by omega))
        clear hoo hown1 hb1 hG4
        go_wp2_with fail
        go_roundw
        case rel => exact ⟨k + 1, _, by omega, by go_num, HG5.out, by rw [HH.out]; exact HO5.out, HN5.out⟩
        case measure => simp [intOf]; omega
      | true =>
        have HH := Bx.mk (selTo_miss (p := othP xs) (k := k) (by unfold othP; rw [hm]; rfl))
        go_wp2_with fail
        refine (has_any _ _ _ _ _ _ ⟨hs1, hs2⟩ (by omega) (by exact HX.out)).mono ?_
        rw [h1e.out, hm]
        rintro e w2 ⟨rfl, b⟩
        have HG2 := Bx.mk (HG.out.below b (by omega))
        have HN2 := Bx.mk (HN.out.after (b.mono hzr))
        have HO2 := Bx.mk (HO.out.below b (Nat.le_refl _))
        clear b
        go_wp2_with fail
        go_roundw
        case rel => exact ⟨k + 1, _, by omega, by go_num, HG2.out, by rw [HH.out]; exact HO2.out, HN2.out⟩
        case measure => simp [intOf]; omega
    · have hks : k = s.toNat := by omega
      have HS2 : Bx (othL s xs = selTo (othP xs) k) := ⟨by rw [HS.out, hks]⟩
      clear hks
      have cg0 := HG.out.at_ (i := 0) rfl
      have cg1 := HG.out.at_ (i := 1) rfl
      have cr0 := HR.out.at_ (i := 0) rfl
      have cr1 := HR.out.at_ (i := 1) rfl
      have fr0 := HR.out.frozen 0
      have fr1 := HR.out.frozen 1
      have hln2 : (selTo (othP xs) k).length ≤ 17592186044415 := by omega
      have HF := Bx.mk ((HR.out.set 0 (.int .i64 s)).set 1 (.slice A' (selTo (othP xs) k).length c'))
      have HIO := Bx.mk (((HO.out.io' rfl hln2).setLow (p := ⟨gr, 0, none⟩) (show gr < W0.heap.size by omega) (.int .i64 s)).setLow (p := ⟨gr, 1, none⟩) (show gr < W0.heap.size by omega) (.slice A' (selTo (othP xs) k).length c'))
      have hbl : Below w.heap.size w wr := bw.trans (HN.out.below bw.size (by intro x hx; injection hx with hx; subst hx; simp; omega))
      have HBL := Bx.mk ((hbl.setCell (p := ⟨gr, 0, none⟩) hg4 (.int .i64 s)).setCell (p := ⟨gr, 1, none⟩) hg4 (.slice A' (selTo (othP xs) k).length c'))
      have hwm : w.heap.size ≤ W0.heap.size := by omega
      clear hbl
      go_wp2_with fail
      refine bodyPost_ret (v := .agg #[.int .i64 s, .slice A' (selTo (othP xs) k).length c']) (by simp [results, Try.results73, go_sem, HF.out.at_ (i := 0) rfl, HF.out.at_ (i := 1) rfl]) rfl ⟨A', c', ?_, ?_, HBL.out⟩
      · rw [HS2.out]
      · rw [HS2.out]; exact HIO.out.mono hwm
def gapP (L : List Int) (p : Int) : Bool := L[p.toNat]?.getD 0 == 0
def gapsL (s : Int) (xs : List Int) (t : Int) (ys : List Int) : List Int := if twoOk s xs t ys = true then selTo (gapP (sumC s xs ys)) s.toNat else []
theorem gapsL_len (s : Int) (xs : List Int) (t : Int) (ys : List Int) : (gapsL s xs t ys).length ≤ 24 := by
  unfold gapsL
  split
  · rename_i h
    have := (rhOk_iff.1 (twoOk_iff.1 h).1).1
    have := selTo_len (gapP (sumC s xs ys)) s.toNat
    omega
  · simp
theorem oth_gaps {s : Int} {xs ys : List Int} : othL s (sumL s xs ys) = selTo (gapP (sumC s xs ys)) s.toNat := by
  have hb : AllB (sumC s xs ys) (xs.length * ys.length : Nat) := outC_bd s xs ys xs.length
  have hl : (sumC s xs ys).length = s.toNat := sumC_len _ _ _
  refine selTo_congr fun i hi => ?_
  unfold othP sumL gapP
  rw [memB_sel hi]
  unfold sumP
  rw [Int.toNat_natCast]
  have h1 := hb i _ (List.getElem?_eq_getElem (show i < (sumC s xs ys).length by omega))
  rw [List.getElem?_eq_getElem (show i < (sumC s xs ys).length by omega)]
  simp only [Option.getD_some]
  rw [Bool.eq_iff_iff]
  simp
  omega
theorem field_beats2 (s : Int) (A : Option Addr) (n c : Nat) (w : World) : (Instr.field 27 (.agg #[.int .i64 s, .slice A n c]) 1).run Try.prog w = .ok (.slice A n c) w := by kernel_rfl
set_option maxHeartbeats 1000000 in
theorem implGaps_any (s t : Int) (A B : Option Addr) (c d : Nat) (xs ys : List Int) (w : World) (hs : -9223372036854775808 ≤ s ∧ s ≤ 9223372036854775807) (ht : -9223372036854775808 ≤ t ∧ t ≤ 9223372036854775807) (hx : IR w A xs) (hy : IR w B ys) :
    Calls Try.prog 49 #[.agg #[.int .i64 s, .slice A xs.length c], .agg #[.int .i64 t, .slice B ys.length d]] w (GivesInts w (gapsL s xs t ys)) := by
  have hgl := Bx.mk (gapsL_len s xs t ys)
  obtain ⟨W0, hW0⟩ : ∃ W0, W0 = (w.alloc (.cells #[.int .i64 s, .slice A xs.length c] 27)).alloc (.cells #[.int .i64 t, .slice B ys.length d] 27) := ⟨_, rfl⟩
  have bw : Below w.heap.size w W0 := by rw [hW0]; exact (below_alloc _ _).alloc (by simp) _
  have hz : w.heap.size + 2 ≤ W0.heap.size := by rw [hW0]; simp
  have k0 : W0.cell? ⟨w.heap.size, 0, none⟩ = some (.int .i64 s) := by rw [hW0]; simp [go_sem]
  have k1 : W0.cell? ⟨w.heap.size, 1, none⟩ = some (.slice A xs.length c) := by rw [hW0]; simp [go_sem]
  have k2 : W0.cell? ⟨w.heap.size + 1, 0, none⟩ = some (.int .i64 t) := by rw [hW0]; simp [go_sem]
  have k3 : W0.cell? ⟨w.heap.size + 1, 1, none⟩ = some (.slice B ys.length d) := by rw [hW0]; simp [go_sem]
  have HX := Bx.mk (hx.below bw)
  have HY := Bx.mk (hy.below bw)
  have HS := Bx.mk hs
  have HT := Bx.mk ht
  clear hx hy hs ht
  cases h1 : twoOk s xs t ys with
  | false =>
    have HR : Bx (gapsL s xs t ys = []) := ⟨by simp [gapsL, h1]⟩
    go_enter Try.func49, Try.ntmps49
    go_wp2_with fail
    rw [← hW0]
    clear hW0
    refine (implSame_any _ _ _ _ _ _ _ _ _ HS.out HT.out (by exact HX.out) (by exact HY.out)).mono ?_
    rintro e w1 ⟨rfl, b⟩
    replace k0 := ((bcell b).1 _ _ (by omega)).trans k0
    replace k1 := ((bcell b).1 _ _ (by omega)).trans k1
    replace k2 := ((bcell b).1 _ _ (by omega)).trans k2
    replace k3 := ((bcell b).1 _ _ (by omega)).trans k3
    replace HX := Bx.mk (HX.out.below b)
    replace HY := Bx.mk (HY.out.below b)
    replace hz := Nat.le_trans hz b.size
    replace bw := bw.trans (b.mono bw.size)
    clear b
    go_wp2_with fail
    go_ret
    exact GivesInts.of_row (by rw [HR.out]; exact Row.nil _ _) (by rw [HR.out]; simp) bw
  | true =>
    obtain ⟨e1, e2, e3⟩ := twoOk_iff.1 h1
    subst e3
    have HR : Bx (gapsL s xs s ys = othL s (sumL s xs ys)) := ⟨by rw [oth_gaps]; simp [gapsL, h1]⟩
    have hsz := (rhOk_iff.1 e1).1
    have HSZ := Bx.mk hsz
    have H1 := Bx.mk e1
    have H2 := Bx.mk e2
    clear e1 e2
    go_enter Try.func49, Try.ntmps49
    go_wp2_with fail
    rw [← hW0]
    clear hW0
    refine (implSame_any _ _ _ _ _ _ _ _ _ HS.out HT.out (by exact HX.out) (by exact HY.out)).mono ?_
    rintro e w1 ⟨rfl, b⟩
    replace k0 := ((bcell b).1 _ _ (by omega)).trans k0
    replace k1 := ((bcell b).1 _ _ (by omega)).trans k1
    replace k2 := ((bcell b).1 _ _ (by omega)).trans k2
    replace k3 := ((bcell b).1 _ _ (by omega)).trans k3
    replace HX := Bx.mk (HX.out.below b)
    replace HY := Bx.mk (HY.out.below b)
    replace hz := Nat.le_trans hz b.size
    replace bw := bw.trans (b.mono bw.size)
    clear b
    go_wp2_with fail
    refine (sum_any _ _ _ _ _ _ _ _ H1.out H2.out (by exact HX.out) (by exact HY.out)).mono ?_
    rintro e w2 ⟨A2, c2, rfl, io, b⟩
    have bw2 := bw.trans (b.mono bw.size)
    have HI := Bx.mk io.reads
    clear b io
    go_wp2_with fail
    refine (others_any _ _ _ _ _ HSZ.out (by exact HI.out)).mono ?_
    rintro e w3 ⟨A3, c3, rfl, io, b⟩
    have bw3 := bw2.trans (b.mono bw2.size)
    have HG : Bx (GivesInts w (gapsL s xs s ys) (.returned (.slice A3 (othL s (sumL s xs ys)).length c3)) w3) := ⟨⟨A3, c3, by rw [HR.out], by rw [HR.out]; exact io.mono bw2.size, bw3⟩⟩
    have hfd := fun A n c w => field_beats2 s A n c w
    clear b io
    go_wp2_with fail
    go_ret
    exact HG.out
set_option maxHeartbeats 1000000 in
theorem specGaps_any (s t : Int) (A B : Option Addr) (c d : Nat) (xs ys : List Int) (w : World) (hs : -9223372036854775808 ≤ s ∧ s ≤ 9223372036854775807) (ht : -9223372036854775808 ≤ t ∧ t ≤ 9223372036854775807) (hx : IR w A xs) (hy : IR w B ys) :
    Calls Try.prog 48 #[.agg #[.int .i64 s, .slice A xs.length c], .agg #[.int .i64 t, .slice B ys.length d]] w (GivesInts w (gapsL s xs t ys)) := by
  have hgl := Bx.mk (gapsL_len s xs t ys)
  obtain ⟨W0, hW0⟩ : ∃ W0, W0 = (w.alloc (.cells #[.int .i64 s, .slice A xs.length c] 27)).alloc (.cells #[.int .i64 t, .slice B ys.length d] 27) := ⟨_, rfl⟩
  have bw : Below w.heap.size w W0 := by rw [hW0]; exact (below_alloc _ _).alloc (by simp) _
  have hz : w.heap.size + 2 ≤ W0.heap.size := by rw [hW0]; simp
  have k0 : W0.cell? ⟨w.heap.size, 0, none⟩ = some (.int .i64 s) := by rw [hW0]; simp [go_sem]
  have k1 : W0.cell? ⟨w.heap.size, 1, none⟩ = some (.slice A xs.length c) := by rw [hW0]; simp [go_sem]
  have k2 : W0.cell? ⟨w.heap.size + 1, 0, none⟩ = some (.int .i64 t) := by rw [hW0]; simp [go_sem]
  have k3 : W0.cell? ⟨w.heap.size + 1, 1, none⟩ = some (.slice B ys.length d) := by rw [hW0]; simp [go_sem]
  have HX := Bx.mk (hx.below bw)
  have HY := Bx.mk (hy.below bw)
  have HS := Bx.mk hs
  have HT := Bx.mk ht
  clear hx hy hs ht
  cases h1 : twoOk s xs t ys with
  | false =>
    have HR : Bx (gapsL s xs t ys = []) := ⟨by simp [gapsL, h1]⟩
    go_enter Try.func48, Try.ntmps48
    go_wp2_with fail
    rw [← hW0]
    clear hW0
    refine (specSame_any _ _ _ _ _ _ _ _ _ HS.out HT.out (by exact HX.out) (by exact HY.out)).mono ?_
    rintro e w1 ⟨rfl, b⟩
    replace k0 := ((bcell b).1 _ _ (by omega)).trans k0
    replace k1 := ((bcell b).1 _ _ (by omega)).trans k1
    replace k2 := ((bcell b).1 _ _ (by omega)).trans k2
    replace k3 := ((bcell b).1 _ _ (by omega)).trans k3
    replace HX := Bx.mk (HX.out.below b)
    replace HY := Bx.mk (HY.out.below b)
    replace hz := Nat.le_trans hz b.size
    replace bw := bw.trans (b.mono bw.size)
    clear b
    go_wp2_with fail
    go_ret
    exact GivesInts.of_row (by rw [HR.out]; exact Row.nil _ _) (by rw [HR.out]; simp) bw
  | true =>
    obtain ⟨e1, e2, e3⟩ := twoOk_iff.1 h1
    subst e3
    have HR : Bx (gapsL s xs s ys = selTo (gapP (sumC s xs ys)) s.toNat) := ⟨by simp [gapsL, h1]⟩
    have hsz := (rhOk_iff.1 e1).1
    obtain ⟨hs1, hs2⟩ := hsz
    have H1 := Bx.mk e1
    have H2 := Bx.mk e2
    have hll : Bx (((sumC s xs ys).length : Int) = s) := ⟨by rw [sumC_len]; omega⟩
    clear e1 e2
    go_enter Try.func48, Try.ntmps48
    go_wp2_with fail
    rw [← hW0]
    clear hW0
    refine (specSame_any _ _ _ _ _ _ _ _ _ HS.out HT.out (by exact HX.out) (by exact HY.out)).mono ?_
    rintro e w1 ⟨rfl, b⟩
    replace k0 := ((bcell b).1 _ _ (by omega)).trans k0
    replace k1 := ((bcell b).1 _ _ (by omega)).trans k1
    replace k2 := ((bcell b).1 _ _ (by omega)).trans k2
    replace k3 := ((bcell b).1 _ _ (by omega)).trans k3
    replace HX := Bx.mk (HX.out.below b)
    replace HY := Bx.mk (HY.out.below b)
    replace hz := Nat.le_trans hz b.size
    replace bw := bw.trans (b.mono bw.size)
    clear b
    have hlt0 : w.heap.size < w1.heap.size := by omega
    have hlt1 : w.heap.size + 1 < w1.heap.size := by omega
    go_wp2_with fail
    obtain ⟨g0, hg0⟩ : ∃ g0, g0 = w1.heap.size := ⟨_, rfl⟩
    have hr0 : Row (w1.alloc (.cells #[] 3)) w1.heap.size (.slice (some ⟨w1.heap.size, 0, none⟩) 0 0) [] := Row.empty w1 _ (Nat.le_refl _)
    refine (l09Counts_any _ _ _ _ _ _ _ _ H1.out H2.out (by exact HX.out.alloc _) (by exact HY.out.alloc _)).mono ?_
    rintro e w2 ⟨A2, c2, rfl, io, b⟩
    have hr1 := hr0.below b (Nat.le_refl _)
    have hb2 : Below w1.heap.size w1 w2 := (below_alloc _ _).trans (b.mono (by simp))
    have hz2 : w1.heap.size + 1 ≤ w2.heap.size := by have := b.size; simpa using this
    have HI := Bx.mk (OB.of io (Nat.le_refl _)).rb
    have bw2 := bw.trans (hb2.mono bw.size)
    have hzz : w.heap.size ≤ w1.heap.size := bw.size
    have HLO : Bx ((w1.alloc (.cells #[] 3)).heap.size = w1.heap.size + 1) := ⟨by simp⟩
    obtain ⟨L, hL⟩ : ∃ L, L = sumC s xs ys := ⟨_, rfl⟩
    have hL2 : (L.length : Int) = s := by rw [hL]; exact hll.out
    rw [← hL] at HR HI
    rw [← hL]
    rw [← hg0] at hr1 hz2
    have hgz : w.heap.size ≤ g0 := by omega
    rw [HLO.out, ← hg0] at HI
    clear hL b io hr0 hll HLO hb2
    go_wp2_with fail
    rw [← hg0]
    clear hg0
    go_loopw [5, 17] (fun v i wr => ∃ k : Nat, (k : Int) ≤ s ∧ i = .int .i64 k ∧ RowX wr g0 g0 w2.heap.size v (selTo (gapP L) k) ∧ Only w2 wr (some ⟨g0, 0, none⟩)) (fun _ i _ => (s - intOf i).toNat)
    case atStart => exact ⟨0, by omega, rfl, RowX.start hr1, Only.refl _ _⟩
    case round =>
      obtain ⟨k, hk, rfl, hrow, ho⟩ := hrel
      have hlen := selTo_len (gapP L) k
      have HO := Bx.mk hrow
      have HN := Bx.mk ho
      have hi := IR.onlyAt HI.out ho (by omega)
      have hzr := ho.size
      clear hrow ho
      by_cases hlt : (k : Int) < s
      · obtain ⟨b, o, x, rfl, hb, c1, H3⟩ := hi.one (k := k) (by omega)
        have H4 := Bx.mk H3.out
        clear H3
        by_cases hp : x = 0
        · have hpb : (x == 0) = true := by simpa using hp
          have HH := Bx.mk (selTo_hit (p := gapP L) (k := k) (by unfold gapP; rw [Int.toNat_natCast, H4.out]; simpa using hp))
          clear hp
          go_wp2_with (at_builtin; go_must (refine wpList_appX rfl _ _ rfl g0 g0 w2.heap.size w2 _ (selTo (gapP L) k) (k : Int) rfl rfl (by exact HO.out) (by omega) (by omega) (by exact hzr) (Nat.le_refl _) (by exact HN.out) ?_); intro v1 w4 hown1 ho1)
          have R := Bx.mk (And.intro hown1 ho1)
          clear hown1 ho1
          go_wp2_with fail
          go_roundw
          case rel => exact ⟨k + 1, by omega, by go_num, by rw [HH.out]; exact R.out.1, R.out.2⟩
          case measure => simp [intOf]; omega
        · have hpb : (x == 0) = false := by simpa using hp
          have HH := Bx.mk (selTo_miss (p := gapP L) (k := k) (by unfold gapP; rw [Int.toNat_natCast, H4.out]; simpa using hp))
          clear hp
          go_wp2_with fail
          go_roundw
          case rel => exact ⟨k + 1, by omega, by go_num, by rw [HH.out]; exact HO.out, HN.out⟩
          case measure => simp [intOf]; omega
      · have hks : k = s.toNat := by omega
        have HS2 : Bx (gapsL s xs s ys = selTo (gapP L) k) := ⟨by rw [HR.out, hks]⟩
        clear hks
        have hbl : Below w.heap.size w wr := bw2.trans (HN.out.below bw2.size (by intro x hx; injection hx with hx; subst hx; exact hgz))
        go_wp2_with fail
        go_ret
        exact GivesInts.of_row' (base := g0) (by rw [HS2.out]; exact HO.out.1) hgz (by have := hgl.out; omega) hbl
end Go.Proofs.Ytiiiejkolodjpaa
