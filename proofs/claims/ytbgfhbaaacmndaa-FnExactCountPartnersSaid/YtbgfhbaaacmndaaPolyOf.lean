/- The polynomial of a rhythm. -/
import Derived.Test.YtbgfhbaaacmndaaBas
namespace Go.Proofs.Ytbgfhbaaacmndaa
open Go.RowKit

/-- the array after k beats -/
def polyTo (n : Nat) (xs : List Int) : Nat → List Int
  | 0 => List.replicate n 0
  | k + 1 => (polyTo n xs k).set (xs[k]?.getD 0).toNat 1
theorem polyTo_len (n : Nat) (xs : List Int) (k : Nat) : (polyTo n xs k).length = n := by
  induction k with
  | zero => simp [polyTo]
  | succ k ih => simp [polyTo, ih]
theorem polyTo_step {n : Nat} {xs : List Int} {k : Nat} {x : Int} (hx : xs[k]? = some x) : polyTo n xs (k + 1) = (polyTo n xs k).set x.toNat 1 := by simp [polyTo, hx]
def polyL (s : Int) (xs : List Int) : List Int := trim (polyTo s.toNat xs xs.length)
theorem trim_le (xs : List Int) : (trim xs).length ≤ xs.length := by rw [trim_len]; exact endLen_le _ _
theorem polyL_len {s : Int} {xs : List Int} (hs : 1 ≤ s ∧ s ≤ 24) : (polyL s xs).length ≤ 24 := by
  have := trim_le (polyTo s.toNat xs xs.length)
  rw [polyTo_len] at this
  unfold polyL; omega
theorem holds_gives {w wr : World} {n g c' : Nat} {L : List Int} (hg : w.heap.size ≤ g) (hL : L.length = n) (hn : n ≤ 1000000) (h : Holds wr g L) (hb : Below w.heap.size w wr) (h1 : (trim L).length ≤ c') (h2 : c' ≤ n) :
    GivesInts w (trim L) (.returned (.slice (some ⟨g, 0, none⟩) (trim L).length c')) wr := by
  have := (h.io (base := w.heap.size) hg (by omega))
  exact ⟨_, c', rfl, this.trim h1 (by omega), hb⟩
/-- a list in memory of the call's own that is not nil -/
def GivesIS (w : World) (xs : List Int) (e : Ending) (w' : World) : Prop := ∃ g c, e = .returned (.slice (some ⟨g, 0, none⟩) xs.length c) ∧ IO w' w.heap.size (some ⟨g, 0, none⟩) c xs ∧ Below w.heap.size w w'
theorem holds_givesS {w wr : World} {n g c' : Nat} {L : List Int} (hg : w.heap.size ≤ g) (hL : L.length = n) (hn : n ≤ 1000000) (h : Holds wr g L) (hb : Below w.heap.size w wr) (h1 : (trim L).length ≤ c') (h2 : c' ≤ n) :
    GivesIS w (trim L) (.returned (.slice (some ⟨g, 0, none⟩) (trim L).length c')) wr := by
  have := (h.io (base := w.heap.size) hg (by omega))
  exact ⟨_, c', rfl, this.trim h1 (by omega), hb⟩
set_option maxHeartbeats 1000000 in
theorem polynomial_any (s : Int) (A : Option Addr) (c : Nat) (xs : List Int) (w : World) (hx : rhOk s xs = true) (hA : IR w A xs) :
    Calls Try.prog 106 #[.agg #[.int .i64 s, .slice A xs.length c]] w (GivesIS w (polyL s xs)) := by
  have hlA := hA.len
  obtain ⟨⟨hs1, hs2⟩, hmx, _⟩ := rhOk_iff.1 hx
  have HM := Bx.mk hmx
  clear hmx hx
  obtain ⟨n, rfl⟩ := Int.eq_ofNat_of_zero_le (show 0 ≤ s by omega)
  obtain ⟨W0, hW0⟩ : ∃ W0, W0 = w.alloc (.cells #[.int .i64 (n : Int), .slice A xs.length c] 27) := ⟨_, rfl⟩
  have bw : Below w.heap.size w W0 := by rw [hW0]; exact below_alloc _ _
  have hz : W0.heap.size = w.heap.size + 1 := by rw [hW0]; simp
  have k0 : W0.cell? ⟨w.heap.size, 0, none⟩ = some (.int .i64 (n : Int)) := by rw [hW0]; simp [go_sem]
  have k1 : W0.cell? ⟨w.heap.size, 1, none⟩ = some (.slice A xs.length c) := by rw [hW0]; simp [go_sem]
  have HA := Bx.mk (hA.below bw)
  clear hA
  have hmk := make_ints n (by omega)
  go_enter Try.func106, Try.ntmps106
  go_wp2_with fail
  simp only [← hW0]
  obtain ⟨g, hg⟩ : ∃ g, g = w.heap.size + 1 := ⟨_, rfl⟩
  have hH0 : Holds (W0.alloc (.cells (madeCells #[.int .i64 0] n) 3)) g (polyTo n xs 0) := by rw [hg, ← hz]; exact Holds.made W0 n
  have hb0 : Below W0.heap.size W0 (W0.alloc (.cells (madeCells #[.int .i64 0] n) 3)) := below_alloc _ _
  rw [← hg]
  have hgz : w.heap.size + 1 ≤ W0.heap.size := by omega
  have hgq : W0.heap.size ≤ g := by omega
  generalize hw1 : W0.alloc (.cells (madeCells #[.int .i64 0] n) 3) = w1 at *
  clear hw1 hmk hW0 hg hz
  go_loopw [12] (fun i wr => ∃ a : Nat, a ≤ xs.length ∧ i = .int .i64 a ∧ Holds wr g (polyTo n xs a) ∧ Below W0.heap.size W0 wr) (fun i _ => xs.length - (intOf i).toNat)
  case atStart => exact ⟨0, by omega, rfl, hH0, hb0⟩
  case round =>
    obtain ⟨a, ha, rfl, hH, hb⟩ := hrel
    clear hH0 hb0
    by_cases hlt : a < xs.length
    · obtain ⟨b1, o1, x, rfl, hbx, c1, H1⟩ := HA.out.one hlt
      have H2 := Bx.mk H1.out
      clear H1
      have HC := Bx.mk (bcell hb).1
      have q1 := (HC.out _ _ (by omega)).trans k1
      have q3 := (HC.out _ _ hbx).trans c1
      clear c1
      have hkl : (a : Int) < xs.length := by omega
      obtain ⟨hx1, hx2⟩ := HM.out x (List.mem_of_getElem? H2.out)
      obtain ⟨z, cz, Hz⟩ := hH.cell (k := x.toNat) (by rw [polyTo_len]; omega)
      have fz := hH.frozen x.toNat
      have HN : Bx (polyTo n xs (a + 1) = (polyTo n xs a).set x.toNat 1) := ⟨polyTo_step H2.out⟩
      have HS := Bx.mk (hH.set x.toNat 1)
      have hb' : Below W0.heap.size W0 (wr.setCell ⟨g, x.toNat, none⟩ (.int .i64 1)) := hb.setCell (by simp; omega) _
      have HB' := Bx.mk hb'
      clear hb' hb hH
      go_wp2_with fail
      go_roundw
      case rel => exact ⟨a + 1, by omega, by go_num, by rw [HN.out]; exact HS.out, HB'.out⟩
      case measure => simp [intOf]; omega
    · have hax : a = xs.length := by omega
      obtain ⟨L, hL⟩ : ∃ L, L = polyTo n xs a := ⟨_, rfl⟩
      have hLl : L.length = n := by rw [hL, polyTo_len]
      have HP : Bx (polyL n xs = trim L) := ⟨by rw [hL, hax]; unfold polyL; rw [Int.toNat_natCast]⟩
      rw [← hL] at hH
      clear hax hL
      have HIR : Bx (IR wr (some ⟨g, 0, none⟩) L) := ⟨(hH.io (base := 0) (by omega) (by omega)).reads⟩
      have hio : Bx (GivesIS w (polyL n xs) (.returned (.slice (some ⟨g, 0, none⟩) (trim L).length (trim L).length)) wr) := ⟨by
        rw [HP.out]
        have := trim_le L
        exact holds_givesS (n := n) (by omega) hLl (by omega) hH (bw.trans (hb.mono bw.size)) (by first | exact Nat.le_refl _ | omega) (by omega)⟩
      have hcl := ended_any _ n L wr HIR.out (by omega) (by omega)
      rw [hLl] at hcl
      have HCL := Bx.mk hcl
      clear hH hb hcl
      go_wp2_with fail
      refine HCL.out.mono ?_
      rintro e w2 ⟨rfl, rfl⟩
      go_wp2_with fail
      go_ret
      exact hio.out
set_option maxHeartbeats 1000000 in
theorem l10Of_any (s : Int) (A : Option Addr) (c : Nat) (xs : List Int) (w : World) (hx : rhOk s xs = true) (hA : IR w A xs) :
    Calls Try.prog 103 #[.agg #[.int .i64 s, .slice A xs.length c]] w (GivesIS w (polyL s xs)) := by
  have hlA := hA.len
  obtain ⟨⟨hs1, hs2⟩, hmx, _⟩ := rhOk_iff.1 hx
  have HM := Bx.mk hmx
  clear hmx hx
  obtain ⟨n, rfl⟩ := Int.eq_ofNat_of_zero_le (show 0 ≤ s by omega)
  obtain ⟨W0, hW0⟩ : ∃ W0, W0 = w.alloc (.cells #[.int .i64 (n : Int), .slice A xs.length c] 27) := ⟨_, rfl⟩
  have bw : Below w.heap.size w W0 := by rw [hW0]; exact below_alloc _ _
  have hz : W0.heap.size = w.heap.size + 1 := by rw [hW0]; simp
  have k0 : W0.cell? ⟨w.heap.size, 0, none⟩ = some (.int .i64 (n : Int)) := by rw [hW0]; simp [go_sem]
  have k1 : W0.cell? ⟨w.heap.size, 1, none⟩ = some (.slice A xs.length c) := by rw [hW0]; simp [go_sem]
  have HA := Bx.mk (hA.below bw)
  clear hA
  have hmk := make_ints n (by omega)
  go_enter Try.func103, Try.ntmps103
  go_wp2_with fail
  simp only [← hW0]
  obtain ⟨g, hg⟩ : ∃ g, g = w.heap.size + 1 := ⟨_, rfl⟩
  have hH0 : Holds (W0.alloc (.cells (madeCells #[.int .i64 0] n) 3)) g (polyTo n xs 0) := by rw [hg, ← hz]; exact Holds.made W0 n
  have hb0 : Below W0.heap.size W0 (W0.alloc (.cells (madeCells #[.int .i64 0] n) 3)) := below_alloc _ _
  rw [← hg]
  have hgz : w.heap.size + 1 ≤ W0.heap.size := by omega
  have hgq : W0.heap.size ≤ g := by omega
  generalize hw1 : W0.alloc (.cells (madeCells #[.int .i64 0] n) 3) = w1 at *
  clear hw1 hmk hW0 hg hz
  go_loopw [12] (fun i wr => ∃ a : Nat, a ≤ xs.length ∧ i = .int .i64 a ∧ Holds wr g (polyTo n xs a) ∧ Below W0.heap.size W0 wr) (fun i _ => xs.length - (intOf i).toNat)
  case atStart => exact ⟨0, by omega, rfl, hH0, hb0⟩
  case round =>
    obtain ⟨a, ha, rfl, hH, hb⟩ := hrel
    clear hH0 hb0
    by_cases hlt : a < xs.length
    · obtain ⟨b1, o1, x, rfl, hbx, c1, H1⟩ := HA.out.one hlt
      have H2 := Bx.mk H1.out
      clear H1
      have HC := Bx.mk (bcell hb).1
      have q1 := (HC.out _ _ (by omega)).trans k1
      have q3 := (HC.out _ _ hbx).trans c1
      clear c1
      have hkl : (a : Int) < xs.length := by omega
      obtain ⟨hx1, hx2⟩ := HM.out x (List.mem_of_getElem? H2.out)
      obtain ⟨z, cz, Hz⟩ := hH.cell (k := x.toNat) (by rw [polyTo_len]; omega)
      have fz := hH.frozen x.toNat
      have HN : Bx (polyTo n xs (a + 1) = (polyTo n xs a).set x.toNat 1) := ⟨polyTo_step H2.out⟩
      have HS := Bx.mk (hH.set x.toNat 1)
      have hb' : Below W0.heap.size W0 (wr.setCell ⟨g, x.toNat, none⟩ (.int .i64 1)) := hb.setCell (by simp; omega) _
      have HB' := Bx.mk hb'
      clear hb' hb hH
      go_wp2_with fail
      go_roundw
      case rel => exact ⟨a + 1, by omega, by go_num, by rw [HN.out]; exact HS.out, HB'.out⟩
      case measure => simp [intOf]; omega
    · have hax : a = xs.length := by omega
      obtain ⟨L, hL⟩ : ∃ L, L = polyTo n xs a := ⟨_, rfl⟩
      have hLl : L.length = n := by rw [hL, polyTo_len]
      have HP : Bx (polyL n xs = trim L) := ⟨by rw [hL, hax]; unfold polyL; rw [Int.toNat_natCast]⟩
      rw [← hL] at hH
      clear hax hL
      have HIR : Bx (IR wr (some ⟨g, 0, none⟩) L) := ⟨(hH.io (base := 0) (by omega) (by omega)).reads⟩
      have hio : Bx (GivesIS w (polyL n xs) (.returned (.slice (some ⟨g, 0, none⟩) (trim L).length n)) wr) := ⟨by
        rw [HP.out]
        have := trim_le L
        exact holds_givesS (n := n) (by omega) hLl (by omega) hH (bw.trans (hb.mono bw.size)) (by first | exact Nat.le_refl _ | omega) (by omega)⟩
      have hcl := l10Trim_any _ n L wr HIR.out (by omega) (by omega)
      rw [hLl] at hcl
      have HCL := Bx.mk hcl
      clear hH hb hcl
      go_wp2_with fail
      refine HCL.out.mono ?_
      rintro e w2 ⟨rfl, rfl⟩
      go_wp2_with fail
      go_ret
      exact hio.out
def polyI (s : Int) (xs : List Int) : List Int := if rhOk s xs = true then polyL s xs else []
theorem rhOk_is' {f : FuncId} {args : Array Value} {w : World} {s : Int} {xs : List Int} {b : Bool} (hb : rhOk s xs = b) (h : Calls Try.prog f args w fun e w' => e = .returned (.bool (rhOk s xs)) ∧ Below w.heap.size w w') :
    Calls Try.prog f args w fun e w' => e = .returned (.bool b) ∧ Below w.heap.size w w' := by rw [← hb]; exact h
end Go.Proofs.Ytbgfhbaaacmndaa
