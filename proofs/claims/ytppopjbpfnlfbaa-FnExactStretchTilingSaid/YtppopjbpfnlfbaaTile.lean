/- Whether two rhythms tile. -/
import Derived.Test.YtppopjbpfnlfbaaSum
import Derived.Test.YtppopjbpfnlfbaaTilePlain
import Derived.Deep.RegionHeld3
namespace Go.Proofs.Ytppopjbpfnlfbaa
open Go.RowKit

def tilesB (s : Int) (xs ys : List Int) : Bool := decide ((xs.length : Int) * (ys.length : Int) = s ∧ ((sumL s xs ys).length : Int) = s)
theorem tiles_btw {s : Int} {xs ys : List Int} (hx : rhOk s xs = true) : tilesB s xs ys = (sumC s xs ys).all (fun n => inB n 1 1) := by
  have hs := (rhOk_iff.1 hx).1
  have hl : (sumC s xs ys).length = s.toNat := sumC_len _ _ _
  have ht := sumC_sum (s := s) (xs := xs) (ys := ys) hs.1
  rw [Int.natCast_mul] at ht
  have hf : ((sumL s xs ys).length : Int) = s ↔ ∀ x ∈ sumC s xs ys, 1 ≤ x := by
    have h1 := selTo_full (p := sumP (sumC s xs ys)) (k := s.toNat)
    have h2 : ((sumL s xs ys).length : Int) = s ↔ (sumL s xs ys).length = s.toNat := by omega
    rw [h2]
    unfold sumL
    rw [h1]
    constructor
    · intro h x hx
      obtain ⟨i, hi⟩ := List.mem_iff_getElem?.1 hx
      have := h i (by have := (List.getElem?_eq_some_iff.1 hi).1; omega)
      unfold sumP at this
      rw [Int.toNat_natCast, hi] at this
      simp at this
      omega
    · intro h i hi
      have hi2 : i < (sumC s xs ys).length := by omega
      have := h _ (List.getElem_mem hi2)
      unfold sumP
      rw [Int.toNat_natCast, List.getElem?_eq_getElem hi2]
      simp
      omega
  rw [tilesB, Bool.eq_iff_iff, decide_eq_true_iff, List.all_eq_true, hf]
  constructor
  · rintro ⟨h1, h2⟩ x hx
    have := ones_of_sum h2 (by rw [ht, h1, hl]; omega) x hx
    exact inB_yes (by omega)
  · intro h
    have h1 : ∀ x ∈ sumC s xs ys, x = 1 := fun x hx => by have := inB_iff.1 (h x hx); omega
    have h2 := sum_of_ones h1
    refine ⟨?_, fun x hx => by have := h1 x hx; omega⟩
    rw [ht, hl] at h2
    omega
theorem field_beats (s : Int) (A : Option Addr) (n c : Nat) (w : World) : (Instr.field 26 (.agg #[.int .i64 s, .slice A n c]) 1).run Try.prog w = .ok (.slice A n c) w := by kernel_rfl
set_option maxHeartbeats 1000000 in
theorem tilesWith_any (s : Int) (A B : Option Addr) (c d : Nat) (xs ys : List Int) (w : World) (hxo : rhOk s xs = true) (hyo : rhOk s ys = true) (hx : IR w A xs) (hy : IR w B ys) :
    Calls Try.prog 21 #[.agg #[.int .i64 s, .slice A xs.length c], .agg #[.int .i64 s, .slice B ys.length d]] w fun e w' => e = .returned (.bool (tilesB s xs ys)) ∧ Below w.heap.size w w' := by
  have H1 := Bx.mk hxo
  have H2 := Bx.mk hyo
  have hlx := (rhOk_len hxo).1
  have hly := (rhOk_len hyo).1
  clear hxo hyo
  have hm : 0 ≤ (xs.length : Int) * (ys.length : Int) ∧ (xs.length : Int) * (ys.length : Int) ≤ 576 := by
    have h1 : xs.length * ys.length ≤ 24 * 24 := Nat.mul_le_mul hlx hly
    constructor
    · exact Int.mul_nonneg (by omega) (by omega)
    · have h2 : ((xs.length * ys.length : Nat) : Int) ≤ 576 := by omega
      rwa [Int.natCast_mul] at h2
  obtain ⟨W0, hW0⟩ : ∃ W0, W0 = (w.alloc (.cells #[.int .i64 s, .slice A xs.length c] 26)).alloc (.cells #[.int .i64 s, .slice B ys.length d] 26) := ⟨_, rfl⟩
  have bw : Below w.heap.size w W0 := by rw [hW0]; exact (below_alloc _ _).alloc (by simp) _
  have hz : w.heap.size + 2 ≤ W0.heap.size := by rw [hW0]; simp
  have k0 : W0.cell? ⟨w.heap.size, 0, none⟩ = some (.int .i64 s) := by rw [hW0]; simp [go_sem]
  have k1 : W0.cell? ⟨w.heap.size, 1, none⟩ = some (.slice A xs.length c) := by rw [hW0]; simp [go_sem]
  have k2 : W0.cell? ⟨w.heap.size + 1, 0, none⟩ = some (.int .i64 s) := by rw [hW0]; simp [go_sem]
  have k3 : W0.cell? ⟨w.heap.size + 1, 1, none⟩ = some (.slice B ys.length d) := by rw [hW0]; simp [go_sem]
  have HX := Bx.mk (hx.below bw)
  have HY := Bx.mk (hy.below bw)
  have hw0 : IntKind.i64.wrap ((xs.length : Int) * (ys.length : Int)) = (xs.length : Int) * (ys.length : Int) := IntWalk.i64_in _ (by omega)
  have HT : Bx (tilesB s xs ys = (((xs.length : Int) * (ys.length : Int) == s) && (((sumL s xs ys).length : Int) == s))) := ⟨by unfold tilesB; rw [Bool.eq_iff_iff]; simp⟩
  obtain ⟨m, hmm⟩ : ∃ m : Int, m = (xs.length : Int) * (ys.length : Int) := ⟨_, rfl⟩
  rw [← hmm] at HT
  have hw : IntKind.i64.wrap ((xs.length : Int) * (ys.length : Int)) = m := hw0.trans hmm.symm
  clear hx hy hm hw0 hmm
  by_cases hms : m = s
  · subst hms
    have hmb : (m == m) = true := by simp
    have hfd := fun A n c w => field_beats m A n c w
    go_enter Try.func21, Try.ntmps21
    go_wp2_with fail
    rw [← hW0]
    clear hW0
    have hB0 : Bx (Below W0.heap.size W0 W0.drew) := ⟨(Below.refl _ _).drew⟩
    have q0 : W0.drew.cell? ⟨w.heap.size, 0, none⟩ = some (.int .i64 m) := k0
    have q1 : W0.drew.cell? ⟨w.heap.size, 1, none⟩ = some (.slice A xs.length c) := k1
    have q2 : W0.drew.cell? ⟨w.heap.size + 1, 0, none⟩ = some (.int .i64 m) := k2
    have q3 : W0.drew.cell? ⟨w.heap.size + 1, 1, none⟩ = some (.slice B ys.length d) := k3
    go_region_held3 (fun w' => w'.cell? ⟨w.heap.size, 0, none⟩ = some (.int .i64 m) ∧ w'.cell? ⟨w.heap.size, 1, none⟩ = some (.slice A xs.length c) ∧ w'.cell? ⟨w.heap.size + 1, 0, none⟩ = some (.int .i64 m) ∧ w'.cell? ⟨w.heap.size + 1, 1, none⟩ = some (.slice B ys.length d) ∧ Bx (Below W0.heap.size W0 w'))
      (exact ⟨by assumption, by assumption, by assumption, by assumption, by assumption⟩)
      (first
        | (go_at_call 25; refine (sum_any _ _ _ _ _ _ _ _ H1.out H2.out (by exact HX.out.below (Bx.out (by assumption))) (by exact HY.out.below (Bx.out (by assumption)))).mono ?_; rintro e w1 ⟨A2, c2, rfl, io, b⟩; have hB1 : Bx (Below W0.heap.size W0 w1) := ⟨Below.trans (Bx.out (by assumption)) (b.mono (by simp))⟩; have r0 := ((bcell hB1.out).1 _ _ (by omega)).trans k0; have r1 := ((bcell hB1.out).1 _ _ (by omega)).trans k1; have r2 := ((bcell hB1.out).1 _ _ (by omega)).trans k2; have r3 := ((bcell hB1.out).1 _ _ (by omega)).trans k3))
    go_wp2_with fail
    go_ret
    exact ⟨ret_bool (by rw [HT.out]; simp), bw.trans (hB1.out.mono bw.size)⟩
  · have hb : (m == s) = false := by simpa using hms
    go_enter Try.func21, Try.ntmps21
    go_wp2_with fail
    rw [← hW0]
    clear hW0 hms
    go_quiet (fail)
    go_wp2_with fail
    go_ret
    exact ⟨ret_bool (by rw [HT.out, hb]; rfl), bdrewN bw _⟩
set_option maxHeartbeats 1000000 in
theorem implIsTiling_any (s t : Int) (A B : Option Addr) (c d : Nat) (xs ys : List Int) (w : World) (hs : -9223372036854775808 ≤ s ∧ s ≤ 9223372036854775807) (ht : -9223372036854775808 ≤ t ∧ t ≤ 9223372036854775807) (hx : IR w A xs) (hy : IR w B ys) :
    Calls Try.prog 15 #[.agg #[.int .i64 s, .slice A xs.length c], .agg #[.int .i64 t, .slice B ys.length d]] w fun e w' => e = .returned (.bool (btw s xs t ys 1 1)) ∧ Below w.heap.size w w' := by
  obtain ⟨W0, hW0⟩ : ∃ W0, W0 = (w.alloc (.cells #[.int .i64 s, .slice A xs.length c] 26)).alloc (.cells #[.int .i64 t, .slice B ys.length d] 26) := ⟨_, rfl⟩
  have bw : Below w.heap.size w W0 := by rw [hW0]; exact (below_alloc _ _).alloc (by simp) _
  have hz : w.heap.size + 2 ≤ W0.heap.size := by rw [hW0]; simp
  have k0 : W0.cell? ⟨w.heap.size, 0, none⟩ = some (.int .i64 s) := by rw [hW0]; simp [go_sem]
  have k1 : W0.cell? ⟨w.heap.size, 1, none⟩ = some (.slice A xs.length c) := by rw [hW0]; simp [go_sem]
  have k2 : W0.cell? ⟨w.heap.size + 1, 0, none⟩ = some (.int .i64 t) := by rw [hW0]; simp [go_sem]
  have k3 : W0.cell? ⟨w.heap.size + 1, 1, none⟩ = some (.slice B ys.length d) := by rw [hW0]; simp [go_sem]
  have HX := Bx.mk (hx.below bw)
  have HY := Bx.mk (hy.below bw)
  have HS := Bx.mk hs
  have HT := Bx.mk ht
  clear hx hy hs ht
  cases h1 : twoOk s xs t ys with
  | false =>
    have HR : Bx (btw s xs t ys 1 1 = false) := ⟨by simp [btw, h1]⟩
    go_enter Try.func15, Try.ntmps15
    go_wp2_with fail
    rw [← hW0]
    clear hW0
    refine (implSame_any _ _ _ _ _ _ _ _ _ HS.out HT.out (by exact HX.out) (by exact HY.out)).mono ?_
    rintro e w1 ⟨rfl, b⟩
    replace k0 := ((bcell b).1 _ _ (by omega)).trans k0
    replace k1 := ((bcell b).1 _ _ (by omega)).trans k1
    replace k2 := ((bcell b).1 _ _ (by omega)).trans k2
    replace k3 := ((bcell b).1 _ _ (by omega)).trans k3
    replace HX := Bx.mk (HX.out.below b)
    replace HY := Bx.mk (HY.out.below b)
    replace hz := Nat.le_trans hz b.size
    replace bw := bw.trans (b.mono bw.size)
    clear b
    go_wp2_with fail
    go_ret
    exact ⟨ret_bool HR.out.symm, bw⟩
  | true =>
    obtain ⟨e1, e2, e3⟩ := twoOk_iff.1 h1
    subst e3
    have HR : Bx (btw s xs s ys 1 1 = tilesB s xs ys) := ⟨by rw [tiles_btw e1]; simp [btw, h1]⟩
    have H1 := Bx.mk e1
    have H2 := Bx.mk e2
    clear e1 e2
    go_enter Try.func15, Try.ntmps15
    go_wp2_with fail
    rw [← hW0]
    clear hW0
    refine (implSame_any _ _ _ _ _ _ _ _ _ HS.out HT.out (by exact HX.out) (by exact HY.out)).mono ?_
    rintro e w1 ⟨rfl, b⟩
    replace k0 := ((bcell b).1 _ _ (by omega)).trans k0
    replace k1 := ((bcell b).1 _ _ (by omega)).trans k1
    replace k2 := ((bcell b).1 _ _ (by omega)).trans k2
    replace k3 := ((bcell b).1 _ _ (by omega)).trans k3
    replace HX := Bx.mk (HX.out.below b)
    replace HY := Bx.mk (HY.out.below b)
    replace hz := Nat.le_trans hz b.size
    replace bw := bw.trans (b.mono bw.size)
    clear b
    go_wp2_with fail
    refine (tilesWith_any _ _ _ _ _ _ _ _ H1.out H2.out (by exact HX.out) (by exact HY.out)).mono ?_
    rintro e w2 ⟨rfl, b⟩
    have bw2 := bw.trans (b.mono bw.size)
    clear b
    go_wp2_with fail
    go_ret
    exact ⟨ret_bool HR.out.symm, bw2⟩
end Go.Proofs.Ytppopjbpfnlfbaa
