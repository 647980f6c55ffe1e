/- The orders that neither of two rhythms has. -/
import Derived.Test.YtmgemafkaddfjaaPp
import Derived.Test.YtmgemafkaddfjaaDelO
import Derived.Test.YtmgemafkaddfjaaTwo
import Derived.Test.YtmgemafkaddfjaaMem
namespace Go.Proofs.Ytmgemafkaddfjaa
open Go.RowKit

def lq (s : Int) (xs : List Int) (t : Int) (ys : List Int) (d : Int) : Bool := d == 1 || vanI s xs d || vanI t ys d
def leftI (s : Int) (xs : List Int) (t : Int) (ys : List Int) : List Int := if twoOk s xs t ys = true then (divs s).filter (qn (lq s xs t ys)) else []
theorem divTo_pos {n : Int} {k : Nat} : ∀ x ∈ divTo n k, 1 ≤ x := by
  induction k with
  | zero => simp [divTo]
  | succ k ih =>
    intro x hx
    simp only [divTo, List.mem_append] at hx
    rcases hx with hx | hx
    · exact ih x hx
    · split at hx <;> simp at hx; omega
theorem divs_pos {n : Int} : ∀ x ∈ divs n, 1 ≤ x := by
  intro x hx
  unfold divs at hx
  split at hx
  · exact divTo_pos x hx
  · simp at hx
theorem memB_ord {s : Int} {xs : List Int} {d : Int} (hok : rhOk s xs = true) (hd : d ∈ divs s) (h1 : d ≠ 1) : memB (ordI s xs) d = vanI s xs d := by
  have hb : (d == 1) = false := by simpa using h1
  unfold ordI ordL
  rw [if_pos hok, Bool.eq_iff_iff, memB_iff, List.mem_filter]
  simp [hd, qn, vq, hb]
theorem two_is {f : FuncId} {args : Array Value} {w : World} {s t : Int} {xs ys : List Int} {b : Bool} (hb : twoOk s xs t ys = b) (h : Calls Try.prog f args w fun e w' => e = .returned (.bool (twoOk s xs t ys)) ∧ Below w.heap.size w w') :
    Calls Try.prog f args w fun e w' => e = .returned (.bool b) ∧ Below w.heap.size w w' := by rw [← hb]; exact h
set_option maxHeartbeats 400000 in
theorem closL (s t : Int) (A B : Option Addr) (c d : Nat) (xs ys : List Int) (x : Int) (g g2 : Nat) (w : World) (hs : -9223372036854775808 ≤ s ∧ s ≤ 9223372036854775807) (ht : -9223372036854775808 ≤ t ∧ t ≤ 9223372036854775807) (hx : IR w A xs) (hy : IR w B ys)
    (k0 : w.cell? ⟨g, 0, none⟩ = some (.int .i64 s)) (k1 : w.cell? ⟨g, 1, none⟩ = some (.slice A xs.length c)) (k2 : w.cell? ⟨g2, 0, none⟩ = some (.int .i64 t)) (k3 : w.cell? ⟨g2, 1, none⟩ = some (.slice B ys.length d)) (hg2 : g2 < w.heap.size) :
    Calls Try.prog 82 #[.int .i64 x, .pointer (some ⟨g, 0, none⟩), .pointer (some ⟨g2, 0, none⟩)] w fun e w' => e = .returned (.bool (lq s xs t ys x)) ∧ Below w.heap.size w w' := by
  have HX := Bx.mk hx
  have HY := Bx.mk hy
  have HS := Bx.mk hs
  have HT := Bx.mk ht
  clear hx hy hs ht
  by_cases h1 : x = 1
  · subst h1
    have HR : Bx (lq s xs t ys 1 = true) := ⟨by simp [lq]⟩
    go_enter Try.func82, Try.ntmps82
    go_wp2_with fail
    go_ret
    exact ⟨ret_bool HR.out.symm, Below.refl _ _⟩
  · have hb : (x == 1) = false := by simp; omega
    clear h1
    cases hv : vanI s xs x with
    | true =>
      have HR : Bx (lq s xs t ys x = true) := ⟨by simp [lq, hv]⟩
      go_enter Try.func82, Try.ntmps82
      go_wp2_with fail
      refine (implVan_any _ _ _ _ _ _ HS.out (by exact HX.out)).mono ?_
      rw [hv]
      rintro e w1 ⟨rfl, b⟩
      go_wp2_with fail
      go_ret
      exact ⟨ret_bool HR.out.symm, b⟩
    | false =>
      have HR : Bx (lq s xs t ys x = vanI t ys x) := ⟨by simp [lq, hv, hb]⟩
      go_enter Try.func82, Try.ntmps82
      go_wp2_with fail
      refine (implVan_any _ _ _ _ _ _ HS.out (by exact HX.out)).mono ?_
      rw [hv]
      rintro e w1 ⟨rfl, b⟩
      have q2 := ((bcell b).1 _ _ hg2).trans k2
      have q3 := ((bcell b).1 _ _ hg2).trans k3
      have HY2 := Bx.mk (HY.out.below b)
      have HB := Bx.mk b
      clear b
      go_wp2_with fail
      refine (implVan_any _ _ _ _ _ _ HT.out (by exact HY2.out)).mono ?_
      rintro e w2 ⟨rfl, b2⟩
      have HB2 := Bx.mk (HB.out.trans (b2.mono HB.out.size))
      clear b2
      go_wp2_with fail
      go_ret
      exact ⟨ret_bool HR.out.symm, HB2.out⟩
set_option maxHeartbeats 1000000 in
theorem implLeft_any (s t : Int) (A B : Option Addr) (c d : Nat) (xs ys : List Int) (w : World) (hs : -9223372036854775808 ≤ s ∧ s ≤ 9223372036854775807) (ht : -9223372036854775808 ≤ t ∧ t ≤ 9223372036854775807) (hx : IR w A xs) (hy : IR w B ys) :
    Calls Try.prog 47 #[.agg #[.int .i64 s, .slice A xs.length c], .agg #[.int .i64 t, .slice B ys.length d]] w (GivesInts w (leftI s xs t ys)) := by
  obtain ⟨W0, hW0⟩ : ∃ W0, W0 = (w.alloc (.cells #[.int .i64 s, .slice A xs.length c] 29)).alloc (.cells #[.int .i64 t, .slice B ys.length d] 29) := ⟨_, rfl⟩
  have bw : Below w.heap.size w W0 := by rw [hW0]; exact (below_alloc _ _).alloc (by simp) _
  have hz : w.heap.size + 2 ≤ W0.heap.size := by rw [hW0]; simp
  have k0 : W0.cell? ⟨w.heap.size, 0, none⟩ = some (.int .i64 s) := by rw [hW0]; simp [go_sem]
  have k1 : W0.cell? ⟨w.heap.size, 1, none⟩ = some (.slice A xs.length c) := by rw [hW0]; simp [go_sem]
  have k2 : W0.cell? ⟨w.heap.size + 1, 0, none⟩ = some (.int .i64 t) := by rw [hW0]; simp [go_sem]
  have k3 : W0.cell? ⟨w.heap.size + 1, 1, none⟩ = some (.slice B ys.length d) := by rw [hW0]; simp [go_sem]
  have HX := Bx.mk ((RB.of_ir hx).below bw (Nat.le_refl _))
  have HY := Bx.mk ((RB.of_ir hy).below bw (Nat.le_refl _))
  have HS := Bx.mk hs
  have HT := Bx.mk ht
  clear hx hy hs ht
  cases h1 : twoOk s xs t ys with
  | false =>
    have HR : Bx (leftI s xs t ys = []) := ⟨by simp [leftI, h1]⟩
    go_enter Try.func47, Try.ntmps47
    go_wp2_with fail
    rw [← hW0]
    clear hW0
    refine (two_is h1 (implSame_any _ _ _ _ _ _ _ _ _ HS.out HT.out (by exact HX.out.ir) (by exact HY.out.ir))).mono ?_
    rintro e w1 ⟨rfl, b⟩
    replace k0 := ((bcell b).1 _ _ (by omega)).trans k0
    replace k1 := ((bcell b).1 _ _ (by omega)).trans k1
    replace k2 := ((bcell b).1 _ _ (by omega)).trans k2
    replace k3 := ((bcell b).1 _ _ (by omega)).trans k3
    replace HX := Bx.mk (HX.out.below b (by omega))
    replace HY := Bx.mk (HY.out.below b (by omega))
    replace hz := Nat.le_trans hz b.size
    replace bw := bw.trans (b.mono bw.size)
    clear b
    go_wp2_with fail
    go_ret
    rw [HR.out]
    exact GivesInts.of_row (Row.nil _ _) (by simp) bw
  | true =>
    have HR : Bx (leftI s xs t ys = (divs s).filter (qn (lq s xs t ys))) := ⟨by simp [leftI, h1]⟩
    go_enter Try.func47, Try.ntmps47
    go_wp2_with fail
    rw [← hW0]
    clear hW0
    refine (two_is h1 (implSame_any _ _ _ _ _ _ _ _ _ HS.out HT.out (by exact HX.out.ir) (by exact HY.out.ir))).mono ?_
    rintro e w1 ⟨rfl, b⟩
    replace k0 := ((bcell b).1 _ _ (by omega)).trans k0
    replace k1 := ((bcell b).1 _ _ (by omega)).trans k1
    replace k2 := ((bcell b).1 _ _ (by omega)).trans k2
    replace k3 := ((bcell b).1 _ _ (by omega)).trans k3
    replace HX := Bx.mk (HX.out.below b (by omega))
    replace HY := Bx.mk (HY.out.below b (by omega))
    replace hz := Nat.le_trans hz b.size
    replace bw := bw.trans (b.mono bw.size)
    clear b
    have hz0 := hz
    go_wp2_with fail
    refine (implDivisorsOf_any _ _).mono ?_
    rintro e w2 ⟨A2, c2, rfl, io, b⟩
    have hb := b
    have BW := Bx.mk bw
    replace k0 := ((bcell b).1 _ _ (by omega)).trans k0
    replace k1 := ((bcell b).1 _ _ (by omega)).trans k1
    replace k2 := ((bcell b).1 _ _ (by omega)).trans k2
    replace k3 := ((bcell b).1 _ _ (by omega)).trans k3
    replace HX := Bx.mk (HX.out.below b (by omega))
    replace HY := Bx.mk (HY.out.below b (by omega))
    replace hz := Nat.le_trans hz b.size
    replace bw := bw.trans (b.mono bw.size)
    have HC : Bx (∀ x ∈ divs s, ∀ W, Below w1.heap.size w2 W → Calls Try.prog 82 #[.int .i64 x, .pointer (some ⟨w.heap.size, 0, none⟩), .pointer (some ⟨w.heap.size + 1, 0, none⟩)] W fun e w' => e = .returned (.bool (lq s xs t ys x)) ∧ Below W.heap.size W w') :=
      ⟨fun x _ W hW => closL s t A B c d xs ys x _ _ W HS.out HT.out (HX.out.below hW (by omega)).ir (HY.out.below hW (by omega)).ir (((bcell hW).1 _ _ (by omega)).trans k0) (((bcell hW).1 _ _ (by omega)).trans k1) (((bcell hW).1 _ _ (by omega)).trans k2) (((bcell hW).1 _ _ (by omega)).trans k3) (by have := hW.size; omega)⟩
    have hl := divs_len s
    have hz2 := b.size
    have HIO := Bx.mk io
    have HB := Bx.mk hb
    clear b io bw hb
    go_wp2_with fail
    refine (delDelO (lq s xs t ys) w1.heap.size w1.heap.size _ _ _ _ _ _ (Nat.le_refl _) (by exact hz2) (by exact hl) (by exact HIO.out) HC).mono ?_
    rintro e w3 ⟨rfl, io3, b3⟩
    have HF := Bx.mk (GivesInts.mono' io3 BW.out (HB.out.trans b3))
    clear b3 io3
    rw [← HR.out] at HF ⊢
    go_wp2_with fail
    go_ret
    exact HF.out
set_option maxHeartbeats 1000000 in
theorem specLeft_any (s t : Int) (A B : Option Addr) (c d : Nat) (xs ys : List Int) (w : World) (hs : -9223372036854775808 ≤ s ∧ s ≤ 9223372036854775807) (ht : -9223372036854775808 ≤ t ∧ t ≤ 9223372036854775807) (hx : IR w A xs) (hy : IR w B ys) :
    Calls Try.prog 46 #[.agg #[.int .i64 s, .slice A xs.length c], .agg #[.int .i64 t, .slice B ys.length d]] w (GivesInts w (leftI s xs t ys)) := by
  obtain ⟨W0, hW0⟩ : ∃ W0, W0 = (w.alloc (.cells #[.int .i64 s, .slice A xs.length c] 29)).alloc (.cells #[.int .i64 t, .slice B ys.length d] 29) := ⟨_, rfl⟩
  have bw : Below w.heap.size w W0 := by rw [hW0]; exact (below_alloc _ _).alloc (by simp) _
  have hz : w.heap.size + 2 ≤ W0.heap.size := by rw [hW0]; simp
  have k0 : W0.cell? ⟨w.heap.size, 0, none⟩ = some (.int .i64 s) := by rw [hW0]; simp [go_sem]
  have k1 : W0.cell? ⟨w.heap.size, 1, none⟩ = some (.slice A xs.length c) := by rw [hW0]; simp [go_sem]
  have k2 : W0.cell? ⟨w.heap.size + 1, 0, none⟩ = some (.int .i64 t) := by rw [hW0]; simp [go_sem]
  have k3 : W0.cell? ⟨w.heap.size + 1, 1, none⟩ = some (.slice B ys.length d) := by rw [hW0]; simp [go_sem]
  have HX := Bx.mk ((RB.of_ir hx).below bw (Nat.le_refl _))
  have HY := Bx.mk ((RB.of_ir hy).below bw (Nat.le_refl _))
  have HS := Bx.mk hs
  have HT := Bx.mk ht
  clear hx hy hs ht
  cases h1 : twoOk s xs t ys with
  | false =>
    have HR : Bx (leftI s xs t ys = []) := ⟨by simp [leftI, h1]⟩
    go_enter Try.func46, Try.ntmps46
    go_wp2_with fail
    rw [← hW0]
    clear hW0
    refine (two_is h1 (specSame_any _ _ _ _ _ _ _ _ _ HS.out HT.out (by exact HX.out.ir) (by exact HY.out.ir))).mono ?_
    rintro e w1 ⟨rfl, b⟩
    replace k0 := ((bcell b).1 _ _ (by omega)).trans k0
    replace k1 := ((bcell b).1 _ _ (by omega)).trans k1
    replace k2 := ((bcell b).1 _ _ (by omega)).trans k2
    replace k3 := ((bcell b).1 _ _ (by omega)).trans k3
    replace HX := Bx.mk (HX.out.below b (by omega))
    replace HY := Bx.mk (HY.out.below b (by omega))
    replace hz := Nat.le_trans hz b.size
    replace bw := bw.trans (b.mono bw.size)
    clear b
    go_wp2_with fail
    go_ret
    rw [HR.out]
    exact GivesInts.of_row (Row.nil _ _) (by simp) bw
  | true =>
    have HR : Bx (leftI s xs t ys = (divs s).filter (qn (lq s xs t ys))) := ⟨by simp [leftI, h1]⟩
    obtain ⟨e1, e2, e3⟩ := twoOk_iff.1 h1
    have HO1 := Bx.mk e1
    have HO2 : Bx (rhOk s ys = true) := ⟨by rw [e3]; exact e2⟩
    have HE := Bx.mk e3
    clear e1 e2 e3
    go_enter Try.func46, Try.ntmps46
    go_wp2_with fail
    rw [← hW0]
    clear hW0
    refine (two_is h1 (specSame_any _ _ _ _ _ _ _ _ _ HS.out HT.out (by exact HX.out.ir) (by exact HY.out.ir))).mono ?_
    rintro e w1 ⟨rfl, b⟩
    replace k0 := ((bcell b).1 _ _ (by omega)).trans k0
    replace k1 := ((bcell b).1 _ _ (by omega)).trans k1
    replace k2 := ((bcell b).1 _ _ (by omega)).trans k2
    replace k3 := ((bcell b).1 _ _ (by omega)).trans k3
    replace HX := Bx.mk (HX.out.below b (by omega))
    replace HY := Bx.mk (HY.out.below b (by omega))
    replace hz := Nat.le_trans hz b.size
    replace bw := bw.trans (b.mono bw.size)
    clear b
    go_wp2_with fail
    refine (specOrd_any _ _ _ _ _ HS.out (by exact HX.out.ir)).mono ?_
    rintro e w2 ⟨A2, c2, rfl, io2, b⟩
    have HO := Bx.mk (OB.of io2 (Nat.le_refl _)).rb
    replace k0 := ((bcell b).1 _ _ (by omega)).trans k0
    replace k1 := ((bcell b).1 _ _ (by omega)).trans k1
    replace k2 := ((bcell b).1 _ _ (by omega)).trans k2
    replace k3 := ((bcell b).1 _ _ (by omega)).trans k3
    replace HX := Bx.mk (HX.out.below b (by omega))
    replace HY := Bx.mk (HY.out.below b (by omega))
    replace hz := Nat.le_trans hz b.size
    replace bw := bw.trans (b.mono bw.size)
    clear b io2
    go_wp2_with fail
    refine (specOrd_any _ _ _ _ _ HT.out (by exact HY.out.ir)).mono ?_
    rintro e w3 ⟨A3, c3, rfl, io3, b⟩
    replace HO := Bx.mk (HO.out.below b (Nat.le_refl _))
    have HP := Bx.mk (OB.of io3 (Nat.le_refl _)).rb
    have hz23 := b.size
    replace k0 := ((bcell b).1 _ _ (by omega)).trans k0
    replace k1 := ((bcell b).1 _ _ (by omega)).trans k1
    replace k2 := ((bcell b).1 _ _ (by omega)).trans k2
    replace k3 := ((bcell b).1 _ _ (by omega)).trans k3
    replace HX := Bx.mk (HX.out.below b (by omega))
    replace HY := Bx.mk (HY.out.below b (by omega))
    replace hz := Nat.le_trans hz b.size
    replace bw := bw.trans (b.mono bw.size)
    clear b io3
    have hlt0 : w.heap.size < w3.heap.size := by omega
    go_wp2_with fail
    obtain ⟨g0, hg0⟩ : ∃ g0, g0 = w3.heap.size := ⟨_, rfl⟩
    have hr0 : Row (w3.alloc (.cells #[] 3)) w3.heap.size (.slice (some ⟨w3.heap.size, 0, none⟩) 0 0) [] := Row.empty w3 _ (Nat.le_refl _)
    refine (specDivisorsOf_any _ _).mono ?_
    rintro e w4 ⟨A4, c4, rfl, io4, b⟩
    have hr1 := hr0.below b (Nat.le_refl _)
    have hb4 : Below w3.heap.size w3 w4 := (below_alloc _ _).trans (b.mono (by simp))
    have hz4 : w3.heap.size + 1 ≤ w4.heap.size := by have := b.size; simpa using this
    have HI := Bx.mk (OB.of io4 (Nat.le_refl _)).rb
    replace HO := Bx.mk (HO.out.below hb4 (by omega))
    replace HP := Bx.mk (HP.out.below hb4 (Nat.le_refl _))
    have bw4 := bw.trans (hb4.mono bw.size)
    have HLO : Bx ((w3.alloc (.cells #[] 3)).heap.size = w3.heap.size + 1) := ⟨by simp⟩
    obtain ⟨L, hL⟩ : ∃ L, L = divs s := ⟨_, rfl⟩
    have HLM : Bx (∀ x ∈ L, 1 ≤ x ∧ x ∈ divs s) := ⟨fun x hx => by rw [hL] at hx; exact ⟨divs_pos x hx, hx⟩⟩
    have hll : L.length ≤ 1000 := by rw [hL]; exact divs_len s
    rw [← hL] at HR HI
    rw [← hL]
    rw [← hg0] at hr1 hz4
    have hgz : w.heap.size ≤ g0 := by omega
    have hg3 : w3.heap.size ≤ g0 := by omega
    have hg23 : w2.heap.size ≤ g0 := by omega
    rw [HLO.out, ← hg0] at HI
    clear hL b io4 hr0 HLO hb4 bw k0 k1 k2 k3 HX HY hz
    go_wp2_with fail
    rw [← hg0]
    clear hg0
    go_loopw [7, 23] (fun v i wr => ∃ k : Nat, k ≤ L.length ∧ i = .int .i64 k ∧ RowX wr g0 g0 w4.heap.size v ((L.take k).filter (qn (lq s xs t ys))) ∧ Only w4 wr (some ⟨g0, 0, none⟩)) (fun _ i _ => L.length - (intOf i).toNat)
    case atStart => exact ⟨0, by omega, rfl, RowX.start hr1, Only.refl _ _⟩
    case round =>
      obtain ⟨k, hk, rfl, hrow, ho⟩ := hrel
      have hlen := ftake_len (qn (lq s xs t ys)) L k
      have HR0 := Bx.mk hrow
      have HN := Bx.mk ho
      have hi := IR.onlyAt HI.out ho (by omega)
      have hio := Bx.mk (IR.onlyAt HO.out ho (by omega))
      have hip := Bx.mk (IR.onlyAt HP.out ho (by omega))
      have hzr := ho.size
      by_cases hlt : k < L.length
      · clear hrow ho
        obtain ⟨b, o, x, rfl, hb, c1, H3⟩ := hi.one (k := k) (by omega)
        have H4 := Bx.mk H3.out
        clear H3
        have hki : (k : Int) < (L.length : Int) := by omega
        obtain ⟨hx1, hxd⟩ := HLM.out x (List.mem_of_getElem? H4.out)
        have HXD := Bx.mk hxd
        clear hxd
        by_cases hx0 : x = 1
        · have HH := Bx.mk (ftake_miss (q := qn (lq s xs t ys)) H4.out (by simp [qn, lq, hx0]))
          have hxn : ¬ (1 : Int) < x := by omega
          clear hx0
          go_wp2_with fail
          go_roundw
          case rel => exact ⟨k + 1, by omega, by go_num, by rw [HH.out]; exact HR0.out, HN.out⟩
          case measure => simp [intOf]; omega
        · have hxn : (1 : Int) < x := by omega
          have hxb : (x == 1) = false := by simp; omega
          have hv1 := memB_ord HO1.out HXD.out hx0
          have hv2 : memB (ordI t ys) x = vanI t ys x := by
            have := memB_ord HO2.out HXD.out hx0
            rwa [HE.out] at this
          cases hv : memB (ordI s xs) x with
          | true =>
            have HH := Bx.mk (ftake_miss (q := qn (lq s xs t ys)) H4.out (by rw [hv] at hv1; simp [qn, lq, ← hv1]))
            clear hv1 hv2 hx0
            go_wp2_with fail
            refine (l02Has_any _ _ _ _ _ (by exact hio.out)).mono ?_
            rw [hv]
            rintro e w5 ⟨rfl, rfl⟩
            go_wp2_with fail
            go_roundw
            case rel => exact ⟨k + 1, by omega, by go_num, by rw [HH.out]; exact HR0.out, HN.out⟩
            case measure => simp [intOf]; omega
          | false =>
            cases hu : memB (ordI t ys) x with
            | true =>
              have HH := Bx.mk (ftake_miss (q := qn (lq s xs t ys)) H4.out (by rw [hu] at hv2; simp [qn, lq, ← hv2]))
              clear hv1 hv2 hx0
              go_wp2_with fail
              refine (l02Has_any _ _ _ _ _ (by exact hio.out)).mono ?_
              rw [hv]
              rintro e w5 ⟨rfl, rfl⟩
              go_wp2_with fail
              refine (l02Has_any _ _ _ _ _ (by exact hip.out)).mono ?_
              rw [hu]
              rintro e w5 ⟨rfl, rfl⟩
              go_wp2_with fail
              go_roundw
              case rel => exact ⟨k + 1, by omega, by go_num, by rw [HH.out]; exact HR0.out, HN.out⟩
              case measure => simp [intOf]; omega
            | false =>
              have HH := Bx.mk (ftake_hit (q := qn (lq s xs t ys)) H4.out (by rw [hv] at hv1; rw [hu] at hv2; simp [qn, lq, ← hv1, ← hv2, hxb]))
              clear hv1 hv2 hx0
              go_wp2_with fail
              refine (l02Has_any _ _ _ _ _ (by exact hio.out)).mono ?_
              rw [hv]
              rintro e w5 ⟨rfl, rfl⟩
              go_wp2_with fail
              refine (l02Has_any _ _ _ _ _ (by exact hip.out)).mono ?_
              rw [hu]
              rintro e w5 ⟨rfl, rfl⟩
              go_wp2_with (at_builtin; go_must (refine wpList_appX rfl _ _ rfl g0 g0 w4.heap.size w4 _ ((L.take k).filter (qn (lq s xs t ys))) x rfl rfl (by exact HR0.out) (by omega) (by omega) (by exact hzr) (Nat.le_refl _) (by exact HN.out) ?_); intro v1 w6 hown1 ho1)
              have R := Bx.mk (And.intro hown1 ho1)
              clear hown1 ho1
              go_wp2_with fail
              go_roundw
              case rel => exact ⟨k + 1, by omega, by go_num, by rw [HH.out]; exact R.out.1, R.out.2⟩
              case measure => simp [intOf]; omega
      · have HS2 : Bx (leftI s xs t ys = (L.take k).filter (qn (lq s xs t ys))) := ⟨by rw [HR.out, List.take_of_length_le (by omega)]⟩
        have hbl : Below w.heap.size w wr := bw4.trans (HN.out.below bw4.size (by intro x hx; injection hx with hx; subst hx; exact hgz))
        clear hrow ho
        go_wp2_with fail
        go_ret
        exact GivesInts.of_row' (base := g0) (by rw [HS2.out]; exact HR0.out.1) hgz (by rw [HS2.out]; omega) hbl
end Go.Proofs.Ytmgemafkaddfjaa
