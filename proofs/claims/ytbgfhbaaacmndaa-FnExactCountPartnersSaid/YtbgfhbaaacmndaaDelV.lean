/- The orders at which a rhythm vanishes: the library's DeleteFunc with the program's closure. -/
import Derived.Test.YtbgfhbaaacmndaaDel
import Derived.Test.YtbgfhbaaacmndaaRest
namespace Go.Proofs.Ytbgfhbaaacmndaa
open Go.RowKit

set_option maxHeartbeats 1000000 in
theorem indexDelV (p : Int → Bool) (B : Nat) (A : Option Addr) (c : Nat) (xs : List Int) (g1 : Nat) (w : World) (hB : B ≤ w.heap.size) (hx : IR w A xs) (HC : Bx (∀ x ∈ xs, ∀ W, Below B w W → Calls Try.prog 84 #[.int .i64 x, .pointer (some ⟨g1, 0, none⟩)] W fun e w' => e = .returned (.bool (p x)) ∧ Below W.heap.size W w')) :
    Calls Try.prog 83 #[.slice A xs.length c, .func (.func 84) #[] #[.pointer (some ⟨g1, 0, none⟩)]] w fun e w' => ∃ r, e = .returned (.int .i64 r) ∧ Idx p xs r ∧ Below w.heap.size w w' := by
  have hlx := hx.len
  have HX := Bx.mk hx
  clear hx
  go_enter Try.func83, Try.ntmps83
  go_wp2_with fail
  go_loopw [8] (fun i wr => ∃ k : Nat, k ≤ xs.length ∧ i = .int .i64 k ∧ Bx ((xs.take k).filter (qn p) = xs.take k) ∧ Below w.heap.size w wr) (fun i _ => xs.length - (intOf i).toNat)
  case atStart => exact ⟨0, by omega, rfl, ⟨rfl⟩, Below.refl _ _⟩
  case round =>
    obtain ⟨k, hk, rfl, HA, hb⟩ := hrel
    have hbB := hb.mono hB
    by_cases hlt : k < xs.length
    · obtain ⟨b, o, x, rfl, hbk, c1, H1⟩ := (HX.out.below hb).one hlt
      have hkl : (k : Int) < xs.length := by omega
      have H2 := Bx.mk H1.out
      clear H1
      cases hp : p x with
      | true =>
        have HI := Bx.mk (idx_hit HA.out H2.out hp)
        go_wp2_with fail
        refine (HC.out x (List.mem_of_getElem? H2.out) _ hbB).mono ?_
        rw [hp]
        rintro e w2 ⟨rfl, b2⟩
        have HB := Bx.mk (hb.trans (b2.mono hb.size))
        clear b2
        go_wp2_with fail
        go_ret
        exact ⟨_, rfl, HI.out, HB.out⟩
      | false =>
        have HI := Bx.mk (filter_take_miss HA.out H2.out hp)
        go_wp2_with fail
        refine (HC.out x (List.mem_of_getElem? H2.out) _ hbB).mono ?_
        rw [hp]
        rintro e w2 ⟨rfl, b2⟩
        have HB := Bx.mk (hb.trans (b2.mono hb.size))
        clear b2
        go_wp2_with fail
        go_roundw
        case rel => exact ⟨k + 1, by omega, by go_num, HI, HB.out⟩
        case measure => first | (simp [intOf]; done) | (simp [intOf]; omega)
    · have HI := Bx.mk (idx_no HA.out (by omega))
      go_wp2_with fail
      go_ret
      exact ⟨_, rfl, HI.out, hb⟩
set_option maxHeartbeats 1000000 in
theorem delDelV (p : Int → Bool) (B base : Nat) (A : Option Addr) (c : Nat) (xs : List Int) (g1 : Nat) (w : World) (hB : B ≤ base) (hbw : base ≤ w.heap.size) (hl : xs.length ≤ 1000) (hx : IO w base A c xs) (HC : Bx (∀ x ∈ xs, ∀ W, Below B w W → Calls Try.prog 84 #[.int .i64 x, .pointer (some ⟨g1, 0, none⟩)] W fun e w' => e = .returned (.bool (p x)) ∧ Below W.heap.size W w')) :
    Calls Try.prog 70 #[.slice A xs.length c, .func (.func 84) #[] #[.pointer (some ⟨g1, 0, none⟩)]] w fun e w' => e = .returned (.slice A (xs.filter (qn p)).length c) ∧ IO w' base A c (xs.filter (qn p)) ∧ Below base w w' := by
  have HX := Bx.mk hx
  clear hx
  go_enter Try.func70, Try.ntmps70
  go_wp2_with fail
  refine (indexDelV p B _ _ _ g1 _ (by omega) (by exact HX.out.reads) HC).mono ?_
  rintro e w1 ⟨r, rfl, hidx, b1⟩
  have HX1 := Bx.mk (HX.out.below b1 (Nat.le_refl _))
  have bb1 := b1.mono hbw
  clear b1
  rcases hidx with ⟨rfl, he⟩ | ⟨i0, rfl, hi0, hf0⟩
  · have HE := Bx.mk he
    clear he
    go_wp2_with fail
    go_ret
    rw [HE.out]
    exact ⟨rfl, HX1.out, bb1⟩
  · obtain ⟨g, rfl⟩ : ∃ g, A = some ⟨g, 0, none⟩ := by
      rcases HX1.out.2.2 with ⟨_, e⟩ | ⟨g, cur, e, _⟩
      · subst e; simp at hi0
      · exact ⟨g, e⟩
    have HD0 := Bx.mk (Del.start hi0 hf0)
    have hi01 : i0 + 1 ≤ xs.length := hi0
    have hcap := HX1.out.1
    have hm1 : ((i0 : Int) == -1) = false := by first | (simp; done) | (simp; omega)
    clear hf0 hi0
    go_wp2_with fail
    go_loopw [5, 6] (fun u v wr => ∃ (i j : Nat) (L : List Int), u = .int .i64 i ∧ v = .int .i64 j ∧ Bx (Del p xs L i j) ∧ IO wr base (some ⟨g, 0, none⟩) c L ∧ Below base w wr) (fun _ v _ => xs.length - (intOf v).toNat)
    case atStart => exact ⟨i0, i0 + 1, xs, rfl, by go_num, HD0, HX1.out, bb1⟩
    case round =>
      obtain ⟨i, j, L, rfl, rfl, HD, hL, hb⟩ := hrel
      clear HX1 bb1 HD0 hm1 hi01
      have hLn := HD.out.1
      have hij := HD.out.2.1
      have hjn := HD.out.2.2.1
      have hbB : Below B w wr := hb.mono hB
      have hgb := hL.ge _ rfl
      by_cases hlt : j < xs.length
      · obtain ⟨x, cx, Hx⟩ := hL.cellAt (k := j) (by omega)
        have H2 : Bx (xs[j]? = some x) := ⟨by rw [← HD.out.at_]; exact Hx.out⟩
        have hjl : (j : Int) < xs.length := by omega
        have HLi := Bx.mk hL
        cases hp : p x with
        | true =>
          have HD2 := Bx.mk (HD.out.miss H2.out hp)
          clear hL
          go_wp2_with fail
          refine (HC.out x (List.mem_of_getElem? H2.out) _ hbB).mono ?_
          rw [hp]
          rintro e w2 ⟨rfl, b2⟩
          have HL2 := Bx.mk (HLi.out.below b2 (Nat.le_refl _))
          have HB2 := Bx.mk (hb.trans (b2.mono (Nat.le_trans hbw hb.size)))
          clear b2 cx
          go_wp2_with fail
          go_roundw
          case rel => exact ⟨i, j + 1, L, rfl, by go_num, HD2, HL2.out, HB2.out⟩
          case measure => first | (simp [intOf]; done) | (simp [intOf]; omega)
        | false =>
          have HD2 := Bx.mk (HD.out.hit H2.out hp)
          clear hL
          go_wp2_with fail
          refine (HC.out x (List.mem_of_getElem? H2.out) _ hbB).mono ?_
          rw [hp]
          rintro e w2 ⟨rfl, b2⟩
          have hL2 := HLi.out.below b2 (Nat.le_refl _)
          have hb2 := hb.trans (b2.mono (Nat.le_trans hbw hb.size))
          obtain ⟨z, cz, _⟩ := hL2.cellAt (k := i) (by omega)
          have fz := hL2.frozenAt i
          have HL3 := Bx.mk (hL2.setAt (k := i) x (by omega))
          have HB3 := Bx.mk (hb2.setCell (p := ⟨g, i, none⟩) hgb (.int .i64 x))
          have hil : (i : Int) < xs.length := by omega
          clear b2 cx hL2 hb2
          go_wp2_with fail
          go_roundw
          case rel => exact ⟨i + 1, j + 1, L.set i x, by go_num, by go_num, HD2, HL3.out, HB3.out⟩
          case measure => first | (simp [intOf]; done) | (simp [intOf]; omega)
      · obtain ⟨hd1, hd2⟩ := HD.out.done (by omega)
        have hcl := clear_run (i := i) hL (hLn.trans rfl) (by omega)
        have hio := hL.take (n := i) (c' := c) (by omega) (Nat.le_refl _)
        rw [hd1] at hio
        have HIO := Bx.mk (io_setCells (List.replicate (xs.length - i) (.int .i64 0)) i wr hio (by omega))
        have HBB := Bx.mk (below_cells hgb (List.replicate (xs.length - i) (.int .i64 0)) i wr hb)
        have HD2 := Bx.mk hd2
        have hic : i ≤ c := by omega
        clear hd1 hd2 hL hio hb
        go_wp2_with fail
        go_ret
        rw [← HD2.out]
        exact ⟨rfl, HIO.out, HBB.out⟩
end Go.Proofs.Ytbgfhbaaacmndaa
