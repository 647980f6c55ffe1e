/- The circles of an interval, walked. -/
import Derived.Test.YtlgiijibekobfaaCircPlain
import Derived.Test.YtlgiijibekobfaaAppG
import Derived.Test.YtlgiijibekobfaaBas
import Derived.Deep.DeepMust
namespace Go.Proofs.Ytlgiijibekobfaa
open Go.RowKit

theorem Row.single (w : World) (x : Int) : Row (w.alloc (.cells #[.int .i64 x] 3)) w.heap.size (.slice (some ⟨w.heap.size, 0, none⟩) 1 1) [x] :=
  ⟨rfl, .inr ⟨w.heap.size, 1, _, rfl, Nat.le_refl _, heap_alloc_new w _, Nat.le_refl _, by unfold maxLen; omega, rfl, rfl⟩⟩
def vlen : Value → Nat
  | .slice _ n _ => n
  | _ => 0
theorem Row.vlen_eq {w : World} {base : Nat} {v : Value} {xs : List Int} (h : Row w base v xs) : vlen v = xs.length := by
  obtain ⟨A, c, rfl⟩ := h.slice
  rfl
theorem RowAt.of_row {w : World} {base : Nat} {v : Value} {xs : List Int} (h : Row w base v xs) (hx : 0 < xs.length) (hl : xs.length ≤ 17592186044415) : ∃ g, base ≤ g ∧ RowAt w g v xs := by
  obtain ⟨A, c, rfl, hio⟩ := h.io hl
  obtain ⟨h1, h2, h3⟩ := hio
  rcases h3 with ⟨_, rfl⟩ | ⟨g, cur, rfl, hg, hh, r⟩
  · simp at hx
  · exact ⟨g, hg, c, rfl, h1, h2, .inr ⟨g, cur, rfl, Nat.le_refl _, hh, r⟩⟩
theorem Rows2.lt {w : World} {base : Nat} {V : Value} {gs : List Nat} {vs : List Value} {xss : List (List Int)} (h : Rows2 w base V gs vs xss) : ∀ x ∈ gs, x < w.heap.size := by
  intro x hx
  obtain ⟨k, hk⟩ := List.mem_iff_getElem?.1 hx
  have hkl : k < gs.length := (List.getElem?_eq_some_iff.1 hk).1
  have h1 := List.getElem?_eq_getElem (l := vs) (i := k) (by rw [h.lenv, ← h.leng]; exact hkl)
  have h2 := List.getElem?_eq_getElem (l := xss) (i := k) (by rw [← h.leng]; exact hkl)
  exact (h.rows k _ _ x h1 h2 hk).1.lt
/-- what a function that makes a list of lists of ints hands back -/
def GivesRows (w : World) (xss : List (List Int)) (e : Ending) (w' : World) : Prop := ∃ V gs vs, e = .returned V ∧ Rows2 w' w.heap.size V gs vs xss ∧ Below w.heap.size w w'

theorem one_u {w : World} {base : Nat} {v : Value} {xs : List Int} (h : Row w base v xs) : ∀ u ∈ [v], u.oneCell' = true := by
  intro u hu
  simp at hu
  obtain ⟨A, c, rfl⟩ := h.slice
  subst hu
  rfl

theorem Rows2.startE (w : World) (base : Nat) (hb : base ≤ w.heap.size) : Rows2 (w.alloc (.cells #[] 26)) base (.slice (some ⟨w.heap.size, 0, none⟩) 0 0) [] [] [] :=
  ⟨⟨rfl, .inr ⟨w.heap.size, 0, #[], rfl, hb, heap_alloc_new w _, Nat.le_refl _, by unfold maxLen; omega, rfl, rfl⟩⟩, rfl, rfl, fun k v xs g h => by simp at h, List.Pairwise.nil⟩
set_option maxHeartbeats 1000000 in
theorem implCircles_in (n d : Int) (h1 : inB n 2 24 = true) (h2 : inB d 1 (n - 1) = true) (w : World) :
    Calls Try.prog 8 #[.int .i64 n, .int .i64 d] w (GivesRows w (circs n d (gcdI n d).toNat)) := by
  have b1 := inB_iff.1 h1
  have b2 := inB_iff.1 h2
  obtain ⟨b1l, b1r⟩ := b1
  obtain ⟨b2l, b2r⟩ := b2
  obtain ⟨T, hT1, hTn, hT⟩ := circ_T b1l b2l
  have HT := Bx.mk hT
  clear hT
  have hg := gcdI_bd n d (by omega)
  have hgn := gcdI_bdl n d (by omega)
  obtain ⟨G, hG⟩ : ∃ G : Nat, gcdI n d = G := ⟨(gcdI n d).toNat, by omega⟩
  have HG : Bx (∀ W, Calls Try.prog 56 #[.int .i64 n, .int .i64 d] W fun e w' => e = .returned (.int .i64 G) ∧ ∃ k, w' = W.drewN k) := ⟨fun W => by
    have := gcd_any n d (by omega) (by omega) (by omega) (by omega) W
    rwa [hG] at this⟩
  rw [hG] at hg hgn
  rw [hG, Int.toNat_natCast]
  clear hG
  go_enter Try.func8, Try.ntmps8
  go_wp2_with (first | (go_at_call 55; refine (within_any _ _ _ _).mono ?_; rintro e w' ⟨rfl, rfl⟩) | (go_at_call 56; refine (HG.out _).mono ?_; rintro e w' ⟨rfl, m0, rfl⟩))
  go_loopw [5, 22] (fun V x wr => ∃ (i : Nat) (gs : List Nat) (vs : List Value), i ≤ G ∧ x = .int .i64 i ∧ Rows2 wr w.heap.size V gs vs (circs n d i) ∧ Below w.heap.size w wr) (fun _ x _ => G - (intOf x).toNat)
  case atStart => exact ⟨0, [], [], by omega, rfl, Rows2.start _ _, bdrewN_refl _ _⟩
  case round =>
    obtain ⟨i, gs, vs, hi, rfl, hR, hB⟩ := hrel
    by_cases hlt : i < G
    · have hlti : (i : Int) < G := by omega
      have hin : (i : Int) < n := by omega
      obtain ⟨wo, hwo⟩ : ∃ wo : World, wo = wr := ⟨_, rfl⟩
      subst hwo
      go_wp2_with fail
      have HC0 := Bx.mk (CircAt.start (n := n) (d := d) (p := (i : Int)) hT1)
      have hr0 := Row.single wo (i : Int)
      have hbo : Below wo.heap.size wo (wo.alloc (.cells #[.int .i64 (i : Int)] 3)) := (Below.refl _ _).alloc (Nat.le_refl _) _
      go_loopw [7, 8] (fun v x wi => ∃ (j : Nat) (q : Int) (L : List Int), x = .int .i64 q ∧ 0 ≤ q ∧ q < n ∧ CircAt n d i T j q L ∧ Row wi wo.heap.size v L ∧ Below wo.heap.size wo wi) (fun v _ _ => T - vlen v)
      case atStart => exact ⟨1, _, _, rfl, Int.emod_nonneg _ (by omega), Int.emod_lt_of_pos _ (by omega), HC0.out, hr0, hbo⟩
      case round =>
        obtain ⟨j, q, L, rfl, hq0, hqn, hC, hrow, hbi⟩ := hrel
        have hTi := HT.out i (by omega) hin
        have hLl : L.length ≤ 1000 := by have := hC.len; have := hC.le; omega
        by_cases hqp : q = i
        · have HL := Bx.mk (hC.stop hTn hqp)
          have hLp : 0 < L.length := by have := hC.len; have := hC.pos; omega
          have hqb : (q != (i : Int)) = false := by simp [hqp]
          obtain ⟨A7, c7, rfl⟩ := hrow.slice
          have HRA := Bx.mk (RowAt.of_row hrow hLp (by omega))
          have hvsl : vs.length ≤ 1000 := by have := hR.lenv; rw [circs_len] at this; omega
          have hsz := hbi.size
          have hszo := hB.size
          have hR2 := hR.below hbi (Nat.le_refl _)
          have hB2 : Below w.heap.size w wr := hB.trans (hbi.mono hB.size)
          clear hqp
          go_wp2_with (at_builtin; go_must (refine wpList_appG 24 26 1 24 _ Try.underlying24 info_ints rfl (by decide) (by decide) rfl _ _ rfl w.heap.size _ vs.length vs [_] rfl rfl rfl (by exact one_u hrow) (by exact hR2.outer) (by omega) (by exact hB2.size) ?_); intro V' w2 hown2 hg2 hb2)
          obtain ⟨g, hgo, hra⟩ := HRA.out
          have hpush := Bx.mk (hR2.push hra (Nat.le_trans hszo hgo) (fun x hx => Nat.lt_of_lt_of_le (hR.lt x hx) hgo) hown2 hg2)
          have hB3 := hB2.trans hb2
          clear hown2 hg2 hb2 hra hR2 hR hB hB2
          go_wp2
          go_roundw
          case rel => exact ⟨i + 1, _, _, by omega, by go_num, by rw [circs_succ, ← HL.out]; exact hpush.out, hB3⟩
          case measure => simp [intOf]; omega
        · have HC1 := Bx.mk (hC.step hTn hTi hqp)
          have hqb : (q != (i : Int)) = true := by simpa using hqp
          have hvl := hrow.vlen_eq
          have hjT : L.length < T := by have := HC1.out.le; have := HC1.out.len; simp at this; omega
          have HVL := Bx.mk hvl
          have h0m : 0 ≤ (q + d) % n := Int.emod_nonneg _ (by omega)
          have h1m : (q + d) % n < n := Int.emod_lt_of_pos _ (by omega)
          clear hqp hvl
          have hsz := hbi.size
          go_wp2_with (at_builtin; go_must (refine wpList_app1 rfl _ _ rfl wo.heap.size _ L q rfl rfl (by exact hrow) (by omega) (by exact hsz) ?_); intro v1 w1 hown1 hb1)
          have hb2 := hbi.trans hb1
          have HVL1 := Bx.mk hown1.vlen_eq
          clear hrow hb1 hbi
          go_wp2
          go_roundw
          case rel => exact ⟨j + 1, _, _, rfl, h0m, h1m, HC1.out, hown1, hb2⟩
          case measure => show T - vlen v1 < T - vlen _; rw [HVL1.out, HVL.out]; simp; omega
    · have hiG : i = G := by omega
      subst hiG
      go_wp2
      go_ret
      exact ⟨_, _, _, rfl, hR, hB⟩


set_option maxHeartbeats 400000 in
theorem implCircles_any (n d : Int) (w : World) : Calls Try.prog 8 #[.int .i64 n, .int .i64 d] w (GivesRows w (circlesI n d)) := by
  by_cases h1 : inB n 2 24 = true
  · by_cases h2 : inB d 1 (n - 1) = true
    · have hv : circlesI n d = circs n d (gcdI n d).toNat := by simp [circlesI, h1, h2]
      rw [hv]
      exact implCircles_in n d h1 h2 w
    · rw [Bool.not_eq_true] at h2
      have HR : Bx (circlesI n d = []) := ⟨by simp [circlesI, h2]⟩
      have b1 := inB_iff.1 h1
      go_enter Try.func8, Try.ntmps8
      go_wp2_with (go_at_call 55; refine (within_any _ _ _ _).mono ?_; rintro e w' ⟨rfl, rfl⟩)
      go_ret
      exact ⟨_, [], [], rfl, by rw [HR.out]; exact Rows2.start _ _, Below.refl _ _⟩
  · rw [Bool.not_eq_true] at h1
    have HR : Bx (circlesI n d = []) := ⟨by simp [circlesI, h1]⟩
    go_enter Try.func8, Try.ntmps8
    go_wp2_with (go_at_call 55; refine (within_any _ _ _ _).mono ?_; rintro e w' ⟨rfl, rfl⟩)
    go_ret
    exact ⟨_, [], [], rfl, by rw [HR.out]; exact Rows2.start _ _, Below.refl _ _⟩
end Go.Proofs.Ytlgiijibekobfaa
