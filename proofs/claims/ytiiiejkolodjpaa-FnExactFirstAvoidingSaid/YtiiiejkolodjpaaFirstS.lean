/- The first rhythm that avoids an interval: the reference. -/
import Derived.Test.YtiiiejkolodjpaaFirst
import Derived.Deep.RegionHeld3
import Derived.Deep.DeepCutAuto
import Derived.Deep.AppendLies
namespace Go.Proofs.Ytiiiejkolodjpaa
open Go.RowKit

/-! the reference's search -/
theorem step_appNil {ops : Array Oper} {o : Oper} {a : Act} {K : Act → World → Prop} {Q : Exit → Act → World → Prop} {E : Prop} {w : World} (hgd : o.guard = none) (s x : Operand)
    (ho : o.op = .call { callee := .builtin .append, args := #[s, x], argTypes := #[22, 22] })
    (base : Nat) (v : Value) (xs : List Int) (hs : a.eval s = v) (hown : Row w base v xs) (hx : a.eval x = .slice none 0 0)
    (h : K (a.put o.dst v) w) :
    if Region.wanted o (yielded ops a.tmps) = true then Oper.wp Try.prog o a w K Q else E := by
  have hw : Region.wanted o (yielded ops a.tmps) = true := by simp [Region.wanted, hgd]
  rw [if_pos hw]
  obtain ⟨i0, hi0, hz0, hz1, hz2⟩ := info_parts info_int
  have hrun := run_append_owned_none (P := Try.prog) (w := w) base 22 o.type 3 i0 1 Try.underlying22 hi0 v xs.length (ints xs) hown
  unfold Oper.wp
  simp [execOp, ho, resolve, invoke, builtin, hs, hx, hrun, Result.andThen]
  exact h
theorem step_appL {ops : Array Oper} {o : Oper} {a : Act} {K : Act → World → Prop} {Q : Exit → Act → World → Prop} {E : Prop} {w : World} (hgd : o.guard = none) (s x : Operand)
    (ho : o.op = .call { callee := .builtin .append, args := #[s, x], argTypes := #[22, 22] })
    (base : Nat) (v : Value) (xs : List Int) (hs : a.eval s = v) (hown : Row w base v xs) (b p c : Nat) (ys : List Int) (hx : a.eval x = .slice (some ⟨b, p, none⟩) ys.length c)
    (hy : IR w (some ⟨b, p, none⟩) ys) (h0 : 0 < ys.length) (hl : xs.length + ys.length ≤ 1000000000) (hb : base ≤ w.heap.size)
    (h : ∀ g cap w', Row w' base (.slice (some ⟨g, 0, none⟩) (xs ++ ys).length cap) (xs ++ ys) → w.grownBy w' v.ownBlock → (v.ownBlock = some g ∨ g = w.heap.size) → g < w'.heap.size → K (a.put o.dst (.slice (some ⟨g, 0, none⟩) (xs ++ ys).length cap)) w') :
    if Region.wanted o (yielded ops a.tmps) = true then Oper.wp Try.prog o a w K Q else E := by
  obtain ⟨i0, hi0, hz0, hz1, hz2⟩ := info_parts info_int
  refine step_append_lies _ hgd s x 22 ho base 3 i0 (.int .i64 0) 1 8 Try.underlying22 hi0 hz0 hz1 hz2 rfl (by decide) v xs.length (ints xs) hs hown
    ⟨b, p, none⟩ ys.length c (ints ys) hx (by simp [ints]) ?_ ?_ h0 (by unfold maxLen; omega) (by omega) hb _ rfl ?_
  · intro j u hj
    have hjl : j < ys.length := by
      have := (List.getElem?_eq_some_iff.1 hj).1
      simpa [ints] using this
    obtain ⟨b', o', e, _, hc⟩ := hy.at_ h0
    injection e with e; injection e with e1 e2
    subst e1 e2
    have hadd : (⟨b, p, none⟩ : Addr).add j = ⟨b, p + j, none⟩ := by unfold Addr.add; split <;> simp_all
    rw [hadd, hc j hjl]
    simp [ints, hjl] at hj
    rw [← hj, List.getElem?_eq_getElem hjl]; rfl
  · intro u hu
    simp [ints] at hu
    obtain ⟨z, _, rfl⟩ := hu
    rfl
  · intro g cap w' h1 h2 h3 h4
    rw [← List.length_append] at h1 ⊢
    refine h g cap w' ?_ h2 h3 h4
    unfold Row
    rw [show ints (xs ++ ys) = ints xs ++ ints ys by simp [ints]]
    exact h1
theorem blk_eq {w : World} {g : Nat} {t : TypeId} {cs : Array Value} (h : g = w.heap.size) : Blk (w.alloc (.cells cs t)) g t cs := by rw [h]; exact Blk.new w t cs
theorem blk_undrew {w : World} {g : Nat} {t : TypeId} {cs : Array Value} (h : Blk w g t cs) : Blk w.drew g t cs := h
theorem blk_grown {w w' : World} {g : Nat} {t : TypeId} {cs : Array Value} {r : Option Nat} (h : Blk w g t cs) (hg : w.grownBy w' r) (hne : r ≠ some g) : Blk w' g t cs := (hg.block g h.lt (fun e => hne e.symm)).trans h
theorem Row.undrew {w : World} {base : Nat} {v : Value} {xs : List Int} (h : Row w base v xs) : Row w.drew base v xs := h
theorem row_blk {w : World} {g base : Nat} (h : Blk w g 3 #[]) (hb : base ≤ g) : Row w base (.slice (some ⟨g, 0, none⟩) 0 0) [] :=
  ⟨by simp [ints], .inr ⟨g, 0, #[], rfl, hb, h, Nat.le_refl _, by unfold maxLen; omega, rfl, rfl⟩⟩
theorem ir_one {w : World} {g : Nat} {z : Int} (h : Blk w g 3 #[.int .i64 z]) : IR w (some ⟨g, 0, none⟩) [z] := by
  refine ⟨by simp, fun _ => ⟨g, 0, rfl, h.lt, fun k hk => ?_⟩⟩
  have : k = 0 := by simp at hk; omega
  subst this
  exact h.cell 0
theorem bx_grown {a w w' : World} {r : Option Nat} (h : Bx (Below a.heap.size a w)) (hg : w.grownBy w' r) (hr : ∀ k, r = some k → a.heap.size ≤ k) : Bx (Below a.heap.size a w') :=
  ⟨h.out.grown hg h.out.size hr⟩
theorem io_off {w : World} {base c g g' i : Nat} {xs : List Int} {v : Value} (h : IO w base (some ⟨g, 0, none⟩) c xs) (hne : g ≠ g') : IO (w.setCell ⟨g', i, none⟩ v) base (some ⟨g, 0, none⟩) c xs := by
  refine ⟨h.1, h.2.1, ?_⟩
  rcases h.2.2 with ⟨e, _⟩ | ⟨g2, cur, e, hg, hh, r⟩
  · cases e
  · injection e with e; injection e with e
    subst e
    exact .inr ⟨g, cur, rfl, hg, (Below.heap_setCell w ⟨g', i, none⟩ v g (by intro e; simp at e; omega)).trans hh, r⟩
theorem io_two {w : World} {base c g : Nat} {A : Option Addr} {xs : List Int} (h : IO w base A c xs) (hne : ∀ x, A = some x → x.block ≠ g) (u v : Value) : IO ((w.setCell ⟨g, 0, none⟩ u).setCell ⟨g, 1, none⟩ v) base A c xs := by
  cases A with
  | none => exact ⟨h.1, h.2.1, .inl ⟨rfl, by rcases h.2.2 with ⟨_, e⟩ | ⟨_, _, e, _⟩; exact e; cases e⟩⟩
  | some x =>
    rcases h.2.2 with ⟨e, _⟩ | ⟨g', cur, e, _⟩
    · cases e
    · injection e with e
      subst e
      have := hne _ rfl
      exact io_off (io_off h this) this
theorem io_alloc {w : World} {base c : Nat} {A : Option Addr} {xs : List Int} (h : IO w base A c xs) (o : Obj) : IO (w.alloc o) base A c xs := h.below (below_alloc _ _) (Nat.le_refl _)
/-- what the search hands back: its beats lie no deeper than B -/
def GivesF (A0 : Option Addr) (n : Int) (B : Nat) (w : World) (o : Option (List Int)) (e : Ending) (w' : World) : Prop := ∃ A' c', e = .returned (.tuple #[.agg #[.int .i64 (oS n o), .slice A' (oL o).length c'], .bool o.isSome]) ∧ IO w' B A' c' (oL o) ∧ Below w.heap.size w w' ∧ ∀ x, A' = some x → A0 = some x ∨ w.heap.size ≤ x.block
theorem OB.offAt {lo hi c g i : Nat} {w : World} {A : Option Addr} {xs : List Int} (h : OB lo hi w A c xs) (hg : hi ≤ g ∨ g < lo) (v : Value) : OB lo hi (w.setCell ⟨g, i, none⟩ v) A c xs := by
  refine ⟨⟨h.1.1, h.1.2.1, ?_⟩, h.2⟩
  rcases h.1.2.2 with h' | ⟨g', cur, e, hg', hh, r⟩
  · exact .inl h'
  · refine .inr ⟨g', cur, e, hg', (Below.heap_setCell w ⟨g, i, none⟩ v g' ?_).trans hh, r⟩
    have h2 := h.2 _ e
    intro e2; simp at e2 h2; omega
theorem srch_zero (n d m : Nat) (S : List Int) : srch n d m S 0 = some S := by cases m <;> rfl
theorem srch_none {n d m k : Nat} (S : List Int) (h : m < k) : srch n d m S k = none := by
  obtain ⟨k, rfl⟩ : ∃ q, k = q + 1 := ⟨k - 1, by omega⟩
  cases m with
  | zero => rfl
  | succ m => simp only [srch]; rw [if_pos h]
theorem srch_no {n d m k : Nat} (S : List Int) (h : k + 1 ≤ m + 1) (hc : (!hasR n S (((n - (m + 1) : Nat) : Int) + d) && !hasR n S (((n - (m + 1) : Nat) : Int) - d)) = false) : srch n d (m + 1) S (k + 1) = srch n d m S (k + 1) := by
  simp only [srch]; rw [if_neg (by omega), if_neg (by rw [hc]; simp)]; rfl
theorem srch_yes {n d m k : Nat} (S : List Int) (h : k + 1 ≤ m + 1) (hc : (!hasR n S (((n - (m + 1) : Nat) : Int) + d) && !hasR n S (((n - (m + 1) : Nat) : Int) - d)) = true) : srch n d (m + 1) S (k + 1) = (srch n d m (S ++ [((n - (m + 1) : Nat) : Int)]) k).or (srch n d m S (k + 1)) := by
  simp only [srch]; rw [if_neg (by omega), if_pos hc]
theorem rhOk_snoc {n p : Nat} {S : List Int} (h : rhOk n S = true) (hS : ∀ x ∈ S, x < (p : Int)) (hp : p < n) : rhOk n (S ++ [(p : Int)]) = true := by
  obtain ⟨h1, h2, h3⟩ := rhOk_iff.1 h
  refine rhOk_iff.2 ⟨h1, fun x hx => ?_, List.pairwise_append.2 ⟨h3, by simp, fun a ha b hb => by simp at hb; rw [hb]; exact hS a ha⟩⟩
  rw [List.mem_append, List.mem_singleton] at hx
  rcases hx with hx | rfl
  · exact h2 x hx
  · omega
theorem lt_snoc {S : List Int} {p : Nat} (h : ∀ x ∈ S, x < (p : Int)) : ∀ x ∈ S ++ [(p : Int)], x < ((p + 1 : Nat) : Int) := by
  intro x hx
  rw [List.mem_append, List.mem_singleton] at hx
  rcases hx with hx | rfl
  · have := h x hx; omega
  · omega
set_option maxHeartbeats 1000000 in
theorem l08First_zero (n d : Nat) (p : Nat) (A : Option Addr) (c : Nat) (S : List Int) (B : Nat) (w : World) (_hB : B ≤ w.heap.size) (hio : IO w B A c S) :
    Calls Try.prog 61 #[.agg #[.int .i64 n, .slice A S.length c], .int .i64 d, .int .i64 0, .int .i64 p] w (GivesF A n B w (some S)) := by
  go_enter Try.func61, Try.ntmps61
  go_wp2_with fail
  refine bodyPost_ret (v := .tuple #[.agg #[.int .i64 n, .slice A S.length c], .bool true]) (by simp [results, Try.results61, go_sem]) rfl ?_
  exact ⟨A, c, rfl, hio.below ((below_alloc _ _).alloc (by simp) _) (Nat.le_refl _), (below_alloc _ _).alloc (by simp) _, fun x hx => .inl hx⟩
set_option maxHeartbeats 1000000 in
theorem l08First_none (n d k : Nat) (hn : n ≤ 16) (p : Nat) (A : Option Addr) (c : Nat) (S : List Int) (B : Nat) (w : World) (hk0 : 0 < k) (hk : k ≤ n) (hp : p ≤ n) (hpk : n < p + k) (_hB : B ≤ w.heap.size) (_hio : IO w B A c S) :
    Calls Try.prog 61 #[.agg #[.int .i64 n, .slice A S.length c], .int .i64 d, .int .i64 k, .int .i64 p] w (GivesF A n B w none) := by
  have hki : ((k : Int) == 0) = false := by simp; omega
  go_enter Try.func61, Try.ntmps61
  go_wp2_with fail
  refine bodyPost_ret (v := .tuple #[.agg #[.int .i64 0, .slice none 0 0], .bool false]) (by simp [results, Try.results61, go_sem]) rfl ?_
  exact ⟨none, 0, rfl, IO.nil _ _, (below_alloc _ _).alloc (by simp) _, fun x hx => nomatch hx⟩
set_option maxHeartbeats 4000000 in
theorem l08First_any (n d : Nat) (h2 : 2 ≤ n) (h16 : n ≤ 16) (hd : 1 ≤ d) (hdn : d < n) : ∀ (m p : Nat) (A : Option Addr) (c : Nat) (S : List Int) (k B : Nat) (w : World), p + m = n → k ≤ n → rhOk n S = true → (∀ x ∈ S, x < (p : Int)) → (S = [] → A = none ∧ c = 0) → B ≤ w.heap.size → IO w B A c S →
    Calls Try.prog 61 #[.agg #[.int .i64 n, .slice A S.length c], .int .i64 d, .int .i64 k, .int .i64 p] w (GivesF A n B w (srch n d m S k)) := by
  intro m
  induction m with
  | zero =>
    intro p A c S k B w hp hk _ _ _ hB hio
    by_cases hk0 : k = 0
    · subst hk0
      rw [srch_zero]
      exact l08First_zero n d p A c S B w hB hio
    · rw [srch_none S (by omega)]
      exact l08First_none n d k h16 p A c S B w (by omega) hk (by omega) (by omega) hB hio
  | succ m ih =>
    intro p A c S k B w hp hk hok hlt hnil hB hio
    by_cases hk0 : k = 0
    · subst hk0
      rw [srch_zero]
      exact l08First_zero n d p A c S B w hB hio
    by_cases hmk : m + 1 < k
    · rw [srch_none S (by omega)]
      exact l08First_none n d k h16 p A c S B w (by omega) hk (by omega) (by omega) hB hio
    obtain ⟨q, hq⟩ : ∃ q, q + 1 = k := ⟨k - 1, by omega⟩
    have hpp : n - (m + 1) = p := by omega
    have HI := Bx.mk ih
    have HOK := Bx.mk hok
    have HLT := Bx.mk (show ∀ x ∈ S, x < ((p + 1 : Nat) : Int) from fun x hx => by have := hlt x hx; omega)
    have HLP := Bx.mk hlt
    have hpn : p < n := by omega
    have hki : ((k : Int) == 0) = false := by simp; omega
    have hpk : ¬ (n : Int) < (p : Int) + (k : Int) := by omega
    clear ih hok hlt hk0
    have HXB := Bx.mk (OB.of hio (Nat.le_refl _))
    obtain ⟨W0, hW0⟩ : ∃ W0, W0 = (w.alloc (.cells #[.int .i64 (n : Int), .slice A S.length c] 27)).alloc (.cells #[.int .i64 0, .slice none 0 0] 27) := ⟨_, rfl⟩
    have bw : Below w.heap.size w W0 := by rw [hW0]; exact (below_alloc _ _).alloc (by simp) _
    have hz : w.heap.size + 2 ≤ W0.heap.size := by rw [hW0]; simp
    have k0 : W0.cell? ⟨w.heap.size, 0, none⟩ = some (.int .i64 (n : Int)) := by rw [hW0]; simp [go_sem]
    have k1 : W0.cell? ⟨w.heap.size, 1, none⟩ = some (.slice A S.length c) := by rw [hW0]; simp [go_sem]
    have R0 : Blk W0 (w.heap.size + 1) 27 #[.int .i64 0, .slice none 0 0] := by rw [hW0]; have := Blk.new (w.alloc (.cells #[.int .i64 (n : Int), .slice A S.length c] 27)) 27 #[.int .i64 0, .slice none 0 0]; simpa using this
    have HX := Bx.mk (hio.below bw (Nat.le_refl _))
    clear hio
    cases hc1 : hasR n S ((p : Int) + d) with
    | true =>
      have HS : Bx (srch n d (m + 1) S k = srch n d m S k) := ⟨by rw [← hq]; exact srch_no S (by omega) (by rw [hpp, hc1]; rfl)⟩
      rw [HS.out]
      go_enter Try.func61, Try.ntmps61
      go_wp2_with fail
      rw [← hW0]
      clear hW0
      refine (hasBeat_ok _ _ _ _ _ _ HOK.out (by omega) (by exact HX.out.reads)).mono ?_
      rw [hc1]
      rintro e w1 ⟨rfl, b⟩
      replace R0 := R0.below b (by omega)
      replace k0 := ((bcell b).1 _ _ (by omega)).trans k0
      replace k1 := ((bcell b).1 _ _ (by omega)).trans k1
      replace HX := Bx.mk (HX.out.below b (Nat.le_refl _))
      replace hz := Nat.le_trans hz b.size
      replace bw := bw.trans (b.mono bw.size)
      clear b
      go_wp2_with fail
      have hcz := HI.out (p + 1) A c S k B w1 (by omega) hk HOK.out HLT.out hnil (by omega) (by exact HX.out)
      rw [show ((p + 1 : Nat) : Int) = (p : Int) + 1 by omega] at hcz
      refine hcz.mono ?_
      rintro e wz ⟨Az, cz, rfl, ioz, b, hof⟩
      have HN1 : Bx (∀ y, Az = some y → y.block ≠ w.heap.size + 1) := ⟨fun y hy => (hof y hy).elim (fun h => by have := HXB.out.2 y h; omega) (fun h => by omega)⟩
      have bz := bw.trans (b.mono bw.size)
      replace R0 := R0.below b (by omega)
      have cr0 := R0.at_ (i := 0) rfl
      have cr1 := R0.at_ (i := 1) rfl
      have fr0 := R0.frozen 0
      have fr1 := R0.frozen 1
      have RF := Bx.mk ((R0.set 0 (.int .i64 (oS n (srch n d m S k)))).set 1 (.slice Az (oL (srch n d m S k)).length cz))
      have BF := Bx.mk ((bz.setCell (p := ⟨w.heap.size + 1, 0, none⟩) (show w.heap.size ≤ w.heap.size + 1 by omega) (.int .i64 (oS n (srch n d m S k)))).setCell (p := ⟨w.heap.size + 1, 1, none⟩) (show w.heap.size ≤ w.heap.size + 1 by omega) (.slice Az (oL (srch n d m S k)).length cz))
      have HF := Bx.mk (io_two ioz HN1.out (.int .i64 (oS n (srch n d m S k))) (.slice Az (oL (srch n d m S k)).length cz))
      have HOF : Bx (∀ y, Az = some y → A = some y ∨ w.heap.size ≤ y.block) := ⟨fun y hy => (hof y hy).elim .inl (fun h => .inr (by omega))⟩
      clear R0 b bz hof
      go_wp2_with fail
      refine bodyPost_ret (v := .tuple #[.agg #[.int .i64 (oS n (srch n d m S k)), .slice Az (oL (srch n d m S k)).length cz], .bool (srch n d m S k).isSome]) (by simp [results, Try.results61, go_sem, RF.out.at_ (i := 0) rfl, RF.out.at_ (i := 1) rfl]) rfl ?_
      exact ⟨Az, cz, rfl, HF.out, BF.out, HOF.out⟩
    | false =>
      cases hc2 : hasR n S ((p : Int) - d) with
      | true =>
        have HS : Bx (srch n d (m + 1) S k = srch n d m S k) := ⟨by rw [← hq]; exact srch_no S (by omega) (by rw [hpp, hc1, hc2]; rfl)⟩
        rw [HS.out]
        go_enter Try.func61, Try.ntmps61
        go_wp2_with fail
        rw [← hW0]
        clear hW0
        refine (hasBeat_ok _ _ _ _ _ _ HOK.out (by omega) (by exact HX.out.reads)).mono ?_
        rw [hc1]
        rintro e w1 ⟨rfl, b⟩
        replace R0 := R0.below b (by omega)
        replace k0 := ((bcell b).1 _ _ (by omega)).trans k0
        replace k1 := ((bcell b).1 _ _ (by omega)).trans k1
        replace HX := Bx.mk (HX.out.below b (Nat.le_refl _))
        replace hz := Nat.le_trans hz b.size
        replace bw := bw.trans (b.mono bw.size)
        clear b
        go_wp2_with fail
        refine (hasBeat_ok _ _ _ _ _ _ HOK.out (by omega) (by exact HX.out.reads)).mono ?_
        rw [hc2]
        rintro e w2 ⟨rfl, b⟩
        replace R0 := R0.below b (by omega)
        replace k0 := ((bcell b).1 _ _ (by omega)).trans k0
        replace k1 := ((bcell b).1 _ _ (by omega)).trans k1
        replace HX := Bx.mk (HX.out.below b (Nat.le_refl _))
        replace hz := Nat.le_trans hz b.size
        replace bw := bw.trans (b.mono bw.size)
        clear b
        go_wp2_with fail
        have hcz := HI.out (p + 1) A c S k B w2 (by omega) hk HOK.out HLT.out hnil (by omega) (by exact HX.out)
        rw [show ((p + 1 : Nat) : Int) = (p : Int) + 1 by omega] at hcz
        refine hcz.mono ?_
        rintro e wz ⟨Az, cz, rfl, ioz, b, hof⟩
        have HN1 : Bx (∀ y, Az = some y → y.block ≠ w.heap.size + 1) := ⟨fun y hy => (hof y hy).elim (fun h => by have := HXB.out.2 y h; omega) (fun h => by omega)⟩
        have bz := bw.trans (b.mono bw.size)
        replace R0 := R0.below b (by omega)
        have cr0 := R0.at_ (i := 0) rfl
        have cr1 := R0.at_ (i := 1) rfl
        have fr0 := R0.frozen 0
        have fr1 := R0.frozen 1
        have RF := Bx.mk ((R0.set 0 (.int .i64 (oS n (srch n d m S k)))).set 1 (.slice Az (oL (srch n d m S k)).length cz))
        have BF := Bx.mk ((bz.setCell (p := ⟨w.heap.size + 1, 0, none⟩) (show w.heap.size ≤ w.heap.size + 1 by omega) (.int .i64 (oS n (srch n d m S k)))).setCell (p := ⟨w.heap.size + 1, 1, none⟩) (show w.heap.size ≤ w.heap.size + 1 by omega) (.slice Az (oL (srch n d m S k)).length cz))
        have HF := Bx.mk (io_two ioz HN1.out (.int .i64 (oS n (srch n d m S k))) (.slice Az (oL (srch n d m S k)).length cz))
        have HOF : Bx (∀ y, Az = some y → A = some y ∨ w.heap.size ≤ y.block) := ⟨fun y hy => (hof y hy).elim .inl (fun h => .inr (by omega))⟩
        clear R0 b bz hof
        go_wp2_with fail
        refine bodyPost_ret (v := .tuple #[.agg #[.int .i64 (oS n (srch n d m S k)), .slice Az (oL (srch n d m S k)).length cz], .bool (srch n d m S k).isSome]) (by simp [results, Try.results61, go_sem, RF.out.at_ (i := 0) rfl, RF.out.at_ (i := 1) rfl]) rfl ?_
        exact ⟨Az, cz, rfl, HF.out, BF.out, HOF.out⟩
      | false =>
        have HS : Bx (srch n d (m + 1) S k = (srch n d m (S ++ [(p : Int)]) q).or (srch n d m S k)) := ⟨by rw [← hq]; have := srch_yes (n := n) (d := d) (m := m) (k := q) S (by omega) (by rw [hpp, hc1, hc2]; rfl); rwa [hpp] at this⟩
        go_enter Try.func61, Try.ntmps61
        go_wp2_with fail
        rw [← hW0]
        clear hW0
        refine (hasBeat_ok _ _ _ _ _ _ HOK.out (by omega) (by exact HX.out.reads)).mono ?_
        rw [hc1]
        rintro e w1 ⟨rfl, b⟩
        replace R0 := R0.below b (by omega)
        replace k0 := ((bcell b).1 _ _ (by omega)).trans k0
        replace k1 := ((bcell b).1 _ _ (by omega)).trans k1
        replace HX := Bx.mk (HX.out.below b (Nat.le_refl _))
        replace hz := Nat.le_trans hz b.size
        replace bw := bw.trans (b.mono bw.size)
        clear b
        go_wp2_with fail
        refine (hasBeat_ok _ _ _ _ _ _ HOK.out (by omega) (by exact HX.out.reads)).mono ?_
        rw [hc2]
        rintro e w2 ⟨rfl, b⟩
        replace R0 := R0.below b (by omega)
        replace k0 := ((bcell b).1 _ _ (by omega)).trans k0
        replace k1 := ((bcell b).1 _ _ (by omega)).trans k1
        replace HX := Bx.mk (HX.out.below b (Nat.le_refl _))
        replace hz := Nat.le_trans hz b.size
        replace bw := bw.trans (b.mono bw.size)
        clear b
        clear hki hpk
        go_upto_region 6 with (fail)
        go_cut [10] (fun sx wx => ∃ (g : Nat) (A' : Option Addr) (c' : Nat), sx = .pointer (some ⟨g, 0, none⟩) ∧ Bx (Blk wx g 27 #[.int .i64 n, .slice A' (S ++ [(p : Int)]).length c'] ∧ (w2.heap.size ≤ g ∧ g < wx.heap.size) ∧ IO wx w2.heap.size A' c' (S ++ [(p : Int)]) ∧ Below w2.heap.size w2 wx))
        case first =>
          have hB0 : Bx (Below w2.heap.size w2 w2) := ⟨Below.refl _ _⟩
          have hBd : Bx (Below w2.heap.size w2 w2.drew) := ⟨(Below.refl _ _).drew⟩
          have HSL : Bx (S.length ≤ 1000) := ⟨by have := (rhOk_len HOK.out).1; omega⟩
          have k0d : w2.drew.cell? _ = _ := k0
          by_cases hS : S = []
          · obtain ⟨eA, ec⟩ := hnil hS
            subst hS eA ec
            have k1d : w2.drew.cell? _ = _ := k1
            clear hnil
            go_region_held3 (fun w' => w'.cell? ⟨w.heap.size, 0, none⟩ = some (.int .i64 (n : Int)) ∧ w'.cell? ⟨w.heap.size, 1, none⟩ = some (.slice none 0 0) ∧ Bx (Below w2.heap.size w2 w'))
              ((refine (fun (hK : Bx (Below w2.heap.size w2 _)) => ⟨((bcell hK.out).1 _ _ (by omega)).trans k0, ((bcell hK.out).1 _ _ (by omega)).trans k1, hK⟩) ?_; first | assumption | exact bx_alloc (by assumption) _ | exact bx_alloc (bx_alloc (by assumption) _) _ | exact bx_alloc (bx_alloc (bx_alloc (by assumption) _) _) _ | exact bx_drew (by assumption) | exact bx_set (bx_set (by first | assumption | exact bx_alloc (by assumption) _ | exact bx_alloc (bx_alloc (by assumption) _) _) (by first | omega | (simp; done) | (simp; omega)) _) (by first | omega | (simp; done) | (simp; omega)) _))
              (first
                | (refine step_appNil (by rfl) _ _ (by rfl) w2.heap.size _ [] (by rfl) (row_blk (by (try refine blk_undrew ?_); first | (refine blk_eq ?_; focus (simp; done)) | (refine Blk.alloc (blk_eq ?_) _; focus (simp; done)) | (refine Blk.alloc (Blk.alloc (blk_eq ?_) _) _; focus (simp; done))) (by first | omega | (simp; done) | (simp; omega))) (by rfl) ?_)
                | (refine step_appL (by rfl) _ _ (by rfl) w2.heap.size _ [] (by rfl) (row_blk (by (try refine blk_undrew ?_); first | (refine blk_eq ?_; focus (simp; done)) | (refine Blk.alloc (blk_eq ?_) _; focus (simp; done)) | (refine Blk.alloc (Blk.alloc (blk_eq ?_) _) _; focus (simp; done))) (by first | omega | (simp; done) | (simp; omega))) _ 0 1 [(p : Int)] (by rfl) (ir_one (by (try refine blk_undrew ?_); first | (refine blk_eq ?_; focus (simp; done)) | (refine Blk.alloc (blk_eq ?_) _; focus (simp; done)) | (refine Blk.alloc (Blk.alloc (blk_eq ?_) _) _; focus (simp; done)))) (by simp) (by simp) (by first | (simp; done) | (simp; omega)) ?_; intro g2 cap2 w4 hrow2 hgr2 hat2 hlt2; have hBw4 : Bx (Below w2.heap.size w2 w4) := bx_grown (by first | assumption | exact bx_alloc (by assumption) _ | exact bx_alloc (bx_alloc (by assumption) _) _ | exact bx_alloc (bx_alloc (bx_alloc (by assumption) _) _) _) hgr2 (by intro k hk; simp [Value.ownBlock] at hk; omega); have hzw4 := bx_size hBw4; have HIO4 := Bx.mk (hrow2.io' rfl (by have := HSL.out; first | (simp; done) | (simp; omega))); have hat2' := hat2; (try simp [Value.ownBlock] at hat2'); (try (refine (fun (hz4A : Blk w4 (w2.heap.size) 27 #[.int .i64 0, .slice none 0 0]) => ?_) (blk_grown ?_ hgr2 ?_); rotate_left 1; ((try refine blk_undrew ?_); first | (refine blk_eq ?_; focus (simp; done)) | (refine Blk.alloc (blk_eq ?_) _; focus (simp; done)) | (refine Blk.alloc (Blk.alloc (blk_eq ?_) _) _; focus (simp; done))); (first | focus (simp [Value.ownBlock]; done) | focus (simp [Value.ownBlock]; omega)); have cz4A0 := hz4A.at_ (i := 0) rfl; have cz4A1 := hz4A.at_ (i := 1) rfl; have fz4A0 := hz4A.frozen 0; have fz4A1 := hz4A.frozen 1; have lz4A := hz4A.lt; refine (fun (HZ4A : Bx (Blk w4 (w2.heap.size) 27 #[.int .i64 0, .slice none 0 0])) => ?_) ⟨hz4A⟩; clear hz4A)); (try (refine (fun (hz4B : Blk w4 (w2.heap.size + 1) 27 #[.int .i64 0, .slice none 0 0]) => ?_) (blk_grown ?_ hgr2 ?_); rotate_left 1; ((try refine blk_undrew ?_); first | (refine blk_eq ?_; focus (simp; done)) | (refine Blk.alloc (blk_eq ?_) _; focus (simp; done)) | (refine Blk.alloc (Blk.alloc (blk_eq ?_) _) _; focus (simp; done))); (first | focus (simp [Value.ownBlock]; done) | focus (simp [Value.ownBlock]; omega)); have cz4B0 := hz4B.at_ (i := 0) rfl; have cz4B1 := hz4B.at_ (i := 1) rfl; have fz4B0 := hz4B.frozen 0; have fz4B1 := hz4B.frozen 1; have lz4B := hz4B.lt; refine (fun (HZ4B : Bx (Blk w4 (w2.heap.size + 1) 27 #[.int .i64 0, .slice none 0 0])) => ?_) ⟨hz4B⟩; clear hz4B)); (try (refine (fun (hz4C : Blk w4 (w2.heap.size + 1 + 1) 27 #[.int .i64 0, .slice none 0 0]) => ?_) (blk_grown ?_ hgr2 ?_); rotate_left 1; ((try refine blk_undrew ?_); first | (refine blk_eq ?_; focus (simp; done)) | (refine Blk.alloc (blk_eq ?_) _; focus (simp; done)) | (refine Blk.alloc (Blk.alloc (blk_eq ?_) _) _; focus (simp; done))); (first | focus (simp [Value.ownBlock]; done) | focus (simp [Value.ownBlock]; omega)); have cz4C0 := hz4C.at_ (i := 0) rfl; have cz4C1 := hz4C.at_ (i := 1) rfl; have fz4C0 := hz4C.frozen 0; have fz4C1 := hz4C.frozen 1; have lz4C := hz4C.lt; refine (fun (HZ4C : Bx (Blk w4 (w2.heap.size + 1 + 1) 27 #[.int .i64 0, .slice none 0 0])) => ?_) ⟨hz4C⟩; clear hz4C))))
            all_goals (go_wp2_with fail; go_meet)
            all_goals refine ⟨_, some ⟨g2, 0, none⟩, cap2, rfl, ⟨⟨?_, ⟨?_, ?_⟩, ?_, ?_⟩⟩⟩
            all_goals first
              | exact (HZ4A.out.set 0 _).set 1 _
              | exact (HZ4B.out.set 0 _).set 1 _
              | exact (HZ4C.out.set 0 _).set 1 _
              | (refine blk_eq ?_; rfl)
              | (rw [show (S ++ [(p : Int)]).length = S.length + 1 by simp]; refine blk_eq ?_; rfl)
              | (have := HZ4A.out.lt; simp; omega)
              | (have := HZ4B.out.lt; simp; omega)
              | (have := HZ4C.out.lt; simp; omega)
              | omega
              | (simp; done)
              | (simp; omega)
              | exact io_off (io_off HIO4.out (by omega)) (by omega)
              | exact io_alloc HIO4.out _
              | exact (bx_alloc hBw4 _).out
              | exact (bx_set (p := ⟨w2.heap.size, 1, none⟩) (bx_set (p := ⟨w2.heap.size, 0, none⟩) hBw4 (show w2.heap.size ≤ w2.heap.size by omega) _) (show w2.heap.size ≤ w2.heap.size by omega) _).out
              | exact (bx_set (p := ⟨w2.heap.size + 1, 1, none⟩) (bx_set (p := ⟨w2.heap.size + 1, 0, none⟩) hBw4 (show w2.heap.size ≤ w2.heap.size + 1 by omega) _) (show w2.heap.size ≤ w2.heap.size + 1 by omega) _).out
              | exact (bx_set (p := ⟨w2.heap.size + 1 + 1, 1, none⟩) (bx_set (p := ⟨w2.heap.size + 1 + 1, 0, none⟩) hBw4 (show w2.heap.size ≤ w2.heap.size + 1 + 1 by omega) _) (show w2.heap.size ≤ w2.heap.size + 1 + 1 by omega) _).out
          · obtain ⟨b, o, x0, rfl, hbx, _, _⟩ := HX.out.reads.one (k := 0) (List.length_pos_iff.2 hS)
            have hS0 : 0 < S.length := List.length_pos_iff.2 hS
            have HIRS : Bx (∀ W, Bx (Below w2.heap.size w2 W) → IR W (some ⟨b, o, none⟩) S) := ⟨fun W h => HX.out.reads.below h.out⟩
            have k1d : w2.drew.cell? _ = _ := k1
            clear hnil hS
            go_region_held3 (fun w' => w'.cell? ⟨w.heap.size, 0, none⟩ = some (.int .i64 (n : Int)) ∧ w'.cell? ⟨w.heap.size, 1, none⟩ = some (.slice (some ⟨b, o, none⟩) S.length c) ∧ Bx (Below w2.heap.size w2 w'))
              ((refine (fun (hK : Bx (Below w2.heap.size w2 _)) => ⟨((bcell hK.out).1 _ _ (by omega)).trans k0, ((bcell hK.out).1 _ _ (by omega)).trans k1, hK⟩) ?_; first | assumption | exact bx_alloc (by assumption) _ | exact bx_alloc (bx_alloc (by assumption) _) _ | exact bx_alloc (bx_alloc (bx_alloc (by assumption) _) _) _ | exact bx_drew (by assumption) | exact bx_set (bx_set (by first | assumption | exact bx_alloc (by assumption) _ | exact bx_alloc (bx_alloc (by assumption) _) _) (by first | omega | (simp; done) | (simp; omega)) _) (by first | omega | (simp; done) | (simp; omega)) _))
              (first
                | (refine step_appL (by rfl) _ _ (by rfl) w2.heap.size _ [] (by rfl) (row_blk (by (try refine blk_undrew ?_); first | (refine blk_eq ?_; focus (simp; done)) | (refine Blk.alloc (blk_eq ?_) _; focus (simp; done)) | (refine Blk.alloc (Blk.alloc (blk_eq ?_) _) _; focus (simp; done))) (by first | omega | (simp; done) | (simp; omega))) b o c S (by rfl) (HIRS.out _ (by first | assumption | exact bx_alloc (by assumption) _ | exact bx_alloc (bx_alloc (by assumption) _) _ | exact bx_alloc (bx_alloc (bx_alloc (by assumption) _) _) _)) hS0 (by have := HSL.out; simp; omega) (by first | (simp; done) | (simp; omega)) ?_; intro g1 cap1 w3 hrow1 hgr1 hat1 hlt1; have hBw3 : Bx (Below w2.heap.size w2 w3) := bx_grown (by first | assumption | exact bx_alloc (by assumption) _ | exact bx_alloc (bx_alloc (by assumption) _) _ | exact bx_alloc (bx_alloc (bx_alloc (by assumption) _) _) _) hgr1 (by intro k hk; simp [Value.ownBlock] at hk; omega); have hzw3 := bx_size hBw3; have hat1' := hat1; (try simp [Value.ownBlock] at hat1'); have hbl1 : w2.heap.size ≤ g1 := (by rcases hat1' with h | h <;> (try simp at h) <;> omega); (try (refine (fun (hz3A : Blk w3 (w2.heap.size) 27 #[.int .i64 0, .slice none 0 0]) => ?_) (blk_grown ?_ hgr1 ?_); rotate_left 1; ((try refine blk_undrew ?_); first | (refine blk_eq ?_; focus (simp; done)) | (refine Blk.alloc (blk_eq ?_) _; focus (simp; done)) | (refine Blk.alloc (Blk.alloc (blk_eq ?_) _) _; focus (simp; done))); (first | focus (simp [Value.ownBlock]; done) | focus (simp [Value.ownBlock]; omega)); have cz3A0 := hz3A.at_ (i := 0) rfl; have cz3A1 := hz3A.at_ (i := 1) rfl; have fz3A0 := hz3A.frozen 0; have fz3A1 := hz3A.frozen 1; have lz3A := hz3A.lt; refine (fun (HZ3A : Bx (Blk w3 (w2.heap.size) 27 #[.int .i64 0, .slice none 0 0])) => ?_) ⟨hz3A⟩; clear hz3A)); (try (refine (fun (hz3B : Blk w3 (w2.heap.size + 1) 27 #[.int .i64 0, .slice none 0 0]) => ?_) (blk_grown ?_ hgr1 ?_); rotate_left 1; ((try refine blk_undrew ?_); first | (refine blk_eq ?_; focus (simp; done)) | (refine Blk.alloc (blk_eq ?_) _; focus (simp; done)) | (refine Blk.alloc (Blk.alloc (blk_eq ?_) _) _; focus (simp; done))); (first | focus (simp [Value.ownBlock]; done) | focus (simp [Value.ownBlock]; omega)); have cz3B0 := hz3B.at_ (i := 0) rfl; have cz3B1 := hz3B.at_ (i := 1) rfl; have fz3B0 := hz3B.frozen 0; have fz3B1 := hz3B.frozen 1; have lz3B := hz3B.lt; refine (fun (HZ3B : Bx (Blk w3 (w2.heap.size + 1) 27 #[.int .i64 0, .slice none 0 0])) => ?_) ⟨hz3B⟩; clear hz3B)); (try (refine (fun (hz3C : Blk w3 (w2.heap.size + 1 + 1) 27 #[.int .i64 0, .slice none 0 0]) => ?_) (blk_grown ?_ hgr1 ?_); rotate_left 1; ((try refine blk_undrew ?_); first | (refine blk_eq ?_; focus (simp; done)) | (refine Blk.alloc (blk_eq ?_) _; focus (simp; done)) | (refine Blk.alloc (Blk.alloc (blk_eq ?_) _) _; focus (simp; done))); (first | focus (simp [Value.ownBlock]; done) | focus (simp [Value.ownBlock]; omega)); have cz3C0 := hz3C.at_ (i := 0) rfl; have cz3C1 := hz3C.at_ (i := 1) rfl; have fz3C0 := hz3C.frozen 0; have fz3C1 := hz3C.frozen 1; have lz3C := hz3C.lt; refine (fun (HZ3C : Bx (Blk w3 (w2.heap.size + 1 + 1) 27 #[.int .i64 0, .slice none 0 0])) => ?_) ⟨hz3C⟩; clear hz3C)); (try (refine (fun (heA : Blk w3 (w2.heap.size) 3 #[.int .i64 p]) => ?_) (blk_grown ?_ hgr1 ?_); rotate_left 1; ((try refine blk_undrew ?_); first | (refine blk_eq ?_; focus (simp; done)) | (refine Blk.alloc (blk_eq ?_) _; focus (simp; done)) | (refine Blk.alloc (Blk.alloc (blk_eq ?_) _) _; focus (simp; done))); (first | focus (simp [Value.ownBlock]; done) | focus (simp [Value.ownBlock]; omega)); refine (fun (HE3A : Bx (Blk w3 (w2.heap.size) 3 #[.int .i64 p])) => ?_) ⟨heA⟩; clear heA)); (try (refine (fun (heB : Blk w3 (w2.heap.size + 1) 3 #[.int .i64 p]) => ?_) (blk_grown ?_ hgr1 ?_); rotate_left 1; ((try refine blk_undrew ?_); first | (refine blk_eq ?_; focus (simp; done)) | (refine Blk.alloc (blk_eq ?_) _; focus (simp; done)) | (refine Blk.alloc (Blk.alloc (blk_eq ?_) _) _; focus (simp; done))); (first | focus (simp [Value.ownBlock]; done) | focus (simp [Value.ownBlock]; omega)); refine (fun (HE3B : Bx (Blk w3 (w2.heap.size + 1) 3 #[.int .i64 p])) => ?_) ⟨heB⟩; clear heB)); (try (refine (fun (heC : Blk w3 (w2.heap.size + 1 + 1) 3 #[.int .i64 p]) => ?_) (blk_grown ?_ hgr1 ?_); rotate_left 1; ((try refine blk_undrew ?_); first | (refine blk_eq ?_; focus (simp; done)) | (refine Blk.alloc (blk_eq ?_) _; focus (simp; done)) | (refine Blk.alloc (Blk.alloc (blk_eq ?_) _) _; focus (simp; done))); (first | focus (simp [Value.ownBlock]; done) | focus (simp [Value.ownBlock]; omega)); refine (fun (HE3C : Bx (Blk w3 (w2.heap.size + 1 + 1) 3 #[.int .i64 p])) => ?_) ⟨heC⟩; clear heC)))
                | (refine step_appL (by rfl) _ _ (by rfl) w2.heap.size (.slice (some ⟨g1, 0, none⟩) ([] ++ S).length cap1) ([] ++ S) (by rfl) (by (try refine Row.undrew ?_); first | exact hrow1 | exact hrow1.alloc _ | exact (hrow1.alloc _).alloc _) _ 0 1 [(p : Int)] (by rfl) (ir_one (by (try refine blk_undrew ?_); first | exact HE3A.out | exact Blk.alloc HE3A.out _ | exact Blk.alloc (Blk.alloc HE3A.out _) _ | exact HE3B.out | exact Blk.alloc HE3B.out _ | exact Blk.alloc (Blk.alloc HE3B.out _) _ | exact HE3C.out | exact Blk.alloc HE3C.out _ | exact Blk.alloc (Blk.alloc HE3C.out _) _ | (refine blk_eq ?_; focus (simp; done)) | (refine Blk.alloc (blk_eq ?_) _; focus (simp; done)) | (refine Blk.alloc (Blk.alloc (blk_eq ?_) _) _; focus (simp; done)))) (by simp) (by have := HSL.out; simp; omega) (by first | omega | (simp; done) | (simp; omega)) ?_; intro g2 cap2 w4 hrow2 hgr2 hat2 hlt2; have hBw4 : Bx (Below w2.heap.size w2 w4) := bx_grown (by first | assumption | exact bx_alloc (by assumption) _ | exact bx_alloc (bx_alloc (by assumption) _) _ | exact bx_alloc (bx_alloc (bx_alloc (by assumption) _) _) _) hgr2 (by intro k hk; simp [Value.ownBlock] at hk; omega); have hzw4 := bx_size hBw4; have HIO4 := Bx.mk (hrow2.io' rfl (by have := HSL.out; first | (simp; done) | (simp; omega))); have hat2' := hat2; (try simp [Value.ownBlock] at hat2'); (try (refine (fun (hz4A : Blk w4 (w2.heap.size) 27 #[.int .i64 0, .slice none 0 0]) => ?_) (blk_grown ?_ hgr2 ?_); rotate_left 1; ((try refine blk_undrew ?_); first | exact HZ3A.out | exact Blk.alloc HZ3A.out _ | exact Blk.alloc (Blk.alloc HZ3A.out _) _ | exact HZ3B.out | exact Blk.alloc HZ3B.out _ | exact Blk.alloc (Blk.alloc HZ3B.out _) _ | exact HZ3C.out | exact Blk.alloc HZ3C.out _ | exact Blk.alloc (Blk.alloc HZ3C.out _) _ | (refine blk_eq ?_; focus (simp; done)) | (refine Blk.alloc (blk_eq ?_) _; focus (simp; done)) | (refine Blk.alloc (Blk.alloc (blk_eq ?_) _) _; focus (simp; done))); (first | focus (simp [Value.ownBlock]; done) | focus (simp [Value.ownBlock]; omega)); have cz4A0 := hz4A.at_ (i := 0) rfl; have cz4A1 := hz4A.at_ (i := 1) rfl; have fz4A0 := hz4A.frozen 0; have fz4A1 := hz4A.frozen 1; have lz4A := hz4A.lt; refine (fun (HZ4A : Bx (Blk w4 (w2.heap.size) 27 #[.int .i64 0, .slice none 0 0])) => ?_) ⟨hz4A⟩; clear hz4A)); (try (refine (fun (hz4B : Blk w4 (w2.heap.size + 1) 27 #[.int .i64 0, .slice none 0 0]) => ?_) (blk_grown ?_ hgr2 ?_); rotate_left 1; ((try refine blk_undrew ?_); first | exact HZ3A.out | exact Blk.alloc HZ3A.out _ | exact Blk.alloc (Blk.alloc HZ3A.out _) _ | exact HZ3B.out | exact Blk.alloc HZ3B.out _ | exact Blk.alloc (Blk.alloc HZ3B.out _) _ | exact HZ3C.out | exact Blk.alloc HZ3C.out _ | exact Blk.alloc (Blk.alloc HZ3C.out _) _ | (refine blk_eq ?_; focus (simp; done)) | (refine Blk.alloc (blk_eq ?_) _; focus (simp; done)) | (refine Blk.alloc (Blk.alloc (blk_eq ?_) _) _; focus (simp; done))); (first | focus (simp [Value.ownBlock]; done) | focus (simp [Value.ownBlock]; omega)); have cz4B0 := hz4B.at_ (i := 0) rfl; have cz4B1 := hz4B.at_ (i := 1) rfl; have fz4B0 := hz4B.frozen 0; have fz4B1 := hz4B.frozen 1; have lz4B := hz4B.lt; refine (fun (HZ4B : Bx (Blk w4 (w2.heap.size + 1) 27 #[.int .i64 0, .slice none 0 0])) => ?_) ⟨hz4B⟩; clear hz4B)); (try (refine (fun (hz4C : Blk w4 (w2.heap.size + 1 + 1) 27 #[.int .i64 0, .slice none 0 0]) => ?_) (blk_grown ?_ hgr2 ?_); rotate_left 1; ((try refine blk_undrew ?_); first | exact HZ3A.out | exact Blk.alloc HZ3A.out _ | exact Blk.alloc (Blk.alloc HZ3A.out _) _ | exact HZ3B.out | exact Blk.alloc HZ3B.out _ | exact Blk.alloc (Blk.alloc HZ3B.out _) _ | exact HZ3C.out | exact Blk.alloc HZ3C.out _ | exact Blk.alloc (Blk.alloc HZ3C.out _) _ | (refine blk_eq ?_; focus (simp; done)) | (refine Blk.alloc (blk_eq ?_) _; focus (simp; done)) | (refine Blk.alloc (Blk.alloc (blk_eq ?_) _) _; focus (simp; done))); (first | focus (simp [Value.ownBlock]; done) | focus (simp [Value.ownBlock]; omega)); have cz4C0 := hz4C.at_ (i := 0) rfl; have cz4C1 := hz4C.at_ (i := 1) rfl; have fz4C0 := hz4C.frozen 0; have fz4C1 := hz4C.frozen 1; have lz4C := hz4C.lt; refine (fun (HZ4C : Bx (Blk w4 (w2.heap.size + 1 + 1) 27 #[.int .i64 0, .slice none 0 0])) => ?_) ⟨hz4C⟩; clear hz4C)); (try (refine (fun (hz4D : Blk w4 (w3.heap.size) 27 #[.int .i64 0, .slice none 0 0]) => ?_) (blk_grown ?_ hgr2 ?_); rotate_left 1; ((try refine blk_undrew ?_); first | exact HZ3A.out | exact Blk.alloc HZ3A.out _ | exact Blk.alloc (Blk.alloc HZ3A.out _) _ | exact HZ3B.out | exact Blk.alloc HZ3B.out _ | exact Blk.alloc (Blk.alloc HZ3B.out _) _ | exact HZ3C.out | exact Blk.alloc HZ3C.out _ | exact Blk.alloc (Blk.alloc HZ3C.out _) _ | (refine blk_eq ?_; focus (simp; done)) | (refine Blk.alloc (blk_eq ?_) _; focus (simp; done)) | (refine Blk.alloc (Blk.alloc (blk_eq ?_) _) _; focus (simp; done))); (first | focus (simp [Value.ownBlock]; done) | focus (simp [Value.ownBlock]; omega)); have cz4D0 := hz4D.at_ (i := 0) rfl; have cz4D1 := hz4D.at_ (i := 1) rfl; have fz4D0 := hz4D.frozen 0; have fz4D1 := hz4D.frozen 1; have lz4D := hz4D.lt; refine (fun (HZ4D : Bx (Blk w4 (w3.heap.size) 27 #[.int .i64 0, .slice none 0 0])) => ?_) ⟨hz4D⟩; clear hz4D)); (try (refine (fun (hz4E : Blk w4 (w3.heap.size + 1) 27 #[.int .i64 0, .slice none 0 0]) => ?_) (blk_grown ?_ hgr2 ?_); rotate_left 1; ((try refine blk_undrew ?_); first | exact HZ3A.out | exact Blk.alloc HZ3A.out _ | exact Blk.alloc (Blk.alloc HZ3A.out _) _ | exact HZ3B.out | exact Blk.alloc HZ3B.out _ | exact Blk.alloc (Blk.alloc HZ3B.out _) _ | exact HZ3C.out | exact Blk.alloc HZ3C.out _ | exact Blk.alloc (Blk.alloc HZ3C.out _) _ | (refine blk_eq ?_; focus (simp; done)) | (refine Blk.alloc (blk_eq ?_) _; focus (simp; done)) | (refine Blk.alloc (Blk.alloc (blk_eq ?_) _) _; focus (simp; done))); (first | focus (simp [Value.ownBlock]; done) | focus (simp [Value.ownBlock]; omega)); have cz4E0 := hz4E.at_ (i := 0) rfl; have cz4E1 := hz4E.at_ (i := 1) rfl; have fz4E0 := hz4E.frozen 0; have fz4E1 := hz4E.frozen 1; have lz4E := hz4E.lt; refine (fun (HZ4E : Bx (Blk w4 (w3.heap.size + 1) 27 #[.int .i64 0, .slice none 0 0])) => ?_) ⟨hz4E⟩; clear hz4E))))
            all_goals (go_wp2_with fail; go_meet)
            all_goals refine ⟨_, some ⟨g2, 0, none⟩, cap2, rfl, ⟨⟨?_, ⟨?_, ?_⟩, ?_, ?_⟩⟩⟩
            all_goals (try rw [show (S ++ [(p : Int)]).length = S.length + 1 by simp])
            all_goals first
              | exact (HZ4A.out.set 0 _).set 1 _
              | exact (HZ4B.out.set 0 _).set 1 _
              | exact (HZ4C.out.set 0 _).set 1 _
              | exact (HZ4D.out.set 0 _).set 1 _
              | exact (HZ4E.out.set 0 _).set 1 _
              | (refine blk_eq ?_; rfl)
              | (rw [show (S ++ [(p : Int)]).length = S.length + 1 by simp]; refine blk_eq ?_; rfl)
              | (have := HZ4A.out.lt; simp; omega)
              | (have := HZ4B.out.lt; simp; omega)
              | (have := HZ4C.out.lt; simp; omega)
              | (have := HZ4D.out.lt; simp; omega)
              | (have := HZ4E.out.lt; simp; omega)
              | omega
              | (simp; done)
              | (simp; omega)
              | exact io_off (io_off HIO4.out (by omega)) (by omega)
              | exact io_alloc HIO4.out _
              | exact (bx_alloc hBw4 _).out
              | exact (bx_set (p := ⟨w2.heap.size, 1, none⟩) (bx_set (p := ⟨w2.heap.size, 0, none⟩) hBw4 (show w2.heap.size ≤ w2.heap.size by omega) _) (show w2.heap.size ≤ w2.heap.size by omega) _).out
              | exact (bx_set (p := ⟨w2.heap.size + 1, 1, none⟩) (bx_set (p := ⟨w2.heap.size + 1, 0, none⟩) hBw4 (show w2.heap.size ≤ w2.heap.size + 1 by omega) _) (show w2.heap.size ≤ w2.heap.size + 1 by omega) _).out
              | exact (bx_set (p := ⟨w2.heap.size + 1 + 1, 1, none⟩) (bx_set (p := ⟨w2.heap.size + 1 + 1, 0, none⟩) hBw4 (show w2.heap.size ≤ w2.heap.size + 1 + 1 by omega) _) (show w2.heap.size ≤ w2.heap.size + 1 + 1 by omega) _).out
              | exact (bx_set (p := ⟨w3.heap.size, 1, none⟩) (bx_set (p := ⟨w3.heap.size, 0, none⟩) hBw4 (show w2.heap.size ≤ w3.heap.size by omega) _) (show w2.heap.size ≤ w3.heap.size by omega) _).out
              | exact (bx_set (p := ⟨w3.heap.size + 1, 1, none⟩) (bx_set (p := ⟨w3.heap.size + 1, 0, none⟩) hBw4 (show w2.heap.size ≤ w3.heap.size + 1 by omega) _) (show w2.heap.size ≤ w3.heap.size + 1 by omega) _).out
        case rest =>
          obtain ⟨g, A', c', rfl, HC⟩ := hcut
          rename World => w3
          obtain ⟨⟨kb, ⟨hgl, hgh⟩, io3, b⟩⟩ := HC
          obtain ⟨S', hS'⟩ : ∃ S', S' = S ++ [(p : Int)] := ⟨_, rfl⟩
          have hok' : rhOk n S' = true := by rw [hS']; exact rhOk_snoc HOK.out HLP.out hpn
          have hlt' : ∀ x ∈ S', x < ((p + 1 : Nat) : Int) := by rw [hS']; exact lt_snoc HLP.out
          have hnil' : S' = [] → A' = none ∧ c' = 0 := fun h => by rw [hS'] at h; simp at h
          have HS1 := HS.out
          rw [← hS'] at kb io3 HS1
          have HOK' := Bx.mk hok'
          have HLT' := Bx.mk hlt'
          have HNL' := Bx.mk hnil'
          clear hS' hok' hlt' hnil' HS
          replace R0 := R0.below b (by omega)
          replace k0 := ((bcell b).1 _ _ (by omega)).trans k0
          replace k1 := ((bcell b).1 _ _ (by omega)).trans k1
          replace HX := Bx.mk (HXB.out.below (bw.trans (b.mono bw.size)) (Nat.le_refl _)).io
          have hz3 : w.heap.size + 2 ≤ w3.heap.size := Nat.le_trans hz b.size
          have hw23 : w2.heap.size ≤ w3.heap.size := b.size
          have bw3 := bw.trans (b.mono bw.size)
          have kx0 := kb.at_ (i := 0) rfl
          have kx1 := kb.at_ (i := 1) rfl
          have HY := Bx.mk io3
          clear b kb io3 bw
          go_wp2_with fail
          have hc1 := HI.out (p + 1) A' c' S' q w2.heap.size w3 (by omega) (by omega) HOK'.out HLT'.out HNL'.out hw23 (by exact HY.out)
          rw [show ((p + 1 : Nat) : Int) = (p : Int) + 1 by omega, show ((q : Nat) : Int) = (k : Int) - 1 by omega] at hc1
          refine hc1.mono ?_
          clear hc1
          rintro e w4 ⟨A4, c4, rfl, io4, b, hof4⟩
          have hz4 := b.size
          replace R0 := R0.below b (by omega)
          replace k0 := ((bcell b).1 _ _ (by omega)).trans k0
          replace k1 := ((bcell b).1 _ _ (by omega)).trans k1
          replace HX := Bx.mk (HX.out.below b (Nat.le_refl _))
          have bw4 := bw3.trans (b.mono bw3.size)
          have lt0 : w.heap.size < w4.heap.size := by omega
          have lt1 : w.heap.size + 1 < w4.heap.size := by omega
          have HIO4 := Bx.mk io4
          clear b kx0 kx1 bw3 io4 hof4
          obtain ⟨o1, ho1⟩ : ∃ o1, o1 = srch n d m S' q := ⟨_, rfl⟩
          rw [← ho1] at HIO4 HS1 ⊢
          clear ho1
          cases o1 with
          | some l =>
            have HSF : Bx (srch n d (m + 1) S k = some l) := ⟨HS1⟩
            clear HS1
            have cr0 := R0.at_ (i := 0) rfl
            have cr1 := R0.at_ (i := 1) rfl
            have fr0 := R0.frozen 0
            have fr1 := R0.frozen 1
            have RF := Bx.mk (((R0.set 0 (.int .i64 n)).set 1 (.slice A4 l.length c4)).alloc (.cells #[.int .i64 n, .slice A4 l.length c4] 27))
            have bs := (bw4.setCell (p := ⟨w.heap.size + 1, 0, none⟩) (show w.heap.size ≤ w.heap.size + 1 by omega) (.int .i64 n)).setCell (p := ⟨w.heap.size + 1, 1, none⟩) (show w.heap.size ≤ w.heap.size + 1 by omega) (.slice A4 l.length c4)
            have BF := Bx.mk (bs.alloc bs.size (.cells #[.int .i64 n, .slice A4 l.length c4] 27))
            clear bs
            have HF := Bx.mk ((io_alloc (io_two HIO4.out (g := w.heap.size + 1) (fun x hx => by have := HIO4.out.ge x hx; omega) (.int .i64 n) (.slice A4 l.length c4)) (.cells #[.int .i64 n, .slice A4 l.length c4] 27)).mono (show B ≤ w2.heap.size by omega))
            have HOF : Bx (∀ y, A4 = some y → A = some y ∨ w.heap.size ≤ y.block) := ⟨fun y hy => .inr (by have := HIO4.out.ge y hy; omega)⟩
            simp only [oS, oL, Option.getD_some, Option.isSome_some]
            go_wp2_with fail
            refine bodyPost_ret (v := .tuple #[.agg #[.int .i64 n, .slice A4 l.length c4], .bool true]) (by simp [results, Try.results61, go_sem, RF.out.at_ (i := 0) rfl, RF.out.at_ (i := 1) rfl]) rfl ?_
            rw [HSF.out]
            exact ⟨A4, c4, rfl, HF.out, BF.out, HOF.out⟩
          | none =>
            have HSF : Bx (srch n d (m + 1) S k = srch n d m S k) := ⟨HS1⟩
            clear HS1
            simp only [oS, oL, Option.getD_none, Option.isSome_none]
            obtain ⟨w5, hw5⟩ : ∃ w5, w5 = w4.alloc (.cells #[.int .i64 0, .slice A4 ([] : List Int).length c4] 27) := ⟨_, rfl⟩
            have b : Below w4.heap.size w4 w5 := by rw [hw5]; exact below_alloc _ _
            have hz5 := b.size
            replace R0 := R0.below b (by omega)
            have k05 := ((bcell b).1 _ _ (by omega)).trans k0
            have k15 := ((bcell b).1 _ _ (by omega)).trans k1
            replace HX := Bx.mk (HX.out.below b (Nat.le_refl _))
            have bw := bw4.trans (b.mono bw4.size)
            clear b
            go_wp2_with fail
            have e5 : w4.alloc (.cells #[.int .i64 0, .slice A4 0 c4] 27) = w5 := hw5.symm
            rw [e5]
            clear e5 hw5 k0 k1 lt0 lt1 bw4
            have hcz := HI.out (p + 1) A c S k B w5 (by omega) hk HOK.out HLT.out hnil (by omega) (by exact HX.out)
            rw [show ((p + 1 : Nat) : Int) = (p : Int) + 1 by omega] at hcz
            refine hcz.mono ?_
            rintro e wz ⟨Az, cz, rfl, ioz, b, hof⟩
            have HN1 : Bx (∀ y, Az = some y → y.block ≠ w.heap.size + 1) := ⟨fun y hy => (hof y hy).elim (fun h => by have := HXB.out.2 y h; omega) (fun h => by omega)⟩
            have bz := bw.trans (b.mono bw.size)
            replace R0 := R0.below b (by omega)
            have cr0 := R0.at_ (i := 0) rfl
            have cr1 := R0.at_ (i := 1) rfl
            have fr0 := R0.frozen 0
            have fr1 := R0.frozen 1
            have RF := Bx.mk ((R0.set 0 (.int .i64 (oS n (srch n d m S k)))).set 1 (.slice Az (oL (srch n d m S k)).length cz))
            have BF := Bx.mk ((bz.setCell (p := ⟨w.heap.size + 1, 0, none⟩) (show w.heap.size ≤ w.heap.size + 1 by omega) (.int .i64 (oS n (srch n d m S k)))).setCell (p := ⟨w.heap.size + 1, 1, none⟩) (show w.heap.size ≤ w.heap.size + 1 by omega) (.slice Az (oL (srch n d m S k)).length cz))
            have HF := Bx.mk (io_two ioz HN1.out (.int .i64 (oS n (srch n d m S k))) (.slice Az (oL (srch n d m S k)).length cz))
            have HOF : Bx (∀ y, Az = some y → A = some y ∨ w.heap.size ≤ y.block) := ⟨fun y hy => (hof y hy).elim .inl (fun h => .inr (by omega))⟩
            clear R0 b bz hof
            go_wp2_with fail
            refine bodyPost_ret (v := .tuple #[.agg #[.int .i64 (oS n (srch n d m S k)), .slice Az (oL (srch n d m S k)).length cz], .bool (srch n d m S k).isSome]) (by simp [results, Try.results61, go_sem, RF.out.at_ (i := 0) rfl, RF.out.at_ (i := 1) rfl]) rfl ?_
            rw [HSF.out]
            exact ⟨Az, cz, rfl, HF.out, BF.out, HOF.out⟩
set_option maxHeartbeats 1000000 in
theorem specFirst_in (n d k : Nat) (h2 : 2 ≤ n) (h16 : n ≤ 16) (hd : 1 ≤ d) (hdn : d < n) (hk : k ≤ n) (w : World) :
    Calls Try.prog 30 #[.int .i64 n, .int .i64 d, .int .i64 k] w (GivesRB w (oS n (firstR n d k)) (oL (firstR n d k)) (firstR n d k).isSome) := by
  have i1 : inB n 2 16 = true := inB_yes (by omega)
  have i2 : inB d 1 ((n : Int) - 1) = true := inB_yes (by omega)
  have i3 : inB k 0 n = true := inB_yes (by omega)
  have HS : Bx (srch n d n [] k = firstR n d k) := ⟨srch_first (by omega) hd hdn⟩
  obtain ⟨W0, hW0⟩ : ∃ W0, W0 = w.alloc (.cells #[.int .i64 0, .slice none 0 0] 27) := ⟨_, rfl⟩
  have bw : Below w.heap.size w W0 := by rw [hW0]; exact below_alloc _ _
  have hz : w.heap.size < W0.heap.size := by rw [hW0]; simp
  have R0 : Blk W0 w.heap.size 27 #[.int .i64 0, .slice none 0 0] := by rw [hW0]; exact Blk.new w _ _
  go_enter Try.func30, Try.ntmps30
  go_wp2_with fail
  rw [← hW0]
  clear hW0
  go_wp2_with (go_at_call 52; refine (l01In_any _ _ _ _).mono ?_; rintro e w' ⟨rfl, rfl⟩)
  clear i1 i2 i3
  have hcz := l08First_any n d h2 h16 hd hdn n 0 none 0 [] k W0.heap.size W0 (by omega) hk (by simp [rhOk, inB, okFrom]; omega) (by simp) (fun _ => ⟨rfl, rfl⟩) (Nat.le_refl _) (IO.nil _ _)
  refine hcz.mono ?_
  clear hcz
  rintro e wz ⟨Az, cz, rfl, ioz, b, hof⟩
  rw [HS.out] at ioz ⊢
  have bz := bw.trans (b.mono bw.size)
  replace R0 := R0.below b (by omega)
  have cr0 := R0.at_ (i := 0) rfl
  have cr1 := R0.at_ (i := 1) rfl
  have fr0 := R0.frozen 0
  have fr1 := R0.frozen 1
  clear HS
  have RF := Bx.mk ((R0.set 0 (.int .i64 (oS n (firstR n d k)))).set 1 (.slice Az (oL (firstR n d k)).length cz))
  have BF := Bx.mk ((bz.setCell (p := ⟨w.heap.size, 0, none⟩) (show w.heap.size ≤ w.heap.size by omega) (.int .i64 (oS n (firstR n d k)))).setCell (p := ⟨w.heap.size, 1, none⟩) (show w.heap.size ≤ w.heap.size by omega) (.slice Az (oL (firstR n d k)).length cz))
  have HF := Bx.mk ((io_two ioz (g := w.heap.size) (fun x hx => by have := ioz.ge x hx; omega) (.int .i64 (oS n (firstR n d k))) (.slice Az (oL (firstR n d k)).length cz)).mono (show w.heap.size ≤ W0.heap.size by omega))
  clear R0 b bz hof
  go_wp2_with fail
  refine bodyPost_ret (v := .tuple #[.agg #[.int .i64 (oS n (firstR n d k)), .slice Az (oL (firstR n d k)).length cz], .bool (firstR n d k).isSome]) (by simp [results, Try.results30, go_sem, RF.out.at_ (i := 0) rfl, RF.out.at_ (i := 1) rfl]) rfl ?_
  exact ⟨Az, cz, rfl, HF.out, BF.out⟩
set_option maxHeartbeats 1000000 in
theorem specFirst_any (n d k : Int) (w : World) :
    Calls Try.prog 30 #[.int .i64 n, .int .i64 d, .int .i64 k] w (GivesRB w (oS n (firstO n d k)) (oL (firstO n d k)) (firstO n d k).isSome) := by
  by_cases h1 : inB n 2 16 = true
  · by_cases h2 : inB d 1 (n - 1) = true
    · by_cases h3 : inB k 0 n = true
      · have b1 := inB_iff.1 h1; have b2 := inB_iff.1 h2; have b3 := inB_iff.1 h3
        have hv : firstO n d k = firstR n.toNat d.toNat k.toNat := by simp [firstO, h1, h2, h3]
        rw [hv]
        obtain ⟨n', rfl⟩ := Int.eq_ofNat_of_zero_le (show 0 ≤ n by omega)
        obtain ⟨d', rfl⟩ := Int.eq_ofNat_of_zero_le (show 0 ≤ d by omega)
        obtain ⟨k', rfl⟩ := Int.eq_ofNat_of_zero_le (show 0 ≤ k by omega)
        simp only [Int.toNat_natCast]
        exact specFirst_in n' d' k' (by omega) (by omega) (by omega) (by omega) (by omega) w
      · rw [Bool.not_eq_true] at h3
        have HN : Bx (firstO n d k = Option.none) := ⟨by simp [firstO, h3]⟩
        have b1 := inB_iff.1 h1
        obtain ⟨W0, hW0⟩ : ∃ W0, W0 = w.alloc (.cells #[.int .i64 0, .slice none 0 0] 27) := ⟨_, rfl⟩
        have bw : Below w.heap.size w W0 := by rw [hW0]; exact below_alloc _ _
        have hz : w.heap.size < W0.heap.size := by rw [hW0]; simp
        have R0 : Blk W0 w.heap.size 27 #[.int .i64 0, .slice none 0 0] := by rw [hW0]; exact Blk.new w _ _
        go_enter Try.func30, Try.ntmps30
        go_wp2_with fail
        rw [← hW0]
        clear hW0
        have cr0 := R0.at_ (i := 0) rfl
        have cr1 := R0.at_ (i := 1) rfl
        have fr0 := R0.frozen 0
        have fr1 := R0.frozen 1
        have RF := Bx.mk ((R0.set 0 (.int .i64 0)).set 1 (.slice none 0 0))
        have BF := Bx.mk ((bw.setCell (p := ⟨w.heap.size, 0, none⟩) (show w.heap.size ≤ w.heap.size by omega) (.int .i64 0)).setCell (p := ⟨w.heap.size, 1, none⟩) (show w.heap.size ≤ w.heap.size by omega) (.slice none 0 0))
        clear R0
        go_wp2_with (go_at_call 52; refine (l01In_any _ _ _ _).mono ?_; rintro e w' ⟨rfl, rfl⟩)
        exact bodyPost_ret (v := .tuple #[.agg #[.int .i64 0, .slice none 0 0], .bool false]) (by simp [results, Try.results30, go_sem, RF.out.at_ (i := 0) rfl, RF.out.at_ (i := 1) rfl]) rfl (GivesRB.none HN.out BF.out)
    · rw [Bool.not_eq_true] at h2
      have HN : Bx (firstO n d k = Option.none) := ⟨by simp [firstO, h2]⟩
      have b1 := inB_iff.1 h1
      obtain ⟨W0, hW0⟩ : ∃ W0, W0 = w.alloc (.cells #[.int .i64 0, .slice none 0 0] 27) := ⟨_, rfl⟩
      have bw : Below w.heap.size w W0 := by rw [hW0]; exact below_alloc _ _
      have hz : w.heap.size < W0.heap.size := by rw [hW0]; simp
      have R0 : Blk W0 w.heap.size 27 #[.int .i64 0, .slice none 0 0] := by rw [hW0]; exact Blk.new w _ _
      go_enter Try.func30, Try.ntmps30
      go_wp2_with fail
      rw [← hW0]
      clear hW0
      have cr0 := R0.at_ (i := 0) rfl
      have cr1 := R0.at_ (i := 1) rfl
      have fr0 := R0.frozen 0
      have fr1 := R0.frozen 1
      have RF := Bx.mk ((R0.set 0 (.int .i64 0)).set 1 (.slice none 0 0))
      have BF := Bx.mk ((bw.setCell (p := ⟨w.heap.size, 0, none⟩) (show w.heap.size ≤ w.heap.size by omega) (.int .i64 0)).setCell (p := ⟨w.heap.size, 1, none⟩) (show w.heap.size ≤ w.heap.size by omega) (.slice none 0 0))
      clear R0
      go_wp2_with (go_at_call 52; refine (l01In_any _ _ _ _).mono ?_; rintro e w' ⟨rfl, rfl⟩)
      exact bodyPost_ret (v := .tuple #[.agg #[.int .i64 0, .slice none 0 0], .bool false]) (by simp [results, Try.results30, go_sem, RF.out.at_ (i := 0) rfl, RF.out.at_ (i := 1) rfl]) rfl (GivesRB.none HN.out BF.out)
  · rw [Bool.not_eq_true] at h1
    have HN : Bx (firstO n d k = Option.none) := ⟨by simp [firstO, h1]⟩
    obtain ⟨W0, hW0⟩ : ∃ W0, W0 = w.alloc (.cells #[.int .i64 0, .slice none 0 0] 27) := ⟨_, rfl⟩
    have bw : Below w.heap.size w W0 := by rw [hW0]; exact below_alloc _ _
    have hz : w.heap.size < W0.heap.size := by rw [hW0]; simp
    have R0 : Blk W0 w.heap.size 27 #[.int .i64 0, .slice none 0 0] := by rw [hW0]; exact Blk.new w _ _
    go_enter Try.func30, Try.ntmps30
    go_wp2_with fail
    rw [← hW0]
    clear hW0
    have cr0 := R0.at_ (i := 0) rfl
    have cr1 := R0.at_ (i := 1) rfl
    have fr0 := R0.frozen 0
    have fr1 := R0.frozen 1
    have RF := Bx.mk ((R0.set 0 (.int .i64 0)).set 1 (.slice none 0 0))
    have BF := Bx.mk ((bw.setCell (p := ⟨w.heap.size, 0, none⟩) (show w.heap.size ≤ w.heap.size by omega) (.int .i64 0)).setCell (p := ⟨w.heap.size, 1, none⟩) (show w.heap.size ≤ w.heap.size by omega) (.slice none 0 0))
    clear R0
    go_wp2_with (go_at_call 52; refine (l01In_any _ _ _ _).mono ?_; rintro e w' ⟨rfl, rfl⟩)
    exact bodyPost_ret (v := .tuple #[.agg #[.int .i64 0, .slice none 0 0], .bool false]) (by simp [results, Try.results30, go_sem, RF.out.at_ (i := 0) rfl, RF.out.at_ (i := 1) rfl]) rfl (GivesRB.none HN.out BF.out)
end Go.Proofs.Ytiiiejkolodjpaa
