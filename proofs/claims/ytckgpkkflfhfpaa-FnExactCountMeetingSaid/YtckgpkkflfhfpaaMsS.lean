/- The second condition, the reference's side. -/
import Derived.Test.YtckgpkkflfhfpaaMs
import Derived.Test.YtckgpkkflfhfpaaBxB
import Derived.Test.YtckgpkkflfhfpaaObjs
import Derived.Test.YtckgpkkflfhfpaaApp
import Derived.Test.YtckgpkkflfhfpaaSum
import Derived.Deep.RegionHeld3
import Derived.Deep.DeepCutAuto
import Derived.Deep.AppendLies
namespace Go.Proofs.Ytckgpkkflfhfpaa
open Go.RowKit

theorem blk_eq {w : World} {g : Nat} {t : TypeId} {cs : Array Value} (h : g = w.heap.size) : Blk (w.alloc (.cells cs t)) g t cs := by rw [h]; exact Blk.new w t cs
theorem blk_undrew {w : World} {g : Nat} {t : TypeId} {cs : Array Value} (h : Blk w g t cs) : Blk w.drew g t cs := h
theorem blk_grown {w w' : World} {g : Nat} {t : TypeId} {cs : Array Value} {r : Option Nat} (h : Blk w g t cs) (hg : w.grownBy w' r) (hne : r ≠ some g) : Blk w' g t cs := (hg.block g h.lt (fun e => hne e.symm)).trans h
theorem Row.undrew {w : World} {base : Nat} {v : Value} {xs : List Int} (h : Row w base v xs) : Row w.drew base v xs := h
theorem Row.base_le {w : World} {base g n c : Nat} {xs : List Int} (h : Row w base (.slice (some ⟨g, 0, none⟩) n c) xs) : base ≤ g := by
  rcases h.2 with ⟨e, _⟩ | ⟨g', cap, cur, e, hg, _⟩
  · cases e
  · injection e with e; injection e with e; injection e with e; omega
theorem row_blk {w : World} {g base : Nat} (h : Blk w g 3 #[]) (hb : base ≤ g) : Row w base (.slice (some ⟨g, 0, none⟩) 0 0) [] :=
  ⟨by simp [ints], .inr ⟨g, 0, #[], rfl, hb, h, Nat.le_refl _, by unfold maxLen; omega, rfl, rfl⟩⟩
theorem ir_one {w : World} {g : Nat} {z : Int} (h : Blk w g 3 #[.int .i64 z]) : IR w (some ⟨g, 0, none⟩) [z] := by
  refine ⟨by simp, fun _ => ⟨g, 0, rfl, h.lt, fun k hk => ?_⟩⟩
  have : k = 0 := by simp at hk; omega
  subst this
  exact h.cell 0
theorem bx_grown {a w w' : World} {r : Option Nat} (h : Bx (Below a.heap.size a w)) (hg : w.grownBy w' r) (hr : ∀ k, r = some k → a.heap.size ≤ k) : Bx (Below a.heap.size a w') :=
  ⟨h.out.grown hg h.out.size hr⟩
theorem step_appS {ops : Array Oper} {o : Oper} {a : Act} {K : Act → World → Prop} {Q : Exit → Act → World → Prop} {E : Prop} {w : World} (hgd : o.guard = none) (s x : Operand)
    (ho : o.op = .call { callee := .builtin .append, args := #[s, x], argTypes := #[22, 22] })
    (base : Nat) (v : Value) (xs : List Int) (hs : a.eval s = v) (hown : Row w base v xs) (b p c : Nat) (ys : List Int) (hx : a.eval x = .slice (some ⟨b, p, none⟩) ys.length c)
    (hy : IR w (some ⟨b, p, none⟩) ys) (hl : xs.length + ys.length ≤ 1000000000) (hb : base ≤ w.heap.size) (hv : v ≠ .slice none 0 0)
    (h : ∀ g cap w', Row w' base (.slice (some ⟨g, 0, none⟩) (xs ++ ys).length cap) (xs ++ ys) → w.grownBy w' v.ownBlock → K (a.put o.dst (.slice (some ⟨g, 0, none⟩) (xs ++ ys).length cap)) w') :
    if Region.wanted o (yielded ops a.tmps) = true then Oper.wp Try.prog o a w K Q else E := by
  have hw : Region.wanted o (yielded ops a.tmps) = true := by simp [Region.wanted, hgd]
  rw [if_pos hw]
  obtain ⟨i0, hi0, hz0, hz1, hz2⟩ := info_parts info_int
  refine wp_append_own w s x 22 ho base 3 i0 (.int .i64 0) 1 8 Try.underlying22 hi0 hz0 hz1 hz2 rfl (by decide) v xs.length (ints xs) hs hown
    ⟨b, p, none⟩ ys.length c (ints ys) hx (by simp [ints]) ?_ ?_ (by unfold maxLen; omega) (by omega) hb ?_
  · intro j u hj
    have hjl : j < ys.length := by
      have := (List.getElem?_eq_some_iff.1 hj).1
      simpa [ints] using this
    obtain ⟨b', o', e, _, hc⟩ := hy.at_ (by omega)
    injection e with e; injection e with e1 e2
    subst e1 e2
    have hadd : (⟨b, p, none⟩ : Addr).add j = ⟨b, p + j, none⟩ := by unfold Addr.add; split <;> simp_all
    rw [hadd, hc j hjl]
    simp [ints, hjl] at hj
    rw [← hj, List.getElem?_eq_getElem hjl]; rfl
  · intro u hu
    simp [ints] at hu
    obtain ⟨z, _, rfl⟩ := hu
    rfl
  · intro v' w' h1 h2 h3
    have hR : Row w' base v' (xs ++ ys) := by
      unfold Row
      rw [List.length_append, show ints (xs ++ ys) = ints xs ++ ints ys by simp [ints]]
      exact h1
    have hn : v' ≠ .slice none 0 0 := fun e => hv (h3.1 e).1
    obtain ⟨A', c', e⟩ := hR.slice
    subst e
    rcases hR.2 with ⟨e1, _⟩ | ⟨g, cap, cur, e1, _⟩
    · exact absurd e1 hn
    · injection e1 with e1
      subst e1
      exact h g c' w' hR h2
theorem hM_eq {L : List Int} {m : Int} (h : 1 ≤ m) : hM L m = (!decide (1 < m) || memB L m) := by
  unfold hM
  by_cases h1 : m = 1
  · subst h1; rfl
  · have : (m == 1) = false := by simpa using h1
    have h2 : decide (1 < m) = true := by simp; omega
    rw [this, h2]; rfl
theorem lLoop_at (h : Int → Bool) {l : List Int} {k : Nat} {s : Int} (hs : l[k]? = some s) (P : List Int) (m : Int) : lLoop h (l.drop k) P m = ((memB P (primeI s) || (h (m * s) && lLoop h (l.drop (k + 1)) (P ++ [primeI s]) (m * s))) && lLoop h (l.drop (k + 1)) P m) := by
  have hk := (List.getElem?_eq_some_iff.1 hs).1
  rw [List.drop_eq_getElem_cons hk, show l[k] = s by have := List.getElem?_eq_getElem hk; rw [hs] at this; exact (Option.some.inj this).symm]
  rfl
set_option maxHeartbeats 4000000 in
set_option maxRecDepth 20000 in
theorem l11_any (PL OL : List Int) (hPP : ∀ s ∈ PL, 1 ≤ s ∧ s ≤ 24) (hPl : PL.length ≤ 100) : ∀ (N t i : Nat) (AP AO : Option Addr) (cP cO bq oq cQ : Nat) (P : List Int) (m : Int) (w : World), t ≤ N → i + t = PL.length → bnd m t → P.length + t ≤ 1000 → IR w AP PL → IR w AO OL → IR w (some ⟨bq, oq, none⟩) P →
    Calls Try.prog 20 #[.slice AP PL.length cP, .slice AO OL.length cO, .int .i64 i, .slice (some ⟨bq, oq, none⟩) P.length cQ, .int .i64 m] w fun e w' => e = .returned (.bool (hM OL m && lLoop (hM OL) (PL.drop i) P m)) ∧ Below w.heap.size w w' := by
  intro N
  induction N with
  | zero =>
    intro t i AP AO cP cO bq oq cQ P m w hN hit hb hPlen hp ho hq
    have h0 : t = 0 := by omega
    subst h0
    have hi : i = PL.length := by omega
    have hm := hb.1
    have HD : Bx (lLoop (hM OL) (PL.drop i) P m = true) := ⟨by rw [hi, List.drop_length]; rfl⟩
    have HE := Bx.mk (hM_eq (L := OL) hm)
    have HO := Bx.mk ho
    have hil : ¬ (i : Int) < (PL.length : Int) := by omega
    clear hb hi hp hq ho
    by_cases h1 : 1 < m
    · cases hv : memB OL m with
      | false =>
        have HR : Bx ((hM OL m && lLoop (hM OL) (PL.drop i) P m) = false) := ⟨by rw [HE.out, hv]; simp [h1]⟩
        go_enter Try.func20, Try.ntmps20
        go_wp2_with fail
        refine (l02Has_any _ _ _ _ _ (by exact HO.out)).mono ?_
        rw [hv]
        rintro e w1 ⟨rfl, rfl⟩
        go_wp2_with fail
        go_ret
        exact ⟨ret_bool HR.out.symm, Below.refl _ _⟩
      | true =>
        have HM : Bx (hM OL m = true) := ⟨by rw [HE.out, hv]; simp⟩
        go_enter Try.func20, Try.ntmps20
        go_wp2_with fail
        refine (l02Has_any _ _ _ _ _ (by exact HO.out)).mono ?_
        rw [hv]
        rintro e w1 ⟨rfl, rfl⟩
        clear hv
        go_wp2_with fail
        go_loopw [11] (fun v wr => v = .int .i64 i ∧ Below w.heap.size w wr) (fun _ _ => 0)
        case atStart => exact ⟨rfl, Below.refl _ _⟩
        case round =>
          obtain ⟨rfl, hbw⟩ := hrel
          go_wp2_with fail
          go_ret
          exact ⟨ret_bool (by rw [HM.out, HD.out]; rfl), hbw⟩
    · have HM : Bx (hM OL m = true) := ⟨by rw [HE.out]; simp [h1]⟩
      go_enter Try.func20, Try.ntmps20
      go_wp2_with fail
      go_loopw [11] (fun v wr => v = .int .i64 i ∧ Below w.heap.size w wr) (fun _ _ => 0)
      case atStart => exact ⟨rfl, Below.refl _ _⟩
      case round =>
        obtain ⟨rfl, hbw⟩ := hrel
        go_wp2_with fail
        go_ret
        exact ⟨ret_bool (by rw [HM.out, HD.out]; rfl), hbw⟩
  | succ N ih =>
    intro t i AP AO cP cO bq oq cQ P m w hN hit hb hPlen hp ho hq
    have hm := hb.1
    have hml := bnd_le hb
    have HBD := Bx.mk hb
    have HI := Bx.mk ih
    have HE := Bx.mk (hM_eq (L := OL) hm)
    have HPP := Bx.mk hPP
    have HP := Bx.mk hp
    have HO := Bx.mk ho
    have HQ0 := Bx.mk hq
    have hil : i ≤ PL.length := by omega
    clear hb ih hp ho hq
    by_cases h1 : 1 < m
    · cases hv : memB OL m with
      | false =>
        have HR : Bx ((hM OL m && lLoop (hM OL) (PL.drop i) P m) = false) := ⟨by rw [HE.out, hv]; simp [h1]⟩
        go_enter Try.func20, Try.ntmps20
        go_wp2_with fail
        refine (l02Has_any _ _ _ _ _ (by exact HO.out)).mono ?_
        rw [hv]
        rintro e w1 ⟨rfl, rfl⟩
        go_wp2_with fail
        go_ret
        exact ⟨ret_bool HR.out.symm, Below.refl _ _⟩
      | true =>
        have HM : Bx (hM OL m = true) := ⟨by rw [HE.out, hv]; simp⟩
        go_enter Try.func20, Try.ntmps20
        go_wp2_with fail
        refine (l02Has_any _ _ _ _ _ (by exact HO.out)).mono ?_
        rw [hv]
        rintro e w1 ⟨rfl, rfl⟩
        clear hv
        go_wp2_with fail
        go_loopw [11] (fun v wr => ∃ k : Nat, i ≤ k ∧ k ≤ PL.length ∧ v = .int .i64 k ∧ Bx (lLoop (hM OL) (PL.drop i) P m = lLoop (hM OL) (PL.drop k) P m) ∧ Below w.heap.size w wr) (fun v _ => PL.length - (intOf v).toNat)
        case atStart => exact ⟨i, Nat.le_refl _, hil, rfl, ⟨rfl⟩, Below.refl _ _⟩
        case round =>
          obtain ⟨k, hik, hk, rfl, HL, hbw⟩ := hrel
          have hzr := hbw.size
          have HPW := Bx.mk (HP.out.below hbw)
          have HOW := Bx.mk (HO.out.below hbw)
          have HQ := Bx.mk (HQ0.out.below hbw)
          by_cases hlt : k < PL.length
          · obtain ⟨b, o, s, eA, hbk, c1, H3⟩ := HPW.out.one hlt
            subst eA
            have H4 := Bx.mk H3.out
            clear H3
            have hki : (k : Int) < (PL.length : Int) := by omega
            obtain ⟨hs1, hs2⟩ := HPP.out s (List.mem_of_getElem? H4.out)
            have HLA := Bx.mk (lLoop_at (hM OL) H4.out P m)
            obtain ⟨p, hp⟩ : ∃ p, p = primeI s := ⟨_, rfl⟩
            rw [← hp] at HLA
            have HBW := Bx.mk hbw
            clear hbw
            cases hv : memB P p with
            | true =>
              have HN : Bx (lLoop (hM OL) (PL.drop i) P m = lLoop (hM OL) (PL.drop (k + 1)) P m) := ⟨by rw [HL.out, HLA.out, hv]; simp⟩
              go_wp2_with fail
              refine (specPrimeOf_any _ _).mono ?_
              rw [← hp]
              rintro e w2 ⟨rfl, rfl⟩
              clear hp
              go_wp2_with fail
              refine (l02Has_any _ _ _ _ _ (by exact HQ.out)).mono ?_
              rw [hv]
              rintro e w2 ⟨rfl, rfl⟩
              go_wp2_with fail
              go_roundw
              case rel => exact ⟨k + 1, by omega, by omega, by go_num, HN, HBW.out⟩
              case measure => simp [intOf]; omega
            | false =>
              obtain ⟨bR, hbR⟩ : ∃ bR, bR = (hM OL (m * s) && lLoop (hM OL) (PL.drop (k + 1)) (P ++ [p]) (m * s)) := ⟨_, rfl⟩
              have HLB : Bx (lLoop (hM OL) (PL.drop k) P m = (bR && lLoop (hM OL) (PL.drop (k + 1)) P m)) := ⟨by rw [HLA.out, hv, hbR]; simp⟩
              have hbd : bnd (m * s) (t - (k + 1 - i)) := by
                obtain ⟨u, hu⟩ : ∃ u, t = u + 1 := ⟨t - 1, by omega⟩
                have h0 := HBD.out
                rw [hu] at h0
                exact bnd_less (bnd_mul h0 hs1 hs2) (by omega)
              have hmul : IntKind.i64.wrap (m * s) = m * s := IntWalk.i64_in _ (by have := hbd.1; have := bnd_le hbd; omega)
              have hadd : IntKind.i64.wrap ((k : Int) + 1) = (k : Int) + 1 := IntWalk.i64_in _ (by omega)
              have HIC : Bx (∀ g cap W, IR W (some ⟨b, o, none⟩) PL → IR W AO OL → IR W (some ⟨g, 0, none⟩) (P ++ [p]) →
                  Calls Try.prog 20 #[.slice (some ⟨b, o, none⟩) PL.length cP, .slice AO OL.length cO, .int .i64 ((k : Int) + 1), .slice (some ⟨g, 0, none⟩) (P.length + 1) cap, .int .i64 (m * s)] W fun e w' => e = .returned (.bool bR) ∧ Below W.heap.size W w') := ⟨fun g cap W h1 h2 h3 => by
                have := HI.out (t - (k + 1 - i)) (k + 1) (some ⟨b, o, none⟩) AO cP cO g 0 cap (P ++ [p]) (m * s) W (by omega) (by omega) hbd (by simp; omega) h1 h2 h3
                rw [show ((k + 1 : Nat) : Int) = (k : Int) + 1 by omega, ← hbR, show (P ++ [p]).length = P.length + 1 by simp] at this
                exact this⟩
              clear hbR HLA hbd
              go_wp2_with fail
              refine (specPrimeOf_any _ _).mono ?_
              rw [← hp]
              rintro e w2 ⟨rfl, rfl⟩
              clear hp
              go_wp2_with fail
              refine (l02Has_any _ _ _ _ _ (by exact HQ.out)).mono ?_
              rw [hv]
              rintro e w2 ⟨rfl, rfl⟩
              clear hv
              go_upto_region 8 with (fail)
              go_cut [53] (fun sv wx => sv = .bool (!bR) ∧ Bx (Below wr.heap.size wr wx))
              case first =>
                have hB0 : Bx (Below wr.heap.size wr wr) := ⟨Below.refl _ _⟩
                have hBd : Bx (Below wr.heap.size wr wr.drew) := ⟨(Below.refl _ _).drew⟩
                have c1d : wr.drew.cell? _ = _ := c1
                go_region_held3 (fun w' => w'.cell? ⟨b, o + k, none⟩ = some (.int .i64 s) ∧ Bx (Below wr.heap.size wr w'))
                  ((refine (fun (hK : Bx (Below wr.heap.size wr _)) => ⟨((bcell hK.out).1 _ _ hbk).trans c1, hK⟩) ?_; first | assumption | exact bx_alloc (by assumption) _ | exact bx_alloc (bx_alloc (by assumption) _) _ | exact bx_drew (by assumption)))
                  (first
                    | (go_at_call 20; refine (HIC.out g2 cap2 _ (HPW.out.below hBw4.out) (HOW.out.below hBw4.out) HIO4.out.reads).mono ?_; rintro e w5 ⟨rfl, b5⟩; have hBw5 : Bx (Below wr.heap.size wr w5) := bx_to hBw4 b5)
                    | (refine step_appS (by rfl) _ _ (by rfl) wr.heap.size (.slice (some ⟨g1, 0, none⟩) ([] ++ P).length cap1) ([] ++ P) (by rfl) (by (try refine Row.undrew ?_); first | exact hrow1 | exact hrow1.alloc _) _ 0 1 [p] (by rfl) (ir_one (by (try refine blk_undrew ?_); first | exact HEA.out | exact HEB.out | (refine blk_eq ?_; focus (simp; done)) | (refine Blk.alloc (blk_eq ?_) _; focus (simp; done)) | (refine Blk.alloc (Blk.alloc (blk_eq ?_) _) _; focus (simp; done)))) (by simp; omega) (by first | omega | (simp; done) | (simp; omega)) (by simp) ?_; intro g2 cap2 w4 hrow2 hgr2; have hbl1 : wr.heap.size ≤ g1 := hrow1.base_le; have hBw4 : Bx (Below wr.heap.size wr w4) := bx_grown (by first | assumption | exact bx_alloc (by assumption) _ | exact bx_alloc (bx_alloc (by assumption) _) _ | exact bx_alloc (bx_alloc (bx_alloc (by assumption) _) _) _) hgr2 (by intro k hk; simp [Value.ownBlock] at hk; omega); have HIO4 := Bx.mk (hrow2.io' rfl (by simp; omega)); clear hrow2)
                    | (refine step_appS (by rfl) _ _ (by rfl) wr.heap.size _ [] (by rfl) (row_blk (by (try refine blk_undrew ?_); first | (refine blk_eq ?_; focus (simp; done)) | (refine Blk.alloc (blk_eq ?_) _; focus (simp; done)) | (refine Blk.alloc (Blk.alloc (blk_eq ?_) _) _; focus (simp; done))) (by first | omega | (simp; done) | (simp; omega))) bq oq cQ P (by rfl) (HQ.out.below (Bx.out (by first | assumption | exact bx_alloc (by assumption) _ | exact bx_alloc (bx_alloc (by assumption) _) _ | exact bx_alloc (bx_alloc (bx_alloc (by assumption) _) _) _))) (by simp; omega) (by first | omega | (simp; done) | (simp; omega)) (by simp) ?_; intro g1 cap1 w3 hrow1 hgr1; have hBw3 : Bx (Below wr.heap.size wr w3) := bx_grown (by first | assumption | exact bx_alloc (by assumption) _ | exact bx_alloc (bx_alloc (by assumption) _) _ | exact bx_alloc (bx_alloc (bx_alloc (by assumption) _) _) _) hgr1 (by intro k hk; simp [Value.ownBlock] at hk; omega); have hzw3 := bx_size hBw3; (try (refine (fun (heA : Blk w3 (wr.heap.size) 3 #[.int .i64 p]) => ?_) (blk_grown ?_ hgr1 ?_); rotate_left 1; ((try refine blk_undrew ?_); first | (refine blk_eq ?_; focus (simp; done)) | (refine Blk.alloc (blk_eq ?_) _; focus (simp; done)) | (refine Blk.alloc (Blk.alloc (blk_eq ?_) _) _; focus (simp; done))); (first | focus (simp [Value.ownBlock]; done) | focus (simp [Value.ownBlock]; omega)); refine (fun (HEA : Bx (Blk w3 (wr.heap.size) 3 #[.int .i64 p])) => ?_) ⟨heA⟩; clear heA)); (try (refine (fun (heB : Blk w3 (wr.heap.size + 1) 3 #[.int .i64 p]) => ?_) (blk_grown ?_ hgr1 ?_); rotate_left 1; ((try refine blk_undrew ?_); first | (refine blk_eq ?_; focus (simp; done)) | (refine Blk.alloc (blk_eq ?_) _; focus (simp; done)) | (refine Blk.alloc (Blk.alloc (blk_eq ?_) _) _; focus (simp; done))); (first | focus (simp [Value.ownBlock]; done) | focus (simp [Value.ownBlock]; omega)); refine (fun (HEB : Bx (Blk w3 (wr.heap.size + 1) 3 #[.int .i64 p])) => ?_) ⟨heB⟩; clear heB))))
                all_goals (go_wp2_with fail; go_meet)
                all_goals exact ⟨rfl, hBw5⟩
              case rest =>
                obtain ⟨rfl, HBX⟩ := hcut
                cases bR with
                | true =>
                  have HN : Bx (lLoop (hM OL) (PL.drop i) P m = lLoop (hM OL) (PL.drop (k + 1)) P m) := ⟨by rw [HL.out, HLB.out]; simp⟩
                  have HBF := Bx.mk (HBW.out.trans (HBX.out.mono hzr))
                  go_wp2_with fail
                  go_roundw
                  case rel => exact ⟨k + 1, by omega, by omega, by go_num, HN, HBF.out⟩
                  case measure => simp [intOf]; omega
                | false =>
                  have HR : Bx ((hM OL m && lLoop (hM OL) (PL.drop i) P m) = false) := ⟨by rw [HL.out, HLB.out]; simp⟩
                  have HBF := Bx.mk (HBW.out.trans (HBX.out.mono hzr))
                  go_wp2_with fail
                  go_ret
                  exact ⟨ret_bool HR.out.symm, HBF.out⟩
          · have hkl : k = PL.length := by omega
            have HR : Bx ((hM OL m && lLoop (hM OL) (PL.drop i) P m) = true) := ⟨by rw [HM.out, HL.out, hkl, List.drop_length]; rfl⟩
            clear hkl
            go_wp2_with fail
            go_ret
            exact ⟨ret_bool HR.out.symm, hbw⟩
    · have HM : Bx (hM OL m = true) := ⟨by rw [HE.out]; simp [h1]⟩
      go_enter Try.func20, Try.ntmps20
      go_wp2_with fail
      go_loopw [11] (fun v wr => ∃ k : Nat, i ≤ k ∧ k ≤ PL.length ∧ v = .int .i64 k ∧ Bx (lLoop (hM OL) (PL.drop i) P m = lLoop (hM OL) (PL.drop k) P m) ∧ Below w.heap.size w wr) (fun v _ => PL.length - (intOf v).toNat)
      case atStart => exact ⟨i, Nat.le_refl _, hil, rfl, ⟨rfl⟩, Below.refl _ _⟩
      case round =>
        obtain ⟨k, hik, hk, rfl, HL, hbw⟩ := hrel
        have hzr := hbw.size
        have HPW := Bx.mk (HP.out.below hbw)
        have HOW := Bx.mk (HO.out.below hbw)
        have HQ := Bx.mk (HQ0.out.below hbw)
        by_cases hlt : k < PL.length
        · obtain ⟨b, o, s, eA, hbk, c1, H3⟩ := HPW.out.one hlt
          subst eA
          have H4 := Bx.mk H3.out
          clear H3
          have hki : (k : Int) < (PL.length : Int) := by omega
          obtain ⟨hs1, hs2⟩ := HPP.out s (List.mem_of_getElem? H4.out)
          have HLA := Bx.mk (lLoop_at (hM OL) H4.out P m)
          obtain ⟨p, hp⟩ : ∃ p, p = primeI s := ⟨_, rfl⟩
          rw [← hp] at HLA
          have HBW := Bx.mk hbw
          clear hbw
          cases hv : memB P p with
          | true =>
            have HN : Bx (lLoop (hM OL) (PL.drop i) P m = lLoop (hM OL) (PL.drop (k + 1)) P m) := ⟨by rw [HL.out, HLA.out, hv]; simp⟩
            go_wp2_with fail
            refine (specPrimeOf_any _ _).mono ?_
            rw [← hp]
            rintro e w2 ⟨rfl, rfl⟩
            clear hp
            go_wp2_with fail
            refine (l02Has_any _ _ _ _ _ (by exact HQ.out)).mono ?_
            rw [hv]
            rintro e w2 ⟨rfl, rfl⟩
            go_wp2_with fail
            go_roundw
            case rel => exact ⟨k + 1, by omega, by omega, by go_num, HN, HBW.out⟩
            case measure => simp [intOf]; omega
          | false =>
            obtain ⟨bR, hbR⟩ : ∃ bR, bR = (hM OL (m * s) && lLoop (hM OL) (PL.drop (k + 1)) (P ++ [p]) (m * s)) := ⟨_, rfl⟩
            have HLB : Bx (lLoop (hM OL) (PL.drop k) P m = (bR && lLoop (hM OL) (PL.drop (k + 1)) P m)) := ⟨by rw [HLA.out, hv, hbR]; simp⟩
            have hbd : bnd (m * s) (t - (k + 1 - i)) := by
              obtain ⟨u, hu⟩ : ∃ u, t = u + 1 := ⟨t - 1, by omega⟩
              have h0 := HBD.out
              rw [hu] at h0
              exact bnd_less (bnd_mul h0 hs1 hs2) (by omega)
            have hmul : IntKind.i64.wrap (m * s) = m * s := IntWalk.i64_in _ (by have := hbd.1; have := bnd_le hbd; omega)
            have hadd : IntKind.i64.wrap ((k : Int) + 1) = (k : Int) + 1 := IntWalk.i64_in _ (by omega)
            have HIC : Bx (∀ g cap W, IR W (some ⟨b, o, none⟩) PL → IR W AO OL → IR W (some ⟨g, 0, none⟩) (P ++ [p]) →
                Calls Try.prog 20 #[.slice (some ⟨b, o, none⟩) PL.length cP, .slice AO OL.length cO, .int .i64 ((k : Int) + 1), .slice (some ⟨g, 0, none⟩) (P.length + 1) cap, .int .i64 (m * s)] W fun e w' => e = .returned (.bool bR) ∧ Below W.heap.size W w') := ⟨fun g cap W h1 h2 h3 => by
              have := HI.out (t - (k + 1 - i)) (k + 1) (some ⟨b, o, none⟩) AO cP cO g 0 cap (P ++ [p]) (m * s) W (by omega) (by omega) hbd (by simp; omega) h1 h2 h3
              rw [show ((k + 1 : Nat) : Int) = (k : Int) + 1 by omega, ← hbR, show (P ++ [p]).length = P.length + 1 by simp] at this
              exact this⟩
            clear hbR HLA hbd
            go_wp2_with fail
            refine (specPrimeOf_any _ _).mono ?_
            rw [← hp]
            rintro e w2 ⟨rfl, rfl⟩
            clear hp
            go_wp2_with fail
            refine (l02Has_any _ _ _ _ _ (by exact HQ.out)).mono ?_
            rw [hv]
            rintro e w2 ⟨rfl, rfl⟩
            clear hv
            go_upto_region 8 with (fail)
            go_cut [53] (fun sv wx => sv = .bool (!bR) ∧ Bx (Below wr.heap.size wr wx))
            case first =>
              have hB0 : Bx (Below wr.heap.size wr wr) := ⟨Below.refl _ _⟩
              have hBd : Bx (Below wr.heap.size wr wr.drew) := ⟨(Below.refl _ _).drew⟩
              have c1d : wr.drew.cell? _ = _ := c1
              go_region_held3 (fun w' => w'.cell? ⟨b, o + k, none⟩ = some (.int .i64 s) ∧ Bx (Below wr.heap.size wr w'))
                ((refine (fun (hK : Bx (Below wr.heap.size wr _)) => ⟨((bcell hK.out).1 _ _ hbk).trans c1, hK⟩) ?_; first | assumption | exact bx_alloc (by assumption) _ | exact bx_alloc (bx_alloc (by assumption) _) _ | exact bx_drew (by assumption)))
                (first
                  | (go_at_call 20; refine (HIC.out g2 cap2 _ (HPW.out.below hBw4.out) (HOW.out.below hBw4.out) HIO4.out.reads).mono ?_; rintro e w5 ⟨rfl, b5⟩; have hBw5 : Bx (Below wr.heap.size wr w5) := bx_to hBw4 b5)
                  | (refine step_appS (by rfl) _ _ (by rfl) wr.heap.size (.slice (some ⟨g1, 0, none⟩) ([] ++ P).length cap1) ([] ++ P) (by rfl) (by (try refine Row.undrew ?_); first | exact hrow1 | exact hrow1.alloc _) _ 0 1 [p] (by rfl) (ir_one (by (try refine blk_undrew ?_); first | exact HEA.out | exact HEB.out | (refine blk_eq ?_; focus (simp; done)) | (refine Blk.alloc (blk_eq ?_) _; focus (simp; done)) | (refine Blk.alloc (Blk.alloc (blk_eq ?_) _) _; focus (simp; done)))) (by simp; omega) (by first | omega | (simp; done) | (simp; omega)) (by simp) ?_; intro g2 cap2 w4 hrow2 hgr2; have hbl1 : wr.heap.size ≤ g1 := hrow1.base_le; have hBw4 : Bx (Below wr.heap.size wr w4) := bx_grown (by first | assumption | exact bx_alloc (by assumption) _ | exact bx_alloc (bx_alloc (by assumption) _) _ | exact bx_alloc (bx_alloc (bx_alloc (by assumption) _) _) _) hgr2 (by intro k hk; simp [Value.ownBlock] at hk; omega); have HIO4 := Bx.mk (hrow2.io' rfl (by simp; omega)); clear hrow2)
                  | (refine step_appS (by rfl) _ _ (by rfl) wr.heap.size _ [] (by rfl) (row_blk (by (try refine blk_undrew ?_); first | (refine blk_eq ?_; focus (simp; done)) | (refine Blk.alloc (blk_eq ?_) _; focus (simp; done)) | (refine Blk.alloc (Blk.alloc (blk_eq ?_) _) _; focus (simp; done))) (by first | omega | (simp; done) | (simp; omega))) bq oq cQ P (by rfl) (HQ.out.below (Bx.out (by first | assumption | exact bx_alloc (by assumption) _ | exact bx_alloc (bx_alloc (by assumption) _) _ | exact bx_alloc (bx_alloc (bx_alloc (by assumption) _) _) _))) (by simp; omega) (by first | omega | (simp; done) | (simp; omega)) (by simp) ?_; intro g1 cap1 w3 hrow1 hgr1; have hBw3 : Bx (Below wr.heap.size wr w3) := bx_grown (by first | assumption | exact bx_alloc (by assumption) _ | exact bx_alloc (bx_alloc (by assumption) _) _ | exact bx_alloc (bx_alloc (bx_alloc (by assumption) _) _) _) hgr1 (by intro k hk; simp [Value.ownBlock] at hk; omega); have hzw3 := bx_size hBw3; (try (refine (fun (heA : Blk w3 (wr.heap.size) 3 #[.int .i64 p]) => ?_) (blk_grown ?_ hgr1 ?_); rotate_left 1; ((try refine blk_undrew ?_); first | (refine blk_eq ?_; focus (simp; done)) | (refine Blk.alloc (blk_eq ?_) _; focus (simp; done)) | (refine Blk.alloc (Blk.alloc (blk_eq ?_) _) _; focus (simp; done))); (first | focus (simp [Value.ownBlock]; done) | focus (simp [Value.ownBlock]; omega)); refine (fun (HEA : Bx (Blk w3 (wr.heap.size) 3 #[.int .i64 p])) => ?_) ⟨heA⟩; clear heA)); (try (refine (fun (heB : Blk w3 (wr.heap.size + 1) 3 #[.int .i64 p]) => ?_) (blk_grown ?_ hgr1 ?_); rotate_left 1; ((try refine blk_undrew ?_); first | (refine blk_eq ?_; focus (simp; done)) | (refine Blk.alloc (blk_eq ?_) _; focus (simp; done)) | (refine Blk.alloc (Blk.alloc (blk_eq ?_) _) _; focus (simp; done))); (first | focus (simp [Value.ownBlock]; done) | focus (simp [Value.ownBlock]; omega)); refine (fun (HEB : Bx (Blk w3 (wr.heap.size + 1) 3 #[.int .i64 p])) => ?_) ⟨heB⟩; clear heB))))
              all_goals (go_wp2_with fail; go_meet)
              all_goals exact ⟨rfl, hBw5⟩
            case rest =>
              obtain ⟨rfl, HBX⟩ := hcut
              cases bR with
              | true =>
                have HN : Bx (lLoop (hM OL) (PL.drop i) P m = lLoop (hM OL) (PL.drop (k + 1)) P m) := ⟨by rw [HL.out, HLB.out]; simp⟩
                have HBF := Bx.mk (HBW.out.trans (HBX.out.mono hzr))
                go_wp2_with fail
                go_roundw
                case rel => exact ⟨k + 1, by omega, by omega, by go_num, HN, HBF.out⟩
                case measure => simp [intOf]; omega
              | false =>
                have HR : Bx ((hM OL m && lLoop (hM OL) (PL.drop i) P m) = false) := ⟨by rw [HL.out, HLB.out]; simp⟩
                have HBF := Bx.mk (HBW.out.trans (HBX.out.mono hzr))
                go_wp2_with fail
                go_ret
                exact ⟨ret_bool HR.out.symm, HBF.out⟩
        · have hkl : k = PL.length := by omega
          have HR : Bx ((hM OL m && lLoop (hM OL) (PL.drop i) P m) = true) := ⟨by rw [HM.out, HL.out, hkl, List.drop_length]; rfl⟩
          clear hkl
          go_wp2_with fail
          go_ret
          exact ⟨ret_bool HR.out.symm, hbw⟩
end Go.Proofs.Ytckgpkkflfhfpaa
