/- The different numbers of a list in ascending order: the reference's insertion. -/
import Derived.Test.YtihbgpcmphemmaaInsPlain
import Derived.Test.YtihbgpcmphemmaaDiv
import Derived.Test.YtihbgpcmphemmaaBas
namespace Go.Proofs.Ytihbgpcmphemmaa
open Go.RowKit

theorem Row.lower {w : World} {base base' : Nat} {v : Value} {xs : List Int} (h : Row w base v xs) (hb : base' ≤ base) : Row w base' v xs := by
  refine ⟨h.1, ?_⟩
  rcases h.2 with h' | ⟨g, cap, cur, e, hg, r⟩
  · exact .inl h'
  · exact .inr ⟨g, cap, cur, e, Nat.le_trans hb hg, r⟩
theorem IR.takeN {w : World} {A : Option Addr} {ys : List Int} (h : IR w A ys) (k : Nat) : IR w A (ys.take k) := by
  refine ⟨by have := h.1; rw [List.length_take]; omega, fun h0 => ?_⟩
  rw [List.length_take] at h0
  obtain ⟨b, o, e, hb, hc⟩ := h.2 (by omega)
  refine ⟨b, o, e, hb, fun i hi => ?_⟩
  rw [List.length_take] at hi
  rw [hc i (by omega), List.getElem?_take_of_lt (by omega)]
theorem IR.dropN {w : World} {b p : Nat} {ys : List Int} (h : IR w (some ⟨b, p, none⟩) ys) (k : Nat) : IR w (some ⟨b, p + k, none⟩) (ys.drop k) := by
  refine ⟨by have := h.1; rw [List.length_drop]; omega, fun h0 => ?_⟩
  rw [List.length_drop] at h0
  obtain ⟨b', o, e, hb, hc⟩ := h.2 (by omega)
  injection e with e; injection e with e1 e2
  subst e1 e2
  refine ⟨b, p + k, rfl, hb, fun i hi => ?_⟩
  rw [List.length_drop] at hi
  rw [Nat.add_assoc, hc (k + i) (by omega), List.getElem?_drop]
theorem Row.some_ {w : World} {base : Nat} {v : Value} {xs : List Int} (h : Row w base v xs) (h0 : 0 < xs.length) : ∃ g c, v = .slice (some ⟨g, 0, none⟩) xs.length c := by
  rcases h.2 with ⟨e, hn⟩ | ⟨g, cap, cur, e, _⟩
  · omega
  · exact ⟨g, _, e⟩
theorem wpList_appR {ops : Array Oper} {rest : List Oper} {o : Oper} {a : Act} {Q : Exit → Act → World → Prop} {w : World} (hgd : o.guard = none) (s x : Operand)
    (ho : o.op = .call { callee := .builtin .append, args := #[s, x], argTypes := #[24, 24] })
    (base : Nat) (v : Value) (xs : List Int) (hs : a.eval s = v) (b p c : Nat) (ys : List Int) (hx : a.eval x = .slice (some ⟨b, p, none⟩) ys.length c) (hown : Row w base v xs) (hv : v ≠ .slice none 0 0) (hy : IR w (some ⟨b, p, none⟩) ys) (hl : xs.length + ys.length ≤ 1000000000) (hbase : base ≤ w.heap.size)
    (h : ∀ g c' w', Row w' base (.slice (some ⟨g, 0, none⟩) (xs.length + ys.length) c') (xs ++ ys) → Below base w w' → wpList Try.prog ops Q rest (a.put o.dst (.slice (some ⟨g, 0, none⟩) (xs.length + ys.length) c')) w') :
    wpList Try.prog ops Q (o :: rest) a w := by
  obtain ⟨i0, hi0, hz0, hz1, hz2⟩ := info_parts info_int
  refine wpList_append_own _ hgd s x 24 ho base 3 i0 (.int .i64 0) 1 8 Try.underlying24 hi0 hz0 hz1 hz2 rfl (by decide) v xs.length (ints xs) hs hown
    ⟨b, p, none⟩ ys.length c (ints ys) hx (by simp [ints]) ?_ ?_ (by unfold maxLen; omega) (by omega) hbase ?_
  · intro j u hj
    have hjl : j < ys.length := by
      have := (List.getElem?_eq_some_iff.1 hj).1
      simpa [ints] using this
    obtain ⟨b', o', e, _, hc⟩ := hy.at_ (by omega)
    injection e with e; injection e with e1 e2
    subst e1 e2
    have hadd : (⟨b, p, none⟩ : Addr).add j = ⟨b, p + j, none⟩ := by unfold Addr.add; split <;> simp_all
    rw [hadd, hc j hjl]
    simp [ints, hjl] at hj
    rw [← hj, List.getElem?_eq_getElem hjl]; rfl
  · intro u hu
    simp [ints] at hu
    obtain ⟨z, _, rfl⟩ := hu
    rfl
  · intro v' w' h1 h2 h3
    have hR : Row w' base v' (xs ++ ys) := by
      unfold Row
      rw [List.length_append, show ints (xs ++ ys) = ints xs ++ ints ys by simp [ints]]
      exact h1
    have hB : Below base w w' := ⟨h2.os, h2.tape, h2.output, h2.size, fun k hk => h2.block k (by omega) (fun e => by
      rcases hown.2 with ⟨e1, _⟩ | ⟨g, cap, cur, e1, hg', _⟩
      · exact hv e1
      · rw [e1] at e; simp [Value.ownBlock] at e; omega)⟩
    have hn : v' ≠ .slice none 0 0 := fun e => hv (h3.1 e).1
    have hA : ∃ g c', v' = .slice (some ⟨g, 0, none⟩) (xs.length + ys.length) c' := by
      rcases hR.2 with ⟨e1, _⟩ | ⟨g, cap, cur, e1, _⟩
      · exact absurd e1 hn
      · rw [List.length_append] at e1; exact ⟨g, cap, e1⟩
    obtain ⟨g, c', rfl⟩ := hA
    exact h g c' w' hR hB
set_option maxHeartbeats 2000000 in
set_option maxRecDepth 20000 in
theorem l03Sizes_any (A : Option Addr) (c : Nat) (xs : List Int) (w : World) (hl : xs.length ≤ 1000) (hbd : ∀ x ∈ xs, -1000000 ≤ x ∧ x ≤ 1000000) (hx : IR w A xs) :
    Calls Try.prog 76 #[.slice A xs.length c] w (GivesInts w (coll xs)) := by
  have HRW := Bx.mk (Row.empty w w.heap.size (Nat.le_refl _))
  have HX := Bx.mk ((RB.of_ir hx).below (below_alloc w (.cells #[] 3)) (Nat.le_refl _))
  obtain ⟨W0, hW0⟩ : ∃ W0, W0 = w.alloc (.cells #[] 3) := ⟨_, rfl⟩
  have bw : Below w.heap.size w W0 := by rw [hW0]; exact below_alloc _ _
  rw [← hW0] at HRW HX
  obtain ⟨B, hB⟩ : ∃ B, B = w.heap.size := ⟨_, rfl⟩
  have HBD := Bx.mk hbd
  clear hx hbd
  go_enter Try.func76, Try.ntmps76
  go_wp2_with fail
  rw [← hW0, ← hB]
  have hBW : B ≤ W0.heap.size := by rw [hB]; exact bw.size
  rw [← hB] at HRW HX bw
  have HBw := Bx.mk hB
  have hWs := bw.size
  clear hW0 hB
  go_loopw [3, 11] (fun v i wr => ∃ (j g cc : Nat) (ys : List Int), j ≤ xs.length ∧ v = .slice (some ⟨g, 0, none⟩) ys.length cc ∧ i = .int .i64 j ∧ Bx (ys = coll (xs.take j)) ∧ Row wr B (.slice (some ⟨g, 0, none⟩) ys.length cc) ys ∧ Below B W0 wr) (fun _ i _ => xs.length - (intOf i).toNat)
  case atStart => exact ⟨0, B, 0, [], by omega, rfl, rfl, ⟨by rw [List.take_zero]; exact (List.eq_nil_of_length_eq_zero (Nat.le_zero.1 (coll_len []))).symm⟩, HRW.out, Below.refl _ _⟩
  case round =>
    obtain ⟨j, g, cc, ys, hj, rfl, rfl, HY, hrow, hbb⟩ := hrel
    have hyl : ys.length ≤ 1000 := by
      have := coll_len (xs.take j)
      rw [← HY.out, List.length_take] at this
      omega
    obtain ⟨A9, c9, e9, io⟩ := hrow.io (by omega)
    injection e9 with e91 e92 e93
    subst e91 e93
    have hmc : ys.length ≤ cc := io.1
    have hzr := hbb.size
    have hBr : B ≤ wr.heap.size := by omega
    have HIR := Bx.mk io.reads
    have HCY : Bx (∀ k, k < ys.length → wr.cell? ⟨g, k, none⟩ = some (.int .i64 (ys[k]?.getD 0))) := ⟨fun k hk => by
      obtain ⟨x, hx1, hx2⟩ := io.cellAt hk
      rw [hx1, hx2.out]; rfl⟩
    have HO := Bx.mk hrow
    have HB := Bx.mk hbb
    have HXr := Bx.mk (HX.out.below hbb (Nat.le_refl _))
    have hgl : g < wr.heap.size := io.ltAt
    clear hrow hbb io
    by_cases hlt : j < xs.length
    · obtain ⟨bx, ox, eA, hbk, hc⟩ := HXr.out.ir.at_ (by omega)
      subst eA
      have cj := hc j hlt
      have hji : (j : Int) < (xs.length : Int) := by omega
      obtain ⟨x, hxe⟩ : ∃ x, x = xs[j]?.getD 0 := ⟨_, rfl⟩
      have hxb : -1000000 ≤ x ∧ x ≤ 1000000 := by
        rw [hxe, List.getElem?_eq_getElem hlt]; exact HBD.out _ (List.getElem_mem hlt)
      rw [← hxe] at cj
      have HNX : Bx (coll (xs.take (j + 1)) = coll (xs.take j ++ [x])) := ⟨by rw [coll_take_succ hlt, ← hxe]⟩
      clear hc hxe
      go_wp2_with fail
      go_loopw [6] (fun v w9 => ∃ k : Nat, k ≤ ys.length ∧ v = .int .i64 k ∧ w9 = wr ∧ Bx (∀ i, i < k → ys[i]?.getD 0 < x)) (fun v _ => ys.length - (intOf v).toNat)
      case atStart => exact ⟨0, by omega, rfl, rfl, ⟨fun i hi => by omega⟩⟩
      case round =>
        obtain ⟨k, hk, rfl, rfl, HK⟩ := hrel
        by_cases hkl : k < ys.length
        · have hki : (k : Int) < (ys.length : Int) := by omega
          have cy := HCY.out k hkl
          obtain ⟨y, hye⟩ : ∃ y, y = ys[k]?.getD 0 := ⟨_, rfl⟩
          rw [← hye] at cy
          by_cases hyx : y < x
          · have HK2 : Bx (∀ i, i < k + 1 → ys[i]?.getD 0 < x) := ⟨fun i hi => by
              by_cases e : i = k
              · rw [e, ← hye]; exact hyx
              · exact HK.out i (by omega)⟩
            clear hye
            go_wp2_with fail
            go_roundw
            case rel => exact ⟨k + 1, by omega, by go_num, by first | rfl | trivial, HK2⟩
            case measure => simp [intOf]; omega
          · by_cases hyeq : y = x
            · have HN : Bx (ys = coll (xs.take (j + 1))) := ⟨by rw [HNX.out, ins_old (k := k) (by rw [← HY.out]; exact hkl) (by rw [← HY.out, ← hye, hyeq]), HY.out]⟩
              have hne : (y != x) = false := by simp [hyeq]
              have hneb : ¬ (k : Int) = (ys.length : Int) := by omega
              clear hye hyeq
              go_wp2_with fail
              go_roundw
              case rel => exact ⟨j + 1, g, cc, ys, by omega, rfl, by go_num, HN, HO.out, HB.out⟩
              case measure => simp [intOf]; omega
            · have HN : Bx (coll (xs.take (j + 1)) = ys.take k ++ [x] ++ ys.drop k) := ⟨by
                rw [HNX.out, ins_new (k := k) (by rw [← HY.out]; omega) (fun i hi => by rw [← HY.out]; exact HK.out i hi) (fun _ => by rw [← HY.out, ← hye]; omega), HY.out]⟩
              have hne : (y != x) = true := by simp [hyeq]
              have hneb : ¬ (k : Int) = (ys.length : Int) := by omega
              clear hye hyeq
              obtain ⟨ts, hts⟩ : ∃ ts, ts = ys.take k := ⟨_, rfl⟩
              obtain ⟨ds, hds⟩ : ∃ ds, ds = ys.drop k := ⟨_, rfl⟩
              have htl : ts.length = k := by rw [hts, List.length_take]; omega
              have hdl : ds.length = ys.length - k := by rw [hds, List.length_drop]
              have HIT : Bx (IR (wr.alloc (.cells #[] 3)) (some ⟨g, 0, none⟩) ts) := ⟨by rw [hts]; exact (HIR.out.takeN k).alloc _⟩
              have HID : Bx (IR wr (some ⟨g, 0 + k, none⟩) ds) := ⟨by rw [hds]; exact HIR.out.dropN k⟩
              rw [Nat.zero_add] at HID
              rw [← hts, ← hds] at HN
              have HTL := Bx.mk htl
              have HDL := Bx.mk hdl
              have HLIT := Bx.mk (Row.empty wr wr.heap.size (Nat.le_refl _))
              have htk : ts.length ≤ 1000 := by omega
              have hdk : ds.length ≤ 1000 := by omega
              have hkc : k ≤ cc := by omega
              clear hts hds htl hdl HK HNX
              try clear hke
              go_wp2_with (first
                | (at_builtin; have hq := HR2; clear hq; go_must (refine wpList_appR rfl _ _ rfl wr.heap.size (.slice (some ⟨g2, 0, none⟩) (ts.length + 1) c2) (ts ++ [x]) rfl g k (cc - k) ds (by rw [HDL.out] <;> rfl) (by exact HR2.out) (by simp) (by exact HID2.out) (by omega) (by exact hz2) ?_); intro g3 c3 w3 r3 b3; have HR3 := Bx.mk r3; have HB3 := Bx.mk (HB2.out.trans b3); clear r3 b3)
                | (at_builtin; have hq := HR1; clear hq; go_must (refine wpList_app1 rfl _ _ rfl wr.heap.size _ ts x rfl rfl (by exact HR1.out) (by omega) (by exact hz1) ?_); intro v2 w2 r2 b2; obtain ⟨g2, c2, rfl⟩ := r2.some_ (by simp); rw [List.length_append, List.length_singleton] at r2; have HR2 := Bx.mk r2; have HB2 := Bx.mk (HB1.out.trans b2); have hz2 := HB2.out.size; have HID2 := Bx.mk (HID.out.below HB2.out); have hts1 : (ts ++ [x]).length ≤ 1001 := (by simp; omega); clear r2 b2)
                | (at_builtin; go_must (refine wpList_appR rfl _ _ rfl wr.heap.size (.slice (some ⟨wr.heap.size, 0, none⟩) 0 0) [] rfl g 0 cc ts (by rw [HTL.out] <;> rfl) (by exact HLIT.out) (by simp) (by exact HIT.out) (by simp; omega) (by simp) ?_); intro g1 c1 w1 r1 b1; simp only [List.nil_append, List.length_nil, Nat.zero_add] at r1 ⊢; have HR1 := Bx.mk r1; have HB1 := Bx.mk ((below_alloc wr (.cells #[] 3)).trans b1); have hz1 := HB1.out.size; clear r1 b1))
              go_roundw
              case rel => exact ⟨j + 1, g3, c3, ts ++ [x] ++ ds, by omega, by rw [show (ts ++ [x] ++ ds).length = ts.length + 1 + ds.length from (by simp; omega)], by go_num, ⟨HN.out.symm⟩, by have := HR3.out.lower hBr; rw [← List.length_append] at this; exact this, HB.out.trans (HB3.out.mono hBr)⟩
              case measure => simp [intOf]; omega
        · have hke : k = ys.length := by omega
          have HN : Bx (coll (xs.take (j + 1)) = ys.take k ++ [x] ++ ys.drop k) := ⟨by
            rw [HNX.out, ins_new (k := k) (by rw [← HY.out]; omega) (fun i hi => by rw [← HY.out]; exact HK.out i hi) (fun h => by rw [← HY.out] at h; omega), HY.out]⟩
          have hki : ¬ (k : Int) < (ys.length : Int) := by omega
          have hkq : ((k : Int) == (ys.length : Int)) = true := by simp; omega
          clear hkl
          by_cases hkcc : k < cc
          · obtain ⟨ts, hts⟩ : ∃ ts, ts = ys.take k := ⟨_, rfl⟩
            obtain ⟨ds, hds⟩ : ∃ ds, ds = ys.drop k := ⟨_, rfl⟩
            have htl : ts.length = k := by rw [hts, List.length_take]; omega
            have hdl : ds.length = ys.length - k := by rw [hds, List.length_drop]
            have HIT : Bx (IR (wr.alloc (.cells #[] 3)) (some ⟨g, 0, none⟩) ts) := ⟨by rw [hts]; exact (HIR.out.takeN k).alloc _⟩
            have HID : Bx (IR wr (some ⟨g, 0 + k, none⟩) ds) := ⟨by rw [hds]; exact HIR.out.dropN k⟩
            rw [Nat.zero_add] at HID
            rw [← hts, ← hds] at HN
            have HTL := Bx.mk htl
            have HDL := Bx.mk hdl
            have HLIT := Bx.mk (Row.empty wr wr.heap.size (Nat.le_refl _))
            have htk : ts.length ≤ 1000 := by omega
            have hdk : ds.length ≤ 1000 := by omega
            have hkc : k ≤ cc := by omega
            clear hts hds htl hdl HK HNX
            try clear hke
            go_wp2_with (first
              | (at_builtin; have hq := HR2; clear hq; go_must (refine wpList_appR rfl _ _ rfl wr.heap.size (.slice (some ⟨g2, 0, none⟩) (ts.length + 1) c2) (ts ++ [x]) rfl g k (cc - k) ds (by rw [HDL.out] <;> rfl) (by exact HR2.out) (by simp) (by exact HID2.out) (by omega) (by exact hz2) ?_); intro g3 c3 w3 r3 b3; have HR3 := Bx.mk r3; have HB3 := Bx.mk (HB2.out.trans b3); clear r3 b3)
              | (at_builtin; have hq := HR1; clear hq; go_must (refine wpList_app1 rfl _ _ rfl wr.heap.size _ ts x rfl rfl (by exact HR1.out) (by omega) (by exact hz1) ?_); intro v2 w2 r2 b2; obtain ⟨g2, c2, rfl⟩ := r2.some_ (by simp); rw [List.length_append, List.length_singleton] at r2; have HR2 := Bx.mk r2; have HB2 := Bx.mk (HB1.out.trans b2); have hz2 := HB2.out.size; have HID2 := Bx.mk (HID.out.below HB2.out); have hts1 : (ts ++ [x]).length ≤ 1001 := (by simp; omega); clear r2 b2)
              | (at_builtin; go_must (refine wpList_appR rfl _ _ rfl wr.heap.size (.slice (some ⟨wr.heap.size, 0, none⟩) 0 0) [] rfl g 0 cc ts (by rw [HTL.out] <;> rfl) (by exact HLIT.out) (by simp) (by exact HIT.out) (by simp; omega) (by simp) ?_); intro g1 c1 w1 r1 b1; simp only [List.nil_append, List.length_nil, Nat.zero_add] at r1 ⊢; have HR1 := Bx.mk r1; have HB1 := Bx.mk ((below_alloc wr (.cells #[] 3)).trans b1); have hz1 := HB1.out.size; clear r1 b1))
            go_roundw
            case rel => exact ⟨j + 1, g3, c3, ts ++ [x] ++ ds, by omega, by rw [show (ts ++ [x] ++ ds).length = ts.length + 1 + ds.length from (by simp; omega)], by go_num, ⟨HN.out.symm⟩, by have := HR3.out.lower hBr; rw [← List.length_append] at this; exact this, HB.out.trans (HB3.out.mono hBr)⟩
            case measure => simp [intOf]; omega
          · have hcck : k = cc := by omega
            subst hcck
            clear hkcc
            obtain ⟨ts, hts⟩ : ∃ ts, ts = ys.take k := ⟨_, rfl⟩
            obtain ⟨ds, hds⟩ : ∃ ds, ds = ys.drop k := ⟨_, rfl⟩
            have htl : ts.length = k := by rw [hts, List.length_take]; omega
            have hdl : ds.length = 0 := by rw [hds, List.length_drop]; omega
            have HIT : Bx (IR (wr.alloc (.cells #[] 3)) (some ⟨g, 0, none⟩) ts) := ⟨by rw [hts]; exact (HIR.out.takeN k).alloc _⟩
            have HID : Bx (IR wr (some ⟨g, 0, none⟩) ds) := ⟨by rw [hds, List.drop_eq_nil_of_le (by omega)]; exact IR.nil _ _⟩
            rw [← hts, ← hds] at HN
            have HTL := Bx.mk htl
            have HDL := Bx.mk hdl
            have HLIT := Bx.mk (Row.empty wr wr.heap.size (Nat.le_refl _))
            have htk : ts.length ≤ 1000 := by omega
            have hdk : ds.length ≤ 1000 := by omega
            clear hts hds htl hdl HK HNX
            try clear hke
            go_wp2_with (first
              | (at_builtin; have hq := HR2; clear hq; go_must (refine wpList_appR rfl _ _ rfl wr.heap.size (.slice (some ⟨g2, 0, none⟩) (ts.length + 1) c2) (ts ++ [x]) rfl g 0 0 ds (by rw [HDL.out] <;> rfl) (by exact HR2.out) (by simp) (by exact HID2.out) (by omega) (by exact hz2) ?_); intro g3 c3 w3 r3 b3; have HR3 := Bx.mk r3; have HB3 := Bx.mk (HB2.out.trans b3); clear r3 b3)
              | (at_builtin; have hq := HR1; clear hq; go_must (refine wpList_app1 rfl _ _ rfl wr.heap.size _ ts x rfl rfl (by exact HR1.out) (by omega) (by exact hz1) ?_); intro v2 w2 r2 b2; obtain ⟨g2, c2, rfl⟩ := r2.some_ (by simp); rw [List.length_append, List.length_singleton] at r2; have HR2 := Bx.mk r2; have HB2 := Bx.mk (HB1.out.trans b2); have hz2 := HB2.out.size; have HID2 := Bx.mk (HID.out.below HB2.out); have hts1 : (ts ++ [x]).length ≤ 1001 := (by simp; omega); clear r2 b2)
              | (at_builtin; go_must (refine wpList_appR rfl _ _ rfl wr.heap.size (.slice (some ⟨wr.heap.size, 0, none⟩) 0 0) [] rfl g 0 k ts (by rw [HTL.out] <;> rfl) (by exact HLIT.out) (by simp) (by exact HIT.out) (by simp; omega) (by simp) ?_); intro g1 c1 w1 r1 b1; simp only [List.nil_append, List.length_nil, Nat.zero_add] at r1 ⊢; have HR1 := Bx.mk r1; have HB1 := Bx.mk ((below_alloc wr (.cells #[] 3)).trans b1); have hz1 := HB1.out.size; clear r1 b1))
            go_roundw
            case rel => exact ⟨j + 1, g3, c3, ts ++ [x] ++ ds, by omega, by rw [show (ts ++ [x] ++ ds).length = ts.length + 1 + ds.length from (by simp; omega)], by go_num, ⟨HN.out.symm⟩, by have := HR3.out.lower hBr; rw [← List.length_append] at this; exact this, HB.out.trans (HB3.out.mono hBr)⟩
            case measure => simp [intOf]; omega
    · have hjx : j = xs.length := by omega
      have HR : Bx (coll xs = ys) := ⟨by rw [HY.out, hjx, List.take_length]⟩
      have HF := HB.out
      have HBF : Bx (Below w.heap.size w wr) := ⟨by have := bw.trans (HF.mono (Nat.le_refl _)); rw [HBw.out] at this; exact this⟩
      have HIO : Bx (IO wr w.heap.size (some ⟨g, 0, none⟩) cc ys) := ⟨by
        obtain ⟨A9, c9, e9, io⟩ := HO.out.io (by omega)
        injection e9 with e91 e92 e93
        subst e91 e93
        rw [HBw.out] at io
        exact io⟩
      clear hjx HF
      go_wp2_with fail
      go_ret
      rw [HR.out]
      exact ⟨_, cc, rfl, HIO.out, HBF.out⟩
end Go.Proofs.Ytihbgpcmphemmaa
