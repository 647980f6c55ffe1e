/- Division of polynomials. -/
import Derived.Test.YtbgfhbaaacmndaaDivPlain
import Derived.Test.YtbgfhbaaacmndaaPolyOf
import Derived.Test.YtbgfhbaaacmndaaBas
namespace Go.Proofs.Ytbgfhbaaacmndaa
open Go.RowKit

theorem IO.cellAt {w : World} {base c g k : Nat} {xs : List Int} (h : IO w base (some ⟨g, 0, none⟩) c xs) (hk : k < xs.length) : ∃ x, w.cell? ⟨g, k, none⟩ = some (.int .i64 x) ∧ Bx (xs[k]? = some x) := by
  obtain ⟨b, o, e, _, hc⟩ := h.reads.at_ (by omega)
  injection e with e; injection e with e1 e2
  subst e1 e2
  have := hc k hk
  rw [Nat.zero_add] at this
  exact ⟨xs[k], by rw [this, List.getElem?_eq_getElem hk]; rfl, ⟨List.getElem?_eq_getElem hk⟩⟩
theorem IO.blkAt {w : World} {base c g : Nat} {xs : List Int} (h : IO w base (some ⟨g, 0, none⟩) c xs) : base ≤ g ∧ ∃ cur, Blk w g 3 cur ∧ c ≤ cur.size ∧ cur.toList.take xs.length = ints xs := by
  rcases h.2.2 with ⟨e, _⟩ | ⟨g', cur, e, hg, hh, hs, ht⟩
  · cases e
  · injection e with e; injection e with e1 e2
    subst e1
    exact ⟨hg, cur, hh, hs, ht⟩
theorem IO.frozenAt {w : World} {base c g : Nat} {xs : List Int} (h : IO w base (some ⟨g, 0, none⟩) c xs) (k : Nat) : w.frozen? ⟨g, k, none⟩ = false := by
  obtain ⟨_, cur, hh, _⟩ := h.blkAt
  exact Blk.frozen hh k
theorem IO.ltAt {w : World} {base c g : Nat} {xs : List Int} (h : IO w base (some ⟨g, 0, none⟩) c xs) : g < w.heap.size := by
  obtain ⟨_, cur, hh, _⟩ := h.blkAt
  exact hh.lt
theorem IO.setAt {w : World} {base c g k : Nat} {xs : List Int} (h : IO w base (some ⟨g, 0, none⟩) c xs) (x : Int) (_hk : k < xs.length) : IO (w.setCell ⟨g, k, none⟩ (.int .i64 x)) base (some ⟨g, 0, none⟩) c (xs.set k x) := by
  obtain ⟨hg, cur, hh, hs, ht⟩ := h.blkAt
  refine ⟨by rw [List.length_set]; exact h.1, by rw [List.length_set]; exact h.2.1, .inr ⟨g, _, rfl, hg, hh.set k _, by simpa using hs, ?_⟩⟩
  rw [List.length_set, Array.toList_setIfInBounds, List.take_set, ht]
  simp [ints, List.map_set]
theorem io_offAt {w : World} {base c g g' i : Nat} {xs : List Int} {v : Value} (h : IO w base (some ⟨g, 0, none⟩) c xs) (hne : g ≠ g') : IO (w.setCell ⟨g', i, none⟩ v) base (some ⟨g, 0, none⟩) c xs := by
  obtain ⟨hg, cur, hh, hs, ht⟩ := h.blkAt
  exact ⟨h.1, h.2.1, .inr ⟨g, cur, rfl, hg, (Below.heap_setCell w ⟨g', i, none⟩ v g (by intro e; simp at e; omega)).trans hh, hs, ht⟩⟩
theorem wpList_appS {ops : Array Oper} {rest : List Oper} {o : Oper} {a : Act} {Q : Exit → Act → World → Prop} {w : World} (hgd : o.guard = none) (s x : Operand)
    (ho : o.op = .call { callee := .builtin .append, args := #[s, x], argTypes := #[22, 22] })
    (base : Nat) (v : Value) (xs : List Int) (hs : a.eval s = v) (b p c : Nat) (ys : List Int) (hx : a.eval x = .slice (some ⟨b, p, none⟩) ys.length c) (hown : Row w base v xs) (hv : v ≠ .slice none 0 0) (hy : IR w (some ⟨b, p, none⟩) ys) (hl : xs.length + ys.length ≤ 1000000000) (hbase : base ≤ w.heap.size)
    (h : ∀ g c' w', IO w' base (some ⟨g, 0, none⟩) c' (xs ++ ys) → Below base w w' → wpList Try.prog ops Q rest (a.put o.dst (.slice (some ⟨g, 0, none⟩) (xs.length + ys.length) c')) w') :
    wpList Try.prog ops Q (o :: rest) a w := by
  obtain ⟨i0, hi0, hz0, hz1, hz2⟩ := info_parts info_int
  refine wpList_append_own _ hgd s x 22 ho base 3 i0 (.int .i64 0) 1 8 Try.underlying22 hi0 hz0 hz1 hz2 rfl (by decide) v xs.length (ints xs) hs hown
    ⟨b, p, none⟩ ys.length c (ints ys) hx (by simp [ints]) ?_ ?_ (by unfold maxLen; omega) (by omega) hbase ?_
  · intro j u hj
    have hjl : j < ys.length := by
      have := (List.getElem?_eq_some_iff.1 hj).1
      simpa [ints] using this
    obtain ⟨b', o', e, _, hc⟩ := hy.at_ (by omega)
    injection e with e; injection e with e1 e2
    subst e1 e2
    have hadd : (⟨b, p, none⟩ : Addr).add j = ⟨b, p + j, none⟩ := by unfold Addr.add; split <;> simp_all
    rw [hadd, hc j hjl]
    simp [ints, hjl] at hj
    rw [← hj, List.getElem?_eq_getElem hjl]; rfl
  · intro u hu
    simp [ints] at hu
    obtain ⟨z, _, rfl⟩ := hu
    rfl
  · intro v' w' h1 h2 h3
    have hR : Row w' base v' (xs ++ ys) := by
      unfold Row
      rw [List.length_append, show ints (xs ++ ys) = ints xs ++ ints ys by simp [ints]]
      exact h1
    have hB : Below base w w' := ⟨h2.os, h2.tape, h2.output, h2.size, fun k hk => h2.block k (by omega) (fun e => by
      rcases hown.2 with ⟨e1, _⟩ | ⟨g, cap, cur, e1, hg', _⟩
      · exact hv e1
      · rw [e1] at e; simp [Value.ownBlock] at e; omega)⟩
    have hn : v' ≠ .slice none 0 0 := fun e => hv (h3.1 e).1
    obtain ⟨A', c', e, io⟩ := hR.io (by rw [List.length_append]; omega)
    subst e
    have hA : ∃ g, A' = some ⟨g, 0, none⟩ := by
      rcases hR.2 with ⟨e1, _⟩ | ⟨g, cap, cur, e1, _⟩
      · exact absurd e1 hn
      · injection e1 with e1; exact ⟨g, e1⟩
    obtain ⟨g, rfl⟩ := hA
    rw [List.length_append]
    exact h g c' w' io hB
theorem eql_nil (b p n c : Nat) (w : World) : Sem.run Try.prog (binOp BinOp.eql 22 (.slice (some ⟨b, p, none⟩) n c) (.slice none 0 0)) w = .ok (.bool false) w := by kernel_rfl
def GivesII (w : World) (xs ys : List Int) (e : Ending) (w' : World) : Prop := ∃ g c g' c', e = .returned (.tuple #[.slice (some ⟨g, 0, none⟩) xs.length c, .slice (some ⟨g', 0, none⟩) ys.length c']) ∧ IO w' w.heap.size (some ⟨g, 0, none⟩) c xs ∧ IO w' w.heap.size (some ⟨g', 0, none⟩) c' ys ∧ Below w.heap.size w w'
set_option maxHeartbeats 400000 in
theorem clone_some (b p c : Nat) (xs : List Int) (w : World) (hx : IR w (some ⟨b, p, none⟩) xs) (hl : xs.length ≤ 1000000) :
    Calls Try.prog 66 #[.slice (some ⟨b, p, none⟩) xs.length c] w (GivesIS w xs) := by
  have bw := below_alloc w (.cells #[] 3)
  have HX := Bx.mk (hx.below bw)
  have HR := Bx.mk (Row.empty w w.heap.size (Nat.le_refl _))
  clear hx
  have hq := eql_nil b p xs.length c w
  go_enter Try.func66, Try.ntmps66
  go_wp2_with (at_builtin; go_must (refine wpList_appS rfl _ _ rfl w.heap.size (.slice (some ⟨w.heap.size, 0, none⟩) 0 0) [] rfl b p c xs rfl (by exact HR.out) (by simp) (by exact HX.out) (by simp; omega) (by simp) ?_); intro g c' w1 io b1; simp only [List.nil_append, List.length_nil, Nat.zero_add] at io ⊢)
  go_ret
  exact ⟨g, c', rfl, io, bw.trans b1⟩
set_option maxHeartbeats 2000000 in
set_option maxRecDepth 20000 in
theorem divided_any (bA pA cA cB : Nat) (B : Option Addr) (a b : List Int) (W0 : World) (ha : a.length ≤ 1000) (hb1 : 1 ≤ b.length) (hb2 : b.length ≤ 1000) (hA : IR W0 (some ⟨bA, pA, none⟩) a) (hB : IR W0 B b) :
    Calls Try.prog 105 #[.slice (some ⟨bA, pA, none⟩) a.length cA, .slice B b.length cB] W0 (GivesII W0 (quotI a b) (restL a b)) := by
  have HB := Bx.mk hB
  have hmk := make_ints a.length (by omega)
  clear hB
  obtain ⟨la, hla⟩ : ∃ la, la = a.length := ⟨_, rfl⟩
  obtain ⟨n, hn⟩ : ∃ n, n = a.length - b.length := ⟨_, rfl⟩
  have HN0 := Bx.mk hn
  clear hn
  go_enter Try.func105, Try.ntmps105
  go_wp2_with fail
  refine (clone_some _ _ _ _ _ (by exact hA) (by omega)).mono ?_
  rintro e w1 ⟨gR, cR, rfl, io1, b1⟩
  clear hA
  have hgR := io1.ltAt
  have HIO1 := Bx.mk io1
  have hz1 := b1.size
  clear io1
  go_wp2_with fail
  obtain ⟨gQ, hg⟩ : ∃ g, g = w1.heap.size := ⟨_, rfl⟩
  have hH0 : Holds (w1.alloc (.cells (madeCells #[.int .i64 0] a.length) 3)) gQ (qArr a.length b n a 0) := by rw [hg]; exact Holds.made w1 a.length
  have hb0 : Below W0.heap.size W0 (w1.alloc (.cells (madeCells #[.int .i64 0] a.length) 3)) := b1.alloc hz1 _
  have hi0 : IO (w1.alloc (.cells (madeCells #[.int .i64 0] a.length) 3)) W0.heap.size (some ⟨gR, 0, none⟩) cR (dTo b n a 0) := HIO1.out.below (below_alloc _ _) (Nat.le_refl _)
  rw [← hg]
  have hRQ : gR < gQ := by omega
  have hQW : W0.heap.size ≤ gQ := by omega
  have hgRW : W0.heap.size ≤ gR := HIO1.out.ge _ rfl
  generalize hw1 : w1.alloc (.cells (madeCells #[.int .i64 0] a.length) 3) = w2 at *
  clear hw1 hmk hg HIO1 hz1 hgR b1
  go_loopw [8] (fun i wr => ∃ m : Nat, m ≤ steps a b ∧ i = .int .i64 ((a.length : Int) - (b.length : Int) - m) ∧ IO wr W0.heap.size (some ⟨gR, 0, none⟩) cR (dTo b n a m) ∧ Holds wr gQ (qArr a.length b n a m) ∧ Below W0.heap.size W0 wr) (fun i _ => (intOf i + 1).toNat)
  case atStart => exact ⟨0, by omega, by simp, hi0, hH0, hb0⟩
  case round =>
    obtain ⟨m, hm, rfl, hR, hQ, hb⟩ := hrel
    clear hi0 hH0 hb0
    have hst : steps a b = a.length + 1 - b.length := rfl
    by_cases hlt : m < steps a b
    · obtain ⟨ii, hii⟩ : ∃ ii, ii = n - m := ⟨_, rfl⟩
      have hn := HN0.out
      have hi : (a.length : Int) - (b.length : Int) - (m : Int) = (ii : Int) := by omega
      have hil : ii + b.length ≤ a.length := by omega
      have hms : m + 1 ≤ steps a b := hlt
      have him : (ii : Int) - 1 = (a.length : Int) - (b.length : Int) - ((m + 1 : Nat) : Int) := by omega
      have HII := Bx.mk hii
      have HIM := Bx.mk him
      rw [hi]
      clear hn hi hst hlt hm hii him
      obtain ⟨R, hRr⟩ : ∃ R, R = dTo b n a m := ⟨_, rfl⟩
      have HRl : Bx (R.length = a.length) := ⟨by rw [hRr, dTo_len]⟩
      rw [← hRr] at hR
      have HRe := Bx.mk hRr
      clear hRr
      obtain ⟨kx, hkx⟩ : ∃ kx, kx = ii + b.length - 1 := ⟨_, rfl⟩
      obtain ⟨x, cx, Hx⟩ := hR.cellAt (k := kx) (by rw [HRl.out]; omega)
      have hDQ : dq b n a m = x := by unfold dq; rw [← HRe.out, ← HII.out, ← hkx, Hx.out]; rfl
      have HDQ := Bx.mk hDQ
      clear hDQ
      obtain ⟨jb, hjb⟩ : ∃ jb, jb = ii + b.length := ⟨_, rfl⟩
      have hs1 : IntKind.i64.wrap ((ii : Int) + (b.length : Int)) = (jb : Int) := (IntWalk.i64_in _ (by omega)).trans (by omega)
      have hs2 : IntKind.i64.wrap ((jb : Int) - 1) = (kx : Int) := (IntWalk.i64_in _ (by omega)).trans (by omega)
      have hkxl : (kx : Int) < (a.length : Int) := by omega
      have hiil : (ii : Int) < (a.length : Int) := by omega
      obtain ⟨z0, cq, _⟩ := hQ.cell (k := ii) (by rw [qArr_len]; omega)
      have fq := hQ.frozen ii
      have HQS := Bx.mk (hQ.set ii x)
      have hb2 : Below W0.heap.size W0 (wr.setCell ⟨gQ, ii, none⟩ (.int .i64 x)) := hb.setCell (by simp; omega) _
      have HR2 := Bx.mk (io_offAt (i := ii) (v := .int .i64 x) hR (show gR ≠ gQ by omega))
      have HB2 := Bx.mk hb2
      have HQN : Bx (qArr a.length b n a (m + 1) = (qArr a.length b n a m).set ii x) := ⟨by simp only [qArr]; rw [HDQ.out, ← HII.out]⟩
      have HDN : Bx (dTo b n a (m + 1) = dRow b x ii R b.length) := ⟨by
        simp only [dTo]
        rw [← HRe.out, ← HII.out, ← hkx, Hx.out]; rfl⟩
      clear hb2 hb hR hQ hkx hjb
      go_wp2_with fail
      obtain ⟨Q, hQe⟩ : ∃ Q, Q = (qArr a.length b n a m).set ii x := ⟨_, rfl⟩
      have HQe := Bx.mk hQe
      have HQ := HQS.out
      rw [← hQe] at HQ
      have HRR := HR2.out
      have HBB := HB2.out
      generalize wr.setCell ⟨gQ, ii, none⟩ (.int .i64 x) = w3 at *
      clear hQe HQS HR2 HB2 cx cq fq hs1 hs2
      go_loopw [40] (fun i wm => ∃ k : Nat, k ≤ b.length ∧ i = .int .i64 k ∧ IO wm W0.heap.size (some ⟨gR, 0, none⟩) cR (dRow b x ii R k) ∧ Holds wm gQ Q ∧ Below W0.heap.size W0 wm) (fun i _ => b.length - (intOf i).toNat)
      case atStart => exact ⟨0, by omega, rfl, HRR, HQ, HBB⟩
      case round =>
        obtain ⟨k, hkl, rfl, hR, hQ, hb⟩ := hrel
        clear HRR HQ HBB
        by_cases hlt2 : k < b.length
        · obtain ⟨b2, o2, y, eB, hby, c2, H3⟩ := HB.out.one hlt2
          subst eB
          have H4 := Bx.mk H3.out
          clear H3
          have r3 := ((bcell hb).1 _ _ hby).trans c2
          clear c2
          have hkl2 : (k : Int) < b.length := by omega
          obtain ⟨z, cz, Hz⟩ := hR.cellAt (k := ii + k) (by rw [dRow_len, HRl.out]; omega)
          have fz := hR.frozenAt (ii + k)
          obtain ⟨pp, hp⟩ : ∃ pp, IntKind.i64.wrap (x * y) = pp := ⟨_, rfl⟩
          obtain ⟨qq, hq⟩ : ∃ qq, IntKind.i64.wrap (z - pp) = qq := ⟨_, rfl⟩
          have HN : Bx (dRow b x ii R (k + 1) = (dRow b x ii R k).set (ii + k) qq) := ⟨by
            simp only [dRow]
            rw [H4.out]
            simp only [Option.getD_some]
            rw [Hz.out]
            simp only [Option.getD_some]
            rw [← hq, ← hp]; rfl⟩
          have HS := Bx.mk (hR.setAt (k := ii + k) qq (by rw [dRow_len, HRl.out]; omega))
          have HQ2 := Bx.mk (hQ.other (g' := gR) (k := ii + k) (show gQ ≠ gR by omega) (.int .i64 qq))
          have hb' : Below W0.heap.size W0 (wr.setCell ⟨gR, ii + k, none⟩ (.int .i64 qq)) := hb.setCell (by simp; omega) _
          have HB' := Bx.mk hb'
          clear hb' hb hR hQ
          have eab : (ii : Int) + (k : Int) = ((ii + k : Nat) : Int) := by omega
          have hsab : IntKind.i64.wrap ((ii : Int) + (k : Int)) = ((ii + k : Nat) : Int) := (IntWalk.i64_in _ (by omega)).trans eab
          have hlab : ((ii + k : Nat) : Int) < (a.length : Int) := by omega
          obtain ⟨jj, hjj⟩ : ∃ jj, jj = ii + k := ⟨_, rfl⟩
          rw [← hjj] at cz fz hsab hlab HN HS HB' HQ2
          clear hjj eab
          go_wp2_with fail
          go_roundw
          case rel => exact ⟨k + 1, by omega, by go_num, by rw [HN.out]; exact HS.out, HQ2.out, HB'.out⟩
          case measure => first | (simp [intOf]; done) | (simp [intOf]; omega)
        · have hkb : k = b.length := by omega
          have HO : Bx (dTo b n a (m + 1) = dRow b x ii R k) := ⟨by rw [HDN.out, hkb]⟩
          have HO2 : Bx (qArr a.length b n a (m + 1) = Q) := ⟨by rw [HQN.out, HQe.out]⟩
          clear hkb
          go_wp2_with fail
          go_roundw
          case rel => exact ⟨m + 1, hms, by have := HIM.out; go_num, by rw [HO.out]; exact hR, by rw [HO2.out]; exact hQ, hb⟩
          case measure => first | (simp [intOf]; done) | (simp [intOf]; omega)
    · have hms : m = steps a b := by omega
      obtain ⟨R, hRr⟩ : ∃ R, R = dTo b n a m := ⟨_, rfl⟩
      obtain ⟨Q, hQr⟩ : ∃ Q, Q = qArr a.length b n a m := ⟨_, rfl⟩
      have HRl : R.length = a.length := by rw [hRr, dTo_len]
      have HQl : Q.length = a.length := by rw [hQr, qArr_len]
      have HTR : Bx (restL a b = trim R) := ⟨by rw [hRr, hms, HN0.out]; rfl⟩
      have HTQ : Bx (quotI a b = trim Q) := ⟨by rw [hQr, hms, HN0.out]; rfl⟩
      have hneg : ¬ (0 : Int) ≤ (a.length : Int) - (b.length : Int) - (m : Int) := by omega
      rw [← hRr] at hR
      rw [← hQr] at hQ
      have h1 := ended' _ a.length Q wr (hQ.io (base := 0) (by omega) (by omega)).reads (by omega)
      have h2 := ended' _ cR R wr hR.reads (by have := hR.1; omega)
      have hio1 := Bx.mk ((hQ.io (base := W0.heap.size) hQW (by omega)).trim (Nat.le_refl _) (trim_le Q))
      have hio2 := Bx.mk (hR.trim (Nat.le_refl _) (Nat.le_trans (trim_le R) hR.1))
      have HBB := Bx.mk hb
      rw [HQl] at h1
      rw [HRl] at h2
      have H1 := Bx.mk h1
      have H2 := Bx.mk h2
      clear h1 h2 hR hQ hb hRr hQr hms
      generalize (a.length : Int) - (b.length : Int) - (m : Int) = iz at *
      go_wp2_with fail
      refine H1.out.mono ?_
      rintro e w4 ⟨rfl, rfl⟩
      go_wp2_with fail
      refine H2.out.mono ?_
      rintro e w4 ⟨rfl, rfl⟩
      go_wp2_with fail
      go_ret2
      rw [HTR.out, HTQ.out]
      exact ⟨gQ, _, gR, _, rfl, hio1.out, hio2.out, HBB.out⟩
theorem row_single (w : World) (x : Int) : Row (w.alloc (.cells #[.int .i64 x] 3)) w.heap.size (.slice (some ⟨w.heap.size, 0, none⟩) 1 1) [x] :=
  ⟨by simp [ints], .inr ⟨w.heap.size, 1, #[.int .i64 x], rfl, Nat.le_refl _, heap_alloc_new w _, by simp, by unfold maxLen; omega, by simp, rfl⟩⟩
set_option maxHeartbeats 2000000 in
set_option maxRecDepth 20000 in
theorem l10Divide_any (bA pA cA cB : Nat) (B : Option Addr) (a b : List Int) (W0 : World) (ha : a.length ≤ 1000) (hb1 : 1 ≤ b.length) (hb2 : b.length ≤ 1000) (hA : IR W0 (some ⟨bA, pA, none⟩) a) (hB : IR W0 B b) :
    Calls Try.prog 102 #[.slice (some ⟨bA, pA, none⟩) a.length cA, .slice B b.length cB] W0 (GivesII W0 (quotS a b) (restL a b)) := by
  have HB := Bx.mk hB
  have HAX := Bx.mk (hA.alloc (.cells #[] 3))
  have HRE := Bx.mk (Row.empty W0 W0.heap.size (Nat.le_refl _))
  clear hB hA
  obtain ⟨n, hn⟩ : ∃ n, n = a.length - b.length := ⟨_, rfl⟩
  have HN0 := Bx.mk hn
  clear hn
  go_enter Try.func102, Try.ntmps102
  go_wp2_with (at_builtin; go_must (refine wpList_appS rfl _ _ rfl W0.heap.size (.slice (some ⟨W0.heap.size, 0, none⟩) 0 0) [] rfl bA pA cA a rfl (by exact HRE.out) (by simp) (by exact HAX.out) (by simp; omega) (by simp) ?_); intro gR cR w1 io1 b1; simp only [List.nil_append, List.length_nil, Nat.zero_add] at io1 ⊢; have bw1 := (below_alloc W0 (.cells #[] 3)).trans b1; have HIO1 := Bx.mk io1; have HBW1 := Bx.mk bw1; clear io1 b1 bw1)
  obtain ⟨gQ0, hg⟩ : ∃ g, g = w1.heap.size := ⟨_, rfl⟩
  have hQ0 : IO (w1.alloc (.cells #[] 3)) W0.heap.size (some ⟨gQ0, 0, none⟩) 0 (qSp b n a 0) := by
    have hw := HBW1.out.size
    rw [hg]
    exact ⟨by simp [qSp], by simp [qSp], .inr ⟨w1.heap.size, #[], rfl, hw, heap_alloc_new w1 _, by simp, by simp [qSp]; rfl⟩⟩
  have hb0 : Below W0.heap.size W0 (w1.alloc (.cells #[] 3)) := HBW1.out.alloc HBW1.out.size _
  have hi0 : IO (w1.alloc (.cells #[] 3)) W0.heap.size (some ⟨gR, 0, none⟩) cR (dTo b n a 0) := HIO1.out.below (below_alloc _ _) (Nat.le_refl _)
  have hgRl := HIO1.out.ltAt
  have hRQ0 : gR < gQ0 := by omega
  have hgRW : W0.heap.size ≤ gR := HIO1.out.ge _ rfl
  rw [← hg]
  generalize hw1 : w1.alloc (.cells #[] 3) = w2 at *
  clear hw1 hg HIO1 HBW1 hgRl HAX HRE
  go_loopw [8, 9] (fun q i wr => ∃ m gQ cQ : Nat, m ≤ steps a b ∧ q = .slice (some ⟨gQ, 0, none⟩) (qSp b n a m).length cQ ∧ i = .int .i64 ((a.length : Int) - (b.length : Int) - m) ∧ IO wr W0.heap.size (some ⟨gR, 0, none⟩) cR (dTo b n a m) ∧ gR < gQ ∧ IO wr W0.heap.size (some ⟨gQ, 0, none⟩) cQ (qSp b n a m) ∧ Below W0.heap.size W0 wr) (fun _ i _ => (intOf i + 1).toNat)
  case atStart => exact ⟨0, gQ0, 0, by omega, rfl, by simp, hi0, hRQ0, hQ0, hb0⟩
  case round =>
    obtain ⟨m, gQ, cQ, hm, rfl, rfl, hR, hRQ, hQ, hb⟩ := hrel
    clear hi0 hQ0 hb0
    have hst : steps a b = a.length + 1 - b.length := rfl
    by_cases hlt : m < steps a b
    · obtain ⟨ii, hii⟩ : ∃ ii, ii = n - m := ⟨_, rfl⟩
      have hn := HN0.out
      have hi : (a.length : Int) - (b.length : Int) - (m : Int) = (ii : Int) := by omega
      have hil : ii + b.length ≤ a.length := by omega
      have hms : m + 1 ≤ steps a b := hlt
      have him : (ii : Int) - 1 = (a.length : Int) - (b.length : Int) - ((m + 1 : Nat) : Int) := by omega
      have HII := Bx.mk hii
      have HIM := Bx.mk him
      rw [hi]
      clear hn hi hst hlt hm hii him
      obtain ⟨R, hRr⟩ : ∃ R, R = dTo b n a m := ⟨_, rfl⟩
      have HRl : Bx (R.length = a.length) := ⟨by rw [hRr, dTo_len]⟩
      rw [← hRr] at hR
      have HRe := Bx.mk hRr
      clear hRr
      obtain ⟨kx, hkx⟩ : ∃ kx, kx = ii + b.length - 1 := ⟨_, rfl⟩
      obtain ⟨x, cx, Hx⟩ := hR.cellAt (k := kx) (by rw [HRl.out]; omega)
      have hDQ : dq b n a m = x := by unfold dq; rw [← HRe.out, ← HII.out, ← hkx, Hx.out]; rfl
      have HDQ := Bx.mk hDQ
      clear hDQ
      obtain ⟨jb, hjb⟩ : ∃ jb, jb = ii + b.length := ⟨_, rfl⟩
      have hs1 : IntKind.i64.wrap ((ii : Int) + (b.length : Int)) = (jb : Int) := (IntWalk.i64_in _ (by omega)).trans (by omega)
      have hs2 : IntKind.i64.wrap ((jb : Int) - 1) = (kx : Int) := (IntWalk.i64_in _ (by omega)).trans (by omega)
      have hkxl : (kx : Int) < (a.length : Int) := by omega
      have hiil : (ii : Int) < (a.length : Int) := by omega
      obtain ⟨QL, hQL⟩ : ∃ QL, QL = qSp b n a m := ⟨_, rfl⟩
      have HQN : Bx (qSp b n a (m + 1) = x :: QL) := ⟨by simp only [qSp]; rw [HDQ.out, hQL]⟩
      have HQLl : QL.length ≤ 1000 := by rw [hQL, qSp_len]; have : steps a b ≤ 1000 := by unfold steps; omega
                                         omega
      rw [← hQL] at hQ ⊢
      clear hQL
      have HDN : Bx (dTo b n a (m + 1) = dRow b x ii R b.length) := ⟨by
        simp only [dTo]
        rw [← HRe.out, ← HII.out, ← hkx, Hx.out]; rfl⟩
      have hzr := hb.size
      have HRB := Bx.mk hR
      have HBB0 := Bx.mk hb
      have HQI := Bx.mk (hQ.reads.alloc (.cells #[.int .i64 x] 3))
      have HRW := Bx.mk (row_single wr x)
      have hgRw := hR.ltAt
      clear hb hR hQ hkx hjb
      go_wp2_with (at_builtin; go_must (refine wpList_appS rfl _ _ rfl wr.heap.size (.slice (some ⟨wr.heap.size, 0, none⟩) 1 1) [x] rfl gQ 0 cQ QL rfl (by exact HRW.out) (by simp) (by exact HQI.out) (by simp; omega) (by simp) ?_); intro g4 c4 w4 io4 b4; rw [show [x].length + QL.length = (x :: QL).length from (by simp; omega)]; have io5 : IO w4 wr.heap.size (some ⟨g4, 0, none⟩) c4 (x :: QL) := io4; clear io4; obtain ⟨Q, hQe⟩ : ∃ Q, Q = x :: QL := ⟨_, rfl⟩; rw [← hQe] at io5 ⊢; have HQe := Bx.mk hQe; clear hQe)
      have b14 : Below wr.heap.size wr w4 := (below_alloc _ _).trans b4
      have hg4 : gR < g4 := Nat.lt_of_lt_of_le hgRw (io5.ge _ rfl)
      have HQ : IO w4 W0.heap.size (some ⟨g4, 0, none⟩) c4 Q := io5.mono (by omega)
      have HRR : IO w4 W0.heap.size (some ⟨gR, 0, none⟩) cR (dRow b x ii R 0) := HRB.out.below b14 (Nat.le_refl _)
      have HBB : Below W0.heap.size W0 w4 := HBB0.out.trans (b14.mono hzr)
      clear HRB HBB0 HQI HRW io5 b4 b14 cx hs1 hs2 HQLl hRQ
      go_wp2_with fail
      go_loopw [40] (fun i wm => ∃ k : Nat, k ≤ b.length ∧ i = .int .i64 k ∧ IO wm W0.heap.size (some ⟨gR, 0, none⟩) cR (dRow b x ii R k) ∧ IO wm W0.heap.size (some ⟨g4, 0, none⟩) c4 Q ∧ Below W0.heap.size W0 wm) (fun i _ => b.length - (intOf i).toNat)
      case atStart => exact ⟨0, by omega, rfl, HRR, HQ, HBB⟩
      case round =>
        obtain ⟨k, hkl, rfl, hR, hQ, hb⟩ := hrel
        clear HRR HQ HBB
        by_cases hlt2 : k < b.length
        · obtain ⟨b2, o2, y, eB, hby, c2, H3⟩ := HB.out.one hlt2
          subst eB
          have H4 := Bx.mk H3.out
          clear H3
          have r3 := ((bcell hb).1 _ _ hby).trans c2
          clear c2
          have hkl2 : (k : Int) < b.length := by omega
          obtain ⟨z, cz, Hz⟩ := hR.cellAt (k := ii + k) (by rw [dRow_len, HRl.out]; omega)
          have fz := hR.frozenAt (ii + k)
          obtain ⟨pp, hp⟩ : ∃ pp, IntKind.i64.wrap (x * y) = pp := ⟨_, rfl⟩
          obtain ⟨qq, hq⟩ : ∃ qq, IntKind.i64.wrap (z - pp) = qq := ⟨_, rfl⟩
          have HN : Bx (dRow b x ii R (k + 1) = (dRow b x ii R k).set (ii + k) qq) := ⟨by
            simp only [dRow]
            rw [H4.out]
            simp only [Option.getD_some]
            rw [Hz.out]
            simp only [Option.getD_some]
            rw [← hq, ← hp]; rfl⟩
          have HS := Bx.mk (hR.setAt (k := ii + k) qq (by rw [dRow_len, HRl.out]; omega))
          have HQ2 := Bx.mk (io_offAt (i := ii + k) (v := .int .i64 qq) hQ (show g4 ≠ gR by omega))
          have hb' : Below W0.heap.size W0 (wr.setCell ⟨gR, ii + k, none⟩ (.int .i64 qq)) := hb.setCell (by simp; omega) _
          have HB' := Bx.mk hb'
          clear hb' hb hR hQ
          have eab : (ii : Int) + (k : Int) = ((ii + k : Nat) : Int) := by omega
          have hsab : IntKind.i64.wrap ((ii : Int) + (k : Int)) = ((ii + k : Nat) : Int) := (IntWalk.i64_in _ (by omega)).trans eab
          have hlab : ((ii + k : Nat) : Int) < (a.length : Int) := by omega
          obtain ⟨jj, hjj⟩ : ∃ jj, jj = ii + k := ⟨_, rfl⟩
          rw [← hjj] at cz fz hsab hlab HN HS HB' HQ2
          clear hjj eab
          go_wp2_with fail
          go_roundw
          case rel => exact ⟨k + 1, by omega, by go_num, by rw [HN.out]; exact HS.out, HQ2.out, HB'.out⟩
          case measure => first | (simp [intOf]; done) | (simp [intOf]; omega)
        · have hkb : k = b.length := by omega
          have HO : Bx (dTo b n a (m + 1) = dRow b x ii R k) := ⟨by rw [HDN.out, hkb]⟩
          have HO2 : Bx (qSp b n a (m + 1) = Q) := ⟨by rw [HQN.out, HQe.out]⟩
          clear hkb
          go_wp2_with fail
          go_roundw
          case rel => exact ⟨m + 1, g4, c4, hms, by rw [HO2.out], by have := HIM.out; go_num, by rw [HO.out]; exact hR, hg4, by rw [HO2.out]; exact hQ, hb⟩
          case measure => first | (simp [intOf]; done) | (simp [intOf]; omega)
    · have hms : m = steps a b := by omega
      obtain ⟨R, hRr⟩ : ∃ R, R = dTo b n a m := ⟨_, rfl⟩
      have HRl : R.length = a.length := by rw [hRr, dTo_len]
      have HTR : Bx (restL a b = trim R) := ⟨by rw [hRr, hms, HN0.out]; rfl⟩
      have HTQ : Bx (quotS a b = qSp b n a m) := ⟨by rw [hms, HN0.out]; rfl⟩
      have hneg : ¬ (0 : Int) ≤ (a.length : Int) - (b.length : Int) - (m : Int) := by omega
      rw [← hRr] at hR
      have h2 := l10Trim' _ cR R wr hR.reads (by have := hR.1; omega)
      have hio1 := Bx.mk hQ
      have hio2 := Bx.mk (hR.trim (c' := cR) (Nat.le_trans (trim_le R) hR.1) (Nat.le_refl _))
      have HBB := Bx.mk hb
      rw [HRl] at h2
      have H2 := Bx.mk h2
      clear h2 hR hQ hb hRr hms
      generalize (a.length : Int) - (b.length : Int) - (m : Int) = iz at *
      go_wp2_with fail
      refine H2.out.mono ?_
      rintro e w4 ⟨rfl, rfl⟩
      go_wp2_with fail
      go_ret2
      rw [HTR.out, HTQ.out]
      exact ⟨gQ, _, gR, _, rfl, hio1.out, hio2.out, HBB.out⟩
end Go.Proofs.Ytbgfhbaaacmndaa
