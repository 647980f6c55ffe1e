/- The program's search for a partner, walked. -/
import Derived.Test.YtikifkbgmniobaaGreatPnPlain
import Derived.Test.YtikifkbgmniobaaGreatCmn
import Derived.Test.YtikifkbgmniobaaGreatDvs
import Derived.Test.YtikifkbgmniobaaGreatStepLaw
import Derived.Test.YtikifkbgmniobaaGreatBas
import Derived.Test.YtikifkbgmniobaaGreatFcPlain
import Derived.Deep.RegionHeld3
import Derived.Deep.DeepCutAuto
import Derived.Deep.AppendLies
import Derived.Deep.DrawnRows
namespace Go.Proofs.YtikifkbgmniobaaGreat
open Go.RowKit
set_option maxRecDepth 20000

def codsL (n : Nat) (xs : List Int) (m : Nat) : List Int := (List.range m).map fun (k : Nat) => ((cod n xs (k : Int) : Nat) : Int)
theorem codsL_len (n : Nat) (xs : List Int) (m : Nat) : (codsL n xs m).length = m := by simp [codsL]
theorem codsL_succ (n : Nat) (xs : List Int) (m : Nat) : codsL n xs (m + 1) = codsL n xs m ++ [((cod n xs (m : Int) : Nat) : Int)] := by simp [codsL, List.range_succ]
theorem codsL_at {n : Nat} {xs : List Int} {m k : Nat} (h : k < m) : (codsL n xs m)[k]?.getD 0 = ((cod n xs (k : Int) : Nat) : Int) := by simp [codsL, h]
theorem poss_at {n q : Nat} {xs : List Int} {T P : Nat} (h : q < n) : poss n xs T (n - q) P = poss n xs T (n - (q + 1)) (if cod n xs (q : Int) &&& T = 0 then P ||| cod n xs (q : Int) else P) := by
  rw [show n - q = (n - (q + 1)) + 1 by omega]
  simp only [poss]
  rw [show n - (n - (q + 1) + 1) = q by omega]
theorem pnL_at {n q : Nat} {xs S : List Int} {T : Nat} (h : q < n) : pnL n xs (n - q) S T = if cod n xs (q : Int) &&& T = 0 then (pnP n xs (n - (q + 1)) (S ++ [(q : Int)]) (T ||| cod n xs (q : Int))).or (pnL n xs (n - (q + 1)) S T) else pnL n xs (n - (q + 1)) S T := by
  rw [show n - q = (n - (q + 1)) + 1 by omega, pnL_succ, show n - (n - (q + 1) + 1) = q by omega]
def GivesOp (w : World) (base : Nat) : Option (List Int) → Ending → World → Prop
  | none, e, w' => e = .returned (.slice none 0 0) ∧ Below w.heap.size w w'
  | some L, e, w' => ∃ g c, e = .returned (.slice (some ⟨g, 0, none⟩) L.length c) ∧ IO w' base (some ⟨g, 0, none⟩) c L ∧ Below w.heap.size w w'
theorem neq_nil (b p n c : Nat) (w : World) : Sem.run Tryz.prog (binOp BinOp.neq 24 (.slice (some ⟨b, p, none⟩) n c) (.slice none 0 0)) w = .ok (.bool true) w := by kernel_rfl
theorem neq_nil0 (w : World) : Sem.run Tryz.prog (binOp BinOp.neq 24 (.slice none 0 0) (.slice none 0 0)) w = .ok (.bool false) w := by kernel_rfl
theorem bx_grownP {a w w' : World} {r : Option Nat} (h : Bx (Below a.heap.size a w)) (hg : w.grownBy w' r) (hr : ∀ k, r = some k → a.heap.size ≤ k) : Bx (Below a.heap.size a w') :=
  ⟨⟨hg.os.trans h.out.os, hg.tape.trans h.out.tape, hg.output.trans h.out.output, Nat.le_trans h.out.size hg.size, fun k hk => (hg.block k (Nat.lt_of_lt_of_le hk h.out.size) (fun e => by have := hr k e.symm; omega)).trans (h.out.block k hk)⟩⟩
theorem row_undrewP {w : World} {base : Nat} {v : Value} {xs : List Int} (h : Row w base v xs) : Row w.drew base v xs := h
theorem row_baseP {w : World} {b b' : Nat} {v : Value} {xs : List Int} (h : Row w b v xs) (hb : b' ≤ b) : Row w b' v xs := by
  refine ⟨h.1, ?_⟩
  rcases h.2 with h' | ⟨g, cap, cur, e, hg, r⟩
  · exact .inl h'
  · exact .inr ⟨g, cap, cur, e, Nat.le_trans hb hg, r⟩
theorem row_geP {w : World} {b g n c : Nat} {xs : List Int} (h : Row w b (.slice (some ⟨g, 0, none⟩) n c) xs) : b ≤ g := by
  rcases h.2 with ⟨e, _⟩ | ⟨g', cap, cur, e, hg, r⟩
  · cases e
  · injection e with e; injection e with e; injection e with e; subst e; exact hg
theorem row_ioP {w : World} {base g n c : Nat} {xs : List Int} (h : Row w base (.slice (some ⟨g, 0, none⟩) n c) xs) (hl : xs.length ≤ 1000000) : IO w base (some ⟨g, 0, none⟩) c xs := by
  obtain ⟨A, c', e, io⟩ := h.io (by omega)
  injection e with e1 e2 e3
  subst e1 e3
  exact io
theorem wpList_appSR {ops : Array Oper} {rest : List Oper} {o : Oper} {a : Act} {Q : Exit → Act → World → Prop} {w : World} (hgd : o.guard = none) (s x : Operand)
    (ho : o.op = .call { callee := .builtin .append, args := #[s, x], argTypes := #[24, 24] })
    (base : Nat) (v : Value) (xs : List Int) (hs : a.eval s = v) (b p c : Nat) (ys : List Int) (hx : a.eval x = .slice (some ⟨b, p, none⟩) ys.length c) (hown : Row w base v xs) (hv : v ≠ .slice none 0 0) (hy : IR w (some ⟨b, p, none⟩) ys) (hl : xs.length + ys.length ≤ 1000000000) (hbase : base ≤ w.heap.size)
    (h : ∀ g c' w', Row w' base (.slice (some ⟨g, 0, none⟩) (xs ++ ys).length c') (xs ++ ys) → Below base w w' → wpList Tryz.prog ops Q rest (a.put o.dst (.slice (some ⟨g, 0, none⟩) (xs.length + ys.length) c')) w') :
    wpList Tryz.prog ops Q (o :: rest) a w := by
  obtain ⟨i0, hi0, hz0, hz1, hz2⟩ := info_parts info_int
  refine wpList_append_own _ hgd s x 24 ho base 3 i0 (.int .i64 0) 1 8 Tryz.underlying24 hi0 hz0 hz1 hz2 rfl (by decide) v xs.length (ints xs) hs hown
    ⟨b, p, none⟩ ys.length c (ints ys) hx (by simp [ints]) ?_ ?_ (by unfold maxLen; omega) (by omega) hbase ?_
  · intro j u hj
    have hjl : j < ys.length := by
      have := (List.getElem?_eq_some_iff.1 hj).1
      simpa [ints] using this
    obtain ⟨b', o', e, _, hc⟩ := hy.at_ (by omega)
    injection e with e; injection e with e1 e2
    subst e1 e2
    have hadd : (⟨b, p, none⟩ : Addr).add j = ⟨b, p + j, none⟩ := by unfold Addr.add; split <;> simp_all
    rw [hadd, hc j hjl]
    simp [ints, hjl] at hj
    rw [← hj, List.getElem?_eq_getElem hjl]; rfl
  · intro u hu
    simp [ints] at hu
    obtain ⟨z, _, rfl⟩ := hu
    rfl
  · intro v' w' h1 h2 h3
    have hR : Row w' base v' (xs ++ ys) := by
      unfold Row
      rw [List.length_append, show ints (xs ++ ys) = ints xs ++ ints ys by simp [ints]]
      exact h1
    have hB : Below base w w' := ⟨h2.os, h2.tape, h2.output, h2.size, fun k hk => h2.block k (by omega) (fun e => by
      rcases hown.2 with ⟨e1, _⟩ | ⟨g, cap, cur, e1, hg', _⟩
      · exact hv e1
      · rw [e1] at e; simp [Value.ownBlock] at e; omega)⟩
    have hn : v' ≠ .slice none 0 0 := fun e => hv (h3.1 e).1
    rcases hR.2 with ⟨e1, _⟩ | ⟨g, cap, cur, e1, _⟩
    · exact absurd e1 hn
    · rw [e1] at hR ⊢
      have := h g cap w' hR hB
      rw [← List.length_append] at this
      exact this
set_option maxHeartbeats 400000 in
theorem clone_row (b p c : Nat) (xs : List Int) (w : World) (hx : IR w (some ⟨b, p, none⟩) xs) (hl : xs.length ≤ 1000000) :
    Calls Tryz.prog 55 #[.slice (some ⟨b, p, none⟩) xs.length c] w fun e w' => ∃ g c', e = .returned (.slice (some ⟨g, 0, none⟩) xs.length c') ∧ Row w' w.heap.size (.slice (some ⟨g, 0, none⟩) xs.length c') xs ∧ Below w.heap.size w w' := by
  have bw := below_alloc w (.cells #[] 3)
  have HX := Bx.mk (hx.below bw)
  have HR := Bx.mk (Row.empty w w.heap.size (Nat.le_refl _))
  clear hx
  have hq := eql_nil b p xs.length c w
  go_enter Tryz.func55, Tryz.ntmps55
  go_wp2_with (at_builtin; go_must (refine wpList_appSR rfl _ _ rfl w.heap.size (.slice (some ⟨w.heap.size, 0, none⟩) 0 0) [] rfl b p c xs rfl (by exact HR.out) (by simp) (by exact HX.out) (by simp; omega) (by simp) ?_); intro g c' w1 io b1; simp only [List.nil_append, List.length_nil, Nat.zero_add] at io ⊢)
  go_ret
  exact ⟨g, c', rfl, io, bw.trans b1⟩
set_option maxHeartbeats 4000000 in
set_option maxRecDepth 20000 in
theorem partner_any (n : Nat) (xs : List Int) (hn : 1 ≤ n) (hn24 : n ≤ 24) (bC oC cC : Nat) : ∀ (r p : Nat) (S : List Int) (T g c base : Nat) (w : World), p + 1 + r = n → S.length + r ≤ n → S[S.length - 1]? = some ((p : Nat) : Int) → 0 < S.length → T < 2 ^ n →
    IR w (some ⟨bC, oC, none⟩) (codsL n xs n) → IO w base (some ⟨g, 0, none⟩) c S → base ≤ w.heap.size →
    Calls Tryz.prog 27 #[.slice (some ⟨bC, oC, none⟩) n cC, .slice (some ⟨g, 0, none⟩) S.length c, .int .i64 T] w (GivesOp w base (pnP n xs r S T)) := by
  intro r
  induction r using Nat.strongRecOn with
  | _ r ih =>
  intro p S T g c base w hpr hSr hlast hS0 hT hC hS hb
  have HIH := Bx.mk ih
  clear ih
  have h24 := pow_le_24 hn24
  obtain ⟨M, HM⟩ : ∃ M : Nat, Bx (M = 2 ^ n) := ⟨_, ⟨rfl⟩⟩
  have hMb : M ≤ 16777216 := by rw [HM.out]; exact h24
  have hM1 : 1 ≤ M := by rw [HM.out]; exact Nat.two_pow_pos n
  have hTM : T < M := by rw [HM.out]; exact hT
  have hM0 : wrap64 ((2 : Int) ^ n) = (M : Int) := by rw [HM.out]; exact wrap_pow hn24
  obtain ⟨F, hF⟩ : ∃ F : Nat, F + 1 = M := ⟨M - 1, by omega⟩
  have HF : Bx (F = 2 ^ n - 1) := ⟨by rw [← HM.out]; omega⟩
  have hFi : (M : Int) - 1 = (F : Int) := by omega
  have hMF : wrap64 ((2 : Int) ^ n - 1) = (F : Int) := by
    have e : (2 : Int) ^ n = (M : Int) := by rw [HM.out]; exact (Int.natCast_pow 2 n).symm
    rw [e, IntWalk.wrap64_in _ (by omega)]; exact hFi
  have hFb : F ≤ 16777216 := by omega
  clear hT h24
  have HS := Bx.mk hS
  have HC := Bx.mk hC
  have hgw : g < w.heap.size := hS.ltAt
  have hS1 : S.length ≤ 24 := by omega
  by_cases hTF : T = F
  · have HR : Bx (pnP n xs r S T = some S) := ⟨by unfold pnP; rw [if_pos (by rw [← HF.out]; exact hTF)]⟩
    have htf : (((T : Int) == (F : Int))) = true := by rw [beq_iff_eq]; omega
    clear hTF hlast hS hC hF
    go_enter Tryz.func27, Tryz.ntmps27
    go_wp2_with fail
    go_ret
    rw [HR.out]
    exact ⟨g, c, rfl, HS.out, Below.refl _ _⟩
  · have HR : Bx (pnP n xs r S T = if poss n xs T r T = F then pnL n xs r S T else none) := ⟨by unfold pnP; rw [if_neg (by rw [← HF.out]; exact hTF), HF.out]⟩
    have htf : (((T : Int) == (F : Int))) = false := by rw [beq_eq_false_iff_ne]; omega
    obtain ⟨l, hl⟩ : ∃ l, S.length = l + 1 := ⟨S.length - 1, by omega⟩
    have hcl : w.cell? ⟨g, l, none⟩ = some (.int .i64 (p : Int)) := by
      obtain ⟨x, hc, H⟩ := hS.cellAt (k := l) (by omega)
      rw [show S.length - 1 = l by omega] at hlast
      have := H.out
      rw [hlast] at this
      injection this with this
      rw [hc, ← this]
    have HCC : Bx (∀ q, q < n → w.cell? ⟨bC, oC + q, none⟩ = some (.int .i64 ((cod n xs (q : Int) : Nat) : Int))) := ⟨fun q hq => by
      obtain ⟨b', o', e, _, hc⟩ := hC.at_ (by rw [codsL_len]; omega)
      injection e with e; injection e with e1 e2
      subst e1 e2
      rw [hc q (by rw [codsL_len]; exact hq), codsL_at hq]⟩
    have hCw : bC < w.heap.size := by
      obtain ⟨b', o', e, hb', _⟩ := hC.at_ (by rw [codsL_len]; omega)
      injection e with e; injection e with e1 e2
      subst e1 e2
      exact hb'
    have HLT : Bx (∀ q : Nat, cod n xs (q : Int) < M) := ⟨fun q => by rw [HM.out]; exact cod_lt hn xs _⟩
    have HSl := Bx.mk hl
    rw [hl]
    have hlb : l ≤ 24 := by omega
    have hS2 : l + 1 + r ≤ n := by omega
    clear hTF hlast hS hC hF hl hS1 hSr hS0
    go_enter Tryz.func27, Tryz.ntmps27
    go_wp2_with fail
    clear hM0 hMF htf hFi
    go_loop [9, 10] (fun pv kv => ∃ (q Pv : Nat), n ≤ q + r ∧ q ≤ n ∧ kv = .int .i64 q ∧ pv = .int .i64 Pv ∧ Pv ≤ 16777216 ∧ Bx (Pv < M ∧ poss n xs T (n - q) Pv = poss n xs T r T)) (fun _ kv => n - (intOf kv).toNat)
    case atStart => exact ⟨p + 1, T, by omega, by omega, by go_num, rfl, by omega, ⟨hTM, by rw [show n - (p + 1) = r by omega]⟩⟩
    case round =>
      obtain ⟨q, Pv, hq1, hq2, rfl, rfl, hPb, HP⟩ := hrel
      by_cases hqn : q < n
      · have hqi : (q : Int) < (n : Int) := by omega
        obtain ⟨C, hCe⟩ : ∃ C, C = cod n xs (q : Int) := ⟨_, rfl⟩
        have cq := HCC.out q hqn
        rw [← hCe] at cq
        have hCb : C < M := by rw [hCe]; exact HLT.out q
        obtain ⟨m, hm⟩ : ∃ m, m = C &&& T := ⟨_, rfl⟩
        have hand : bits .and .i64 (C : Int) (T : Int) = (m : Int) := by rw [hm]; exact i64_and C T (by omega) (by omega)
        obtain ⟨P2, hP2⟩ : ∃ P2, P2 = Pv ||| C := ⟨_, rfl⟩
        have hor : bits .or .i64 (Pv : Int) (C : Int) = (P2 : Int) := by rw [hP2]; exact i64_or Pv C (by omega) (by omega)
        have hP2b : P2 < M := by rw [hP2, HM.out]; exact Nat.or_lt_two_pow (by rw [← HM.out]; exact HP.out.1) (by rw [← HM.out]; exact hCb)
        have HST := poss_at (n := n) (q := q) (xs := xs) (T := T) (P := Pv) hqn
        rw [← hCe, ← hm, ← hP2] at HST
        have HST := Bx.mk HST
        have HPO := HP.out.2
        by_cases hm0 : m = 0
        · have hmb : (((m : Int) == 0)) = true := by rw [beq_iff_eq]; omega
          have HX : Bx (P2 < M ∧ poss n xs T (n - (q + 1)) P2 = poss n xs T r T) := ⟨hP2b, by rw [← HPO, HST.out, if_pos hm0]⟩
          clear hm hCe hP2 hm0 HST HPO
          go_wp2_with fail
          go_round
          case rel => exact ⟨q + 1, P2, by omega, by omega, by go_num, rfl, by omega, HX⟩
          case measure => simp [intOf]; omega
        · have hmb : (((m : Int) == 0)) = false := by rw [beq_eq_false_iff_ne]; omega
          have HX : Bx (Pv < M ∧ poss n xs T (n - (q + 1)) Pv = poss n xs T r T) := ⟨HP.out.1, by rw [← HPO, HST.out, if_neg hm0]⟩
          clear hm hCe hP2 hm0 HST HPO
          go_wp2_with fail
          go_round
          case rel => exact ⟨q + 1, Pv, by omega, by omega, by go_num, rfl, hPb, HX⟩
          case measure => simp [intOf]; omega
      · have hqe : q = n := by omega
        have HPV : Bx (Pv = poss n xs T r T) := ⟨by have := HP.out.2; rw [hqe, Nat.sub_self] at this; exact this⟩
        subst hqe
        have hqi : ¬ (q : Int) < (q : Int) := by omega
        by_cases hpf : Pv = F
        · have HR2 : Bx (pnP q xs r S T = pnL q xs r S T) := ⟨by rw [HR.out, if_pos (by rw [← HPV.out]; exact hpf)]⟩
          have hpb : (((Pv : Int) != (F : Int))) = false := by rw [bne_eq_false_iff_eq]; omega
          have hpe : (((Pv : Int) == (F : Int))) = true := by rw [beq_iff_eq]; omega
          clear hpf
          go_wp2_with fail
          clear hpb hpe
          go_loopw [11, 12] (fun kv _ wr => ∃ (j : Nat), q ≤ j + r ∧ j ≤ q ∧ kv = .int .i64 j ∧ Bx (pnL q xs (q - j) S T = pnL q xs r S T) ∧ Bx (Below w.heap.size w wr)) (fun kv _ _ => q - (intOf kv).toNat)
          case atStart => exact ⟨p + 1, by omega, by omega, by go_num, ⟨by rw [show q - (p + 1) = r by omega]⟩, ⟨Below.refl _ _⟩⟩
          case round =>
            obtain ⟨j, hj1, hj2, rfl, HL, HB⟩ := hrel
            by_cases hjq : j < q
            · have hji : (j : Int) < (q : Int) := by omega
              obtain ⟨C, hCe⟩ : ∃ C, C = cod q xs (j : Int) := ⟨_, rfl⟩
              have cq0 := HCC.out j hjq
              rw [← hCe] at cq0
              have cq := ((bcell HB.out).1 _ _ hCw).trans cq0
              have hCb : C < M := by rw [hCe]; exact HLT.out j
              obtain ⟨m, hm⟩ : ∃ m, m = C &&& T := ⟨_, rfl⟩
              have hand : bits .and .i64 (C : Int) (T : Int) = (m : Int) := by rw [hm]; exact i64_and C T (by omega) (by omega)
              obtain ⟨T2, hT2⟩ : ∃ T2, T2 = T ||| C := ⟨_, rfl⟩
              have hor : bits .or .i64 (T : Int) (C : Int) = (T2 : Int) := by rw [hT2]; exact i64_or T C (by omega) (by omega)
              have hT2b : T2 < M := by rw [hT2, HM.out]; exact Nat.or_lt_two_pow (by rw [← HM.out]; exact hTM) (by rw [← HM.out]; exact hCb)
              have HST := pnL_at (n := q) (q := j) (xs := xs) (S := S) (T := T) hjq
              rw [← hCe, ← hm, ← hT2] at HST
              have HST := Bx.mk HST
              have hwz := HB.out.size
              by_cases hm0 : m = 0
              · have hmb : (((m : Int) != 0)) = false := by rw [bne_eq_false_iff_eq]; omega
                have hme : (((m : Int) == 0)) = true := by rw [beq_iff_eq]; omega
                have HT2M : Bx (T2 < 2 ^ q) := ⟨by rw [← HM.out]; exact hT2b⟩
                have HST2 : Bx (pnL q xs r S T = (pnP q xs (q - (j + 1)) (S ++ [(j : Int)]) T2).or (pnL q xs (q - (j + 1)) S T)) := ⟨by rw [← HL.out, HST.out, if_pos hm0]⟩
                have HSr := Bx.mk (HS.out.reads.below HB.out)
                have HCr := Bx.mk (HC.out.below HB.out)
                obtain ⟨S2, hS2e⟩ : ∃ S2, S2 = S ++ [(j : Int)] := ⟨_, rfl⟩
                rw [← hS2e] at HST2
                have HS2l : Bx (S2.length = l + 2) := ⟨by rw [hS2e, List.length_append, HSl.out]; rfl⟩
                have HS2x : Bx (S2[S2.length - 1]? = some (j : Int)) := ⟨by rw [HS2l.out, hS2e, List.getElem?_append_right (by rw [HSl.out]; omega), HSl.out, show l + 2 - 1 - (l + 1) = 0 by omega]; rfl⟩
                have HS2E := Bx.mk hS2e
                obtain ⟨o2, ho2⟩ : ∃ o2, o2 = pnP q xs (q - (j + 1)) S2 T2 := ⟨_, rfl⟩
                have HCALL : Bx (∀ g2 c2 base2 W, IR W (some ⟨bC, oC, none⟩) (codsL q xs q) → IO W base2 (some ⟨g2, 0, none⟩) c2 S2 → base2 ≤ W.heap.size → Calls Tryz.prog 27 #[.slice (some ⟨bC, oC, none⟩) q cC, .slice (some ⟨g2, 0, none⟩) (l + 2) c2, .int .i64 T2] W (GivesOp W base2 o2)) := ⟨fun g2 c2 base2 W h1 h2 h3 => by
                  have := HIH.out (q - (j + 1)) (by omega) j S2 T2 g2 c2 base2 W (by omega) (by rw [HS2l.out]; omega) HS2x.out (by rw [HS2l.out]; omega) HT2M.out h1 h2 h3
                  rw [HS2l.out, ← ho2] at this
                  exact this⟩
                rw [← ho2] at HST2
                clear hm hCe hT2 hm0 HST ho2 hS2e cq0
                go_wp2_with fail
                have hB : Bx (Below wr.heap.size wr wr.drew) := ⟨(Below.refl _ _).drew⟩
                have hB0 : Bx (Below wr.heap.size wr wr) := ⟨Below.refl _ _⟩
                have cqd : wr.drew.cell? _ = _ := cq
                have hCwr : bC < wr.heap.size := by omega
                cases o2 with
                | none =>
                  have HNX : Bx (pnL q xs (q - (j + 1)) S T = pnL q xs r S T) := ⟨by rw [HST2.out]; rfl⟩
                  have hq1 := neq_nil0
                  go_region_held3 (fun w' => w'.cell? ⟨bC, oC + j, none⟩ = some (.int .i64 (C : Int)) ∧ Bx (Below wr.heap.size wr w'))
                    ((refine (fun (hK : Bx (Below wr.heap.size wr _)) => ⟨((bcell hK.out).1 _ _ hCwr).trans cq, hK⟩) ?_; (first | with_reducible assumption | with_reducible exact bx_alloc (by with_reducible assumption) _ | with_reducible exact bx_alloc (bx_alloc (by with_reducible assumption) _) _ | with_reducible exact bx_drew (by with_reducible assumption) | with_reducible exact bx_drew (bx_alloc (by with_reducible assumption) _))))
                    (first
                      | (go_at_call 55; rw [← HSl.out]; refine (clone_row _ _ _ _ _ (by exact HSr.out.below (Bx.out (by (first | with_reducible assumption | with_reducible exact bx_alloc (by with_reducible assumption) _ | with_reducible exact bx_alloc (bx_alloc (by with_reducible assumption) _) _ | with_reducible exact bx_drew (by with_reducible assumption) | with_reducible exact bx_drew (bx_alloc (by with_reducible assumption) _))))) (by rw [HSl.out]; omega)).mono ?_; rintro e w3 ⟨g1, c1, rfl, row1, b3⟩; have hBw3 : Bx (Below wr.heap.size wr w3) := bx_to (by (first | with_reducible assumption | with_reducible exact bx_alloc (by with_reducible assumption) _ | with_reducible exact bx_alloc (bx_alloc (by with_reducible assumption) _) _ | with_reducible exact bx_drew (by with_reducible assumption) | with_reducible exact bx_drew (bx_alloc (by with_reducible assumption) _))) b3; have hz3 := b3.size; (try simp at hz3); have hy3 := bx_size hBw3; rw [HSl.out] at row1 ⊢; replace row1 := row_baseP (b' := wr.heap.size) row1 (by first | exact Nat.le_refl _ | (simp; done) | (simp; omega)); have HRW3 := Bx.mk row1; clear row1; (try (refine (fun (hE3 : Blk w3 wr.heap.size 3 #[.int .i64 (j : Int)]) => ?_) (Blk.below ?_ b3 ?_); rotate_left 1; (first | exact blk_eq rfl | exact blk_undrew (blk_eq rfl) | (refine blk_eq ?_; focus (simp; done))); (focus (simp; done)); refine (fun (HE3 : Bx (Blk w3 wr.heap.size 3 #[.int .i64 (j : Int)])) => ?_) ⟨hE3⟩; clear hE3)); skip)
                      | (refine step_appL (by rfl) _ _ (by rfl) wr.heap.size (.slice (some ⟨g1, 0, none⟩) (l + 1) c1) S (by rfl) (by first | exact HRW3.out | exact HRW3.out.alloc _ | exact row_undrewP HRW3.out | exact row_undrewP (HRW3.out.alloc _)) _ 0 1 [(j : Int)] (by rfl) (ir_one (by first | exact HE3.out | exact blk_undrew HE3.out | exact blk_eq rfl | exact blk_undrew (blk_eq rfl))) (by simp) (by rw [HSl.out]; simp; omega) (by first | omega | (simp; omega)) ?_; intro g2 c2 w4 row2 hgr2 hat2 hlt2; have hBw4 : Bx (Below wr.heap.size wr w4) := bx_grownP (by (first | with_reducible assumption | with_reducible exact bx_alloc (by with_reducible assumption) _ | with_reducible exact bx_alloc (bx_alloc (by with_reducible assumption) _) _ | with_reducible exact bx_drew (by with_reducible assumption) | with_reducible exact bx_drew (bx_alloc (by with_reducible assumption) _))) hgr2 (by intro k hk; have := row_geP HRW3.out; simp [Value.ownBlock] at hk; omega); rw [← HS2E.out, HS2l.out] at row2; rw [← HS2E.out, HS2l.out]; have HIO4 := Bx.mk (row_ioP row2 (by rw [HS2l.out]; omega)); have hz4 := bx_size hBw4; clear row2; skip)
                      | (go_at_call 27; refine (HCALL.out _ _ wr.heap.size _ (by exact HCr.out.below (Bx.out (by (first | with_reducible assumption | with_reducible exact bx_alloc (by with_reducible assumption) _ | with_reducible exact bx_alloc (bx_alloc (by with_reducible assumption) _) _ | with_reducible exact bx_drew (by with_reducible assumption) | with_reducible exact bx_drew (bx_alloc (by with_reducible assumption) _))))) (by first | exact HIO4.out | exact HIO4.out.below ((Below.refl _ _).drew) (Nat.le_refl _)) (by first | exact hz4 | exact bx_size (by (first | with_reducible assumption | with_reducible exact bx_alloc (by with_reducible assumption) _ | with_reducible exact bx_alloc (bx_alloc (by with_reducible assumption) _) _ | with_reducible exact bx_drew (by with_reducible assumption) | with_reducible exact bx_drew (bx_alloc (by with_reducible assumption) _))))).mono ?_; rintro e w5 hg5; obtain ⟨rfl, b5⟩ := hg5; have hBw5 : Bx (Below wr.heap.size wr w5) := bx_to (by (first | with_reducible assumption | with_reducible exact bx_alloc (by with_reducible assumption) _ | with_reducible exact bx_alloc (bx_alloc (by with_reducible assumption) _) _ | with_reducible exact bx_drew (by with_reducible assumption) | with_reducible exact bx_drew (bx_alloc (by with_reducible assumption) _))) b5))
                  all_goals have HB5 := Bx.mk (HB.out.trans (hBw5.out.mono HB.out.size))
                  all_goals clear hBw5
                  all_goals go_wp2_with fail
                  all_goals go_roundw
                  all_goals first
                    | exact ⟨j + 1, by omega, by omega, by go_num, HNX, HB5⟩
                    | (simp [intOf]; omega)
                | some L =>
                  have hq1 := neq_nil
                  go_region_held3 (fun w' => w'.cell? ⟨bC, oC + j, none⟩ = some (.int .i64 (C : Int)) ∧ Bx (Below wr.heap.size wr w'))
                    ((refine (fun (hK : Bx (Below wr.heap.size wr _)) => ⟨((bcell hK.out).1 _ _ hCwr).trans cq, hK⟩) ?_; (first | with_reducible assumption | with_reducible exact bx_alloc (by with_reducible assumption) _ | with_reducible exact bx_alloc (bx_alloc (by with_reducible assumption) _) _ | with_reducible exact bx_drew (by with_reducible assumption) | with_reducible exact bx_drew (bx_alloc (by with_reducible assumption) _))))
                    (first
                      | (go_at_call 55; rw [← HSl.out]; refine (clone_row _ _ _ _ _ (by exact HSr.out.below (Bx.out (by (first | with_reducible assumption | with_reducible exact bx_alloc (by with_reducible assumption) _ | with_reducible exact bx_alloc (bx_alloc (by with_reducible assumption) _) _ | with_reducible exact bx_drew (by with_reducible assumption) | with_reducible exact bx_drew (bx_alloc (by with_reducible assumption) _))))) (by rw [HSl.out]; omega)).mono ?_; rintro e w3 ⟨g1, c1, rfl, row1, b3⟩; have hBw3 : Bx (Below wr.heap.size wr w3) := bx_to (by (first | with_reducible assumption | with_reducible exact bx_alloc (by with_reducible assumption) _ | with_reducible exact bx_alloc (bx_alloc (by with_reducible assumption) _) _ | with_reducible exact bx_drew (by with_reducible assumption) | with_reducible exact bx_drew (bx_alloc (by with_reducible assumption) _))) b3; have hz3 := b3.size; (try simp at hz3); have hy3 := bx_size hBw3; rw [HSl.out] at row1 ⊢; replace row1 := row_baseP (b' := wr.heap.size) row1 (by first | exact Nat.le_refl _ | (simp; done) | (simp; omega)); have HRW3 := Bx.mk row1; clear row1; (try (refine (fun (hE3 : Blk w3 wr.heap.size 3 #[.int .i64 (j : Int)]) => ?_) (Blk.below ?_ b3 ?_); rotate_left 1; (first | exact blk_eq rfl | exact blk_undrew (blk_eq rfl) | (refine blk_eq ?_; focus (simp; done))); (focus (simp; done)); refine (fun (HE3 : Bx (Blk w3 wr.heap.size 3 #[.int .i64 (j : Int)])) => ?_) ⟨hE3⟩; clear hE3)); skip)
                      | (refine step_appL (by rfl) _ _ (by rfl) wr.heap.size (.slice (some ⟨g1, 0, none⟩) (l + 1) c1) S (by rfl) (by first | exact HRW3.out | exact HRW3.out.alloc _ | exact row_undrewP HRW3.out | exact row_undrewP (HRW3.out.alloc _)) _ 0 1 [(j : Int)] (by rfl) (ir_one (by first | exact HE3.out | exact blk_undrew HE3.out | exact blk_eq rfl | exact blk_undrew (blk_eq rfl))) (by simp) (by rw [HSl.out]; simp; omega) (by first | omega | (simp; omega)) ?_; intro g2 c2 w4 row2 hgr2 hat2 hlt2; have hBw4 : Bx (Below wr.heap.size wr w4) := bx_grownP (by (first | with_reducible assumption | with_reducible exact bx_alloc (by with_reducible assumption) _ | with_reducible exact bx_alloc (bx_alloc (by with_reducible assumption) _) _ | with_reducible exact bx_drew (by with_reducible assumption) | with_reducible exact bx_drew (bx_alloc (by with_reducible assumption) _))) hgr2 (by intro k hk; have := row_geP HRW3.out; simp [Value.ownBlock] at hk; omega); rw [← HS2E.out, HS2l.out] at row2; rw [← HS2E.out, HS2l.out]; have HIO4 := Bx.mk (row_ioP row2 (by rw [HS2l.out]; omega)); have hz4 := bx_size hBw4; clear row2; skip)
                      | (go_at_call 27; refine (HCALL.out _ _ wr.heap.size _ (by exact HCr.out.below (Bx.out (by (first | with_reducible assumption | with_reducible exact bx_alloc (by with_reducible assumption) _ | with_reducible exact bx_alloc (bx_alloc (by with_reducible assumption) _) _ | with_reducible exact bx_drew (by with_reducible assumption) | with_reducible exact bx_drew (bx_alloc (by with_reducible assumption) _))))) (by first | exact HIO4.out | exact HIO4.out.below ((Below.refl _ _).drew) (Nat.le_refl _)) (by first | exact hz4 | exact bx_size (by (first | with_reducible assumption | with_reducible exact bx_alloc (by with_reducible assumption) _ | with_reducible exact bx_alloc (bx_alloc (by with_reducible assumption) _) _ | with_reducible exact bx_drew (by with_reducible assumption) | with_reducible exact bx_drew (bx_alloc (by with_reducible assumption) _))))).mono ?_; rintro e w5 hg5; obtain ⟨g5, c5, rfl, io5, b5⟩ := hg5; have hBw5 : Bx (Below wr.heap.size wr w5) := bx_to (by (first | with_reducible assumption | with_reducible exact bx_alloc (by with_reducible assumption) _ | with_reducible exact bx_alloc (bx_alloc (by with_reducible assumption) _) _ | with_reducible exact bx_drew (by with_reducible assumption) | with_reducible exact bx_drew (bx_alloc (by with_reducible assumption) _))) b5))
                  all_goals have HB5 := Bx.mk (HB.out.trans (hBw5.out.mono HB.out.size))
                  all_goals have HIO5 := Bx.mk (io5.mono (show base ≤ wr.heap.size by omega))
                  all_goals clear hBw5 io5
                  all_goals go_wp2_with fail
                  all_goals go_ret
                  all_goals rw [HR2.out, HST2.out]
                  all_goals exact ⟨g5, c5, rfl, HIO5.out, HB5.out⟩
              · have hmb : (((m : Int) != 0)) = true := by rw [bne_iff_ne]; omega
                have hme : (((m : Int) == 0)) = false := by rw [beq_eq_false_iff_ne]; omega
                have HNX : Bx (pnL q xs (q - (j + 1)) S T = pnL q xs r S T) := ⟨by rw [← HL.out, HST.out, if_neg hm0]⟩
                clear hm hCe hT2 hm0 HST
                go_wp2_with fail
                go_roundw
                case rel => exact ⟨j + 1, by omega, by omega, by go_num, HNX, HB⟩
                case measure => simp [intOf]; omega
            · have hje : j = q := by omega
              subst hje
              have hji : ¬ (j : Int) < (j : Int) := by omega
              have HR3 : Bx (pnP j xs r S T = none) := ⟨by rw [HR2.out, ← HL.out, Nat.sub_self]; rfl⟩
              go_wp2_with fail
              go_ret
              rw [HR3.out]
              exact ⟨rfl, HB.out⟩
        · have HR2 : Bx (pnP q xs r S T = none) := ⟨by rw [HR.out, if_neg (by rw [← HPV.out]; exact hpf)]⟩
          have hpb : (((Pv : Int) != (F : Int))) = true := by rw [bne_iff_ne]; omega
          have hpe : (((Pv : Int) == (F : Int))) = false := by rw [beq_eq_false_iff_ne]; omega
          clear hpf
          go_wp2_with fail
          go_ret
          rw [HR2.out]
          exact ⟨rfl, Below.refl _ _⟩
end Go.Proofs.YtikifkbgmniobaaGreat
