/- The first partner of a rhythm: both sides. -/
import Derived.Test.YtikifkbgmniobaaGreatPn
import Derived.Test.YtikifkbgmniobaaGreatFindO
import Derived.Test.YtikifkbgmniobaaGreatRts
import Derived.Test.YtikifkbgmniobaaGreatStdPlain
import Derived.Deep.RegionHeld3
import Derived.Deep.DeepCutAuto
namespace Go.Proofs.YtikifkbgmniobaaGreat
open Go.RowKit
set_option maxRecDepth 20000

def fpO (s : Int) (xs : List Int) : Option (List Int) := if rhOk s xs = true ∧ 0 < xs.length ∧ s % (xs.length : Int) = 0 then (ptL s.toNat xs (2 ^ s.toNat)).head? else none
def fS (n : Int) : Option (List Int) → Int | some _ => n | none => 0
def fL (o : Option (List Int)) : List Int := o.getD []
theorem fpO_no {s : Int} {xs : List Int} (h : rhOk s xs = false) : fpO s xs = none := by simp [fpO, h]
theorem fpO_nil {s : Int} {xs : List Int} (h : xs.length = 0) : fpO s xs = none := by simp [fpO, h]
theorem fpO_mod {s : Int} {xs : List Int} (h : s % (xs.length : Int) ≠ 0) : fpO s xs = none := by simp [fpO, h]
theorem fpO_in {n : Nat} {xs : List Int} (h : rhOk n xs = true) (h0 : 0 < xs.length) (hm : n % xs.length = 0) : fpO n xs = (ptL n xs (2 ^ n)).head? := by
  unfold fpO
  rw [if_pos ⟨h, h0, by rw [← Int.natCast_emod, hm]; rfl⟩, Int.toNat_natCast]
theorem fpRB_no {w w' : World} {n : Int} {o : Option (List Int)} (ho : o = none) (hb : Below w.heap.size w w') : GivesRB w (fS n o) (fL o) o.isSome (.returned (.tuple #[.agg #[.int .i64 0, .slice none 0 0], .bool false])) w' := by
  subst ho
  exact ⟨Option.none, 0, rfl, IO.nil _ _, hb⟩
def GivesRr (w : World) (s : Int) (xs : List Int) (ok : Bool) (e : Ending) (w' : World) : Prop := ∃ A c, e = .returned (.tuple #[.agg #[.int .i64 s, .slice A xs.length c], .bool ok]) ∧ RB 0 w'.heap.size w' A xs ∧ Below w.heap.size w w'
theorem fpRr_no {w w' : World} {n : Int} {o : Option (List Int)} (ho : o = none) (hb : Below w.heap.size w w') : GivesRr w (fS n o) (fL o) o.isSome (.returned (.tuple #[.agg #[.int .i64 0, .slice none 0 0], .bool false])) w' := by
  subst ho
  exact ⟨Option.none, 0, rfl, ⟨IR.nil _ _, fun h => by simp [fL] at h⟩, hb⟩
theorem eql_nil0 (w : World) : Sem.run Tryz.prog (binOp BinOp.eql 24 (.slice none 0 0) (.slice none 0 0)) w = .ok (.bool true) w := by kernel_rfl
theorem io_oneF {w : World} {base : Nat} (x : Int) (hb : base ≤ w.heap.size) : IO (w.alloc (.cells #[.int .i64 x] 3)) base (some ⟨w.heap.size, 0, none⟩) 1 [x] :=
  ⟨by simp, by simp, .inr ⟨w.heap.size, #[.int .i64 x], rfl, hb, heap_alloc_new w _, by simp, rfl⟩⟩
theorem bcell' {B : Nat} {W w1 : World} (hb : Below B W w1) : (∀ b o, b < B → w1.cell? ⟨b, o, none⟩ = W.cell? ⟨b, o, none⟩) ∧ (∀ b o, b < B → w1.frozen? ⟨b, o, none⟩ = W.frozen? ⟨b, o, none⟩) :=
  ⟨fun b o h => hb.cell (p := ⟨b, o, none⟩) h, fun b o h => hb.frozen (p := ⟨b, o, none⟩) h⟩
theorem rb_setRh {w : World} {g : Nat} {A : Option Addr} {xs : List Int} (h : RB 0 w.heap.size w A xs) (hne : ∀ x, A = some x → g < x.block) (u v : Value) : RB 0 (((w.setCell ⟨g, 0, none⟩ u).setCell ⟨g, 1, none⟩ v).heap.size) ((w.setCell ⟨g, 0, none⟩ u).setCell ⟨g, 1, none⟩ v) A xs := by
  have o : Only w ((w.setCell ⟨g, 0, none⟩ u).setCell ⟨g, 1, none⟩ v) (some ⟨g, 0, none⟩) := ((Only.refl w (some ⟨g, 0, none⟩)).set u).set v
  refine ⟨h.1.only o (fun a b ea eb => ?_), fun h0 x hx => ⟨Nat.zero_le _, Nat.lt_of_lt_of_le (h.2 h0 x hx).2 o.size⟩⟩
  injection eb with eb
  subst eb
  have := hne a ea
  show a.block ≠ g
  omega
theorem low_cell {w w' : World} {base c : Nat} {AV AV' : Option Addr} {ws : List Value} {n : Int} {L : List (List Int)} (h : Fc w base AV 0 [] n L AV' c ws w') (hl : Low base ws) : L.length = 1 → ∀ B m c', w'.cell? ⟨AV'.elim 0 (·.block), 1, none⟩ = some (.slice B m c') → ∀ x, B = some x → base ≤ x.block := by
  intro h1 B m c' hc x hx
  have ho := h.own
  rw [Nat.zero_add, List.nil_append, h1] at ho
  have hwl := h.len
  rw [h1] at hwl
  obtain ⟨v, rfl⟩ : ∃ v, ws = [v] := by
    match ws, hwl with
    | [v], _ => exact ⟨v, rfl⟩
  have hf := flatR_at (L.map fun _ => n) [v] 0 (by simp [h1])
  rcases ho.2 with ⟨_, hn⟩ | ⟨g, cap, cur, e2, hg, hh, _, _, _, ht⟩
  · omega
  · injection e2 with e2
    subst e2
    have hcc : w'.cell? ⟨g, 1, none⟩ = some v := by
      rw [cell_of_row w' g 1 cur _ (0, 0) hh]
      have h3 : (cur.toList.take (1 * 2))[1]? = some v := by rw [ht]; simpa using hf.2
      rw [List.getElem?_take, if_pos (by omega)] at h3
      simpa using h3
    have hc' : w'.cell? ⟨g, 1, none⟩ = some (.slice B m c') := hc
    rw [hcc] at hc'
    injection hc' with hc'
    obtain ⟨B2, m2, c2, e3, h3⟩ := hl v (by simp)
    rw [hc'] at e3
    injection e3 with e3
    exact h3 x (by rw [← e3]; exact hx)
set_option maxHeartbeats 2000000 in
set_option maxRecDepth 20000 in
theorem implFp_any (s : Int) (A : Option Addr) (c : Nat) (xs : List Int) (w : World) (hs : -9223372036854775808 ≤ s ∧ s ≤ 9223372036854775807) (hx : IR w A xs) :
    Calls Tryz.prog 7 #[.agg #[.int .i64 s, .slice A xs.length c]] w (GivesRB w (fS s (fpO s xs)) (fL (fpO s xs)) (fpO s xs).isSome) := by
  obtain ⟨W0, hW0⟩ : ∃ W0, W0 = (w.alloc (.cells #[.int .i64 s, .slice A xs.length c] 26)).alloc (.cells #[.int .i64 0, .slice none 0 0] 26) := ⟨_, rfl⟩
  have bw : Below w.heap.size w W0 := by rw [hW0]; exact (below_alloc _ _).alloc (by simp) _
  have hz : w.heap.size + 2 ≤ W0.heap.size := by rw [hW0]; simp
  have k0 : W0.cell? ⟨w.heap.size, 0, none⟩ = some (.int .i64 s) := by rw [hW0]; simp [go_sem]
  have k1 : W0.cell? ⟨w.heap.size, 1, none⟩ = some (.slice A xs.length c) := by rw [hW0]; simp [go_sem]
  have R0 : Blk W0 (w.heap.size + 1) 26 #[.int .i64 0, .slice none 0 0] := by rw [hW0]; have := Blk.new (w.alloc (.cells #[.int .i64 s, .slice A xs.length c] 26)) 26 #[.int .i64 0, .slice none 0 0]; simpa using this
  have HX := Bx.mk ((RB.of_ir hx).below bw (Nat.le_refl _))
  have HS := Bx.mk hs
  clear hx hs
  cases h1 : rhOk s xs with
  | false =>
    have HNO := Bx.mk (fpO_no h1)
    go_enter Tryz.func7, Tryz.ntmps7
    go_wp2_with fail
    rw [← hW0]
    clear hW0
    refine (lit_b h1 (implRhythmOk_any _ _ _ _ _ HS.out (by exact HX.out.ir))).mono ?_
    clear h1
    rintro e w1 ⟨rfl, b⟩
    replace k0 := ((bcell b).1 _ _ (by omega)).trans k0
    replace k1 := ((bcell b).1 _ _ (by omega)).trans k1
    replace HX := Bx.mk (HX.out.below b (by omega))
    replace R0 := R0.below b (by omega)
    replace bw := bw.trans (b.mono bw.size)
    replace hz := Nat.le_trans hz b.size
    clear b
    have cr0 := R0.at_ (i := 0) rfl
    have cr1 := R0.at_ (i := 1) rfl
    have fr0 := R0.frozen 0
    have fr1 := R0.frozen 1
    have RF := Bx.mk ((R0.set 0 (.int .i64 0)).set 1 (.slice none 0 0))
    have BF := Bx.mk ((bw.setCell (p := ⟨w.heap.size + 1, 0, none⟩) (show w.heap.size ≤ w.heap.size + 1 by omega) (.int .i64 0)).setCell (p := ⟨w.heap.size + 1, 1, none⟩) (show w.heap.size ≤ w.heap.size + 1 by omega) (.slice none 0 0))
    clear R0
    go_wp2_with fail
    exact bodyPost_ret (v := .tuple #[.agg #[.int .i64 0, .slice none 0 0], .bool false]) (by simp [results, Tryz.results7, go_sem, RF.out.at_ (i := 0) rfl, RF.out.at_ (i := 1) rfl]) rfl (fpRB_no HNO.out BF.out)
  | true =>
    obtain ⟨hsb, hxb, _⟩ := rhOk_iff.1 h1
    have hll := (rhOk_len h1).1
    obtain ⟨n, hn⟩ := Int.eq_ofNat_of_zero_le (show 0 ≤ s by omega)
    subst hn
    have hn1 : 1 ≤ n := by omega
    have hn24 : n ≤ 24 := by omega
    have HXB := Bx.mk hxb
    clear hxb
    by_cases h0 : xs.length = 0
    · have HNO := Bx.mk (fpO_nil (s := (n : Int)) h0)
      have h0b : (((xs.length : Int) == 0)) = true := by rw [beq_iff_eq]; omega
      clear h0
      go_enter Tryz.func7, Tryz.ntmps7
      go_wp2_with fail
      rw [← hW0]
      clear hW0
      refine (lit_b h1 (implRhythmOk_any _ _ _ _ _ HS.out (by exact HX.out.ir))).mono ?_
      clear h1
      rintro e w1 ⟨rfl, b⟩
      replace k0 := ((bcell b).1 _ _ (by omega)).trans k0
      replace k1 := ((bcell b).1 _ _ (by omega)).trans k1
      replace HX := Bx.mk (HX.out.below b (by omega))
      replace R0 := R0.below b (by omega)
      replace bw := bw.trans (b.mono bw.size)
      replace hz := Nat.le_trans hz b.size
      clear b
      have cr0 := R0.at_ (i := 0) rfl
      have cr1 := R0.at_ (i := 1) rfl
      have fr0 := R0.frozen 0
      have fr1 := R0.frozen 1
      have RF := Bx.mk ((R0.set 0 (.int .i64 0)).set 1 (.slice none 0 0))
      have BF := Bx.mk ((bw.setCell (p := ⟨w.heap.size + 1, 0, none⟩) (show w.heap.size ≤ w.heap.size + 1 by omega) (.int .i64 0)).setCell (p := ⟨w.heap.size + 1, 1, none⟩) (show w.heap.size ≤ w.heap.size + 1 by omega) (.slice none 0 0))
      clear R0
      go_wp2_with fail
      exact bodyPost_ret (v := .tuple #[.agg #[.int .i64 0, .slice none 0 0], .bool false]) (by simp [results, Tryz.results7, go_sem, RF.out.at_ (i := 0) rfl, RF.out.at_ (i := 1) rfl]) rfl (fpRB_no HNO.out BF.out)
    · have h0b : (((xs.length : Int) == 0)) = false := by rw [beq_eq_false_iff_ne]; omega
      have hxn0 : ¬ xs.length = 0 := h0
      have hxi0 : ¬ (xs.length : Int) = 0 := by omega
      have hxe : xs ≠ [] := List.ne_nil_of_length_pos (by omega)
      obtain ⟨r, hr⟩ : ∃ r : Nat, r = n % xs.length := ⟨_, rfl⟩
      have hrt : (n : Int).tmod (xs.length : Int) = (r : Int) := by rw [hr]; exact (Int.ofNat_tmod n xs.length).symm
      by_cases hr0 : r = 0
      rotate_left
      · have HNO := Bx.mk (fpO_mod (s := (n : Int)) (xs := xs) (by rw [← Int.natCast_emod, ← hr]; omega))
        have hrb : (((r : Int) != 0)) = true := by simp; omega
        have hre : (((r : Int) == 0)) = false := by rw [beq_eq_false_iff_ne]; omega
        clear hr hr0 h0
        go_enter Tryz.func7, Tryz.ntmps7
        go_wp2_with fail
        rw [← hW0]
        clear hW0
        refine (lit_b h1 (implRhythmOk_any _ _ _ _ _ HS.out (by exact HX.out.ir))).mono ?_
        clear h1
        rintro e w1 ⟨rfl, b⟩
        replace k0 := ((bcell b).1 _ _ (by omega)).trans k0
        replace k1 := ((bcell b).1 _ _ (by omega)).trans k1
        replace HX := Bx.mk (HX.out.below b (by omega))
        replace R0 := R0.below b (by omega)
        replace bw := bw.trans (b.mono bw.size)
        replace hz := Nat.le_trans hz b.size
        clear b
        have cr0 := R0.at_ (i := 0) rfl
        have cr1 := R0.at_ (i := 1) rfl
        have fr0 := R0.frozen 0
        have fr1 := R0.frozen 1
        have RF := Bx.mk ((R0.set 0 (.int .i64 0)).set 1 (.slice none 0 0))
        have BF := Bx.mk ((bw.setCell (p := ⟨w.heap.size + 1, 0, none⟩) (show w.heap.size ≤ w.heap.size + 1 by omega) (.int .i64 0)).setCell (p := ⟨w.heap.size + 1, 1, none⟩) (show w.heap.size ≤ w.heap.size + 1 by omega) (.slice none 0 0))
        clear R0
        go_wp2_with fail
        exact bodyPost_ret (v := .tuple #[.agg #[.int .i64 0, .slice none 0 0], .bool false]) (by simp [results, Tryz.results7, go_sem, RF.out.at_ (i := 0) rfl, RF.out.at_ (i := 1) rfl]) rfl (fpRB_no HNO.out BF.out)
      have hrb : (((r : Int) != 0)) = false := by simp; omega
      have hre : (((r : Int) == 0)) = true := by rw [beq_iff_eq]; omega
      have hdvd : n % xs.length = 0 := by omega
      have HFP := Bx.mk (fpO_in h1 (by omega) hdvd)
      have hd0 : drct n xs [] = true := drct_nil0 h1
      have HP1 := Bx.mk (pnP_first hn1 (by omega) h1 hd0)
      obtain ⟨o, ho⟩ : ∃ o, o = pnP n xs (n - 1) [0] (cod n xs 0) := ⟨_, rfl⟩
      have HO : Bx (fpO n xs = o) := ⟨by rw [HFP.out, ho, HP1.out]⟩
      obtain ⟨C0, hC0⟩ : ∃ C0, C0 = cod n xs 0 := ⟨_, rfl⟩
      have HCALL : Bx (∀ gC cC g c base W, IR W (some ⟨gC, 0, none⟩) (codsL n xs n) → IO W base (some ⟨g, 0, none⟩) c [0] → base ≤ W.heap.size → Calls Tryz.prog 27 #[.slice (some ⟨gC, 0, none⟩) n cC, .slice (some ⟨g, 0, none⟩) 1 c, .int .i64 C0] W (GivesOp W base o)) := ⟨fun gC cC g c base W a b d => by
        have := partner_any n xs hn1 hn24 gC 0 cC (n - 1) 0 [0] (cod n xs 0) g c base W (by omega) (by simp; omega) rfl (by simp) (cod_lt hn1 xs 0) a b d
        rw [← ho, ← hC0] at this
        exact this⟩
      have HC0 := Bx.mk hC0
      clear hr hr0 hdvd h0 hd0 ho hC0 HP1 HFP
      go_enter Tryz.func7, Tryz.ntmps7
      go_wp2_with fail
      rw [← hW0]
      clear hW0
      refine (lit_b h1 (implRhythmOk_any _ _ _ _ _ HS.out (by exact HX.out.ir))).mono ?_
      clear h1
      rintro e w1 ⟨rfl, b⟩
      replace k0 := ((bcell b).1 _ _ (by omega)).trans k0
      replace k1 := ((bcell b).1 _ _ (by omega)).trans k1
      replace HX := Bx.mk (HX.out.below b (by omega))
      replace R0 := R0.below b (by omega)
      replace bw := bw.trans (b.mono bw.size)
      replace hz := Nat.le_trans hz b.size
      clear b
      go_wp2_with fail
      go_loopw [4, 28] (fun v i wr => ∃ (k : Nat), k ≤ n ∧ i = .int .i64 k ∧ Row wr w1.heap.size v (codsL n xs k) ∧ Below w1.heap.size w1 wr) (fun _ i _ => n - (intOf i).toNat)
      case atStart => exact ⟨0, by omega, rfl, Row.nil _ _, Below.refl _ _⟩
      case round =>
        obtain ⟨k, hk, rfl, hrow, hb⟩ := hrel
        have hlen : (codsL n xs k).length ≤ 24 := by rw [codsL_len]; omega
        have q0 := ((bcell hb).1 _ _ (by omega)).trans k0
        have q1 := ((bcell hb).1 _ _ (by omega)).trans k1
        have HXr := Bx.mk (HX.out.below hb (by omega)).ir
        have hzr := hb.size
        have HOW := Bx.mk hrow
        have HBW := Bx.mk hb
        have hwr : w.heap.size < wr.heap.size := by omega
        by_cases hlt : k < n
        · have hlti : (k : Int) < n := by omega
          obtain ⟨RL, hRL⟩ : ∃ RL, RL = rotL n xs (k : Int) := ⟨_, rfl⟩
          have hrb' : ∀ y ∈ RL, 0 ≤ y ∧ y < n := by rw [hRL]; exact rotL_bd hn1
          obtain ⟨C, hC⟩ : ∃ C, C = cod n xs (k : Int) := ⟨_, rfl⟩
          have hRC : codeN n RL = C := by rw [hC, hRL]; rfl
          have HRO : Bx (∀ c W, IR W A xs → Calls Tryz.prog 25 #[.agg #[.int .i64 n, .slice A xs.length c], .int .i64 k] W (GivesRh W n RL)) := ⟨fun c W h => by rw [hRL]; exact rotated_any n A c xs k W ⟨by omega, by omega⟩ (fun x hx => by have := HXB.out x hx; omega) (by omega) (by omega) h⟩
          have hRLl : RL.length ≤ 24 := by rw [hRL]; have h1 := coll_len (modL n (addL (k : Int) xs)); have h2 : (modL n (addL (k : Int) xs)).length = xs.length := (by simp [modL, addL]); rw [h2] at h1; unfold rotL; omega
          have HCD : Bx (∀ A c W, IR W A RL → Calls Tryz.prog 26 #[.agg #[.int .i64 n, .slice A RL.length c]] W fun e w' => e = .returned (.int .i64 C) ∧ Below W.heap.size W w') := ⟨fun A c W h => by rw [← hRC]; exact codeN_any n A c RL W hn1 hn24 hrb' (by omega) h⟩
          have HSU : Bx (codsL n xs (k + 1) = codsL n xs k ++ [(C : Int)]) := ⟨by rw [codsL_succ, hC]⟩
          clear hRL hrb' hC hRC hrow hb
          go_wp2_with fail
          refine (HRO.out _ _ (by exact HXr.out)).mono ?_
          rintro e w2 ⟨A2, c2, rfl, io2, b2⟩
          replace q0 := ((bcell b2).1 _ _ hwr).trans q0
          replace q1 := ((bcell b2).1 _ _ hwr).trans q1
          have HI2 := Bx.mk io2.reads
          replace HBW := Bx.mk (HBW.out.trans (b2.mono hzr))
          replace HOW := Bx.mk (HOW.out.below b2 (Nat.le_refl _))
          have hz2 := HBW.out.size
          have hwr2 : w.heap.size < w2.heap.size := by omega
          clear b2 io2
          go_wp2_with fail
          refine (HCD.out _ _ _ (by exact HI2.out)).mono ?_
          rintro e w3 ⟨rfl, b3⟩
          replace q0 := ((bcell b3).1 _ _ hwr2).trans q0
          replace q1 := ((bcell b3).1 _ _ hwr2).trans q1
          replace HBW := Bx.mk (HBW.out.trans (b3.mono hz2))
          replace HOW := Bx.mk (HOW.out.below b3 (Nat.le_refl _))
          have hz3 := HBW.out.size
          clear b3
          obtain ⟨LC, hLC⟩ : ∃ LC, LC = codsL n xs k := ⟨_, rfl⟩
          rw [← hLC] at HOW HSU hlen
          clear hLC
          go_wp2_with (at_builtin; go_must (refine wpList_app1 rfl _ _ rfl w1.heap.size _ LC (C : Int) rfl rfl (by exact HOW.out) (by omega) (by exact hz3) ?_); intro v1 w4 hown1 hb1)
          have HO4 := Bx.mk hown1
          have HB4 := Bx.mk (HBW.out.trans hb1)
          clear hown1 hb1
          go_wp2_with fail
          go_roundw
          case rel => exact ⟨k + 1, by omega, by go_num, by rw [HSU.out]; exact HO4.out, HB4.out⟩
          case measure => simp [intOf]; omega
        · have hke : k = n := by omega
          subst hke
          have hlti : ¬ (k : Int) < k := by omega
          obtain ⟨gC, cC, rfl⟩ : ∃ gC cC, u4 = .slice (some ⟨gC, 0, none⟩) (codsL k xs k).length cC := by
            rcases hrow.2 with ⟨_, h⟩ | ⟨g, cap, cur, e, _⟩
            · rw [codsL_len] at h; omega
            · exact ⟨g, cap, e⟩
          have HIR := Bx.mk (row_ioP hrow (by omega)).reads
          have hcl : wr.cell? ⟨gC, 0, none⟩ = some (.int .i64 (C0 : Int)) := by
            obtain ⟨b', o', e, _, hc⟩ := HIR.out.at_ (by rw [codsL_len]; omega)
            injection e with e; injection e with e1 e2
            subst e1 e2
            have := hc 0 (by rw [codsL_len]; omega)
            rw [codsL_at (by omega)] at this
            rw [HC0.out]; exact this
          have hgC : gC < wr.heap.size := by
            obtain ⟨b', o', e, hb', hc⟩ := HIR.out.at_ (by rw [codsL_len]; omega)
            injection e with e; injection e with e1 e2
            subst e1 e2
            exact hb'
          rw [codsL_len]
          have HIRa := Bx.mk (HIR.out.alloc (.cells #[.int .i64 0] 3))
          have HIOa := Bx.mk (io_oneF (w := wr) (base := w.heap.size + 2) 0 (by omega))
          have RR := Bx.mk (R0.below hb (by omega))
          have bwr := bw.trans (hb.mono bw.size)
          have hzz : w.heap.size + 2 ≤ (wr.alloc (.cells #[.int .i64 0] 3)).heap.size := by simp; omega
          clear hrow HOW HBW hb R0
          go_wp2_with fail
          refine (HCALL.out _ _ _ _ (w.heap.size + 2) _ (by exact HIRa.out) (by exact HIOa.out) hzz).mono ?_
          have ba : Below wr.heap.size wr (wr.alloc (.cells #[.int .i64 0] 3)) := below_alloc _ _
          cases o with
          | none =>
            rintro e w5 ⟨rfl, b5⟩
            have HNO := HO
            have b6 := ba.trans (b5.mono (by simp))
            have R0 := RR.out.below b6 (by omega)
            have bw := bwr.trans (b6.mono bwr.size)
            have q0 := ((bcell b6).1 _ _ hwr).trans q0
            have q1 := ((bcell b6).1 _ _ hwr).trans q1
            have hq1 := eql_nil0
            clear b5 b6 ba
            have cr0 := R0.at_ (i := 0) rfl
            have cr1 := R0.at_ (i := 1) rfl
            have fr0 := R0.frozen 0
            have fr1 := R0.frozen 1
            have RF := Bx.mk ((R0.set 0 (.int .i64 0)).set 1 (.slice none 0 0))
            have BF := Bx.mk ((bw.setCell (p := ⟨w.heap.size + 1, 0, none⟩) (show w.heap.size ≤ w.heap.size + 1 by omega) (.int .i64 0)).setCell (p := ⟨w.heap.size + 1, 1, none⟩) (show w.heap.size ≤ w.heap.size + 1 by omega) (.slice none 0 0))
            clear R0
            go_wp2_with fail
            exact bodyPost_ret (v := .tuple #[.agg #[.int .i64 0, .slice none 0 0], .bool false]) (by simp [results, Tryz.results7, go_sem, RF.out.at_ (i := 0) rfl, RF.out.at_ (i := 1) rfl]) rfl (fpRB_no HNO.out BF.out)
          | some Lf =>
            rintro e w5 ⟨g5, c5, rfl, io5, b5⟩
            have b6 := ba.trans (b5.mono (by simp))
            have R0 := RR.out.below b6 (by omega)
            have bw := bwr.trans (b6.mono bwr.size)
            have q0 := ((bcell b6).1 _ _ hwr).trans q0
            have q1 := ((bcell b6).1 _ _ hwr).trans q1
            have hq1 := eql_nil
            have cr0 := R0.at_ (i := 0) rfl
            have cr1 := R0.at_ (i := 1) rfl
            have fr0 := R0.frozen 0
            have fr1 := R0.frozen 1
            have RF := Bx.mk ((R0.set 0 (.int .i64 k)).set 1 (.slice (some ⟨g5, 0, none⟩) Lf.length c5))
            have BF := Bx.mk ((bw.setCell (p := ⟨w.heap.size + 1, 0, none⟩) (show w.heap.size ≤ w.heap.size + 1 by omega) (.int .i64 k)).setCell (p := ⟨w.heap.size + 1, 1, none⟩) (show w.heap.size ≤ w.heap.size + 1 by omega) (.slice (some ⟨g5, 0, none⟩) Lf.length c5))
            have HIO := Bx.mk ((io5.setLow (p := ⟨w.heap.size + 1, 0, none⟩) (show w.heap.size + 1 < w.heap.size + 2 by omega) (.int .i64 k)).setLow (p := ⟨w.heap.size + 1, 1, none⟩) (show w.heap.size + 1 < w.heap.size + 2 by omega) (.slice (some ⟨g5, 0, none⟩) Lf.length c5))
            clear R0 io5 b5 b6 ba
            go_wp2_with fail
            rw [HO.out]
            exact bodyPost_ret (v := .tuple #[.agg #[.int .i64 k, .slice (some ⟨g5, 0, none⟩) Lf.length c5], .bool true]) (by simp [results, Tryz.results7, go_sem, RF.out.at_ (i := 0) rfl, RF.out.at_ (i := 1) rfl]) rfl ⟨_, c5, rfl, HIO.out.mono (by omega), BF.out⟩
end Go.Proofs.YtikifkbgmniobaaGreat
