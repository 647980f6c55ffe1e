/- A generated rhythm with one beat more at the end of its chain: both sides. -/
import Derived.Test.YtpejnhcmelkmeaaChain
import Derived.Test.YtpejnhcmelkmeaaStepKeep
import Derived.Test.YtpejnhcmelkmeaaRts
import Derived.Deep.RegionHeld3
import Derived.Deep.DeepCutAuto
import Derived.Deep.QuietTactic
import Derived.BigQuiet
namespace Go.Proofs.Ytpejnhcmelkmeaa
open Go.RowKit

def extP (s : Int) (xs : List Int) (g : Int) : Int := (chainR s xs g)[(chainR s xs g).length - 1]?.getD 0 + g
def extOk (s : Int) (xs : List Int) (g : Int) : Bool := decide (0 < (chainR s xs g).length) && !hasR s xs (extP s xs g)
def extS (s : Int) (xs : List Int) (g : Int) : Int := if extOk s xs g = true then s else 0
def extL (s : Int) (xs : List Int) (g : Int) : List Int := if extOk s xs g = true then coll (modL s (chainR s xs g ++ [extP s xs g])) else []
theorem GivesRB.eno {w w' : World} {s : Int} {xs : List Int} {g : Int} (h : extOk s xs g = false) (hb : Below w.heap.size w w') : GivesRB w (extS s xs g) (extL s xs g) (extOk s xs g) (.returned (.tuple #[.agg #[.int .i64 0, .slice none 0 0], .bool false])) w' := by
  have h1 : extS s xs g = 0 := by simp [extS, h]
  have h2 : extL s xs g = [] := by simp [extL, h]
  rw [h1, h2, h]
  exact ⟨none, 0, rfl, IO.nil _ _, hb⟩
theorem GivesRB.eyes {w w' : World} {s : Int} {xs : List Int} {g : Int} {A : Option Addr} {c : Nat} {L : List Int} (h : extOk s xs g = true) (hL : extL s xs g = L) (io : IO w' w.heap.size A c L) (hb : Below w.heap.size w w') : GivesRB w (extS s xs g) (extL s xs g) (extOk s xs g) (.returned (.tuple #[.agg #[.int .i64 s, .slice A L.length c], .bool true])) w' := by
  have h1 : extS s xs g = s := by simp [extS, h]
  rw [h1, hL, h]
  exact ⟨A, c, rfl, io, hb⟩
theorem chain_mod {s : Int} {xs : List Int} {g : Int} (hs : 0 < s) : modL s (chainR s xs g) = chainR s xs g := by
  have hb : ∀ x ∈ chainR s xs g, 0 ≤ x ∧ x < s := by
    intro x hx
    unfold chainR at hx
    split at hx
    · exact chL_bd hs x hx
    · simp at hx
  unfold modL
  conv => rhs; rw [← List.map_id (chainR s xs g)]
  refine List.map_congr_left fun x hx => ?_
  have := hb x hx
  exact Int.emod_eq_of_lt this.1 this.2
theorem chain_bd {s : Int} {xs : List Int} {g : Int} (h : 0 < (chainR s xs g).length) : rhOk s xs = true ∧ 1 ≤ g ∧ g < s ∧ ∀ i, i < (chainR s xs g).length → 0 ≤ (chainR s xs g)[i]?.getD 0 ∧ (chainR s xs g)[i]?.getD 0 < s := by
  unfold chainR at h ⊢
  split at h
  · rename_i hm
    rw [if_pos hm]
    obtain ⟨h1, h2, h3⟩ := gens_mem hm
    have hs := (rhOk_iff.1 h1).1
    refine ⟨h1, h2, h3, fun i hi => ?_⟩
    rw [List.getElem?_eq_getElem hi]
    exact chL_bd (by omega) _ (List.getElem_mem hi)
  · simp at h
theorem modL_app (s : Int) (xs ys : List Int) : modL s (xs ++ ys) = modL s xs ++ modL s ys := by simp [modL]
theorem ext_sel {n : Nat} {xs : List Int} {g : Int} (hn : 1 ≤ n) : coll (modL n (chainR n xs g ++ [extP n xs g])) = selTo (memB (chainR n xs g ++ [extP n xs g % n])) n := by
  rw [modL_app, chain_mod (by omega)]
  refine coll_sel fun x hx => ?_
  rcases List.mem_append.1 hx with hx | hx
  · unfold chainR at hx
    split at hx
    · exact chL_bd (by omega) x hx
    · simp at hx
  · simp [modL] at hx
    subst hx
    exact ⟨Int.emod_nonneg _ (by omega), Int.emod_lt_of_pos _ (by omega)⟩
set_option maxHeartbeats 1000000 in
set_option maxRecDepth 20000 in
theorem implExt_any (s : Int) (A : Option Addr) (c : Nat) (xs : List Int) (g : Int) (w : World) (hs : -9223372036854775808 ≤ s ∧ s ≤ 9223372036854775807) (hx : IR w A xs) :
    Calls Try.prog 17 #[.agg #[.int .i64 s, .slice A xs.length c], .int .i64 g] w (GivesRB w (extS s xs g) (extL s xs g) (extOk s xs g)) := by
  obtain ⟨W0, hW0⟩ : ∃ W0, W0 = (w.alloc (.cells #[.int .i64 s, .slice A xs.length c] 26)).alloc (.cells #[.int .i64 0, .slice none 0 0] 26) := ⟨_, rfl⟩
  have bw : Below w.heap.size w W0 := by rw [hW0]; exact (below_alloc _ _).alloc (by simp) _
  have hz : w.heap.size + 2 ≤ W0.heap.size := by rw [hW0]; simp
  have k0 : W0.cell? ⟨w.heap.size, 0, none⟩ = some (.int .i64 s) := by rw [hW0]; simp [go_sem]
  have k1 : W0.cell? ⟨w.heap.size, 1, none⟩ = some (.slice A xs.length c) := by rw [hW0]; simp [go_sem]
  have R0 : Blk W0 (w.heap.size + 1) 26 #[.int .i64 0, .slice none 0 0] := by rw [hW0]; have := Blk.new (w.alloc (.cells #[.int .i64 s, .slice A xs.length c] 26)) 26 #[.int .i64 0, .slice none 0 0]; simpa using this
  have HX := Bx.mk ((RB.of_ir hx).below bw (Nat.le_refl _))
  have HS := Bx.mk hs
  clear hx hs
  have hcl := chainR_len s xs g
  have HCB := Bx.mk (chain_bd (s := s) (xs := xs) (g := g))
  have HSEL := Bx.mk (fun (n : Nat) (h : 1 ≤ n) (e : (n : Int) = s) => (e ▸ ext_sel (n := n) (xs := xs) (g := g) h : coll (modL s (chainR s xs g ++ [extP s xs g])) = selTo (memB (chainR s xs g ++ [extP s xs g % s])) n))
  obtain ⟨C, hC⟩ : ∃ C, C = chainR s xs g := ⟨_, rfl⟩
  have HST : Bx (∀ c W, IR W A xs → Calls Try.prog 10 #[.agg #[.int .i64 s, .slice A xs.length c], .int .i64 g] W (GivesRw W C)) := ⟨fun c W h => by rw [hC]; exact implChain_any s A c xs g W HS.out h⟩
  obtain ⟨p, hp⟩ : ∃ p, p = extP s xs g := ⟨_, rfl⟩
  have HP : Bx (p = C[C.length - 1]?.getD 0 + g) := ⟨by rw [hp, hC]; rfl⟩
  have HOK : Bx (extOk s xs g = (decide (0 < C.length) && !hasR s xs p)) := ⟨by rw [hp, hC]; rfl⟩
  have HL : Bx (extOk s xs g = true → extL s xs g = coll (modL s (C ++ [p]))) := ⟨fun h => by unfold extL; rw [if_pos h, hp, hC]⟩
  rw [← hC, ← hp] at HSEL
  rw [← hC] at hcl HCB
  clear hC hp
  by_cases h0 : C.length = 0
  · have HNO : Bx (extOk s xs g = false) := ⟨by rw [HOK.out, h0]; rfl⟩
    have hC0 : C = [] := List.eq_nil_of_length_eq_zero h0
    subst hC0
    go_enter Try.func17, Try.ntmps17
    go_wp2_with fail
    rw [← hW0]
    clear hW0
    refine (HST.out _ _ (by exact HX.out.ir)).mono ?_
    rintro e w1 ⟨v1, rfl, hr, b⟩
    have hb0 := Bx.mk (show W0.heap.size ≤ w1.heap.size from b.size)
    have HROW := Bx.mk (hr.low (show w.heap.size + 2 ≤ W0.heap.size by omega))
    clear hr HST
    replace k0 := ((bcell b).1 _ _ (by omega)).trans k0
    replace k1 := ((bcell b).1 _ _ (by omega)).trans k1
    replace HX := Bx.mk (HX.out.below b (by omega))
    replace R0 := R0.below b (by omega)
    replace bw := bw.trans (b.mono bw.size)
    replace hz := Nat.le_trans hz b.size
    clear b
    obtain ⟨A1, c1, rfl⟩ := HROW.out.slice
    go_upto_region 2 with (fail)
    go_quiet (fail)
    have bwq := bdrewN bw nq
    have R0q : Blk (w1.drewN nq) (w.heap.size + 1) 26 #[.int .i64 0, .slice none 0 0] := R0
    have cr0 := R0q.at_ (i := 0) rfl
    have cr1 := R0q.at_ (i := 1) rfl
    have fr0 := R0q.frozen 0
    have fr1 := R0q.frozen 1
    have RF := Bx.mk ((R0q.set 0 (.int .i64 0)).set 1 (.slice none 0 0))
    have BF := Bx.mk ((bwq.setCell (p := ⟨w.heap.size + 1, 0, none⟩) (show w.heap.size ≤ w.heap.size + 1 by omega) (.int .i64 0)).setCell (p := ⟨w.heap.size + 1, 1, none⟩) (show w.heap.size ≤ w.heap.size + 1 by omega) (.slice none 0 0))
    clear R0 R0q
    go_wp2_with fail
    refine bodyPost_ret (v := .tuple #[.agg #[.int .i64 0, .slice none 0 0], .bool false]) (by simp [results, Try.results17, go_sem, RF.out.at_ (i := 0) rfl, RF.out.at_ (i := 1) rfl]) rfl (GivesRB.eno HNO.out BF.out)
  · have hC0 : 0 < C.length := by omega
    obtain ⟨hok, hg1, hg2, hcb⟩ := HCB.out hC0
    obtain ⟨hs1, hs2⟩ := (rhOk_iff.1 hok).1
    have hs12 : 1 ≤ s ∧ s ≤ 24 := ⟨hs1, hs2⟩
    obtain ⟨m, hm⟩ : ∃ m, m = C.length - 1 := ⟨_, rfl⟩
    have hml : m < C.length := by omega
    have hzb := hcb m hml
    obtain ⟨z, hz'⟩ : ∃ z, z = C[m]?.getD 0 := ⟨_, rfl⟩
    rw [← hm, ← hz'] at HP
    rw [← hz'] at hzb
    obtain ⟨hz1, hz2⟩ := hzb
    have hpe := HP.out
    subst hpe
    have HHX : Bx (extOk s xs g = !hasR s xs (z + g)) := ⟨by rw [HOK.out, show decide (0 < C.length) = true from decide_eq_true hC0]; rfl⟩
    have HCBB : Bx (∀ x ∈ C ++ [z + g], -1000000000000 ≤ x ∧ x ≤ 1000000000000) := ⟨fun x hx => by
      rcases List.mem_append.1 hx with hx | hx
      · obtain ⟨i, hi, rfl⟩ := List.getElem_of_mem hx
        have := hcb i hi
        rw [List.getElem?_eq_getElem hi] at this
        simp only [Option.getD_some] at this
        omega
      · simp at hx; omega⟩
    have hmw : IntKind.i64.wrap ((C.length : Int) - 1) = (m : Int) := (IntWalk.i64_in _ (by omega)).trans (by omega)
    have hmi : (m : Int) < (C.length : Int) := by omega
    have hzg : IntKind.i64.wrap (z + g) = z + g := IntWalk.i64_in _ (by omega)
    have HME := Bx.mk hm
    have hcne : (((C.length : Int) == 0)) = false := by rw [beq_eq_false_iff_ne]; omega
    have h0i : ¬ (C.length : Int) = 0 := by omega
    clear hcb HCB HOK h0 hok
    have HZ := Bx.mk hz'
    clear hz' hm
    cases hh : hasR s xs (z + g) with
    | true =>
      have HNO : Bx (extOk s xs g = false) := ⟨by rw [HHX.out, hh]; rfl⟩
      have HH : Bx (∀ cc W, IR W A xs → Calls Try.prog 34 #[.agg #[.int .i64 s, .slice A xs.length cc], .int .i64 (z + g)] W fun e w' => e = .returned (.bool true) ∧ Below W.heap.size W w') := ⟨fun cc W h => by rw [← hh]; exact has_any s A cc xs (z + g) W hs12 (by omega) h⟩
      clear hh
      go_enter Try.func17, Try.ntmps17
      go_wp2_with fail
      rw [← hW0]
      clear hW0
      refine (HST.out _ _ (by exact HX.out.ir)).mono ?_
      rintro e w1 ⟨v1, rfl, hr, b⟩
      have hb0 := Bx.mk (show W0.heap.size ≤ w1.heap.size from b.size)
      have HROW := Bx.mk (hr.low (show w.heap.size + 2 ≤ W0.heap.size by omega))
      clear hr HST
      replace k0 := ((bcell b).1 _ _ (by omega)).trans k0
      replace k1 := ((bcell b).1 _ _ (by omega)).trans k1
      replace HX := Bx.mk (HX.out.below b (by omega))
      replace R0 := R0.below b (by omega)
      replace bw := bw.trans (b.mono bw.size)
      replace hz := Nat.le_trans hz b.size
      clear b
      obtain ⟨A1, c1, e1, io⟩ := HROW.out.io (by omega)
      subst e1
      obtain ⟨gC, hgE⟩ : ∃ g, A1 = some ⟨g, 0, none⟩ := by
        rcases io.2.2 with ⟨_, e⟩ | ⟨g, cur, e, _⟩
        · rw [e] at hC0; simp at hC0
        · exact ⟨g, e⟩
      subst hgE
      obtain ⟨gC', oC, eA, hgC, hcC⟩ := io.reads.at_ hC0
      injection eA with eA
      injection eA with e1 e2
      subst e1 e2
      have cm := hcC m hml
      rw [Nat.zero_add] at cm
      rw [← HZ.out] at cm
      clear hcC io
      go_upto_region 2 with (fail)
      have hB0 : Bx (Below w1.heap.size w1 w1) := ⟨Below.refl _ _⟩
      have hBd := bx_drew hB0
      go_region_held3 (fun w' => w'.cell? ⟨w.heap.size, 0, none⟩ = some (.int .i64 s) ∧ w'.cell? ⟨w.heap.size, 1, none⟩ = some (.slice A xs.length c) ∧ w'.cell? ⟨gC, m, none⟩ = some (.int .i64 z) ∧ Bx (Below w1.heap.size w1 w'))
        ((refine (fun (hK : Bx (Below w1.heap.size w1 _)) => ⟨((bcell hK.out).1 _ _ (by omega)).trans k0, ((bcell hK.out).1 _ _ (by omega)).trans k1, ((bcell hK.out).1 _ _ hgC).trans cm, hK⟩) ?_; first | assumption | exact bx_alloc (by assumption) _ | exact bx_drew (by assumption)))
        (first
          | (go_at_call 34; refine (HH.out _ _ (HX.out.below (Bx.out (by first | assumption | exact bx_drew (by assumption))) (by omega)).ir).mono ?_; rintro e w2 ⟨rfl, b2⟩; have hBw2 : Bx (Below w1.heap.size w1 w2) := bx_to (by first | assumption | exact bx_drew (by assumption)) b2))
      clear hB0 hBd
      have R2 := R0.below hBw2.out (by omega)
      have bw2 := bw.trans (hBw2.out.mono bw.size)
      have hz2w := hBw2.out.size
      have cr0 := R2.at_ (i := 0) rfl
      have cr1 := R2.at_ (i := 1) rfl
      have fr0 := R2.frozen 0
      have fr1 := R2.frozen 1
      have RF := Bx.mk ((R2.set 0 (.int .i64 0)).set 1 (.slice none 0 0))
      have BF := Bx.mk ((bw2.setCell (p := ⟨w.heap.size + 1, 0, none⟩) (show w.heap.size ≤ w.heap.size + 1 by omega) (.int .i64 0)).setCell (p := ⟨w.heap.size + 1, 1, none⟩) (show w.heap.size ≤ w.heap.size + 1 by omega) (.slice none 0 0))
      clear R0 R2
      go_wp2_with fail
      refine bodyPost_ret (v := .tuple #[.agg #[.int .i64 0, .slice none 0 0], .bool false]) (by simp [results, Try.results17, go_sem, RF.out.at_ (i := 0) rfl, RF.out.at_ (i := 1) rfl]) rfl (GivesRB.eno HNO.out BF.out)
    | false =>
      have HYES : Bx (extOk s xs g = true) := ⟨by rw [HHX.out, hh]; rfl⟩
      have HLL := Bx.mk (HL.out HYES.out)
      have HH : Bx (∀ cc W, IR W A xs → Calls Try.prog 34 #[.agg #[.int .i64 s, .slice A xs.length cc], .int .i64 (z + g)] W fun e w' => e = .returned (.bool false) ∧ Below W.heap.size W w') := ⟨fun cc W h => by rw [← hh]; exact has_any s A cc xs (z + g) W hs12 (by omega) h⟩
      obtain ⟨L, hL⟩ : ∃ L, L = coll (modL s (C ++ [z + g])) := ⟨_, rfl⟩
      have HRO : Bx (∀ A' c' W, IR W A' (C ++ [z + g]) → Calls Try.prog 26 #[.int .i64 s, .slice A' (C.length + 1) c'] W (GivesRh W s L)) := ⟨fun A' c' W h => by
        have := rhythmOf_any s A' c' (C ++ [z + g]) W hs12 HCBB.out (by simp; omega) h
        rw [show (C ++ [z + g]).length = C.length + 1 by simp, ← hL] at this
        exact this⟩
      rw [← hL] at HLL
      clear hh hL
      go_enter Try.func17, Try.ntmps17
      go_wp2_with fail
      rw [← hW0]
      clear hW0
      refine (HST.out _ _ (by exact HX.out.ir)).mono ?_
      rintro e w1 ⟨v1, rfl, hr, b⟩
      have hb0 := Bx.mk (show W0.heap.size ≤ w1.heap.size from b.size)
      have HROW := Bx.mk (hr.low (show w.heap.size + 2 ≤ W0.heap.size by omega))
      clear hr HST
      replace k0 := ((bcell b).1 _ _ (by omega)).trans k0
      replace k1 := ((bcell b).1 _ _ (by omega)).trans k1
      replace HX := Bx.mk (HX.out.below b (by omega))
      replace R0 := R0.below b (by omega)
      replace bw := bw.trans (b.mono bw.size)
      replace hz := Nat.le_trans hz b.size
      clear b
      obtain ⟨A1, c1, e1, io⟩ := HROW.out.io (by omega)
      subst e1
      obtain ⟨gC, hgE⟩ : ∃ g, A1 = some ⟨g, 0, none⟩ := by
        rcases io.2.2 with ⟨_, e⟩ | ⟨g, cur, e, _⟩
        · rw [e] at hC0; simp at hC0
        · exact ⟨g, e⟩
      subst hgE
      obtain ⟨gC', oC, eA, hgC, hcC⟩ := io.reads.at_ hC0
      injection eA with eA
      injection eA with e1 e2
      subst e1 e2
      have cm := hcC m hml
      rw [Nat.zero_add] at cm
      rw [← HZ.out] at cm
      clear hcC io
      go_upto_region 2 with (fail)
      have hB0 : Bx (Below w1.heap.size w1 w1) := ⟨Below.refl _ _⟩
      have hBd := bx_drew hB0
      go_region_held3 (fun w' => w'.cell? ⟨w.heap.size, 0, none⟩ = some (.int .i64 s) ∧ w'.cell? ⟨w.heap.size, 1, none⟩ = some (.slice A xs.length c) ∧ w'.cell? ⟨gC, m, none⟩ = some (.int .i64 z) ∧ Bx (Below w1.heap.size w1 w'))
        ((refine (fun (hK : Bx (Below w1.heap.size w1 _)) => ⟨((bcell hK.out).1 _ _ (by omega)).trans k0, ((bcell hK.out).1 _ _ (by omega)).trans k1, ((bcell hK.out).1 _ _ hgC).trans cm, hK⟩) ?_; first | assumption | exact bx_alloc (by assumption) _ | exact bx_drew (by assumption)))
        (first
          | (go_at_call 34; refine (HH.out _ _ (HX.out.below (Bx.out (by first | assumption | exact bx_drew (by assumption))) (by omega)).ir).mono ?_; rintro e w2 ⟨rfl, b2⟩; have hBw2 : Bx (Below w1.heap.size w1 w2) := bx_to (by first | assumption | exact bx_drew (by assumption)) b2))
      clear hB0 hBd
      have R2 := R0.below hBw2.out (by omega)
      have bw2 := bw.trans (hBw2.out.mono bw.size)
      have hz2w := hBw2.out.size
      have HROW2 := Bx.mk (HROW.out.below hBw2.out (Nat.le_refl _))
      have q0 := ((bcell hBw2.out).1 _ _ (by omega)).trans k0
      have q1 := ((bcell hBw2.out).1 _ _ (by omega)).trans k1
      have qm := ((bcell hBw2.out).1 _ _ hgC).trans cm
      have hgC2 : gC < w2.heap.size := by omega
      clear HROW
      go_upto_region 4 with (fail)
      have hgCb : w.heap.size + 2 ≤ gC := by
        rcases HROW2.out.2 with ⟨e, _⟩ | ⟨g', cap', cur', e, hg', _⟩
        · cases e
        · injection e with e; injection e with e; injection e with e; omega
      have hB0 : Bx (Below (w.heap.size + 1) w2 w2) := ⟨Below.refl _ _⟩
      have hBd : Bx (Below (w.heap.size + 1) w2 w2.drew) := ⟨(Below.refl _ _).drew⟩
      have hRd : Bx (Row w2.drew (w.heap.size + 2) (.slice (some ⟨gC, 0, none⟩) C.length c1) C) := ⟨HROW2.out⟩
      have hK0 : Bx (w2.cell? ⟨gC, m, none⟩ = some (.int .i64 z)) := ⟨qm⟩
      have hK1 : Bx (w2.drew.cell? ⟨gC, m, none⟩ = some (.int .i64 z)) := ⟨qm⟩
      have HR2 := Bx.mk R2
      have hw2z : w.heap.size + 2 ≤ w2.heap.size := by omega
      clear R2 R0 HX HH
      go_region_held3 (fun w' => w'.cell? ⟨w.heap.size, 0, none⟩ = some (.int .i64 s) ∧ w'.cell? ⟨gC, m, none⟩ = some (.int .i64 z) ∧ Bx (Below (w.heap.size + 1) w2 w'))
        ((refine (fun (hK : Bx (Below (w.heap.size + 1) w2 _) ∧ Bx (_ = _)) => ⟨((bcell hK.1.out).1 _ _ (by omega)).trans q0, hK.2.out, hK.1⟩) ?_; refine ⟨?_, ?_⟩ <;> first | assumption | exact ⟨Below.alloc (Bx.out (by assumption)) (by simp; omega) _⟩ | exact ⟨Below.drew (Bx.out (by assumption))⟩ | exact ⟨(World.cell?_of_block (Below.heap_alloc _ _ _ (by simp; omega))).trans qm⟩ | exact ⟨Below.setCell (p := ⟨w.heap.size + 1, 1, none⟩) (Below.setCell (p := ⟨w.heap.size + 1, 0, none⟩) (Bx.out (by assumption)) (Nat.le_refl _) _) (Nat.le_refl _) _⟩ | exact ⟨((World.cell?_of_block (Below.heap_setCell _ _ _ gC (by simp; omega))).trans (World.cell?_of_block (Below.heap_setCell _ _ _ gC (by simp; omega)))).trans hKw4.out⟩))
        (first
          | (go_at_call 26; refine (HRO.out _ _ _ HR3.out).mono ?_; rintro e w4 ⟨A4, c4, rfl, io4, b4⟩; have hBs4 : Bx (Below (w.heap.size + 2) w2 w4) := ⟨hBs3.out.trans (b4.mono (Nat.le_trans hw2z hBs3.out.size))⟩; have hBw4 : Bx (Below (w.heap.size + 1) w2 w4) := ⟨hBs4.out.mono (by omega)⟩; have hKw4 : Bx (w4.cell? ⟨gC, m, none⟩ = some (.int .i64 z)) := ⟨((bcell b4).1 _ _ (Nat.lt_of_lt_of_le hgC2 hBw3.out.size)).trans hKw3.out⟩; have R4 := HR2.out.below hBs4.out (by omega); have cr0 := R4.at_ (i := 0) rfl; have cr1 := R4.at_ (i := 1) rfl; have fr0 := R4.frozen 0; have fr1 := R4.frozen 1; have HR4 := Bx.mk R4; have HIO4 := Bx.mk (io4.mono (Nat.le_trans hw2z hBs3.out.size)); have hz4 : w.heap.size + 2 ≤ w4.heap.size := Nat.le_trans hw2z hBs4.out.size; clear R4 io4 b4)
          | (refine step_appK (by rfl) _ _ (by rfl) (w.heap.size + 2) gC C.length c1 C (by rfl) (by exact hRd.out.alloc _) _ 0 1 [z + g] (by rfl) (ir_one (by refine blk_undrew ?_; exact blk_eq rfl)) rfl (by simp) (by simp; omega) (by first | (simp; done) | (simp; omega)) ?_; intro g3 cap3 w3 hrow3 hgr3 hlt3 hke3; have hBs3 : Bx (Below (w.heap.size + 2) w2 w3) := ⟨((Below.refl _ _).drew).trans (below_of_row hRd.out _ hgr3 (by simp; omega))⟩; have hBw3 : Bx (Below (w.heap.size + 1) w2 w3) := ⟨hBs3.out.mono (by omega)⟩; have hKw3 : Bx (w3.cell? ⟨gC, m, none⟩ = some (.int .i64 z)) := ⟨(hke3 m hml).trans ((World.cell?_of_block (Below.heap_alloc _ _ _ (by simp; omega))).trans qm)⟩; have HR3 := Bx.mk (IO.reads (hrow3.io' rfl (by simp; omega))); clear hrow3 hgr3 hke3))
      have RF := Bx.mk ((HR4.out.set 0 (.int .i64 s)).set 1 (.slice A4 L.length c4))
      have BF := Bx.mk (((bw2.trans (hBs4.out.mono (by omega))).setCell (p := ⟨w.heap.size + 1, 0, none⟩) (show w.heap.size ≤ w.heap.size + 1 by omega) (.int .i64 s)).setCell (p := ⟨w.heap.size + 1, 1, none⟩) (show w.heap.size ≤ w.heap.size + 1 by omega) (.slice A4 L.length c4))
      have HIO := Bx.mk (((HIO4.out.setLow (p := ⟨w.heap.size + 1, 0, none⟩) (show w.heap.size + 1 < w.heap.size + 2 by omega) (.int .i64 s)).setLow (p := ⟨w.heap.size + 1, 1, none⟩) (show w.heap.size + 1 < w.heap.size + 2 by omega) (.slice A4 L.length c4)).mono (show w.heap.size ≤ w.heap.size + 2 by omega))
      go_wp2_with fail
      refine bodyPost_ret (v := .tuple #[.agg #[.int .i64 s, .slice A4 L.length c4], .bool true]) (by simp [results, Try.results17, go_sem, RF.out.at_ (i := 0) rfl, RF.out.at_ (i := 1) rfl]) rfl (GivesRB.eyes HYES.out HLL.out HIO.out BF.out)
end Go.Proofs.Ytpejnhcmelkmeaa
