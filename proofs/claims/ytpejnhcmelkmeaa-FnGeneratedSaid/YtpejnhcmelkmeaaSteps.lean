/- The steps of a rhythm: the program's and the reference's. -/
import Derived.Test.YtpejnhcmelkmeaaBas
import Derived.Test.YtpejnhcmelkmeaaRts
import Derived.Test.YtpejnhcmelkmeaaSizes
import Derived.Test.YtpejnhcmelkmeaaStepLaw
import Derived.Deep.RegionHeld3
import Derived.Deep.DeepCutAuto
import Derived.Deep.QuietTactic
import Derived.BigQuiet
import Derived.StillTailTactics
namespace Go.Proofs.Ytpejnhcmelkmeaa
open Go.RowKit

def nxtB (s : Int) (xs : List Int) (k : Nat) : Int := if k + 1 < xs.length then xs[k + 1]?.getD 0 else s + xs[0]?.getD 0
def stepAt (s : Int) (xs : List Int) (k : Nat) : Int := nxtB s xs k - xs[k]?.getD 0
def stepsTo (s : Int) (xs : List Int) (k : Nat) : List Int := (List.range k).map (stepAt s xs)
def stepsR (s : Int) (xs : List Int) : List Int := if rhOk s xs = true then stepsTo s xs xs.length else []
theorem stepsTo_len (s : Int) (xs : List Int) (k : Nat) : (stepsTo s xs k).length = k := by simp [stepsTo]
theorem stepsTo_succ (s : Int) (xs : List Int) (k : Nat) : stepsTo s xs (k + 1) = stepsTo s xs k ++ [stepAt s xs k] := by simp [stepsTo, List.range_succ]
theorem stepsR_len (s : Int) (xs : List Int) : (stepsR s xs).length ≤ 24 := by
  unfold stepsR
  split
  · rename_i h; rw [stepsTo_len]; exact (rhOk_len h).1
  · simp
theorem stepAt_bd {s : Int} {xs : List Int} (hok : rhOk s xs = true) {k : Nat} (hk : k < xs.length) : -24 ≤ stepAt s xs k ∧ stepAt s xs k ≤ 48 := by
  obtain ⟨h1, h2, _⟩ := rhOk_iff.1 hok
  have g : ∀ i, i < xs.length → 0 ≤ xs[i]?.getD 0 ∧ xs[i]?.getD 0 < s := fun i hi => by
    rw [List.getElem?_eq_getElem hi]; exact h2 _ (List.getElem_mem hi)
  have a := g k hk
  have b := g 0 (by omega)
  unfold stepAt nxtB
  split
  · rename_i h; have := g _ h; omega
  · omega
theorem stepsR_bd {s : Int} {xs : List Int} : ∀ x ∈ stepsR s xs, -24 ≤ x ∧ x ≤ 48 := by
  intro x hx
  unfold stepsR at hx
  split at hx
  · rename_i h
    unfold stepsTo at hx
    obtain ⟨k, hk, rfl⟩ := List.mem_map.1 hx
    exact stepAt_bd h (List.mem_range.1 hk)
  · simp at hx
/-- what a function that makes a list of ints, or nil, hands back -/
def GivesRow (w : World) (xs : List Int) (e : Ending) (w' : World) : Prop := ∃ v, e = .returned v ∧ Row w' w.heap.size v xs ∧ Below w.heap.size w w'
theorem GivesRow.ints {w w' : World} {xs : List Int} {e : Ending} (h : GivesRow w xs e w') (hl : xs.length ≤ 17592186044415) : GivesInts w xs e w' := by
  obtain ⟨v, rfl, hr, b⟩ := h
  exact GivesInts.of_row hr hl b
theorem Row.undrewS {w : World} {base : Nat} {v : Value} {xs : List Int} (h : Row w base v xs) : Row w.drew base v xs := h
theorem lit_c {f : FuncId} {args : Array Value} {w : World} {a b : Bool} (hb : a = b) (h : Calls Try.prog f args w fun e w' => e = .returned (.bool a) ∧ Below w.heap.size w w') :
    Calls Try.prog f args w fun e w' => e = .returned (.bool b) ∧ Below w.heap.size w w' := by rw [← hb]; exact h
set_option maxHeartbeats 2000000 in
set_option maxRecDepth 20000 in
theorem implStepsM_any (s : Int) (A : Option Addr) (c : Nat) (xs : List Int) (w : World) (hok : rhOk s xs = true) (hx : IR w A xs) :
    Calls Try.prog 52 #[.agg #[.int .i64 s, .slice A xs.length c]] w (GivesRow w (stepsTo s xs xs.length)) := by
  obtain ⟨hs, hb, _⟩ := rhOk_iff.1 hok
  have hll := (rhOk_len hok).1
  have HBD : Bx (∀ k, k < xs.length → 0 ≤ xs[k]?.getD 0 ∧ xs[k]?.getD 0 < 24) := ⟨fun i hi => by
    rw [List.getElem?_eq_getElem hi]; have := hb _ (List.getElem_mem hi); simp; omega⟩
  obtain ⟨hs1, hs2⟩ := hs
  obtain ⟨W0, hW0⟩ : ∃ W0, W0 = w.alloc (.cells #[.int .i64 s, .slice A xs.length c] 26) := ⟨_, rfl⟩
  have bw : Below w.heap.size w W0 := by rw [hW0]; exact below_alloc _ _
  have hz : w.heap.size < W0.heap.size := by rw [hW0]; simp
  have k0 : W0.cell? ⟨w.heap.size, 0, none⟩ = some (.int .i64 s) := by rw [hW0]; simp [go_sem]
  have k1 : W0.cell? ⟨w.heap.size, 1, none⟩ = some (.slice A xs.length c) := by rw [hW0]; simp [go_sem]
  have HX := Bx.mk ((RB.of_ir hx).below bw (Nat.le_refl _))
  clear hx hb hok
  go_enter Try.func52, Try.ntmps52
  go_wp2_with fail
  rw [← hW0]
  clear hW0
  go_loopw [3, 9] (fun v i wr => ∃ k : Nat, k ≤ xs.length ∧ i = .int .i64 k ∧ Row wr W0.heap.size v (stepsTo s xs k) ∧ Below W0.heap.size W0 wr) (fun _ i _ => xs.length - (intOf i).toNat)
  case atStart => exact ⟨0, by omega, rfl, Row.nil _ _, Below.refl _ _⟩
  case round =>
    obtain ⟨k, hk, rfl, hrow, hbb⟩ := hrel
    have hlen := stepsTo_len s xs k
    have hzr := hbb.size
    have q0 := ((bcell hbb).1 _ _ (by omega)).trans k0
    have q1 := ((bcell hbb).1 _ _ (by omega)).trans k1
    have HXr := Bx.mk (HX.out.below hbb (by omega)).ir
    by_cases hlt : k < xs.length
    · obtain ⟨b, o, eA, hbk, hc⟩ := HXr.out.at_ (by omega)
      subst eA
      have ck := hc k hlt
      have c0 := hc 0 (by omega)
      rw [Nat.add_zero] at c0
      have hki : (k : Int) < (xs.length : Int) := by omega
      obtain ⟨hx1, hx2⟩ := HBD.out k hlt
      obtain ⟨hy1, hy2⟩ := HBD.out 0 (by omega)
      have HA : Bx (stepsTo s xs (k + 1) = stepsTo s xs k ++ [stepAt s xs k]) := ⟨stepsTo_succ s xs k⟩
      by_cases hn : k + 1 < xs.length
      · have cn := hc (k + 1) hn
        have hni : (k : Int) + 1 < (xs.length : Int) := by omega
        obtain ⟨hz1, hz2⟩ := HBD.out (k + 1) hn
        obtain ⟨x, hxe⟩ : ∃ x, x = xs[k]?.getD 0 := ⟨_, rfl⟩
        obtain ⟨y, hye⟩ : ∃ y, y = xs[k + 1]?.getD 0 := ⟨_, rfl⟩
        have HN : Bx (stepsTo s xs (k + 1) = stepsTo s xs k ++ [y - x]) := ⟨by rw [HA.out]; unfold stepAt nxtB; rw [if_pos hn, hxe, hye]⟩
        rw [← hxe] at ck hx1 hx2
        rw [← hye] at cn hz1 hz2
        have HO := Bx.mk hrow
        have HB := Bx.mk hbb
        clear hrow hbb hc HA hxe hye c0
        go_wp2_with (at_builtin; go_must (refine wpList_app1 rfl _ _ rfl W0.heap.size _ (stepsTo s xs k) (y - x) rfl rfl (by exact HO.out) (by omega) (by exact hzr) ?_); intro v1 w4 hown1 hb1)
        have R := Bx.mk (And.intro hown1 (HB.out.trans hb1))
        clear hown1 hb1
        go_wp2_with fail
        go_roundw
        case rel => exact ⟨k + 1, by omega, by go_num, by rw [HN.out]; exact R.out.1, R.out.2⟩
        case measure => simp [intOf]; omega
      · have hni : ¬ (k : Int) + 1 < (xs.length : Int) := by omega
        have h0i : (0 : Int) < (xs.length : Int) := by omega
        have h0n : 0 < xs.length := by omega
        have h0e : xs ≠ [] := List.ne_nil_of_length_pos h0n
        obtain ⟨x, hxe⟩ : ∃ x, x = xs[k]?.getD 0 := ⟨_, rfl⟩
        obtain ⟨y, hye⟩ : ∃ y, y = xs[0]?.getD 0 := ⟨_, rfl⟩
        have HN : Bx (stepsTo s xs (k + 1) = stepsTo s xs k ++ [s + y - x]) := ⟨by rw [HA.out]; unfold stepAt nxtB; rw [if_neg hn, hxe, hye]⟩
        rw [← hxe] at ck hx1 hx2
        rw [← hye] at c0 hy1 hy2
        have HO := Bx.mk hrow
        have HB := Bx.mk hbb
        obtain ⟨b', o', e', hbW, hd⟩ := HX.out.ir.at_ (by omega)
        injection e' with e'
        injection e' with e1 e2
        subst e1 e2
        have d0 := hd 0 (by omega)
        rw [Nat.add_zero, ← hye] at d0
        clear hrow hbb hc HA hxe hye hd
        go_upto_region 7 with (fail)
        have hB0 : Bx (Below W0.heap.size W0 wr) := HB
        have hBd : Bx (Below W0.heap.size W0 wr.drew) := ⟨HB.out.drew⟩
        have hRd : Bx (Row wr.drew W0.heap.size u3 (stepsTo s xs k)) := ⟨HO.out⟩
        have hw1 : IntKind.i64.wrap (s + y) = s + y := IntWalk.i64_in _ (by omega)
        have hw2 : IntKind.i64.wrap (s + y - x) = s + y - x := IntWalk.i64_in _ (by omega)
        go_region_held3 (fun w' => w'.cell? ⟨w.heap.size, 0, none⟩ = some (.int .i64 s) ∧ w'.cell? ⟨w.heap.size, 1, none⟩ = some (.slice (some ⟨b, o, none⟩) xs.length c) ∧ w'.cell? ⟨b, o, none⟩ = some (.int .i64 y) ∧ Bx (Below W0.heap.size W0 w'))
          ((refine (fun (hK : Bx (Below W0.heap.size W0 _)) => ⟨((bcell hK.out).1 _ _ hz).trans k0, ((bcell hK.out).1 _ _ hz).trans k1, ((bcell hK.out).1 _ _ hbW).trans d0, hK⟩) ?_; first | assumption | exact bx_alloc (by assumption) _ | exact bx_drew (by assumption)))
          (first
            | (refine step_appL (by rfl) _ _ (by rfl) W0.heap.size u3 (stepsTo s xs k) (by rfl) (by exact hRd.out.alloc _) _ 0 1 [s + y - x] (by rfl) (ir_one (by refine blk_undrew ?_; exact blk_eq rfl)) (by simp) (by simp; omega) (by first | (simp; done) | (simp; omega)) ?_; intro g2 cap2 w4 hrow2 hgr2 hat2 hlt2; have hBw4 : Bx (Below W0.heap.size W0 w4) := ⟨hBd.out.trans (below_of_row hRd.out _ hgr2 (by exact hzr))⟩; rw [List.length_append, List.length_singleton, hlen] at hrow2; have HR4 := Bx.mk hrow2; clear hrow2 hgr2 hat2))
        go_wp2_with fail
        go_roundw
        case rel => exact ⟨k + 1, by omega, by go_num, by rw [HN.out]; exact HR4.out, hBw4.out⟩
        case measure => simp [intOf]; omega
    · have hkl : k = xs.length := by omega
      have HO : Bx (Row wr w.heap.size _ (stepsTo s xs xs.length)) := ⟨by have := hrow.lower (show w.heap.size ≤ W0.heap.size by omega); rwa [hkl] at this⟩
      have HB := Bx.mk (bw.trans (hbb.mono bw.size))
      clear hrow hbb hkl
      go_wp2_with fail
      go_ret
      exact ⟨_, rfl, HO.out, HB.out⟩
set_option maxHeartbeats 1000000 in
theorem implSteps_any (s : Int) (A : Option Addr) (c : Nat) (xs : List Int) (w : World) (hs : -9223372036854775808 ≤ s ∧ s ≤ 9223372036854775807) (hx : IR w A xs) :
    Calls Try.prog 39 #[.agg #[.int .i64 s, .slice A xs.length c]] w (GivesRow w (stepsR s xs)) := by
  obtain ⟨W0, hW0⟩ : ∃ W0, W0 = w.alloc (.cells #[.int .i64 s, .slice A xs.length c] 26) := ⟨_, rfl⟩
  have bw : Below w.heap.size w W0 := by rw [hW0]; exact below_alloc _ _
  have hz : w.heap.size < W0.heap.size := by rw [hW0]; simp
  have k0 : W0.cell? ⟨w.heap.size, 0, none⟩ = some (.int .i64 s) := by rw [hW0]; simp [go_sem]
  have k1 : W0.cell? ⟨w.heap.size, 1, none⟩ = some (.slice A xs.length c) := by rw [hW0]; simp [go_sem]
  have HX := Bx.mk ((RB.of_ir hx).below bw (Nat.le_refl _))
  have HS := Bx.mk hs
  clear hx hs
  cases h1 : rhOk s xs with
  | false =>
    have HR : Bx (stepsR s xs = []) := ⟨by simp [stepsR, h1]⟩
    go_enter Try.func39, Try.ntmps39
    go_wp2_with fail
    rw [← hW0]
    clear hW0
    refine (lit_c h1 (implRhythmOk_any _ _ _ _ _ HS.out (by exact HX.out.ir))).mono ?_
    rintro e w1 ⟨rfl, b⟩
    have bw2 := bw.trans (b.mono bw.size)
    clear b
    go_wp2_with fail
    go_ret
    exact ⟨_, rfl, by rw [HR.out]; exact Row.nil _ _, bw2⟩
  | true =>
    have HR : Bx (stepsR s xs = stepsTo s xs xs.length) := ⟨by simp [stepsR, h1]⟩
    go_enter Try.func39, Try.ntmps39
    go_wp2_with fail
    rw [← hW0]
    clear hW0
    refine (lit_c h1 (implRhythmOk_any _ _ _ _ _ HS.out (by exact HX.out.ir))).mono ?_
    rintro e w1 ⟨rfl, b⟩
    replace k0 := ((bcell b).1 _ _ (by omega)).trans k0
    replace k1 := ((bcell b).1 _ _ (by omega)).trans k1
    replace HX := Bx.mk (HX.out.below b (by omega))
    replace hz := Nat.lt_of_lt_of_le hz b.size
    replace bw := bw.trans (b.mono bw.size)
    clear b
    go_wp2_with fail
    refine (implStepsM_any _ _ _ _ _ h1 (by exact HX.out.ir)).mono ?_
    rintro e w2 ⟨v, rfl, hr, b⟩
    have HF := Bx.mk (bw.trans (b.mono bw.size))
    have HO := Bx.mk (hr.lower bw.size)
    clear b hr
    go_wp2_with fail
    go_ret
    exact ⟨_, rfl, by rw [HR.out]; exact HO.out, HF.out⟩
end Go.Proofs.Ytpejnhcmelkmeaa
