/- The chain of a generated rhythm: both sides. -/
import Derived.Test.YtpejnhcmelkmeaaGens
import Derived.Test.YtpejnhcmelkmeaaRts
import Derived.Deep.RegionHeld3
namespace Go.Proofs.Ytpejnhcmelkmeaa
open Go.RowKit

theorem Row.low {w : World} {base base' : Nat} {v : Value} {xs : List Int} (h : Row w base v xs) (hb : base' ≤ base) : Row w base' v xs := by
  refine ⟨h.1, ?_⟩
  rcases h.2 with h' | ⟨g, cap, cur, e, hg, r⟩
  · exact .inl h'
  · exact .inr ⟨g, cap, cur, e, Nat.le_trans hb hg, r⟩
/-- what a function that makes a row of ints hands back, as a row that may be appended to -/
def GivesRw (w : World) (xs : List Int) (e : Ending) (w' : World) : Prop := ∃ v, e = .returned v ∧ Row w' w.heap.size v xs ∧ Below w.heap.size w w'
theorem GivesRw.nil {w w' : World} {xs : List Int} (h : xs = []) (b : Below w.heap.size w w') : GivesRw w xs (.returned (.slice none 0 0)) w' := by
  subst h
  exact ⟨_, rfl, Row.nil _ _, b⟩
theorem GivesRw.ints {w w' : World} {xs : List Int} {e : Ending} (h : GivesRw w xs e w') (hl : xs.length ≤ 17592186044415) : GivesInts w xs e w' := by
  obtain ⟨v, rfl, hr, b⟩ := h
  exact GivesInts.of_row hr hl b
theorem GivesRw.of {w w' : World} {xs ys : List Int} {v : Value} {base : Nat} (h : xs = ys) (hr : Row w' base v ys) (hb : w.heap.size ≤ base) (b : Below w.heap.size w w') : GivesRw w xs (.returned v) w' := by
  subst h
  exact ⟨_, rfl, hr.low hb, b⟩
def chSt (s : Int) (xs : List Int) (g : Int) : Nat → Int
  | 0 => xs[0]?.getD 0
  | m + 1 => if memB xs ((xs[xs.length - 1 - m]?.getD 0 - g) % s) = true then chSt s xs g m else xs[xs.length - 1 - m]?.getD 0
def chL (s : Int) (a g : Int) (j : Nat) : List Int := (List.range j).map fun (i : Nat) => (a + (i : Int) * g) % s
def chainR (s : Int) (xs : List Int) (g : Int) : List Int := if memB (gensR s xs) g = true then chL s (chSt s xs g xs.length) g xs.length else []
theorem chL_len (s a g : Int) (j : Nat) : (chL s a g j).length = j := by simp [chL]
theorem chL_succ (s a g : Int) (j : Nat) : chL s a g (j + 1) = chL s a g j ++ [(a + (j : Int) * g) % s] := by simp [chL, List.range_succ]
theorem chL_bd {s a g : Int} (hs : 0 < s) {j : Nat} : ∀ x ∈ chL s a g j, 0 ≤ x ∧ x < s := by
  intro x hx
  unfold chL at hx
  obtain ⟨i, _, rfl⟩ := List.mem_map.1 hx
  exact ⟨Int.emod_nonneg _ (by omega), Int.emod_lt_of_pos _ hs⟩
theorem chSt_bd {s : Int} {xs : List Int} {g : Int} (h0 : 0 < xs.length) (hb : ∀ i, i < xs.length → 0 ≤ xs[i]?.getD 0 ∧ xs[i]?.getD 0 < s) : ∀ m, m ≤ xs.length → 0 ≤ chSt s xs g m ∧ chSt s xs g m < s := by
  intro m
  induction m with
  | zero => intro _; exact hb 0 h0
  | succ m ih =>
    intro hm
    unfold chSt
    split
    · exact ih (by omega)
    · exact hb _ (by omega)
theorem gens_mem {s : Int} {xs : List Int} {g : Int} (h : memB (gensR s xs) g = true) : rhOk s xs = true ∧ 1 ≤ g ∧ g < s := by
  rw [memB_iff] at h
  unfold gensR at h
  split at h
  · rename_i hok
    obtain ⟨i, hi, rfl, hp⟩ := selTo_mem.1 h
    have h1 : 1 ≤ (i : Int) := by
      unfold gensP at hp
      rw [Bool.and_eq_true] at hp
      simpa using hp.1
    have := (rhOk_iff.1 hok).1
    exact ⟨hok, h1, by omega⟩
  · simp at h
theorem chain_step {s a g : Int} (_hs : 0 < s) (j : Nat) : ((a + (j : Int) * g) % s + g) % s = (a + ((j + 1 : Nat) : Int) * g) % s := by
  rw [Int.emod_add_emod]
  congr 1
  rw [Int.natCast_add, Int.add_mul]
  omega
set_option maxHeartbeats 4000000 in
set_option maxRecDepth 20000 in
theorem implChain_any (s : Int) (A : Option Addr) (c : Nat) (xs : List Int) (g : Int) (w : World) (hs : -9223372036854775808 ≤ s ∧ s ≤ 9223372036854775807) (hx : IR w A xs) :
    Calls Try.prog 10 #[.agg #[.int .i64 s, .slice A xs.length c], .int .i64 g] w (GivesRw w (chainR s xs g)) := by
  obtain ⟨W0, hW0⟩ : ∃ W0, W0 = w.alloc (.cells #[.int .i64 s, .slice A xs.length c] 26) := ⟨_, rfl⟩
  have bw : Below w.heap.size w W0 := by rw [hW0]; exact below_alloc _ _
  have hz : w.heap.size < W0.heap.size := by rw [hW0]; simp
  have k0 : W0.cell? ⟨w.heap.size, 0, none⟩ = some (.int .i64 s) := by rw [hW0]; simp [go_sem]
  have k1 : W0.cell? ⟨w.heap.size, 1, none⟩ = some (.slice A xs.length c) := by rw [hW0]; simp [go_sem]
  have HX := Bx.mk ((RB.of_ir hx).below bw (Nat.le_refl _))
  have HS := Bx.mk hs
  clear hx hs
  have hgl := gensR_len s xs
  obtain ⟨L, hL⟩ : ∃ L, L = gensR s xs := ⟨_, rfl⟩
  have HST : Bx (∀ c W, IR W A xs → Calls Try.prog 9 #[.agg #[.int .i64 s, .slice A xs.length c]] W (GivesInts W L)) := ⟨fun c W h => by rw [hL]; exact implGens_any s A c xs W HS.out h⟩
  have HR0 : Bx (chainR s xs g = if memB L g = true then chL s (chSt s xs g xs.length) g xs.length else []) := ⟨by rw [hL]; rfl⟩
  have HGM : Bx (memB L g = true → rhOk s xs = true ∧ 1 ≤ g ∧ g < s) := ⟨fun h => gens_mem (by rw [← hL]; exact h)⟩
  rw [← hL] at hgl
  clear hL
  cases hm : memB L g with
  | false =>
    have HR : Bx (chainR s xs g = []) := ⟨by rw [HR0.out, hm]; rfl⟩
    go_enter Try.func10, Try.ntmps10
    go_wp2_with fail
    rw [← hW0]
    clear hW0
    refine (HST.out _ _ (by exact HX.out.ir)).mono ?_
    rintro e w1 ⟨A1, c1, rfl, io, b⟩
    have HI := Bx.mk io.reads
    clear io HST
    replace k0 := ((bcell b).1 _ _ (by omega)).trans k0
    replace k1 := ((bcell b).1 _ _ (by omega)).trans k1
    replace HX := Bx.mk (HX.out.below b (by omega))
    replace hz := Nat.lt_of_lt_of_le hz b.size
    replace bw := bw.trans (b.mono bw.size)
    clear b
    go_wp2_with fail
    refine (contains_any _ _ _ _ _ (by exact HI.out)).mono ?_
    rw [hm]
    rintro e w2 ⟨rfl, rfl⟩
    clear HI
    go_wp2_with fail
    go_ret
    exact GivesRw.nil HR.out bw
  | true =>
    obtain ⟨hok, hg1, hg2⟩ := HGM.out hm
    have HOK := Bx.mk hok
    have hll := (rhOk_len hok).1
    obtain ⟨hs12, hmem, _⟩ := rhOk_iff.1 hok
    have HR1 : Bx (chainR s xs g = chL s (chSt s xs g xs.length) g xs.length) := ⟨by rw [HR0.out, hm]; rfl⟩
    have HMB : Bx (∀ i, i < xs.length → 0 ≤ xs[i]?.getD 0 ∧ xs[i]?.getD 0 < s) := ⟨fun i hi => by rw [List.getElem?_eq_getElem hi]; exact hmem _ (List.getElem_mem hi)⟩
    clear hmem hok HR0 HGM
    by_cases h0 : xs.length = 0
    · have HR : Bx (chainR s xs g = []) := ⟨by rw [HR1.out, h0]; rfl⟩
      have h0b : (((xs.length : Int) == 0)) = true := by rw [beq_iff_eq]; omega
      clear h0
      go_enter Try.func10, Try.ntmps10
      go_wp2_with fail
      rw [← hW0]
      clear hW0
      refine (HST.out _ _ (by exact HX.out.ir)).mono ?_
      rintro e w1 ⟨A1, c1, rfl, io, b⟩
      have HI := Bx.mk io.reads
      clear io HST
      replace k0 := ((bcell b).1 _ _ (by omega)).trans k0
      replace k1 := ((bcell b).1 _ _ (by omega)).trans k1
      replace HX := Bx.mk (HX.out.below b (by omega))
      replace hz := Nat.lt_of_lt_of_le hz b.size
      replace bw := bw.trans (b.mono bw.size)
      clear b
      go_wp2_with fail
      refine (contains_any _ _ _ _ _ (by exact HI.out)).mono ?_
      rw [hm]
      rintro e w2 ⟨rfl, rfl⟩
      clear HI
      go_wp2_with fail
      go_ret
      exact GivesRw.nil HR.out bw
    · have hne : (((xs.length : Int) == 0)) = false := by rw [beq_eq_false_iff_ne]; omega
      have h0n : 0 < xs.length := by omega
      have h0i : (0 : Int) < (xs.length : Int) := by omega
      have h0e : xs ≠ [] := List.ne_nil_of_length_pos h0n
      have HSB := Bx.mk (chSt_bd (g := g) h0n HMB.out)
      obtain ⟨hs1, hs2⟩ := hs12
      have hs12 : 1 ≤ s ∧ s ≤ 24 := ⟨hs1, hs2⟩
      clear h0
      go_enter Try.func10, Try.ntmps10
      go_wp2_with fail
      rw [← hW0]
      clear hW0
      refine (HST.out _ _ (by exact HX.out.ir)).mono ?_
      rintro e w1 ⟨A1, c1, rfl, io, b⟩
      have HI := Bx.mk io.reads
      clear io HST
      replace k0 := ((bcell b).1 _ _ (by omega)).trans k0
      replace k1 := ((bcell b).1 _ _ (by omega)).trans k1
      replace HX := Bx.mk (HX.out.below b (by omega))
      replace hz := Nat.lt_of_lt_of_le hz b.size
      replace bw := bw.trans (b.mono bw.size)
      clear b
      go_wp2_with fail
      refine (contains_any _ _ _ _ _ (by exact HI.out)).mono ?_
      rw [hm]
      rintro e w2 ⟨rfl, rfl⟩
      clear HI
      obtain ⟨bx, ox, eA, hbk, hcx⟩ := HX.out.ir.at_ h0n
      subst eA
      have HCX := Bx.mk hcx
      have hbx : bx < w1.heap.size := hbk
      have cx0 := hcx 0 h0n
      rw [Nat.add_zero] at cx0
      obtain ⟨x0, hx0⟩ : ∃ x0, x0 = xs[0]?.getD 0 := ⟨_, rfl⟩
      rw [← hx0] at cx0
      have HS0 : Bx (chSt s xs g 0 = x0) := ⟨by rw [hx0]; rfl⟩
      clear hcx hx0 hm
      go_wp2_with fail
      clear cx0
      go_loopw [5, 6] (fun a i wr => ∃ m : Nat, m ≤ xs.length ∧ i = .int .i64 ((xs.length : Int) - 1 - m) ∧ a = .int .i64 (chSt s xs g m) ∧ Bx (Below w1.heap.size w1 wr)) (fun _ i _ => (intOf i + 1).toNat)
      case atStart => exact ⟨0, by omega, by go_num, by rw [HS0.out], ⟨Below.refl _ _⟩⟩
      case round =>
        obtain ⟨m, hmx, rfl, rfl, HB⟩ := hrel
        have hzr := HB.out.size
        have q0 := ((bcell HB.out).1 _ _ (by omega)).trans k0
        have q1 := ((bcell HB.out).1 _ _ (by omega)).trans k1
        obtain ⟨a, ha⟩ : ∃ a, a = chSt s xs g m := ⟨_, rfl⟩
        have hab := HSB.out m hmx
        rw [← ha] at hab ⊢
        obtain ⟨ha1, ha2⟩ := hab
        have HA := Bx.mk ha
        clear ha
        by_cases hlt : m < xs.length
        · obtain ⟨p, hp⟩ : ∃ p : Nat, p = xs.length - 1 - m := ⟨_, rfl⟩
          have hpi : (xs.length : Int) - 1 - (m : Int) = (p : Int) := by omega
          have hpl : p < xs.length := by omega
          have hpli : (p : Int) < (xs.length : Int) := by omega
          rw [hpi]
          obtain ⟨hx1, hx2⟩ := HMB.out p hpl
          obtain ⟨x, hx⟩ : ∃ x, x = xs[p]?.getD 0 := ⟨_, rfl⟩
          have dp := HCX.out p hpl
          have cp := ((bcell HB.out).1 _ _ hbx).trans dp
          rw [← hx] at hx1 hx2 dp cp
          have hwx : IntKind.i64.wrap (x - g) = x - g := IntWalk.i64_in _ (by omega)
          obtain ⟨bR, hbR⟩ : ∃ bR, bR = memB xs ((x - g) % s) := ⟨_, rfl⟩
          have HH : Bx (∀ cc W, IR W (some ⟨bx, ox, none⟩) xs → Calls Try.prog 34 #[.agg #[.int .i64 s, .slice (some ⟨bx, ox, none⟩) xs.length cc], .int .i64 (x - g)] W fun e w' => e = .returned (.bool bR) ∧ Below W.heap.size W w') := ⟨fun cc W h => by rw [hbR]; exact has_any s (some ⟨bx, ox, none⟩) cc xs (x - g) W hs12 (by omega) h⟩
          have HNX : Bx (chSt s xs g (m + 1) = if bR = true then a else x) := ⟨by
            show (if memB xs ((xs[xs.length - 1 - m]?.getD 0 - g) % s) = true then chSt s xs g m else xs[xs.length - 1 - m]?.getD 0) = _
            rw [← hp, ← hx, ← hbR, ← HA.out]⟩
          have hip : ((p : Int) - 1) = (xs.length : Int) - 1 - ((m + 1 : Nat) : Int) := by omega
          have HIP := Bx.mk hip
          clear hbR hx hp hpi hip
          go_upto_region 7 with (fail)
          have hB0 := HB
          have hBd := bx_drew HB
          go_region_held3 (fun w' => w'.cell? ⟨w.heap.size, 0, none⟩ = some (.int .i64 s) ∧ w'.cell? ⟨w.heap.size, 1, none⟩ = some (.slice (some ⟨bx, ox, none⟩) xs.length c) ∧ w'.cell? ⟨bx, ox + p, none⟩ = some (.int .i64 x) ∧ Bx (Below w1.heap.size w1 w'))
            ((refine (fun (hK : Bx (Below w1.heap.size w1 _)) => ⟨((bcell hK.out).1 _ _ (by omega)).trans k0, ((bcell hK.out).1 _ _ (by omega)).trans k1, ((bcell hK.out).1 _ _ hbx).trans dp, hK⟩) ?_; first | assumption | exact bx_drew (by assumption)))
            (first
              | (go_at_call 34; refine (HH.out _ _ (HX.out.below (Bx.out (by first | assumption | exact bx_drew (by assumption))) (by omega)).ir).mono ?_; rintro e w3 ⟨rfl, b3⟩; have hBw3 : Bx (Below w1.heap.size w1 w3) := bx_to (by first | assumption | exact bx_drew (by assumption)) b3))
          all_goals clear hB0 hBd
          all_goals have r0 := ((bcell hBw3.out).1 _ _ (by omega)).trans k0
          all_goals have r1 := ((bcell hBw3.out).1 _ _ (by omega)).trans k1
          all_goals have rp := ((bcell hBw3.out).1 _ _ hbx).trans dp
          all_goals cases bR with
            | true =>
              have HN : Bx (chSt s xs g (m + 1) = a) := ⟨by rw [HNX.out]; rfl⟩
              go_wp2_with fail
              go_roundw
              case rel => exact ⟨m + 1, by omega, by rw [← HIP.out], by rw [HN.out], hBw3⟩
              case measure => simp [intOf]
            | false =>
              have HN : Bx (chSt s xs g (m + 1) = x) := ⟨by rw [HNX.out]; rfl⟩
              go_wp2_with fail
              go_roundw
              case rel => exact ⟨m + 1, by omega, by rw [← HIP.out], by rw [HN.out], hBw3⟩
              case measure => simp [intOf]
        · have hmi : (xs.length : Int) - 1 - (m : Int) = -1 := by omega
          have HE : Bx (chainR s xs g = chL s a g xs.length) := ⟨by rw [HR1.out, HA.out, show m = xs.length by omega]⟩
          rw [hmi]
          clear hmi HMB
          obtain ⟨WR, rfl⟩ : ∃ WR, WR = wr := ⟨_, rfl⟩
          have HRW := Bx.mk (Row.nil WR WR.heap.size)
          have hBrw : w.heap.size ≤ WR.heap.size := by omega
          go_wp2_with fail
          go_loopw [5, 7, 49] (fun a' v i w5 => ∃ j : Nat, j ≤ xs.length ∧ i = .int .i64 j ∧ a' = .int .i64 ((a + (j : Int) * g) % s) ∧ Row w5 WR.heap.size v (chL s a g j) ∧ Below WR.heap.size WR w5) (fun _ _ i _ => xs.length - (intOf i).toNat)
          case atStart => exact ⟨0, by omega, rfl, by rw [show (a + ((0 : Nat) : Int) * g) % s = a from by rw [Int.natCast_zero, Int.zero_mul, Int.add_zero]; exact Int.emod_eq_of_lt ha1 ha2], HRW.out, Below.refl _ _⟩
          case round =>
            obtain ⟨j, hj, rfl, rfl, hrow, hbb⟩ := hrel
            clear HRW
            have hlen : (chL s a g j).length ≤ 24 := by rw [chL_len]; omega
            have hz5 := hbb.size
            have t0 := ((bcell hbb).1 _ _ (by omega)).trans q0
            have t1 := ((bcell hbb).1 _ _ (by omega)).trans q1
            have HO := Bx.mk hrow
            have HB5 := Bx.mk hbb
            clear hrow hbb
            by_cases hjl : j < xs.length
            · have hji : (j : Int) < (xs.length : Int) := by omega
              obtain ⟨y, hy⟩ : ∃ y, y = (a + (j : Int) * g) % s := ⟨_, rfl⟩
              have hy1 : 0 ≤ y := by rw [hy]; exact Int.emod_nonneg _ (by omega)
              have hy2 : y < s := by rw [hy]; exact Int.emod_lt_of_pos _ (by omega)
              have HN : Bx (chL s a g (j + 1) = chL s a g j ++ [y]) := ⟨by rw [hy]; exact chL_succ _ _ _ _⟩
              obtain ⟨y2, hy3⟩ : ∃ y2, y2 = (a + ((j + 1 : Nat) : Int) * g) % s := ⟨_, rfl⟩
              have htm : (y + g).tmod s = y2 := by rw [hy3, Int.tmod_eq_emod_of_nonneg (by omega), hy]; exact chain_step (by omega) j
              have HY2 := Bx.mk hy3
              rw [← hy]
              clear hy hy3
              go_wp2_with (at_builtin; go_must (refine wpList_app1 rfl _ _ rfl WR.heap.size _ (chL s a g j) y rfl rfl (by exact HO.out) (by omega) (by exact hz5) ?_); intro v1 w6 hown1 hb1; have u0 := ((bcell hb1).1 _ _ (by omega)).trans t0; have u1 := ((bcell hb1).1 _ _ (by omega)).trans t1)
              have R := Bx.mk (And.intro hown1 (HB5.out.trans hb1))
              clear hown1 hb1
              go_wp2_with fail
              go_roundw
              case rel => exact ⟨j + 1, by omega, by go_num, by rw [HY2.out], by rw [HN.out]; exact R.out.1, R.out.2⟩
              case measure => simp [intOf]; omega
            · have hke : j = xs.length := by omega
              have HFR : Bx (chainR s xs g = chL s a g j) := ⟨by rw [HE.out, hke]⟩
              have hji : ¬ (j : Int) < (xs.length : Int) := by omega
              have HF := Bx.mk (bw.trans ((HB.out.mono bw.size).trans (HB5.out.mono hBrw)))
              clear hke
              go_wp2_with fail
              go_ret
              exact GivesRw.of HFR.out HO.out (by omega) HF.out
theorem chainR_len (s : Int) (xs : List Int) (g : Int) : (chainR s xs g).length ≤ 24 := by
  unfold chainR
  split
  · rename_i h
    rw [chL_len]
    exact (rhOk_len (gens_mem h).1).1
  · simp
theorem implChainI_any (s : Int) (A : Option Addr) (c : Nat) (xs : List Int) (g : Int) (w : World) (hs : -9223372036854775808 ≤ s ∧ s ≤ 9223372036854775807) (hx : IR w A xs) :
    Calls Try.prog 10 #[.agg #[.int .i64 s, .slice A xs.length c], .int .i64 g] w (GivesInts w (chainR s xs g)) :=
  (implChain_any s A c xs g w hs hx).mono fun _ _ h => h.ints (by have := chainR_len s xs g; omega)
end Go.Proofs.Ytpejnhcmelkmeaa
