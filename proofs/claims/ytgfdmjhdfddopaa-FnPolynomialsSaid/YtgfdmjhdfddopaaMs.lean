/- The second condition, walked. -/
import Derived.Test.YtgfdmjhdfddopaaMsPlain
import Derived.Test.YtgfdmjhdfddopaaBas
import Derived.Deep.RegionHeld3
import Derived.Deep.DeepCutAuto
import Derived.Deep.QuietTactic
import Derived.BigQuiet
import Derived.Deep.AppendLies
namespace Go.Proofs.Ytgfdmjhdfddopaa
open Go.RowKit
set_option maxRecDepth 20000

theorem ir_tail {w : World} {b o : Nat} {s : Int} {r : List Int} (h : IR w (some ⟨b, o, none⟩) (s :: r)) : IR w (some ⟨b, o + 1, none⟩) r := by
  refine ⟨by have := h.1; simp at this; omega, fun h0 => ?_⟩
  obtain ⟨b', o', e, hb, hc⟩ := h.2 (by simp)
  injection e with e; injection e with e1 e2
  subst e1 e2
  refine ⟨b, o + 1, rfl, hb, fun k hk => ?_⟩
  have := hc (k + 1) (by simpa using hk)
  rw [show o + 1 + k = o + (k + 1) by omega]
  simpa using this
theorem ir_zero {w : World} {A : Option Addr} {xs : List Int} (h : xs.length = 0) : IR w A xs := by
  have : xs = [] := List.eq_nil_of_length_eq_zero h
  subst this; exact IR.nil w A
def bnd (m : Int) (k : Nat) : Prop := 1 ≤ m ∧ m * 24 ^ k ≤ 110075314176
theorem p24 (k : Nat) : (1 : Int) ≤ 24 ^ k := by
  induction k with
  | zero => simp
  | succ k ih => rw [Int.pow_succ]; omega
theorem bnd_le {m : Int} {k : Nat} (h : bnd m k) : m ≤ 110075314176 := by
  have h1 := Int.mul_le_mul_of_nonneg_left (p24 k) (show 0 ≤ m by have := h.1; omega)
  have := h.2
  omega
theorem bnd_drop {m : Int} {k : Nat} (h : bnd m (k + 1)) : bnd m k := by
  refine ⟨h.1, ?_⟩
  have h2 := h.2
  rw [Int.pow_succ, ← Int.mul_assoc] at h2
  have h1 : 0 ≤ m * 24 ^ k := Int.mul_nonneg (by have := h.1; omega) (by have := p24 k; omega)
  omega
theorem bnd_mul {m s : Int} {k : Nat} (h : bnd m (k + 1)) (h1 : 1 ≤ s) (h24 : s ≤ 24) : bnd (m * s) k := by
  have hm := h.1
  refine ⟨?_, ?_⟩
  · have := Int.mul_le_mul hm h1 (by omega) (by omega)
    simpa using this
  · have h2 := h.2
    rw [Int.pow_succ] at h2
    have h3 : m * s * 24 ^ k ≤ m * 24 * 24 ^ k := Int.mul_le_mul_of_nonneg_right (Int.mul_le_mul_of_nonneg_left h24 (by omega)) (by have := p24 k; omega)
    have e : m * 24 * 24 ^ k = m * (24 ^ k * 24) := by rw [Int.mul_assoc, Int.mul_comm 24]
    omega
theorem bnd_less {m : Int} {k : Nat} (h : bnd m k) : ∀ {j : Nat}, j ≤ k → bnd m j := by
  induction k with
  | zero => intro j hj; have : j = 0 := by omega
            subst this; exact h
  | succ k ih =>
    intro j hj
    by_cases e : j = k + 1
    · subst e; exact h
    · exact ih (bnd_drop h) (by omega)
theorem bnd_one : bnd 1 8 := by unfold bnd; omega
theorem bnd_len {k : Nat} (h : k ≤ 8) : bnd 1 k := by
  have : k = 0 ∨ k = 1 ∨ k = 2 ∨ k = 3 ∨ k = 4 ∨ k = 5 ∨ k = 6 ∨ k = 7 ∨ k = 8 := by omega
  unfold bnd
  rcases this with rfl | rfl | rfl | rfl | rfl | rfl | rfl | rfl | rfl <;> decide
theorem divs_8 {s : Int} (hs : 1 ≤ s ∧ s ≤ 24) : (divs s).length ≤ 8 := by
  obtain ⟨n, rfl⟩ := Int.eq_ofNat_of_zero_le (show 0 ≤ s by omega)
  rw [divs_small hs, Int.toNat_natCast]
  have : ∀ n : Fin 25, (divTo (n : Nat) n).length ≤ 8 := by decide +kernel
  exact this ⟨n, by omega⟩
theorem ppI_8 {s : Int} {xs : List Int} (hok : rhOk s xs = true) : (ppI s xs).length ≤ 8 := by
  refine Nat.le_trans (List.length_filter_le _ _) ?_
  unfold ordI ordL
  rw [if_pos hok]
  exact Nat.le_trans (List.length_filter_le _ _) (divs_8 (rhOk_iff.1 hok).1)
theorem divTo_le {n : Int} {k : Nat} : ∀ x ∈ divTo n k, 1 ≤ x ∧ x ≤ k := by
  induction k with
  | zero => simp [divTo]
  | succ k ih =>
    intro x hx
    simp only [divTo, List.mem_append] at hx
    rcases hx with hx | hx
    · have := ih x hx; omega
    · split at hx <;> simp at hx; omega
theorem ppI_pp {s : Int} {xs : List Int} (hok : rhOk s xs = true) : ∀ x ∈ ppI s xs, PPw x := by
  intro x hx
  unfold ppI at hx
  rw [List.mem_filter] at hx
  have hs := (rhOk_iff.1 hok).1
  have h1 := hx.1
  unfold ordI ordL at h1
  rw [if_pos hok, List.mem_filter, divs_small hs] at h1
  have := divTo_le x h1.1
  refine ⟨this.1, by omega, fun e => ?_⟩
  have h2 := hx.2
  simp [qn, ppP, e] at h2
def hM (L : List Int) (m : Int) : Bool := m == 1 || memB L m
def msI (s : Int) (xs : List Int) : Bool := rhOk s xs && aP (hM (ordI s xs)) (ppI s xs) 1
set_option maxHeartbeats 2000000 in
theorem allProd_any (hp : Int → Bool) (g1 : Nat) : ∀ (l : List Int) (A : Option Addr) (c : Nat) (m : Int) (B : Nat) (w : World), (∀ s ∈ l, 1 ≤ s ∧ s ≤ 24) → bnd m l.length → l.length ≤ c → B ≤ w.heap.size → IR w A l → Bx (∀ m W, 1 ≤ m → m ≤ 110075314176 → Below B w W → Calls Try.prog 41 #[.int .i64 m, .pointer (some ⟨g1, 0, none⟩)] W fun e w' => e = .returned (.bool (hp m)) ∧ Below W.heap.size W w') →
    Calls Try.prog 40 #[.slice A l.length c, .int .i64 m, .func (.func 41) #[] #[.pointer (some ⟨g1, 0, none⟩)]] w fun e w' => e = .returned (.bool (aP hp l m)) ∧ Below w.heap.size w w' := by
  intro l
  induction l with
  | nil =>
    intro A c m B w _ hb _ hB _ HC
    have hm := hb.1
    have hml := bnd_le hb
    have HR : Bx (aP hp [] m = hp m) := ⟨rfl⟩
    rw [show ([] : List Int).length = 0 from rfl]
    go_enter Try.func40, Try.ntmps40
    go_wp2_with fail
    refine (HC.out m _ hm hml (Below.refl _ _)).mono ?_
    rintro e w1 ⟨rfl, b⟩
    go_wp2_with fail
    go_ret
    exact ⟨ret_bool HR.out.symm, b⟩
  | cons s r ih =>
    intro A c m B w hl hb hc hB hx HC
    obtain ⟨hs1, hs2⟩ := hl s List.mem_cons_self
    have HL : Bx (∀ x ∈ r, 1 ≤ x ∧ x ≤ 24) := ⟨fun x hx => hl x (List.mem_cons_of_mem _ hx)⟩
    rw [List.length_cons] at hb hc ⊢
    have hm := hb.1
    have hml := bnd_le hb
    have HB1 := Bx.mk (bnd_drop hb)
    have HB2 := Bx.mk (bnd_mul hb hs1 hs2)
    have HI := Bx.mk ih
    have hxl := hx.len
    rw [List.length_cons] at hxl
    obtain ⟨b0, o0, rfl, hbk, hcell⟩ := hx.at_ (by simp)
    have c1 := hcell 0 (by simp)
    rw [Nat.add_zero] at c1
    have c2 : w.cell? ⟨b0, o0, none⟩ = some (.int .i64 s) := by rw [c1]; simp
    have HT := Bx.mk (ir_tail hx)
    clear hl hb ih hcell c1 hx
    go_enter Try.func40, Try.ntmps40
    go_wp2_with fail
    go_quiet (fail)
    go_wp2_with fail
    all_goals
      refine (HI.out _ _ _ B _ HL.out HB1.out (by omega) (by simp; omega) (by first | exact HT.out.drewN _ | exact ir_zero (by omega)) ⟨fun m' W h1 h2 hW => HC.out m' W h1 h2 ((bdrewN_refl _ _).trans hW)⟩).mono ?_
      have hmul : IntKind.i64.wrap (m * s) = m * s := IntWalk.i64_in _ (by have := HB2.out.1; have := bnd_le HB2.out; omega)
      have hms := HB2.out.1
      cases h1 : aP hp r m with
      | false =>
        have HR : Bx (aP hp (s :: r) m = false) := ⟨by simp [aP, h1]⟩
        rintro e w1 ⟨rfl, b⟩
        have HB : Bx (Below w.heap.size w w1) := ⟨(bdrewN_refl _ _).trans (b.mono (by simp))⟩
        clear b
        go_wp2_with fail
        go_ret
        exact ⟨ret_bool HR.out.symm, HB.out⟩
      | true =>
        rintro e w1 ⟨rfl, b⟩
        have HB : Bx (Below w.heap.size w w1) := ⟨(bdrewN_refl _ _).trans (b.mono (by simp))⟩
        clear b
        go_wp2_with fail
        refine (gcd_any _ _ (by omega) (by omega) (by omega) (by omega) _).mono ?_
        rintro e w2 ⟨rfl, nd, rfl⟩
        obtain ⟨G, hG⟩ : ∃ G, G = gcdI m s := ⟨_, rfl⟩
        have HA : Bx (aP hp (s :: r) m = (decide (1 < G) || aP hp r (m * s))) := ⟨by simp [aP, h1, hG]⟩
        rw [← hG]
        clear hG
        have HBN := Bx.mk (HB.out.trans (bdrewN_refl _ nd))
        by_cases hg : 1 < G
        · have HR : Bx (aP hp (s :: r) m = true) := ⟨by rw [HA.out]; simp [hg]⟩
          go_wp2_with fail
          go_ret
          exact ⟨ret_bool HR.out.symm, HBN.out⟩
        · have HR : Bx (aP hp (s :: r) m = aP hp r (m * s)) := ⟨by rw [HA.out]; simp [hg]⟩
          have hw2 := HBN.out.size
          go_wp2_with fail
          refine (HI.out _ _ _ B _ HL.out HB2.out (by omega) (by first | omega | (simp at hw2 ⊢; omega)) (by first | exact HT.out.below HBN.out | exact ir_zero (by omega)) ⟨fun m' W h1 h2 hW => HC.out m' W h1 h2 ((HBN.out.mono hB).trans hW)⟩).mono ?_
          rintro e w3 ⟨rfl, b⟩
          have HB3 := Bx.mk (HBN.out.trans (b.mono hw2))
          clear b
          go_wp2_with fail
          go_ret
          exact ⟨ret_bool HA.out.symm, HB3.out⟩
set_option maxHeartbeats 400000 in
theorem closM (L : List Int) (A : Option Addr) (c g1 : Nat) (m : Int) (w : World) (hx : IR w A L) (k0 : w.cell? ⟨g1, 0, none⟩ = some (.slice A L.length c)) :
    Calls Try.prog 41 #[.int .i64 m, .pointer (some ⟨g1, 0, none⟩)] w fun e w' => e = .returned (.bool (hM L m)) ∧ Below w.heap.size w w' := by
  have HX := Bx.mk hx
  clear hx
  by_cases h1 : m = 1
  · subst h1
    have HR : Bx (hM L 1 = true) := ⟨by simp [hM]⟩
    go_enter Try.func41, Try.ntmps41
    go_wp2_with fail
    go_ret
    exact ⟨ret_bool HR.out.symm, Below.refl _ _⟩
  · have hb : (m == 1) = false := by simp; omega
    have HR : Bx (hM L m = memB L m) := ⟨by simp [hM, hb]⟩
    clear h1
    go_enter Try.func41, Try.ntmps41
    go_wp2_with fail
    refine (contains_any _ _ _ _ _ (by exact HX.out)).mono ?_
    rintro e w1 ⟨rfl, rfl⟩
    go_wp2_with fail
    go_ret
    exact ⟨ret_bool HR.out.symm, Below.refl _ _⟩
set_option maxHeartbeats 1000000 in
set_option maxRecDepth 20000 in
theorem implMs_any (s : Int) (A : Option Addr) (c : Nat) (xs : List Int) (w : World) (hs : -9223372036854775808 ≤ s ∧ s ≤ 9223372036854775807) (hx : IR w A xs) :
    Calls Try.prog 17 #[.agg #[.int .i64 s, .slice A xs.length c]] w fun e w' => e = .returned (.bool (msI s xs)) ∧ Below w.heap.size w w' := by
  obtain ⟨W0, hW0⟩ : ∃ W0, W0 = w.alloc (.cells #[.int .i64 s, .slice A xs.length c] 25) := ⟨_, rfl⟩
  have bw : Below w.heap.size w W0 := by rw [hW0]; exact below_alloc _ _
  have hz : w.heap.size < W0.heap.size := by rw [hW0]; simp
  have k0 : W0.cell? ⟨w.heap.size, 0, none⟩ = some (.int .i64 s) := by rw [hW0]; simp [go_sem]
  have k1 : W0.cell? ⟨w.heap.size, 1, none⟩ = some (.slice A xs.length c) := by rw [hW0]; simp [go_sem]
  have HX := Bx.mk ((RB.of_ir hx).below bw (Nat.le_refl _))
  have HS := Bx.mk hs
  clear hx hs
  cases h1 : rhOk s xs with
  | false =>
    have HR : Bx (msI s xs = false) := ⟨by simp [msI, h1]⟩
    go_enter Try.func17, Try.ntmps17
    go_wp2_with fail
    rw [← hW0]
    clear hW0
    refine (rhOk_is' h1 (implRhythmOk_any _ _ _ _ _ HS.out (by exact HX.out.ir))).mono ?_
    rintro e w1 ⟨rfl, b⟩
    replace k0 := ((bcell b).1 _ _ (by omega)).trans k0
    replace k1 := ((bcell b).1 _ _ (by omega)).trans k1
    replace HX := Bx.mk (HX.out.below b (by omega))
    replace hz := Nat.lt_of_lt_of_le hz b.size
    replace bw := bw.trans (b.mono bw.size)
    clear b
    go_wp2_with fail
    go_ret
    exact ⟨ret_bool HR.out.symm, bw⟩
  | true =>
    have HP : Bx (∀ x ∈ ppI s xs, 1 ≤ x ∧ x ≤ 24) := ⟨fun x hx => by have := ppI_pp h1 x hx; exact ⟨this.1, this.2.1⟩⟩
    have HB8 : Bx (bnd 1 (ppI s xs).length) := ⟨bnd_len (ppI_8 h1)⟩
    have HR : Bx (msI s xs = aP (hM (ordI s xs)) (ppI s xs) 1) := ⟨by simp [msI, h1]⟩
    go_enter Try.func17, Try.ntmps17
    go_wp2_with fail
    rw [← hW0]
    clear hW0
    refine (rhOk_is' h1 (implRhythmOk_any _ _ _ _ _ HS.out (by exact HX.out.ir))).mono ?_
    rintro e w1 ⟨rfl, b⟩
    replace k0 := ((bcell b).1 _ _ (by omega)).trans k0
    replace k1 := ((bcell b).1 _ _ (by omega)).trans k1
    replace HX := Bx.mk (HX.out.below b (by omega))
    replace hz := Nat.lt_of_lt_of_le hz b.size
    replace bw := bw.trans (b.mono bw.size)
    clear b
    go_wp2_with fail
    refine (implOrd_any _ _ _ _ _ HS.out (by exact HX.out.ir)).mono ?_
    rintro e w2 ⟨A2, c2, rfl, io2, b⟩
    replace k0 := ((bcell b).1 _ _ (by omega)).trans k0
    replace k1 := ((bcell b).1 _ _ (by omega)).trans k1
    replace HX := Bx.mk (HX.out.below b (by omega))
    have hz2 : w.heap.size < w2.heap.size := Nat.lt_of_lt_of_le hz b.size
    have hz12 := b.size
    have bw2 := bw.trans (b.mono bw.size)
    obtain ⟨OL, hOL⟩ : ∃ OL, OL = ordI s xs := ⟨_, rfl⟩
    rw [← hOL] at io2 HR ⊢
    have HO := Bx.mk (OB.of io2 (Nat.le_refl _)).rb
    clear b io2 bw hz hOL
    obtain ⟨g, hg⟩ : ∃ g, g = w2.heap.size := ⟨_, rfl⟩
    obtain ⟨w3, hw3⟩ : ∃ w3, w3 = w2.alloc (.cells #[.slice A2 OL.length c2] 23) := ⟨_, rfl⟩
    have b3 : Below w2.heap.size w2 w3 := by rw [hw3]; exact below_alloc _ _
    have kg : w3.cell? ⟨g, 0, none⟩ = some (.slice A2 OL.length c2) := by rw [hw3, hg]; simp [go_sem]
    have hz3 : g < w3.heap.size := by rw [hw3, hg]; simp
    replace HX := Bx.mk (HX.out.below b3 (by omega))
    replace HO := Bx.mk (HO.out.below b3 (Nat.le_refl _))
    have bw3 := bw2.trans (b3.mono (by omega))
    have hwg : w.heap.size < g := by omega
    have hz23 := b3.size
    clear b3
    go_wp2_with fail
    rw [← hw3, ← hg]
    clear hw3 hg
    refine (implPp_any _ _ _ _ _ HS.out (by exact HX.out.ir)).mono ?_
    rintro e w4 ⟨A4, c4, rfl, io4, b⟩
    replace kg := ((bcell b).1 _ _ (by omega)).trans kg
    replace HO := Bx.mk (HO.out.below b (by omega))
    have hz4 := b.size
    have bw4 := bw3.trans (b.mono (by omega))
    obtain ⟨PL, hPL⟩ : ∃ PL, PL = ppI s xs := ⟨_, rfl⟩
    rw [← hPL] at io4 HP HB8 HR ⊢
    have hc4 := io4.1
    clear hPL
    have HI4 := Bx.mk io4.reads
    have HC : Bx (∀ m W, 1 ≤ m → m ≤ 110075314176 → Below w3.heap.size w4 W → Calls Try.prog 41 #[.int .i64 m, .pointer (some ⟨g, 0, none⟩)] W fun e w' => e = .returned (.bool (hM OL m)) ∧ Below W.heap.size W w') :=
      ⟨fun m W _ _ hW => closM OL A2 c2 g m W (HO.out.below hW (by omega)).ir (((bcell hW).1 _ _ hz3).trans kg)⟩
    clear b io4 k0 k1
    go_wp2_with fail
    refine (allProd_any (hM OL) g PL A4 c4 1 w3.heap.size w4 HP.out HB8.out hc4 hz4 HI4.out HC).mono ?_
    rintro e w5 ⟨rfl, b⟩
    have HBF := Bx.mk (bw4.trans (b.mono bw4.size))
    clear b
    go_wp2_with fail
    go_ret
    exact ⟨ret_bool HR.out.symm, HBF.out⟩
end Go.Proofs.Ytgfdmjhdfddopaa
