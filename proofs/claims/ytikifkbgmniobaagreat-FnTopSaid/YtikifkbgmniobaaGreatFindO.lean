/- What the reference's search for one partner finds. -/
import Derived.Test.YtikifkbgmniobaaGreatFind
import Derived.Test.YtikifkbgmniobaaGreatRowR
import Derived.Test.YtikifkbgmniobaaGreatPtz
import Derived.Test.YtikifkbgmniobaaGreatFcPlain
import Derived.Deep.RegionHeld3
import Derived.Deep.DeepCutAuto
import Derived.Deep.AppendLies
import Derived.Deep.QuietTactic
import Derived.BigQuiet
namespace Go.Proofs.YtikifkbgmniobaaGreat
open Go.RowKit
set_option maxRecDepth 20000

def Low (base : Nat) (ws : List Value) : Prop := ∀ v ∈ ws, ∃ B m c, v = .slice B m c ∧ ∀ x, B = some x → base ≤ x.block
theorem Low.nil (base : Nat) : Low base [] := fun v h => by cases h
theorem Low.one {base m c : Nat} {B : Option Addr} (h : ∀ x, B = some x → base ≤ x.block) : Low base [.slice B m c] := fun v hv => by
  rw [List.mem_singleton] at hv
  exact ⟨B, m, c, hv, h⟩
theorem Low.app {base : Nat} {a b : List Value} (h : Low base a) (k : Low base b) : Low base (a ++ b) := fun v hv => by
  rcases List.mem_append.1 hv with e | e
  · exact h v e
  · exact k v e
def GivesFo (w : World) (base : Nat) (AV : Option Addr) (N : Nat) (vs : List Value) (n : Int) (L : List (List Int)) (e : Ending) (w' : World) : Prop :=
  ∃ AV' cV' ws, e = .returned (.slice AV' (N + L.length) cV') ∧ Fc w base AV N vs n L AV' cV' ws w' ∧ Low base ws
set_option maxHeartbeats 4000000 in
set_option maxRecDepth 20000 in
theorem l09FindO_full (n : Nat) (AX : Option Addr) (cX : Nat) (xs S : List Int) (pi : Int) (h12 : n ≤ 24) (_hxl : xs.length ≤ 24) (_hSl : S.length ≤ 24) (hl : xs.length * S.length = n) (hS0 : 0 < S.length) (A : Option Addr) (c : Nat) (AV : Option Addr) (cV : Nat) (vs : List Value) (base : Nat) (w : World)
    (hx : IR w AX xs) (hy : IR w A S) (hown : w.ownsRow base 26 2 (.slice AV 0 cV) 0 vs) (hb : base ≤ w.heap.size) (hAb : ∀ x, A = some x → base ≤ x.block) (hdx : ∀ x y, AX = some x → AV = some y → x.block ≠ y.block) (hdy : ∀ x y, A = some x → AV = some y → x.block ≠ y.block) :
    Calls Tryz.prog 70 #[.agg #[.int .i64 n, .slice AX xs.length cX], .agg #[.int .i64 n, .slice A S.length c], .slice AV 0 cV, .int .i64 pi, .bool true] w (GivesFo w base AV 0 vs n [S]) := by
  have hmi : (xs.length : Int) * (S.length : Int) = (n : Int) := by rw [← hl]; simp
  have hwm : IntKind.i64.wrap ((xs.length : Int) * (S.length : Int)) = (n : Int) := by rw [hmi]; exact IntWalk.i64_in _ (by omega)
  have hwn : IntKind.i64.wrap (n : Int) = (n : Int) := IntWalk.i64_in _ (by omega)
  have hnn : (((n : Int) == (n : Int))) = true := by simp
  clear hl
  obtain ⟨W0, hW0⟩ : ∃ W0, W0 = (w.alloc (.cells #[.int .i64 n, .slice AX xs.length cX] 26)).alloc (.cells #[.int .i64 n, .slice A S.length c] 26) := ⟨_, rfl⟩
  have bw : Below w.heap.size w W0 := by rw [hW0]; exact (below_alloc _ _).alloc (by simp) _
  have hz : w.heap.size + 2 ≤ W0.heap.size := by rw [hW0]; simp
  have k0 : W0.cell? ⟨w.heap.size, 0, none⟩ = some (.int .i64 n) := by rw [hW0]; simp [go_sem]
  have kx1 : W0.cell? ⟨w.heap.size, 1, none⟩ = some (.slice AX xs.length cX) := by rw [hW0]; simp [go_sem]
  have kb0 : W0.cell? ⟨w.heap.size + 1, 0, none⟩ = some (.int .i64 n) := by rw [hW0]; simp [go_sem]
  have k1 : W0.cell? ⟨w.heap.size + 1, 1, none⟩ = some (.slice A S.length c) := by rw [hW0]; simp [go_sem]
  have HX := Bx.mk (hx.below bw)
  have HXS := Bx.mk (hy.below bw)
  have HOW := Bx.mk (own_below hown bw (Nat.le_refl _))
  have hAVl : ∀ y, AV = some y → y.block < w.heap.size := by
    intro y hy
    rcases hown.2 with ⟨e1, _⟩ | ⟨g, cap, cur, e1, _, hh, _⟩
    · injection e1 with e1; rw [hy] at e1; cases e1
    · injection e1 with e1; rw [hy] at e1; injection e1 with e1; rw [e1]; exact heap_lt hh
  have HAV := Bx.mk hAVl
  have HD1 := Bx.mk hdx
  have HD2 := Bx.mk hdy
  have HS0 := Bx.mk hS0
  have HZW := Bx.mk bw.size
  have HAB := Bx.mk hAb
  clear hx hy hown hAVl hdx hdy hS0 hAb
  go_enter Tryz.func70, Tryz.ntmps70
  go_upto_region 4 with (fail)
  rw [← hW0]
  clear hW0
  go_wp2_with (at_builtin; go_must (refine wpList_appGL 33 26 2 32 (.agg #[.int .i64 0, .slice none 0 0]) Tryz.underlying33 info_rh rfl (by decide) (by decide) rfl _ _ rfl base (.slice AV 0 cV) 0 vs [.int .i64 n, .slice A S.length c] rfl rfl rfl (by intro u hu; simp at hu; rcases hu with rfl | rfl <;> rfl) (by exact HOW.out) (by omega) (by omega) ?_); intro g1 cap1 w6 hown1 hg1 hat1)
  have R := Bx.mk (And.intro hown1 (And.intro hg1 hat1))
  clear hown1 hg1 hat1
  go_wp2_with fail
  go_ret
  obtain ⟨r1, r2, r3⟩ := R.out
  rw [own_blk] at r2 r3
  exact ⟨some ⟨g1, 0, none⟩, cap1, [.slice A S.length c], rfl, Fc.leaf (by exact r1) (by exact HXS.out) HD2.out HS0.out HZW.out (by exact r2) (by exact r3) bw, Low.one HAB.out⟩
set_option maxHeartbeats 4000000 in
set_option maxRecDepth 20000 in
theorem l09FindO_prune (n : Nat) (AX : Option Addr) (cX : Nat) (xs S : List Int) (p r : Nat) (h12 : n ≤ 24) (hk : 1 ≤ xs.length) (hxl : xs.length ≤ 24) (hSl : S.length ≤ 24) (hl : xs.length * S.length ≠ n) (hpr : p + r = n) (hlt : S.length + r < n / xs.length) (A : Option Addr) (c : Nat) (AV : Option Addr) (cV : Nat) (vs : List Value) (base : Nat) (w : World)
    (hx : IR w AX xs) (hy : IR w A S) (hown : w.ownsRow base 26 2 (.slice AV 0 cV) 0 vs) (hdx : ∀ x y, AX = some x → AV = some y → x.block ≠ y.block) (hdy : ∀ x y, A = some x → AV = some y → x.block ≠ y.block) :
    Calls Tryz.prog 70 #[.agg #[.int .i64 n, .slice AX xs.length cX], .agg #[.int .i64 n, .slice A S.length c], .slice AV 0 cV, .int .i64 p, .bool true] w (GivesFo w base AV 0 vs n []) := by
  obtain ⟨m1, hm1⟩ : ∃ m1 : Nat, m1 = xs.length * S.length := ⟨_, rfl⟩
  have hm1b : m1 ≤ 576 := by rw [hm1]; have := Nat.mul_le_mul hxl hSl; omega
  have hmi : (xs.length : Int) * (S.length : Int) = (m1 : Int) := by rw [hm1]; simp
  have hwm : IntKind.i64.wrap ((xs.length : Int) * (S.length : Int)) = (m1 : Int) := by rw [hmi]; exact IntWalk.i64_in _ (by omega)
  have hwn : IntKind.i64.wrap (m1 : Int) = (m1 : Int) := IntWalk.i64_in _ (by omega)
  have hnn : (((m1 : Int) == (n : Int))) = false := by rw [beq_eq_false_iff_ne]; omega
  obtain ⟨q, hq⟩ : ∃ q : Nat, q = n / xs.length := ⟨_, rfl⟩
  have hqd : (n : Int).tdiv (xs.length : Int) = (q : Int) := by rw [hq]; exact (Int.ofNat_tdiv n xs.length).symm
  have hqb : q ≤ 24 := by rw [hq]; exact Nat.le_trans (Nat.div_le_self _ _) h12
  have hwq : IntKind.i64.wrap (q : Int) = (q : Int) := IntWalk.i64_in _ (by omega)
  have hw1 : IntKind.i64.wrap ((S.length : Int) + (n : Int)) = (S.length : Int) + (n : Int) := IntWalk.i64_in _ (by omega)
  have hw2 : IntKind.i64.wrap ((S.length : Int) + (n : Int) - (p : Int)) = (S.length : Int) + (n : Int) - (p : Int) := IntWalk.i64_in _ (by omega)
  have hltq : (S.length : Int) + (n : Int) - (p : Int) < (q : Int) := by rw [hq]; omega
  have hxn0 : ¬ xs.length = 0 := by omega
  have hxi0 : ¬ (xs.length : Int) = 0 := by omega
  have hxe : xs ≠ [] := List.ne_nil_of_length_pos (by omega)
  clear hl hm1 hq hlt
  obtain ⟨W0, hW0⟩ : ∃ W0, W0 = (w.alloc (.cells #[.int .i64 n, .slice AX xs.length cX] 26)).alloc (.cells #[.int .i64 n, .slice A S.length c] 26) := ⟨_, rfl⟩
  have bw : Below w.heap.size w W0 := by rw [hW0]; exact (below_alloc _ _).alloc (by simp) _
  have hz : w.heap.size + 2 ≤ W0.heap.size := by rw [hW0]; simp
  have k0 : W0.cell? ⟨w.heap.size, 0, none⟩ = some (.int .i64 n) := by rw [hW0]; simp [go_sem]
  have kx1 : W0.cell? ⟨w.heap.size, 1, none⟩ = some (.slice AX xs.length cX) := by rw [hW0]; simp [go_sem]
  have kb0 : W0.cell? ⟨w.heap.size + 1, 0, none⟩ = some (.int .i64 n) := by rw [hW0]; simp [go_sem]
  have k1 : W0.cell? ⟨w.heap.size + 1, 1, none⟩ = some (.slice A S.length c) := by rw [hW0]; simp [go_sem]
  have HX := Bx.mk (hx.below bw)
  have HXS := Bx.mk (hy.below bw)
  have HOW := Bx.mk (own_below hown bw (Nat.le_refl _))
  have hAVl : ∀ y, AV = some y → y.block < w.heap.size := by
    intro y hy
    rcases hown.2 with ⟨e1, _⟩ | ⟨g, cap, cur, e1, _, hh, _⟩
    · injection e1 with e1; rw [hy] at e1; cases e1
    · injection e1 with e1; rw [hy] at e1; injection e1 with e1; rw [e1]; exact heap_lt hh
  have HAV := Bx.mk hAVl
  have HD1 := Bx.mk hdx
  have HD2 := Bx.mk hdy
  clear hx hy hown hAVl hdx hdy
  go_enter Tryz.func70, Tryz.ntmps70
  go_upto_region 5 with (fail)
  rw [← hW0]
  clear hW0
  go_quiet (fail)
  go_wp2_with fail
  go_ret
  exact ⟨AV, cV, [], rfl, Fc.nil HOW.out ((Only.of_below AV bw).drewN _), Low.nil _⟩
theorem take1_nil {L : List (List Int)} (h : L.take 1 = []) : L = [] := by cases L with | nil => rfl | cons x r => simp at h
theorem take1_app (L M : List (List Int)) : (L ++ M).take 1 = if L = [] then M.take 1 else L.take 1 := by cases L with | nil => rfl | cons x r => rfl
set_option maxHeartbeats 1000000 in
theorem l09FindO_got (n : Nat) (AX : Option Addr) (cX : Nat) (xs S : List Int) (pi : Int) (A : Option Addr) (c : Nat) (AV : Option Addr) (cV : Nat) (vs : List Value) (base : Nat) (w : World) (hown : w.ownsRow base 26 2 (.slice AV 1 cV) 1 vs) :
    Calls Tryz.prog 70 #[.agg #[.int .i64 n, .slice AX xs.length cX], .agg #[.int .i64 n, .slice A S.length c], .slice AV 1 cV, .int .i64 pi, .bool true] w (GivesFo w base AV 1 vs n []) := by
  obtain ⟨W0, hW0⟩ : ∃ W0, W0 = (w.alloc (.cells #[.int .i64 n, .slice AX xs.length cX] 26)).alloc (.cells #[.int .i64 n, .slice A S.length c] 26) := ⟨_, rfl⟩
  have bw : Below w.heap.size w W0 := by rw [hW0]; exact (below_alloc _ _).alloc (by simp) _
  have HOW := Bx.mk (own_below hown bw (Nat.le_refl _))
  clear hown
  go_enter Tryz.func70, Tryz.ntmps70
  go_wp2_with fail
  rw [← hW0]
  clear hW0
  go_ret
  exact ⟨AV, cV, [], rfl, Fc.nil HOW.out (Only.of_below AV bw), Low.nil _⟩
set_option maxHeartbeats 8000000 in
set_option maxRecDepth 20000 in
theorem l09FindO_any (n : Nat) (AX : Option Addr) (cX : Nat) (xs : List Int) (hn1 : 1 ≤ n) (h12 : n ≤ 24) (hok : rhOk n xs = true) (hk : 1 ≤ xs.length) (hdvd : n % xs.length = 0) : ∀ (m hi : Nat) (A : Option Addr) (c : Nat) (AV : Option Addr) (N cV : Nat) (vs : List Value) (base : Nat) (w : World), m ≤ n → 2 ^ m ∣ hi → hi + 2 ^ m ≤ 2 ^ n → drct n xs (bt n hi) = true → (m = n ∨ hi.testBit (n - 1) = true) → (bt n hi = [] → A = none ∧ c = 0) → IR w AX xs → IR w A (bt n hi) → w.ownsRow base 26 2 (.slice AV N cV) N vs → base ≤ w.heap.size → (∀ x, A = some x → base ≤ x.block) → N = 0 → (∀ x y, AX = some x → AV = some y → x.block ≠ y.block) → (∀ x y, A = some x → AV = some y → x.block ≠ y.block) →
      Calls Tryz.prog 70 #[.agg #[.int .i64 n, .slice AX xs.length cX], .agg #[.int .i64 n, .slice A (bt n hi).length c], .slice AV N cV, .int .i64 ((n : Int) - (m : Int)), .bool true] w (GivesFo w base AV N vs n ((ptS n xs m hi).take 1)) := by
  have hxl := (rhOk_len hok).1
  have HLE := Bx.mk (fun S => @drct_le n xs S hok)
  have HPOS : Bx (∀ q, xs.length * q = n → 0 < q) := ⟨fun q h => by rcases Nat.eq_zero_or_pos q with e | e; (rw [e] at h; simp at h; omega); exact e⟩
  intro m
  induction m with
  | zero =>
    intro hi A c AV N cV vs base w hmn hdv hhb hd hor hnil hx hy hown hb hAb hN hdx hdy
    subst hN
    have hbok : rhOk n (bt n hi) = true := by have := selTo_ok (s := (n : Int)) ⟨by omega, by omega⟩ (btP n hi); rw [Int.toNat_natCast] at this; exact this
    have hbl := (rhOk_len hbok).1
    by_cases hl : xs.length * (bt n hi).length = n
    · have := l09FindO_full n AX cX xs (bt n hi) ((n : Int) - ((0 : Nat) : Int)) h12 hxl hbl hl (by have := HPOS.out _ hl; omega) A c AV cV vs base w hx hy hown hb hAb hdx hdy
      rw [show (ptS n xs 0 hi).take 1 = [bt n hi] by simp [ptS, hl]]
      exact this
    · have hle := HLE.out _ hd
      have h1 : n = xs.length * (n / xs.length) := by have := Nat.div_add_mod n xs.length; omega
      have h2 : (bt n hi).length < n / xs.length := by
        refine Nat.lt_of_mul_lt_mul_left (a := xs.length) ?_
        omega
      have := l09FindO_prune n AX cX xs (bt n hi) n 0 h12 hk hxl hbl hl (by omega) (by omega) A c AV cV vs base w hx hy hown hdx hdy
      rw [show (ptS n xs 0 hi).take 1 = [] by simp [ptS, hl], show (n : Int) - ((0 : Nat) : Int) = (n : Int) by omega]
      exact this
  | succ m ih =>
    intro hi A c AV N cV vs base w hmn hdv hhb hd hor hnil hx hy hown hb hAb hN hdx hdy
    subst hN
    have hbok : rhOk n (bt n hi) = true := by have := selTo_ok (s := (n : Int)) ⟨by omega, by omega⟩ (btP n hi); rw [Int.toNat_natCast] at this; exact this
    have hbl := (rhOk_len hbok).1
    have hp2 : 2 ^ (m + 1) = 2 ^ m + 2 ^ m := by rw [Nat.pow_succ]; omega
    by_cases hl : xs.length * (bt n hi).length = n
    · have := l09FindO_full n AX cX xs (bt n hi) ((n : Int) - ((m + 1 : Nat) : Int)) h12 hxl hbl hl (by have := HPOS.out _ hl; omega) A c AV cV vs base w hx hy hown hb hAb hdx hdy
      rw [show (ptS n xs (m + 1) hi).take 1 = [bt n hi] by simp [ptS, hl]]
      exact this
    · by_cases hpr : (bt n hi).length + (m + 1) < n / xs.length
      · have := l09FindO_prune n AX cX xs (bt n hi) (n - (m + 1)) (m + 1) h12 hk hxl hbl hl (by omega) hpr A c AV cV vs base w hx hy hown hdx hdy
        rw [show (ptS n xs (m + 1) hi).take 1 = [] by simp only [ptS]; rw [if_neg hl, if_pos hpr]; rfl, show (n : Int) - ((m + 1 : Nat) : Int) = ((n - (m + 1) : Nat) : Int) by omega]
        exact this
      · obtain ⟨p, hp⟩ : ∃ p, p = n - (m + 1) := ⟨_, rfl⟩
        have hpi : (n : Int) - ((m + 1 : Nat) : Int) = (p : Int) := by omega
        have hdv' : 2 ^ m ∣ hi := Nat.dvd_trans (Nat.pow_dvd_pow 2 (by omega)) hdv
        have hdv2 : 2 ^ m ∣ hi + 2 ^ m := (Nat.dvd_add_right hdv').2 (Nat.dvd_refl _)
        have hor2 : m = n ∨ (hi + 2 ^ m).testBit (n - 1) = true := by
          right
          rw [tb_add hdv]
          rcases hor with e | e
          · simp; right; omega
          · rw [e]; rfl
        obtain ⟨dB, hdB⟩ : ∃ dB, dB = drct n xs (bt n (hi + 2 ^ m)) := ⟨_, rfl⟩
        have HPT : Bx (ptS n xs (m + 1) hi = (if dB = true then ptS n xs m (hi + 2 ^ m) else []) ++ (if m + 1 = n then [] else ptS n xs m hi)) := ⟨by simp only [ptS]; rw [if_neg hl, if_neg hpr, ← hdB]⟩
        have HAB := Bx.mk hAb
        clear hAb
        have HI1 := Bx.mk (ih (hi + 2 ^ m))
        have HI2 := Bx.mk (ih hi)
        have HDR := Bx.mk hd
        obtain ⟨SP, hSP⟩ : ∃ SP, SP = bt n (hi + 2 ^ m) := ⟨_, rfl⟩
        obtain ⟨S, hS⟩ : ∃ S, S = bt n hi := ⟨_, rfl⟩
        have hSPe : SP = S ++ [(p : Int)] := by rw [hSP, hS, hp]; exact bt_next (by omega) hdv
        have hSPok : rhOk n SP = true := by rw [hSP]; have := selTo_ok (s := (n : Int)) ⟨by omega, by omega⟩ (btP n (hi + 2 ^ m)); rw [Int.toNat_natCast] at this; exact this
        have hSPl := (rhOk_len hSPok).1
        have HBT : Bx (∀ A B c d W, IR W A xs → IR W B SP → Calls Tryz.prog 79 #[.agg #[.int .i64 n, .slice A xs.length c], .agg #[.int .i64 n, .slice B SP.length d], .int .i64 0, .int .i64 1] W fun e w' => e = .returned (.bool dB) ∧ Below W.heap.size W w') := ⟨fun A B c d W h1 h2 => by
          have := between_any n n A B c d xs SP W (by omega) (by omega) h1 h2 0 1
          rw [show btw n xs n SP 0 1 = dB by
            rw [hdB, hSP]
            unfold btw drct twoOk
            rw [← hSP, hok, hSPok]
            simp] at this
          exact this⟩
        rw [← hS] at hbl hbok hl hpr hy hnil ⊢
        have HOK := Bx.mk hbok
        have hS0 := Bx.mk hS
        have HDB := Bx.mk hdB
        have HSP := Bx.mk hSP
        have HSPE := Bx.mk hSPe
        obtain ⟨m1, hm1⟩ : ∃ m1 : Nat, m1 = xs.length * S.length := ⟨_, rfl⟩
        have hm1b : m1 ≤ 576 := by rw [hm1]; have := Nat.mul_le_mul hxl hbl; omega
        have hmi : (xs.length : Int) * (S.length : Int) = (m1 : Int) := by rw [hm1]; simp
        have hwm : IntKind.i64.wrap ((xs.length : Int) * (S.length : Int)) = (m1 : Int) := by rw [hmi]; exact IntWalk.i64_in _ (by omega)
        have hwn : IntKind.i64.wrap (m1 : Int) = (m1 : Int) := IntWalk.i64_in _ (by omega)
        have hnn : (((m1 : Int) == (n : Int))) = false := by rw [beq_eq_false_iff_ne]; omega
        obtain ⟨q, hq⟩ : ∃ q : Nat, q = n / xs.length := ⟨_, rfl⟩
        have hqd : (n : Int).tdiv (xs.length : Int) = (q : Int) := by rw [hq]; exact (Int.ofNat_tdiv n xs.length).symm
        have hqb : q ≤ 24 := by rw [hq]; exact Nat.le_trans (Nat.div_le_self _ _) h12
        have hwq : IntKind.i64.wrap (q : Int) = (q : Int) := IntWalk.i64_in _ (by omega)
        have hw1 : IntKind.i64.wrap ((S.length : Int) + (n : Int)) = (S.length : Int) + (n : Int) := IntWalk.i64_in _ (by omega)
        have hw2 : IntKind.i64.wrap ((S.length : Int) + (n : Int) - (p : Int)) = (S.length : Int) + (n : Int) - (p : Int) := IntWalk.i64_in _ (by omega)
        have hltq : ¬ (S.length : Int) + (n : Int) - (p : Int) < (q : Int) := by rw [hq]; omega
        have hxn0 : ¬ xs.length = 0 := by omega
        have hxi0 : ¬ (xs.length : Int) = 0 := by omega
        have hxe : xs ≠ [] := List.ne_nil_of_length_pos (by omega)
        have HLX : Bx (∀ x, AX = some x → x.block < w.heap.size) := ⟨fun x hxx => by
          obtain ⟨b', o', e, hb', _⟩ := hx.at_ (by omega)
          rw [e] at hxx; injection hxx with hxx; subst hxx; exact hb'⟩
        have HLS : Bx (∀ x, A = some x → x.block < w.heap.size) := ⟨fun x hxx => by
          by_cases h0 : 0 < S.length
          · obtain ⟨b', o', e, hb', _⟩ := hy.at_ h0
            rw [e] at hxx; injection hxx with hxx; subst hxx; exact hb'
          · have := (hnil (List.eq_nil_of_length_eq_zero (by omega))).1
            rw [this] at hxx; cases hxx⟩
        rw [hpi]
        have hpl1 : p + (m + 1) ≤ n := by omega
        have hpl2 : n ≤ p + (m + 1) := by omega
        clear hl hm1 hq hpr hS hSP hdB hSPe hSPok hbok hd hok hpi ih hp
        obtain ⟨W0, hW0⟩ : ∃ W0, W0 = (w.alloc (.cells #[.int .i64 n, .slice AX xs.length cX] 26)).alloc (.cells #[.int .i64 n, .slice A S.length c] 26) := ⟨_, rfl⟩
        have bw : Below w.heap.size w W0 := by rw [hW0]; exact (below_alloc _ _).alloc (by simp) _
        have hz : w.heap.size + 2 ≤ W0.heap.size := by rw [hW0]; simp
        have k0 : W0.cell? ⟨w.heap.size, 0, none⟩ = some (.int .i64 n) := by rw [hW0]; simp [go_sem]
        have kx1 : W0.cell? ⟨w.heap.size, 1, none⟩ = some (.slice AX xs.length cX) := by rw [hW0]; simp [go_sem]
        have kb0 : W0.cell? ⟨w.heap.size + 1, 0, none⟩ = some (.int .i64 n) := by rw [hW0]; simp [go_sem]
        have k1 : W0.cell? ⟨w.heap.size + 1, 1, none⟩ = some (.slice A S.length c) := by rw [hW0]; simp [go_sem]
        have HX := Bx.mk (hx.below bw)
        have HXS := Bx.mk (hy.below bw)
        have HOW := Bx.mk (own_below hown bw (Nat.le_refl _))
        have hAVl : ∀ y, AV = some y → y.block < w.heap.size := by
          intro y hy
          rcases hown.2 with ⟨e1, _⟩ | ⟨g, cap, cur, e1, _, hh, _⟩
          · injection e1 with e1; rw [hy] at e1; cases e1
          · injection e1 with e1; rw [hy] at e1; injection e1 with e1; rw [e1]; exact heap_lt hh
        have HAV := Bx.mk hAVl
        have HD1 := Bx.mk hdx
        have HD2 := Bx.mk hdy
        clear hx hy hown hAVl hdx hdy
        go_enter Tryz.func70, Tryz.ntmps70
        go_upto_region 5 with (fail)
        rw [← hW0]
        clear hW0
        go_quiet (fail)
        go_upto_region 7 with (fail)
        replace k0 : (W0.drewN nq).cell? ⟨w.heap.size, 0, none⟩ = some (.int .i64 n) := k0
        replace kx1 : (W0.drewN nq).cell? ⟨w.heap.size, 1, none⟩ = some (.slice AX xs.length cX) := kx1
        replace kb0 : (W0.drewN nq).cell? ⟨w.heap.size + 1, 0, none⟩ = some (.int .i64 n) := kb0
        replace k1 : (W0.drewN nq).cell? ⟨w.heap.size + 1, 1, none⟩ = some (.slice A S.length c) := k1
        replace HX : Bx (IR (W0.drewN nq) AX xs) := HX
        replace HXS : Bx (IR (W0.drewN nq) A S) := HXS
        replace HOW : Bx ((W0.drewN nq).ownsRow base 26 2 (.slice AV 0 cV) 0 vs) := HOW
        replace hz : w.heap.size + 2 ≤ (W0.drewN nq).heap.size := hz
        replace bw := bdrewN bw nq
        clear hmi hwm hwn hnn hqd hwq hw1 hw2 hltq hxn0 hxi0 hxe
        generalize W0.drewN nq = w2 at *
        have hnil0 := hnil
        go_cut [11] (fun sx wx => ∃ (g : Nat) (A' : Option Addr) (c' : Nat), sx = .pointer (some ⟨g, 0, none⟩) ∧ Bx (Blk wx g 26 #[.int .i64 n, .slice A' (S ++ [(p : Int)]).length c'] ∧ (w2.heap.size ≤ g ∧ g < wx.heap.size) ∧ IO wx w2.heap.size A' c' (S ++ [(p : Int)]) ∧ Below w2.heap.size w2 wx))
        case first =>
          have hB0 : Bx (Below w2.heap.size w2 w2) := ⟨Below.refl _ _⟩
          have hBd : Bx (Below w2.heap.size w2 w2.drew) := ⟨(Below.refl _ _).drew⟩
          have HSL : Bx (S.length ≤ 1000) := ⟨by have := (rhOk_len HOK.out).1; omega⟩
          have k0d : w2.drew.cell? _ = _ := k0
          by_cases hS : S = []
          · obtain ⟨eA, ec⟩ := hnil hS
            subst hS eA ec
            have k1d : w2.drew.cell? _ = _ := k1
            clear hnil
            go_region_held3 (fun w' => w'.cell? ⟨w.heap.size, 0, none⟩ = some (.int .i64 (n : Int)) ∧ w'.cell? ⟨w.heap.size + 1, 1, none⟩ = some (.slice none 0 0) ∧ Bx (Below w2.heap.size w2 w'))
              ((refine (fun (hK : Bx (Below w2.heap.size w2 _)) => ⟨((bcell hK.out).1 _ _ (by omega)).trans k0, ((bcell hK.out).1 _ _ (by omega)).trans k1, hK⟩) ?_; first | assumption | exact bx_alloc (by assumption) _ | exact bx_alloc (bx_alloc (by assumption) _) _ | exact bx_alloc (bx_alloc (bx_alloc (by assumption) _) _) _ | exact bx_drew (by assumption) | exact bx_set (bx_set (by first | assumption | exact bx_alloc (by assumption) _ | exact bx_alloc (bx_alloc (by assumption) _) _) (by first | omega | (simp; done) | (simp; omega)) _) (by first | omega | (simp; done) | (simp; omega)) _))
              (first
                | (refine step_appNil (by rfl) _ _ (by rfl) w2.heap.size _ [] (by rfl) (row_blk (by (try refine blk_undrew ?_); first | (refine blk_eq ?_; focus (simp; done)) | (refine Blk.alloc (blk_eq ?_) _; focus (simp; done)) | (refine Blk.alloc (Blk.alloc (blk_eq ?_) _) _; focus (simp; done))) (by first | omega | (simp; done) | (simp; omega))) (by rfl) ?_)
                | (refine step_appL (by rfl) _ _ (by rfl) w2.heap.size _ [] (by rfl) (row_blk (by (try refine blk_undrew ?_); first | (refine blk_eq ?_; focus (simp; done)) | (refine Blk.alloc (blk_eq ?_) _; focus (simp; done)) | (refine Blk.alloc (Blk.alloc (blk_eq ?_) _) _; focus (simp; done))) (by first | omega | (simp; done) | (simp; omega))) _ 0 1 [(p : Int)] (by rfl) (ir_one (by (try refine blk_undrew ?_); first | (refine blk_eq ?_; focus (simp; done)) | (refine Blk.alloc (blk_eq ?_) _; focus (simp; done)) | (refine Blk.alloc (Blk.alloc (blk_eq ?_) _) _; focus (simp; done)))) (by simp) (by simp) (by first | (simp; done) | (simp; omega)) ?_; intro g2 cap2 w4 hrow2 hgr2 hat2 hlt2; have hBw4 : Bx (Below w2.heap.size w2 w4) := bx_grown (by first | assumption | exact bx_alloc (by assumption) _ | exact bx_alloc (bx_alloc (by assumption) _) _ | exact bx_alloc (bx_alloc (bx_alloc (by assumption) _) _) _) hgr2 (by intro k hk; simp [Value.ownBlock] at hk; omega); have hzw4 := bx_size hBw4; have HIO4 := Bx.mk (hrow2.io' rfl (by have := HSL.out; first | (simp; done) | (simp; omega))); have hat2' := hat2; (try simp [Value.ownBlock] at hat2'); (try (refine (fun (hz4A : Blk w4 (w2.heap.size) 26 #[.int .i64 0, .slice none 0 0]) => ?_) (blk_grown ?_ hgr2 ?_); rotate_left 1; ((try refine blk_undrew ?_); first | (refine blk_eq ?_; focus (simp; done)) | (refine Blk.alloc (blk_eq ?_) _; focus (simp; done)) | (refine Blk.alloc (Blk.alloc (blk_eq ?_) _) _; focus (simp; done))); (first | focus (simp [Value.ownBlock]; done) | focus (simp [Value.ownBlock]; omega)); have cz4A0 := hz4A.at_ (i := 0) rfl; have cz4A1 := hz4A.at_ (i := 1) rfl; have fz4A0 := hz4A.frozen 0; have fz4A1 := hz4A.frozen 1; have lz4A := hz4A.lt; refine (fun (HZ4A : Bx (Blk w4 (w2.heap.size) 26 #[.int .i64 0, .slice none 0 0])) => ?_) ⟨hz4A⟩; clear hz4A)); (try (refine (fun (hz4B : Blk w4 (w2.heap.size + 1) 26 #[.int .i64 0, .slice none 0 0]) => ?_) (blk_grown ?_ hgr2 ?_); rotate_left 1; ((try refine blk_undrew ?_); first | (refine blk_eq ?_; focus (simp; done)) | (refine Blk.alloc (blk_eq ?_) _; focus (simp; done)) | (refine Blk.alloc (Blk.alloc (blk_eq ?_) _) _; focus (simp; done))); (first | focus (simp [Value.ownBlock]; done) | focus (simp [Value.ownBlock]; omega)); have cz4B0 := hz4B.at_ (i := 0) rfl; have cz4B1 := hz4B.at_ (i := 1) rfl; have fz4B0 := hz4B.frozen 0; have fz4B1 := hz4B.frozen 1; have lz4B := hz4B.lt; refine (fun (HZ4B : Bx (Blk w4 (w2.heap.size + 1) 26 #[.int .i64 0, .slice none 0 0])) => ?_) ⟨hz4B⟩; clear hz4B)); (try (refine (fun (hz4C : Blk w4 (w2.heap.size + 1 + 1) 26 #[.int .i64 0, .slice none 0 0]) => ?_) (blk_grown ?_ hgr2 ?_); rotate_left 1; ((try refine blk_undrew ?_); first | (refine blk_eq ?_; focus (simp; done)) | (refine Blk.alloc (blk_eq ?_) _; focus (simp; done)) | (refine Blk.alloc (Blk.alloc (blk_eq ?_) _) _; focus (simp; done))); (first | focus (simp [Value.ownBlock]; done) | focus (simp [Value.ownBlock]; omega)); have cz4C0 := hz4C.at_ (i := 0) rfl; have cz4C1 := hz4C.at_ (i := 1) rfl; have fz4C0 := hz4C.frozen 0; have fz4C1 := hz4C.frozen 1; have lz4C := hz4C.lt; refine (fun (HZ4C : Bx (Blk w4 (w2.heap.size + 1 + 1) 26 #[.int .i64 0, .slice none 0 0])) => ?_) ⟨hz4C⟩; clear hz4C))))
            all_goals (go_wp2_with fail; go_meet)
            all_goals refine ⟨_, some ⟨g2, 0, none⟩, cap2, rfl, ⟨⟨?_, ⟨?_, ?_⟩, ?_, ?_⟩⟩⟩
            all_goals first
              | exact (HZ4A.out.set 0 _).set 1 _
              | exact (HZ4B.out.set 0 _).set 1 _
              | exact (HZ4C.out.set 0 _).set 1 _
              | (refine blk_eq ?_; rfl)
              | (rw [show (S ++ [(p : Int)]).length = S.length + 1 by simp]; refine blk_eq ?_; rfl)
              | (have := HZ4A.out.lt; simp; omega)
              | (have := HZ4B.out.lt; simp; omega)
              | (have := HZ4C.out.lt; simp; omega)
              | omega
              | (simp; done)
              | (simp; omega)
              | exact io_off (io_off HIO4.out (by omega)) (by omega)
              | exact io_alloc HIO4.out _
              | exact (bx_alloc hBw4 _).out
              | exact (bx_set (p := ⟨w2.heap.size, 1, none⟩) (bx_set (p := ⟨w2.heap.size, 0, none⟩) hBw4 (show w2.heap.size ≤ w2.heap.size by omega) _) (show w2.heap.size ≤ w2.heap.size by omega) _).out
              | exact (bx_set (p := ⟨w2.heap.size + 1, 1, none⟩) (bx_set (p := ⟨w2.heap.size + 1, 0, none⟩) hBw4 (show w2.heap.size ≤ w2.heap.size + 1 by omega) _) (show w2.heap.size ≤ w2.heap.size + 1 by omega) _).out
              | exact (bx_set (p := ⟨w2.heap.size + 1 + 1, 1, none⟩) (bx_set (p := ⟨w2.heap.size + 1 + 1, 0, none⟩) hBw4 (show w2.heap.size ≤ w2.heap.size + 1 + 1 by omega) _) (show w2.heap.size ≤ w2.heap.size + 1 + 1 by omega) _).out
          · obtain ⟨b, o, x0, rfl, hbx, _, _⟩ := HXS.out.one (k := 0) (List.length_pos_iff.2 hS)
            have hS0 : 0 < S.length := List.length_pos_iff.2 hS
            have HIRS : Bx (∀ W, Bx (Below w2.heap.size w2 W) → IR W (some ⟨b, o, none⟩) S) := ⟨fun W h => HXS.out.below h.out⟩
            have k1d : w2.drew.cell? _ = _ := k1
            clear hnil hS
            go_region_held3 (fun w' => w'.cell? ⟨w.heap.size, 0, none⟩ = some (.int .i64 (n : Int)) ∧ w'.cell? ⟨w.heap.size + 1, 1, none⟩ = some (.slice (some ⟨b, o, none⟩) S.length c) ∧ Bx (Below w2.heap.size w2 w'))
              ((refine (fun (hK : Bx (Below w2.heap.size w2 _)) => ⟨((bcell hK.out).1 _ _ (by omega)).trans k0, ((bcell hK.out).1 _ _ (by omega)).trans k1, hK⟩) ?_; first | assumption | exact bx_alloc (by assumption) _ | exact bx_alloc (bx_alloc (by assumption) _) _ | exact bx_alloc (bx_alloc (bx_alloc (by assumption) _) _) _ | exact bx_drew (by assumption) | exact bx_set (bx_set (by first | assumption | exact bx_alloc (by assumption) _ | exact bx_alloc (bx_alloc (by assumption) _) _) (by first | omega | (simp; done) | (simp; omega)) _) (by first | omega | (simp; done) | (simp; omega)) _))
              (first
                | (refine step_appL (by rfl) _ _ (by rfl) w2.heap.size _ [] (by rfl) (row_blk (by (try refine blk_undrew ?_); first | (refine blk_eq ?_; focus (simp; done)) | (refine Blk.alloc (blk_eq ?_) _; focus (simp; done)) | (refine Blk.alloc (Blk.alloc (blk_eq ?_) _) _; focus (simp; done))) (by first | omega | (simp; done) | (simp; omega))) b o c S (by rfl) (HIRS.out _ (by first | assumption | exact bx_alloc (by assumption) _ | exact bx_alloc (bx_alloc (by assumption) _) _ | exact bx_alloc (bx_alloc (bx_alloc (by assumption) _) _) _)) hS0 (by have := HSL.out; simp; omega) (by first | (simp; done) | (simp; omega)) ?_; intro g1 cap1 w3 hrow1 hgr1 hat1 hlt1; have hBw3 : Bx (Below w2.heap.size w2 w3) := bx_grown (by first | assumption | exact bx_alloc (by assumption) _ | exact bx_alloc (bx_alloc (by assumption) _) _ | exact bx_alloc (bx_alloc (bx_alloc (by assumption) _) _) _) hgr1 (by intro k hk; simp [Value.ownBlock] at hk; omega); have hzw3 := bx_size hBw3; have hat1' := hat1; (try simp [Value.ownBlock] at hat1'); have hbl1 : w2.heap.size ≤ g1 := (by rcases hat1' with h | h <;> (try simp at h) <;> omega); (try (refine (fun (hz3A : Blk w3 (w2.heap.size) 26 #[.int .i64 0, .slice none 0 0]) => ?_) (blk_grown ?_ hgr1 ?_); rotate_left 1; ((try refine blk_undrew ?_); first | (refine blk_eq ?_; focus (simp; done)) | (refine Blk.alloc (blk_eq ?_) _; focus (simp; done)) | (refine Blk.alloc (Blk.alloc (blk_eq ?_) _) _; focus (simp; done))); (first | focus (simp [Value.ownBlock]; done) | focus (simp [Value.ownBlock]; omega)); have cz3A0 := hz3A.at_ (i := 0) rfl; have cz3A1 := hz3A.at_ (i := 1) rfl; have fz3A0 := hz3A.frozen 0; have fz3A1 := hz3A.frozen 1; have lz3A := hz3A.lt; refine (fun (HZ3A : Bx (Blk w3 (w2.heap.size) 26 #[.int .i64 0, .slice none 0 0])) => ?_) ⟨hz3A⟩; clear hz3A)); (try (refine (fun (hz3B : Blk w3 (w2.heap.size + 1) 26 #[.int .i64 0, .slice none 0 0]) => ?_) (blk_grown ?_ hgr1 ?_); rotate_left 1; ((try refine blk_undrew ?_); first | (refine blk_eq ?_; focus (simp; done)) | (refine Blk.alloc (blk_eq ?_) _; focus (simp; done)) | (refine Blk.alloc (Blk.alloc (blk_eq ?_) _) _; focus (simp; done))); (first | focus (simp [Value.ownBlock]; done) | focus (simp [Value.ownBlock]; omega)); have cz3B0 := hz3B.at_ (i := 0) rfl; have cz3B1 := hz3B.at_ (i := 1) rfl; have fz3B0 := hz3B.frozen 0; have fz3B1 := hz3B.frozen 1; have lz3B := hz3B.lt; refine (fun (HZ3B : Bx (Blk w3 (w2.heap.size + 1) 26 #[.int .i64 0, .slice none 0 0])) => ?_) ⟨hz3B⟩; clear hz3B)); (try (refine (fun (hz3C : Blk w3 (w2.heap.size + 1 + 1) 26 #[.int .i64 0, .slice none 0 0]) => ?_) (blk_grown ?_ hgr1 ?_); rotate_left 1; ((try refine blk_undrew ?_); first | (refine blk_eq ?_; focus (simp; done)) | (refine Blk.alloc (blk_eq ?_) _; focus (simp; done)) | (refine Blk.alloc (Blk.alloc (blk_eq ?_) _) _; focus (simp; done))); (first | focus (simp [Value.ownBlock]; done) | focus (simp [Value.ownBlock]; omega)); have cz3C0 := hz3C.at_ (i := 0) rfl; have cz3C1 := hz3C.at_ (i := 1) rfl; have fz3C0 := hz3C.frozen 0; have fz3C1 := hz3C.frozen 1; have lz3C := hz3C.lt; refine (fun (HZ3C : Bx (Blk w3 (w2.heap.size + 1 + 1) 26 #[.int .i64 0, .slice none 0 0])) => ?_) ⟨hz3C⟩; clear hz3C)); (try (refine (fun (heA : Blk w3 (w2.heap.size) 3 #[.int .i64 p]) => ?_) (blk_grown ?_ hgr1 ?_); rotate_left 1; ((try refine blk_undrew ?_); first | (refine blk_eq ?_; focus (simp; done)) | (refine Blk.alloc (blk_eq ?_) _; focus (simp; done)) | (refine Blk.alloc (Blk.alloc (blk_eq ?_) _) _; focus (simp; done))); (first | focus (simp [Value.ownBlock]; done) | focus (simp [Value.ownBlock]; omega)); refine (fun (HE3A : Bx (Blk w3 (w2.heap.size) 3 #[.int .i64 p])) => ?_) ⟨heA⟩; clear heA)); (try (refine (fun (heB : Blk w3 (w2.heap.size + 1) 3 #[.int .i64 p]) => ?_) (blk_grown ?_ hgr1 ?_); rotate_left 1; ((try refine blk_undrew ?_); first | (refine blk_eq ?_; focus (simp; done)) | (refine Blk.alloc (blk_eq ?_) _; focus (simp; done)) | (refine Blk.alloc (Blk.alloc (blk_eq ?_) _) _; focus (simp; done))); (first | focus (simp [Value.ownBlock]; done) | focus (simp [Value.ownBlock]; omega)); refine (fun (HE3B : Bx (Blk w3 (w2.heap.size + 1) 3 #[.int .i64 p])) => ?_) ⟨heB⟩; clear heB)); (try (refine (fun (heC : Blk w3 (w2.heap.size + 1 + 1) 3 #[.int .i64 p]) => ?_) (blk_grown ?_ hgr1 ?_); rotate_left 1; ((try refine blk_undrew ?_); first | (refine blk_eq ?_; focus (simp; done)) | (refine Blk.alloc (blk_eq ?_) _; focus (simp; done)) | (refine Blk.alloc (Blk.alloc (blk_eq ?_) _) _; focus (simp; done))); (first | focus (simp [Value.ownBlock]; done) | focus (simp [Value.ownBlock]; omega)); refine (fun (HE3C : Bx (Blk w3 (w2.heap.size + 1 + 1) 3 #[.int .i64 p])) => ?_) ⟨heC⟩; clear heC)))
                | (refine step_appL (by rfl) _ _ (by rfl) w2.heap.size (.slice (some ⟨g1, 0, none⟩) ([] ++ S).length cap1) ([] ++ S) (by rfl) (by (try refine Row.undrew ?_); first | exact hrow1 | exact hrow1.alloc _ | exact (hrow1.alloc _).alloc _) _ 0 1 [(p : Int)] (by rfl) (ir_one (by (try refine blk_undrew ?_); first | exact HE3A.out | exact Blk.alloc HE3A.out _ | exact Blk.alloc (Blk.alloc HE3A.out _) _ | exact HE3B.out | exact Blk.alloc HE3B.out _ | exact Blk.alloc (Blk.alloc HE3B.out _) _ | exact HE3C.out | exact Blk.alloc HE3C.out _ | exact Blk.alloc (Blk.alloc HE3C.out _) _ | (refine blk_eq ?_; focus (simp; done)) | (refine Blk.alloc (blk_eq ?_) _; focus (simp; done)) | (refine Blk.alloc (Blk.alloc (blk_eq ?_) _) _; focus (simp; done)))) (by simp) (by have := HSL.out; simp; omega) (by first | omega | (simp; done) | (simp; omega)) ?_; intro g2 cap2 w4 hrow2 hgr2 hat2 hlt2; have hBw4 : Bx (Below w2.heap.size w2 w4) := bx_grown (by first | assumption | exact bx_alloc (by assumption) _ | exact bx_alloc (bx_alloc (by assumption) _) _ | exact bx_alloc (bx_alloc (bx_alloc (by assumption) _) _) _) hgr2 (by intro k hk; simp [Value.ownBlock] at hk; omega); have hzw4 := bx_size hBw4; have HIO4 := Bx.mk (hrow2.io' rfl (by have := HSL.out; first | (simp; done) | (simp; omega))); have hat2' := hat2; (try simp [Value.ownBlock] at hat2'); (try (refine (fun (hz4A : Blk w4 (w2.heap.size) 26 #[.int .i64 0, .slice none 0 0]) => ?_) (blk_grown ?_ hgr2 ?_); rotate_left 1; ((try refine blk_undrew ?_); first | exact HZ3A.out | exact Blk.alloc HZ3A.out _ | exact Blk.alloc (Blk.alloc HZ3A.out _) _ | exact HZ3B.out | exact Blk.alloc HZ3B.out _ | exact Blk.alloc (Blk.alloc HZ3B.out _) _ | exact HZ3C.out | exact Blk.alloc HZ3C.out _ | exact Blk.alloc (Blk.alloc HZ3C.out _) _ | (refine blk_eq ?_; focus (simp; done)) | (refine Blk.alloc (blk_eq ?_) _; focus (simp; done)) | (refine Blk.alloc (Blk.alloc (blk_eq ?_) _) _; focus (simp; done))); (first | focus (simp [Value.ownBlock]; done) | focus (simp [Value.ownBlock]; omega)); have cz4A0 := hz4A.at_ (i := 0) rfl; have cz4A1 := hz4A.at_ (i := 1) rfl; have fz4A0 := hz4A.frozen 0; have fz4A1 := hz4A.frozen 1; have lz4A := hz4A.lt; refine (fun (HZ4A : Bx (Blk w4 (w2.heap.size) 26 #[.int .i64 0, .slice none 0 0])) => ?_) ⟨hz4A⟩; clear hz4A)); (try (refine (fun (hz4B : Blk w4 (w2.heap.size + 1) 26 #[.int .i64 0, .slice none 0 0]) => ?_) (blk_grown ?_ hgr2 ?_); rotate_left 1; ((try refine blk_undrew ?_); first | exact HZ3A.out | exact Blk.alloc HZ3A.out _ | exact Blk.alloc (Blk.alloc HZ3A.out _) _ | exact HZ3B.out | exact Blk.alloc HZ3B.out _ | exact Blk.alloc (Blk.alloc HZ3B.out _) _ | exact HZ3C.out | exact Blk.alloc HZ3C.out _ | exact Blk.alloc (Blk.alloc HZ3C.out _) _ | (refine blk_eq ?_; focus (simp; done)) | (refine Blk.alloc (blk_eq ?_) _; focus (simp; done)) | (refine Blk.alloc (Blk.alloc (blk_eq ?_) _) _; focus (simp; done))); (first | focus (simp [Value.ownBlock]; done) | focus (simp [Value.ownBlock]; omega)); have cz4B0 := hz4B.at_ (i := 0) rfl; have cz4B1 := hz4B.at_ (i := 1) rfl; have fz4B0 := hz4B.frozen 0; have fz4B1 := hz4B.frozen 1; have lz4B := hz4B.lt; refine (fun (HZ4B : Bx (Blk w4 (w2.heap.size + 1) 26 #[.int .i64 0, .slice none 0 0])) => ?_) ⟨hz4B⟩; clear hz4B)); (try (refine (fun (hz4C : Blk w4 (w2.heap.size + 1 + 1) 26 #[.int .i64 0, .slice none 0 0]) => ?_) (blk_grown ?_ hgr2 ?_); rotate_left 1; ((try refine blk_undrew ?_); first | exact HZ3A.out | exact Blk.alloc HZ3A.out _ | exact Blk.alloc (Blk.alloc HZ3A.out _) _ | exact HZ3B.out | exact Blk.alloc HZ3B.out _ | exact Blk.alloc (Blk.alloc HZ3B.out _) _ | exact HZ3C.out | exact Blk.alloc HZ3C.out _ | exact Blk.alloc (Blk.alloc HZ3C.out _) _ | (refine blk_eq ?_; focus (simp; done)) | (refine Blk.alloc (blk_eq ?_) _; focus (simp; done)) | (refine Blk.alloc (Blk.alloc (blk_eq ?_) _) _; focus (simp; done))); (first | focus (simp [Value.ownBlock]; done) | focus (simp [Value.ownBlock]; omega)); have cz4C0 := hz4C.at_ (i := 0) rfl; have cz4C1 := hz4C.at_ (i := 1) rfl; have fz4C0 := hz4C.frozen 0; have fz4C1 := hz4C.frozen 1; have lz4C := hz4C.lt; refine (fun (HZ4C : Bx (Blk w4 (w2.heap.size + 1 + 1) 26 #[.int .i64 0, .slice none 0 0])) => ?_) ⟨hz4C⟩; clear hz4C)); (try (refine (fun (hz4D : Blk w4 (w3.heap.size) 26 #[.int .i64 0, .slice none 0 0]) => ?_) (blk_grown ?_ hgr2 ?_); rotate_left 1; ((try refine blk_undrew ?_); first | exact HZ3A.out | exact Blk.alloc HZ3A.out _ | exact Blk.alloc (Blk.alloc HZ3A.out _) _ | exact HZ3B.out | exact Blk.alloc HZ3B.out _ | exact Blk.alloc (Blk.alloc HZ3B.out _) _ | exact HZ3C.out | exact Blk.alloc HZ3C.out _ | exact Blk.alloc (Blk.alloc HZ3C.out _) _ | (refine blk_eq ?_; focus (simp; done)) | (refine Blk.alloc (blk_eq ?_) _; focus (simp; done)) | (refine Blk.alloc (Blk.alloc (blk_eq ?_) _) _; focus (simp; done))); (first | focus (simp [Value.ownBlock]; done) | focus (simp [Value.ownBlock]; omega)); have cz4D0 := hz4D.at_ (i := 0) rfl; have cz4D1 := hz4D.at_ (i := 1) rfl; have fz4D0 := hz4D.frozen 0; have fz4D1 := hz4D.frozen 1; have lz4D := hz4D.lt; refine (fun (HZ4D : Bx (Blk w4 (w3.heap.size) 26 #[.int .i64 0, .slice none 0 0])) => ?_) ⟨hz4D⟩; clear hz4D)); (try (refine (fun (hz4E : Blk w4 (w3.heap.size + 1) 26 #[.int .i64 0, .slice none 0 0]) => ?_) (blk_grown ?_ hgr2 ?_); rotate_left 1; ((try refine blk_undrew ?_); first | exact HZ3A.out | exact Blk.alloc HZ3A.out _ | exact Blk.alloc (Blk.alloc HZ3A.out _) _ | exact HZ3B.out | exact Blk.alloc HZ3B.out _ | exact Blk.alloc (Blk.alloc HZ3B.out _) _ | exact HZ3C.out | exact Blk.alloc HZ3C.out _ | exact Blk.alloc (Blk.alloc HZ3C.out _) _ | (refine blk_eq ?_; focus (simp; done)) | (refine Blk.alloc (blk_eq ?_) _; focus (simp; done)) | (refine Blk.alloc (Blk.alloc (blk_eq ?_) _) _; focus (simp; done))); (first | focus (simp [Value.ownBlock]; done) | focus (simp [Value.ownBlock]; omega)); have cz4E0 := hz4E.at_ (i := 0) rfl; have cz4E1 := hz4E.at_ (i := 1) rfl; have fz4E0 := hz4E.frozen 0; have fz4E1 := hz4E.frozen 1; have lz4E := hz4E.lt; refine (fun (HZ4E : Bx (Blk w4 (w3.heap.size + 1) 26 #[.int .i64 0, .slice none 0 0])) => ?_) ⟨hz4E⟩; clear hz4E))))
            all_goals (go_wp2_with fail; go_meet)
            all_goals refine ⟨_, some ⟨g2, 0, none⟩, cap2, rfl, ⟨⟨?_, ⟨?_, ?_⟩, ?_, ?_⟩⟩⟩
            all_goals (try rw [show (S ++ [(p : Int)]).length = S.length + 1 by simp])
            all_goals first
              | exact (HZ4A.out.set 0 _).set 1 _
              | exact (HZ4B.out.set 0 _).set 1 _
              | exact (HZ4C.out.set 0 _).set 1 _
              | exact (HZ4D.out.set 0 _).set 1 _
              | exact (HZ4E.out.set 0 _).set 1 _
              | (refine blk_eq ?_; rfl)
              | (rw [show (S ++ [(p : Int)]).length = S.length + 1 by simp]; refine blk_eq ?_; rfl)
              | (have := HZ4A.out.lt; simp; omega)
              | (have := HZ4B.out.lt; simp; omega)
              | (have := HZ4C.out.lt; simp; omega)
              | (have := HZ4D.out.lt; simp; omega)
              | (have := HZ4E.out.lt; simp; omega)
              | omega
              | (simp; done)
              | (simp; omega)
              | exact io_off (io_off HIO4.out (by omega)) (by omega)
              | exact io_alloc HIO4.out _
              | exact (bx_alloc hBw4 _).out
              | exact (bx_set (p := ⟨w2.heap.size, 1, none⟩) (bx_set (p := ⟨w2.heap.size, 0, none⟩) hBw4 (show w2.heap.size ≤ w2.heap.size by omega) _) (show w2.heap.size ≤ w2.heap.size by omega) _).out
              | exact (bx_set (p := ⟨w2.heap.size + 1, 1, none⟩) (bx_set (p := ⟨w2.heap.size + 1, 0, none⟩) hBw4 (show w2.heap.size ≤ w2.heap.size + 1 by omega) _) (show w2.heap.size ≤ w2.heap.size + 1 by omega) _).out
              | exact (bx_set (p := ⟨w2.heap.size + 1 + 1, 1, none⟩) (bx_set (p := ⟨w2.heap.size + 1 + 1, 0, none⟩) hBw4 (show w2.heap.size ≤ w2.heap.size + 1 + 1 by omega) _) (show w2.heap.size ≤ w2.heap.size + 1 + 1 by omega) _).out
              | exact (bx_set (p := ⟨w3.heap.size, 1, none⟩) (bx_set (p := ⟨w3.heap.size, 0, none⟩) hBw4 (show w2.heap.size ≤ w3.heap.size by omega) _) (show w2.heap.size ≤ w3.heap.size by omega) _).out
              | exact (bx_set (p := ⟨w3.heap.size + 1, 1, none⟩) (bx_set (p := ⟨w3.heap.size + 1, 0, none⟩) hBw4 (show w2.heap.size ≤ w3.heap.size + 1 by omega) _) (show w2.heap.size ≤ w3.heap.size + 1 by omega) _).out
        case rest =>
          obtain ⟨g, A', c', rfl, HC⟩ := hcut
          rename World => w3
          obtain ⟨⟨kb, ⟨hgl, hgh⟩, io3, b⟩⟩ := HC
          have hnilP : bt n (hi + 2 ^ m) = [] → A' = none ∧ c' = 0 := fun h => by rw [← HSP.out, HSPE.out] at h; simp at h
          rw [← HSPE.out] at kb io3
          have HA'g : Bx (∀ x, A' = some x → w2.heap.size ≤ x.block) := ⟨fun x hx => io3.ge x hx⟩
          have hz23 := b.size
          replace k0 := ((bcell b).1 _ _ (by omega)).trans k0
          replace kx1 := ((bcell b).1 _ _ (by omega)).trans kx1
          replace kb0 := ((bcell b).1 _ _ (by omega)).trans kb0
          replace k1 := ((bcell b).1 _ _ (by omega)).trans k1
          replace HX := Bx.mk (HX.out.below b)
          replace HXS := Bx.mk (HXS.out.below b)
          replace HOW := Bx.mk (own_below HOW.out b (Nat.le_refl _))
          have hz3 : w.heap.size + 2 ≤ w3.heap.size := Nat.le_trans hz hz23
          replace bw := bw.trans (b.mono bw.size)
          have g0 := kb.at_ (i := 0) rfl
          have g1 := kb.at_ (i := 1) rfl
          have HIP := Bx.mk io3.reads
          have hp1w : IntKind.i64.wrap ((p : Int) + 1) = (p : Int) + 1 := IntWalk.i64_in _ (by omega)
          have hwz2 : w.heap.size ≤ w2.heap.size := by omega
          clear b io3 kb hz
          go_wp2_with fail
          refine (HBT.out _ _ _ _ _ (by exact HX.out) (by exact HIP.out)).mono ?_
          rintro e w4 ⟨rfl, b⟩
          have hz34 := b.size
          replace k0 := ((bcell b).1 _ _ (by omega)).trans k0
          replace kx1 := ((bcell b).1 _ _ (by omega)).trans kx1
          replace kb0 := ((bcell b).1 _ _ (by omega)).trans kb0
          replace k1 := ((bcell b).1 _ _ (by omega)).trans k1
          replace g0 := ((bcell b).1 _ _ hgh).trans g0
          replace g1 := ((bcell b).1 _ _ hgh).trans g1
          replace HX := Bx.mk (HX.out.below b)
          replace HXS := Bx.mk (HXS.out.below b)
          replace HIP := Bx.mk (HIP.out.below b)
          replace HOW := Bx.mk (own_below HOW.out b (Nat.le_refl _))
          have hz4 : w.heap.size + 2 ≤ w4.heap.size := Nat.le_trans hz3 hz34
          replace bw := bw.trans (b.mono bw.size)
          clear b
          cases dB with
          | false =>
            replace HPT : Bx (ptS n xs (m + 1) hi = (if m + 1 = n then [] else ptS n xs m hi)) := ⟨by rw [HPT.out]; rfl⟩
            have HXq := HX
            have HSq := HXS
            have HD1q := HD1
            have HD2q := HD2
            have HON := Bx.mk (Only.of_below AV bw)
            have HFR : Bx (∀ y, AV = some y → AV.map (·.block) = some y.block ∨ w.heap.size ≤ y.block) := ⟨fun y hy => .inl (by rw [hy]; rfl)⟩
            by_cases hmn1 : m + 1 = n
            · have hp0 : p = 0 := by omega
              subst hp0
              have HQ : Bx ((ptS n xs (m + 1) hi).take 1 = []) := ⟨by rw [HPT.out, if_pos hmn1]; rfl⟩
              clear hmn1
              go_wp2_with fail
              go_ret
              rw [HQ.out]
              exact ⟨AV, cV, [], rfl, Fc.nil HOW.out HON.out, Low.nil _⟩
            · have hpb : (((p : Int) == 0)) = false := by rw [beq_eq_false_iff_ne]; omega
              have HQ : Bx ((ptS n xs (m + 1) hi).take 1 = (ptS n xs m hi).take 1) := ⟨by rw [HPT.out, if_neg hmn1]⟩
              have hmn : ¬ m + 1 = n := hmn1
              clear hmn1
              go_wp2_with fail
              have h2 := HI2.out A c AV 0 cV vs base w4 (by omega) hdv' (by omega) HDR.out (.inr (hor.resolve_left hmn)) (fun h => hnil (by rw [hS0.out]; exact h)) HXq.out (by rw [← hS0.out]; exact HSq.out) HOW.out (by omega) HAB.out rfl HD1q.out HD2q.out
              rw [show (n : Int) - (m : Int) = (p : Int) + 1 by omega, ← hS0.out] at h2
              obtain ⟨L9, hL9⟩ : ∃ L9, L9 = (ptS n xs m hi).take 1 := ⟨_, rfl⟩
              rw [← hL9] at h2
              have HL9 := Bx.mk hL9
              clear hL9
              refine h2.mono ?_
              clear h2
              rintro e w9 ⟨AV9, cV9, ws9, rfl, hf9, hlow9⟩
              have HLOW9 := Bx.mk hlow9
              clear hlow9
              have HF9 := Bx.mk (hf9.pre bw)
              clear hf9
              go_wp2_with fail
              go_ret
              rw [HQ.out, ← HL9.out]
              exact ⟨AV9, cV9, ws9, by rw [Nat.zero_add]; rfl, HF9.out, HLOW9.out⟩
          | true =>
            replace HPT : Bx (ptS n xs (m + 1) hi = ptS n xs m (hi + 2 ^ m) ++ (if m + 1 = n then [] else ptS n xs m hi)) := ⟨by rw [HPT.out]; rfl⟩
            have HTK := Bx.mk (take1_app (ptS n xs m (hi + 2 ^ m)) (if m + 1 = n then [] else ptS n xs m hi))
            rw [← HPT.out] at HTK
            obtain ⟨L1, hL1⟩ : ∃ L1, L1 = (ptS n xs m (hi + 2 ^ m)).take 1 := ⟨_, rfl⟩
            rw [← hL1] at HTK HI1
            have HPA : Bx (L1 = [] → (ptS n xs (m + 1) hi).take 1 = (if m + 1 = n then [] else ptS n xs m hi).take 1) := ⟨fun h => by rw [HTK.out, if_pos (take1_nil (by rw [← hL1]; exact h))]⟩
            have HPB : Bx (L1 ≠ [] → (ptS n xs (m + 1) hi).take 1 = L1) := ⟨fun h => by rw [HTK.out, if_neg (fun e => h (by rw [hL1, e]; rfl))]⟩
            have hLL : L1.length ≤ 1 := by rw [hL1, List.length_take]; omega
            clear hL1 HTK HPT
            go_wp2_with fail
            have h1 := HI1.out A' c' AV 0 cV vs base w4 (by omega) hdv2 (by omega) HDB.out.symm hor2 hnilP HX.out (by rw [← HSP.out]; exact HIP.out) HOW.out (by omega) (fun x hx => by have := HA'g.out x hx; omega) rfl HD1.out (fun x y hx hy => by have := HA'g.out x hx; have := HAV.out y hy; omega)
            rw [show (n : Int) - (m : Int) = (p : Int) + 1 by omega, ← HSP.out] at h1
            refine h1.mono ?_
            clear h1
            rintro e w5 ⟨AV1, cV1, ws1, rfl, hF1, hlow1⟩
            have HLOW1 := Bx.mk hlow1
            clear hlow1
            have hown1 := hF1.own
            have hon1 := hF1.only
            have hfr1 := hF1.fresh
            have HFC1 := Bx.mk (hF1.pre bw)
            clear hF1
            have hz5 := hon1.size
            have hcell : ∀ b i, b < w4.heap.size → w.heap.size ≤ b → w5.cell? ⟨b, i, none⟩ = w4.cell? ⟨b, i, none⟩ := fun b i hb1 hb2 => World.cell?_of_block (w := w4) (hon1.block b hb1 (fun e => by
              cases hAV : AV with
              | none => rw [hAV] at e; cases e
              | some y =>
                rw [hAV] at e
                have e' : b = y.block := by injection e
                have := HAV.out y hAV
                omega))
            replace k0 := (hcell _ _ (by omega) (by omega)).trans k0
            replace kx1 := (hcell _ _ (by omega) (by omega)).trans kx1
            replace kb0 := (hcell _ _ (by omega) (by omega)).trans kb0
            replace k1 := (hcell _ _ (by omega) (by omega)).trans k1
            have HXq := Bx.mk (HX.out.only hon1 HD1.out)
            have HSq := Bx.mk (HXS.out.only hon1 HD2.out)
            have hblk : ∀ y, AV1 = some y → (∃ z, AV = some z ∧ z.block = y.block) ∨ w4.heap.size ≤ y.block := fun y hy => by
              rcases hfr1 y hy with h | h
              · cases hAV : AV with
                | none => rw [hAV] at h; cases h
                | some z => rw [hAV] at h; exact .inl ⟨z, rfl, by injection h⟩
              · exact .inr h
            have HD1q : Bx (∀ x y, AX = some x → AV1 = some y → x.block ≠ y.block) := ⟨fun x y hx hy => by
              rcases hblk y hy with ⟨z, hz1, hz2⟩ | h
              · have := HD1.out x z hx hz1; omega
              · have := HLX.out x hx; omega⟩
            have HD2q : Bx (∀ x y, A = some x → AV1 = some y → x.block ≠ y.block) := ⟨fun x y hx hy => by
              rcases hblk y hy with ⟨z, hz1, hz2⟩ | h
              · have := HD2.out x z hx hz1; omega
              · have := HLS.out x hx; omega⟩
            have HOW1 := Bx.mk hown1
            have HON := Bx.mk ((Only.of_below AV bw).trans hon1)
            have HFR : Bx (∀ y, AV1 = some y → AV.map (·.block) = some y.block ∨ w.heap.size ≤ y.block) := ⟨fun y hy => (hfr1 y hy).imp id fun h => by omega⟩
            clear hown1 hon1 hfr1 hcell hblk
            by_cases hLe : L1 = []
            · subst hLe
              have HPQ := Bx.mk (HPA.out rfl)
              obtain ⟨vs1, hvs1⟩ : ∃ vs1, vs1 = vs ++ flatR (([] : List (List Int)).map fun _ => (n : Int)) ws1 := ⟨_, rfl⟩
              rw [← hvs1] at HOW1
              have HV1 := Bx.mk hvs1
              have HOW2 : Bx (w5.ownsRow base 26 2 (.slice AV1 0 cV1) 0 vs1) := ⟨HOW1.out⟩
              rw [show 0 + ([] : List (List Int)).length = 0 from rfl]
              clear hvs1 HOW1 HPA HPB hLL
              by_cases hmn1 : m + 1 = n
              · have hp0 : p = 0 := by omega
                subst hp0
                have HQ : Bx ((ptS n xs (m + 1) hi).take 1 = []) := ⟨by rw [HPQ.out, if_pos hmn1]; rfl⟩
                clear hmn1
                go_wp2_with fail
                go_ret
                rw [HQ.out]
                exact ⟨AV1, cV1, ws1, rfl, HFC1.out, HLOW1.out⟩
              · have hpb : (((p : Int) == 0)) = false := by rw [beq_eq_false_iff_ne]; omega
                have HQ : Bx ((ptS n xs (m + 1) hi).take 1 = (ptS n xs m hi).take 1) := ⟨by rw [HPQ.out, if_neg hmn1]⟩
                have hmn : ¬ m + 1 = n := hmn1
                clear hmn1
                go_wp2_with fail
                have h2 := HI2.out A c AV1 0 cV1 vs1 base w5 (by omega) hdv' (by omega) HDR.out (.inr (hor.resolve_left hmn)) (fun h => hnil (by rw [hS0.out]; exact h)) HXq.out (by rw [← hS0.out]; exact HSq.out) HOW2.out (by omega) HAB.out rfl HD1q.out HD2q.out
                rw [show (n : Int) - (m : Int) = (p : Int) + 1 by omega, ← hS0.out] at h2
                obtain ⟨L9, hL9⟩ : ∃ L9, L9 = (ptS n xs m hi).take 1 := ⟨_, rfl⟩
                rw [← hL9] at h2
                have HL9 := Bx.mk hL9
                clear hL9
                refine h2.mono ?_
                clear h2
                rintro e w9 ⟨AV9, cV9, ws9, rfl, hf9, hlow9⟩
                have HLOW9 := Bx.mk hlow9
                clear hlow9
                have HF9 := Bx.mk (HFC1.out.app (by rw [← HV1.out]; exact hf9))
                clear hf9
                go_wp2_with fail
                go_ret
                rw [HQ.out, ← HL9.out]
                exact ⟨AV9, cV9, ws1 ++ ws9, by rw [Nat.zero_add]; rfl, HF9.out, HLOW1.out.app HLOW9.out⟩
            · obtain ⟨y, rfl⟩ : ∃ y, L1 = [y] := by
                cases L1 with
                | nil => exact absurd rfl hLe
                | cons y r => cases r with | nil => exact ⟨y, rfl⟩ | cons z r => simp at hLL
              have HQ := Bx.mk (HPB.out hLe)
              obtain ⟨vs1, hvs1⟩ : ∃ vs1, vs1 = vs ++ flatR (([y] : List (List Int)).map fun _ => (n : Int)) ws1 := ⟨_, rfl⟩
              rw [← hvs1] at HOW1
              have HV1 := Bx.mk hvs1
              have HOW2 : Bx (w5.ownsRow base 26 2 (.slice AV1 1 cV1) 1 vs1) := ⟨HOW1.out⟩
              rw [show 0 + ([y] : List (List Int)).length = 1 from rfl]
              clear hvs1 HOW1 HPA HPB hLL hLe
              by_cases hmn1 : m + 1 = n
              · have hp0 : p = 0 := by omega
                subst hp0
                clear hmn1
                go_wp2_with fail
                go_ret
                rw [HQ.out]
                exact ⟨AV1, cV1, ws1, rfl, HFC1.out, HLOW1.out⟩
              · have hpb : (((p : Int) == 0)) = false := by rw [beq_eq_false_iff_ne]; omega
                clear hmn1
                go_wp2_with fail
                refine (l09FindO_got n AX cX xs S _ A c AV1 cV1 vs1 base w5 (by exact HOW2.out)).mono ?_
                rintro e w9 ⟨AV9, cV9, ws9, rfl, hf9, hlow9⟩
                have HLOW9 := Bx.mk hlow9
                clear hlow9
                have HF9 := Bx.mk (HFC1.out.app (by rw [← HV1.out]; exact hf9))
                clear hf9
                go_wp2_with fail
                go_ret
                rw [HQ.out]
                exact ⟨AV9, cV9, ws1 ++ ws9, rfl, HF9.out, HLOW1.out.app HLOW9.out⟩
end Go.Proofs.YtikifkbgmniobaaGreat
