/- Words that many parts of the proof share. -/
import Derived.Test.YtpejnhcmelkmeaaPps
import Derived.Test.YtpejnhcmelkmeaaBas
import Derived.Test.YtpejnhcmelkmeaaTls
import Derived.Deep.RegionHeld3
import Derived.Deep.DeepCutAuto
import Derived.Deep.AppendLies
import Derived.Deep.RegionWith
namespace Go.Proofs.Ytpejnhcmelkmeaa
open Go.RowKit

/- The second condition, the reference's side. -/
theorem blk_eq {w : World} {g : Nat} {t : TypeId} {cs : Array Value} (h : g = w.heap.size) : Blk (w.alloc (.cells cs t)) g t cs := by rw [h]; exact Blk.new w t cs
theorem blk_undrew {w : World} {g : Nat} {t : TypeId} {cs : Array Value} (h : Blk w g t cs) : Blk w.drew g t cs := h
theorem blk_grown {w w' : World} {g : Nat} {t : TypeId} {cs : Array Value} {r : Option Nat} (h : Blk w g t cs) (hg : w.grownBy w' r) (hne : r ≠ some g) : Blk w' g t cs := (hg.block g h.lt (fun e => hne e.symm)).trans h
theorem Row.undrew {w : World} {base : Nat} {v : Value} {xs : List Int} (h : Row w base v xs) : Row w.drew base v xs := h
theorem Row.base_le {w : World} {base g n c : Nat} {xs : List Int} (h : Row w base (.slice (some ⟨g, 0, none⟩) n c) xs) : base ≤ g := by
  rcases h.2 with ⟨e, _⟩ | ⟨g', cap, cur, e, hg, _⟩
  · cases e
  · injection e with e; injection e with e; injection e with e; omega
theorem row_blk {w : World} {g base : Nat} (h : Blk w g 3 #[]) (hb : base ≤ g) : Row w base (.slice (some ⟨g, 0, none⟩) 0 0) [] :=
  ⟨by simp [ints], .inr ⟨g, 0, #[], rfl, hb, h, Nat.le_refl _, by unfold maxLen; omega, rfl, rfl⟩⟩
theorem ir_one {w : World} {g : Nat} {z : Int} (h : Blk w g 3 #[.int .i64 z]) : IR w (some ⟨g, 0, none⟩) [z] := by
  refine ⟨by simp, fun _ => ⟨g, 0, rfl, h.lt, fun k hk => ?_⟩⟩
  have : k = 0 := by simp at hk; omega
  subst this
  exact h.cell 0
theorem bx_grown {a w w' : World} {r : Option Nat} (h : Bx (Below a.heap.size a w)) (hg : w.grownBy w' r) (hr : ∀ k, r = some k → a.heap.size ≤ k) : Bx (Below a.heap.size a w') :=
  ⟨h.out.grown hg h.out.size hr⟩
theorem step_appS {ops : Array Oper} {o : Oper} {a : Act} {K : Act → World → Prop} {Q : Exit → Act → World → Prop} {E : Prop} {w : World} (hgd : o.guard = none) (s x : Operand)
    (ho : o.op = .call { callee := .builtin .append, args := #[s, x], argTypes := #[24, 24] })
    (base : Nat) (v : Value) (xs : List Int) (hs : a.eval s = v) (hown : Row w base v xs) (b p c : Nat) (ys : List Int) (hx : a.eval x = .slice (some ⟨b, p, none⟩) ys.length c)
    (hy : IR w (some ⟨b, p, none⟩) ys) (hl : xs.length + ys.length ≤ 1000000000) (hb : base ≤ w.heap.size) (hv : v ≠ .slice none 0 0)
    (h : ∀ g cap w', Row w' base (.slice (some ⟨g, 0, none⟩) (xs ++ ys).length cap) (xs ++ ys) → w.grownBy w' v.ownBlock → K (a.put o.dst (.slice (some ⟨g, 0, none⟩) (xs ++ ys).length cap)) w') :
    if Region.wanted o (yielded ops a.tmps) = true then Oper.wp Try.prog o a w K Q else E := by
  have hw : Region.wanted o (yielded ops a.tmps) = true := by simp [Region.wanted, hgd]
  rw [if_pos hw]
  obtain ⟨i0, hi0, hz0, hz1, hz2⟩ := info_parts info_int
  refine wp_append_own w s x 24 ho base 3 i0 (.int .i64 0) 1 8 Try.underlying24 hi0 hz0 hz1 hz2 rfl (by decide) v xs.length (ints xs) hs hown
    ⟨b, p, none⟩ ys.length c (ints ys) hx (by simp [ints]) ?_ ?_ (by unfold maxLen; omega) (by omega) hb ?_
  · intro j u hj
    have hjl : j < ys.length := by
      have := (List.getElem?_eq_some_iff.1 hj).1
      simpa [ints] using this
    obtain ⟨b', o', e, _, hc⟩ := hy.at_ (by omega)
    injection e with e; injection e with e1 e2
    subst e1 e2
    have hadd : (⟨b, p, none⟩ : Addr).add j = ⟨b, p + j, none⟩ := by unfold Addr.add; split <;> simp_all
    rw [hadd, hc j hjl]
    simp [ints, hjl] at hj
    rw [← hj, List.getElem?_eq_getElem hjl]; rfl
  · intro u hu
    simp [ints] at hu
    obtain ⟨z, _, rfl⟩ := hu
    rfl
  · intro v' w' h1 h2 h3
    have hR : Row w' base v' (xs ++ ys) := by
      unfold Row
      rw [List.length_append, show ints (xs ++ ys) = ints xs ++ ints ys by simp [ints]]
      exact h1
    have hn : v' ≠ .slice none 0 0 := fun e => hv (h3.1 e).1
    obtain ⟨A', c', e⟩ := hR.slice
    subst e
    rcases hR.2 with ⟨e1, _⟩ | ⟨g, cap, cur, e1, _⟩
    · exact absurd e1 hn
    · injection e1 with e1
      subst e1
      exact h g c' w' hR h2
theorem hM_eq {L : List Int} {m : Int} (h : 1 ≤ m) : hM L m = (!decide (1 < m) || memB L m) := by
  unfold hM
  by_cases h1 : m = 1
  · subst h1; rfl
  · have : (m == 1) = false := by simpa using h1
    have h2 : decide (1 < m) = true := by simp; omega
    rw [this, h2]; rfl
theorem lLoop_at (h : Int → Bool) {l : List Int} {k : Nat} {s : Int} (hs : l[k]? = some s) (P : List Int) (m : Int) : lLoop h (l.drop k) P m = ((memB P (primeI s) || (h (m * s) && lLoop h (l.drop (k + 1)) (P ++ [primeI s]) (m * s))) && lLoop h (l.drop (k + 1)) P m) := by
  have hk := (List.getElem?_eq_some_iff.1 hs).1
  rw [List.drop_eq_getElem_cons hk, show l[k] = s by have := List.getElem?_eq_getElem hk; rw [hs] at this; exact (Option.some.inj this).symm]
  rfl

/- The second condition of the reference; both conditions. -/
theorem ms_form {s : Int} {xs : List Int} (hok : rhOk s xs = true) : msI s xs = (hM (ordI s xs) 1 && lLoop (hM (ordI s xs)) (ppI s xs) [] 1) := by
  unfold msI
  rw [hok, aP_lLoop _ _ [] 1 (ppI_pp hok) inv_one]; rfl
def mbI (s : Int) (xs : List Int) : Bool := mfI s xs && msI s xs
theorem lit_is {f : FuncId} {args : Array Value} {w : World} {a b : Bool} (hb : a = b) (h : Calls Try.prog f args w fun e w' => e = .returned (.bool a) ∧ Below w.heap.size w w') :
    Calls Try.prog f args w fun e w' => e = .returned (.bool b) ∧ Below w.heap.size w w' := by rw [← hb]; exact h

/- How many rhythms from the first pulse on meet both conditions: plain laws. -/
/-- how many numbers below j answer -/
def cu (P : Nat → Bool) : Nat → Nat
  | 0 => 0
  | j + 1 => (if P j = true then 1 else 0) + cu P j
theorem cu_le (P : Nat → Bool) (j : Nat) : cu P j ≤ j := by
  induction j with
  | zero => simp [cu]
  | succ j ih => simp only [cu]; split <;> omega
theorem cu_hit {P : Nat → Bool} {j : Nat} (h : P j = true) : cu P (j + 1) = 1 + cu P j := by simp [cu, h]
theorem cu_miss {P : Nat → Bool} {j : Nat} (h : P j = false) : cu P (j + 1) = cu P j := by simp [cu, h]
theorem cu_none {P : Nat → Bool} {j : Nat} (h : ∀ i, i < j → P i = false) : cu P j = 0 := by
  induction j with
  | zero => rfl
  | succ j ih => rw [cu_miss (h j (by omega)), ih fun i hi => h i (by omega)]
theorem cu_from {P Q : Nat → Bool} {a : Nat} : ∀ {b : Nat}, (∀ i, a ≤ i → i < a + b → P i = Q i) → cu P (a + b) + cu Q a = cu Q (a + b) + cu P a := by
  intro b
  induction b with
  | zero => intro _; simp; omega
  | succ b ih =>
    intro h
    have h1 := h (a + b) (by omega) (by omega)
    have h2 := ih fun i hi hi2 => h i hi (by omega)
    rw [← Nat.add_assoc]
    simp only [cu, h1]
    split <;> omega
theorem popc_top (f c : Nat) : popc (f + 1) c = popc f c + (if c.testBit f = true then 1 else 0) := by
  induction f generalizing c with
  | zero => simp only [popc, Nat.testBit_zero]; rcases Nat.mod_two_eq_zero_or_one c with h | h <;> simp [h]
  | succ f ih =>
    rw [show popc (f + 1 + 1) c = c % 2 + popc (f + 1) (c / 2) from rfl, ih (c / 2), show popc (f + 1) c = c % 2 + popc f (c / 2) from rfl, Nat.testBit_succ]
    omega
theorem bt_len {n c : Nat} (hn : n ≤ 24) (hc : c < 2 ^ n) : (bt n c).length = popc 24 c := by
  have h : ∀ k, k ≤ n → (selTo (btP n c) k).length + popc (n - k) c = popc n c := by
    intro k
    induction k with
    | zero => intro _; simp [selTo]
    | succ k ih =>
      intro hk
      have h1 := ih (by omega)
      have h2 := popc_top (n - (k + 1)) c
      rw [show n - (k + 1) + 1 = n - k by omega] at h2
      cases hb : c.testBit (n - (k + 1)) with
      | true =>
        rw [selTo_hit (by unfold btP; rw [Int.toNat_natCast, show n - 1 - k = n - (k + 1) by omega]; exact hb), List.length_append]
        rw [hb] at h2
        simp at h2 ⊢
        omega
      | false =>
        rw [selTo_miss (by unfold btP; rw [Int.toNat_natCast, show n - 1 - k = n - (k + 1) by omega]; exact hb)]
        rw [hb] at h2
        simp at h2
        omega
  have h1 := h n (Nat.le_refl _)
  rw [Nat.sub_self] at h1
  have h2 := popc_add n (24 - n) c 0 hc
  rw [Nat.mul_zero, Nat.add_zero, popc_zero, Nat.add_zero, show n + (24 - n) = 24 by omega] at h2
  unfold bt
  rw [h2, ← h1]
  rfl
/-- what the program's test wants of a code -/
def cmP (n k c : Nat) : Bool := popc 24 c == k && (hasR n (bt n c) 0 && mbI n (bt n c))
/-- what the reference's does -/
def cmQ (n k c : Nat) : Bool := (bt n c).length == k && mbI n (bt n c)
theorem has_zero {n c : Nat} (hn : 1 ≤ n) : hasR n (bt n c) 0 = c.testBit (n - 1) := by
  unfold hasR
  rw [Int.zero_emod, show (0 : Int) = ((0 : Nat) : Int) from rfl, has_bt (by omega)]; rfl
theorem cm_same {n k : Nat} (h1 : 1 ≤ n) (hn : n ≤ 24) : cu (cmP n k) (2 ^ n) + cu (cmQ n k) (2 ^ (n - 1)) = cu (cmQ n k) (2 ^ n) := by
  have e : 2 ^ n = 2 ^ (n - 1) + 2 ^ (n - 1) := by
    obtain ⟨m, rfl⟩ : ∃ m, n = m + 1 := ⟨n - 1, by omega⟩
    rw [Nat.add_sub_cancel, Nat.pow_succ]; omega
  have hz : cu (cmP n k) (2 ^ (n - 1)) = 0 := cu_none fun i hi => by
    unfold cmP
    rw [has_zero h1, Nat.testBit_lt_two_pow hi]
    simp
  have hs := @cu_from (cmP n k) (cmQ n k) (2 ^ (n - 1)) (2 ^ (n - 1)) fun i hi hi2 => by
    unfold cmP cmQ
    have hb : i.testBit (n - 1) = true := by
      have hd : i / 2 ^ (n - 1) = 1 := by
        have hp := Nat.two_pow_pos (n - 1)
        have h2 : 1 ≤ i / 2 ^ (n - 1) := (Nat.le_div_iff_mul_le hp).2 (by omega)
        have h3 : i / 2 ^ (n - 1) < 2 := (Nat.div_lt_iff_lt_mul hp).2 (by omega)
        omega
      rw [Nat.testBit_eq_decide_div_mod_eq, hd]; rfl
    rw [has_zero h1, hb, bt_len hn (by omega)]
    simp
  rw [← e, hz] at hs
  omega
def cmI (n k : Int) : Int := if inB n 1 10 = true ∧ inB k 1 n = true then (cu (cmP n.toNat k.toNat) (2 ^ n.toNat) : Nat) else -1

/- The number of bits: the library's sums, walked. -/
theorem u64w (n : Nat) (h : n < 18446744073709551616) : IntKind.u64.wrap (n : Int) = n := IntWalk.u64_in _ (by omega)
theorem w_1 (x : Nat) (hx : x < 16777216) : IntKind.u64.wrap (bits .and .u64 ((x : Int) / 2) 6148914691236517205 + bits .and .u64 (x : Int) 6148914691236517205) = ((ps1 x : Nat) : Int) := by
  have h1 := u64_and_nat (x / 2) 6148914691236517205 (by omega) (by omega)
  have h2 := u64_and_nat x 6148914691236517205 (by omega) (by omega)
  have e : ((x / 2 : Nat) : Int) = (x : Int) / 2 := by omega
  rw [e] at h1
  have l1 : (x / 2) &&& 6148914691236517205 ≤ x / 2 := Nat.and_le_left
  have l2 : x &&& 6148914691236517205 ≤ x := Nat.and_le_left
  have h3 := u64w (((x / 2) &&& 6148914691236517205) + (x &&& 6148914691236517205)) (by omega)
  rw [Int.natCast_add] at h3
  rw [show (6148914691236517205 : Int) = ((6148914691236517205 : Nat) : Int) from rfl, h1, h2, h3]
  rfl
theorem w_2 (x : Nat) (hx : x < 16777216) : IntKind.u64.wrap (bits .and .u64 ((x : Int) / 4) 3689348814741910323 + bits .and .u64 (x : Int) 3689348814741910323) = ((ps2 x : Nat) : Int) := by
  have h1 := u64_and_nat (x / 4) 3689348814741910323 (by omega) (by omega)
  have h2 := u64_and_nat x 3689348814741910323 (by omega) (by omega)
  have e : ((x / 4 : Nat) : Int) = (x : Int) / 4 := by omega
  rw [e] at h1
  have l1 : (x / 4) &&& 3689348814741910323 ≤ x / 4 := Nat.and_le_left
  have l2 : x &&& 3689348814741910323 ≤ x := Nat.and_le_left
  have h3 := u64w (((x / 4) &&& 3689348814741910323) + (x &&& 3689348814741910323)) (by omega)
  rw [Int.natCast_add] at h3
  rw [show (3689348814741910323 : Int) = ((3689348814741910323 : Nat) : Int) from rfl, h1, h2, h3]
  rfl
theorem w_3 (x : Nat) (hx : x < 16777216) : bits .and .u64 (IntKind.u64.wrap ((x : Int) / 16 + (x : Int))) 1085102592571150095 = ((ps3 x : Nat) : Int) := by
  have h3 := u64w (x / 16 + x) (by omega)
  rw [Int.natCast_add, show ((x / 16 : Nat) : Int) = (x : Int) / 16 by omega] at h3
  have h1 := u64_and_nat (x / 16 + x) 1085102592571150095 (by omega) (by omega)
  rw [Int.natCast_add, show ((x / 16 : Nat) : Int) = (x : Int) / 16 by omega] at h1
  rw [h3, show (1085102592571150095 : Int) = ((1085102592571150095 : Nat) : Int) from rfl, h1]
  rfl
theorem w_4 (x d : Nat) (hx : x < 1099511627776) (_hd : 0 < d) : IntKind.u64.wrap ((x : Int) + (x : Int) / (d : Int)) = ((x + x / d : Nat) : Int) := by
  have : x / d ≤ x := Nat.div_le_self _ _
  have h3 := u64w (x + x / d) (by omega)
  rw [Int.natCast_add, Int.natCast_ediv] at h3
  rw [h3, Int.natCast_add, Int.natCast_ediv]
theorem w_7 (x : Nat) (hx : x < 1099511627776) : bits .and .i64 (wrap64 (x : Int)) 127 = ((x % 128 : Nat) : Int) := by
  rw [IntWalk.wrap64_in _ (by omega)]
  have h1 : (BitVec.ofInt 64 (x : Int)).toNat = x := by rw [BitVec.ofInt_natCast, BitVec.toNat_ofNat]; exact Nat.mod_eq_of_lt (by omega)
  show IntKind.i64.wrap ((BitVec.ofInt 64 (x : Int) &&& BitVec.ofInt 64 (127 : Int)).toNat : Int) = _
  rw [BitVec.toNat_and, h1, show (BitVec.ofInt 64 (127 : Int)).toNat = 127 from rfl, show x &&& 127 = x % 128 from Nat.and_two_pow_sub_one_eq_mod x 7, IntWalk.i64_in _ (by omega)]

theorem ones_tail (y3 p q r n : Nat) (h3 : y3 = p + 256 * (q + 256 * r)) (hs : p + q + r = n) (hp : p ≤ 8) (hq : q ≤ 8) (hr : r ≤ 8) : ∃ y4 y5 y6 : Nat,
    IntKind.u64.wrap ((y3 : Int) + (y3 : Int) / 256) = (y4 : Int) ∧ IntKind.u64.wrap ((y4 : Int) + (y4 : Int) / 65536) = (y5 : Int) ∧
    IntKind.u64.wrap ((y5 : Int) + (y5 : Int) / 4294967296) = (y6 : Int) ∧ bits .and .i64 (wrap64 (y6 : Int)) 127 = (n : Int) := by
  have b3 : y3 < 600000 := by omega
  obtain ⟨y4, a4⟩ : ∃ y4, y4 = y3 + y3 / 256 := ⟨_, rfl⟩
  have b4 : y4 < 700000 := by omega
  obtain ⟨y5, a5⟩ : ∃ y5, y5 = y4 + y4 / 65536 := ⟨_, rfl⟩
  have b5 : y5 < 800000 := by omega
  have d4 : y4 = (p + q) + 256 * (q + r) + 65536 * r := by omega
  have d5 : y5 = (p + q + r) + 256 * (q + r) + 65536 * r := by omega
  have d6 : y5 / 4294967296 = 0 := by omega
  have d7 : y5 % 128 = n := by omega
  have e4 := w_4 y3 256 (by omega) (by omega)
  have e5 := w_4 y4 65536 (by omega) (by omega)
  have e6 := w_4 y5 4294967296 (by omega) (by omega)
  have e7 := w_7 y5 (by omega)
  rw [← a4] at e4
  rw [← a5] at e5
  rw [d6, Nat.add_zero] at e6
  rw [d7] at e7
  exact ⟨y4, y5, y5, e4, e5, e6, e7⟩
theorem ones_facts (x : Nat) (hx : x < 16777216) : ∃ y1 y2 y3 y4 y5 y6 n : Nat, n = popc 24 x ∧
    IntKind.u64.wrap (bits .and .u64 ((x : Int) / 2) 6148914691236517205 + bits .and .u64 (x : Int) 6148914691236517205) = (y1 : Int) ∧
    IntKind.u64.wrap (bits .and .u64 ((y1 : Int) / 4) 3689348814741910323 + bits .and .u64 (y1 : Int) 3689348814741910323) = (y2 : Int) ∧
    bits .and .u64 (IntKind.u64.wrap ((y2 : Int) / 16 + (y2 : Int))) 1085102592571150095 = (y3 : Int) ∧
    IntKind.u64.wrap ((y3 : Int) + (y3 : Int) / 256) = (y4 : Int) ∧ IntKind.u64.wrap ((y4 : Int) + (y4 : Int) / 65536) = (y5 : Int) ∧
    IntKind.u64.wrap ((y5 : Int) + (y5 : Int) / 4294967296) = (y6 : Int) ∧ bits .and .i64 (wrap64 (y6 : Int)) 127 = (n : Int) := by
  obtain ⟨p, q, r, h3, hs, hp, hq, hr, l1, l2⟩ := sums x hx
  have e1 := w_1 x hx
  have e2 := w_2 _ l1
  have e3 := w_3 _ l2
  obtain ⟨y4, y5, y6, e4, e5, e6, e7⟩ := ones_tail _ p q r _ h3 hs hp hq hr
  exact ⟨_, _, _, y4, y5, y6, _, rfl, e1, e2, e3, e4, e5, e6, e7⟩


/- append of one element of whatever size to a row of the call's own; rows of rows of ints. -/
theorem wpList_appG {ops : Array Oper} {rest : List Oper} {o : Oper} {a : Act} {Q : Exit → Act → World → Prop} {w : World} (T e size bytes : Nat) (z : Value) (hT : Try.prog.underlying T = some (.slice e))
    (hinfo : (Try.prog.info? e).map (fun i => (i.zero, i.size, i.bytes)) = some (some z, size, bytes)) (hzs : z.cells.size = size) (hsz : 0 < size) (hby : bytes ≤ 100) (hgd : o.guard = none) (s x : Operand)
    (ho : o.op = .call { callee := .builtin .append, args := #[s, x], argTypes := #[T, T] })
    (base : Nat) (v : Value) (n : Nat) (xs news : List Value) (hs : a.eval s = v) (hx : a.eval x = .slice (some ⟨w.heap.size, 0, none⟩) 1 1) (hnl : news.length = size) (h1 : ∀ u ∈ news, u.oneCell' = true)
    (hown : w.ownsRow base e size v n xs) (hl : n ≤ 1000000000) (hbase : base ≤ w.heap.size)
    (h : ∀ v' w', w'.ownsRow base e size v' (n + 1) (xs ++ news) → w.grownBy w' v.ownBlock → Below base w w' → wpList Try.prog ops Q rest (a.put o.dst v') w') :
    wpList Try.prog ops Q (o :: rest) a (w.alloc (.cells news.toArray e)) := by
  obtain ⟨i0, hi0, hz0, hz1, hz2⟩ := info_parts hinfo
  refine wpList_append_own _ hgd s x T ho base e i0 z size bytes hT hi0 hz0 hz1 hz2 hzs hsz v n xs hs (World.ownsRow.alloc hown _)
    ⟨w.heap.size, 0, none⟩ 1 1 news hx (by rw [hnl]; omega) ?_ h1 (by unfold maxLen; omega) ?_ (by simp; omega) ?_
  · intro j u hj
    have hadd : (⟨w.heap.size, 0, none⟩ : Addr).add j = ⟨w.heap.size, j, none⟩ := by unfold Addr.add; split <;> simp_all
    rw [hadd, World.cell?_alloc_new]
    simpa using hj
  · calc (n + 1) * bytes ≤ (1000000000 + 1) * 100 := Nat.mul_le_mul (by omega) hby
      _ ≤ 140737488355328 := by omega
  · intro v' w' h1 h2 _
    have hg : w.grownBy w' v.ownBlock := ⟨h2.os, h2.tape, h2.output, Nat.le_trans (by simp) h2.size, fun k hk hne => (h2.block k (by simp; omega) hne).trans (heap_alloc_old w _ hk)⟩
    refine h v' w' h1 hg ⟨hg.os, hg.tape, hg.output, hg.size, fun k hk => hg.block k (by omega) (fun e' => ?_)⟩
    rcases hown.2 with ⟨e1, _⟩ | ⟨g, cap, cur, e1, hg', _⟩
    · rw [e1] at e'; simp [Value.ownBlock] at e'
    · rw [e1] at e'; simp [Value.ownBlock] at e'; omega

theorem info_ints : (Try.prog.info? 24).map (fun i => (i.zero, i.size, i.bytes)) = some (some (.slice none 0 0), 1, 24) := by kernel_rfl

/-- the row v of ints is not nil and lies in block g -/
def RowAt (w : World) (g : Nat) (v : Value) (xs : List Int) : Prop := ∃ c, v = .slice (some ⟨g, 0, none⟩) xs.length c ∧ IO w g (some ⟨g, 0, none⟩) c xs
theorem RowAt.elem {w : World} {g : Nat} {v : Value} {xs : List Int} (h : RowAt w g v xs) : ∃ cs, w.heap[g]? = some (.cells cs 3 (0, 0)) := by
  obtain ⟨c, rfl, _, _, h⟩ := h
  rcases h with ⟨e, _⟩ | ⟨g', cur, e, _, hh, _⟩
  · cases e
  · injection e with e; injection e with e
    subst e
    exact ⟨cur, hh⟩
theorem RowAt.lt {w : World} {g : Nat} {v : Value} {xs : List Int} (h : RowAt w g v xs) : g < w.heap.size := by
  obtain ⟨cs, hc⟩ := h.elem
  exact heap_lt hc
theorem RowAt.same {w w' : World} {g : Nat} {v : Value} {xs : List Int} (h : RowAt w g v xs) (hb : w'.heap[g]? = w.heap[g]?) : RowAt w' g v xs := by
  obtain ⟨c, rfl, h1, h2, h⟩ := h
  refine ⟨c, rfl, h1, h2, ?_⟩
  rcases h with ⟨e, _⟩ | ⟨g', cur, e, hg, hh, r⟩
  · cases e
  · injection e with e; injection e with e
    subst e
    exact .inr ⟨g, cur, rfl, hg, hb.trans hh, r⟩
theorem RowAt.below {w w' : World} {g B : Nat} {v : Value} {xs : List Int} (h : RowAt w g v xs) (hb : Below B w w') (hB : g < B) : RowAt w' g v xs := h.same (hb.block g hB)
theorem RowAt.grown {w w' : World} {g : Nat} {v : Value} {xs : List Int} {row : Option Nat} (h : RowAt w g v xs) (hb : w.grownBy w' row) (hne : some g ≠ row) : RowAt w' g v xs := h.same (hb.block g h.lt hne)
theorem RowAt.io {w : World} {g : Nat} {v : Value} {xs : List Int} (h : RowAt w g v xs) : ∃ c, v = .slice (some ⟨g, 0, none⟩) xs.length c ∧ IO w g (some ⟨g, 0, none⟩) c xs := h

/-- the outer row V: its cells are the values vs, each a row of ints in a block of its own, the blocks ascending, all below the block 'top' -/
structure Rows2 (w : World) (base : Nat) (V : Value) (gs : List Nat) (vs : List Value) (xss : List (List Int)) : Prop where
  outer : w.ownsRow base 24 1 V vs.length vs
  lenv : vs.length = xss.length
  leng : gs.length = xss.length
  rows : ∀ (k : Nat) (v : Value) (xs : List Int) (g : Nat), vs[k]? = some v → xss[k]? = some xs → gs[k]? = some g → RowAt w g v xs ∧ base ≤ g
  asc : gs.Pairwise (· < ·)
theorem Rows2.start (w : World) (base : Nat) : Rows2 w base (.slice none 0 0) [] [] [] :=
  ⟨World.ownsRow_nil w base _ _, rfl, rfl, fun k v xs g h => by simp at h, List.Pairwise.nil⟩
theorem Rows2.below {w w' : World} {base : Nat} {V : Value} {gs : List Nat} {vs : List Value} {xss : List (List Int)} (h : Rows2 w base V gs vs xss) {B : Nat} (hb : Below B w w') (hB : w.heap.size ≤ B) : Rows2 w' base V gs vs xss := by
  refine ⟨?_, h.lenv, h.leng, fun k v xs g h1 h2 h3 => ?_, h.asc⟩
  · refine ⟨h.outer.1, ?_⟩
    rcases h.outer.2 with h' | ⟨g, cap, cur, e, hg, hh, r⟩
    · exact .inl h'
    · exact .inr ⟨g, cap, cur, e, hg, (hb.block g (Nat.lt_of_lt_of_le (heap_lt hh) hB)).trans hh, r⟩
  · have := h.rows k v xs g h1 h2 h3
    exact ⟨this.1.below hb (Nat.lt_of_lt_of_le this.1.lt hB), this.2⟩
theorem Rows2.outer_ne {w : World} {base g : Nat} {V v : Value} {vs : List Value} {xs : List Int} (h : w.ownsRow base 24 1 V vs.length vs) (hr : RowAt w g v xs) : some g ≠ V.ownBlock := by
  rcases h.2 with ⟨e, _⟩ | ⟨g', cap, cur, e, hg, hh, r⟩
  · rw [e]; simp [Value.ownBlock]
  · rw [e]
    intro e'
    simp [Value.ownBlock] at e'
    subst e'
    obtain ⟨cs, hc⟩ := hr.elem
    rw [hc] at hh
    simp at hh
theorem Rows2.push {w w' : World} {base g : Nat} {V V' v : Value} {gs : List Nat} {vs : List Value} {xss : List (List Int)} {xs : List Int} (h : Rows2 w base V gs vs xss) (hr : RowAt w g v xs) (hg : base ≤ g)
    (hasc : ∀ x ∈ gs, x < g) (ho : w'.ownsRow base 24 1 V' (vs.length + 1) (vs ++ [v])) (hgr : w.grownBy w' V.ownBlock) : Rows2 w' base V' (gs ++ [g]) (vs ++ [v]) (xss ++ [xs]) := by
  have hV := h.outer
  refine ⟨by simpa using ho, by simp [h.lenv], by simp [h.leng], fun k v' xs' g' h1 h2 h3 => ?_, ?_⟩
  · by_cases hk : k < vs.length
    · have h1' : vs[k]? = some v' := by rwa [List.getElem?_append_left hk] at h1
      have h2' : xss[k]? = some xs' := by rwa [List.getElem?_append_left (by rw [← h.lenv]; exact hk)] at h2
      have h3' : gs[k]? = some g' := by rwa [List.getElem?_append_left (by rw [h.leng, ← h.lenv]; exact hk)] at h3
      have hrow := h.rows k v' xs' g' h1' h2' h3'
      exact ⟨hrow.1.grown hgr (Rows2.outer_ne hV hrow.1), hrow.2⟩
    · have hk' : k = vs.length := by
        have := (List.getElem?_eq_some_iff.1 h1).1
        simp at this
        omega
      subst hk'
      rw [List.getElem?_append_right (Nat.le_refl _)] at h1
      rw [h.lenv, List.getElem?_append_right (Nat.le_refl _)] at h2
      rw [h.lenv, ← h.leng, List.getElem?_append_right (Nat.le_refl _)] at h3
      simp at h1 h2 h3
      subst h1 h2 h3
      exact ⟨hr.grown hgr (Rows2.outer_ne hV hr), hg⟩
  · rw [List.pairwise_append]
    exact ⟨h.asc, by simp, fun x hx y hy => by simp at hy; subst hy; exact hasc x hx⟩

theorem Rows2.slice {w : World} {base : Nat} {V : Value} {gs : List Nat} {vs : List Value} {xss : List (List Int)} (h : Rows2 w base V gs vs xss) : ∃ A c, V = .slice A xss.length c := by
  rcases h.outer.2 with ⟨e, hn⟩ | ⟨g, cap, cur, e, _⟩
  · exact ⟨none, 0, by rw [e, ← h.lenv, hn]⟩
  · exact ⟨_, _, by rw [e, h.lenv]⟩
theorem Rows2.cell {w : World} {base : Nat} {A : Option Addr} {n c : Nat} {gs : List Nat} {vs : List Value} {xss : List (List Int)} (h : Rows2 w base (.slice A n c) gs vs xss) {k : Nat} (hk : k < xss.length) :
    ∃ g0 gk ck xs, A = some ⟨g0, 0, none⟩ ∧ g0 < w.heap.size ∧ w.cell? ⟨g0, k, none⟩ = some (.slice (some ⟨gk, 0, none⟩) xs.length ck) ∧ IO w gk (some ⟨gk, 0, none⟩) ck xs ∧
      Bx (xss[k]? = some xs ∧ gs[k]? = some gk) ∧ base ≤ gk := by
  have h1 := List.getElem?_eq_getElem (l := vs) (i := k) (by rw [h.lenv]; exact hk)
  have h2 := List.getElem?_eq_getElem (l := xss) (i := k) hk
  have h3 := List.getElem?_eq_getElem (l := gs) (i := k) (by rw [h.leng]; exact hk)
  obtain ⟨⟨ck, hv, hio⟩, hb⟩ := h.rows k _ _ _ h1 h2 h3
  rcases h.outer.2 with ⟨_, hn⟩ | ⟨g, cap, cur, e, hg, hh, _, _, _, ht⟩
  · have := h.lenv; omega
  · injection e with e _ _
    subst e
    refine ⟨g, _, ck, _, rfl, heap_lt hh, ?_, hio, ⟨h2, h3⟩, hb⟩
    rw [cell_of_row w g k cur _ (0, 0) hh]
    have := congrArg (fun l => l[k]?) ht
    simp only [h1, hv] at this
    rw [List.getElem?_take] at this
    split at this
    · simpa using this
    · cases this
theorem Rows2.setRow {w w' : World} {base k g c : Nat} {V : Value} {gs : List Nat} {vs : List Value} {xss : List (List Int)} {xs ys : List Int} (h : Rows2 w base V gs vs xss) (hx : xss[k]? = some xs) (hg : gs[k]? = some g)
    (hio : IO w' g (some ⟨g, 0, none⟩) c ys) (hv : vs[k]? = some (.slice (some ⟨g, 0, none⟩) ys.length c)) (ho : Only w w' (some ⟨g, 0, none⟩)) : Rows2 w' base V gs vs (xss.set k ys) := by
  have hrow := h.rows k _ _ _ hv hx hg
  have hout : some g ≠ V.ownBlock := Rows2.outer_ne h.outer hrow.1
  refine ⟨?_, by simp [h.lenv], by simp [h.leng], fun j v' xs' g' h1 h2 h3 => ?_, h.asc⟩
  · refine ⟨h.outer.1, ?_⟩
    rcases h.outer.2 with h' | ⟨g', cap, cur, e, hg', hh, r⟩
    · exact .inl h'
    · refine .inr ⟨g', cap, cur, e, hg', (ho.block g' (heap_lt hh) ?_).trans hh, r⟩
      intro e'
      rw [e] at hout
      simp at e'
      simp [Value.ownBlock] at hout
      omega
  · by_cases hj : j = k
    · subst hj
      rw [List.getElem?_set_self (List.getElem?_eq_some_iff.1 hx).1] at h2
      rw [hv] at h1
      rw [hg] at h3
      injection h1 with h1; injection h2 with h2; injection h3 with h3
      subst h1 h2 h3
      exact ⟨⟨c, rfl, hio⟩, hrow.2⟩
    · rw [List.getElem?_set_ne (Ne.symm hj)] at h2
      have hr := h.rows j v' xs' g' h1 h2 h3
      refine ⟨hr.1.same (ho.block g' hr.1.lt ?_), hr.2⟩
      intro e'
      simp at e'
      subst e'
      have hjl := (List.getElem?_eq_some_iff.1 h3).1
      have hkl := (List.getElem?_eq_some_iff.1 hg).1
      have e1 := (List.getElem?_eq_some_iff.1 h3).2
      have e2 := (List.getElem?_eq_some_iff.1 hg).2
      have := List.pairwise_iff_getElem.1 h.asc
      rcases Nat.lt_or_ge j k with hlt | hge
      · have := this j k hjl hkl hlt; omega
      · have := this k j hkl hjl (by omega); omega

theorem Rows2.vcell {w : World} {base k g0 g n0 c0 n1 ck : Nat} {gs : List Nat} {vs : List Value} {xss : List (List Int)} {xs : List Int} (h : Rows2 w base (.slice (some ⟨g0, 0, none⟩) n0 c0) gs vs xss) (hx : xss[k]? = some xs) (_hg : gs[k]? = some g)
    (hc : w.cell? ⟨g0, k, none⟩ = some (.slice (some ⟨g, 0, none⟩) n1 ck)) : vs[k]? = some (.slice (some ⟨g, 0, none⟩) n1 ck) := by
  have hk := (List.getElem?_eq_some_iff.1 hx).1
  have h1 := List.getElem?_eq_getElem (l := vs) (i := k) (by rw [h.lenv]; exact hk)
  rcases h.outer.2 with ⟨e, _⟩ | ⟨g', cap, cur, e, hg', hh, _, _, _, ht⟩
  · cases e
  · injection e with e _ _
    injection e with e
    injection e with e
    subst e
    rw [cell_of_row w g0 k cur _ (0, 0) hh] at hc
    rw [← ht, List.getElem?_take, if_pos (by rw [h.lenv]; omega)]
    simpa using hc

/- How many rhythms meet both conditions. -/
theorem own_slice {w : World} {base e q n : Nat} {v : Value} {vs : List Value} (h : w.ownsRow base e q v n vs) : ∃ A c, v = .slice A n c := by
  rcases h.2 with ⟨e1, hn⟩ | ⟨g, cap, cur, e1, _⟩
  · exact ⟨none, 0, by rw [e1, hn]⟩
  · exact ⟨_, _, e1⟩
theorem own_below {w w' : World} {base e q n B : Nat} {v : Value} {vs : List Value} (h : w.ownsRow base e q v n vs) (hb : Below B w w') (hB : w.heap.size ≤ B) : w'.ownsRow base e q v n vs := by
  refine ⟨h.1, ?_⟩
  rcases h.2 with h' | ⟨g, cap, cur, e1, hg, hh, r⟩
  · exact .inl h'
  · exact .inr ⟨g, cap, cur, e1, hg, (hb.block g (Nat.lt_of_lt_of_le (heap_lt hh) hB)).trans hh, r⟩
theorem info_rh : (Try.prog.info? 26).map (fun i => (i.zero, i.size, i.bytes)) = some (some (.agg #[.int .i64 0, .slice none 0 0]), 2, 32) := by kernel_rfl
end Go.Proofs.Ytpejnhcmelkmeaa
