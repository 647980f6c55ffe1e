/- Words that many parts of the proof share. -/
import Derived.Test.YtpejnhcmelkmeaaBas
import Derived.Lib.SliceRun
import Derived.Deep.DeepCutAuto
namespace Go.Proofs.Ytpejnhcmelkmeaa
open Go.RowKit

/- Division of polynomials, and the cyclotomic ones: plain laws. -/
def sm (z x y : Int) : Int := IntKind.i64.wrap (z - IntKind.i64.wrap (x * y))
def dRow (b : List Int) (x : Int) (i : Nat) (r : List Int) : Nat → List Int
  | 0 => r
  | k + 1 => (dRow b x i r k).set (i + k) (sm ((dRow b x i r k)[i + k]?.getD 0) x (b[k]?.getD 0))
def dTo (b : List Int) (n : Nat) (a : List Int) : Nat → List Int
  | 0 => a
  | m + 1 => dRow b ((dTo b n a m)[n - m + b.length - 1]?.getD 0) (n - m) (dTo b n a m) b.length
/-- the coefficient that step m finds -/
def dq (b : List Int) (n : Nat) (a : List Int) (m : Nat) : Int := (dTo b n a m)[n - m + b.length - 1]?.getD 0
def qArr (la : Nat) (b : List Int) (n : Nat) (a : List Int) : Nat → List Int
  | 0 => List.replicate la 0
  | m + 1 => (qArr la b n a m).set (n - m) (dq b n a m)
def qSp (b : List Int) (n : Nat) (a : List Int) : Nat → List Int
  | 0 => []
  | m + 1 => dq b n a m :: qSp b n a m
def steps (a b : List Int) : Nat := a.length + 1 - b.length
def restL (a b : List Int) : List Int := trim (dTo b (a.length - b.length) a (steps a b))
def quotI (a b : List Int) : List Int := trim (qArr a.length b (a.length - b.length) a (steps a b))
def quotS (a b : List Int) : List Int := qSp b (a.length - b.length) a (steps a b)
theorem dRow_len (b : List Int) (x : Int) (i : Nat) (r : List Int) (k : Nat) : (dRow b x i r k).length = r.length := by
  induction k with
  | zero => rfl
  | succ k ih => simp [dRow, ih]
theorem dTo_len (b : List Int) (n : Nat) (a : List Int) (m : Nat) : (dTo b n a m).length = a.length := by
  induction m with
  | zero => rfl
  | succ m ih => simp only [dTo, dRow_len, ih]
theorem qArr_len (la : Nat) (b : List Int) (n : Nat) (a : List Int) (m : Nat) : (qArr la b n a m).length = la := by
  induction m with
  | zero => simp [qArr]
  | succ m ih => simp [qArr, ih]
theorem qSp_len (b : List Int) (n : Nat) (a : List Int) (m : Nat) : (qSp b n a m).length = m := by
  induction m with
  | zero => rfl
  | succ m ih => simp [qSp, ih]
theorem quotS_len (a b : List Int) : (quotS a b).length = steps a b := qSp_len _ _ _ _
theorem restL_len (a b : List Int) : (restL a b).length ≤ a.length := by
  unfold restL
  rw [trim_len]
  have := endLen_le (dTo b (a.length - b.length) a (steps a b)) (dTo b (a.length - b.length) a (steps a b)).length
  rw [dTo_len] at this
  rwa [dTo_len]
theorem qArr_form (la : Nat) (b : List Int) (n : Nat) (a : List Int) (hn : n + 1 ≤ la) : ∀ m, m ≤ n + 1 → qArr la b n a m = List.replicate (n + 1 - m) 0 ++ qSp b n a m ++ List.replicate (la - (n + 1)) 0 := by
  intro m
  induction m with
  | zero => intro _; simp only [qArr, qSp, List.append_nil, List.replicate_append_replicate]; congr 1; omega
  | succ m ih =>
    intro h
    simp only [qArr]
    rw [ih (by omega)]
    have e : n + 1 - m = (n + 1 - (m + 1)) + 1 := by omega
    rw [e, List.replicate_succ', List.append_assoc, List.append_assoc, List.set_append_right _ _ (by simp <;> omega)]
    simp only [List.length_replicate]
    rw [show n - m - (n + 1 - (m + 1)) = 0 by omega]
    simp [qSp]
theorem endLen_append (xs : List Int) (k : Nat) : endLen (xs ++ List.replicate k 0) (xs.length + k) = endLen xs xs.length := by
  induction k with
  | zero => simp
  | succ k ih =>
    rw [← Nat.add_assoc]
    have h : ∀ n, n ≤ xs.length + k → endLen (xs ++ List.replicate (k + 1) 0) n = endLen (xs ++ List.replicate k 0) n := by
      intro n
      induction n with
      | zero => intro _; rfl
      | succ n ihn =>
        intro hn
        have : (xs ++ List.replicate (k + 1) 0)[n]? = (xs ++ List.replicate k 0)[n]? := by
          rw [List.replicate_succ', ← List.append_assoc, List.getElem?_append_left (by simp; omega)]
        simp only [endLen, this, ihn (by omega)]
    have hz : (xs ++ List.replicate (k + 1) 0)[xs.length + k]? = some 0 := by
      rw [List.getElem?_append_right (by omega)]; simp
    rw [endLen_zero hz rfl, h _ (Nat.le_refl _), ih]
theorem trim_zeros (xs : List Int) (k : Nat) : trim (xs ++ List.replicate k 0) = trim xs := by
  unfold trim
  rw [List.length_append, List.length_replicate, endLen_append, List.take_append_of_le_length (endLen_le _ _)]
theorem trim_self {xs : List Int} {x : Int} (h : xs[xs.length - 1]? = some x) (hx : x ≠ 0) : trim xs = xs := by
  unfold trim
  have h0 : 0 < xs.length := by
    rcases xs with _ | ⟨y, r⟩
    · simp at h
    · simp
  obtain ⟨n, hn⟩ : ∃ n, xs.length = n + 1 := ⟨xs.length - 1, by omega⟩
  rw [hn, Nat.add_sub_cancel] at h
  rw [hn, endLen_stop h hx, ← hn, List.take_length]
theorem qSp_last (b : List Int) (n : Nat) (a : List Int) (m : Nat) : (qSp b n a (m + 1))[m]? = some (dq b n a 0) := by
  induction m with
  | zero => rfl
  | succ m ih => rw [qSp, List.getElem?_cons_succ]; exact ih
/-- both quotients are one where the dividend ends in a number that is not 0 -/
theorem quot_same {a b : List Int} {x : Int} (hb : 1 ≤ b.length) (ha : a[a.length - 1]? = some x) (hx : x ≠ 0) : quotI a b = quotS a b := by
  unfold quotI quotS
  by_cases hl : b.length ≤ a.length
  · have hs : steps a b = (a.length - b.length) + 1 := by unfold steps; omega
    rw [hs, qArr_form _ _ _ _ (by omega) _ (Nat.le_refl _), Nat.sub_self, List.replicate_zero, List.nil_append, trim_zeros]
    refine trim_self (x := x) ?_ hx
    rw [qSp_len, Nat.add_sub_cancel, qSp_last]
    unfold dq dTo
    rw [show a.length - b.length - 0 + b.length - 1 = a.length - 1 by omega, ha]; rfl
  · have hs : steps a b = 0 := by unfold steps; omega
    rw [hs]
    simp only [qArr, qSp]
    have := trim_zeros [] a.length
    rw [List.nil_append] at this
    rw [this]; rfl
/-! the cyclotomic polynomials -/
def cycInit (n : Nat) : List Int := ((List.replicate (n + 1) 0).set 0 (-1)).set n 1
def cycB (T : List (List Int)) (n : Nat) : Nat → List Int
  | 0 => cycInit n
  | d + 1 => if d ≠ 0 ∧ n % d = 0 then quotS (cycB T n d) (T[d]?.getD []) else cycB T n d
def cycT : List (List Int) := [[], [-1, 1], [1, 1], [1, 1, 1], [1, 0, 1], [1, 1, 1, 1, 1], [1, -1, 1], [1, 1, 1, 1, 1, 1, 1], [1, 0, 0, 0, 1], [1, 0, 0, 1, 0, 0, 1], [1, -1, 1, -1, 1], [1, 1, 1, 1, 1, 1, 1, 1, 1, 1, 1], [1, 0, -1, 0, 1], [1, 1, 1, 1, 1, 1, 1, 1, 1, 1, 1, 1, 1], [1, -1, 1, -1, 1, -1, 1], [1, -1, 0, 1, -1, 1, 0, -1, 1], [1, 0, 0, 0, 0, 0, 0, 0, 1], [1, 1, 1, 1, 1, 1, 1, 1, 1, 1, 1, 1, 1, 1, 1, 1, 1], [1, 0, 0, -1, 0, 0, 1], [1, 1, 1, 1, 1, 1, 1, 1, 1, 1, 1, 1, 1, 1, 1, 1, 1, 1, 1], [1, 0, -1, 0, 1, 0, -1, 0, 1], [1, -1, 0, 1, -1, 0, 1, 0, -1, 1, 0, -1, 1], [1, -1, 1, -1, 1, -1, 1, -1, 1, -1, 1], [1, 1, 1, 1, 1, 1, 1, 1, 1, 1, 1, 1, 1, 1, 1, 1, 1, 1, 1, 1, 1, 1, 1], [1, 0, 0, 0, -1, 0, 0, 0, 1]]
def cyc (n : Nat) : List Int := cycT[n]?.getD []
def cycStep (n d : Nat) : Bool := decide (1 ≤ (cycB cycT n d).length) && decide ((cycB cycT n d).length ≤ 25) && decide ((cycB cycT n d)[(cycB cycT n d).length - 1]?.getD 0 = 1) && decide (1 ≤ (cyc d).length) && decide ((cyc d).length ≤ 25)
def cycAt (n : Nat) : Bool := decide (cycB cycT n n = cyc n) && (List.range (n + 1)).all fun d => d == 0 || cycStep n d
def cycAll : Bool := (List.range 25).all fun n => n == 0 || cycAt n
set_option maxRecDepth 100000 in
theorem cyc_all : cycAll = true := by decide +kernel
theorem cyc_at {n : Nat} (h1 : 1 ≤ n) (h : n ≤ 24) : cycAt n = true := by
  have := cyc_all
  unfold cycAll at this
  rw [List.all_eq_true] at this
  have := this n (List.mem_range.2 (by omega))
  simp only [Bool.or_eq_true, beq_iff_eq] at this
  rcases this with h0 | h0
  · omega
  · exact h0
theorem cyc_eq {n : Nat} (h1 : 1 ≤ n) (h : n ≤ 24) : cycB cycT n n = cyc n := by
  have := cyc_at h1 h
  unfold cycAt at this
  rw [Bool.and_eq_true, decide_eq_true_eq] at this
  exact this.1
theorem cyc_step {n d : Nat} (hd : 1 ≤ d) (hdn : d ≤ n) (h : n ≤ 24) : 1 ≤ (cycB cycT n d).length ∧ (cycB cycT n d).length ≤ 25 ∧ (cycB cycT n d)[(cycB cycT n d).length - 1]? = some 1 ∧ 1 ≤ (cyc d).length ∧ (cyc d).length ≤ 25 := by
  have := cyc_at (Nat.le_trans hd hdn) h
  unfold cycAt at this
  rw [Bool.and_eq_true, List.all_eq_true] at this
  have := this.2 d (List.mem_range.2 (by omega))
  simp only [Bool.or_eq_true, beq_iff_eq] at this
  rcases this with h0 | h0
  · omega
  · unfold cycStep at h0
    simp only [Bool.and_eq_true, decide_eq_true_eq] at h0
    obtain ⟨⟨⟨⟨a1, a2⟩, a3⟩, a4⟩, a5⟩ := h0
    refine ⟨a1, a2, ?_, a4, a5⟩
    have hlt : (cycB cycT n d).length - 1 < (cycB cycT n d).length := by omega
    rw [List.getElem?_eq_getElem hlt] at a3 ⊢
    rw [← a3]; rfl
theorem cyc_next {n d : Nat} (hd : 1 ≤ d) (h0 : n % d = 0) : cycB cycT n (d + 1) = quotS (cycB cycT n d) (cyc d) := by
  simp only [cycB]; rw [if_pos ⟨by omega, h0⟩]; rfl
theorem cyc_skip {n d : Nat} (h0 : n % d ≠ 0) : cycB cycT n (d + 1) = cycB cycT n d := by
  simp only [cycB]; rw [if_neg (fun h => h0 h.2)]
theorem cyc_one (n : Nat) : cycB cycT n 1 = cycInit n := by
  simp [cycB]

/- The polynomial of a rhythm. -/
/-- the array after k beats -/
def polyTo (n : Nat) (xs : List Int) : Nat → List Int
  | 0 => List.replicate n 0
  | k + 1 => (polyTo n xs k).set (xs[k]?.getD 0).toNat 1
theorem polyTo_len (n : Nat) (xs : List Int) (k : Nat) : (polyTo n xs k).length = n := by
  induction k with
  | zero => simp [polyTo]
  | succ k ih => simp [polyTo, ih]
theorem polyTo_step {n : Nat} {xs : List Int} {k : Nat} {x : Int} (hx : xs[k]? = some x) : polyTo n xs (k + 1) = (polyTo n xs k).set x.toNat 1 := by simp [polyTo, hx]
def polyL (s : Int) (xs : List Int) : List Int := trim (polyTo s.toNat xs xs.length)
theorem trim_le (xs : List Int) : (trim xs).length ≤ xs.length := by rw [trim_len]; exact endLen_le _ _
theorem polyL_len {s : Int} {xs : List Int} (hs : 1 ≤ s ∧ s ≤ 24) : (polyL s xs).length ≤ 24 := by
  have := trim_le (polyTo s.toNat xs xs.length)
  rw [polyTo_len] at this
  unfold polyL; omega
theorem holds_gives {w wr : World} {n g c' : Nat} {L : List Int} (hg : w.heap.size ≤ g) (hL : L.length = n) (hn : n ≤ 1000000) (h : Holds wr g L) (hb : Below w.heap.size w wr) (h1 : (trim L).length ≤ c') (h2 : c' ≤ n) :
    GivesInts w (trim L) (.returned (.slice (some ⟨g, 0, none⟩) (trim L).length c')) wr := by
  have := (h.io (base := w.heap.size) hg (by omega))
  exact ⟨_, c', rfl, this.trim h1 (by omega), hb⟩
/-- a list in memory of the call's own that is not nil -/
def GivesIS (w : World) (xs : List Int) (e : Ending) (w' : World) : Prop := ∃ g c, e = .returned (.slice (some ⟨g, 0, none⟩) xs.length c) ∧ IO w' w.heap.size (some ⟨g, 0, none⟩) c xs ∧ Below w.heap.size w w'
theorem holds_givesS {w wr : World} {n g c' : Nat} {L : List Int} (hg : w.heap.size ≤ g) (hL : L.length = n) (hn : n ≤ 1000000) (h : Holds wr g L) (hb : Below w.heap.size w wr) (h1 : (trim L).length ≤ c') (h2 : c' ≤ n) :
    GivesIS w (trim L) (.returned (.slice (some ⟨g, 0, none⟩) (trim L).length c')) wr := by
  have := (h.io (base := w.heap.size) hg (by omega))
  exact ⟨_, c', rfl, this.trim h1 (by omega), hb⟩
def polyI (s : Int) (xs : List Int) : List Int := if rhOk s xs = true then polyL s xs else []
theorem rhOk_is' {f : FuncId} {args : Array Value} {w : World} {s : Int} {xs : List Int} {b : Bool} (hb : rhOk s xs = b) (h : Calls Try.prog f args w fun e w' => e = .returned (.bool (rhOk s xs)) ∧ Below w.heap.size w w') :
    Calls Try.prog f args w fun e w' => e = .returned (.bool b) ∧ Below w.heap.size w w' := by rw [← hb]; exact h

/- Division of polynomials. -/
theorem IO.cellAt {w : World} {base c g k : Nat} {xs : List Int} (h : IO w base (some ⟨g, 0, none⟩) c xs) (hk : k < xs.length) : ∃ x, w.cell? ⟨g, k, none⟩ = some (.int .i64 x) ∧ Bx (xs[k]? = some x) := by
  obtain ⟨b, o, e, _, hc⟩ := h.reads.at_ (by omega)
  injection e with e; injection e with e1 e2
  subst e1 e2
  have := hc k hk
  rw [Nat.zero_add] at this
  exact ⟨xs[k], by rw [this, List.getElem?_eq_getElem hk]; rfl, ⟨List.getElem?_eq_getElem hk⟩⟩
theorem IO.blkAt {w : World} {base c g : Nat} {xs : List Int} (h : IO w base (some ⟨g, 0, none⟩) c xs) : base ≤ g ∧ ∃ cur, Blk w g 3 cur ∧ c ≤ cur.size ∧ cur.toList.take xs.length = ints xs := by
  rcases h.2.2 with ⟨e, _⟩ | ⟨g', cur, e, hg, hh, hs, ht⟩
  · cases e
  · injection e with e; injection e with e1 e2
    subst e1
    exact ⟨hg, cur, hh, hs, ht⟩
theorem IO.frozenAt {w : World} {base c g : Nat} {xs : List Int} (h : IO w base (some ⟨g, 0, none⟩) c xs) (k : Nat) : w.frozen? ⟨g, k, none⟩ = false := by
  obtain ⟨_, cur, hh, _⟩ := h.blkAt
  exact Blk.frozen hh k
theorem IO.ltAt {w : World} {base c g : Nat} {xs : List Int} (h : IO w base (some ⟨g, 0, none⟩) c xs) : g < w.heap.size := by
  obtain ⟨_, cur, hh, _⟩ := h.blkAt
  exact hh.lt
theorem IO.setAt {w : World} {base c g k : Nat} {xs : List Int} (h : IO w base (some ⟨g, 0, none⟩) c xs) (x : Int) (_hk : k < xs.length) : IO (w.setCell ⟨g, k, none⟩ (.int .i64 x)) base (some ⟨g, 0, none⟩) c (xs.set k x) := by
  obtain ⟨hg, cur, hh, hs, ht⟩ := h.blkAt
  refine ⟨by rw [List.length_set]; exact h.1, by rw [List.length_set]; exact h.2.1, .inr ⟨g, _, rfl, hg, hh.set k _, by simpa using hs, ?_⟩⟩
  rw [List.length_set, Array.toList_setIfInBounds, List.take_set, ht]
  simp [ints, List.map_set]
theorem io_offAt {w : World} {base c g g' i : Nat} {xs : List Int} {v : Value} (h : IO w base (some ⟨g, 0, none⟩) c xs) (hne : g ≠ g') : IO (w.setCell ⟨g', i, none⟩ v) base (some ⟨g, 0, none⟩) c xs := by
  obtain ⟨hg, cur, hh, hs, ht⟩ := h.blkAt
  exact ⟨h.1, h.2.1, .inr ⟨g, cur, rfl, hg, (Below.heap_setCell w ⟨g', i, none⟩ v g (by intro e; simp at e; omega)).trans hh, hs, ht⟩⟩
theorem wpList_appS {ops : Array Oper} {rest : List Oper} {o : Oper} {a : Act} {Q : Exit → Act → World → Prop} {w : World} (hgd : o.guard = none) (s x : Operand)
    (ho : o.op = .call { callee := .builtin .append, args := #[s, x], argTypes := #[24, 24] })
    (base : Nat) (v : Value) (xs : List Int) (hs : a.eval s = v) (b p c : Nat) (ys : List Int) (hx : a.eval x = .slice (some ⟨b, p, none⟩) ys.length c) (hown : Row w base v xs) (hv : v ≠ .slice none 0 0) (hy : IR w (some ⟨b, p, none⟩) ys) (hl : xs.length + ys.length ≤ 1000000000) (hbase : base ≤ w.heap.size)
    (h : ∀ g c' w', IO w' base (some ⟨g, 0, none⟩) c' (xs ++ ys) → Below base w w' → wpList Try.prog ops Q rest (a.put o.dst (.slice (some ⟨g, 0, none⟩) (xs.length + ys.length) c')) w') :
    wpList Try.prog ops Q (o :: rest) a w := by
  obtain ⟨i0, hi0, hz0, hz1, hz2⟩ := info_parts info_int
  refine wpList_append_own _ hgd s x 24 ho base 3 i0 (.int .i64 0) 1 8 Try.underlying24 hi0 hz0 hz1 hz2 rfl (by decide) v xs.length (ints xs) hs hown
    ⟨b, p, none⟩ ys.length c (ints ys) hx (by simp [ints]) ?_ ?_ (by unfold maxLen; omega) (by omega) hbase ?_
  · intro j u hj
    have hjl : j < ys.length := by
      have := (List.getElem?_eq_some_iff.1 hj).1
      simpa [ints] using this
    obtain ⟨b', o', e, _, hc⟩ := hy.at_ (by omega)
    injection e with e; injection e with e1 e2
    subst e1 e2
    have hadd : (⟨b, p, none⟩ : Addr).add j = ⟨b, p + j, none⟩ := by unfold Addr.add; split <;> simp_all
    rw [hadd, hc j hjl]
    simp [ints, hjl] at hj
    rw [← hj, List.getElem?_eq_getElem hjl]; rfl
  · intro u hu
    simp [ints] at hu
    obtain ⟨z, _, rfl⟩ := hu
    rfl
  · intro v' w' h1 h2 h3
    have hR : Row w' base v' (xs ++ ys) := by
      unfold Row
      rw [List.length_append, show ints (xs ++ ys) = ints xs ++ ints ys by simp [ints]]
      exact h1
    have hB : Below base w w' := ⟨h2.os, h2.tape, h2.output, h2.size, fun k hk => h2.block k (by omega) (fun e => by
      rcases hown.2 with ⟨e1, _⟩ | ⟨g, cap, cur, e1, hg', _⟩
      · exact hv e1
      · rw [e1] at e; simp [Value.ownBlock] at e; omega)⟩
    have hn : v' ≠ .slice none 0 0 := fun e => hv (h3.1 e).1
    obtain ⟨A', c', e, io⟩ := hR.io (by rw [List.length_append]; omega)
    subst e
    have hA : ∃ g, A' = some ⟨g, 0, none⟩ := by
      rcases hR.2 with ⟨e1, _⟩ | ⟨g, cap, cur, e1, _⟩
      · exact absurd e1 hn
      · injection e1 with e1; exact ⟨g, e1⟩
    obtain ⟨g, rfl⟩ := hA
    rw [List.length_append]
    exact h g c' w' io hB
theorem eql_nil (b p n c : Nat) (w : World) : Sem.run Try.prog (binOp BinOp.eql 24 (.slice (some ⟨b, p, none⟩) n c) (.slice none 0 0)) w = .ok (.bool false) w := by kernel_rfl
def GivesII (w : World) (xs ys : List Int) (e : Ending) (w' : World) : Prop := ∃ g c g' c', e = .returned (.tuple #[.slice (some ⟨g, 0, none⟩) xs.length c, .slice (some ⟨g', 0, none⟩) ys.length c']) ∧ IO w' w.heap.size (some ⟨g, 0, none⟩) c xs ∧ IO w' w.heap.size (some ⟨g', 0, none⟩) c' ys ∧ Below w.heap.size w w'
set_option maxHeartbeats 400000 in
theorem clone_some (b p c : Nat) (xs : List Int) (w : World) (hx : IR w (some ⟨b, p, none⟩) xs) (hl : xs.length ≤ 1000000) :
    Calls Try.prog 49 #[.slice (some ⟨b, p, none⟩) xs.length c] w (GivesIS w xs) := by
  have bw := below_alloc w (.cells #[] 3)
  have HX := Bx.mk (hx.below bw)
  have HR := Bx.mk (Row.empty w w.heap.size (Nat.le_refl _))
  clear hx
  have hq := eql_nil b p xs.length c w
  go_enter Try.func49, Try.ntmps49
  go_wp2_with (at_builtin; go_must (refine wpList_appS rfl _ _ rfl w.heap.size (.slice (some ⟨w.heap.size, 0, none⟩) 0 0) [] rfl b p c xs rfl (by exact HR.out) (by simp) (by exact HX.out) (by simp; omega) (by simp) ?_); intro g c' w1 io b1; simp only [List.nil_append, List.length_nil, Nat.zero_add] at io ⊢)
  go_ret
  exact ⟨g, c', rfl, io, bw.trans b1⟩

/- Deleting from a list what a test finds: plain laws, and what clearing leaves. -/
def qn (p : Int → Bool) (x : Int) : Bool := !p x
/-- where the first number lies that the test finds -/
def Idx (p : Int → Bool) (xs : List Int) (r : Int) : Prop := (r = -1 ∧ xs.filter (qn p) = xs) ∨ ∃ i : Nat, r = (i : Int) ∧ i < xs.length ∧ (xs.take (i + 1)).filter (qn p) = xs.take i
theorem filter_take_miss {p : Int → Bool} {xs : List Int} {k : Nat} {x : Int} (h : (xs.take k).filter (qn p) = xs.take k) (hx : xs[k]? = some x) (hp : p x = false) : (xs.take (k + 1)).filter (qn p) = xs.take (k + 1) := by
  rw [List.take_add_one, hx, List.filter_append, h]; simp [qn, hp]
theorem idx_hit {p : Int → Bool} {xs : List Int} {k : Nat} {x : Int} (h : (xs.take k).filter (qn p) = xs.take k) (hx : xs[k]? = some x) (hp : p x = true) : Idx p xs k := by
  refine .inr ⟨k, rfl, (List.getElem?_eq_some_iff.1 hx).1, ?_⟩
  rw [List.take_add_one, hx, List.filter_append, h]; simp [qn, hp]
theorem idx_no {p : Int → Bool} {xs : List Int} {k : Nat} (h : (xs.take k).filter (qn p) = xs.take k) (hk : xs.length ≤ k) : Idx p xs (-1) := by
  rw [List.take_of_length_le hk] at h
  exact .inl ⟨rfl, h⟩
/-- where the loop that moves what stays stands: i places are filled, j are read -/
def Del (p : Int → Bool) (xs L : List Int) (i j : Nat) : Prop := L.length = xs.length ∧ i < j ∧ j ≤ xs.length ∧ L.take i = (xs.take j).filter (qn p) ∧ L.drop j = xs.drop j
theorem Del.start {p : Int → Bool} {xs : List Int} {i : Nat} (hi : i < xs.length) (h : (xs.take (i + 1)).filter (qn p) = xs.take i) : Del p xs xs i (i + 1) := ⟨rfl, by omega, hi, h.symm, rfl⟩
theorem Del.at_ {p : Int → Bool} {xs L : List Int} {i j : Nat} (h : Del p xs L i j) : L[j]? = xs[j]? := by
  have := congrArg (fun l => l[0]?) h.2.2.2.2
  simpa using this
theorem Del.miss {p : Int → Bool} {xs L : List Int} {i j : Nat} {x : Int} (h : Del p xs L i j) (hx : xs[j]? = some x) (hp : p x = true) : Del p xs L i (j + 1) := by
  obtain ⟨h1, h2, h3, h4, h5⟩ := h
  have hj := (List.getElem?_eq_some_iff.1 hx).1
  refine ⟨h1, by omega, hj, ?_, ?_⟩
  · rw [List.take_add_one, hx, List.filter_append, h4]; simp [qn, hp]
  · have := congrArg (List.drop 1) h5
    rwa [List.drop_drop, List.drop_drop] at this
theorem Del.hit {p : Int → Bool} {xs L : List Int} {i j : Nat} {x : Int} (h : Del p xs L i j) (hx : xs[j]? = some x) (hp : p x = false) : Del p xs (L.set i x) (i + 1) (j + 1) := by
  obtain ⟨h1, h2, h3, h4, h5⟩ := h
  have hj := (List.getElem?_eq_some_iff.1 hx).1
  refine ⟨by rw [List.length_set]; exact h1, by omega, hj, ?_, ?_⟩
  · rw [show (xs.take (j + 1)).filter (qn p) = L.take i ++ [x] by rw [List.take_add_one, hx, List.filter_append, ← h4]; simp [qn, hp], List.take_add_one, List.take_set_of_le (Nat.le_refl _), List.getElem?_set_self (by omega)]; rfl
  · rw [List.drop_set_of_lt (by omega)]
    have := congrArg (List.drop 1) h5
    rwa [List.drop_drop, List.drop_drop] at this
theorem Del.done {p : Int → Bool} {xs L : List Int} {i j : Nat} (h : Del p xs L i j) (hj : xs.length ≤ j) : L.take i = xs.filter (qn p) ∧ i = (xs.filter (qn p)).length := by
  obtain ⟨h1, h2, h3, h4, h5⟩ := h
  rw [List.take_of_length_le hj] at h4
  exact ⟨h4, by rw [← h4, List.length_take]; omega⟩
theorem io_past {w : World} {base c g k : Nat} {xs : List Int} {v : Value} (h : IO w base (some ⟨g, 0, none⟩) c xs) (hk : xs.length ≤ k) : IO (w.setCell ⟨g, k, none⟩ v) base (some ⟨g, 0, none⟩) c xs := by
  obtain ⟨hg, cur, hh, hs, ht⟩ := h.blkAt
  refine ⟨h.1, h.2.1, .inr ⟨g, _, rfl, hg, hh.set k v, by simpa using hs, ?_⟩⟩
  rw [Array.toList_setIfInBounds, List.take_set_of_le hk, ht]
theorem io_setCells {base c g : Nat} {xs : List Int} : ∀ (vs : List Value) (o : Nat) (w : World), IO w base (some ⟨g, 0, none⟩) c xs → xs.length ≤ o → IO (w.setCells g o vs) base (some ⟨g, 0, none⟩) c xs
  | [], _, _, h, _ => h
  | v :: r, o, _, h, ho => io_setCells r (o + 1) _ (io_past h ho) (by omega)
theorem below_cells {B g : Nat} {a : World} (hg : B ≤ g) : ∀ (vs : List Value) (o : Nat) (w : World), Below B a w → Below B a (w.setCells g o vs)
  | [], _, _, h => h
  | v :: r, o, _, h => below_cells hg r (o + 1) _ (h.setCell hg v)
theorem zero_int (w : World) : (zeroValue 3).run Try.prog w = .ok (.int .i64 0) w := by kernel_rfl
theorem clear_run {w : World} {base c g i n : Nat} {xs : List Int} (h : IO w base (some ⟨g, 0, none⟩) c xs) (hn : xs.length = n) (hi : i < n) (ty : TypeId) :
    (Builtin.clear_ #[24] ty #[.slice (some ⟨g, i, none⟩) (n - i) (c - i)]).run Try.prog w = .ok (.tuple #[]) (w.setCells g i (List.replicate (n - i) (.int .i64 0))) :=
  Lib.run_clear_slice w 24 3 ty (.int .i64 0) Try.underlying24 zero_int rfl rfl g i (n - i) (c - i) (by omega)
    (fun j hj => by obtain ⟨x, hx, _⟩ := h.cellAt (k := i + j) (by omega); rw [hx]; rfl) (fun j hj => h.frozenAt (i + j))

/- The cyclotomic polynomials. -/
theorem cyc_cells (n : Nat) : ((madeCells #[.int .i64 0] (n + 1)).setIfInBounds 0 (.int .i64 (-1))).setIfInBounds n (.int .i64 1) = (ints (cycInit n)).toArray := by
  rw [made_zero, List.setIfInBounds_toArray, List.setIfInBounds_toArray]
  congr 1
  simp [cycInit, ints, List.map_set]
theorem cyc_swap {n : Nat} (h1 : 1 ≤ n) {X : Array Value} {u v : Value} : (X.setIfInBounds n u).setIfInBounds 0 v = (X.setIfInBounds 0 v).setIfInBounds n u := by
  rw [Array.setIfInBounds_comm]
  omega
theorem cyc_le {n : Nat} (h1 : 1 ≤ n) (h : n ≤ 24) : (cyc n).length ≤ 25 := by
  have := (cyc_step (n := n) (d := n) h1 (Nat.le_refl _) h).2.2.2.2
  exact this
theorem quot_cyc {n d : Nat} (hd : 1 ≤ d) (hdn : d < n) (h : n ≤ 24) (h0 : n % d = 0) : quotI (cycB cycT n d) (cyc d) = cycB cycT n (d + 1) ∧ quotS (cycB cycT n d) (cyc d) = cycB cycT n (d + 1) := by
  have hs := cyc_step hd (Nat.le_of_lt hdn) h
  have := quot_same (a := cycB cycT n d) (b := cyc d) hs.2.2.2.1 hs.2.2.1 (by decide)
  exact ⟨by rw [this, cyc_next hd h0], (cyc_next hd h0).symm⟩

/- The cyclotomic polynomials as the program gives them; the rest by one; whether a rhythm vanishes. -/
def cycI (n : Int) : List Int := if inB n 1 24 = true then cyc n.toNat else []
def restI (s : Int) (xs : List Int) (d : Int) : List Int := if rhOk s xs = true ∧ inB d 1 24 = true then restL (polyL s xs) (cyc d.toNat) else []
def vanI (s : Int) (xs : List Int) (d : Int) : Bool := rhOk s xs && inB d 1 24 && decide ((restI s xs d).length = 0)
theorem restI_len (s : Int) (xs : List Int) (d : Int) : (restI s xs d).length ≤ 24 := by
  unfold restI
  split
  · rename_i h
    exact Nat.le_trans (restL_len _ _) (polyL_len (rhOk_iff.1 h.1).1)
  · simp

/- The orders at which a rhythm vanishes: the library's DeleteFunc with the program's closure. -/

/- The prime powers: the library's DeleteFunc with the program's closure. -/
end Go.Proofs.Ytpejnhcmelkmeaa
