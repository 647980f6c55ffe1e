/- Words that many parts of the proof share. -/
import Derived.Test.YtikifkbgmniobaaGreatBas
import Derived.Lib.SliceRun
import Derived.Deep.DeepCutAuto
namespace Go.Proofs.YtikifkbgmniobaaGreat
open Go.RowKit
set_option maxRecDepth 20000

/- Division of polynomials, and the cyclotomic ones: plain laws. -/
def sm (z x y : Int) : Int := IntKind.i64.wrap (z - IntKind.i64.wrap (x * y))
def dRow (b : List Int) (x : Int) (i : Nat) (r : List Int) : Nat → List Int
  | 0 => r
  | k + 1 => (dRow b x i r k).set (i + k) (sm ((dRow b x i r k)[i + k]?.getD 0) x (b[k]?.getD 0))
def dTo (b : List Int) (n : Nat) (a : List Int) : Nat → List Int
  | 0 => a
  | m + 1 => dRow b ((dTo b n a m)[n - m + b.length - 1]?.getD 0) (n - m) (dTo b n a m) b.length
/-- the coefficient that step m finds -/
def dq (b : List Int) (n : Nat) (a : List Int) (m : Nat) : Int := (dTo b n a m)[n - m + b.length - 1]?.getD 0
def qArr (la : Nat) (b : List Int) (n : Nat) (a : List Int) : Nat → List Int
  | 0 => List.replicate la 0
  | m + 1 => (qArr la b n a m).set (n - m) (dq b n a m)
def qSp (b : List Int) (n : Nat) (a : List Int) : Nat → List Int
  | 0 => []
  | m + 1 => dq b n a m :: qSp b n a m
def steps (a b : List Int) : Nat := a.length + 1 - b.length
def restL (a b : List Int) : List Int := trim (dTo b (a.length - b.length) a (steps a b))
def quotI (a b : List Int) : List Int := trim (qArr a.length b (a.length - b.length) a (steps a b))
def quotS (a b : List Int) : List Int := qSp b (a.length - b.length) a (steps a b)
theorem dRow_len (b : List Int) (x : Int) (i : Nat) (r : List Int) (k : Nat) : (dRow b x i r k).length = r.length := by
  induction k with
  | zero => rfl
  | succ k ih => simp [dRow, ih]
theorem dTo_len (b : List Int) (n : Nat) (a : List Int) (m : Nat) : (dTo b n a m).length = a.length := by
  induction m with
  | zero => rfl
  | succ m ih => simp only [dTo, dRow_len, ih]
theorem qArr_len (la : Nat) (b : List Int) (n : Nat) (a : List Int) (m : Nat) : (qArr la b n a m).length = la := by
  induction m with
  | zero => simp [qArr]
  | succ m ih => simp [qArr, ih]
theorem qSp_len (b : List Int) (n : Nat) (a : List Int) (m : Nat) : (qSp b n a m).length = m := by
  induction m with
  | zero => rfl
  | succ m ih => simp [qSp, ih]
theorem quotS_len (a b : List Int) : (quotS a b).length = steps a b := qSp_len _ _ _ _
theorem restL_len (a b : List Int) : (restL a b).length ≤ a.length := by
  unfold restL
  rw [trim_len]
  have := endLen_le (dTo b (a.length - b.length) a (steps a b)) (dTo b (a.length - b.length) a (steps a b)).length
  rw [dTo_len] at this
  rwa [dTo_len]
theorem qArr_form (la : Nat) (b : List Int) (n : Nat) (a : List Int) (hn : n + 1 ≤ la) : ∀ m, m ≤ n + 1 → qArr la b n a m = List.replicate (n + 1 - m) 0 ++ qSp b n a m ++ List.replicate (la - (n + 1)) 0 := by
  intro m
  induction m with
  | zero => intro _; simp only [qArr, qSp, List.append_nil, List.replicate_append_replicate]; congr 1; omega
  | succ m ih =>
    intro h
    simp only [qArr]
    rw [ih (by omega)]
    have e : n + 1 - m = (n + 1 - (m + 1)) + 1 := by omega
    rw [e, List.replicate_succ', List.append_assoc, List.append_assoc, List.set_append_right _ _ (by simp <;> omega)]
    simp only [List.length_replicate]
    rw [show n - m - (n + 1 - (m + 1)) = 0 by omega]
    simp [qSp]
theorem endLen_append (xs : List Int) (k : Nat) : endLen (xs ++ List.replicate k 0) (xs.length + k) = endLen xs xs.length := by
  induction k with
  | zero => simp
  | succ k ih =>
    rw [← Nat.add_assoc]
    have h : ∀ n, n ≤ xs.length + k → endLen (xs ++ List.replicate (k + 1) 0) n = endLen (xs ++ List.replicate k 0) n := by
      intro n
      induction n with
      | zero => intro _; rfl
      | succ n ihn =>
        intro hn
        have : (xs ++ List.replicate (k + 1) 0)[n]? = (xs ++ List.replicate k 0)[n]? := by
          rw [List.replicate_succ', ← List.append_assoc, List.getElem?_append_left (by simp; omega)]
        simp only [endLen, this, ihn (by omega)]
    have hz : (xs ++ List.replicate (k + 1) 0)[xs.length + k]? = some 0 := by
      rw [List.getElem?_append_right (by omega)]; simp
    rw [endLen_zero hz rfl, h _ (Nat.le_refl _), ih]
theorem trim_zeros (xs : List Int) (k : Nat) : trim (xs ++ List.replicate k 0) = trim xs := by
  unfold trim
  rw [List.length_append, List.length_replicate, endLen_append, List.take_append_of_le_length (endLen_le _ _)]
theorem trim_self {xs : List Int} {x : Int} (h : xs[xs.length - 1]? = some x) (hx : x ≠ 0) : trim xs = xs := by
  unfold trim
  have h0 : 0 < xs.length := by
    rcases xs with _ | ⟨y, r⟩
    · simp at h
    · simp
  obtain ⟨n, hn⟩ : ∃ n, xs.length = n + 1 := ⟨xs.length - 1, by omega⟩
  rw [hn, Nat.add_sub_cancel] at h
  rw [hn, endLen_stop h hx, ← hn, List.take_length]
theorem qSp_last (b : List Int) (n : Nat) (a : List Int) (m : Nat) : (qSp b n a (m + 1))[m]? = some (dq b n a 0) := by
  induction m with
  | zero => rfl
  | succ m ih => rw [qSp, List.getElem?_cons_succ]; exact ih
/-- both quotients are one where the dividend ends in a number that is not 0 -/
theorem quot_same {a b : List Int} {x : Int} (hb : 1 ≤ b.length) (ha : a[a.length - 1]? = some x) (hx : x ≠ 0) : quotI a b = quotS a b := by
  unfold quotI quotS
  by_cases hl : b.length ≤ a.length
  · have hs : steps a b = (a.length - b.length) + 1 := by unfold steps; omega
    rw [hs, qArr_form _ _ _ _ (by omega) _ (Nat.le_refl _), Nat.sub_self, List.replicate_zero, List.nil_append, trim_zeros]
    refine trim_self (x := x) ?_ hx
    rw [qSp_len, Nat.add_sub_cancel, qSp_last]
    unfold dq dTo
    rw [show a.length - b.length - 0 + b.length - 1 = a.length - 1 by omega, ha]; rfl
  · have hs : steps a b = 0 := by unfold steps; omega
    rw [hs]
    simp only [qArr, qSp]
    have := trim_zeros [] a.length
    rw [List.nil_append] at this
    rw [this]; rfl
/-! the cyclotomic polynomials -/
def cycInit (n : Nat) : List Int := ((List.replicate (n + 1) 0).set 0 (-1)).set n 1
def cycB (T : List (List Int)) (n : Nat) : Nat → List Int
  | 0 => cycInit n
  | d + 1 => if d ≠ 0 ∧ n % d = 0 then quotS (cycB T n d) (T[d]?.getD []) else cycB T n d
def cycT : List (List Int) := [[], [-1, 1], [1, 1], [1, 1, 1], [1, 0, 1], [1, 1, 1, 1, 1], [1, -1, 1], [1, 1, 1, 1, 1, 1, 1], [1, 0, 0, 0, 1], [1, 0, 0, 1, 0, 0, 1], [1, -1, 1, -1, 1], [1, 1, 1, 1, 1, 1, 1, 1, 1, 1, 1], [1, 0, -1, 0, 1], [1, 1, 1, 1, 1, 1, 1, 1, 1, 1, 1, 1, 1], [1, -1, 1, -1, 1, -1, 1], [1, -1, 0, 1, -1, 1, 0, -1, 1], [1, 0, 0, 0, 0, 0, 0, 0, 1], [1, 1, 1, 1, 1, 1, 1, 1, 1, 1, 1, 1, 1, 1, 1, 1, 1], [1, 0, 0, -1, 0, 0, 1], [1, 1, 1, 1, 1, 1, 1, 1, 1, 1, 1, 1, 1, 1, 1, 1, 1, 1, 1], [1, 0, -1, 0, 1, 0, -1, 0, 1], [1, -1, 0, 1, -1, 0, 1, 0, -1, 1, 0, -1, 1], [1, -1, 1, -1, 1, -1, 1, -1, 1, -1, 1], [1, 1, 1, 1, 1, 1, 1, 1, 1, 1, 1, 1, 1, 1, 1, 1, 1, 1, 1, 1, 1, 1, 1], [1, 0, 0, 0, -1, 0, 0, 0, 1]]
def cyc (n : Nat) : List Int := cycT[n]?.getD []
def cycStep (n d : Nat) : Bool := decide (1 ≤ (cycB cycT n d).length) && decide ((cycB cycT n d).length ≤ 25) && decide ((cycB cycT n d)[(cycB cycT n d).length - 1]?.getD 0 = 1) && decide (1 ≤ (cyc d).length) && decide ((cyc d).length ≤ 25)
def cycAt (n : Nat) : Bool := decide (cycB cycT n n = cyc n) && (List.range (n + 1)).all fun d => d == 0 || cycStep n d
def cycAll : Bool := (List.range 25).all fun n => n == 0 || cycAt n
set_option maxRecDepth 100000 in
theorem cyc_all : cycAll = true := by decide +kernel
theorem cyc_at {n : Nat} (h1 : 1 ≤ n) (h : n ≤ 24) : cycAt n = true := by
  have := cyc_all
  unfold cycAll at this
  rw [List.all_eq_true] at this
  have := this n (List.mem_range.2 (by omega))
  simp only [Bool.or_eq_true, beq_iff_eq] at this
  rcases this with h0 | h0
  · omega
  · exact h0
theorem cyc_eq {n : Nat} (h1 : 1 ≤ n) (h : n ≤ 24) : cycB cycT n n = cyc n := by
  have := cyc_at h1 h
  unfold cycAt at this
  rw [Bool.and_eq_true, decide_eq_true_eq] at this
  exact this.1
theorem cyc_step {n d : Nat} (hd : 1 ≤ d) (hdn : d ≤ n) (h : n ≤ 24) : 1 ≤ (cycB cycT n d).length ∧ (cycB cycT n d).length ≤ 25 ∧ (cycB cycT n d)[(cycB cycT n d).length - 1]? = some 1 ∧ 1 ≤ (cyc d).length ∧ (cyc d).length ≤ 25 := by
  have := cyc_at (Nat.le_trans hd hdn) h
  unfold cycAt at this
  rw [Bool.and_eq_true, List.all_eq_true] at this
  have := this.2 d (List.mem_range.2 (by omega))
  simp only [Bool.or_eq_true, beq_iff_eq] at this
  rcases this with h0 | h0
  · omega
  · unfold cycStep at h0
    simp only [Bool.and_eq_true, decide_eq_true_eq] at h0
    obtain ⟨⟨⟨⟨a1, a2⟩, a3⟩, a4⟩, a5⟩ := h0
    refine ⟨a1, a2, ?_, a4, a5⟩
    have hlt : (cycB cycT n d).length - 1 < (cycB cycT n d).length := by omega
    rw [List.getElem?_eq_getElem hlt] at a3 ⊢
    rw [← a3]; rfl
theorem cyc_next {n d : Nat} (hd : 1 ≤ d) (h0 : n % d = 0) : cycB cycT n (d + 1) = quotS (cycB cycT n d) (cyc d) := by
  simp only [cycB]; rw [if_pos ⟨by omega, h0⟩]; rfl
theorem cyc_skip {n d : Nat} (h0 : n % d ≠ 0) : cycB cycT n (d + 1) = cycB cycT n d := by
  simp only [cycB]; rw [if_neg (fun h => h0 h.2)]
theorem cyc_one (n : Nat) : cycB cycT n 1 = cycInit n := by
  simp [cycB]

/- The polynomial of a rhythm. -/
/-- the array after k beats -/
def polyTo (n : Nat) (xs : List Int) : Nat → List Int
  | 0 => List.replicate n 0
  | k + 1 => (polyTo n xs k).set (xs[k]?.getD 0).toNat 1
theorem polyTo_len (n : Nat) (xs : List Int) (k : Nat) : (polyTo n xs k).length = n := by
  induction k with
  | zero => simp [polyTo]
  | succ k ih => simp [polyTo, ih]
theorem polyTo_step {n : Nat} {xs : List Int} {k : Nat} {x : Int} (hx : xs[k]? = some x) : polyTo n xs (k + 1) = (polyTo n xs k).set x.toNat 1 := by simp [polyTo, hx]
def polyL (s : Int) (xs : List Int) : List Int := trim (polyTo s.toNat xs xs.length)
theorem trim_le (xs : List Int) : (trim xs).length ≤ xs.length := by rw [trim_len]; exact endLen_le _ _
theorem polyL_len {s : Int} {xs : List Int} (hs : 1 ≤ s ∧ s ≤ 24) : (polyL s xs).length ≤ 24 := by
  have := trim_le (polyTo s.toNat xs xs.length)
  rw [polyTo_len] at this
  unfold polyL; omega
theorem holds_gives {w wr : World} {n g c' : Nat} {L : List Int} (hg : w.heap.size ≤ g) (hL : L.length = n) (hn : n ≤ 1000000) (h : Holds wr g L) (hb : Below w.heap.size w wr) (h1 : (trim L).length ≤ c') (h2 : c' ≤ n) :
    GivesInts w (trim L) (.returned (.slice (some ⟨g, 0, none⟩) (trim L).length c')) wr := by
  have := (h.io (base := w.heap.size) hg (by omega))
  exact ⟨_, c', rfl, this.trim h1 (by omega), hb⟩
/-- a list in memory of the call's own that is not nil -/
def GivesIS (w : World) (xs : List Int) (e : Ending) (w' : World) : Prop := ∃ g c, e = .returned (.slice (some ⟨g, 0, none⟩) xs.length c) ∧ IO w' w.heap.size (some ⟨g, 0, none⟩) c xs ∧ Below w.heap.size w w'
theorem holds_givesS {w wr : World} {n g c' : Nat} {L : List Int} (hg : w.heap.size ≤ g) (hL : L.length = n) (hn : n ≤ 1000000) (h : Holds wr g L) (hb : Below w.heap.size w wr) (h1 : (trim L).length ≤ c') (h2 : c' ≤ n) :
    GivesIS w (trim L) (.returned (.slice (some ⟨g, 0, none⟩) (trim L).length c')) wr := by
  have := (h.io (base := w.heap.size) hg (by omega))
  exact ⟨_, c', rfl, this.trim h1 (by omega), hb⟩
set_option maxHeartbeats 1000000 in
theorem polynomial_any (s : Int) (A : Option Addr) (c : Nat) (xs : List Int) (w : World) (hx : rhOk s xs = true) (hA : IR w A xs) :
    Calls Tryz.prog 83 #[.agg #[.int .i64 s, .slice A xs.length c]] w (GivesIS w (polyL s xs)) := by
  have hlA := hA.len
  obtain ⟨⟨hs1, hs2⟩, hmx, _⟩ := rhOk_iff.1 hx
  have HM := Bx.mk hmx
  clear hmx hx
  obtain ⟨n, rfl⟩ := Int.eq_ofNat_of_zero_le (show 0 ≤ s by omega)
  obtain ⟨W0, hW0⟩ : ∃ W0, W0 = w.alloc (.cells #[.int .i64 (n : Int), .slice A xs.length c] 26) := ⟨_, rfl⟩
  have bw : Below w.heap.size w W0 := by rw [hW0]; exact below_alloc _ _
  have hz : W0.heap.size = w.heap.size + 1 := by rw [hW0]; simp
  have k0 : W0.cell? ⟨w.heap.size, 0, none⟩ = some (.int .i64 (n : Int)) := by rw [hW0]; simp [go_sem]
  have k1 : W0.cell? ⟨w.heap.size, 1, none⟩ = some (.slice A xs.length c) := by rw [hW0]; simp [go_sem]
  have HA := Bx.mk (hA.below bw)
  clear hA
  have hmk := make_ints n (by omega)
  go_enter Tryz.func83, Tryz.ntmps83
  go_wp2_with fail
  simp only [← hW0]
  obtain ⟨g, hg⟩ : ∃ g, g = w.heap.size + 1 := ⟨_, rfl⟩
  have hH0 : Holds (W0.alloc (.cells (madeCells #[.int .i64 0] n) 3)) g (polyTo n xs 0) := by rw [hg, ← hz]; exact Holds.made W0 n
  have hb0 : Below W0.heap.size W0 (W0.alloc (.cells (madeCells #[.int .i64 0] n) 3)) := below_alloc _ _
  rw [← hg]
  have hgz : w.heap.size + 1 ≤ W0.heap.size := by omega
  have hgq : W0.heap.size ≤ g := by omega
  generalize hw1 : W0.alloc (.cells (madeCells #[.int .i64 0] n) 3) = w1 at *
  clear hw1 hmk hW0 hg hz
  go_loopw [12] (fun i wr => ∃ a : Nat, a ≤ xs.length ∧ i = .int .i64 a ∧ Holds wr g (polyTo n xs a) ∧ Below W0.heap.size W0 wr) (fun i _ => xs.length - (intOf i).toNat)
  case atStart => exact ⟨0, by omega, rfl, hH0, hb0⟩
  case round =>
    obtain ⟨a, ha, rfl, hH, hb⟩ := hrel
    clear hH0 hb0
    by_cases hlt : a < xs.length
    · obtain ⟨b1, o1, x, rfl, hbx, c1, H1⟩ := HA.out.one hlt
      have H2 := Bx.mk H1.out
      clear H1
      have HC := Bx.mk (bcell hb).1
      have q1 := (HC.out _ _ (by omega)).trans k1
      have q3 := (HC.out _ _ hbx).trans c1
      clear c1
      have hkl : (a : Int) < xs.length := by omega
      obtain ⟨hx1, hx2⟩ := HM.out x (List.mem_of_getElem? H2.out)
      obtain ⟨z, cz, Hz⟩ := hH.cell (k := x.toNat) (by rw [polyTo_len]; omega)
      have fz := hH.frozen x.toNat
      have HN : Bx (polyTo n xs (a + 1) = (polyTo n xs a).set x.toNat 1) := ⟨polyTo_step H2.out⟩
      have HS := Bx.mk (hH.set x.toNat 1)
      have hb' : Below W0.heap.size W0 (wr.setCell ⟨g, x.toNat, none⟩ (.int .i64 1)) := hb.setCell (by simp; omega) _
      have HB' := Bx.mk hb'
      clear hb' hb hH
      go_wp2_with fail
      go_roundw
      case rel => exact ⟨a + 1, by omega, by go_num, by rw [HN.out]; exact HS.out, HB'.out⟩
      case measure => simp [intOf]; omega
    · have hax : a = xs.length := by omega
      obtain ⟨L, hL⟩ : ∃ L, L = polyTo n xs a := ⟨_, rfl⟩
      have hLl : L.length = n := by rw [hL, polyTo_len]
      have HP : Bx (polyL n xs = trim L) := ⟨by rw [hL, hax]; unfold polyL; rw [Int.toNat_natCast]⟩
      rw [← hL] at hH
      clear hax hL
      have HIR : Bx (IR wr (some ⟨g, 0, none⟩) L) := ⟨(hH.io (base := 0) (by omega) (by omega)).reads⟩
      have hio : Bx (GivesIS w (polyL n xs) (.returned (.slice (some ⟨g, 0, none⟩) (trim L).length (trim L).length)) wr) := ⟨by
        rw [HP.out]
        have := trim_le L
        exact holds_givesS (n := n) (by omega) hLl (by omega) hH (bw.trans (hb.mono bw.size)) (by first | exact Nat.le_refl _ | omega) (by omega)⟩
      have hcl := ended_any _ n L wr HIR.out (by omega) (by omega)
      rw [hLl] at hcl
      have HCL := Bx.mk hcl
      clear hH hb hcl
      go_wp2_with fail
      refine HCL.out.mono ?_
      rintro e w2 ⟨rfl, rfl⟩
      go_wp2_with fail
      go_ret
      exact hio.out
def polyI (s : Int) (xs : List Int) : List Int := if rhOk s xs = true then polyL s xs else []
theorem rhOk_is' {f : FuncId} {args : Array Value} {w : World} {s : Int} {xs : List Int} {b : Bool} (hb : rhOk s xs = b) (h : Calls Tryz.prog f args w fun e w' => e = .returned (.bool (rhOk s xs)) ∧ Below w.heap.size w w') :
    Calls Tryz.prog f args w fun e w' => e = .returned (.bool b) ∧ Below w.heap.size w w' := by rw [← hb]; exact h

/- Division of polynomials. -/
theorem IO.cellAt {w : World} {base c g k : Nat} {xs : List Int} (h : IO w base (some ⟨g, 0, none⟩) c xs) (hk : k < xs.length) : ∃ x, w.cell? ⟨g, k, none⟩ = some (.int .i64 x) ∧ Bx (xs[k]? = some x) := by
  obtain ⟨b, o, e, _, hc⟩ := h.reads.at_ (by omega)
  injection e with e; injection e with e1 e2
  subst e1 e2
  have := hc k hk
  rw [Nat.zero_add] at this
  exact ⟨xs[k], by rw [this, List.getElem?_eq_getElem hk]; rfl, ⟨List.getElem?_eq_getElem hk⟩⟩
theorem IO.blkAt {w : World} {base c g : Nat} {xs : List Int} (h : IO w base (some ⟨g, 0, none⟩) c xs) : base ≤ g ∧ ∃ cur, Blk w g 3 cur ∧ c ≤ cur.size ∧ cur.toList.take xs.length = ints xs := by
  rcases h.2.2 with ⟨e, _⟩ | ⟨g', cur, e, hg, hh, hs, ht⟩
  · cases e
  · injection e with e; injection e with e1 e2
    subst e1
    exact ⟨hg, cur, hh, hs, ht⟩
theorem IO.frozenAt {w : World} {base c g : Nat} {xs : List Int} (h : IO w base (some ⟨g, 0, none⟩) c xs) (k : Nat) : w.frozen? ⟨g, k, none⟩ = false := by
  obtain ⟨_, cur, hh, _⟩ := h.blkAt
  exact Blk.frozen hh k
theorem IO.ltAt {w : World} {base c g : Nat} {xs : List Int} (h : IO w base (some ⟨g, 0, none⟩) c xs) : g < w.heap.size := by
  obtain ⟨_, cur, hh, _⟩ := h.blkAt
  exact hh.lt
theorem IO.setAt {w : World} {base c g k : Nat} {xs : List Int} (h : IO w base (some ⟨g, 0, none⟩) c xs) (x : Int) (_hk : k < xs.length) : IO (w.setCell ⟨g, k, none⟩ (.int .i64 x)) base (some ⟨g, 0, none⟩) c (xs.set k x) := by
  obtain ⟨hg, cur, hh, hs, ht⟩ := h.blkAt
  refine ⟨by rw [List.length_set]; exact h.1, by rw [List.length_set]; exact h.2.1, .inr ⟨g, _, rfl, hg, hh.set k _, by simpa using hs, ?_⟩⟩
  rw [List.length_set, Array.toList_setIfInBounds, List.take_set, ht]
  simp [ints, List.map_set]
theorem io_offAt {w : World} {base c g g' i : Nat} {xs : List Int} {v : Value} (h : IO w base (some ⟨g, 0, none⟩) c xs) (hne : g ≠ g') : IO (w.setCell ⟨g', i, none⟩ v) base (some ⟨g, 0, none⟩) c xs := by
  obtain ⟨hg, cur, hh, hs, ht⟩ := h.blkAt
  exact ⟨h.1, h.2.1, .inr ⟨g, cur, rfl, hg, (Below.heap_setCell w ⟨g', i, none⟩ v g (by intro e; simp at e; omega)).trans hh, hs, ht⟩⟩
theorem wpList_appS {ops : Array Oper} {rest : List Oper} {o : Oper} {a : Act} {Q : Exit → Act → World → Prop} {w : World} (hgd : o.guard = none) (s x : Operand)
    (ho : o.op = .call { callee := .builtin .append, args := #[s, x], argTypes := #[24, 24] })
    (base : Nat) (v : Value) (xs : List Int) (hs : a.eval s = v) (b p c : Nat) (ys : List Int) (hx : a.eval x = .slice (some ⟨b, p, none⟩) ys.length c) (hown : Row w base v xs) (hv : v ≠ .slice none 0 0) (hy : IR w (some ⟨b, p, none⟩) ys) (hl : xs.length + ys.length ≤ 1000000000) (hbase : base ≤ w.heap.size)
    (h : ∀ g c' w', IO w' base (some ⟨g, 0, none⟩) c' (xs ++ ys) → Below base w w' → wpList Tryz.prog ops Q rest (a.put o.dst (.slice (some ⟨g, 0, none⟩) (xs.length + ys.length) c')) w') :
    wpList Tryz.prog ops Q (o :: rest) a w := by
  obtain ⟨i0, hi0, hz0, hz1, hz2⟩ := info_parts info_int
  refine wpList_append_own _ hgd s x 24 ho base 3 i0 (.int .i64 0) 1 8 Tryz.underlying24 hi0 hz0 hz1 hz2 rfl (by decide) v xs.length (ints xs) hs hown
    ⟨b, p, none⟩ ys.length c (ints ys) hx (by simp [ints]) ?_ ?_ (by unfold maxLen; omega) (by omega) hbase ?_
  · intro j u hj
    have hjl : j < ys.length := by
      have := (List.getElem?_eq_some_iff.1 hj).1
      simpa [ints] using this
    obtain ⟨b', o', e, _, hc⟩ := hy.at_ (by omega)
    injection e with e; injection e with e1 e2
    subst e1 e2
    have hadd : (⟨b, p, none⟩ : Addr).add j = ⟨b, p + j, none⟩ := by unfold Addr.add; split <;> simp_all
    rw [hadd, hc j hjl]
    simp [ints, hjl] at hj
    rw [← hj, List.getElem?_eq_getElem hjl]; rfl
  · intro u hu
    simp [ints] at hu
    obtain ⟨z, _, rfl⟩ := hu
    rfl
  · intro v' w' h1 h2 h3
    have hR : Row w' base v' (xs ++ ys) := by
      unfold Row
      rw [List.length_append, show ints (xs ++ ys) = ints xs ++ ints ys by simp [ints]]
      exact h1
    have hB : Below base w w' := ⟨h2.os, h2.tape, h2.output, h2.size, fun k hk => h2.block k (by omega) (fun e => by
      rcases hown.2 with ⟨e1, _⟩ | ⟨g, cap, cur, e1, hg', _⟩
      · exact hv e1
      · rw [e1] at e; simp [Value.ownBlock] at e; omega)⟩
    have hn : v' ≠ .slice none 0 0 := fun e => hv (h3.1 e).1
    obtain ⟨A', c', e, io⟩ := hR.io (by rw [List.length_append]; omega)
    subst e
    have hA : ∃ g, A' = some ⟨g, 0, none⟩ := by
      rcases hR.2 with ⟨e1, _⟩ | ⟨g, cap, cur, e1, _⟩
      · exact absurd e1 hn
      · injection e1 with e1; exact ⟨g, e1⟩
    obtain ⟨g, rfl⟩ := hA
    rw [List.length_append]
    exact h g c' w' io hB
theorem eql_nil (b p n c : Nat) (w : World) : Sem.run Tryz.prog (binOp BinOp.eql 24 (.slice (some ⟨b, p, none⟩) n c) (.slice none 0 0)) w = .ok (.bool false) w := by kernel_rfl
def GivesII (w : World) (xs ys : List Int) (e : Ending) (w' : World) : Prop := ∃ g c g' c', e = .returned (.tuple #[.slice (some ⟨g, 0, none⟩) xs.length c, .slice (some ⟨g', 0, none⟩) ys.length c']) ∧ IO w' w.heap.size (some ⟨g, 0, none⟩) c xs ∧ IO w' w.heap.size (some ⟨g', 0, none⟩) c' ys ∧ Below w.heap.size w w'
set_option maxHeartbeats 400000 in
theorem clone_some (b p c : Nat) (xs : List Int) (w : World) (hx : IR w (some ⟨b, p, none⟩) xs) (hl : xs.length ≤ 1000000) :
    Calls Tryz.prog 55 #[.slice (some ⟨b, p, none⟩) xs.length c] w (GivesIS w xs) := by
  have bw := below_alloc w (.cells #[] 3)
  have HX := Bx.mk (hx.below bw)
  have HR := Bx.mk (Row.empty w w.heap.size (Nat.le_refl _))
  clear hx
  have hq := eql_nil b p xs.length c w
  go_enter Tryz.func55, Tryz.ntmps55
  go_wp2_with (at_builtin; go_must (refine wpList_appS rfl _ _ rfl w.heap.size (.slice (some ⟨w.heap.size, 0, none⟩) 0 0) [] rfl b p c xs rfl (by exact HR.out) (by simp) (by exact HX.out) (by simp; omega) (by simp) ?_); intro g c' w1 io b1; simp only [List.nil_append, List.length_nil, Nat.zero_add] at io ⊢)
  go_ret
  exact ⟨g, c', rfl, io, bw.trans b1⟩
set_option maxHeartbeats 2000000 in
set_option maxRecDepth 20000 in
theorem divided_any (bA pA cA cB : Nat) (B : Option Addr) (a b : List Int) (W0 : World) (ha : a.length ≤ 1000) (hb1 : 1 ≤ b.length) (hb2 : b.length ≤ 1000) (hA : IR W0 (some ⟨bA, pA, none⟩) a) (hB : IR W0 B b) :
    Calls Tryz.prog 82 #[.slice (some ⟨bA, pA, none⟩) a.length cA, .slice B b.length cB] W0 (GivesII W0 (quotI a b) (restL a b)) := by
  have HB := Bx.mk hB
  have hmk := make_ints a.length (by omega)
  clear hB
  obtain ⟨la, hla⟩ : ∃ la, la = a.length := ⟨_, rfl⟩
  obtain ⟨n, hn⟩ : ∃ n, n = a.length - b.length := ⟨_, rfl⟩
  have HN0 := Bx.mk hn
  clear hn
  go_enter Tryz.func82, Tryz.ntmps82
  go_wp2_with fail
  refine (clone_some _ _ _ _ _ (by exact hA) (by omega)).mono ?_
  rintro e w1 ⟨gR, cR, rfl, io1, b1⟩
  clear hA
  have hgR := io1.ltAt
  have HIO1 := Bx.mk io1
  have hz1 := b1.size
  clear io1
  go_wp2_with fail
  obtain ⟨gQ, hg⟩ : ∃ g, g = w1.heap.size := ⟨_, rfl⟩
  have hH0 : Holds (w1.alloc (.cells (madeCells #[.int .i64 0] a.length) 3)) gQ (qArr a.length b n a 0) := by rw [hg]; exact Holds.made w1 a.length
  have hb0 : Below W0.heap.size W0 (w1.alloc (.cells (madeCells #[.int .i64 0] a.length) 3)) := b1.alloc hz1 _
  have hi0 : IO (w1.alloc (.cells (madeCells #[.int .i64 0] a.length) 3)) W0.heap.size (some ⟨gR, 0, none⟩) cR (dTo b n a 0) := HIO1.out.below (below_alloc _ _) (Nat.le_refl _)
  rw [← hg]
  have hRQ : gR < gQ := by omega
  have hQW : W0.heap.size ≤ gQ := by omega
  have hgRW : W0.heap.size ≤ gR := HIO1.out.ge _ rfl
  generalize hw1 : w1.alloc (.cells (madeCells #[.int .i64 0] a.length) 3) = w2 at *
  clear hw1 hmk hg HIO1 hz1 hgR b1
  go_loopw [8] (fun i wr => ∃ m : Nat, m ≤ steps a b ∧ i = .int .i64 ((a.length : Int) - (b.length : Int) - m) ∧ IO wr W0.heap.size (some ⟨gR, 0, none⟩) cR (dTo b n a m) ∧ Holds wr gQ (qArr a.length b n a m) ∧ Below W0.heap.size W0 wr) (fun i _ => (intOf i + 1).toNat)
  case atStart => exact ⟨0, by omega, by simp, hi0, hH0, hb0⟩
  case round =>
    obtain ⟨m, hm, rfl, hR, hQ, hb⟩ := hrel
    clear hi0 hH0 hb0
    have hst : steps a b = a.length + 1 - b.length := rfl
    by_cases hlt : m < steps a b
    · obtain ⟨ii, hii⟩ : ∃ ii, ii = n - m := ⟨_, rfl⟩
      have hn := HN0.out
      have hi : (a.length : Int) - (b.length : Int) - (m : Int) = (ii : Int) := by omega
      have hil : ii + b.length ≤ a.length := by omega
      have hms : m + 1 ≤ steps a b := hlt
      have him : (ii : Int) - 1 = (a.length : Int) - (b.length : Int) - ((m + 1 : Nat) : Int) := by omega
      have HII := Bx.mk hii
      have HIM := Bx.mk him
      rw [hi]
      clear hn hi hst hlt hm hii him
      obtain ⟨R, hRr⟩ : ∃ R, R = dTo b n a m := ⟨_, rfl⟩
      have HRl : Bx (R.length = a.length) := ⟨by rw [hRr, dTo_len]⟩
      rw [← hRr] at hR
      have HRe := Bx.mk hRr
      clear hRr
      obtain ⟨kx, hkx⟩ : ∃ kx, kx = ii + b.length - 1 := ⟨_, rfl⟩
      obtain ⟨x, cx, Hx⟩ := hR.cellAt (k := kx) (by rw [HRl.out]; omega)
      have hDQ : dq b n a m = x := by unfold dq; rw [← HRe.out, ← HII.out, ← hkx, Hx.out]; rfl
      have HDQ := Bx.mk hDQ
      clear hDQ
      obtain ⟨jb, hjb⟩ : ∃ jb, jb = ii + b.length := ⟨_, rfl⟩
      have hs1 : IntKind.i64.wrap ((ii : Int) + (b.length : Int)) = (jb : Int) := (IntWalk.i64_in _ (by omega)).trans (by omega)
      have hs2 : IntKind.i64.wrap ((jb : Int) - 1) = (kx : Int) := (IntWalk.i64_in _ (by omega)).trans (by omega)
      have hkxl : (kx : Int) < (a.length : Int) := by omega
      have hiil : (ii : Int) < (a.length : Int) := by omega
      obtain ⟨z0, cq, _⟩ := hQ.cell (k := ii) (by rw [qArr_len]; omega)
      have fq := hQ.frozen ii
      have HQS := Bx.mk (hQ.set ii x)
      have hb2 : Below W0.heap.size W0 (wr.setCell ⟨gQ, ii, none⟩ (.int .i64 x)) := hb.setCell (by simp; omega) _
      have HR2 := Bx.mk (io_offAt (i := ii) (v := .int .i64 x) hR (show gR ≠ gQ by omega))
      have HB2 := Bx.mk hb2
      have HQN : Bx (qArr a.length b n a (m + 1) = (qArr a.length b n a m).set ii x) := ⟨by simp only [qArr]; rw [HDQ.out, ← HII.out]⟩
      have HDN : Bx (dTo b n a (m + 1) = dRow b x ii R b.length) := ⟨by
        simp only [dTo]
        rw [← HRe.out, ← HII.out, ← hkx, Hx.out]; rfl⟩
      clear hb2 hb hR hQ hkx hjb
      go_wp2_with fail
      obtain ⟨Q, hQe⟩ : ∃ Q, Q = (qArr a.length b n a m).set ii x := ⟨_, rfl⟩
      have HQe := Bx.mk hQe
      have HQ := HQS.out
      rw [← hQe] at HQ
      have HRR := HR2.out
      have HBB := HB2.out
      generalize wr.setCell ⟨gQ, ii, none⟩ (.int .i64 x) = w3 at *
      clear hQe HQS HR2 HB2 cx cq fq hs1 hs2
      go_loopw [40] (fun i wm => ∃ k : Nat, k ≤ b.length ∧ i = .int .i64 k ∧ IO wm W0.heap.size (some ⟨gR, 0, none⟩) cR (dRow b x ii R k) ∧ Holds wm gQ Q ∧ Below W0.heap.size W0 wm) (fun i _ => b.length - (intOf i).toNat)
      case atStart => exact ⟨0, by omega, rfl, HRR, HQ, HBB⟩
      case round =>
        obtain ⟨k, hkl, rfl, hR, hQ, hb⟩ := hrel
        clear HRR HQ HBB
        by_cases hlt2 : k < b.length
        · obtain ⟨b2, o2, y, eB, hby, c2, H3⟩ := HB.out.one hlt2
          subst eB
          have H4 := Bx.mk H3.out
          clear H3
          have r3 := ((bcell hb).1 _ _ hby).trans c2
          clear c2
          have hkl2 : (k : Int) < b.length := by omega
          obtain ⟨z, cz, Hz⟩ := hR.cellAt (k := ii + k) (by rw [dRow_len, HRl.out]; omega)
          have fz := hR.frozenAt (ii + k)
          obtain ⟨pp, hp⟩ : ∃ pp, IntKind.i64.wrap (x * y) = pp := ⟨_, rfl⟩
          obtain ⟨qq, hq⟩ : ∃ qq, IntKind.i64.wrap (z - pp) = qq := ⟨_, rfl⟩
          have HN : Bx (dRow b x ii R (k + 1) = (dRow b x ii R k).set (ii + k) qq) := ⟨by
            simp only [dRow]
            rw [H4.out]
            simp only [Option.getD_some]
            rw [Hz.out]
            simp only [Option.getD_some]
            rw [← hq, ← hp]; rfl⟩
          have HS := Bx.mk (hR.setAt (k := ii + k) qq (by rw [dRow_len, HRl.out]; omega))
          have HQ2 := Bx.mk (hQ.other (g' := gR) (k := ii + k) (show gQ ≠ gR by omega) (.int .i64 qq))
          have hb' : Below W0.heap.size W0 (wr.setCell ⟨gR, ii + k, none⟩ (.int .i64 qq)) := hb.setCell (by simp; omega) _
          have HB' := Bx.mk hb'
          clear hb' hb hR hQ
          have eab : (ii : Int) + (k : Int) = ((ii + k : Nat) : Int) := by omega
          have hsab : IntKind.i64.wrap ((ii : Int) + (k : Int)) = ((ii + k : Nat) : Int) := (IntWalk.i64_in _ (by omega)).trans eab
          have hlab : ((ii + k : Nat) : Int) < (a.length : Int) := by omega
          obtain ⟨jj, hjj⟩ : ∃ jj, jj = ii + k := ⟨_, rfl⟩
          rw [← hjj] at cz fz hsab hlab HN HS HB' HQ2
          clear hjj eab
          go_wp2_with fail
          go_roundw
          case rel => exact ⟨k + 1, by omega, by go_num, by rw [HN.out]; exact HS.out, HQ2.out, HB'.out⟩
          case measure => first | (simp [intOf]; done) | (simp [intOf]; omega)
        · have hkb : k = b.length := by omega
          have HO : Bx (dTo b n a (m + 1) = dRow b x ii R k) := ⟨by rw [HDN.out, hkb]⟩
          have HO2 : Bx (qArr a.length b n a (m + 1) = Q) := ⟨by rw [HQN.out, HQe.out]⟩
          clear hkb
          go_wp2_with fail
          go_roundw
          case rel => exact ⟨m + 1, hms, by have := HIM.out; go_num, by rw [HO.out]; exact hR, by rw [HO2.out]; exact hQ, hb⟩
          case measure => first | (simp [intOf]; done) | (simp [intOf]; omega)
    · have hms : m = steps a b := by omega
      obtain ⟨R, hRr⟩ : ∃ R, R = dTo b n a m := ⟨_, rfl⟩
      obtain ⟨Q, hQr⟩ : ∃ Q, Q = qArr a.length b n a m := ⟨_, rfl⟩
      have HRl : R.length = a.length := by rw [hRr, dTo_len]
      have HQl : Q.length = a.length := by rw [hQr, qArr_len]
      have HTR : Bx (restL a b = trim R) := ⟨by rw [hRr, hms, HN0.out]; rfl⟩
      have HTQ : Bx (quotI a b = trim Q) := ⟨by rw [hQr, hms, HN0.out]; rfl⟩
      have hneg : ¬ (0 : Int) ≤ (a.length : Int) - (b.length : Int) - (m : Int) := by omega
      rw [← hRr] at hR
      rw [← hQr] at hQ
      have h1 := ended' _ a.length Q wr (hQ.io (base := 0) (by omega) (by omega)).reads (by omega)
      have h2 := ended' _ cR R wr hR.reads (by have := hR.1; omega)
      have hio1 := Bx.mk ((hQ.io (base := W0.heap.size) hQW (by omega)).trim (Nat.le_refl _) (trim_le Q))
      have hio2 := Bx.mk (hR.trim (Nat.le_refl _) (Nat.le_trans (trim_le R) hR.1))
      have HBB := Bx.mk hb
      rw [HQl] at h1
      rw [HRl] at h2
      have H1 := Bx.mk h1
      have H2 := Bx.mk h2
      clear h1 h2 hR hQ hb hRr hQr hms
      generalize (a.length : Int) - (b.length : Int) - (m : Int) = iz at *
      go_wp2_with fail
      refine H1.out.mono ?_
      rintro e w4 ⟨rfl, rfl⟩
      go_wp2_with fail
      refine H2.out.mono ?_
      rintro e w4 ⟨rfl, rfl⟩
      go_wp2_with fail
      go_ret2
      rw [HTR.out, HTQ.out]
      exact ⟨gQ, _, gR, _, rfl, hio1.out, hio2.out, HBB.out⟩

/- Deleting from a list what a test finds: plain laws, and what clearing leaves. -/
def qn (p : Int → Bool) (x : Int) : Bool := !p x
/-- where the first number lies that the test finds -/
def Idx (p : Int → Bool) (xs : List Int) (r : Int) : Prop := (r = -1 ∧ xs.filter (qn p) = xs) ∨ ∃ i : Nat, r = (i : Int) ∧ i < xs.length ∧ (xs.take (i + 1)).filter (qn p) = xs.take i
theorem filter_take_miss {p : Int → Bool} {xs : List Int} {k : Nat} {x : Int} (h : (xs.take k).filter (qn p) = xs.take k) (hx : xs[k]? = some x) (hp : p x = false) : (xs.take (k + 1)).filter (qn p) = xs.take (k + 1) := by
  rw [List.take_add_one, hx, List.filter_append, h]; simp [qn, hp]
theorem idx_hit {p : Int → Bool} {xs : List Int} {k : Nat} {x : Int} (h : (xs.take k).filter (qn p) = xs.take k) (hx : xs[k]? = some x) (hp : p x = true) : Idx p xs k := by
  refine .inr ⟨k, rfl, (List.getElem?_eq_some_iff.1 hx).1, ?_⟩
  rw [List.take_add_one, hx, List.filter_append, h]; simp [qn, hp]
theorem idx_no {p : Int → Bool} {xs : List Int} {k : Nat} (h : (xs.take k).filter (qn p) = xs.take k) (hk : xs.length ≤ k) : Idx p xs (-1) := by
  rw [List.take_of_length_le hk] at h
  exact .inl ⟨rfl, h⟩
/-- where the loop that moves what stays stands: i places are filled, j are read -/
def Del (p : Int → Bool) (xs L : List Int) (i j : Nat) : Prop := L.length = xs.length ∧ i < j ∧ j ≤ xs.length ∧ L.take i = (xs.take j).filter (qn p) ∧ L.drop j = xs.drop j
theorem Del.start {p : Int → Bool} {xs : List Int} {i : Nat} (hi : i < xs.length) (h : (xs.take (i + 1)).filter (qn p) = xs.take i) : Del p xs xs i (i + 1) := ⟨rfl, by omega, hi, h.symm, rfl⟩
theorem Del.at_ {p : Int → Bool} {xs L : List Int} {i j : Nat} (h : Del p xs L i j) : L[j]? = xs[j]? := by
  have := congrArg (fun l => l[0]?) h.2.2.2.2
  simpa using this
theorem Del.miss {p : Int → Bool} {xs L : List Int} {i j : Nat} {x : Int} (h : Del p xs L i j) (hx : xs[j]? = some x) (hp : p x = true) : Del p xs L i (j + 1) := by
  obtain ⟨h1, h2, h3, h4, h5⟩ := h
  have hj := (List.getElem?_eq_some_iff.1 hx).1
  refine ⟨h1, by omega, hj, ?_, ?_⟩
  · rw [List.take_add_one, hx, List.filter_append, h4]; simp [qn, hp]
  · have := congrArg (List.drop 1) h5
    rwa [List.drop_drop, List.drop_drop] at this
theorem Del.hit {p : Int → Bool} {xs L : List Int} {i j : Nat} {x : Int} (h : Del p xs L i j) (hx : xs[j]? = some x) (hp : p x = false) : Del p xs (L.set i x) (i + 1) (j + 1) := by
  obtain ⟨h1, h2, h3, h4, h5⟩ := h
  have hj := (List.getElem?_eq_some_iff.1 hx).1
  refine ⟨by rw [List.length_set]; exact h1, by omega, hj, ?_, ?_⟩
  · rw [show (xs.take (j + 1)).filter (qn p) = L.take i ++ [x] by rw [List.take_add_one, hx, List.filter_append, ← h4]; simp [qn, hp], List.take_add_one, List.take_set_of_le (Nat.le_refl _), List.getElem?_set_self (by omega)]; rfl
  · rw [List.drop_set_of_lt (by omega)]
    have := congrArg (List.drop 1) h5
    rwa [List.drop_drop, List.drop_drop] at this
theorem Del.done {p : Int → Bool} {xs L : List Int} {i j : Nat} (h : Del p xs L i j) (hj : xs.length ≤ j) : L.take i = xs.filter (qn p) ∧ i = (xs.filter (qn p)).length := by
  obtain ⟨h1, h2, h3, h4, h5⟩ := h
  rw [List.take_of_length_le hj] at h4
  exact ⟨h4, by rw [← h4, List.length_take]; omega⟩
theorem io_past {w : World} {base c g k : Nat} {xs : List Int} {v : Value} (h : IO w base (some ⟨g, 0, none⟩) c xs) (hk : xs.length ≤ k) : IO (w.setCell ⟨g, k, none⟩ v) base (some ⟨g, 0, none⟩) c xs := by
  obtain ⟨hg, cur, hh, hs, ht⟩ := h.blkAt
  refine ⟨h.1, h.2.1, .inr ⟨g, _, rfl, hg, hh.set k v, by simpa using hs, ?_⟩⟩
  rw [Array.toList_setIfInBounds, List.take_set_of_le hk, ht]
theorem io_setCells {base c g : Nat} {xs : List Int} : ∀ (vs : List Value) (o : Nat) (w : World), IO w base (some ⟨g, 0, none⟩) c xs → xs.length ≤ o → IO (w.setCells g o vs) base (some ⟨g, 0, none⟩) c xs
  | [], _, _, h, _ => h
  | v :: r, o, _, h, ho => io_setCells r (o + 1) _ (io_past h ho) (by omega)
theorem below_cells {B g : Nat} {a : World} (hg : B ≤ g) : ∀ (vs : List Value) (o : Nat) (w : World), Below B a w → Below B a (w.setCells g o vs)
  | [], _, _, h => h
  | v :: r, o, _, h => below_cells hg r (o + 1) _ (h.setCell hg v)
theorem zero_int (w : World) : (zeroValue 3).run Tryz.prog w = .ok (.int .i64 0) w := by kernel_rfl
theorem clear_run {w : World} {base c g i n : Nat} {xs : List Int} (h : IO w base (some ⟨g, 0, none⟩) c xs) (hn : xs.length = n) (hi : i < n) (ty : TypeId) :
    (Builtin.clear_ #[24] ty #[.slice (some ⟨g, i, none⟩) (n - i) (c - i)]).run Tryz.prog w = .ok (.tuple #[]) (w.setCells g i (List.replicate (n - i) (.int .i64 0))) :=
  Lib.run_clear_slice w 24 3 ty (.int .i64 0) Tryz.underlying24 zero_int rfl rfl g i (n - i) (c - i) (by omega)
    (fun j hj => by obtain ⟨x, hx, _⟩ := h.cellAt (k := i + j) (by omega); rw [hx]; rfl) (fun j hj => h.frozenAt (i + j))

/- The cyclotomic polynomials. -/
theorem cyc_cells (n : Nat) : ((madeCells #[.int .i64 0] (n + 1)).setIfInBounds 0 (.int .i64 (-1))).setIfInBounds n (.int .i64 1) = (ints (cycInit n)).toArray := by
  rw [made_zero, List.setIfInBounds_toArray, List.setIfInBounds_toArray]
  congr 1
  simp [cycInit, ints, List.map_set]
theorem cyc_swap {n : Nat} (h1 : 1 ≤ n) {X : Array Value} {u v : Value} : (X.setIfInBounds n u).setIfInBounds 0 v = (X.setIfInBounds 0 v).setIfInBounds n u := by
  rw [Array.setIfInBounds_comm]
  omega
theorem cyc_le {n : Nat} (h1 : 1 ≤ n) (h : n ≤ 24) : (cyc n).length ≤ 25 := by
  have := (cyc_step (n := n) (d := n) h1 (Nat.le_refl _) h).2.2.2.2
  exact this
theorem quot_cyc {n d : Nat} (hd : 1 ≤ d) (hdn : d < n) (h : n ≤ 24) (h0 : n % d = 0) : quotI (cycB cycT n d) (cyc d) = cycB cycT n (d + 1) ∧ quotS (cycB cycT n d) (cyc d) = cycB cycT n (d + 1) := by
  have hs := cyc_step hd (Nat.le_of_lt hdn) h
  have := quot_same (a := cycB cycT n d) (b := cyc d) hs.2.2.2.1 hs.2.2.1 (by decide)
  exact ⟨by rw [this, cyc_next hd h0], (cyc_next hd h0).symm⟩
set_option maxHeartbeats 2000000 in
theorem cyclotomic_any : ∀ (N n : Nat) (W0 : World), n ≤ N → 1 ≤ n → n ≤ 24 →
    Calls Tryz.prog 84 #[.int .i64 n] W0 (GivesIS W0 (cyc n)) := by
  intro N
  induction N with
  | zero => intro n W0 h h1 _; omega
  | succ N ih =>
    intro n W0 hN h1 h24
    have HI := Bx.mk ih
    clear ih
    have hmk := make_ints (n + 1) (by omega)
    rw [show ((n + 1 : Nat) : Int) = (n : Int) + 1 by omega] at hmk
    obtain ⟨g, hg⟩ : ∃ g, g = W0.heap.size := ⟨_, rfl⟩
    obtain ⟨w1, hw1⟩ : ∃ w1, w1 = W0.alloc (.cells (madeCells #[.int .i64 0] (n + 1)) 3) := ⟨_, rfl⟩
    have hgW : W0.heap.size ≤ g := by omega
    have b1 : Below W0.heap.size W0 w1 := by rw [hw1]; exact below_alloc _ _
    have hM : Holds w1 g (List.replicate (n + 1) 0) := by rw [hw1, hg]; exact Holds.made W0 (n + 1)
    have c0 : w1.cell? ⟨g, 0, none⟩ = some (.int .i64 0) := by obtain ⟨z, c, H⟩ := hM.cell (k := 0) (by simp); have := H.out; rw [List.getElem?_replicate_of_lt (by omega)] at this; cases this; exact c
    have f0 := hM.frozen 0
    have hM2 := hM.set 0 (-1)
    have c2 : (w1.setCell ⟨g, 0, none⟩ (.int .i64 (-1))).cell? ⟨g, n, none⟩ = some (.int .i64 0) := by
      obtain ⟨z, c, H⟩ := hM2.cell (k := n) (by simp)
      have := H.out
      rw [List.getElem?_set_ne (by omega), List.getElem?_replicate_of_lt (by omega)] at this
      cases this; exact c
    have f2 := hM2.frozen n
    have hM3 : Holds ((w1.setCell ⟨g, 0, none⟩ (.int .i64 (-1))).setCell ⟨g, n, none⟩ (.int .i64 1)) g (cycInit n) := hM2.set n 1
    obtain ⟨w2, hw2⟩ : ∃ w2, w2 = (w1.setCell ⟨g, 0, none⟩ (.int .i64 (-1))).setCell ⟨g, n, none⟩ (.int .i64 1) := ⟨_, rfl⟩
    have HB0 : Bx (Below W0.heap.size W0 w2) := ⟨by rw [hw2]; exact (b1.setCell (p := ⟨g, 0, none⟩) hgW _).setCell (p := ⟨g, n, none⟩) hgW _⟩
    have hLn : (cycInit n).length = n + 1 := by simp [cycInit]
    have HI0 : Bx (IO w2 W0.heap.size (some ⟨g, 0, none⟩) (n + 1) (cycB cycT n 1)) := ⟨by
      have hio := hM3.io (base := W0.heap.size) hgW (by omega)
      rw [hLn] at hio
      rw [cyc_one, hw2]
      exact hio⟩
    have HL0 : Bx ((cycB cycT n 1).length = n + 1) := ⟨by rw [cyc_one]; exact hLn⟩
    have hn0 : ¬ n = 0 := by omega
    clear hM hM2 hM3 hLn b1
    go_enter Tryz.func84, Tryz.ntmps84
    go_upto_region 2 with (fail)
    rw [← hw1, ← hg]
    clear hw1 hg hmk
    go_wp2_with fail
    all_goals
      rw [← hw2]
      clear hw2 c0 c2 f0 f2
      go_loopw [3, 4] (fun q i wr => ∃ d g c : Nat, 1 ≤ d ∧ d ≤ n ∧ q = .slice (some ⟨g, 0, none⟩) (cycB cycT n d).length c ∧ i = .int .i64 d ∧ IO wr W0.heap.size (some ⟨g, 0, none⟩) c (cycB cycT n d) ∧ Below W0.heap.size W0 wr) (fun _ i _ => n - (intOf i).toNat)
      case atStart => exact ⟨1, g, n + 1, Nat.le_refl _, h1, by rw [HL0.out], rfl, HI0.out, HB0.out⟩
      case round =>
        obtain ⟨d, g, c, hd1, hdn, rfl, rfl, io, hb⟩ := hrel
        clear HI0 HB0
        have hs := cyc_step hd1 hdn h24
        have hla : (cycB cycT n d).length ≤ 1000 := by omega
        have hlb1 := hs.2.2.2.1
        have hlb2 : (cyc d).length ≤ 1000 := by omega
        clear hs
        by_cases hlt : d < n
        · have hli : (d : Int) < n := by omega
          have e0 : ((n : Int) % (d : Int)) = ((n % d : Nat) : Int) := (Int.natCast_emod n d).symm
          by_cases h0 : n % d = 0
          · have hdb : ((n : Int) % (d : Int) == 0) = true := by rw [e0, h0]; rfl
            have HQ : Bx (quotI (cycB cycT n d) (cyc d) = cycB cycT n (d + 1)) := ⟨(quot_cyc hd1 hlt h24 h0).1⟩
            clear h0 e0
            obtain ⟨X, hX⟩ : ∃ X, X = cycB cycT n d := ⟨_, rfl⟩
            rw [← hX] at io HQ hla ⊢
            clear hX
            have HIO := Bx.mk io
            have HB := Bx.mk hb
            have hzb := hb.size
            clear io hb
            go_wp2_with fail
            refine (HI.out d _ (by omega) hd1 (by omega)).mono ?_
            rintro e w3 ⟨g3, c3, rfl, io3, b3⟩
            have hio3 := HIO.out.below b3 (Nat.le_refl _)
            go_wp2_with fail
            refine (divided_any _ _ _ _ _ _ _ _ hla hlb1 hlb2 (by exact hio3.reads) (by exact io3.reads)).mono ?_
            rintro e w4 ⟨g4, c4, g5, c5, rfl, io4, _, b4⟩
            have hz3 := b3.size
            have HF := Bx.mk (io4.mono (show W0.heap.size ≤ w3.heap.size by omega))
            have HBF := Bx.mk (HB.out.trans ((b3.trans (b4.mono b3.size)).mono hzb))
            rw [HQ.out] at HF ⊢
            obtain ⟨Y, hY⟩ : ∃ Y, Y = cycB cycT n (d + 1) := ⟨_, rfl⟩
            rw [← hY] at HF ⊢
            have HY := Bx.mk hY
            clear hY io3 b3 hio3 io4 b4 HQ hdb
            go_wp2_with fail
            go_roundw
            case rel => exact ⟨d + 1, g4, c4, by omega, by omega, by rw [← HY.out], by go_num, by rw [← HY.out]; exact HF.out, HBF.out⟩
            case measure => first | (simp [intOf]; done) | (simp [intOf]; omega)
          · have hdb : ((n : Int) % (d : Int) == 0) = false := by rw [e0]; simp; omega
            have HQ : Bx (cycB cycT n (d + 1) = cycB cycT n d) := ⟨cyc_skip h0⟩
            clear h0 e0
            go_wp2_with fail
            go_roundw
            case rel => exact ⟨d + 1, g, c, by omega, by omega, by rw [HQ.out], by go_num, by rw [HQ.out]; exact io, hb⟩
            case measure => first | (simp [intOf]; done) | (simp [intOf]; omega)
        · have hdn2 : d = n := by omega
          have HE : Bx (cyc n = cycB cycT n d) := ⟨by rw [hdn2]; exact (cyc_eq h1 h24).symm⟩
          clear hdn2
          go_wp2_with fail
          go_ret
          rw [HE.out]
          exact ⟨g, c, rfl, io, hb⟩

/- The cyclotomic polynomials as the program gives them; the rest by one; whether a rhythm vanishes. -/
def cycI (n : Int) : List Int := if inB n 1 24 = true then cyc n.toNat else []
def restI (s : Int) (xs : List Int) (d : Int) : List Int := if rhOk s xs = true ∧ inB d 1 24 = true then restL (polyL s xs) (cyc d.toNat) else []
def vanI (s : Int) (xs : List Int) (d : Int) : Bool := rhOk s xs && inB d 1 24 && decide ((restI s xs d).length = 0)
theorem restI_len (s : Int) (xs : List Int) (d : Int) : (restI s xs d).length ≤ 24 := by
  unfold restI
  split
  · rename_i h
    exact Nat.le_trans (restL_len _ _) (polyL_len (rhOk_iff.1 h.1).1)
  · simp
set_option maxHeartbeats 1000000 in
theorem implRest_any (s : Int) (A : Option Addr) (c : Nat) (xs : List Int) (d : Int) (w : World) (hs : -9223372036854775808 ≤ s ∧ s ≤ 9223372036854775807) (hx : IR w A xs) :
    Calls Tryz.prog 74 #[.agg #[.int .i64 s, .slice A xs.length c], .int .i64 d] w (GivesInts w (restI s xs d)) := by
  obtain ⟨W0, hW0⟩ : ∃ W0, W0 = w.alloc (.cells #[.int .i64 s, .slice A xs.length c] 26) := ⟨_, rfl⟩
  have bw : Below w.heap.size w W0 := by rw [hW0]; exact below_alloc _ _
  have hz : w.heap.size < W0.heap.size := by rw [hW0]; simp
  have k0 : W0.cell? ⟨w.heap.size, 0, none⟩ = some (.int .i64 s) := by rw [hW0]; simp [go_sem]
  have k1 : W0.cell? ⟨w.heap.size, 1, none⟩ = some (.slice A xs.length c) := by rw [hW0]; simp [go_sem]
  have HX := Bx.mk (hx.below bw)
  have HS := Bx.mk hs
  clear hx hs
  cases h1 : rhOk s xs with
  | false =>
    have HR : Bx (restI s xs d = []) := ⟨by simp [restI, h1]⟩
    go_enter Tryz.func74, Tryz.ntmps74
    go_wp2_with fail
    rw [← hW0]
    clear hW0
    refine (rhOk_is' h1 (implRhythmOk_any _ _ _ _ _ HS.out (by exact HX.out))).mono ?_
    rintro e w1 ⟨rfl, b⟩
    replace k0 := ((bcell b).1 _ _ (by omega)).trans k0
    replace k1 := ((bcell b).1 _ _ (by omega)).trans k1
    replace HX := Bx.mk (HX.out.below b)
    replace hz := Nat.lt_of_lt_of_le hz b.size
    replace bw := bw.trans (b.mono bw.size)
    clear b
    go_wp2_with fail
    go_ret
    rw [HR.out]
    exact GivesInts.of_row (Row.nil _ _) (by simp) bw
  | true =>
  cases h2 : inB d 1 24 with
  | false =>
    have HR : Bx (restI s xs d = []) := ⟨by simp [restI, h2]⟩
    go_enter Tryz.func74, Tryz.ntmps74
    go_wp2_with fail
    rw [← hW0]
    clear hW0
    refine (rhOk_is' h1 (implRhythmOk_any _ _ _ _ _ HS.out (by exact HX.out))).mono ?_
    rintro e w1 ⟨rfl, b⟩
    replace k0 := ((bcell b).1 _ _ (by omega)).trans k0
    replace k1 := ((bcell b).1 _ _ (by omega)).trans k1
    replace HX := Bx.mk (HX.out.below b)
    replace hz := Nat.lt_of_lt_of_le hz b.size
    replace bw := bw.trans (b.mono bw.size)
    clear b
    go_wp2_with (go_at_call 52; refine (within_any _ _ _ _).mono ?_; rintro e w' ⟨rfl, rfl⟩)
    go_ret
    rw [HR.out]
    exact GivesInts.of_row (Row.nil _ _) (by simp) bw
  | true =>
    have b2 := inB_iff.1 h2
    have HR : Bx (restI s xs d = restL (polyL s xs) (cyc d.toNat)) := ⟨by simp [restI, h1, h2]⟩
    have H1 := Bx.mk h1
    obtain ⟨m, rfl⟩ := Int.eq_ofNat_of_zero_le (show 0 ≤ d by omega)
    rw [Int.toNat_natCast] at HR
    have hm1 : 1 ≤ m := by omega
    have hm2 : m ≤ 24 := by omega
    have hpl : (polyL s xs).length ≤ 1000 := Nat.le_trans (polyL_len (rhOk_iff.1 h1).1) (by omega)
    have hcs := cyc_step (n := m) (d := m) hm1 (Nat.le_refl _) hm2
    have hc1 : 1 ≤ (cyc m).length := hcs.2.2.2.1
    have hc2 : (cyc m).length ≤ 1000 := Nat.le_trans hcs.2.2.2.2 (by omega)
    clear b2 hcs
    go_enter Tryz.func74, Tryz.ntmps74
    go_wp2_with fail
    rw [← hW0]
    clear hW0
    refine (rhOk_is' h1 (implRhythmOk_any _ _ _ _ _ HS.out (by exact HX.out))).mono ?_
    rintro e w1 ⟨rfl, b⟩
    replace k0 := ((bcell b).1 _ _ (by omega)).trans k0
    replace k1 := ((bcell b).1 _ _ (by omega)).trans k1
    replace HX := Bx.mk (HX.out.below b)
    replace hz := Nat.lt_of_lt_of_le hz b.size
    replace bw := bw.trans (b.mono bw.size)
    clear b
    go_wp2_with (go_at_call 52; refine (within_any _ _ _ _).mono ?_; rintro e w' ⟨rfl, rfl⟩)
    refine (polynomial_any _ _ _ _ _ H1.out (by exact HX.out)).mono ?_
    rintro e w2 ⟨g2, c2, rfl, io2, b2⟩
    have HP := Bx.mk io2
    replace k0 := ((bcell b2).1 _ _ (by omega)).trans k0
    replace k1 := ((bcell b2).1 _ _ (by omega)).trans k1
    replace HX := Bx.mk (HX.out.below b2)
    replace hz := Nat.lt_of_lt_of_le hz b2.size
    replace bw := bw.trans (b2.mono bw.size)
    clear b2 io2
    go_wp2_with fail
    refine (cyclotomic_any m m _ (Nat.le_refl _) hm1 hm2).mono ?_
    rintro e w3 ⟨g3, c3, rfl, io3, b3⟩
    have HP3 := Bx.mk (HP.out.below b3 (Nat.le_refl _))
    have HC := Bx.mk io3
    replace bw := bw.trans (b3.mono bw.size)
    clear b3 io3 HP k0 k1 HX hz
    go_wp2_with fail
    refine (divided_any _ _ _ _ _ _ _ _ hpl hc1 hc2 (by exact HP3.out.reads) (by exact HC.out.reads)).mono ?_
    rintro e w4 ⟨g4, c4, g5, c5, rfl, _, io5, b4⟩
    have HF := Bx.mk (io5.mono bw.size)
    have HB := Bx.mk (bw.trans (b4.mono bw.size))
    clear io5 b4
    rw [← HR.out] at HF ⊢
    go_wp2_with fail
    go_ret
    exact ⟨_, c5, rfl, HF.out, HB.out⟩
set_option maxHeartbeats 1000000 in
theorem implVan_any (s : Int) (A : Option Addr) (c : Nat) (xs : List Int) (d : Int) (w : World) (hs : -9223372036854775808 ≤ s ∧ s ≤ 9223372036854775807) (hx : IR w A xs) :
    Calls Tryz.prog 63 #[.agg #[.int .i64 s, .slice A xs.length c], .int .i64 d] w fun e w' => e = .returned (.bool (vanI s xs d)) ∧ Below w.heap.size w w' := by
  obtain ⟨W0, hW0⟩ : ∃ W0, W0 = w.alloc (.cells #[.int .i64 s, .slice A xs.length c] 26) := ⟨_, rfl⟩
  have bw : Below w.heap.size w W0 := by rw [hW0]; exact below_alloc _ _
  have hz : w.heap.size < W0.heap.size := by rw [hW0]; simp
  have k0 : W0.cell? ⟨w.heap.size, 0, none⟩ = some (.int .i64 s) := by rw [hW0]; simp [go_sem]
  have k1 : W0.cell? ⟨w.heap.size, 1, none⟩ = some (.slice A xs.length c) := by rw [hW0]; simp [go_sem]
  have HX := Bx.mk (hx.below bw)
  have HS := Bx.mk hs
  clear hx hs
  cases h1 : rhOk s xs with
  | false =>
    have HR : Bx (vanI s xs d = false) := ⟨by simp [vanI, h1]⟩
    go_enter Tryz.func63, Tryz.ntmps63
    go_wp2_with fail
    rw [← hW0]
    clear hW0
    refine (rhOk_is' h1 (implRhythmOk_any _ _ _ _ _ HS.out (by exact HX.out))).mono ?_
    rintro e w1 ⟨rfl, b⟩
    replace k0 := ((bcell b).1 _ _ (by omega)).trans k0
    replace k1 := ((bcell b).1 _ _ (by omega)).trans k1
    replace HX := Bx.mk (HX.out.below b)
    replace hz := Nat.lt_of_lt_of_le hz b.size
    replace bw := bw.trans (b.mono bw.size)
    clear b
    go_wp2_with fail
    go_ret
    exact ⟨ret_bool HR.out.symm, bw⟩
  | true =>
  cases h2 : inB d 1 24 with
  | false =>
    have HR : Bx (vanI s xs d = false) := ⟨by simp [vanI, h2]⟩
    go_enter Tryz.func63, Tryz.ntmps63
    go_wp2_with fail
    rw [← hW0]
    clear hW0
    refine (rhOk_is' h1 (implRhythmOk_any _ _ _ _ _ HS.out (by exact HX.out))).mono ?_
    rintro e w1 ⟨rfl, b⟩
    replace k0 := ((bcell b).1 _ _ (by omega)).trans k0
    replace k1 := ((bcell b).1 _ _ (by omega)).trans k1
    replace HX := Bx.mk (HX.out.below b)
    replace hz := Nat.lt_of_lt_of_le hz b.size
    replace bw := bw.trans (b.mono bw.size)
    clear b
    go_wp2_with (go_at_call 52; refine (within_any _ _ _ _).mono ?_; rintro e w' ⟨rfl, rfl⟩)
    go_ret
    exact ⟨ret_bool HR.out.symm, bw⟩
  | true =>
    have HR : Bx (vanI s xs d = decide ((restI s xs d).length = 0)) := ⟨by simp [vanI, h1, h2]⟩
    go_enter Tryz.func63, Tryz.ntmps63
    go_wp2_with fail
    rw [← hW0]
    clear hW0
    refine (rhOk_is' h1 (implRhythmOk_any _ _ _ _ _ HS.out (by exact HX.out))).mono ?_
    rintro e w1 ⟨rfl, b⟩
    replace k0 := ((bcell b).1 _ _ (by omega)).trans k0
    replace k1 := ((bcell b).1 _ _ (by omega)).trans k1
    replace HX := Bx.mk (HX.out.below b)
    replace hz := Nat.lt_of_lt_of_le hz b.size
    replace bw := bw.trans (b.mono bw.size)
    clear b
    go_wp2_with (go_at_call 52; refine (within_any _ _ _ _).mono ?_; rintro e w' ⟨rfl, rfl⟩)
    refine (implRest_any _ _ _ _ _ _ HS.out (by exact HX.out)).mono ?_
    rintro e w2 ⟨A2, c2, rfl, _, b⟩
    have HB := Bx.mk (bw.trans (b.mono bw.size))
    have hlr := restI_len s xs d
    obtain ⟨L, hL⟩ : ∃ L, L = (restI s xs d).length := ⟨_, rfl⟩
    rw [← hL] at hlr HR ⊢
    clear b hL
    by_cases h0 : L = 0
    · subst h0
      go_wp2_with fail
      go_ret
      exact ⟨ret_bool (by rw [HR.out]; rfl), HB.out⟩
    · have hli : ((L : Int) == 0) = false := by simp; omega
      have HL : Bx (decide (L = 0) = false) := ⟨by simp [h0]⟩
      clear h0
      go_wp2_with fail
      go_ret
      exact ⟨ret_bool (by rw [HR.out, HL.out]), HB.out⟩

/- The orders at which a rhythm vanishes: the library's DeleteFunc with the program's closure. -/
set_option maxHeartbeats 1000000 in
theorem indexDelV (p : Int → Bool) (B : Nat) (A : Option Addr) (c : Nat) (xs : List Int) (g1 : Nat) (w : World) (hB : B ≤ w.heap.size) (hx : IR w A xs) (HC : Bx (∀ x ∈ xs, ∀ W, Below B w W → Calls Tryz.prog 62 #[.int .i64 x, .pointer (some ⟨g1, 0, none⟩)] W fun e w' => e = .returned (.bool (p x)) ∧ Below W.heap.size W w')) :
    Calls Tryz.prog 71 #[.slice A xs.length c, .func (.func 62) #[] #[.pointer (some ⟨g1, 0, none⟩)]] w fun e w' => ∃ r, e = .returned (.int .i64 r) ∧ Idx p xs r ∧ Below w.heap.size w w' := by
  have hlx := hx.len
  have HX := Bx.mk hx
  clear hx
  go_enter Tryz.func71, Tryz.ntmps71
  go_wp2_with fail
  go_loopw [8] (fun i wr => ∃ k : Nat, k ≤ xs.length ∧ i = .int .i64 k ∧ Bx ((xs.take k).filter (qn p) = xs.take k) ∧ Below w.heap.size w wr) (fun i _ => xs.length - (intOf i).toNat)
  case atStart => exact ⟨0, by omega, rfl, ⟨rfl⟩, Below.refl _ _⟩
  case round =>
    obtain ⟨k, hk, rfl, HA, hb⟩ := hrel
    have hbB := hb.mono hB
    by_cases hlt : k < xs.length
    · obtain ⟨b, o, x, rfl, hbk, c1, H1⟩ := (HX.out.below hb).one hlt
      have hkl : (k : Int) < xs.length := by omega
      have H2 := Bx.mk H1.out
      clear H1
      cases hp : p x with
      | true =>
        have HI := Bx.mk (idx_hit HA.out H2.out hp)
        go_wp2_with fail
        refine (HC.out x (List.mem_of_getElem? H2.out) _ hbB).mono ?_
        rw [hp]
        rintro e w2 ⟨rfl, b2⟩
        have HB := Bx.mk (hb.trans (b2.mono hb.size))
        clear b2
        go_wp2_with fail
        go_ret
        exact ⟨_, rfl, HI.out, HB.out⟩
      | false =>
        have HI := Bx.mk (filter_take_miss HA.out H2.out hp)
        go_wp2_with fail
        refine (HC.out x (List.mem_of_getElem? H2.out) _ hbB).mono ?_
        rw [hp]
        rintro e w2 ⟨rfl, b2⟩
        have HB := Bx.mk (hb.trans (b2.mono hb.size))
        clear b2
        go_wp2_with fail
        go_roundw
        case rel => exact ⟨k + 1, by omega, by go_num, HI, HB.out⟩
        case measure => first | (simp [intOf]; done) | (simp [intOf]; omega)
    · have HI := Bx.mk (idx_no HA.out (by omega))
      go_wp2_with fail
      go_ret
      exact ⟨_, rfl, HI.out, hb⟩
set_option maxHeartbeats 1000000 in
theorem delDelV (p : Int → Bool) (B base : Nat) (A : Option Addr) (c : Nat) (xs : List Int) (g1 : Nat) (w : World) (hB : B ≤ base) (hbw : base ≤ w.heap.size) (hl : xs.length ≤ 1000) (hx : IO w base A c xs) (HC : Bx (∀ x ∈ xs, ∀ W, Below B w W → Calls Tryz.prog 62 #[.int .i64 x, .pointer (some ⟨g1, 0, none⟩)] W fun e w' => e = .returned (.bool (p x)) ∧ Below W.heap.size W w')) :
    Calls Tryz.prog 56 #[.slice A xs.length c, .func (.func 62) #[] #[.pointer (some ⟨g1, 0, none⟩)]] w fun e w' => e = .returned (.slice A (xs.filter (qn p)).length c) ∧ IO w' base A c (xs.filter (qn p)) ∧ Below base w w' := by
  have HX := Bx.mk hx
  clear hx
  go_enter Tryz.func56, Tryz.ntmps56
  go_wp2_with fail
  refine (indexDelV p B _ _ _ g1 _ (by omega) (by exact HX.out.reads) HC).mono ?_
  rintro e w1 ⟨r, rfl, hidx, b1⟩
  have HX1 := Bx.mk (HX.out.below b1 (Nat.le_refl _))
  have bb1 := b1.mono hbw
  clear b1
  rcases hidx with ⟨rfl, he⟩ | ⟨i0, rfl, hi0, hf0⟩
  · have HE := Bx.mk he
    clear he
    go_wp2_with fail
    go_ret
    rw [HE.out]
    exact ⟨rfl, HX1.out, bb1⟩
  · obtain ⟨g, rfl⟩ : ∃ g, A = some ⟨g, 0, none⟩ := by
      rcases HX1.out.2.2 with ⟨_, e⟩ | ⟨g, cur, e, _⟩
      · subst e; simp at hi0
      · exact ⟨g, e⟩
    have HD0 := Bx.mk (Del.start hi0 hf0)
    have hi01 : i0 + 1 ≤ xs.length := hi0
    have hcap := HX1.out.1
    have hm1 : ((i0 : Int) == -1) = false := by first | (simp; done) | (simp; omega)
    clear hf0 hi0
    go_wp2_with fail
    go_loopw [5, 6] (fun u v wr => ∃ (i j : Nat) (L : List Int), u = .int .i64 i ∧ v = .int .i64 j ∧ Bx (Del p xs L i j) ∧ IO wr base (some ⟨g, 0, none⟩) c L ∧ Below base w wr) (fun _ v _ => xs.length - (intOf v).toNat)
    case atStart => exact ⟨i0, i0 + 1, xs, rfl, by go_num, HD0, HX1.out, bb1⟩
    case round =>
      obtain ⟨i, j, L, rfl, rfl, HD, hL, hb⟩ := hrel
      clear HX1 bb1 HD0 hm1 hi01
      have hLn := HD.out.1
      have hij := HD.out.2.1
      have hjn := HD.out.2.2.1
      have hbB : Below B w wr := hb.mono hB
      have hgb := hL.ge _ rfl
      by_cases hlt : j < xs.length
      · obtain ⟨x, cx, Hx⟩ := hL.cellAt (k := j) (by omega)
        have H2 : Bx (xs[j]? = some x) := ⟨by rw [← HD.out.at_]; exact Hx.out⟩
        have hjl : (j : Int) < xs.length := by omega
        have HLi := Bx.mk hL
        cases hp : p x with
        | true =>
          have HD2 := Bx.mk (HD.out.miss H2.out hp)
          clear hL
          go_wp2_with fail
          refine (HC.out x (List.mem_of_getElem? H2.out) _ hbB).mono ?_
          rw [hp]
          rintro e w2 ⟨rfl, b2⟩
          have HL2 := Bx.mk (HLi.out.below b2 (Nat.le_refl _))
          have HB2 := Bx.mk (hb.trans (b2.mono (Nat.le_trans hbw hb.size)))
          clear b2 cx
          go_wp2_with fail
          go_roundw
          case rel => exact ⟨i, j + 1, L, rfl, by go_num, HD2, HL2.out, HB2.out⟩
          case measure => first | (simp [intOf]; done) | (simp [intOf]; omega)
        | false =>
          have HD2 := Bx.mk (HD.out.hit H2.out hp)
          clear hL
          go_wp2_with fail
          refine (HC.out x (List.mem_of_getElem? H2.out) _ hbB).mono ?_
          rw [hp]
          rintro e w2 ⟨rfl, b2⟩
          have hL2 := HLi.out.below b2 (Nat.le_refl _)
          have hb2 := hb.trans (b2.mono (Nat.le_trans hbw hb.size))
          obtain ⟨z, cz, _⟩ := hL2.cellAt (k := i) (by omega)
          have fz := hL2.frozenAt i
          have HL3 := Bx.mk (hL2.setAt (k := i) x (by omega))
          have HB3 := Bx.mk (hb2.setCell (p := ⟨g, i, none⟩) hgb (.int .i64 x))
          have hil : (i : Int) < xs.length := by omega
          clear b2 cx hL2 hb2
          go_wp2_with fail
          go_roundw
          case rel => exact ⟨i + 1, j + 1, L.set i x, by go_num, by go_num, HD2, HL3.out, HB3.out⟩
          case measure => first | (simp [intOf]; done) | (simp [intOf]; omega)
      · obtain ⟨hd1, hd2⟩ := HD.out.done (by omega)
        have hcl := clear_run (i := i) hL (hLn.trans rfl) (by omega)
        have hio := hL.take (n := i) (c' := c) (by omega) (Nat.le_refl _)
        rw [hd1] at hio
        have HIO := Bx.mk (io_setCells (List.replicate (xs.length - i) (.int .i64 0)) i wr hio (by omega))
        have HBB := Bx.mk (below_cells hgb (List.replicate (xs.length - i) (.int .i64 0)) i wr hb)
        have HD2 := Bx.mk hd2
        have hic : i ≤ c := by omega
        clear hd1 hd2 hL hio hb
        go_wp2_with fail
        go_ret
        rw [← HD2.out]
        exact ⟨rfl, HIO.out, HBB.out⟩

/- The prime powers: the library's DeleteFunc with the program's closure. -/
set_option maxHeartbeats 1000000 in
theorem indexDelP (p : Int → Bool) (B : Nat) (A : Option Addr) (c : Nat) (xs : List Int) (w : World) (hB : B ≤ w.heap.size) (hx : IR w A xs) (HC : Bx (∀ x ∈ xs, ∀ W, Below B w W → Calls Tryz.prog 57 #[.int .i64 x] W fun e w' => e = .returned (.bool (p x)) ∧ Below W.heap.size W w')) :
    Calls Tryz.prog 71 #[.slice A xs.length c, .func (.func 57) #[] #[]] w fun e w' => ∃ r, e = .returned (.int .i64 r) ∧ Idx p xs r ∧ Below w.heap.size w w' := by
  have hlx := hx.len
  have HX := Bx.mk hx
  clear hx
  go_enter Tryz.func71, Tryz.ntmps71
  go_wp2_with fail
  go_loopw [8] (fun i wr => ∃ k : Nat, k ≤ xs.length ∧ i = .int .i64 k ∧ Bx ((xs.take k).filter (qn p) = xs.take k) ∧ Below w.heap.size w wr) (fun i _ => xs.length - (intOf i).toNat)
  case atStart => exact ⟨0, by omega, rfl, ⟨rfl⟩, Below.refl _ _⟩
  case round =>
    obtain ⟨k, hk, rfl, HA, hb⟩ := hrel
    have hbB := hb.mono hB
    by_cases hlt : k < xs.length
    · obtain ⟨b, o, x, rfl, hbk, c1, H1⟩ := (HX.out.below hb).one hlt
      have hkl : (k : Int) < xs.length := by omega
      have H2 := Bx.mk H1.out
      clear H1
      cases hp : p x with
      | true =>
        have HI := Bx.mk (idx_hit HA.out H2.out hp)
        go_wp2_with fail
        refine (HC.out x (List.mem_of_getElem? H2.out) _ hbB).mono ?_
        rw [hp]
        rintro e w2 ⟨rfl, b2⟩
        have HB := Bx.mk (hb.trans (b2.mono hb.size))
        clear b2
        go_wp2_with fail
        go_ret
        exact ⟨_, rfl, HI.out, HB.out⟩
      | false =>
        have HI := Bx.mk (filter_take_miss HA.out H2.out hp)
        go_wp2_with fail
        refine (HC.out x (List.mem_of_getElem? H2.out) _ hbB).mono ?_
        rw [hp]
        rintro e w2 ⟨rfl, b2⟩
        have HB := Bx.mk (hb.trans (b2.mono hb.size))
        clear b2
        go_wp2_with fail
        go_roundw
        case rel => exact ⟨k + 1, by omega, by go_num, HI, HB.out⟩
        case measure => first | (simp [intOf]; done) | (simp [intOf]; omega)
    · have HI := Bx.mk (idx_no HA.out (by omega))
      go_wp2_with fail
      go_ret
      exact ⟨_, rfl, HI.out, hb⟩
set_option maxHeartbeats 1000000 in
theorem delDelP (p : Int → Bool) (B base : Nat) (A : Option Addr) (c : Nat) (xs : List Int) (w : World) (hB : B ≤ base) (hbw : base ≤ w.heap.size) (hl : xs.length ≤ 1000) (hx : IO w base A c xs) (HC : Bx (∀ x ∈ xs, ∀ W, Below B w W → Calls Tryz.prog 57 #[.int .i64 x] W fun e w' => e = .returned (.bool (p x)) ∧ Below W.heap.size W w')) :
    Calls Tryz.prog 56 #[.slice A xs.length c, .func (.func 57) #[] #[]] w fun e w' => e = .returned (.slice A (xs.filter (qn p)).length c) ∧ IO w' base A c (xs.filter (qn p)) ∧ Below base w w' := by
  have HX := Bx.mk hx
  clear hx
  go_enter Tryz.func56, Tryz.ntmps56
  go_wp2_with fail
  refine (indexDelP p B _ _ _ _ (by omega) (by exact HX.out.reads) HC).mono ?_
  rintro e w1 ⟨r, rfl, hidx, b1⟩
  have HX1 := Bx.mk (HX.out.below b1 (Nat.le_refl _))
  have bb1 := b1.mono hbw
  clear b1
  rcases hidx with ⟨rfl, he⟩ | ⟨i0, rfl, hi0, hf0⟩
  · have HE := Bx.mk he
    clear he
    go_wp2_with fail
    go_ret
    rw [HE.out]
    exact ⟨rfl, HX1.out, bb1⟩
  · obtain ⟨g, rfl⟩ : ∃ g, A = some ⟨g, 0, none⟩ := by
      rcases HX1.out.2.2 with ⟨_, e⟩ | ⟨g, cur, e, _⟩
      · subst e; simp at hi0
      · exact ⟨g, e⟩
    have HD0 := Bx.mk (Del.start hi0 hf0)
    have hi01 : i0 + 1 ≤ xs.length := hi0
    have hcap := HX1.out.1
    have hm1 : ((i0 : Int) == -1) = false := by first | (simp; done) | (simp; omega)
    clear hf0 hi0
    go_wp2_with fail
    go_loopw [5, 6] (fun u v wr => ∃ (i j : Nat) (L : List Int), u = .int .i64 i ∧ v = .int .i64 j ∧ Bx (Del p xs L i j) ∧ IO wr base (some ⟨g, 0, none⟩) c L ∧ Below base w wr) (fun _ v _ => xs.length - (intOf v).toNat)
    case atStart => exact ⟨i0, i0 + 1, xs, rfl, by go_num, HD0, HX1.out, bb1⟩
    case round =>
      obtain ⟨i, j, L, rfl, rfl, HD, hL, hb⟩ := hrel
      clear HX1 bb1 HD0 hm1 hi01
      have hLn := HD.out.1
      have hij := HD.out.2.1
      have hjn := HD.out.2.2.1
      have hbB : Below B w wr := hb.mono hB
      have hgb := hL.ge _ rfl
      by_cases hlt : j < xs.length
      · obtain ⟨x, cx, Hx⟩ := hL.cellAt (k := j) (by omega)
        have H2 : Bx (xs[j]? = some x) := ⟨by rw [← HD.out.at_]; exact Hx.out⟩
        have hjl : (j : Int) < xs.length := by omega
        have HLi := Bx.mk hL
        cases hp : p x with
        | true =>
          have HD2 := Bx.mk (HD.out.miss H2.out hp)
          clear hL
          go_wp2_with fail
          refine (HC.out x (List.mem_of_getElem? H2.out) _ hbB).mono ?_
          rw [hp]
          rintro e w2 ⟨rfl, b2⟩
          have HL2 := Bx.mk (HLi.out.below b2 (Nat.le_refl _))
          have HB2 := Bx.mk (hb.trans (b2.mono (Nat.le_trans hbw hb.size)))
          clear b2 cx
          go_wp2_with fail
          go_roundw
          case rel => exact ⟨i, j + 1, L, rfl, by go_num, HD2, HL2.out, HB2.out⟩
          case measure => first | (simp [intOf]; done) | (simp [intOf]; omega)
        | false =>
          have HD2 := Bx.mk (HD.out.hit H2.out hp)
          clear hL
          go_wp2_with fail
          refine (HC.out x (List.mem_of_getElem? H2.out) _ hbB).mono ?_
          rw [hp]
          rintro e w2 ⟨rfl, b2⟩
          have hL2 := HLi.out.below b2 (Nat.le_refl _)
          have hb2 := hb.trans (b2.mono (Nat.le_trans hbw hb.size))
          obtain ⟨z, cz, _⟩ := hL2.cellAt (k := i) (by omega)
          have fz := hL2.frozenAt i
          have HL3 := Bx.mk (hL2.setAt (k := i) x (by omega))
          have HB3 := Bx.mk (hb2.setCell (p := ⟨g, i, none⟩) hgb (.int .i64 x))
          have hil : (i : Int) < xs.length := by omega
          clear b2 cx hL2 hb2
          go_wp2_with fail
          go_roundw
          case rel => exact ⟨i + 1, j + 1, L.set i x, by go_num, by go_num, HD2, HL3.out, HB3.out⟩
          case measure => first | (simp [intOf]; done) | (simp [intOf]; omega)
      · obtain ⟨hd1, hd2⟩ := HD.out.done (by omega)
        have hcl := clear_run (i := i) hL (hLn.trans rfl) (by omega)
        have hio := hL.take (n := i) (c' := c) (by omega) (Nat.le_refl _)
        rw [hd1] at hio
        have HIO := Bx.mk (io_setCells (List.replicate (xs.length - i) (.int .i64 0)) i wr hio (by omega))
        have HBB := Bx.mk (below_cells hgb (List.replicate (xs.length - i) (.int .i64 0)) i wr hb)
        have HD2 := Bx.mk hd2
        have hic : i ≤ c := by omega
        clear hd1 hd2 hL hio hb
        go_wp2_with fail
        go_ret
        rw [← HD2.out]
        exact ⟨rfl, HIO.out, HBB.out⟩
end Go.Proofs.YtikifkbgmniobaaGreat
