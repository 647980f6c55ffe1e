/- What the law's own helpers on lists of ints do: compare, mark, hold, copy. -/
import Derived.Test.YtihbgpcmphemmaaBase
import Derived.Deep.QuietTactic
import Derived.BigQuiet
import Derived.Laws.MakeOwn
namespace Go.Proofs.Ytihbgpcmphemmaa
open Go.RowKit

theorem take_eq_of {xs ys : List Int} {k : Nat} {x y : Int} (h : xs.take k = ys.take k) (hx : xs[k]? = some x) (hy : ys[k]? = some y) (he : x = y) : xs.take (k + 1) = ys.take (k + 1) := by
  rw [List.take_add_one, List.take_add_one, h, hx, hy, he]
theorem ne_of_at {xs ys : List Int} {k : Nat} {x y : Int} (hx : xs[k]? = some x) (hy : ys[k]? = some y) (he : x ≠ y) : decide (xs = ys) = false := by
  simp; rintro rfl; rw [hx] at hy; exact he (by simpa using hy)
theorem eq_of_take {xs ys : List Int} {k : Nat} (h : xs.take k = ys.take k) (h1 : xs.length = ys.length) (hk : xs.length ≤ k) : decide (xs = ys) = true := by
  rw [List.take_of_length_le hk, List.take_of_length_le (by omega)] at h; simp [h]

set_option maxHeartbeats 400000 in
theorem eqIntS_any (A B : Option Addr) (c d : Nat) (xs ys : List Int) (w : World) (hx : IR w A xs) (hy : IR w B ys) :
    Calls Try.prog 33 #[.slice A xs.length c, .slice B ys.length d] w fun e w' => e = .returned (.bool (decide (xs = ys))) ∧ ∃ k, w' = w.drewN k := by
  have hlx := hx.len
  have hly := hy.len
  by_cases hl : xs.length = ys.length
  · have HL := Lib.hid hl
    have hlb : (((xs.length : Int) != (ys.length : Int))) = false := by simp [hl]
    have hge : ys.length ≥ xs.length := by omega
    clear hl
    go_enter Try.func33, Try.ntmps33
    go_wp2
    go_loopw [5] (fun i wr => ∃ k n : Nat, k ≤ xs.length ∧ i = .int .i64 k ∧ wr = w.drewN n ∧ xs.take k = ys.take k) (fun i _ => xs.length - (intOf i).toNat)
    case atStart => exact ⟨0, 0, by omega, rfl, rfl, rfl⟩
    case round =>
      obtain ⟨k, n, hk, rfl, rfl, ht⟩ := hrel
      have HT := Lib.hid ht
      clear ht
      by_cases hlt : k < xs.length
      · obtain ⟨b, o, x, rfl, hb, c1, H1⟩ := hx.one hlt
        obtain ⟨b', o', y, rfl, hb', c2, H2⟩ := hy.one (k := k) (by omega)
        have hkl : (k : Int) < xs.length := by omega
        have hkl' : (k : Int) < ys.length := by omega
        go_wp2
        go_quiet (fail)
        go_wp2
        · have hne : (x != y) = true := by assumption
          go_ret
          exact ⟨ret_bool (ne_of_at H1.out H2.out (by simpa using hne)).symm, ex_drewN _ _ _⟩
        · have hne : (x != y) = false := by assumption
          go_roundw
          case rel => exact ⟨k + 1, _, by omega, by go_num, rfl, take_eq_of HT.out H1.out H2.out (by simpa using hne)⟩
          case measure => simp [intOf]; omega
      · go_wp2
        go_ret
        exact ⟨ret_bool (eq_of_take HT.out HL.out (by omega)).symm, n, rfl⟩
  · have hlb : (((xs.length : Int) != (ys.length : Int))) = true := by simp; omega
    have hne : decide (xs = ys) = false := by simp; rintro rfl; exact hl rfl
    have HN := Lib.hid hne
    clear hne
    go_enter Try.func33, Try.ntmps33
    go_wp2
    go_ret
    exact ⟨ret_bool HN.out.symm, 0, rfl⟩

/-- the marks that a list of n ints is given from k on -/
def marksFrom (k : Int) : Nat → List Int
  | 0 => []
  | n + 1 => k :: marksFrom (k + 1) n
theorem marksFrom_length (n : Nat) : ∀ k, (marksFrom k n).length = n := by induction n with | zero => simp [marksFrom] | succ n ih => simp [marksFrom, ih]
theorem marksFrom_get (n : Nat) : ∀ (k : Int) (i : Nat), i < n → (marksFrom k n)[i]? = some (k + i) := by
  induction n with
  | zero => intro k i h; omega
  | succ n ih =>
    intro k i h
    cases i with
    | zero => simp [marksFrom]
    | succ i => simp only [marksFrom, List.getElem?_cons_succ]; rw [ih _ _ (by omega)]; simp; omega

set_option maxHeartbeats 400000 in
theorem heldIntS_marks (A : Option Addr) (c n : Nat) (q : Int) (w : World) (hx : IR w A (marksFrom q n)) (h0 : 0 ≤ q) (h1 : q ≤ 1000000000) :
    Calls Try.prog 35 #[.slice A n c, .int .i64 q] w fun e w' => e = .returned (.int .i64 (q + n)) ∧ ∃ k, w' = w.drewN k := by
  have hlx := hx.len
  rw [marksFrom_length] at hlx
  go_enter Try.func35, Try.ntmps35
  go_wp2
  go_loopw [1, 5] (fun p i wr => ∃ k m : Nat, k ≤ n ∧ i = .int .i64 k ∧ p = .int .i64 (q + k) ∧ wr = w.drewN m) (fun _ i _ => n - (intOf i).toNat)
  case atStart => exact ⟨0, 0, by omega, rfl, by simp, rfl⟩
  case round =>
    obtain ⟨k, m, hk, rfl, rfl, rfl⟩ := hrel
    by_cases hlt : k < n
    · obtain ⟨b, o, x, rfl, hb, c1, H1⟩ := hx.one (k := k) (by rw [marksFrom_length]; exact hlt)
      have hx1 := H1.out
      rw [marksFrom_get n q k hlt] at hx1
      injection hx1 with hx1
      subst hx1
      have hkl : (k : Int) < n := by omega
      go_wp2
      go_roundw
      case rel => exact ⟨k + 1, m, by omega, by go_num, by go_num, rfl⟩
      case measure => simp [intOf]; omega
    · go_wp2
      go_ret
      exact ⟨ret_int (by omega), m, rfl⟩

/-- where the loop that marks a row stands behind k rounds -/
def MarkAt (w wr : World) (A : Option Addr) (c n : Nat) (q : Int) (k : Nat) : Prop :=
  Only w wr A ∧ (n = 0 → wr = w) ∧ (0 < n → ∃ g cur, A = some ⟨g, 0, none⟩ ∧ Blk wr g 3 cur ∧ c ≤ cur.size ∧ n ≤ c ∧ cur.toList.take k = ints (marksFrom q k))
theorem MarkAt.start {w : World} {base c : Nat} {A : Option Addr} {xs : List Int} (q : Int) (h : IO w base A c xs) : MarkAt w w A c xs.length q 0 := by
  refine ⟨Only.refl _ _, fun _ => rfl, fun h0 => ?_⟩
  rcases h.2.2 with ⟨_, rfl⟩ | ⟨g, cur, e, hg, hh, hc, ht⟩
  · simp at h0
  · exact ⟨g, cur, e, hh, hc, h.1, rfl⟩
theorem marksFrom_succ (n : Nat) : ∀ k : Int, marksFrom k (n + 1) = marksFrom k n ++ [k + n] := by
  induction n with
  | zero => intro k; simp [marksFrom]
  | succ n ih => intro k; rw [marksFrom, ih (k + 1), marksFrom]; simp; omega
theorem MarkAt.step {w wr : World} {A : Option Addr} {c n k : Nat} {q : Int} {g : Nat} {cur : Array Value} (h : MarkAt w wr A c n q k) (hA : A = some ⟨g, 0, none⟩) (hb : Blk wr g 3 cur)
    (hc : c ≤ cur.size) (hn : n ≤ c) (ht : cur.toList.take k = ints (marksFrom q k)) (hk : k < n) : MarkAt w (wr.setCell ⟨g, k, none⟩ (.int .i64 (q + k))) A c n q (k + 1) := by
  subst hA
  refine ⟨h.1.set _, fun h0 => by omega, fun _ => ⟨g, _, rfl, hb.set _ _, by simpa using hc, hn, ?_⟩⟩
  have hkl : k < cur.toList.length := by simp; omega
  rw [marksFrom_succ, Array.toList_setIfInBounds, List.take_add_one, List.getElem?_set_self hkl, List.take_set_of_le (Nat.le_refl _), ht]
  simp [ints]
theorem MarkAt.done {w wr : World} {base c : Nat} {A : Option Addr} {xs : List Int} {q : Int} (h0 : IO w base A c xs) (h : MarkAt w wr A c xs.length q xs.length) :
    IO wr base A c (marksFrom q xs.length) ∧ Only w wr A := by
  refine ⟨⟨by rw [marksFrom_length]; exact h0.1, by rw [marksFrom_length]; exact h0.2.1, ?_⟩, h.1⟩
  by_cases hx : 0 < xs.length
  · obtain ⟨g, cur, e, hb, hc, hn, ht⟩ := h.2.2 hx
    refine .inr ⟨g, cur, e, ?_, hb, hc, by rw [marksFrom_length]; exact ht⟩
    rcases h0.2.2 with ⟨e', _⟩ | ⟨g', cur', e', hg, _⟩
    · rw [e] at e'; cases e'
    · rw [e] at e'; injection e' with e'; injection e' with e'; omega
  · have hx' : xs = [] := List.eq_nil_of_length_eq_zero (by omega)
    subst hx'
    rw [h.2.1 rfl]
    exact h0.2.2

set_option maxHeartbeats 400000 in
theorem markIntS_any (A : Option Addr) (base c : Nat) (xs : List Int) (q : Int) (w : World) (hx : IO w base A c xs) (h0 : 0 ≤ q) (h1 : q ≤ 1000000000) :
    Calls Try.prog 34 #[.slice A xs.length c, .int .i64 q] w fun e w' => e = .returned (.int .i64 (q + xs.length)) ∧ IO w' base A c (marksFrom q xs.length) ∧ Only w w' A := by
  have hlx := hx.reads.len
  go_enter Try.func34, Try.ntmps34
  go_wp2
  go_loopw [1, 5] (fun p i wr => ∃ k : Nat, k ≤ xs.length ∧ i = .int .i64 k ∧ p = .int .i64 (q + k) ∧ MarkAt w wr A c xs.length q k) (fun _ i _ => xs.length - (intOf i).toNat)
  case atStart => exact ⟨0, by omega, rfl, by simp, MarkAt.start q hx⟩
  case round =>
    obtain ⟨k, hk, rfl, rfl, hm⟩ := hrel
    by_cases hlt : k < xs.length
    · obtain ⟨g, cur, hA, hb, hc, hn, ht⟩ := hm.2.2 (by omega)
      have hm1 := hm.step hA hb hc hn ht hlt
      have hkc : k < cur.size := by omega
      have c1 : wr.cell? ⟨g, k, none⟩ = some cur[k] := by rw [hb.cell]; simp [hkc]
      have f1 := hb.frozen k
      have HM := Lib.hid hm1
      subst hA
      clear hm hm1 ht hb
      have hkl : (k : Int) < xs.length := by omega
      go_wp2
      go_roundw
      case rel => exact ⟨k + 1, by omega, by go_num, by go_num, HM.out⟩
      case measure => simp [intOf]; omega
    · go_wp2
      go_ret
      have : k = xs.length := by omega
      subst this
      exact ⟨rfl, MarkAt.done hx hm⟩

/-- where the loop that copies a list stands behind k rounds -/
def CopyAt (w wr : World) (g : Nat) (xs : List Int) (k : Nat) : Prop :=
  Below w.heap.size w wr ∧ w.heap.size ≤ g ∧ ∃ cur, Blk wr g 3 cur ∧ cur.size = xs.length ∧ cur.toList.take k = ints (xs.take k)
theorem CopyAt.step {w wr : World} {g k : Nat} {xs : List Int} {x : Int} (h : CopyAt w wr g xs k) (hk : k < xs.length) (hx : xs[k]? = some x) : CopyAt w (wr.setCell ⟨g, k, none⟩ (.int .i64 x)) g xs (k + 1) := by
  obtain ⟨hb, hg, cur, hB, hs, ht⟩ := h
  refine ⟨hb.setCell hg _, hg, _, hB.set _ _, by simpa using hs, ?_⟩
  have hkl : k < cur.toList.length := by simp; omega
  rw [Array.toList_setIfInBounds, List.take_add_one, List.getElem?_set_self hkl, List.take_set_of_le (Nat.le_refl _), ht, List.take_add_one, hx]
  simp [ints]
theorem CopyAt.done {w wr : World} {g : Nat} {xs : List Int} (hl : xs.length ≤ 17592186044415) (h : CopyAt w wr g xs xs.length) : IO wr w.heap.size (some ⟨g, 0, none⟩) xs.length xs ∧ Below w.heap.size w wr := by
  obtain ⟨hb, hg, cur, hB, hs, ht⟩ := h
  exact ⟨⟨Nat.le_refl _, hl, .inr ⟨g, cur, rfl, hg, hB, by omega, by simpa using ht⟩⟩, hb⟩
theorem CopyAt.start {w : World} {xs : List Int} : CopyAt w (w.alloc (.cells (madeCells #[.int .i64 0] xs.length) 3)) w.heap.size xs 0 :=
  ⟨(Below.refl _ _).alloc (Nat.le_refl _) _, Nat.le_refl _, _, Blk.new _ _ _, made_size _, rfl⟩

set_option maxHeartbeats 400000 in
theorem toIntS_any (A : Option Addr) (c : Nat) (xs : List Int) (w : World) (hx : IR w A xs) :
    Calls Try.prog 55 #[.slice A xs.length c] w fun e w' => ∃ A' c', e = .returned (.slice A' xs.length c') ∧ IO w' w.heap.size A' c' xs ∧ Below w.heap.size w w' := by
  have hlx := hx.len
  have hmk := make_ints xs.length hlx
  go_enter Try.func55, Try.ntmps55
  go_wp2
  go_loopw [4] (fun i wr => ∃ k : Nat, k ≤ xs.length ∧ i = .int .i64 k ∧ CopyAt w wr w.heap.size xs k) (fun i _ => xs.length - (intOf i).toNat)
  case atStart => exact ⟨0, by omega, rfl, CopyAt.start⟩
  case round =>
    obtain ⟨k, hk, rfl, hm⟩ := hrel
    by_cases hlt : k < xs.length
    · obtain ⟨b, o, x, rfl, hb0, c0, H0⟩ := hx.one hlt
      have hm1 := Lib.hid (hm.step hlt H0.out)
      obtain ⟨hb, hg, cur, hB, hs, ht⟩ := hm
      have hkc : k < cur.size := by omega
      have c1 : wr.cell? ⟨w.heap.size, k, none⟩ = some cur[k] := by rw [hB.cell]; simp [hkc]
      have f1 := hB.frozen k
      have c2 : wr.cell? ⟨b, o + k, none⟩ = some (.int .i64 x) := ((bcell hb).1 _ _ hb0).trans c0
      clear hb hg hB hs ht c0
      have hkl : (k : Int) < xs.length := by omega
      go_wp2
      go_roundw
      case rel => exact ⟨k + 1, by omega, by go_num, hm1.out⟩
      case measure => simp [intOf]; omega
    · go_wp2
      go_ret
      have : k = xs.length := by omega
      subst this
      exact ⟨_, _, rfl, hm.done hlx⟩

theorem eqIntS_b (A B : Option Addr) (c d : Nat) (xs ys : List Int) (w : World) (hx : IR w A xs) (hy : IR w B ys) :
    Calls Try.prog 33 #[.slice A xs.length c, .slice B ys.length d] w fun e w' => e = .returned (.bool (decide (xs = ys))) ∧ Below w.heap.size w w' :=
  (eqIntS_any A B c d xs ys w hx hy).mono fun e w' ⟨he, k, hk⟩ => ⟨he, by rw [hk]; exact bdrewN_refl _ _⟩
theorem heldIntS_b (A : Option Addr) (c n : Nat) (q : Int) (w : World) (hx : IR w A (marksFrom q n)) (h0 : 0 ≤ q) (h1 : q ≤ 1000000000) :
    Calls Try.prog 35 #[.slice A n c, .int .i64 q] w fun e w' => e = .returned (.int .i64 (q + n)) ∧ Below w.heap.size w w' :=
  (heldIntS_marks A c n q w hx h0 h1).mono fun e w' ⟨he, k, hk⟩ => ⟨he, by rw [hk]; exact bdrewN_refl _ _⟩
end Go.Proofs.Ytihbgpcmphemmaa
