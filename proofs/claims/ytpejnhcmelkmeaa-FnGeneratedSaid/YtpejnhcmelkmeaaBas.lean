/- Words that many parts of the proof share. -/
import Derived.Test.YtpejnhcmelkmeaaRows
import Derived.WalkKit
import Derived.WalkSpells
import Derived.WalkLawsBesides
import Derived.Lib.Hide
import Derived.Deep.Draws
import Derived.Laws.OwnMore
import Derived.WalkSmall
import Derived.Laws.MakeOwn
import Derived.Deep.QuietTactic
import Derived.BigQuiet
import Derived.Deep.AppendLies
import Derived.Laws.BitsAllLaws
import Derived.Laws.BitsLemmas
import Derived.Deep.RegionHeld3
import Derived.Deep.DeepCutAuto
namespace Go.Proofs.Ytpejnhcmelkmeaa
open Go.RowKit

/- Plain words for memory: what it says that a slice reads as a list of ints, that the call owns a row of ints, and how both are kept. -/

/-- a fact that the walk cannot look into -/
structure Bx (p : Prop) : Prop where
  out : p

theorem ret_int {k : IntKind} {a b : Int} (h : a = b) : Ending.returned (.int k a) = .returned (.int k b) := by rw [h]
theorem ret_bool {a b : Bool} (h : a = b) : Ending.returned (.bool a) = .returned (.bool b) := by rw [h]

theorem info_int : (Try.prog.info? 3).map (fun i => (i.zero, i.size, i.bytes)) = some (some (.int .i64 0), 1, 8) := by kernel_rfl

/-- what go_simp wants of a world that is as it was below a block -/
theorem bcell {B : Nat} {W w1 : World} (hb : Below B W w1) : (∀ b o, b < B → w1.cell? ⟨b, o, none⟩ = W.cell? ⟨b, o, none⟩) ∧ (∀ b o, b < B → w1.frozen? ⟨b, o, none⟩ = W.frozen? ⟨b, o, none⟩) :=
  ⟨fun b o h => hb.cell (p := ⟨b, o, none⟩) h, fun b o h => hb.frozen (p := ⟨b, o, none⟩) h⟩

theorem bdrewN {B : Nat} {a w : World} (h : Below B a w) (n : Nat) : Below B a (w.drewN n) := ⟨h.os, h.tape, h.output, h.size, h.block⟩
theorem bdrewN_refl {B : Nat} (a : World) (n : Nat) : Below B a (a.drewN n) := bdrewN (Below.refl _ _) n

def ints (xs : List Int) : List Value := xs.map (.int .i64)
theorem ints_length (xs : List Int) : (ints xs).length = xs.length := by simp [ints]
theorem ints_get {xs : List Int} {k : Nat} (h : k < xs.length) : (ints xs)[k]? = some (.int .i64 (xs[k]?.getD 0)) := by
  simp [ints, h]

/-- the ints of a list fit a machine int -/
def Fits (xs : List Int) : Prop := ∀ x ∈ xs, -9223372036854775808 ≤ x ∧ x ≤ 9223372036854775807
theorem Fits.at_ {xs : List Int} (h : Fits xs) {k : Nat} (hk : k < xs.length) : -9223372036854775808 ≤ xs[k]?.getD 0 ∧ xs[k]?.getD 0 ≤ 9223372036854775807 := by
  rw [List.getElem?_eq_getElem hk]; exact h _ (List.getElem_mem hk)

/-- the slice value with the address A and the length of xs reads as xs -/
def IR (w : World) (A : Option Addr) (xs : List Int) : Prop :=
  xs.length ≤ 17592186044415 ∧ (0 < xs.length → ∃ b o, A = some ⟨b, o, none⟩ ∧ b < w.heap.size ∧ ∀ k, k < xs.length → w.cell? ⟨b, o + k, none⟩ = some (.int .i64 (xs[k]?.getD 0)))

theorem IR.nil (w : World) (A : Option Addr) : IR w A [] := ⟨by simp, fun h => absurd h (by simp)⟩
theorem IR.len {w : World} {A : Option Addr} {xs : List Int} (h : IR w A xs) : xs.length ≤ 17592186044415 := h.1
theorem IR.at_ {w : World} {A : Option Addr} {xs : List Int} (h : IR w A xs) (h0 : 0 < xs.length) :
    ∃ b o, A = some ⟨b, o, none⟩ ∧ b < w.heap.size ∧ ∀ k, k < xs.length → w.cell? ⟨b, o + k, none⟩ = some (.int .i64 (xs[k]?.getD 0)) := h.2 h0
theorem IR.one {w : World} {A : Option Addr} {xs : List Int} (h : IR w A xs) {k : Nat} (hk : k < xs.length) :
    ∃ b o x, A = some ⟨b, o, none⟩ ∧ b < w.heap.size ∧ w.cell? ⟨b, o + k, none⟩ = some (.int .i64 x) ∧ Hid (xs[k]? = some x) := by
  obtain ⟨b, o, e, hb, hc⟩ := h.2 (by omega)
  exact ⟨b, o, xs[k]?.getD 0, e, hb, hc k hk, by simp [Hid, hk]⟩
theorem IR.below {w w' : World} {A : Option Addr} {xs : List Int} (h : IR w A xs) (hb : Below w.heap.size w w') : IR w' A xs :=
  ⟨h.1, fun h0 => by
    obtain ⟨b, o, e, hlt, hc⟩ := h.2 h0
    exact ⟨b, o, e, Nat.lt_of_lt_of_le hlt hb.size, fun k hk => ((bcell hb).1 b _ hlt).trans (hc k hk)⟩⟩
theorem IR.drewN {w : World} {A : Option Addr} {xs : List Int} (h : IR w A xs) (n : Nat) : IR (w.drewN n) A xs := h
theorem IR.alloc {w : World} {A : Option Addr} {xs : List Int} (h : IR w A xs) (o : Obj) : IR (w.alloc o) A xs := h.below ((Below.refl _ _).alloc (Nat.le_refl _) o)
theorem IR.below' {w w' : World} {A : Option Addr} {xs : List Int} {B : Nat} (h : IR w A xs) (hb : Below B w w') (hB : w.heap.size ≤ B) : IR w' A xs := h.below (hb.mono hB)

/-- the call owns the row: nil, or the head of a block of its own from 'base' on whose first cells are xs -/
def IO (w : World) (base : Nat) (A : Option Addr) (c : Nat) (xs : List Int) : Prop :=
  xs.length ≤ c ∧ xs.length ≤ 17592186044415 ∧ ((A = none ∧ xs = []) ∨ ∃ g cur, A = some ⟨g, 0, none⟩ ∧ base ≤ g ∧ w.heap[g]? = some (.cells cur 3 (0, 0)) ∧ c ≤ cur.size ∧ cur.toList.take xs.length = ints xs)

theorem heap_lt {w : World} {g : Nat} {x : Obj} (h : w.heap[g]? = some x) : g < w.heap.size := (Array.getElem?_eq_some_iff.1 h).1

theorem IO.reads {w : World} {base c : Nat} {A : Option Addr} {xs : List Int} (h : IO w base A c xs) : IR w A xs := by
  refine ⟨h.2.1, fun h0 => ?_⟩
  rcases h.2.2 with ⟨_, rfl⟩ | ⟨g, cur, e, _, hh, hc, ht⟩
  · simp at h0
  · refine ⟨g, 0, e, heap_lt hh, fun k hk => ?_⟩
    rw [Nat.zero_add, cell_of_row w g k cur _ (0, 0) hh]
    have := congrArg (fun l => l[k]?) ht
    simp only [List.getElem?_take, if_pos hk] at this
    rw [ints_get hk] at this
    simpa using this
theorem IO.below {w w' : World} {base c B : Nat} {A : Option Addr} {xs : List Int} (h : IO w base A c xs) (hb : Below B w w') (hB : w.heap.size ≤ B) : IO w' base A c xs := by
  refine ⟨h.1, h.2.1, ?_⟩
  rcases h.2.2 with h' | ⟨g, cur, e, hg, hh, r⟩
  · exact .inl h'
  · exact .inr ⟨g, cur, e, hg, (hb.block g (Nat.lt_of_lt_of_le (heap_lt hh) hB)).trans hh, r⟩
theorem IO.mono {w : World} {base base' c : Nat} {A : Option Addr} {xs : List Int} (h : IO w base A c xs) (hb : base' ≤ base) : IO w base' A c xs := by
  refine ⟨h.1, h.2.1, ?_⟩
  rcases h.2.2 with h' | ⟨g, cur, e, hg, hh, r⟩
  · exact .inl h'
  · exact .inr ⟨g, cur, e, Nat.le_trans hb hg, hh, r⟩
theorem IO.nil (w : World) (base : Nat) : IO w base none 0 [] := ⟨by simp, by simp, .inl ⟨rfl, rfl⟩⟩
/-- out of the library's own word -/
theorem IO.of_row {w : World} {base : Nat} {v : Value} {xs : List Int} (h : w.ownsRow base 3 1 v xs.length (ints xs)) (hl : xs.length ≤ 17592186044415) : ∃ A c, v = .slice A xs.length c ∧ IO w base A c xs := by
  rcases h.2 with ⟨rfl, h0⟩ | ⟨g, cap, cur, rfl, hg, hh, hn, _, hs, ht⟩
  · have : xs = [] := List.eq_nil_of_length_eq_zero h0
    subst this
    exact ⟨none, 0, rfl, IO.nil w base⟩
  · exact ⟨_, cap, rfl, hn, hl, .inr ⟨g, cur, rfl, hg, hh, by omega, by simpa using ht⟩⟩

/-- of what was there only the block that A points into has turned -/
def Only (w w' : World) (A : Option Addr) : Prop := w.grownBy w' (A.map (·.block))
theorem Only.refl (w : World) (A : Option Addr) : Only w w A := ⟨rfl, rfl, rfl, Nat.le_refl _, fun _ _ _ => rfl⟩
theorem Only.trans {a b c : World} {A : Option Addr} (h : Only a b A) (k : Only b c A) : Only a c A :=
  ⟨k.os.trans h.os, k.tape.trans h.tape, k.output.trans h.output, Nat.le_trans h.size k.size, fun i hi hn => (k.block i (Nat.lt_of_lt_of_le hi h.size) hn).trans (h.block i hi hn)⟩
theorem Only.drewN {a b : World} {A : Option Addr} (h : Only a b A) (n : Nat) : Only a (b.drewN n) A := ⟨h.os, h.tape, h.output, h.size, h.block⟩
theorem Only.alloc {a b : World} {A : Option Addr} (h : Only a b A) (o : Obj) : Only a (b.alloc o) A :=
  ⟨h.os, h.tape, h.output, Nat.le_trans h.size (by simp), fun i hi hne => (Below.heap_alloc b o i (Nat.lt_of_lt_of_le hi h.size)).trans (h.block i hi hne)⟩
theorem Only.below {a b : World} {A : Option Addr} (h : Only a b A) {B : Nat} (hB : B ≤ a.heap.size) (hA : ∀ x, A = some x → B ≤ x.block) : Below B a b :=
  ⟨h.os, h.tape, h.output, h.size, fun k hk => h.block k (by omega) (fun e => by
    cases A with
    | none => cases e
    | some x => have := hA x rfl; injection e with e; simp at e; omega)⟩
theorem Only.of_below {a b : World} (A : Option Addr) (h : Below a.heap.size a b) : Only a b A := ⟨h.os, h.tape, h.output, h.size, fun i hi _ => h.block i hi⟩
theorem Only.set {a b : World} {g i : Nat} (h : Only a b (some ⟨g, 0, none⟩)) (v : Value) : Only a (b.setCell ⟨g, i, none⟩ v) (some ⟨g, 0, none⟩) :=
  ⟨h.os, h.tape, h.output, by simpa [World.setCell] using h.size, fun k hk hne => (Below.heap_setCell b ⟨g, i, none⟩ v k (by rintro rfl; exact hne rfl)).trans (h.block k hk hne)⟩

theorem IR.only {w w' : World} {A B : Option Addr} {xs : List Int} (h : IR w A xs) (ho : Only w w' B) (hne : ∀ a b, A = some a → B = some b → a.block ≠ b.block) : IR w' A xs :=
  ⟨h.1, fun h0 => by
    obtain ⟨b, o, e, hlt, hc⟩ := h.2 h0
    refine ⟨b, o, e, Nat.lt_of_lt_of_le hlt ho.size, fun k hk => ?_⟩
    rw [← hc k hk]
    refine World.cell?_of_block (w := w) (ho.block b hlt ?_)
    intro e'
    cases B with
    | none => cases e'
    | some x => injection e' with e'; exact hne _ _ e rfl e'⟩
theorem IO.only {w w' : World} {base c : Nat} {A B : Option Addr} {xs : List Int} (h : IO w base A c xs) (ho : Only w w' B) (hne : ∀ a b, A = some a → B = some b → a.block ≠ b.block) : IO w' base A c xs := by
  refine ⟨h.1, h.2.1, ?_⟩
  rcases h.2.2 with h' | ⟨g, cur, e, hg, hh, r⟩
  · exact .inl h'
  · refine .inr ⟨g, cur, e, hg, (ho.block g (heap_lt hh) ?_).trans hh, r⟩
    intro e'
    cases B with
    | none => cases e'
    | some x => injection e' with e'; exact hne _ _ e rfl e'

/-- a block that is known whole -/
def Blk (w : World) (g : Nat) (t : TypeId) (cs : Array Value) : Prop := w.heap[g]? = some (.cells cs t (0, 0))
theorem Blk.lt {w : World} {g : Nat} {t : TypeId} {cs : Array Value} (h : Blk w g t cs) : g < w.heap.size := heap_lt h
theorem Blk.cell {w : World} {g : Nat} {t : TypeId} {cs : Array Value} (h : Blk w g t cs) (i : Nat) : w.cell? ⟨g, i, none⟩ = cs[i]? := cell_of_row w g i cs t (0, 0) h
theorem Blk.frozen {w : World} {g : Nat} {t : TypeId} {cs : Array Value} (h : Blk w g t cs) (i : Nat) : w.frozen? ⟨g, i, none⟩ = false := by
  unfold Blk at h; simp [World.frozen?, h]
theorem Blk.set {w : World} {g : Nat} {t : TypeId} {cs : Array Value} (h : Blk w g t cs) (i : Nat) (u : Value) : Blk (w.setCell ⟨g, i, none⟩ u) g t (cs.setIfInBounds i u) := by
  unfold Blk at h ⊢; simp [World.setCell, Array.getElem?_modify, h]
theorem Blk.below {w w' : World} {g B : Nat} {t : TypeId} {cs : Array Value} (h : Blk w g t cs) (hb : Below B w w') (hg : g < B) : Blk w' g t cs := (hb.block g hg).trans h
theorem Blk.new (w : World) (t : TypeId) (cs : Array Value) : Blk (w.alloc (.cells cs t)) w.heap.size t cs := heap_alloc_new w _
theorem Blk.drewN {w : World} {g : Nat} {t : TypeId} {cs : Array Value} (h : Blk w g t cs) (n : Nat) : Blk (w.drewN n) g t cs := h
theorem Blk.alloc {w : World} {g : Nat} {t : TypeId} {cs : Array Value} (h : Blk w g t cs) (o : Obj) : Blk (w.alloc o) g t cs := (Below.heap_alloc w o g h.lt).trans h

/-- make([]int, n) -/
theorem make_ints (n : Nat) (hn : n ≤ 17592186044415) (W : World) : (Instr.makeSlice 24 (.int .i64 (n : Int)) (.int .i64 (n : Int))).run Try.prog W =
    .ok (.slice (some ⟨W.heap.size, 0, none⟩) n n) (W.alloc (.cells (madeCells #[.int .i64 0] n) 3)) := by
  obtain ⟨i0, hi0, hz0, hz1, hz2⟩ := info_parts info_int
  have h := run_make (P := Try.prog) W 24 3 i0 _ Try.underlying24 hi0 hz0 .i64 .i64 n n (by omega) (by omega) (by rw [hz2]; omega) (by omega)
  rw [hz1] at h
  simpa [Value.cells] using h
theorem made_size (n : Nat) : (madeCells #[.int .i64 0] n).size = n := size_madeCells _ _
theorem made_zero (n : Nat) : madeCells #[.int .i64 0] n = (List.replicate n (Value.int .i64 0)).toArray := by
  apply Array.ext
  · simp [madeCells]
  · intro i h1 h2
    simp [madeCells]
    rw [Nat.mod_one]
    rfl
theorem IO.setLow {w : World} {base c : Nat} {A : Option Addr} {xs : List Int} (h : IO w base A c xs) {p : Addr} (hp : p.block < base) (u : Value) : IO (w.setCell p u) base A c xs := by
  refine ⟨h.1, h.2.1, ?_⟩
  rcases h.2.2 with h' | ⟨g, cur, e, hg, hh, r⟩
  · exact .inl h'
  · exact .inr ⟨g, cur, e, hg, (Below.heap_setCell w p u g (by omega)).trans hh, r⟩
theorem IR.setHigh {w : World} {A : Option Addr} {xs : List Int} {B : Nat} (h : IR w A xs) (hA : ∀ x, A = some x → x.block < B) {p : Addr} (hp : B ≤ p.block) (u : Value) : IR (w.setCell p u) A xs := by
  refine ⟨h.1, fun h0 => ?_⟩
  obtain ⟨b, o, e, hlt, hc⟩ := h.2 h0
  have hb := hA _ e
  simp at hb
  refine ⟨b, o, e, by simpa [World.setCell] using hlt, fun k hk => ?_⟩
  rw [← hc k hk]
  exact World.cell?_setCell_other _ _ _ _ (by intro e'; rw [e'] at hp; simp at hp; omega)
theorem drewN2 (w : World) (a b : Nat) : (w.drewN a).drewN b = w.drewN (a + b) := World.drewN_drewN _ _ _
theorem ex_drewN (w : World) (a b : Nat) : ∃ k, (w.drewN a).drewN b = w.drewN k := ⟨a + b, drewN2 _ _ _⟩

/- Words for bounds and for the greatest common divisor. -/
def inB (n lo hi : Int) : Bool := decide (lo ≤ n ∧ n ≤ hi)
theorem inB_yes {n lo hi : Int} (h : lo ≤ n ∧ n ≤ hi) : inB n lo hi = true := decide_eq_true h
theorem inB_no {n lo hi : Int} (h : ¬ (lo ≤ n ∧ n ≤ hi)) : inB n lo hi = false := decide_eq_false h
theorem inB_iff {n lo hi : Int} : inB n lo hi = true ↔ lo ≤ n ∧ n ≤ hi := decide_eq_true_iff

/-- the greatest common divisor, as an int -/
def gcdI (a b : Int) : Int := (Int.gcd a b : Nat)
theorem gcdI_step (a b : Int) (ha : 0 ≤ a) (hb : 0 < b) : gcdI b (a % b) = gcdI a b := by
  obtain ⟨x, rfl⟩ := Int.eq_ofNat_of_zero_le ha
  obtain ⟨y, rfl⟩ := Int.eq_ofNat_of_zero_le (Int.le_of_lt hb)
  unfold gcdI
  rw [← Int.natCast_emod, Int.gcd_natCast_natCast, Int.gcd_natCast_natCast, Nat.gcd_comm y, ← Nat.gcd_rec y x, Nat.gcd_comm]
theorem gcdI_zero (a : Int) (ha : 0 ≤ a) : gcdI a 0 = a := by
  unfold gcdI; simp; omega
theorem gcdI_bd (a b : Int) (hb : 0 < b) : 0 ≤ gcdI a b ∧ gcdI a b ≤ b ∧ 1 ≤ gcdI a b := by
  unfold gcdI
  have h1 : 0 < Int.gcd a b := Int.gcd_pos_of_ne_zero_right _ (by omega)
  have h2 : ((Int.gcd a b : Nat) : Int) ≤ b := Int.le_of_dvd hb (Int.gcd_dvd_right _ _)
  omega
theorem gcdI_bdl (a b : Int) (ha : 0 < a) : 0 ≤ gcdI a b ∧ gcdI a b ≤ a ∧ 1 ≤ gcdI a b := by
  unfold gcdI
  have h1 : 0 < Int.gcd a b := Int.gcd_pos_of_ne_zero_left _ (by omega)
  have h2 : ((Int.gcd a b : Nat) : Int) ≤ a := Int.le_of_dvd ha (Int.gcd_dvd_left _ _)
  omega

/- Small words for quiet regions. -/
theorem q_same {P : Program} {f : FuncId} {args : Array Value} {w : World} {n : Nat} {v : Value}
    (h : Calls P f args (w.drewN n) fun e w' => e = .returned v ∧ w.drewN n = w') : Calls P f args (w.drewN n) fun e w'' => e = .returned v ∧ ∃ m, w'' = w.drewN m :=
  h.mono fun _ _ ⟨he, hm⟩ => ⟨he, n, hm.symm⟩
theorem q_draw {P : Program} {f : FuncId} {args : Array Value} {w : World} {n : Nat} {v : Value}
    (h : Calls P f args (w.drewN n) fun e w' => e = .returned v ∧ ∃ m, w' = (w.drewN n).drewN m) : Calls P f args (w.drewN n) fun e w'' => e = .returned v ∧ ∃ m, w'' = w.drewN m :=
  h.mono fun _ _ ⟨he, m, hm⟩ => ⟨he, n + m, by rw [hm, World.drewN_drewN]⟩
theorem below_alloc_drewN (w : World) (o : Obj) (n : Nat) : Below w.heap.size w ((w.alloc o).drewN n) := bdrewN ((Below.refl _ _).alloc (Nat.le_refl _) o) n
theorem below_alloc (w : World) (o : Obj) : Below w.heap.size w (w.alloc o) := (Below.refl _ _).alloc (Nat.le_refl _) o
theorem q_add {P : Program} {f : FuncId} {args : Array Value} {w : World} {a n : Nat} {v : Value}
    (h : Calls P f args (w.drewN (a + n)) fun e w' => e = .returned v ∧ w.drewN (a + n) = w') : Calls P f args (w.drewN (a + n)) fun e w'' => e = .returned v ∧ ∃ m, w'' = w.drewN (a + m) :=
  h.mono fun _ _ ⟨he, hm⟩ => ⟨he, n, hm.symm⟩

/- The program's test whether a number lies in a range. -/
set_option maxHeartbeats 400000 in
theorem within_any (n lo hi : Int) (w : World) :
    Calls Try.prog 25 #[.int .i64 n, .int .i64 lo, .int .i64 hi] w fun e w' => e = .returned (.bool (inB n lo hi)) ∧ w = w' := by
  by_cases h1 : lo ≤ n <;> by_cases h2 : n ≤ hi
  all_goals
    go_enter Try.func25, Try.ntmps25
    go_wp2
    go_ret
    exact ⟨ret_bool (by simp [inB, *]), rfl⟩

/- The reference's test whether a number lies in a range. -/
set_option maxHeartbeats 400000 in
theorem l01In_any (n lo hi : Int) (w : World) :
    Calls Try.prog 29 #[.int .i64 n, .int .i64 lo, .int .i64 hi] w fun e w' => e = .returned (.bool (inB n lo hi)) ∧ w = w' := by
  by_cases h1 : lo ≤ n <;> by_cases h2 : n ≤ hi
  all_goals
    go_enter Try.func29, Try.ntmps29
    go_wp2
    go_ret
    exact ⟨ret_bool (by simp [inB, *]), rfl⟩

/- append of one int to a row of the call's own, as one law. -/
def Row (w : World) (base : Nat) (v : Value) (xs : List Int) : Prop := w.ownsRow base 3 1 v xs.length (ints xs)
theorem Row.nil (w : World) (base : Nat) : Row w base (.slice none 0 0) [] := World.ownsRow_nil w base _ _
theorem Row.drewN {w : World} {base : Nat} {v : Value} {xs : List Int} (h : Row w base v xs) (n : Nat) : Row (w.drewN n) base v xs := h
theorem Row.alloc {w : World} {base : Nat} {v : Value} {xs : List Int} (h : Row w base v xs) (o : Obj) : Row (w.alloc o) base v xs := World.ownsRow.alloc h o
theorem Row.below {w w' : World} {base B : Nat} {v : Value} {xs : List Int} (h : Row w base v xs) (hb : Below B w w') (hB : w.heap.size ≤ B) : Row w' base v xs := by
  refine ⟨h.1, ?_⟩
  rcases h.2 with h' | ⟨g, cap, cur, e, hg, hh, r⟩
  · exact .inl h'
  · exact .inr ⟨g, cap, cur, e, hg, (hb.block g (Nat.lt_of_lt_of_le (heap_lt hh) hB)).trans hh, r⟩
theorem Row.io {w : World} {base : Nat} {v : Value} {xs : List Int} (h : Row w base v xs) (hl : xs.length ≤ 17592186044415) : ∃ A c, v = .slice A xs.length c ∧ IO w base A c xs := IO.of_row h hl

theorem Row.slice {w : World} {base : Nat} {v : Value} {xs : List Int} (h : Row w base v xs) : ∃ A c, v = .slice A xs.length c := by
  rcases h.2 with ⟨e, hn⟩ | ⟨g, cap, cur, e, _⟩
  · exact ⟨none, 0, by rw [e, hn]⟩
  · exact ⟨_, _, e⟩
theorem below_of_row {w w' : World} {base : Nat} {v : Value} {xs : List Int} (h : Row w base v xs) (o : Obj) (hg : (w.alloc o).grownBy w' v.ownBlock) (hbase : base ≤ w.heap.size) : Below base w w' := by
  have hb : Below base w (w.alloc o) := (Below.refl _ _).alloc hbase o
  refine hb.grown hg (by simp; omega) ?_
  intro k hk
  rcases h.2 with ⟨e, _⟩ | ⟨g, cap, cur, e, hg', _⟩
  · rw [e] at hk; simp [Value.ownBlock] at hk
  · rw [e] at hk; simp [Value.ownBlock] at hk; omega
theorem wpList_app1 {ops : Array Oper} {rest : List Oper} {o : Oper} {a : Act} {Q : Exit → Act → World → Prop} {w : World} (hgd : o.guard = none) (s x : Operand)
    (ho : o.op = .call { callee := .builtin .append, args := #[s, x], argTypes := #[24, 24] })
    (base : Nat) (v : Value) (xs : List Int) (z : Int) (hs : a.eval s = v) (hx : a.eval x = .slice (some ⟨w.heap.size, 0, none⟩) 1 1) (hown : Row w base v xs) (hl : xs.length ≤ 1000000000) (hbase : base ≤ w.heap.size)
    (h : ∀ v' w', Row w' base v' (xs ++ [z]) → Below base w w' → wpList Try.prog ops Q rest (a.put o.dst v') w') :
    wpList Try.prog ops Q (o :: rest) a (w.alloc (.cells #[.int .i64 z] 3)) := by
  obtain ⟨i0, hi0, hz0, hz1, hz2⟩ := info_parts info_int
  refine wpList_append_own _ hgd s x 24 ho base 3 i0 (.int .i64 0) 1 8 Try.underlying24 hi0 hz0 hz1 hz2 rfl (by decide) v xs.length (ints xs) hs (World.ownsRow.alloc hown _)
    ⟨w.heap.size, 0, none⟩ 1 1 [.int .i64 z] hx rfl ?_ ?_ (by unfold maxLen; omega) (by omega) (by simp; omega) ?_
  · exact cell_one_new _ _ _
  · intro u hu; simp at hu; subst hu; rfl
  · intro v' w' h1 h2 _
    refine h v' w' ?_ (below_of_row hown _ h2 hbase)
    unfold Row
    rw [List.length_append, show ints (xs ++ [z]) = ints xs ++ [.int .i64 z] by simp [ints]]
    exact h1

theorem Row.empty (w : World) (base : Nat) (hb : base ≤ w.heap.size) : Row (w.alloc (.cells #[] 3)) base (.slice (some ⟨w.heap.size, 0, none⟩) 0 0) [] :=
  ⟨by simp [ints], .inr ⟨w.heap.size, 0, #[], rfl, hb, heap_alloc_new w _, Nat.le_refl _, by unfold maxLen; omega, rfl, rfl⟩⟩
/-- what a function that makes a list of ints hands back -/
def GivesInts (w : World) (xs : List Int) (e : Ending) (w' : World) : Prop := ∃ A c, e = .returned (.slice A xs.length c) ∧ IO w' w.heap.size A c xs ∧ Below w.heap.size w w'
theorem GivesInts.of_row {w w' : World} {v : Value} {xs : List Int} (h : Row w' w.heap.size v xs) (hl : xs.length ≤ 17592186044415) (hb : Below w.heap.size w w') : GivesInts w xs (.returned v) w' := by
  obtain ⟨A, c, rfl, hio⟩ := h.io hl
  exact ⟨A, c, rfl, hio, hb⟩
theorem IO.ge {w : World} {base c : Nat} {A : Option Addr} {xs : List Int} (h : IO w base A c xs) : ∀ x, A = some x → base ≤ x.block := by
  intro x hx
  rcases h.2.2 with ⟨rfl, _⟩ | ⟨g, cur, e, hg, _⟩
  · cases hx
  · rw [e] at hx; injection hx with hx; rw [← hx]; exact hg

/-- the block g is just the list xs -/
def Holds (w : World) (g : Nat) (xs : List Int) : Prop := Blk w g 3 (ints xs).toArray
theorem Holds.cell {w : World} {g k : Nat} {xs : List Int} (h : Holds w g xs) (hk : k < xs.length) : ∃ x, w.cell? ⟨g, k, none⟩ = some (.int .i64 x) ∧ Bx (xs[k]? = some x) := by
  refine ⟨xs[k], ?_, ⟨List.getElem?_eq_getElem hk⟩⟩
  rw [Blk.cell h]
  simp [ints, hk]
theorem Holds.frozen {w : World} {g : Nat} {xs : List Int} (h : Holds w g xs) (k : Nat) : w.frozen? ⟨g, k, none⟩ = false := Blk.frozen h k
theorem Holds.set {w : World} {g : Nat} {xs : List Int} (h : Holds w g xs) (k : Nat) (x : Int) : Holds (w.setCell ⟨g, k, none⟩ (.int .i64 x)) g (xs.set k x) := by
  have := Blk.set h k (.int .i64 x)
  unfold Holds
  rwa [List.setIfInBounds_toArray, show (ints xs).set k (.int .i64 x) = ints (xs.set k x) by simp [ints, List.map_set]] at this
theorem Holds.other {w : World} {g g' k : Nat} {xs : List Int} (h : Holds w g xs) (hne : g ≠ g') (v : Value) : Holds (w.setCell ⟨g', k, none⟩ v) g xs := (Below.heap_setCell w ⟨g', k, none⟩ v g hne).trans h
theorem Holds.below {w w' : World} {g B : Nat} {xs : List Int} (h : Holds w g xs) (hb : Below B w w') (hg : g < B) : Holds w' g xs := Blk.below h hb hg
theorem Holds.alloc {w : World} {g : Nat} {xs : List Int} (h : Holds w g xs) (o : Obj) : Holds (w.alloc o) g xs := Blk.alloc h o
theorem Holds.lt {w : World} {g : Nat} {xs : List Int} (h : Holds w g xs) : g < w.heap.size := Blk.lt h
theorem Holds.made (w : World) (n : Nat) : Holds (w.alloc (.cells (madeCells #[.int .i64 0] n) 3)) w.heap.size (List.replicate n 0) := by
  have := Blk.new w 3 (madeCells #[.int .i64 0] n)
  unfold Holds
  rw [show ints (List.replicate n 0) = List.replicate n (Value.int .i64 0) by simp [ints], ← made_zero]
  exact this
theorem Holds.io {w : World} {g base : Nat} {xs : List Int} (h : Holds w g xs) (hb : base ≤ g) (hl : xs.length ≤ 17592186044415) : IO w base (some ⟨g, 0, none⟩) xs.length xs :=
  ⟨Nat.le_refl _, hl, .inr ⟨g, _, rfl, hb, h, by simp [ints], by rw [← ints_length xs]; exact List.take_length⟩⟩

/- append onto a row that began as an empty literal made ahead of other memory. -/
def RowX (w : World) (base0 g0 base : Nat) (v : Value) (xs : List Int) : Prop := Row w base0 v xs ∧ ∀ g, v.ownBlock = some g → g = g0 ∨ base ≤ g
theorem RowX.start {w : World} {base0 g0 base n c : Nat} {xs : List Int} (h : Row w base0 (.slice (some ⟨g0, 0, none⟩) n c) xs) : RowX w base0 g0 base (.slice (some ⟨g0, 0, none⟩) n c) xs :=
  ⟨h, fun g hg => .inl (by simp [Value.ownBlock] at hg; exact hg.symm)⟩
theorem wpList_appX {ops : Array Oper} {rest : List Oper} {o : Oper} {a : Act} {Q : Exit → Act → World → Prop} {w : World} (hgd : o.guard = none) (s x : Operand)
    (ho : o.op = .call { callee := .builtin .append, args := #[s, x], argTypes := #[24, 24] })
    (base0 g0 base : Nat) (W1 : World) (v : Value) (xs : List Int) (z : Int) (hs : a.eval s = v) (hx : a.eval x = .slice (some ⟨w.heap.size, 0, none⟩) 1 1) (hown : RowX w base0 g0 base v xs) (hl : xs.length ≤ 1000000000) (hb0 : base0 ≤ w.heap.size) (hb : base ≤ w.heap.size)
    (hW : W1.heap.size ≤ base) (honly : Only W1 w (some ⟨g0, 0, none⟩))
    (h : ∀ v' w', RowX w' base0 g0 base v' (xs ++ [z]) → Only W1 w' (some ⟨g0, 0, none⟩) → wpList Try.prog ops Q rest (a.put o.dst v') w') :
    wpList Try.prog ops Q (o :: rest) a (w.alloc (.cells #[.int .i64 z] 3)) := by
  obtain ⟨i0, hi0, hz0, hz1, hz2⟩ := info_parts info_int
  refine wpList_append_lies _ hgd s x 24 ho base0 3 i0 (.int .i64 0) 1 8 Try.underlying24 hi0 hz0 hz1 hz2 rfl (by decide) v xs.length (ints xs) hs (World.ownsRow.alloc hown.1 _)
    ⟨w.heap.size, 0, none⟩ 1 1 [.int .i64 z] hx rfl ?_ ?_ (by decide) (by unfold maxLen; omega) (by omega) (by simp; omega) _ rfl ?_
  · exact cell_one_new _ _ _
  · intro u hu; simp at hu; subst hu; rfl
  · intro g cap w' h1 h2 h3 h4
    refine h _ w' ⟨?_, ?_⟩ ?_
    · unfold Row
      rw [List.length_append, show ints (xs ++ [z]) = ints xs ++ [.int .i64 z] by simp [ints]]
      exact h1
    · intro g' hg'
      simp [Value.ownBlock] at hg'
      subst hg'
      rcases h3 with h3 | h3
      · exact hown.2 _ h3
      · right; rw [h3]; simp; omega
    · refine ⟨h2.os.trans honly.os, h2.tape.trans honly.tape, h2.output.trans honly.output, Nat.le_trans honly.size (Nat.le_trans (by simp) h2.size), fun i hi hn => ?_⟩
      rw [h2.block i (Nat.lt_of_lt_of_le hi (Nat.le_trans honly.size (by simp))) (fun e => ?_)]
      · exact (Below.heap_alloc w _ i (Nat.lt_of_lt_of_le hi honly.size)).trans (honly.block i hi hn)
      · rcases hown.2 i e.symm with h5 | h5
        · subst h5; exact hn rfl
        · omega

/- Steps of a world that stays as it was below a bound, hidden. -/
theorem bx_alloc {a w : World} (h : Bx (Below a.heap.size a w)) (o : Obj) : Bx (Below a.heap.size a (w.alloc o)) := ⟨h.out.alloc h.out.size o⟩
theorem bx_to {a w w' : World} (h : Bx (Below a.heap.size a w)) (b : Below w.heap.size w w') : Bx (Below a.heap.size a w') := ⟨h.out.trans (b.mono h.out.size)⟩
theorem bx_set {a w : World} {p : Addr} (h : Bx (Below a.heap.size a w)) (hp : a.heap.size ≤ p.block) (u : Value) : Bx (Below a.heap.size a (w.setCell p u)) := ⟨h.out.setCell hp u⟩
theorem bx_size {a w : World} (h : Bx (Below a.heap.size a w)) : a.heap.size ≤ w.heap.size := h.out.size
theorem bx_drew {a w : World} (h : Bx (Below a.heap.size a w)) : Bx (Below a.heap.size a w.drew) := ⟨h.out.drew⟩

/- What the law's own helpers on lists of ints do: compare, mark, hold, copy. -/

theorem take_eq_of {xs ys : List Int} {k : Nat} {x y : Int} (h : xs.take k = ys.take k) (hx : xs[k]? = some x) (hy : ys[k]? = some y) (he : x = y) : xs.take (k + 1) = ys.take (k + 1) := by
  rw [List.take_add_one, List.take_add_one, h, hx, hy, he]
theorem ne_of_at {xs ys : List Int} {k : Nat} {x y : Int} (hx : xs[k]? = some x) (hy : ys[k]? = some y) (he : x ≠ y) : decide (xs = ys) = false := by
  simp; rintro rfl; rw [hx] at hy; exact he (by simpa using hy)
theorem eq_of_take {xs ys : List Int} {k : Nat} (h : xs.take k = ys.take k) (h1 : xs.length = ys.length) (hk : xs.length ≤ k) : decide (xs = ys) = true := by
  rw [List.take_of_length_le hk, List.take_of_length_le (by omega)] at h; simp [h]


/-- the marks that a list of n ints is given from k on -/
def marksFrom (k : Int) : Nat → List Int
  | 0 => []
  | n + 1 => k :: marksFrom (k + 1) n
theorem marksFrom_length (n : Nat) : ∀ k, (marksFrom k n).length = n := by induction n with | zero => simp [marksFrom] | succ n ih => simp [marksFrom, ih]
theorem marksFrom_get (n : Nat) : ∀ (k : Int) (i : Nat), i < n → (marksFrom k n)[i]? = some (k + i) := by
  induction n with
  | zero => intro k i h; omega
  | succ n ih =>
    intro k i h
    cases i with
    | zero => simp [marksFrom]
    | succ i => simp only [marksFrom, List.getElem?_cons_succ]; rw [ih _ _ (by omega)]; simp; omega


/-- where the loop that marks a row stands behind k rounds -/
def MarkAt (w wr : World) (A : Option Addr) (c n : Nat) (q : Int) (k : Nat) : Prop :=
  Only w wr A ∧ (n = 0 → wr = w) ∧ (0 < n → ∃ g cur, A = some ⟨g, 0, none⟩ ∧ Blk wr g 3 cur ∧ c ≤ cur.size ∧ n ≤ c ∧ cur.toList.take k = ints (marksFrom q k))
theorem MarkAt.start {w : World} {base c : Nat} {A : Option Addr} {xs : List Int} (q : Int) (h : IO w base A c xs) : MarkAt w w A c xs.length q 0 := by
  refine ⟨Only.refl _ _, fun _ => rfl, fun h0 => ?_⟩
  rcases h.2.2 with ⟨_, rfl⟩ | ⟨g, cur, e, hg, hh, hc, ht⟩
  · simp at h0
  · exact ⟨g, cur, e, hh, hc, h.1, rfl⟩
theorem marksFrom_succ (n : Nat) : ∀ k : Int, marksFrom k (n + 1) = marksFrom k n ++ [k + n] := by
  induction n with
  | zero => intro k; simp [marksFrom]
  | succ n ih => intro k; rw [marksFrom, ih (k + 1), marksFrom]; simp; omega
theorem MarkAt.step {w wr : World} {A : Option Addr} {c n k : Nat} {q : Int} {g : Nat} {cur : Array Value} (h : MarkAt w wr A c n q k) (hA : A = some ⟨g, 0, none⟩) (hb : Blk wr g 3 cur)
    (hc : c ≤ cur.size) (hn : n ≤ c) (ht : cur.toList.take k = ints (marksFrom q k)) (hk : k < n) : MarkAt w (wr.setCell ⟨g, k, none⟩ (.int .i64 (q + k))) A c n q (k + 1) := by
  subst hA
  refine ⟨h.1.set _, fun h0 => by omega, fun _ => ⟨g, _, rfl, hb.set _ _, by simpa using hc, hn, ?_⟩⟩
  have hkl : k < cur.toList.length := by simp; omega
  rw [marksFrom_succ, Array.toList_setIfInBounds, List.take_add_one, List.getElem?_set_self hkl, List.take_set_of_le (Nat.le_refl _), ht]
  simp [ints]
theorem MarkAt.done {w wr : World} {base c : Nat} {A : Option Addr} {xs : List Int} {q : Int} (h0 : IO w base A c xs) (h : MarkAt w wr A c xs.length q xs.length) :
    IO wr base A c (marksFrom q xs.length) ∧ Only w wr A := by
  refine ⟨⟨by rw [marksFrom_length]; exact h0.1, by rw [marksFrom_length]; exact h0.2.1, ?_⟩, h.1⟩
  by_cases hx : 0 < xs.length
  · obtain ⟨g, cur, e, hb, hc, hn, ht⟩ := h.2.2 hx
    refine .inr ⟨g, cur, e, ?_, hb, hc, by rw [marksFrom_length]; exact ht⟩
    rcases h0.2.2 with ⟨e', _⟩ | ⟨g', cur', e', hg, _⟩
    · rw [e] at e'; cases e'
    · rw [e] at e'; injection e' with e'; injection e' with e'; omega
  · have hx' : xs = [] := List.eq_nil_of_length_eq_zero (by omega)
    subst hx'
    rw [h.2.1 rfl]
    exact h0.2.2


/-- where the loop that copies a list stands behind k rounds -/
def CopyAt (w wr : World) (g : Nat) (xs : List Int) (k : Nat) : Prop :=
  Below w.heap.size w wr ∧ w.heap.size ≤ g ∧ ∃ cur, Blk wr g 3 cur ∧ cur.size = xs.length ∧ cur.toList.take k = ints (xs.take k)
theorem CopyAt.step {w wr : World} {g k : Nat} {xs : List Int} {x : Int} (h : CopyAt w wr g xs k) (hk : k < xs.length) (hx : xs[k]? = some x) : CopyAt w (wr.setCell ⟨g, k, none⟩ (.int .i64 x)) g xs (k + 1) := by
  obtain ⟨hb, hg, cur, hB, hs, ht⟩ := h
  refine ⟨hb.setCell hg _, hg, _, hB.set _ _, by simpa using hs, ?_⟩
  have hkl : k < cur.toList.length := by simp; omega
  rw [Array.toList_setIfInBounds, List.take_add_one, List.getElem?_set_self hkl, List.take_set_of_le (Nat.le_refl _), ht, List.take_add_one, hx]
  simp [ints]
theorem CopyAt.done {w wr : World} {g : Nat} {xs : List Int} (hl : xs.length ≤ 17592186044415) (h : CopyAt w wr g xs xs.length) : IO wr w.heap.size (some ⟨g, 0, none⟩) xs.length xs ∧ Below w.heap.size w wr := by
  obtain ⟨hb, hg, cur, hB, hs, ht⟩ := h
  exact ⟨⟨Nat.le_refl _, hl, .inr ⟨g, cur, rfl, hg, hB, by omega, by simpa using ht⟩⟩, hb⟩
theorem CopyAt.start {w : World} {xs : List Int} : CopyAt w (w.alloc (.cells (madeCells #[.int .i64 0] xs.length) 3)) w.heap.size xs 0 :=
  ⟨(Below.refl _ _).alloc (Nat.le_refl _) _, Nat.le_refl _, _, Blk.new _ _ _, made_size _, rfl⟩



/- Objects between two bounds: what other calls leave of them. -/
theorem IO.lt {w : World} {base c : Nat} {A : Option Addr} {xs : List Int} (h : IO w base A c xs) : ∀ x, A = some x → x.block < w.heap.size := by
  intro x hx
  rcases h.2.2 with ⟨rfl, _⟩ | ⟨g, cur, e, _, hh, _⟩
  · cases hx
  · rw [e] at hx; injection hx with hx; rw [← hx]; exact heap_lt hh
def RB (lo hi : Nat) (w : World) (A : Option Addr) (xs : List Int) : Prop := IR w A xs ∧ (0 < xs.length → ∀ x, A = some x → lo ≤ x.block ∧ x.block < hi)
def OB (lo hi : Nat) (w : World) (A : Option Addr) (c : Nat) (xs : List Int) : Prop := IO w lo A c xs ∧ ∀ x, A = some x → x.block < hi
theorem RB.of_ir {w : World} {A : Option Addr} {xs : List Int} (h : IR w A xs) : RB 0 w.heap.size w A xs :=
  ⟨h, fun h0 x hx => by
    obtain ⟨b, o, e, hb, _⟩ := h.2 h0
    rw [e] at hx; injection hx with hx; subst hx; exact ⟨Nat.zero_le _, hb⟩⟩
theorem RB.ir {lo hi : Nat} {w : World} {A : Option Addr} {xs : List Int} (h : RB lo hi w A xs) : IR w A xs := h.1
theorem OB.of {w : World} {lo hi c : Nat} {A : Option Addr} {xs : List Int} (h : IO w lo A c xs) (hw : w.heap.size ≤ hi) : OB lo hi w A c xs := ⟨h, fun x hx => Nat.lt_of_lt_of_le (h.lt x hx) hw⟩
theorem OB.io {lo hi c : Nat} {w : World} {A : Option Addr} {xs : List Int} (h : OB lo hi w A c xs) : IO w lo A c xs := h.1
theorem OB.ir {lo hi c : Nat} {w : World} {A : Option Addr} {xs : List Int} (h : OB lo hi w A c xs) : IR w A xs := h.1.reads
theorem OB.rb {lo hi c : Nat} {w : World} {A : Option Addr} {xs : List Int} (h : OB lo hi w A c xs) : RB lo hi w A xs := ⟨h.ir, fun _ x hx => ⟨h.1.ge x hx, h.2 x hx⟩⟩
theorem RB.below {lo hi B : Nat} {w w' : World} {A : Option Addr} {xs : List Int} (h : RB lo hi w A xs) (hb : Below B w w') (hB : hi ≤ B) : RB lo hi w' A xs := by
  refine ⟨⟨h.1.1, fun h0 => ?_⟩, h.2⟩
  obtain ⟨b, o, e, hlt, hc⟩ := h.1.2 h0
  have h2 := (h.2 h0 _ e).2
  exact ⟨b, o, e, Nat.lt_of_lt_of_le hlt hb.size, fun k hk => ((bcell hb).1 b _ (Nat.lt_of_lt_of_le h2 hB)).trans (hc k hk)⟩
theorem OB.below {lo hi B c : Nat} {w w' : World} {A : Option Addr} {xs : List Int} (h : OB lo hi w A c xs) (hb : Below B w w') (hB : hi ≤ B) : OB lo hi w' A c xs := by
  refine ⟨⟨h.1.1, h.1.2.1, ?_⟩, h.2⟩
  rcases h.1.2.2 with h' | ⟨g, cur, e, hg, hh, r⟩
  · exact .inl h'
  · exact .inr ⟨g, cur, e, hg, (hb.block g (Nat.lt_of_lt_of_le (h.2 _ e) hB)).trans hh, r⟩
theorem RB.only {lo hi lo' hi' c' : Nat} {w w' : World} {A A' : Option Addr} {xs xs' : List Int} (h : RB lo hi w A xs) (o : Only w w' A') (k : OB lo' hi' w A' c' xs') (hd : hi ≤ lo' ∨ hi' ≤ lo) : RB lo hi w' A xs := by
  by_cases h0 : 0 < xs.length
  · exact ⟨h.1.only o fun a b ea eb => by have := h.2 h0 a ea; have := k.1.ge b eb; have := k.2 b eb; omega, h.2⟩
  · exact ⟨⟨h.1.1, fun h1 => absurd h1 h0⟩, h.2⟩
theorem OB.only {lo hi lo' hi' c c' : Nat} {w w' : World} {A A' : Option Addr} {xs xs' : List Int} (h : OB lo hi w A c xs) (o : Only w w' A') (k : OB lo' hi' w A' c' xs') (hd : hi ≤ lo' ∨ hi' ≤ lo) : OB lo hi w' A c xs :=
  ⟨h.1.only o fun a b ea eb => by have := h.1.ge a ea; have := h.2 a ea; have := k.1.ge b eb; have := k.2 b eb; omega, h.2⟩
theorem OB.marked {lo hi c : Nat} {w w' : World} {A : Option Addr} {xs ys : List Int} (h : OB lo hi w A c xs) (h' : IO w' lo A c ys) : OB lo hi w' A c ys := ⟨h', h.2⟩
theorem OB.bl {lo' hi' c' B : Nat} {w w' : World} {A' : Option Addr} {xs' : List Int} (k : OB lo' hi' w A' c' xs') (o : Only w w' A') (hB : B ≤ lo') (hs : B ≤ w.heap.size) : Below B w w' :=
  o.below hs fun x hx => Nat.le_trans hB (k.1.ge x hx)
theorem OB.cell {lo' hi' c' : Nat} {w w' : World} {A' : Option Addr} {xs' : List Int} (k : OB lo' hi' w A' c' xs') (o : Only w w' A') {b i : Nat} (hb : b < w.heap.size) (hd : b < lo' ∨ hi' ≤ b) : w'.cell? ⟨b, i, none⟩ = w.cell? ⟨b, i, none⟩ := by
  refine World.cell?_of_block (w := w) (o.block b hb ?_)
  intro e
  cases A' with
  | none => cases e
  | some x => injection e with e; have := k.1.ge x rfl; have := k.2 x rfl; simp at e; omega
/-- what a function that makes a rhythm and says whether it is there hands back -/
def GivesRB (w : World) (s : Int) (xs : List Int) (ok : Bool) (e : Ending) (w' : World) : Prop := ∃ A c, e = .returned (.tuple #[.agg #[.int .i64 s, .slice A xs.length c], .bool ok]) ∧ IO w' w.heap.size A c xs ∧ Below w.heap.size w w'
def GivesRI (w : World) (s : Int) (xs : List Int) (n : Int) (e : Ending) (w' : World) : Prop := ∃ A c, e = .returned (.tuple #[.agg #[.int .i64 s, .slice A xs.length c], .int .i64 n]) ∧ IO w' w.heap.size A c xs ∧ Below w.heap.size w w'
def GivesLB (w : World) (xs : List Int) (ok : Bool) (e : Ending) (w' : World) : Prop := ∃ A c, e = .returned (.tuple #[.slice A xs.length c, .bool ok]) ∧ IO w' w.heap.size A c xs ∧ Below w.heap.size w w'

/- A list without the zeros at its end. -/
/-- how many of the first n are left when the zeros at the end go -/
def endLen (xs : List Int) : Nat → Nat
  | 0 => 0
  | n + 1 => if xs[n]?.getD 0 = 0 then endLen xs n else n + 1
theorem endLen_le (xs : List Int) (n : Nat) : endLen xs n ≤ n := by
  induction n with
  | zero => exact Nat.le_refl _
  | succ n ih => simp only [endLen]; split <;> omega
theorem endLen_zero {xs : List Int} {n : Nat} {x : Int} (hx : xs[n]? = some x) (h : x = 0) : endLen xs (n + 1) = endLen xs n := by simp [endLen, hx, h]
theorem endLen_stop {xs : List Int} {n : Nat} {x : Int} (hx : xs[n]? = some x) (h : x ≠ 0) : endLen xs (n + 1) = n + 1 := by simp [endLen, hx, h]
def trim (xs : List Int) : List Int := xs.take (endLen xs xs.length)
theorem trim_len (xs : List Int) : (trim xs).length = endLen xs xs.length := by
  unfold trim; rw [List.length_take]; have := endLen_le xs xs.length; omega
theorem IO.take {w : World} {base c c' n : Nat} {A : Option Addr} {xs : List Int} (h : IO w base A c xs) (hn : n ≤ c') (hc : c' ≤ c) : IO w base A c' (xs.take n) := by
  obtain ⟨h1, h2, h3⟩ := h
  refine ⟨by rw [List.length_take]; omega, by rw [List.length_take]; omega, ?_⟩
  rcases h3 with ⟨h4, rfl⟩ | ⟨g, cur, e, hg, hh, hs, ht⟩
  · exact .inl ⟨h4, by simp⟩
  · refine .inr ⟨g, cur, e, hg, hh, by omega, ?_⟩
    rw [List.length_take, show min n xs.length = min n xs.length from rfl, ← List.take_take, ht]
    simp [ints, List.map_take]
theorem IO.trim {w : World} {base c c' : Nat} {A : Option Addr} {xs : List Int} (h : IO w base A c xs) (hn : (trim xs).length ≤ c') (hc : c' ≤ c) : IO w base A c' (trim xs) := by
  rw [trim_len] at hn
  exact h.take hn hc

/- Whether a number is in a list: the library's search and the reference's; remainders. -/
def memB (xs : List Int) (x : Int) : Bool := xs.contains x
theorem memB_iff {xs : List Int} {x : Int} : memB xs x = true ↔ x ∈ xs := by simp [memB]
theorem memB_take_succ {xs : List Int} {k : Nat} {x y : Int} (h : memB (xs.take k) x = false) (hy : xs[k]? = some y) (hne : x ≠ y) : memB (xs.take (k + 1)) x = false := by
  rw [Bool.eq_false_iff] at *
  rw [Ne, memB_iff] at *
  rw [List.take_add_one, hy]
  simp [h, hne]
theorem memB_hit {xs : List Int} {k : Nat} {x : Int} (hy : xs[k]? = some x) : memB xs x = true := memB_iff.2 (List.mem_of_getElem? hy)
theorem memB_none {xs : List Int} {k : Nat} {x : Int} (h : memB (xs.take k) x = false) (hk : xs.length ≤ k) : memB xs x = false := by rwa [List.take_of_length_le hk] at h

def FoundAt (xs : List Int) (x : Int) (w : World) (e : Ending) (w' : World) : Prop := ∃ r : Int, e = .returned (.int .i64 r) ∧ decide (0 ≤ r) = memB xs x ∧ w = w'
set_option maxHeartbeats 400000 in
theorem index_any (A : Option Addr) (c : Nat) (xs : List Int) (x : Int) (w : World) (hx : IR w A xs) :
    Calls Try.prog 47 #[.slice A xs.length c, .int .i64 x] w (FoundAt xs x w) := by
  have hlx := hx.len
  go_enter Try.func47, Try.ntmps47
  go_wp2
  go_loop [8] (fun i => ∃ k : Nat, k ≤ xs.length ∧ i = .int .i64 k ∧ memB (xs.take k) x = false) (fun i => xs.length - (intOf i).toNat)
  case atStart => exact ⟨0, by omega, rfl, rfl⟩
  case round =>
    obtain ⟨k, hk, rfl, hm⟩ := hrel
    have HM := Bx.mk hm
    clear hm
    by_cases hlt : k < xs.length
    · obtain ⟨b, o, y, rfl, hb, c1, H1⟩ := hx.one hlt
      have H2 := Bx.mk H1.out
      have hkl : (k : Int) < xs.length := by omega
      by_cases hxy : x = y
      · subst hxy
        have HH := Bx.mk (memB_hit H2.out)
        go_wp2
        go_ret
        exact ⟨_, rfl, by rw [HH.out]; simp, rfl⟩
      · have hb : (x == y) = false := by simpa using hxy
        have HS := Bx.mk (memB_take_succ HM.out H2.out hxy)
        clear hxy
        go_wp2
        go_round
        case rel => exact ⟨k + 1, by omega, by go_num, HS.out⟩
        case measure => simp [intOf]; omega
    · have HH := Bx.mk (memB_none HM.out (by omega))
      go_wp2
      go_ret
      exact ⟨_, rfl, by rw [HH.out]; simp, rfl⟩
theorem contains_any (A : Option Addr) (c : Nat) (xs : List Int) (x : Int) (w : World) (hx : IR w A xs) :
    Calls Try.prog 33 #[.slice A xs.length c, .int .i64 x] w fun e w' => e = .returned (.bool (memB xs x)) ∧ w = w' := by
  go_enter Try.func33, Try.ntmps33
  go_wp2_with (go_at_call 47; refine (index_any _ _ _ _ _ (by exact hx)).mono ?_; rintro e w' ⟨r, rfl, hr, rfl⟩)
  go_ret
  exact ⟨ret_bool (by simp), rfl⟩
set_option maxHeartbeats 400000 in
theorem l02Has_any (A : Option Addr) (c : Nat) (xs : List Int) (x : Int) (w : World) (hx : IR w A xs) :
    Calls Try.prog 53 #[.slice A xs.length c, .int .i64 x] w fun e w' => e = .returned (.bool (memB xs x)) ∧ w = w' := by
  have hlx := hx.len
  go_enter Try.func53, Try.ntmps53
  go_wp2
  go_loop [9] (fun i => ∃ k : Nat, k ≤ xs.length ∧ i = .int .i64 k ∧ memB (xs.take k) x = false) (fun i => xs.length - (intOf i).toNat)
  case atStart => exact ⟨0, by omega, rfl, rfl⟩
  case round =>
    obtain ⟨k, hk, rfl, hm⟩ := hrel
    have HM := Bx.mk hm
    clear hm
    by_cases hlt : k < xs.length
    · obtain ⟨b, o, y, rfl, hb, c1, H1⟩ := hx.one hlt
      have H2 := Bx.mk H1.out
      have hkl : (k : Int) < xs.length := by omega
      by_cases hxy : x = y
      · subst hxy
        have HH := Bx.mk (memB_hit H2.out)
        go_wp2
        go_ret
        exact ⟨ret_bool HH.out.symm, rfl⟩
      · have hb : (x == y) = false := by simpa using hxy
        have HS := Bx.mk (memB_take_succ HM.out H2.out hxy)
        clear hxy
        go_wp2
        go_round
        case rel => exact ⟨k + 1, by omega, by go_num, HS.out⟩
        case measure => simp [intOf]; omega
    · have HH := Bx.mk (memB_none HM.out (by omega))
      go_wp2
      go_ret
      exact ⟨ret_bool HH.out.symm, rfl⟩
theorem tmod_rem (k n : Int) (hn : 1 ≤ n) : (k.tmod n + n) % n = k % n ∧ -n < k.tmod n ∧ k.tmod n < n := by
  have h1 : (k.tmod n) = k - n * (k.tdiv n) := by have := Int.mul_tdiv_add_tmod k n; omega
  have h2 : (k.tmod n + n) % n = k % n := by
    rw [Int.add_emod_right, h1]
    exact Int.sub_mul_emod_self_left k n _
  refine ⟨h2, Int.lt_tmod_of_pos k (by omega), Int.tmod_lt_of_pos k (by omega)⟩
theorem remainder_any (k n : Int) (hn : 1 ≤ n) (hn2 : n ≤ 1000000) (_hk : -1000000000000 ≤ k ∧ k ≤ 1000000000000) (w : World) :
    Calls Try.prog 41 #[.int .i64 k, .int .i64 n] w fun e w' => e = .returned (.int .i64 (k % n)) ∧ w = w' := by
  have hr := tmod_rem k n hn
  go_enter Try.func41, Try.ntmps41
  go_wp2
  go_ret
  exact ⟨ret_int hr.1, rfl⟩

/- The number of bits of a number below 2^24, by the sums of the library: plain laws. -/
/-- how many of the lowest f bits are set -/
def popc : Nat → Nat → Nat
  | 0, _ => 0
  | f + 1, n => n % 2 + popc f (n / 2)
theorem popc_add (f g : Nat) : ∀ a y : Nat, a < 2 ^ f → popc (f + g) (a + 2 ^ f * y) = popc f a + popc g y := by
  induction f with
  | zero => intro a y h; have : a = 0 := by simpa using h
            subst this; simp [popc]
  | succ f ih =>
    intro a y h
    rw [show f + 1 + g = (f + g) + 1 by omega]
    simp only [popc]
    have e1 : (a + 2 ^ (f + 1) * y) % 2 = a % 2 := by rw [Nat.pow_succ, Nat.mul_comm (2 ^ f) 2, Nat.mul_assoc]; omega
    have e2 : (a + 2 ^ (f + 1) * y) / 2 = a / 2 + 2 ^ f * y := by rw [Nat.pow_succ, Nat.mul_comm (2 ^ f) 2, Nat.mul_assoc]; omega
    rw [e1, e2, ih (a / 2) y (by rw [Nat.pow_succ] at h; omega)]
    omega
theorem popc_le (f : Nat) : ∀ n, popc f n ≤ f := by induction f with | zero => intro n; simp [popc] | succ f ih => intro n; simp only [popc]; have := ih (n / 2); omega

/-- the sums of the library, a step each -/
def ps1 (x : Nat) : Nat := ((x / 2) &&& 6148914691236517205) + (x &&& 6148914691236517205)
def ps2 (x : Nat) : Nat := ((x / 4) &&& 3689348814741910323) + (x &&& 3689348814741910323)
def ps3 (x : Nat) : Nat := (x / 16 + x) &&& 1085102592571150095
theorem and_byte (u v : Nat) : u &&& v = ((u % 256) &&& (v % 256)) + 256 * ((u / 256) &&& (v / 256)) := by
  have h1 : (u &&& v) % 2 ^ 8 = (u % 2 ^ 8) &&& (v % 2 ^ 8) := Nat.and_mod_two_pow
  have h2 : (u &&& v) / 2 ^ 8 = (u / 2 ^ 8) &&& (v / 2 ^ 8) := Nat.and_div_two_pow
  have h3 := Nat.mod_add_div (u &&& v) 256
  simp only [show (2 : Nat) ^ 8 = 256 from rfl] at h1 h2
  rw [h1, h2] at h3
  exact h3.symm
theorem and_small (u v : Nat) (h : u < 256) : u &&& v = u &&& (v % 256) := by
  have h3 := and_byte u v
  rw [Nat.mod_eq_of_lt h, show u / 256 = 0 by omega, Nat.zero_and] at h3
  omega
def b1 (a : Nat) : Nat := ((a / 2) &&& 85) + (a &&& 85)
def b2 (a : Nat) : Nat := ((a / 4) &&& 51) + (a &&& 51)
def b3 (a : Nat) : Nat := (a / 16 + a) % 16
theorem b_all : ∀ a : Fin 256, b1 a < 256 ∧ b1 a % 4 ≤ 2 ∧ b2 (b1 a) < 72 ∧ b2 (b1 a) % 16 ≤ 4 ∧ b3 (b2 (b1 a)) = popc 8 a := by decide +kernel
theorem t_85 : ∀ a : Fin 256, ∀ t : Fin 2, ((a : Nat) / 2 + 128 * t) &&& 85 = ((a : Nat) / 2) &&& 85 := by decide +kernel
theorem t_51 : ∀ a : Fin 256, ∀ t : Fin 4, ((a : Nat) / 4 + 64 * t) &&& 51 = ((a : Nat) / 4) &&& 51 := by decide +kernel
theorem step1 (a y m : Nat) (ha : a < 256) : (((a + 256 * y) / 2) &&& (85 + 256 * m)) + ((a + 256 * y) &&& (85 + 256 * m)) = b1 a + 256 * (((y / 2) &&& m) + (y &&& m)) := by
  rw [and_byte ((a + 256 * y) / 2), and_byte (a + 256 * y)]
  have e1 : (a + 256 * y) / 2 % 256 = a / 2 + 128 * (y % 2) := by omega
  have e2 : (a + 256 * y) / 2 / 256 = y / 2 := by omega
  have e3 : (85 + 256 * m) % 256 = 85 := by omega
  have e4 : (85 + 256 * m) / 256 = m := by omega
  have e5 : (a + 256 * y) % 256 = a := by omega
  have e6 : (a + 256 * y) / 256 = y := by omega
  rw [e1, e2, e3, e4, e5, e6]
  have := t_85 ⟨a, ha⟩ ⟨y % 2, by omega⟩
  simp only at this
  rw [this]
  unfold b1
  omega
theorem step2 (a y m : Nat) (ha : a < 256) : (((a + 256 * y) / 4) &&& (51 + 256 * m)) + ((a + 256 * y) &&& (51 + 256 * m)) = b2 a + 256 * (((y / 4) &&& m) + (y &&& m)) := by
  rw [and_byte ((a + 256 * y) / 4), and_byte (a + 256 * y)]
  have e1 : (a + 256 * y) / 4 % 256 = a / 4 + 64 * (y % 4) := by omega
  have e2 : (a + 256 * y) / 4 / 256 = y / 4 := by omega
  have e3 : (51 + 256 * m) % 256 = 51 := by omega
  have e4 : (51 + 256 * m) / 256 = m := by omega
  have e5 : (a + 256 * y) % 256 = a := by omega
  have e6 : (a + 256 * y) / 256 = y := by omega
  rw [e1, e2, e3, e4, e5, e6]
  have := t_51 ⟨a, ha⟩ ⟨y % 4, by omega⟩
  simp only at this
  rw [this]
  unfold b2
  omega
theorem and_15 (u : Nat) : u &&& 15 = u % 16 := Nat.and_two_pow_sub_one_eq_mod u 4
theorem step3 (a y m : Nat) (ha : a < 72) (hy : y % 16 ≤ 4) : ((a + 256 * y) / 16 + (a + 256 * y)) &&& (15 + 256 * m) = b3 a + 256 * ((y / 16 + y) &&& m) := by
  rw [and_byte]
  have e1 : ((a + 256 * y) / 16 + (a + 256 * y)) % 256 = a / 16 + 16 * (y % 16) + a := by omega
  have e2 : ((a + 256 * y) / 16 + (a + 256 * y)) / 256 = y / 16 + y := by omega
  have e3 : (15 + 256 * m) % 256 = 15 := by omega
  have e4 : (15 + 256 * m) / 256 = m := by omega
  rw [e1, e2, e3, e4, and_15]
  unfold b3
  omega
theorem sums (x : Nat) (hx : x < 16777216) : ∃ p q r : Nat, ps3 (ps2 (ps1 x)) = p + 256 * (q + 256 * r) ∧ p + q + r = popc 24 x ∧ p ≤ 8 ∧ q ≤ 8 ∧ r ≤ 8 ∧ ps1 x < 16777216 ∧ ps2 (ps1 x) < 16777216 := by
  obtain ⟨a, b, c, ha, hb, hc, e⟩ : ∃ a b c, a < 256 ∧ b < 256 ∧ c < 256 ∧ x = a + 256 * (b + 256 * c) := ⟨x % 256, x / 256 % 256, x / 65536, by omega, by omega, by omega, by omega⟩
  have A := b_all ⟨a, ha⟩
  have B := b_all ⟨b, hb⟩
  have C := b_all ⟨c, hc⟩
  simp only at A B C
  have s1 : ps1 x = b1 a + 256 * (b1 b + 256 * b1 c) := by
    unfold ps1
    rw [e, show 6148914691236517205 = 85 + 256 * 24019198012642645 from rfl, step1 a _ _ ha, show 24019198012642645 = 85 + 256 * 93824992236885 from rfl, step1 b _ _ hb,
      and_small (c / 2) _ (by omega), and_small c _ hc]
    rfl
  have s2 : ps2 (ps1 x) = b2 (b1 a) + 256 * (b2 (b1 b) + 256 * b2 (b1 c)) := by
    unfold ps2
    rw [s1, show 3689348814741910323 = 51 + 256 * 14411518807585587 from rfl, step2 _ _ _ A.1, show 14411518807585587 = 51 + 256 * 56294995342131 from rfl, step2 _ _ _ B.1,
      and_small (b1 c / 4) _ (by have := C.1; omega), and_small (b1 c) _ C.1]
    rfl
  have s3 : ps3 (ps2 (ps1 x)) = b3 (b2 (b1 a)) + 256 * (b3 (b2 (b1 b)) + 256 * b3 (b2 (b1 c))) := by
    unfold ps3
    have hB := B.2.2.2.1; have hC := C.2.2.2.1; have hC3 := C.2.2.1
    rw [s2, show 1085102592571150095 = 15 + 256 * 4238682002231055 from rfl, step3 _ _ _ A.2.2.1 (by omega), show 4238682002231055 = 15 + 256 * 16557351571215 from rfl, step3 _ _ _ B.2.2.1 hC,
      and_small _ _ (by omega), show 16557351571215 % 256 = 15 from rfl, and_15]
    rfl
  refine ⟨_, _, _, s3, ?_, ?_, ?_, ?_, ?_, ?_⟩
  · rw [A.2.2.2.2, B.2.2.2.2, C.2.2.2.2, e, show (24 : Nat) = 8 + 16 from rfl, show (256 : Nat) = 2 ^ 8 from rfl, popc_add 8 16 _ _ ha, show (16 : Nat) = 8 + 8 from rfl, popc_add 8 8 _ _ hb]
    omega
  · rw [A.2.2.2.2]; exact popc_le _ _
  · rw [B.2.2.2.2]; exact popc_le _ _
  · rw [C.2.2.2.2]; exact popc_le _ _
  · rw [s1]; have := A.1; have := B.1; have := C.1; omega
  · rw [s2]; have := A.2.2.1; have := B.2.2.1; have := C.2.2.1; omega

/- When the code of a rhythm avoids a difference: plain laws on bits. -/
/-- no two beats of the code c of n pulses are d pulses apart -/
def av (n d c : Nat) : Bool := (c &&& ((c / 2 ^ d) ||| ((c * 2 ^ (n - d)) &&& (2 ^ n - 1)))) == 0
theorem tb_mul (c i p : Nat) : (c * 2 ^ i).testBit p = (decide (i ≤ p) && c.testBit (p - i)) := by
  rw [← Nat.shiftLeft_eq, Nat.testBit_shiftLeft]
theorem av_iff {n d c : Nat} (hd : d ≤ n) (hc : c < 2 ^ n) : av n d c = true ↔ ∀ p, p < n → ¬ (c.testBit p = true ∧ c.testBit ((p + d) % n) = true) := by
  have hz : av n d c = true ↔ ∀ p, (c &&& ((c / 2 ^ d) ||| ((c * 2 ^ (n - d)) &&& (2 ^ n - 1)))).testBit p = false := by
    unfold av
    rw [beq_iff_eq]
    constructor
    · intro h p; rw [h]; exact Nat.zero_testBit p
    · intro h; exact Nat.eq_of_testBit_eq fun p => by rw [h p, Nat.zero_testBit]
  have hbig : ∀ q, n ≤ q → c.testBit q = false := fun q hq => Nat.testBit_lt_two_pow (Nat.lt_of_lt_of_le hc (Nat.pow_le_pow_right (by omega) hq))
  rw [hz]
  have one : ∀ p, (c &&& ((c / 2 ^ d) ||| ((c * 2 ^ (n - d)) &&& (2 ^ n - 1)))).testBit p = (c.testBit p && (c.testBit (p + d) || (decide (n - d ≤ p) && c.testBit (p - (n - d)) && decide (p < n)))) := by
    intro p
    rw [Nat.testBit_and, Nat.testBit_or, Nat.testBit_and, tb_mul, Nat.testBit_two_pow_sub_one, Nat.testBit_div_two_pow]
  constructor
  · intro h p hp ⟨h1, h2⟩
    have := h p
    rw [one, h1, Bool.true_and] at this
    by_cases hw : p + d < n
    · rw [Nat.mod_eq_of_lt hw] at h2; rw [h2] at this; simp at this
    · by_cases hdn : p + d - n < n
      · have : (p + d) % n = p + d - n := by rw [Nat.mod_eq_sub_mod (by omega), Nat.mod_eq_of_lt hdn]
        rw [this] at h2
        have e : p - (n - d) = p + d - n := by omega
        have h3 := h p
        rw [one, h1, e, h2] at h3
        simp [show n - d ≤ p by omega, hp] at h3
      · omega
  · intro h p
    rw [one]
    by_cases hp : p < n
    · have h1 := h p hp
      rcases hb : c.testBit p with _ | _
      · simp
      · rw [hb] at h1
        have h2 : c.testBit ((p + d) % n) = false := by simpa using h1
        by_cases hw : p + d < n
        · rw [Nat.mod_eq_of_lt hw] at h2
          rw [h2]
          simp [show ¬ (n - d ≤ p) by omega]
        · by_cases hdn : p + d - n < n
          · have e1 : (p + d) % n = p + d - n := by rw [Nat.mod_eq_sub_mod (by omega), Nat.mod_eq_of_lt hdn]
            have e : p - (n - d) = p + d - n := by omega
            rw [e1] at h2
            rw [e, h2, hbig (p + d) (by omega)]
            simp
          · omega
    · rw [hbig p (by omega)]; simp
/-- what holds a code that does not avoid d does not avoid it either -/
theorem av_mono {n d c c' : Nat} (hd : d ≤ n) (hc : c < 2 ^ n) (hc' : c' < 2 ^ n) (hsub : ∀ p, c.testBit p = true → c'.testBit p = true) (h : av n d c' = true) : av n d c = true := by
  rw [av_iff hd hc]
  rw [av_iff hd hc'] at h
  exact fun p hp hh => h p hp ⟨hsub _ hh.1, hsub _ hh.2⟩

/- Rhythms as a size and a list of beats: plain laws. -/
/-- the beats ascend from above p on and stay below s -/
def okFrom (s : Int) : Int → List Int → Bool
  | _, [] => true
  | p, x :: r => decide (p < x ∧ x < s) && okFrom s x r
def rhOk (s : Int) (xs : List Int) : Bool := inB s 1 24 && okFrom s (-1) xs
theorem okFrom_iff (s : Int) (xs : List Int) : ∀ p, okFrom s p xs = true ↔ (∀ x ∈ xs, p < x ∧ x < s) ∧ xs.Pairwise (· < ·) := by
  induction xs with
  | nil => intro p; simp [okFrom]
  | cons x r ih =>
    intro p
    simp only [okFrom, Bool.and_eq_true, decide_eq_true_eq, ih x, List.pairwise_cons, List.mem_cons, forall_eq_or_imp]
    constructor
    · rintro ⟨⟨h1, h2⟩, h3, h4⟩
      exact ⟨⟨⟨h1, h2⟩, fun y hy => ⟨by have := (h3 y hy).1; omega, (h3 y hy).2⟩⟩, fun y hy => (h3 y hy).1, h4⟩
    · rintro ⟨⟨⟨h1, h2⟩, h3⟩, h4, h5⟩
      exact ⟨⟨h1, h2⟩, fun y hy => ⟨h4 y hy, (h3 y hy).2⟩, h5⟩
theorem rhOk_iff {s : Int} {xs : List Int} : rhOk s xs = true ↔ (1 ≤ s ∧ s ≤ 24) ∧ (∀ x ∈ xs, 0 ≤ x ∧ x < s) ∧ xs.Pairwise (· < ·) := by
  simp only [rhOk, Bool.and_eq_true, inB_iff, okFrom_iff]
  constructor
  · rintro ⟨h1, h2, h3⟩; exact ⟨h1, fun x hx => by have := h2 x hx; omega, h3⟩
  · rintro ⟨h1, h2, h3⟩; exact ⟨h1, fun x hx => by have := h2 x hx; omega, h3⟩
theorem rhOk_size {s : Int} {xs : List Int} (h : inB s 1 24 = false) : rhOk s xs = false := by simp [rhOk, h]
theorem rhOk_mem {s : Int} {xs : List Int} {x : Int} {k : Nat} (hx : xs[k]? = some x) (h : ¬ (0 ≤ x ∧ x < s)) : rhOk s xs = false := by
  rw [Bool.eq_false_iff]; intro h'
  exact h ((rhOk_iff.1 h').2.1 x (List.mem_of_getElem? hx))
theorem rhOk_asc {s : Int} {xs : List Int} {x y : Int} {k : Nat} (hx : xs[k]? = some x) (hy : xs[k + 1]? = some y) (h : ¬ x < y) : rhOk s xs = false := by
  rw [Bool.eq_false_iff]; intro h'
  have hp := (rhOk_iff.1 h').2.2
  obtain ⟨h1, e1⟩ := List.getElem?_eq_some_iff.1 hx
  obtain ⟨h2, e2⟩ := List.getElem?_eq_some_iff.1 hy
  have := List.pairwise_iff_getElem.1 hp k (k + 1) h1 h2 (by omega)
  omega
/-- the first k beats are fit -/
def FitTo (s : Int) (xs : List Int) (k : Nat) : Prop := (∀ x ∈ xs.take k, 0 ≤ x ∧ x < s) ∧ (xs.take k).Pairwise (· < ·)
theorem FitTo.zero (s : Int) (xs : List Int) : FitTo s xs 0 := ⟨by simp, by simp⟩
theorem FitTo.step {s : Int} {xs : List Int} {k : Nat} {x : Int} (h : FitTo s xs k) (hx : xs[k]? = some x) (hr : 0 ≤ x ∧ x < s) (hp : ∀ j y, k = j + 1 → xs[j]? = some y → y < x) : FitTo s xs (k + 1) := by
  have hk := (List.getElem?_eq_some_iff.1 hx).1
  have e : xs.take (k + 1) = xs.take k ++ [x] := by rw [List.take_add_one, hx]; rfl
  unfold FitTo
  rw [e]
  refine ⟨fun y hy => ?_, ?_⟩
  · rcases List.mem_append.1 hy with h1 | h1
    · exact h.1 y h1
    · simp at h1; subst h1; exact hr
  · rw [List.pairwise_append]
    refine ⟨h.2, by simp, fun y hy z hz => ?_⟩
    simp at hz
    subst hz
    obtain ⟨j, hj⟩ := List.mem_iff_getElem?.1 hy
    have hjl := (List.getElem?_eq_some_iff.1 hj).1
    rw [List.length_take] at hjl
    cases k with
    | zero => omega
    | succ k =>
      obtain ⟨v, hv⟩ : ∃ v, xs[k]? = some v := ⟨_, List.getElem?_eq_getElem (by omega)⟩
      have hvx := hp k v rfl hv
      by_cases hjk : j = k
      · subst hjk
        rw [List.getElem?_take] at hj
        split at hj
        · rw [hv] at hj; injection hj with hj; omega
        · cases hj
      · have hpw := List.pairwise_iff_getElem.1 h.2 j k (by rw [List.length_take]; omega) (by rw [List.length_take]; omega) (by omega)
        have e1 : (xs.take (k + 1))[j]'(by rw [List.length_take]; omega) = y := (List.getElem?_eq_some_iff.1 hj).2
        have e2 : (xs.take (k + 1))[k]'(by rw [List.length_take]; omega) = v := by
          have : (xs.take (k + 1))[k]? = some v := by rw [List.getElem?_take]; simp [hv]
          exact (List.getElem?_eq_some_iff.1 this).2
        rw [e1, e2] at hpw
        omega
theorem FitTo.all {s : Int} {xs : List Int} {k : Nat} (h : FitTo s xs k) (hk : xs.length ≤ k) : rhOk s xs = inB s 1 24 := by
  unfold FitTo at h
  rw [List.take_of_length_le hk] at h
  have : okFrom s (-1) xs = true := (okFrom_iff s xs (-1)).2 ⟨fun x hx => by have := h.1 x hx; omega, h.2⟩
  simp [rhOk, this]
theorem asc_len (n : Nat) : ∀ (lo : Int) (xs : List Int), (∀ x ∈ xs, lo ≤ x ∧ x < lo + n) → xs.Pairwise (· < ·) → xs.length ≤ n := by
  induction n with
  | zero =>
    intro lo xs h1 _
    cases xs with
    | nil => simp
    | cons x r => have := h1 x (List.mem_cons_self); omega
  | succ n ih =>
    intro lo xs h1 h2
    cases xs with
    | nil => simp
    | cons x r =>
      have hx := h1 x (List.mem_cons_self)
      have := ih (lo + 1) r (fun y hy => by
        have a := h1 y (List.mem_cons_of_mem _ hy)
        have b := (List.pairwise_cons.1 h2).1 y hy
        omega) (List.pairwise_cons.1 h2).2
      simp; omega
theorem rhOk_len {s : Int} {xs : List Int} (h : rhOk s xs = true) : xs.length ≤ 24 ∧ (xs.length : Int) ≤ s := by
  obtain ⟨h1, h2, h3⟩ := rhOk_iff.1 h
  have := asc_len s.toNat 0 xs (fun x hx => by have := h2 x hx; omega) h3
  omega

/-! the code of a rhythm -/
def codeL (n : Nat) : List Int → Nat
  | [] => 0
  | p :: r => 2 ^ (n - 1 - p.toNat) ||| codeL n r
/-- the first k beats laid -/
def codeTo (n : Nat) (xs : List Int) : Nat → Nat
  | 0 => 0
  | k + 1 => codeTo n xs k ||| 2 ^ (n - 1 - (xs[k]?.getD 0).toNat)
theorem codeTo_tb (n : Nat) (xs : List Int) (k q : Nat) : (codeTo n xs k).testBit q = true ↔ ∃ j x, j < k ∧ xs[j]?.getD 0 = x ∧ n - 1 - x.toNat = q := by
  induction k with
  | zero => simp [codeTo]
  | succ k ih =>
    simp only [codeTo, Nat.testBit_or, Bool.or_eq_true, ih, Nat.testBit_two_pow, decide_eq_true_eq]
    constructor
    · rintro (⟨j, x, h1, h2, h3⟩ | h)
      · exact ⟨j, x, by omega, h2, h3⟩
      · exact ⟨k, _, by omega, rfl, h⟩
    · rintro ⟨j, x, h1, h2, h3⟩
      by_cases hj : j = k
      · subst hj; right; rw [h2]; exact h3
      · left; exact ⟨j, x, by omega, h2, h3⟩
theorem codeTo_lt (n : Nat) (hn : 1 ≤ n) (xs : List Int) (k : Nat) : codeTo n xs k < 2 ^ n := by
  induction k with
  | zero => exact Nat.two_pow_pos n
  | succ k ih => exact Nat.or_lt_two_pow ih (Nat.pow_lt_pow_right (by omega) (by omega))
def codeR (s : Int) (xs : List Int) : Nat := codeTo s.toNat xs xs.length
theorem codeR_tb {s : Int} {xs : List Int} (h : rhOk s xs = true) (q : Nat) (hq : (q : Int) < s) : (codeR s xs).testBit q = true ↔ (s - 1 - q) ∈ xs := by
  obtain ⟨h1, h2, h3⟩ := rhOk_iff.1 h
  unfold codeR
  rw [codeTo_tb]
  constructor
  · rintro ⟨j, x, hj, hx, e⟩
    have hxj : xs[j]? = some x := by rw [List.getElem?_eq_getElem hj] at hx ⊢; simpa using hx
    have hm := List.mem_of_getElem? hxj
    have := h2 x hm
    rwa [show s - 1 - q = x by omega]
  · intro hm
    obtain ⟨j, hj⟩ := List.mem_iff_getElem?.1 hm
    exact ⟨j, s - 1 - q, (List.getElem?_eq_some_iff.1 hj).1, by rw [hj]; rfl, by omega⟩
theorem codeR_lt {s : Int} {xs : List Int} (h : rhOk s xs = true) : codeR s xs < 2 ^ s.toNat := by
  obtain ⟨h1, _, _⟩ := rhOk_iff.1 h
  exact codeTo_lt _ (by omega) _ _

/-- no two beats are d pulses apart -/
def avoidsL (s d : Int) (xs : List Int) : Bool := xs.all fun p => !xs.contains ((p + d) % s)
theorem avoidsL_iff {s d : Int} {xs : List Int} : avoidsL s d xs = true ↔ ∀ p ∈ xs, (p + d) % s ∉ xs := by simp [avoidsL]
theorem emod_of (a n : Int) (q : Int) (h0 : 0 ≤ a - n * q) (h1 : a - n * q < n) : a % n = a - n * q := by
  have : a = (a - n * q) + n * q := by omega
  rw [this, Int.add_mul_emod_self_left]
  rw [Int.emod_eq_of_lt h0 h1]
  omega
theorem av_code {s d : Int} {xs : List Int} (h : rhOk s xs = true) (hd : 1 ≤ d ∧ d < s) : av s.toNat d.toNat (codeR s xs) = avoidsL s d xs := by
  obtain ⟨h1, h2, h3⟩ := rhOk_iff.1 h
  rw [Bool.eq_iff_iff, av_iff (by omega) (codeR_lt h), avoidsL_iff]
  have key : ∀ x : Int, 0 ≤ x → x < s → ((codeR s xs).testBit (s - 1 - x).toNat = true ↔ x ∈ xs) := by
    intro x hx0 hx1
    rw [codeR_tb h _ (by omega), show s - 1 - ((s - 1 - x).toNat : Int) = x by omega]
  constructor
  · intro hh p hp hpd
    have hpr := h2 p hp
    have hb := h2 _ hpd
    -- the pulse p + d, in bits
    have e1 : ((s - 1 - (p + d) % s).toNat + d.toNat) % s.toNat = (s - 1 - p).toNat := by
      by_cases hw : p + d < s
      · rw [Int.emod_eq_of_lt (by omega) hw, Nat.mod_eq_of_lt (by omega)]; omega
      · rw [emod_of (p + d) s 1 (by omega) (by omega), Nat.mod_eq_sub_mod (by omega), Nat.mod_eq_of_lt (by omega)]; omega
    exact hh (s - 1 - (p + d) % s).toNat (by omega) ⟨(key _ hb.1 hb.2).2 hpd, by rw [e1]; exact (key p hpr.1 hpr.2).2 hp⟩
  · intro hh q hq ⟨hb1, hb2⟩
    have hx1 := (codeR_tb h q (by omega)).1 hb1
    have hm : (q + d.toNat) % s.toNat < s.toNat := Nat.mod_lt _ (by omega)
    have hx2 := (codeR_tb h _ (by omega)).1 hb2
    have e1 : (s - 1 - ((q + d.toNat) % s.toNat : Nat) + d) % s = s - 1 - q := by
      by_cases hw : q + d.toNat < s.toNat
      · rw [Nat.mod_eq_of_lt hw, Int.emod_eq_of_lt (by omega) (by omega)]; omega
      · rw [Nat.mod_eq_sub_mod (by omega), Nat.mod_eq_of_lt (by omega), emod_of _ s 1 (by omega) (by omega)]; omega
    exact hh _ hx2 (by rw [e1]; exact hx1)

/- Whether a rhythm is valid: the program's test and the reference's are one. -/
theorem IR.two {w : World} {A : Option Addr} {xs : List Int} (h : IR w A xs) {k : Nat} (h0 : 0 < k) (hk : k < xs.length) :
    ∃ b o x y, A = some ⟨b, o, none⟩ ∧ b < w.heap.size ∧ w.cell? ⟨b, o + k, none⟩ = some (.int .i64 x) ∧ w.cell? ⟨b, o + (k - 1), none⟩ = some (.int .i64 y) ∧ Bx (xs[k]? = some x ∧ xs[k - 1]? = some y) := by
  obtain ⟨b, o, e, hb, hc⟩ := h.2 (by omega)
  exact ⟨b, o, xs[k]?.getD 0, xs[k - 1]?.getD 0, e, hb, hc k hk, hc (k - 1) (by omega), ⟨by simp [hk], by simp [show k - 1 < xs.length by omega]⟩⟩
/-- the value of a rhythm -/
theorem asc_of {s : Int} {xs : List Int} {x y : Int} {k : Nat} (h0 : 0 < k) (h : xs[k]? = some x ∧ xs[k - 1]? = some y) (hn : ¬ y < x) : rhOk s xs = false :=
  rhOk_asc (k := k - 1) h.2 (by rw [show k - 1 + 1 = k by omega]; exact h.1) hn
theorem step_of {s : Int} {xs : List Int} {x y : Int} {k : Nat} (_h0 : 0 < k) (h : xs[k]? = some x ∧ xs[k - 1]? = some y) (hf : FitTo s xs k) (hr : 0 ≤ x ∧ x < s) (hn : y < x) : FitTo s xs (k + 1) :=
  hf.step h.1 hr fun j z hj hz => by
    have : k - 1 = j := by omega
    rw [this, hz] at h
    have := h.2
    injection this with this
    omega

set_option maxHeartbeats 1000000 in
theorem implRhythmOk_any (s : Int) (A : Option Addr) (c : Nat) (xs : List Int) (w : World) (_hs : -9223372036854775808 ≤ s ∧ s ≤ 9223372036854775807) (hx : IR w A xs) :
    Calls Try.prog 31 #[.agg #[.int .i64 s, .slice A xs.length c]] w fun e w' => e = .returned (.bool (rhOk s xs)) ∧ Below w.heap.size w w' := by
  have hlx := hx.len
  have hW : Below w.heap.size w (w.alloc (.cells #[.int .i64 s, .slice A xs.length c] 26)) := (Below.refl _ _).alloc (Nat.le_refl _) _
  by_cases h1 : inB s 1 24 = true
  · have b1 := inB_iff.1 h1
    obtain ⟨b1l, b1r⟩ := b1
    go_enter Try.func31, Try.ntmps31
    go_wp2
    go_loop [8] (fun i => ∃ k : Nat, k ≤ xs.length ∧ i = .int .i64 k ∧ FitTo s xs k) (fun i => xs.length - (intOf i).toNat)
    case atStart => exact ⟨0, by omega, rfl, FitTo.zero _ _⟩
    case round =>
      obtain ⟨k, hk, rfl, hf⟩ := hrel
      have HF := Bx.mk hf
      clear hf
      by_cases hlt : k < xs.length
      · have hkl : (k : Int) < xs.length := by omega
        by_cases h0 : k = 0
        · subst h0
          obtain ⟨b, o, x, rfl, hb, c1, H1⟩ := hx.one hlt
          rw [Nat.add_zero] at c1
          by_cases hr : inB x 0 (s - 1) = true
          · have HN := Bx.mk (HF.out.step H1.out (by have := inB_iff.1 hr; omega) (fun j y hj => by omega))
            go_wp2_with (go_at_call 25; refine (within_any _ _ _ _).mono ?_; rintro e w' ⟨rfl, rfl⟩)
            go_round
            case rel => exact ⟨0 + 1, by omega, by go_num, HN.out⟩
            case measure => simp [intOf]; omega
          · have HN := Bx.mk (rhOk_mem (s := s) H1.out (fun h => hr (inB_yes (by omega))))
            rw [Bool.not_eq_true] at hr
            go_wp2_with (go_at_call 25; refine (within_any _ _ _ _).mono ?_; rintro e w' ⟨rfl, rfl⟩)
            go_ret
            exact ⟨ret_bool HN.out.symm, hW⟩
        · obtain ⟨b, o, x, y, rfl, hb, c1, c2, H1⟩ := hx.two (k := k) (by omega) hlt
          have hk0 : (0 : Int) < k := by omega
          have hkp : 0 < k := by omega
          clear h0
          by_cases hr : inB x 0 (s - 1) = true
          · by_cases hxy : y < x
            · have HN := Bx.mk (step_of hkp H1.out HF.out (by have := inB_iff.1 hr; omega) hxy)
              have hxy2 : ¬ x ≤ y := by omega
              go_wp2_with (go_at_call 25; refine (within_any _ _ _ _).mono ?_; rintro e w' ⟨rfl, rfl⟩)
              go_round
              case rel => exact ⟨k + 1, by omega, by go_num, HN.out⟩
              case measure => simp [intOf]; omega
            · have HN := Bx.mk (asc_of (s := s) hkp H1.out hxy)
              have hxy2 : x ≤ y := by omega
              go_wp2_with (go_at_call 25; refine (within_any _ _ _ _).mono ?_; rintro e w' ⟨rfl, rfl⟩)
              go_ret
              exact ⟨ret_bool HN.out.symm, hW⟩
          · have HN := Bx.mk (rhOk_mem (s := s) H1.out.1 (fun h => hr (inB_yes (by omega))))
            rw [Bool.not_eq_true] at hr
            go_wp2_with (go_at_call 25; refine (within_any _ _ _ _).mono ?_; rintro e w' ⟨rfl, rfl⟩)
            go_ret
            exact ⟨ret_bool HN.out.symm, hW⟩
      · have HN := Bx.mk (HF.out.all (by omega))
        go_wp2_with (go_at_call 25; refine (within_any _ _ _ _).mono ?_; rintro e w' ⟨rfl, rfl⟩)
        go_ret
        exact ⟨ret_bool (by rw [HN.out, h1]), hW⟩
  · rw [Bool.not_eq_true] at h1
    have HR := Bx.mk (rhOk_size (xs := xs) h1)
    go_enter Try.func31, Try.ntmps31
    go_wp2
    go_loop [8] (fun i => ∃ k : Nat, k ≤ xs.length ∧ i = .int .i64 k) (fun i => xs.length - (intOf i).toNat)
    case atStart => exact ⟨0, by omega, rfl⟩
    case round =>
      obtain ⟨k, hk, rfl⟩ := hrel
      by_cases hlt : k < xs.length
      · have hkl : (k : Int) < xs.length := by omega
        by_cases h0 : k = 0
        · subst h0
          obtain ⟨b, o, x, rfl, hb, c1, H1⟩ := hx.one hlt
          rw [Nat.add_zero] at c1
          go_wp2_with (go_at_call 25; refine (within_any _ _ _ _).mono ?_; rintro e w' ⟨rfl, rfl⟩)
          all_goals first
            | (go_ret; exact ⟨ret_bool HR.out.symm, hW⟩)
            | (go_round
               case rel => exact ⟨0 + 1, by omega, by go_num⟩
               case measure => simp [intOf]; omega)
        · obtain ⟨b, o, x, y, rfl, hb, c1, c2, H1⟩ := hx.two (k := k) (by omega) hlt
          have hk0 : (0 : Int) < k := by omega
          clear h0
          go_wp2_with (go_at_call 25; refine (within_any _ _ _ _).mono ?_; rintro e w' ⟨rfl, rfl⟩)
          all_goals first
            | (go_ret; exact ⟨ret_bool HR.out.symm, hW⟩)
            | (go_round
               case rel => exact ⟨k + 1, by omega, by go_num⟩
               case measure => simp [intOf]; omega)
      · go_wp2_with (go_at_call 25; refine (within_any _ _ _ _).mono ?_; rintro e w' ⟨rfl, rfl⟩)
        go_ret
        exact ⟨ret_bool HR.out.symm, hW⟩

set_option maxHeartbeats 1000000 in
theorem specRhythmOk_any (s : Int) (A : Option Addr) (c : Nat) (xs : List Int) (w : World) (_hs : -9223372036854775808 ≤ s ∧ s ≤ 9223372036854775807) (hx : IR w A xs) :
    Calls Try.prog 28 #[.agg #[.int .i64 s, .slice A xs.length c]] w fun e w' => e = .returned (.bool (rhOk s xs)) ∧ Below w.heap.size w w' := by
  have hlx := hx.len
  have hW : Below w.heap.size w (w.alloc (.cells #[.int .i64 s, .slice A xs.length c] 26)) := (Below.refl _ _).alloc (Nat.le_refl _) _
  by_cases h1 : inB s 1 24 = true
  · have b1 := inB_iff.1 h1
    obtain ⟨b1l, b1r⟩ := b1
    go_enter Try.func28, Try.ntmps28
    go_wp2_with (go_at_call 29; refine (l01In_any _ _ _ _).mono ?_; rintro e w' ⟨rfl, rfl⟩)
    go_loop [12] (fun i => ∃ k : Nat, k ≤ xs.length ∧ i = .int .i64 k ∧ FitTo s xs k) (fun i => xs.length - (intOf i).toNat)
    case atStart => exact ⟨0, by omega, rfl, FitTo.zero _ _⟩
    case round =>
      obtain ⟨k, hk, rfl, hf⟩ := hrel
      have HF := Bx.mk hf
      clear hf
      by_cases hlt : k < xs.length
      · have hkl : (k : Int) < xs.length := by omega
        by_cases h0 : k = 0
        · subst h0
          obtain ⟨b, o, x, rfl, hb, c1, H1⟩ := hx.one hlt
          rw [Nat.add_zero] at c1
          by_cases hr : inB x 0 (s - 1) = true
          · have HN := Bx.mk (HF.out.step H1.out (by have := inB_iff.1 hr; omega) (fun j y hj => by omega))
            go_wp2_with (go_at_call 29; refine (l01In_any _ _ _ _).mono ?_; rintro e w' ⟨rfl, rfl⟩)
            go_round
            case rel => exact ⟨0 + 1, by omega, by go_num, HN.out⟩
            case measure => simp [intOf]; omega
          · have HN := Bx.mk (rhOk_mem (s := s) H1.out (fun h => hr (inB_yes (by omega))))
            rw [Bool.not_eq_true] at hr
            go_wp2_with (go_at_call 29; refine (l01In_any _ _ _ _).mono ?_; rintro e w' ⟨rfl, rfl⟩)
            go_ret
            exact ⟨ret_bool HN.out.symm, hW⟩
        · obtain ⟨b, o, x, y, rfl, hb, c1, c2, H1⟩ := hx.two (k := k) (by omega) hlt
          have hk0 : (0 : Int) < k := by omega
          have hkp : 0 < k := by omega
          clear h0
          by_cases hr : inB x 0 (s - 1) = true
          · by_cases hxy : y < x
            · have HN := Bx.mk (step_of hkp H1.out HF.out (by have := inB_iff.1 hr; omega) hxy)
              have hxy2 : ¬ x ≤ y := by omega
              go_wp2_with (go_at_call 29; refine (l01In_any _ _ _ _).mono ?_; rintro e w' ⟨rfl, rfl⟩)
              go_round
              case rel => exact ⟨k + 1, by omega, by go_num, HN.out⟩
              case measure => simp [intOf]; omega
            · have HN := Bx.mk (asc_of (s := s) hkp H1.out hxy)
              have hxy2 : x ≤ y := by omega
              go_wp2_with (go_at_call 29; refine (l01In_any _ _ _ _).mono ?_; rintro e w' ⟨rfl, rfl⟩)
              go_ret
              exact ⟨ret_bool HN.out.symm, hW⟩
          · have HN := Bx.mk (rhOk_mem (s := s) H1.out.1 (fun h => hr (inB_yes (by omega))))
            rw [Bool.not_eq_true] at hr
            go_wp2_with (go_at_call 29; refine (l01In_any _ _ _ _).mono ?_; rintro e w' ⟨rfl, rfl⟩)
            go_ret
            exact ⟨ret_bool HN.out.symm, hW⟩
      · have HN := Bx.mk (HF.out.all (by omega))
        have H2 := Bx.mk h1
        go_wp2
        go_ret
        exact ⟨ret_bool (by rw [HN.out, H2.out]), hW⟩
  · rw [Bool.not_eq_true] at h1
    have HR := Bx.mk (rhOk_size (xs := xs) h1)
    go_enter Try.func28, Try.ntmps28
    go_wp2_with (go_at_call 29; refine (l01In_any _ _ _ _).mono ?_; rintro e w' ⟨rfl, rfl⟩)
    go_ret
    exact ⟨ret_bool HR.out.symm, hW⟩

/- The program's test whether a code avoids a difference. -/
theorem i64_and (a b : Nat) (ha : a < 9223372036854775808) (hb : b < 9223372036854775808) : bits .and .i64 (a : Int) (b : Int) = ((a &&& b : Nat) : Int) := by
  have h1 : (BitVec.ofInt 64 (a : Int)).toNat = a := by rw [BitVec.ofInt_natCast, BitVec.toNat_ofNat]; exact Nat.mod_eq_of_lt (by omega)
  have h2 : (BitVec.ofInt 64 (b : Int)).toNat = b := by rw [BitVec.ofInt_natCast, BitVec.toNat_ofNat]; exact Nat.mod_eq_of_lt (by omega)
  have hx : a &&& b ≤ a := Nat.and_le_left
  show IntKind.i64.wrap ((BitVec.ofInt 64 (a : Int) &&& BitVec.ofInt 64 (b : Int)).toNat : Int) = _
  rw [BitVec.toNat_and, h1, h2, IntWalk.i64_in _ (by omega)]
theorem i64_or (a b : Nat) (ha : a < 4611686018427387904) (hb : b < 4611686018427387904) : bits .or .i64 (a : Int) (b : Int) = ((a ||| b : Nat) : Int) := by
  have h1 : (BitVec.ofInt 64 (a : Int)).toNat = a := by rw [BitVec.ofInt_natCast, BitVec.toNat_ofNat]; exact Nat.mod_eq_of_lt (by omega)
  have h2 : (BitVec.ofInt 64 (b : Int)).toNat = b := by rw [BitVec.ofInt_natCast, BitVec.toNat_ofNat]; exact Nat.mod_eq_of_lt (by omega)
  have hx : a ||| b < 2 ^ 62 := Nat.or_lt_two_pow (by omega) (by omega)
  show IntKind.i64.wrap ((BitVec.ofInt 64 (a : Int) ||| BitVec.ofInt 64 (b : Int)).toNat : Int) = _
  rw [BitVec.toNat_or, h1, h2, IntWalk.i64_in _ (by omega)]
theorem pow_le_24 {n : Nat} (h : n ≤ 24) : 2 ^ n ≤ 16777216 := Nat.pow_le_pow_right (n := 2) (by omega) h
theorem wrap_pow {n : Nat} (h : n ≤ 24) : wrap64 ((2 : Int) ^ n) = ((2 ^ n : Nat) : Int) := by
  have := pow_le_24 h
  have e : ((2 ^ n : Nat) : Int) = (2 : Int) ^ n := Int.natCast_pow 2 n
  rw [← e]
  clear e
  generalize 2 ^ n = m at *
  exact IntWalk.wrap64_in _ (by omega)
theorem av_form {n d c : Nat} (hn : n ≤ 24) (_hd : d ≤ n) (hc : c < 2 ^ n) :
    (bits .and .i64 (c : Int) (bits .or .i64 ((c : Int) / 2 ^ d) (bits .and .i64 (wrap64 ((c : Int) * 2 ^ (n - d))) (wrap64 (wrap64 (2 ^ n) - 1)))) == 0) = av n d c := by
  have h24 := pow_le_24 hn
  have hp := Nat.two_pow_pos n
  have hnd : 2 ^ (n - d) ≤ 16777216 := pow_le_24 (by omega)
  have hm : c * 2 ^ (n - d) ≤ 16777216 * 16777216 := Nat.mul_le_mul (by omega) hnd
  have e1 : (c : Int) / 2 ^ d = ((c / 2 ^ d : Nat) : Int) := by rw [Int.natCast_ediv, Int.natCast_pow]; rfl
  have e2 : (c : Int) * 2 ^ (n - d) = ((c * 2 ^ (n - d) : Nat) : Int) := by rw [Int.natCast_mul, Int.natCast_pow]; rfl
  have e3 : wrap64 (wrap64 ((2 : Int) ^ n) - 1) = ((2 ^ n - 1 : Nat) : Int) := by
    rw [wrap_pow hn]
    clear e1 e2 hm hnd hc
    generalize 2 ^ n = m at *
    rw [IntWalk.wrap64_in _ (by omega)]; omega
  have hdv : c / 2 ^ d ≤ c := Nat.div_le_self _ _
  have l1 : (c * 2 ^ (n - d)) &&& (2 ^ n - 1) ≤ 2 ^ n - 1 := Nat.and_le_right
  rw [e1, e2, e3, IntWalk.wrap64_in _ (by omega), i64_and _ _ (by omega) (by omega), i64_or _ _ (by omega) (by omega),
    i64_and _ _ (by omega) (Nat.lt_of_lt_of_le (Nat.or_lt_two_pow (n := 62) (by omega) (by omega)) (by omega))]
  unfold av
  rw [Bool.eq_iff_iff]
  simp

/- Whether a rhythm has a beat on a pulse, around; the code of a rhythm; whether it avoids a difference. -/
def hasR (s : Int) (xs : List Int) (k : Int) : Bool := memB xs (k % s)
set_option maxHeartbeats 400000 in
theorem has_any (s : Int) (A : Option Addr) (c : Nat) (xs : List Int) (k : Int) (w : World) (hs : 1 ≤ s ∧ s ≤ 24) (hk : -1000000000 ≤ k ∧ k ≤ 1000000000) (hx : IR w A xs) :
    Calls Try.prog 34 #[.agg #[.int .i64 s, .slice A xs.length c], .int .i64 k] w fun e w' => e = .returned (.bool (hasR s xs k)) ∧ Below w.heap.size w w' := by
  have hx1 := Bx.mk (hx.below (below_alloc w (.cells #[.int .i64 s, .slice A xs.length c] 26)))
  obtain ⟨hs1, hs2⟩ := hs
  go_enter Try.func34, Try.ntmps34
  go_wp2
  go_quiet ((first | (go_at_call 41; exact q_same (remainder_any _ _ hs1 (by omega) (by omega) _)) | (go_at_call 33; exact q_same (contains_any _ _ _ _ _ (by exact hx1.out)))))
  go_wp2
  go_ret
  exact ⟨rfl, below_alloc_drewN _ _ _⟩

def avoidsI (s : Int) (xs : List Int) (d : Int) : Bool := rhOk s xs && inB d 1 (s - 1) && avoidsL s d xs


/- How often each pulse is a sum of two beats: plain laws. -/
def inc (l : List Int) (i : Nat) : List Int := l.set i (l[i]?.getD 0 + 1)
def inC (s p : Int) (ys : List Int) (l : List Int) : Nat → List Int
  | 0 => l
  | b + 1 => inc (inC s p ys l b) ((p + ys[b]?.getD 0) % s).toNat
def outC (s : Int) (xs ys : List Int) : Nat → List Int
  | 0 => List.replicate s.toNat 0
  | a + 1 => inC s (xs[a]?.getD 0) ys (outC s xs ys a) ys.length
def sumC (s : Int) (xs ys : List Int) : List Int := outC s xs ys xs.length
theorem inc_len (l : List Int) (i : Nat) : (inc l i).length = l.length := by simp [inc]
theorem inC_len (s p : Int) (ys l : List Int) (b : Nat) : (inC s p ys l b).length = l.length := by
  induction b with
  | zero => rfl
  | succ b ih => simp only [inC, inc_len, ih]
theorem outC_len (s : Int) (xs ys : List Int) (a : Nat) : (outC s xs ys a).length = s.toNat := by
  induction a with
  | zero => simp [outC]
  | succ a ih => simp only [outC, inC_len, ih]
theorem sumC_len (s : Int) (xs ys : List Int) : (sumC s xs ys).length = s.toNat := outC_len _ _ _ _
def AllB (l : List Int) (N : Int) : Prop := ∀ (i : Nat) (x : Int), l[i]? = some x → 0 ≤ x ∧ x ≤ N
theorem AllB.inc {l : List Int} {N : Int} (h : AllB l N) (_hN : 0 ≤ N) (i : Nat) : AllB (inc l i) (N + 1) := by
  intro j x hx
  unfold Go.Proofs.Ytpejnhcmelkmeaa.inc at hx
  by_cases hij : i = j
  · subst hij
    have hl : i < l.length := by have := (List.getElem?_eq_some_iff.1 hx).1; simpa using this
    rw [List.getElem?_set_self hl] at hx
    have := h i _ (List.getElem?_eq_getElem hl)
    rw [List.getElem?_eq_getElem hl] at hx
    simp at hx
    omega
  · rw [List.getElem?_set_ne hij] at hx
    have := h j x hx
    omega
theorem inC_bd {s p : Int} {ys l : List Int} {N : Int} (h : AllB l N) (hN : 0 ≤ N) (b : Nat) : AllB (inC s p ys l b) (N + b) := by
  induction b with
  | zero => simpa [inC] using h
  | succ b ih => have := ih.inc (by omega) ((p + ys[b]?.getD 0) % s).toNat; simp only [inC]; rw [Int.natCast_add, ← Int.add_assoc]; exact this
theorem outC_bd (s : Int) (xs ys : List Int) (a : Nat) : AllB (outC s xs ys a) (a * ys.length : Nat) := by
  induction a with
  | zero =>
    intro i x hx
    simp only [outC] at hx
    rw [List.getElem?_replicate] at hx
    split at hx
    · injection hx with hx; omega
    · cases hx
  | succ a ih =>
    have := inC_bd (s := s) (p := xs[a]?.getD 0) (ys := ys) ih (by omega) ys.length
    simp only [outC]
    rw [Nat.succ_mul, Int.natCast_add]
    exact this
theorem two_bd {s : Int} {xs ys : List Int} (hx : rhOk s xs = true) (hy : rhOk s ys = true) (a b : Nat) (ha : a < xs.length) (hb : b < ys.length) (i : Nat) (y : Int)
    (h : (inC s (xs[a]?.getD 0) ys (outC s xs ys a) b)[i]? = some y) : 0 ≤ y ∧ y ≤ 1000 := by
  have h1 := inC_bd (s := s) (p := xs[a]?.getD 0) (ys := ys) (outC_bd s xs ys a) (by omega) b i y h
  have h2 := (rhOk_len hx).1
  have h3 := (rhOk_len hy).1
  have h4 : a * ys.length ≤ 24 * 24 := Nat.mul_le_mul (by omega) h3
  omega

/- The program's greatest common divisor. -/

/- The reference's greatest common divisor. -/
end Go.Proofs.Ytpejnhcmelkmeaa
