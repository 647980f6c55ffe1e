/- Plain words for memory: what it says that a slice reads as a list of ints, that the call owns a row of ints, and how both are kept. -/
import Derived.Test.YtihbgpcmphemmaaRows
import Derived.WalkKit
import Derived.WalkSpells
import Derived.WalkLawsBesides
import Derived.Lib.Hide
import Derived.Deep.Draws
import Derived.Laws.OwnMore
import Derived.WalkSmall
import Derived.Laws.MakeOwn
namespace Go.Proofs.Ytihbgpcmphemmaa
open Go.RowKit

/-- a fact that the walk cannot look into -/
structure Bx (p : Prop) : Prop where
  out : p

theorem ret_int {k : IntKind} {a b : Int} (h : a = b) : Ending.returned (.int k a) = .returned (.int k b) := by rw [h]
theorem ret_bool {a b : Bool} (h : a = b) : Ending.returned (.bool a) = .returned (.bool b) := by rw [h]

theorem info_int : (Try.prog.info? 3).map (fun i => (i.zero, i.size, i.bytes)) = some (some (.int .i64 0), 1, 8) := by kernel_rfl

/-- what go_simp wants of a world that is as it was below a block -/
theorem bcell {B : Nat} {W w1 : World} (hb : Below B W w1) : (∀ b o, b < B → w1.cell? ⟨b, o, none⟩ = W.cell? ⟨b, o, none⟩) ∧ (∀ b o, b < B → w1.frozen? ⟨b, o, none⟩ = W.frozen? ⟨b, o, none⟩) :=
  ⟨fun b o h => hb.cell (p := ⟨b, o, none⟩) h, fun b o h => hb.frozen (p := ⟨b, o, none⟩) h⟩

theorem bdrewN {B : Nat} {a w : World} (h : Below B a w) (n : Nat) : Below B a (w.drewN n) := ⟨h.os, h.tape, h.output, h.size, h.block⟩
theorem bdrewN_refl {B : Nat} (a : World) (n : Nat) : Below B a (a.drewN n) := bdrewN (Below.refl _ _) n

def ints (xs : List Int) : List Value := xs.map (.int .i64)
theorem ints_length (xs : List Int) : (ints xs).length = xs.length := by simp [ints]
theorem ints_get {xs : List Int} {k : Nat} (h : k < xs.length) : (ints xs)[k]? = some (.int .i64 (xs[k]?.getD 0)) := by
  simp [ints, h]

/-- the ints of a list fit a machine int -/
def Fits (xs : List Int) : Prop := ∀ x ∈ xs, -9223372036854775808 ≤ x ∧ x ≤ 9223372036854775807
theorem Fits.at_ {xs : List Int} (h : Fits xs) {k : Nat} (hk : k < xs.length) : -9223372036854775808 ≤ xs[k]?.getD 0 ∧ xs[k]?.getD 0 ≤ 9223372036854775807 := by
  rw [List.getElem?_eq_getElem hk]; exact h _ (List.getElem_mem hk)

/-- the slice value with the address A and the length of xs reads as xs -/
def IR (w : World) (A : Option Addr) (xs : List Int) : Prop :=
  xs.length ≤ 17592186044415 ∧ (0 < xs.length → ∃ b o, A = some ⟨b, o, none⟩ ∧ b < w.heap.size ∧ ∀ k, k < xs.length → w.cell? ⟨b, o + k, none⟩ = some (.int .i64 (xs[k]?.getD 0)))

theorem IR.nil (w : World) (A : Option Addr) : IR w A [] := ⟨by simp, fun h => absurd h (by simp)⟩
theorem IR.len {w : World} {A : Option Addr} {xs : List Int} (h : IR w A xs) : xs.length ≤ 17592186044415 := h.1
theorem IR.at_ {w : World} {A : Option Addr} {xs : List Int} (h : IR w A xs) (h0 : 0 < xs.length) :
    ∃ b o, A = some ⟨b, o, none⟩ ∧ b < w.heap.size ∧ ∀ k, k < xs.length → w.cell? ⟨b, o + k, none⟩ = some (.int .i64 (xs[k]?.getD 0)) := h.2 h0
theorem IR.one {w : World} {A : Option Addr} {xs : List Int} (h : IR w A xs) {k : Nat} (hk : k < xs.length) :
    ∃ b o x, A = some ⟨b, o, none⟩ ∧ b < w.heap.size ∧ w.cell? ⟨b, o + k, none⟩ = some (.int .i64 x) ∧ Hid (xs[k]? = some x) := by
  obtain ⟨b, o, e, hb, hc⟩ := h.2 (by omega)
  exact ⟨b, o, xs[k]?.getD 0, e, hb, hc k hk, by simp [Hid, hk]⟩
theorem IR.below {w w' : World} {A : Option Addr} {xs : List Int} (h : IR w A xs) (hb : Below w.heap.size w w') : IR w' A xs :=
  ⟨h.1, fun h0 => by
    obtain ⟨b, o, e, hlt, hc⟩ := h.2 h0
    exact ⟨b, o, e, Nat.lt_of_lt_of_le hlt hb.size, fun k hk => ((bcell hb).1 b _ hlt).trans (hc k hk)⟩⟩
theorem IR.drewN {w : World} {A : Option Addr} {xs : List Int} (h : IR w A xs) (n : Nat) : IR (w.drewN n) A xs := h
theorem IR.alloc {w : World} {A : Option Addr} {xs : List Int} (h : IR w A xs) (o : Obj) : IR (w.alloc o) A xs := h.below ((Below.refl _ _).alloc (Nat.le_refl _) o)
theorem IR.below' {w w' : World} {A : Option Addr} {xs : List Int} {B : Nat} (h : IR w A xs) (hb : Below B w w') (hB : w.heap.size ≤ B) : IR w' A xs := h.below (hb.mono hB)

/-- the call owns the row: nil, or the head of a block of its own from 'base' on whose first cells are xs -/
def IO (w : World) (base : Nat) (A : Option Addr) (c : Nat) (xs : List Int) : Prop :=
  xs.length ≤ c ∧ xs.length ≤ 17592186044415 ∧ ((A = none ∧ xs = []) ∨ ∃ g cur, A = some ⟨g, 0, none⟩ ∧ base ≤ g ∧ w.heap[g]? = some (.cells cur 3 (0, 0)) ∧ c ≤ cur.size ∧ cur.toList.take xs.length = ints xs)

theorem heap_lt {w : World} {g : Nat} {x : Obj} (h : w.heap[g]? = some x) : g < w.heap.size := (Array.getElem?_eq_some_iff.1 h).1

theorem IO.reads {w : World} {base c : Nat} {A : Option Addr} {xs : List Int} (h : IO w base A c xs) : IR w A xs := by
  refine ⟨h.2.1, fun h0 => ?_⟩
  rcases h.2.2 with ⟨_, rfl⟩ | ⟨g, cur, e, _, hh, hc, ht⟩
  · simp at h0
  · refine ⟨g, 0, e, heap_lt hh, fun k hk => ?_⟩
    rw [Nat.zero_add, cell_of_row w g k cur _ (0, 0) hh]
    have := congrArg (fun l => l[k]?) ht
    simp only [List.getElem?_take, if_pos hk] at this
    rw [ints_get hk] at this
    simpa using this
theorem IO.below {w w' : World} {base c B : Nat} {A : Option Addr} {xs : List Int} (h : IO w base A c xs) (hb : Below B w w') (hB : w.heap.size ≤ B) : IO w' base A c xs := by
  refine ⟨h.1, h.2.1, ?_⟩
  rcases h.2.2 with h' | ⟨g, cur, e, hg, hh, r⟩
  · exact .inl h'
  · exact .inr ⟨g, cur, e, hg, (hb.block g (Nat.lt_of_lt_of_le (heap_lt hh) hB)).trans hh, r⟩
theorem IO.mono {w : World} {base base' c : Nat} {A : Option Addr} {xs : List Int} (h : IO w base A c xs) (hb : base' ≤ base) : IO w base' A c xs := by
  refine ⟨h.1, h.2.1, ?_⟩
  rcases h.2.2 with h' | ⟨g, cur, e, hg, hh, r⟩
  · exact .inl h'
  · exact .inr ⟨g, cur, e, Nat.le_trans hb hg, hh, r⟩
theorem IO.nil (w : World) (base : Nat) : IO w base none 0 [] := ⟨by simp, by simp, .inl ⟨rfl, rfl⟩⟩
/-- out of the library's own word -/
theorem IO.of_row {w : World} {base : Nat} {v : Value} {xs : List Int} (h : w.ownsRow base 3 1 v xs.length (ints xs)) (hl : xs.length ≤ 17592186044415) : ∃ A c, v = .slice A xs.length c ∧ IO w base A c xs := by
  rcases h.2 with ⟨rfl, h0⟩ | ⟨g, cap, cur, rfl, hg, hh, hn, _, hs, ht⟩
  · have : xs = [] := List.eq_nil_of_length_eq_zero h0
    subst this
    exact ⟨none, 0, rfl, IO.nil w base⟩
  · exact ⟨_, cap, rfl, hn, hl, .inr ⟨g, cur, rfl, hg, hh, by omega, by simpa using ht⟩⟩

/-- of what was there only the block that A points into has turned -/
def Only (w w' : World) (A : Option Addr) : Prop := w.grownBy w' (A.map (·.block))
theorem Only.refl (w : World) (A : Option Addr) : Only w w A := ⟨rfl, rfl, rfl, Nat.le_refl _, fun _ _ _ => rfl⟩
theorem Only.trans {a b c : World} {A : Option Addr} (h : Only a b A) (k : Only b c A) : Only a c A :=
  ⟨k.os.trans h.os, k.tape.trans h.tape, k.output.trans h.output, Nat.le_trans h.size k.size, fun i hi hn => (k.block i (Nat.lt_of_lt_of_le hi h.size) hn).trans (h.block i hi hn)⟩
theorem Only.drewN {a b : World} {A : Option Addr} (h : Only a b A) (n : Nat) : Only a (b.drewN n) A := ⟨h.os, h.tape, h.output, h.size, h.block⟩
theorem Only.alloc {a b : World} {A : Option Addr} (h : Only a b A) (o : Obj) : Only a (b.alloc o) A :=
  ⟨h.os, h.tape, h.output, Nat.le_trans h.size (by simp), fun i hi hne => (Below.heap_alloc b o i (Nat.lt_of_lt_of_le hi h.size)).trans (h.block i hi hne)⟩
theorem Only.below {a b : World} {A : Option Addr} (h : Only a b A) {B : Nat} (hB : B ≤ a.heap.size) (hA : ∀ x, A = some x → B ≤ x.block) : Below B a b :=
  ⟨h.os, h.tape, h.output, h.size, fun k hk => h.block k (by omega) (fun e => by
    cases A with
    | none => cases e
    | some x => have := hA x rfl; injection e with e; simp at e; omega)⟩
theorem Only.of_below {a b : World} (A : Option Addr) (h : Below a.heap.size a b) : Only a b A := ⟨h.os, h.tape, h.output, h.size, fun i hi _ => h.block i hi⟩
theorem Only.set {a b : World} {g i : Nat} (h : Only a b (some ⟨g, 0, none⟩)) (v : Value) : Only a (b.setCell ⟨g, i, none⟩ v) (some ⟨g, 0, none⟩) :=
  ⟨h.os, h.tape, h.output, by simpa [World.setCell] using h.size, fun k hk hne => (Below.heap_setCell b ⟨g, i, none⟩ v k (by rintro rfl; exact hne rfl)).trans (h.block k hk hne)⟩

theorem IR.only {w w' : World} {A B : Option Addr} {xs : List Int} (h : IR w A xs) (ho : Only w w' B) (hne : ∀ a b, A = some a → B = some b → a.block ≠ b.block) : IR w' A xs :=
  ⟨h.1, fun h0 => by
    obtain ⟨b, o, e, hlt, hc⟩ := h.2 h0
    refine ⟨b, o, e, Nat.lt_of_lt_of_le hlt ho.size, fun k hk => ?_⟩
    rw [← hc k hk]
    refine World.cell?_of_block (w := w) (ho.block b hlt ?_)
    intro e'
    cases B with
    | none => cases e'
    | some x => injection e' with e'; exact hne _ _ e rfl e'⟩
theorem IO.only {w w' : World} {base c : Nat} {A B : Option Addr} {xs : List Int} (h : IO w base A c xs) (ho : Only w w' B) (hne : ∀ a b, A = some a → B = some b → a.block ≠ b.block) : IO w' base A c xs := by
  refine ⟨h.1, h.2.1, ?_⟩
  rcases h.2.2 with h' | ⟨g, cur, e, hg, hh, r⟩
  · exact .inl h'
  · refine .inr ⟨g, cur, e, hg, (ho.block g (heap_lt hh) ?_).trans hh, r⟩
    intro e'
    cases B with
    | none => cases e'
    | some x => injection e' with e'; exact hne _ _ e rfl e'

/-- a block that is known whole -/
def Blk (w : World) (g : Nat) (t : TypeId) (cs : Array Value) : Prop := w.heap[g]? = some (.cells cs t (0, 0))
theorem Blk.lt {w : World} {g : Nat} {t : TypeId} {cs : Array Value} (h : Blk w g t cs) : g < w.heap.size := heap_lt h
theorem Blk.cell {w : World} {g : Nat} {t : TypeId} {cs : Array Value} (h : Blk w g t cs) (i : Nat) : w.cell? ⟨g, i, none⟩ = cs[i]? := cell_of_row w g i cs t (0, 0) h
theorem Blk.frozen {w : World} {g : Nat} {t : TypeId} {cs : Array Value} (h : Blk w g t cs) (i : Nat) : w.frozen? ⟨g, i, none⟩ = false := by
  unfold Blk at h; simp [World.frozen?, h]
theorem Blk.set {w : World} {g : Nat} {t : TypeId} {cs : Array Value} (h : Blk w g t cs) (i : Nat) (u : Value) : Blk (w.setCell ⟨g, i, none⟩ u) g t (cs.setIfInBounds i u) := by
  unfold Blk at h ⊢; simp [World.setCell, Array.getElem?_modify, h]
theorem Blk.below {w w' : World} {g B : Nat} {t : TypeId} {cs : Array Value} (h : Blk w g t cs) (hb : Below B w w') (hg : g < B) : Blk w' g t cs := (hb.block g hg).trans h
theorem Blk.new (w : World) (t : TypeId) (cs : Array Value) : Blk (w.alloc (.cells cs t)) w.heap.size t cs := heap_alloc_new w _
theorem Blk.drewN {w : World} {g : Nat} {t : TypeId} {cs : Array Value} (h : Blk w g t cs) (n : Nat) : Blk (w.drewN n) g t cs := h
theorem Blk.alloc {w : World} {g : Nat} {t : TypeId} {cs : Array Value} (h : Blk w g t cs) (o : Obj) : Blk (w.alloc o) g t cs := (Below.heap_alloc w o g h.lt).trans h

/-- make([]int, n) -/
theorem make_ints (n : Nat) (hn : n ≤ 17592186044415) (W : World) : (Instr.makeSlice 24 (.int .i64 (n : Int)) (.int .i64 (n : Int))).run Try.prog W =
    .ok (.slice (some ⟨W.heap.size, 0, none⟩) n n) (W.alloc (.cells (madeCells #[.int .i64 0] n) 3)) := by
  obtain ⟨i0, hi0, hz0, hz1, hz2⟩ := info_parts info_int
  have h := run_make (P := Try.prog) W 24 3 i0 _ Try.underlying24 hi0 hz0 .i64 .i64 n n (by omega) (by omega) (by rw [hz2]; omega) (by omega)
  rw [hz1] at h
  simpa [Value.cells] using h
theorem made_size (n : Nat) : (madeCells #[.int .i64 0] n).size = n := size_madeCells _ _
theorem made_zero (n : Nat) : madeCells #[.int .i64 0] n = (List.replicate n (Value.int .i64 0)).toArray := by
  apply Array.ext
  · simp [madeCells]
  · intro i h1 h2
    simp [madeCells]
    rw [Nat.mod_one]
    rfl
theorem IO.setLow {w : World} {base c : Nat} {A : Option Addr} {xs : List Int} (h : IO w base A c xs) {p : Addr} (hp : p.block < base) (u : Value) : IO (w.setCell p u) base A c xs := by
  refine ⟨h.1, h.2.1, ?_⟩
  rcases h.2.2 with h' | ⟨g, cur, e, hg, hh, r⟩
  · exact .inl h'
  · exact .inr ⟨g, cur, e, hg, (Below.heap_setCell w p u g (by omega)).trans hh, r⟩
theorem IR.setHigh {w : World} {A : Option Addr} {xs : List Int} {B : Nat} (h : IR w A xs) (hA : ∀ x, A = some x → x.block < B) {p : Addr} (hp : B ≤ p.block) (u : Value) : IR (w.setCell p u) A xs := by
  refine ⟨h.1, fun h0 => ?_⟩
  obtain ⟨b, o, e, hlt, hc⟩ := h.2 h0
  have hb := hA _ e
  simp at hb
  refine ⟨b, o, e, by simpa [World.setCell] using hlt, fun k hk => ?_⟩
  rw [← hc k hk]
  exact World.cell?_setCell_other _ _ _ _ (by intro e'; rw [e'] at hp; simp at hp; omega)
theorem drewN2 (w : World) (a b : Nat) : (w.drewN a).drewN b = w.drewN (a + b) := World.drewN_drewN _ _ _
theorem ex_drewN (w : World) (a b : Nat) : ∃ k, (w.drewN a).drewN b = w.drewN k := ⟨a + b, drewN2 _ _ _⟩
end Go.Proofs.Ytihbgpcmphemmaa
