/- The sum of two rhythms; tilings. -/
import Derived.Test.YtihbgpcmphemmaaBtw
import Derived.Test.YtihbgpcmphemmaaSel
import Derived.Test.YtihbgpcmphemmaaBas
namespace Go.Proofs.Ytihbgpcmphemmaa
open Go.RowKit

theorem Only.cellAt {w w' : World} {g b i : Nat} (o : Only w w' (some ⟨g, 0, none⟩)) (hb : b < w.heap.size) (hne : b ≠ g) : w'.cell? ⟨b, i, none⟩ = w.cell? ⟨b, i, none⟩ :=
  World.cell?_of_block (w := w) (o.block b hb (by intro e; simp at e; omega))
theorem IR.onlyAt {w w' : World} {g : Nat} {A : Option Addr} {xs : List Int} {lo hi : Nat} (h : RB lo hi w A xs) (o : Only w w' (some ⟨g, 0, none⟩)) (hd : hi ≤ g ∨ g < lo) : IR w' A xs := by
  by_cases h0 : 0 < xs.length
  · exact h.1.only o fun a b ea eb => by have := h.2 h0 a ea; injection eb with eb; subst eb; simp; omega
  · exact ⟨h.1.1, fun h1 => absurd h1 h0⟩
theorem Row.onlyAt {w w' : World} {base g : Nat} {v : Value} {xs : List Int} (h : Row w base v xs) (o : Only w w' (some ⟨g, 0, none⟩)) (hg : g < base) : Row w' base v xs := by
  refine ⟨h.1, ?_⟩
  rcases h.2 with h' | ⟨g', cap, cur, e, hg', hh, r⟩
  · exact .inl h'
  · exact .inr ⟨g', cap, cur, e, hg', (o.block g' (heap_lt hh) (by intro e; simp at e; omega)).trans hh, r⟩
theorem Row.io' {w : World} {base n c : Nat} {A : Option Addr} {xs : List Int} (h : Row w base (.slice A n c) xs) (_hn : n = xs.length) (hl : xs.length ≤ 17592186044415) : IO w base A c xs := by
  obtain ⟨A1, c1, e, hio⟩ := h.io hl
  injection e with e1 e2 e3
  subst e1 e3
  exact hio
theorem Only.after {a b c : World} {A : Option Addr} (h : Only a b A) (k : Below a.heap.size b c) : Only a c A :=
  ⟨k.os.trans h.os, k.tape.trans h.tape, k.output.trans h.output, Nat.le_trans h.size k.size, fun i hi hn => (k.block i hi).trans (h.block i hi hn)⟩
theorem Blk.onlyAt {w w' : World} {g g' : Nat} {t : TypeId} {cs : Array Value} (h : Blk w g t cs) (o : Only w w' (some ⟨g', 0, none⟩)) (hne : g ≠ g') : Blk w' g t cs :=
  (o.block g h.lt (by intro e; simp at e; omega)).trans h
theorem Blk.at_ {w : World} {g : Nat} {t : TypeId} {cs : Array Value} (h : Blk w g t cs) {i : Nat} {v : Value} (hv : cs[i]? = some v) : w.cell? ⟨g, i, none⟩ = some v := (h.cell i).trans hv
def sumP (L : List Int) (p : Int) : Bool := decide (0 < L[p.toNat]?.getD 0)
/-- the beats of the sum -/
def sumL (s : Int) (xs ys : List Int) : List Int := selTo (sumP (sumC s xs ys)) s.toNat
/-- what a function that makes a rhythm hands back -/
def GivesRh (w : World) (s : Int) (xs : List Int) (e : Ending) (w' : World) : Prop := ∃ A c, e = .returned (.agg #[.int .i64 s, .slice A xs.length c]) ∧ IO w' w.heap.size A c xs ∧ Below w.heap.size w w'
end Go.Proofs.Ytihbgpcmphemmaa
