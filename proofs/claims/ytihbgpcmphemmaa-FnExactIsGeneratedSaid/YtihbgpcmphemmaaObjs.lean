/- Objects between two bounds: what other calls leave of them. -/
import Derived.Test.YtihbgpcmphemmaaEqInt
import Derived.Test.YtihbgpcmphemmaaApp
namespace Go.Proofs.Ytihbgpcmphemmaa
open Go.RowKit

theorem IO.lt {w : World} {base c : Nat} {A : Option Addr} {xs : List Int} (h : IO w base A c xs) : ∀ x, A = some x → x.block < w.heap.size := by
  intro x hx
  rcases h.2.2 with ⟨rfl, _⟩ | ⟨g, cur, e, _, hh, _⟩
  · cases hx
  · rw [e] at hx; injection hx with hx; rw [← hx]; exact heap_lt hh
def RB (lo hi : Nat) (w : World) (A : Option Addr) (xs : List Int) : Prop := IR w A xs ∧ (0 < xs.length → ∀ x, A = some x → lo ≤ x.block ∧ x.block < hi)
def OB (lo hi : Nat) (w : World) (A : Option Addr) (c : Nat) (xs : List Int) : Prop := IO w lo A c xs ∧ ∀ x, A = some x → x.block < hi
theorem RB.of_ir {w : World} {A : Option Addr} {xs : List Int} (h : IR w A xs) : RB 0 w.heap.size w A xs :=
  ⟨h, fun h0 x hx => by
    obtain ⟨b, o, e, hb, _⟩ := h.2 h0
    rw [e] at hx; injection hx with hx; subst hx; exact ⟨Nat.zero_le _, hb⟩⟩
theorem RB.ir {lo hi : Nat} {w : World} {A : Option Addr} {xs : List Int} (h : RB lo hi w A xs) : IR w A xs := h.1
theorem OB.of {w : World} {lo hi c : Nat} {A : Option Addr} {xs : List Int} (h : IO w lo A c xs) (hw : w.heap.size ≤ hi) : OB lo hi w A c xs := ⟨h, fun x hx => Nat.lt_of_lt_of_le (h.lt x hx) hw⟩
theorem OB.io {lo hi c : Nat} {w : World} {A : Option Addr} {xs : List Int} (h : OB lo hi w A c xs) : IO w lo A c xs := h.1
theorem OB.ir {lo hi c : Nat} {w : World} {A : Option Addr} {xs : List Int} (h : OB lo hi w A c xs) : IR w A xs := h.1.reads
theorem OB.rb {lo hi c : Nat} {w : World} {A : Option Addr} {xs : List Int} (h : OB lo hi w A c xs) : RB lo hi w A xs := ⟨h.ir, fun _ x hx => ⟨h.1.ge x hx, h.2 x hx⟩⟩
theorem RB.below {lo hi B : Nat} {w w' : World} {A : Option Addr} {xs : List Int} (h : RB lo hi w A xs) (hb : Below B w w') (hB : hi ≤ B) : RB lo hi w' A xs := by
  refine ⟨⟨h.1.1, fun h0 => ?_⟩, h.2⟩
  obtain ⟨b, o, e, hlt, hc⟩ := h.1.2 h0
  have h2 := (h.2 h0 _ e).2
  exact ⟨b, o, e, Nat.lt_of_lt_of_le hlt hb.size, fun k hk => ((bcell hb).1 b _ (Nat.lt_of_lt_of_le h2 hB)).trans (hc k hk)⟩
theorem OB.below {lo hi B c : Nat} {w w' : World} {A : Option Addr} {xs : List Int} (h : OB lo hi w A c xs) (hb : Below B w w') (hB : hi ≤ B) : OB lo hi w' A c xs := by
  refine ⟨⟨h.1.1, h.1.2.1, ?_⟩, h.2⟩
  rcases h.1.2.2 with h' | ⟨g, cur, e, hg, hh, r⟩
  · exact .inl h'
  · exact .inr ⟨g, cur, e, hg, (hb.block g (Nat.lt_of_lt_of_le (h.2 _ e) hB)).trans hh, r⟩
theorem RB.only {lo hi lo' hi' c' : Nat} {w w' : World} {A A' : Option Addr} {xs xs' : List Int} (h : RB lo hi w A xs) (o : Only w w' A') (k : OB lo' hi' w A' c' xs') (hd : hi ≤ lo' ∨ hi' ≤ lo) : RB lo hi w' A xs := by
  by_cases h0 : 0 < xs.length
  · exact ⟨h.1.only o fun a b ea eb => by have := h.2 h0 a ea; have := k.1.ge b eb; have := k.2 b eb; omega, h.2⟩
  · exact ⟨⟨h.1.1, fun h1 => absurd h1 h0⟩, h.2⟩
theorem OB.only {lo hi lo' hi' c c' : Nat} {w w' : World} {A A' : Option Addr} {xs xs' : List Int} (h : OB lo hi w A c xs) (o : Only w w' A') (k : OB lo' hi' w A' c' xs') (hd : hi ≤ lo' ∨ hi' ≤ lo) : OB lo hi w' A c xs :=
  ⟨h.1.only o fun a b ea eb => by have := h.1.ge a ea; have := h.2 a ea; have := k.1.ge b eb; have := k.2 b eb; omega, h.2⟩
theorem OB.marked {lo hi c : Nat} {w w' : World} {A : Option Addr} {xs ys : List Int} (h : OB lo hi w A c xs) (h' : IO w' lo A c ys) : OB lo hi w' A c ys := ⟨h', h.2⟩
theorem OB.bl {lo' hi' c' B : Nat} {w w' : World} {A' : Option Addr} {xs' : List Int} (k : OB lo' hi' w A' c' xs') (o : Only w w' A') (hB : B ≤ lo') (hs : B ≤ w.heap.size) : Below B w w' :=
  o.below hs fun x hx => Nat.le_trans hB (k.1.ge x hx)
theorem OB.cell {lo' hi' c' : Nat} {w w' : World} {A' : Option Addr} {xs' : List Int} (k : OB lo' hi' w A' c' xs') (o : Only w w' A') {b i : Nat} (hb : b < w.heap.size) (hd : b < lo' ∨ hi' ≤ b) : w'.cell? ⟨b, i, none⟩ = w.cell? ⟨b, i, none⟩ := by
  refine World.cell?_of_block (w := w) (o.block b hb ?_)
  intro e
  cases A' with
  | none => cases e
  | some x => injection e with e; have := k.1.ge x rfl; have := k.2 x rfl; simp at e; omega
/-- what a function that makes a rhythm and says whether it is there hands back -/
def GivesRB (w : World) (s : Int) (xs : List Int) (ok : Bool) (e : Ending) (w' : World) : Prop := ∃ A c, e = .returned (.tuple #[.agg #[.int .i64 s, .slice A xs.length c], .bool ok]) ∧ IO w' w.heap.size A c xs ∧ Below w.heap.size w w'
def GivesRI (w : World) (s : Int) (xs : List Int) (n : Int) (e : Ending) (w' : World) : Prop := ∃ A c, e = .returned (.tuple #[.agg #[.int .i64 s, .slice A xs.length c], .int .i64 n]) ∧ IO w' w.heap.size A c xs ∧ Below w.heap.size w w'
def GivesLB (w : World) (xs : List Int) (ok : Bool) (e : Ending) (w' : World) : Prop := ∃ A c, e = .returned (.tuple #[.slice A xs.length c, .bool ok]) ∧ IO w' w.heap.size A c xs ∧ Below w.heap.size w w'
end Go.Proofs.Ytihbgpcmphemmaa
