/- Words that many parts of the proof share. -/
import Derived.Test.YtpejnhcmelkmeaaBas
import Derived.Test.YtpejnhcmelkmeaaTls
namespace Go.Proofs.Ytpejnhcmelkmeaa
open Go.RowKit

/- The law's helpers on rhythms: copy, size, compare, mark, hold. -/
theorem nb_true {b : Bool} (h : (!b) = true) : b = false := by simpa using h
theorem nb_false {b : Bool} (h : (!b) = false) : b = true := by simpa using h



/- The law's helpers on canons: copy, size, compare. -/
def GivesCn (w : World) (s t : Int) (xs ys : List Int) (e : Ending) (w' : World) : Prop :=
  ∃ A c B d mid, e = .returned (.agg #[.int .i64 s, .slice A xs.length c, .int .i64 t, .slice B ys.length d]) ∧ (w.heap.size ≤ mid ∧ mid ≤ w'.heap.size) ∧ OB w.heap.size mid w' A c xs ∧ OB mid w'.heap.size w' B d ys ∧ Below w.heap.size w w'
theorem Blk.setAt {w : World} {g g' i : Nat} {t : TypeId} {cs : Array Value} (h : Blk w g t cs) (u : Value) (hne : g ≠ g') : Blk (w.setCell ⟨g', i, none⟩ u) g t cs := (Below.heap_setCell w ⟨g', i, none⟩ u g hne).trans h
theorem OB.low {lo hi c : Nat} {w : World} {A : Option Addr} {xs : List Int} (h : OB lo hi w A c xs) {p : Addr} (hp : p.block < lo) (u : Value) : OB lo hi (w.setCell p u) A c xs := ⟨h.1.setLow hp u, h.2⟩
theorem OB.mono0 {lo lo' hi c : Nat} {w : World} {A : Option Addr} {xs : List Int} (h : OB lo hi w A c xs) (hl : lo' ≤ lo) : OB lo' hi w A c xs := ⟨h.1.mono hl, h.2⟩
theorem OB.monoHi {lo hi hi' c : Nat} {w : World} {A : Option Addr} {xs : List Int} (h : OB lo hi w A c xs) (hl : hi ≤ hi') : OB lo hi' w A c xs := ⟨h.1, fun x hx => Nat.lt_of_lt_of_le (h.2 x hx) hl⟩
end Go.Proofs.Ytpejnhcmelkmeaa
