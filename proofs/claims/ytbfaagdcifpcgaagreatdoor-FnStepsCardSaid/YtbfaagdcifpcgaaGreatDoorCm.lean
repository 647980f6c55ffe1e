/- How many rhythms meet both conditions. -/
import Derived.Test.YtbfaagdcifpcgaaGreatDoorCmPlain
import Derived.Test.YtbfaagdcifpcgaaGreatDoorOnes
import Derived.Test.YtbfaagdcifpcgaaGreatDoorBas
import Derived.Test.YtbfaagdcifpcgaaGreatDoorAppG
namespace Go.Proofs.YtbfaagdcifpcgaaGreatDoor
open Go.RowKit
set_option maxRecDepth 20000

theorem own_slice {w : World} {base e q n : Nat} {v : Value} {vs : List Value} (h : w.ownsRow base e q v n vs) : ∃ A c, v = .slice A n c := by
  rcases h.2 with ⟨e1, hn⟩ | ⟨g, cap, cur, e1, _⟩
  · exact ⟨none, 0, by rw [e1, hn]⟩
  · exact ⟨_, _, e1⟩
theorem own_below {w w' : World} {base e q n B : Nat} {v : Value} {vs : List Value} (h : w.ownsRow base e q v n vs) (hb : Below B w w') (hB : w.heap.size ≤ B) : w'.ownsRow base e q v n vs := by
  refine ⟨h.1, ?_⟩
  rcases h.2 with h' | ⟨g, cap, cur, e1, hg, hh, r⟩
  · exact .inl h'
  · exact .inr ⟨g, cap, cur, e1, hg, (hb.block g (Nat.lt_of_lt_of_le (heap_lt hh) hB)).trans hh, r⟩
theorem info_rh : (Tryz.prog.info? 25).map (fun i => (i.zero, i.size, i.bytes)) = some (some (.agg #[.int .i64 0, .slice none 0 0]), 2, 32) := by kernel_rfl
end Go.Proofs.YtbfaagdcifpcgaaGreatDoor
