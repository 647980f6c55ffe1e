/- The map of a rhythm by a rotation: the reference. -/
import Derived.Test.YtgfdmjhdfddopaaL02Of
namespace Go.Proofs.Ytgfdmjhdfddopaa
open Go.RowKit
set_option maxRecDepth 20000

theorem rotL_sel {s : Int} (hs : 1 ≤ s) (xs : List Int) (k : Int) : rotL s xs k = selTo (memB (modL s (addL k xs))) s.toNat := by
  unfold rotL
  refine coll_sel fun x hx => ?_
  unfold modL at hx
  obtain ⟨y, _, rfl⟩ := List.mem_map.1 hx
  have h1 := Int.emod_nonneg y (show s ≠ 0 by omega)
  have h2 := Int.emod_lt_of_pos y (show 0 < s by omega)
  omega
def mapT (s k : Int) (xs : List Int) (j : Nat) : List Int := modL s (addL k (xs.take j))
theorem mapT_step {s k : Int} {xs : List Int} {j : Nat} {x : Int} (hx : xs[j]? = some x) : mapT s k xs (j + 1) = mapT s k xs j ++ [(x + k) % s] := by
  unfold mapT
  rw [addL_take hx]
  unfold modL
  rw [List.map_append]; rfl
theorem mapT_len (s k : Int) (xs : List Int) (j : Nat) : (mapT s k xs j).length ≤ xs.length := by
  unfold mapT modL; rw [List.length_map]; exact addL_len k xs j
end Go.Proofs.Ytgfdmjhdfddopaa
