/- The bytes of a code, as the draws read them. -/
import Derived.Test.YtpejnhcmelkmeaaFinWords
import Derived.Test.YtpejnhcmelkmeaaDrw
namespace Go.Proofs.Ytpejnhcmelkmeaa
open Go.RowKit

theorem br_of {w : World} {A : Option Addr} {n : Nat} {xs : List Int} (hn : n = xs.length) (hb : n ≤ 1048576) (h : AR .u8 w A xs) (hf : ∀ x ∈ xs, 0 ≤ x ∧ x ≤ 255) : BR w A n := by
  subst hn
  refine ⟨hb, fun h0 => ?_⟩
  obtain ⟨b, o, e, hlt, hc⟩ := h.2 h0
  refine ⟨b, o, e, hlt, fun k hk => ?_⟩
  have hx := hf _ (List.getElem_mem hk)
  obtain ⟨y, hy⟩ := Int.eq_ofNat_of_zero_le hx.1
  refine ⟨y, by omega, ?_⟩
  rw [hc k hk, List.getElem?_eq_getElem hk, ← hy]; rfl
end Go.Proofs.Ytpejnhcmelkmeaa
