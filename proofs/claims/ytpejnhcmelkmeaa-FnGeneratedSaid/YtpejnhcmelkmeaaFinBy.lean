/- Bytes that come in. -/
import Derived.Test.YtpejnhcmelkmeaaFinWords
import Derived.OpenShut
namespace Go.Proofs.Ytpejnhcmelkmeaa
open Go.RowKit

theorem bounds_u8 {n : Int} (h : (Lit.int .u8 n).wf = true) : 0 ≤ n ∧ n ≤ 255 := by
  simp [Lit.wf, IntKind.min, IntKind.max, IntKind.signed, IntKind.bits] at h
  omega
theorem ARbytes {H : Type} {enc : TypeId × Value → H} {P : Program} {w : World} {t e : TypeId} {A : Option Addr} {n c : Nat} {d : DataW H} {ps : List MemPlace} (ht : P.underlying t = some (.slice e)) (he : P.underlying e = some (.int .u8)) (hcell : P.cellsOf e = 1)
    (h : DataW.Trod enc P w 0 (fun _ => true) true t (.slice A n c) d ps) : ∃ xs : List Int, n = xs.length ∧ AR .u8 w A xs ∧ ∀ x ∈ xs, 0 ≤ x ∧ x ≤ 255 := by
  obtain ⟨xs, h1, h2, h3⟩ := ARof ht he hcell h
  exact ⟨xs, h1, h2, fun x hx => bounds_u8 (h3 x hx)⟩
end Go.Proofs.Ytpejnhcmelkmeaa
