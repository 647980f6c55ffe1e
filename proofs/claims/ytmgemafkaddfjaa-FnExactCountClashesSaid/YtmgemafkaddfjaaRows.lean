/-
  No cell of these rows narrows 'for every input' (looked for: loops, veiled, ifaces, maps, wideKeys, modest, calm, conditions, laid).
  DERIVED. THE GIVEN ROWS OF THIS SEAT. 12 by the template 'for every input the law returns true; each argument reads behind the call as it read before'; 0 by the template 'total and deterministic' (their statements: YtmgemafkaddfjaaTotals.lean).
  GIVEN WITH THE SEED: the statements are not yours to turn. If you find one false, say at which input.
  Laid BY PROGRAM, IN A SANDBOX (cutbox-rows.mjs): the forced cells as the released guide's own fill.sh prints them over the translation a1c641a37fb0b54c… (all of the seat's roots in one cut). By AI agents, Wed Nov 11 2026. No macro, syntax, notation, axiom, sorry.
-/
import Derived.Test.YtmgemafkaddfjaaChecked
import GoSem.Claim
import GoSem.ClaimJoined
import GoSem.ClaimMapViews
import Derived.JoinedTies
import Derived.KernelRfl
namespace Go.Proofs.Ytmgemafkaddfjaa
/- THE CELL 'sum', in the pinned program and in every row, IS THE sha256 OF THE DUMP (.gsa) THAT YtmgemafkaddfjaaProg.lean LOADS. Nothing in Lean hashes anything: it is a label: what it is worth is what the hold of that sum in a sandbox is worth. -/
noncomputable def Try.pinned : Pinned := { name := "ytmgemafkaddfjaa", sum := "a1c641a37fb0b54cea573c03a2810c7686ed4670c62089c4eac2f45f7d5e6dee", checked := Try.checked }
namespace Rows
def none {H : Type} : Left H := { results := [], args := [] }

/-- 'laws.FnExactCountClashes': WHATEVER THE INPUT: true; the input reads as it did. -/
def fnExactCountClashesSpec : ChangeSpec := { name := "fnExactCountClashes", fn := fun _ => fun
  | [d] => { results := [.lit (.bool true)], args := [d] }
  | _ => none }
def fnExactCountClashesRow : OpenClaim := { program := "ytmgemafkaddfjaa", sum := "a1c641a37fb0b54cea573c03a2810c7686ed4670c62089c4eac2f45f7d5e6dee", func := "loop.example/g03204/laws.FnExactCountClashes", spec := "fnExactCountClashes", apart := false }
def FnExactCountClashesSaid : Prop := fnExactCountClashesRow.holds Try.pinned (OpenSpec.ofChange fnExactCountClashesSpec)

/-- ITS FALSE NEIGHBOUR: 'it returns false'. Refute it at one input. -/
def fnExactCountClashesWrong : ChangeSpec := { name := "fnExactCountClashes", fn := fun _ => fun
  | [d] => { results := [.lit (.bool false)], args := [d] }
  | _ => none }
def FnExactCountClashesWrongFalsely : Prop := fnExactCountClashesRow.holds Try.pinned (OpenSpec.ofChange fnExactCountClashesWrong)

/-- 'laws.FnExactVoicesAt': WHATEVER THE INPUT: true; the input reads as it did. -/
def fnExactVoicesAtSpec : ChangeSpec := { name := "fnExactVoicesAt", fn := fun _ => fun
  | [d1, d2] => { results := [.lit (.bool true)], args := [d1, d2] }
  | _ => none }
def fnExactVoicesAtRow : OpenClaim := { program := "ytmgemafkaddfjaa", sum := "a1c641a37fb0b54cea573c03a2810c7686ed4670c62089c4eac2f45f7d5e6dee", func := "loop.example/g03204/laws.FnExactVoicesAt", spec := "fnExactVoicesAt", apart := false }
def FnExactVoicesAtSaid : Prop := fnExactVoicesAtRow.holds Try.pinned (OpenSpec.ofChange fnExactVoicesAtSpec)

/-- ITS FALSE NEIGHBOUR: 'it returns false'. Refute it at one input. -/
def fnExactVoicesAtWrong : ChangeSpec := { name := "fnExactVoicesAt", fn := fun _ => fun
  | [d1, d2] => { results := [.lit (.bool false)], args := [d1, d2] }
  | _ => none }
def FnExactVoicesAtWrongFalsely : Prop := fnExactVoicesAtRow.holds Try.pinned (OpenSpec.ofChange fnExactVoicesAtWrong)

/-- 'laws.FnExactStretchTiling': WHATEVER THE INPUT: true; the input reads as it did. -/
def fnExactStretchTilingSpec : ChangeSpec := { name := "fnExactStretchTiling", fn := fun _ => fun
  | [d1, d2, d3] => { results := [.lit (.bool true)], args := [d1, d2, d3] }
  | _ => none }
def fnExactStretchTilingRow : OpenClaim := { program := "ytmgemafkaddfjaa", sum := "a1c641a37fb0b54cea573c03a2810c7686ed4670c62089c4eac2f45f7d5e6dee", func := "loop.example/g03204/laws.FnExactStretchTiling", spec := "fnExactStretchTiling", apart := false }
def FnExactStretchTilingSaid : Prop := fnExactStretchTilingRow.holds Try.pinned (OpenSpec.ofChange fnExactStretchTilingSpec)

/-- ITS FALSE NEIGHBOUR: 'it returns false'. Refute it at one input. -/
def fnExactStretchTilingWrong : ChangeSpec := { name := "fnExactStretchTiling", fn := fun _ => fun
  | [d1, d2, d3] => { results := [.lit (.bool false)], args := [d1, d2, d3] }
  | _ => none }
def FnExactStretchTilingWrongFalsely : Prop := fnExactStretchTilingRow.holds Try.pinned (OpenSpec.ofChange fnExactStretchTilingWrong)

/-- 'laws.FnExactPolynomialOf': WHATEVER THE INPUT: true; the input reads as it did. -/
def fnExactPolynomialOfSpec : ChangeSpec := { name := "fnExactPolynomialOf", fn := fun _ => fun
  | [d] => { results := [.lit (.bool true)], args := [d] }
  | _ => none }
def fnExactPolynomialOfRow : OpenClaim := { program := "ytmgemafkaddfjaa", sum := "a1c641a37fb0b54cea573c03a2810c7686ed4670c62089c4eac2f45f7d5e6dee", func := "loop.example/g03204/laws.FnExactPolynomialOf", spec := "fnExactPolynomialOf", apart := false }
def FnExactPolynomialOfSaid : Prop := fnExactPolynomialOfRow.holds Try.pinned (OpenSpec.ofChange fnExactPolynomialOfSpec)

/-- ITS FALSE NEIGHBOUR: 'it returns false'. Refute it at one input. -/
def fnExactPolynomialOfWrong : ChangeSpec := { name := "fnExactPolynomialOf", fn := fun _ => fun
  | [d] => { results := [.lit (.bool false)], args := [d] }
  | _ => none }
def FnExactPolynomialOfWrongFalsely : Prop := fnExactPolynomialOfRow.holds Try.pinned (OpenSpec.ofChange fnExactPolynomialOfWrong)

/-- 'laws.FnExactTimesPolynomials': WHATEVER THE INPUT: true; the input reads as it did. -/
def fnExactTimesPolynomialsSpec : ChangeSpec := { name := "fnExactTimesPolynomials", fn := fun _ => fun
  | [d1, d2] => { results := [.lit (.bool true)], args := [d1, d2] }
  | _ => none }
def fnExactTimesPolynomialsRow : OpenClaim := { program := "ytmgemafkaddfjaa", sum := "a1c641a37fb0b54cea573c03a2810c7686ed4670c62089c4eac2f45f7d5e6dee", func := "loop.example/g03204/laws.FnExactTimesPolynomials", spec := "fnExactTimesPolynomials", unfollowed := true, recurses := true, apart := false }
def FnExactTimesPolynomialsSaid : Prop := fnExactTimesPolynomialsRow.holds Try.pinned (OpenSpec.ofChange fnExactTimesPolynomialsSpec)

/-- ITS FALSE NEIGHBOUR: 'it returns false'. Refute it at one input. -/
def fnExactTimesPolynomialsWrong : ChangeSpec := { name := "fnExactTimesPolynomials", fn := fun _ => fun
  | [d1, d2] => { results := [.lit (.bool false)], args := [d1, d2] }
  | _ => none }
def FnExactTimesPolynomialsWrongFalsely : Prop := fnExactTimesPolynomialsRow.holds Try.pinned (OpenSpec.ofChange fnExactTimesPolynomialsWrong)

/-- 'laws.FnExactCyclotomic': WHATEVER THE INPUT: true; the input reads as it did. -/
def fnExactCyclotomicSpec : ChangeSpec := { name := "fnExactCyclotomic", fn := fun _ => fun
  | [d] => { results := [.lit (.bool true)], args := [d] }
  | _ => none }
def fnExactCyclotomicRow : OpenClaim := { program := "ytmgemafkaddfjaa", sum := "a1c641a37fb0b54cea573c03a2810c7686ed4670c62089c4eac2f45f7d5e6dee", func := "loop.example/g03204/laws.FnExactCyclotomic", spec := "fnExactCyclotomic", recurses := true, apart := false }
def FnExactCyclotomicSaid : Prop := fnExactCyclotomicRow.holds Try.pinned (OpenSpec.ofChange fnExactCyclotomicSpec)

/-- ITS FALSE NEIGHBOUR: 'it returns false'. Refute it at one input. -/
def fnExactCyclotomicWrong : ChangeSpec := { name := "fnExactCyclotomic", fn := fun _ => fun
  | [d] => { results := [.lit (.bool false)], args := [d] }
  | _ => none }
def FnExactCyclotomicWrongFalsely : Prop := fnExactCyclotomicRow.holds Try.pinned (OpenSpec.ofChange fnExactCyclotomicWrong)

/-- 'laws.FnExactRestBy': WHATEVER THE INPUT: true; the input reads as it did. -/
def fnExactRestBySpec : ChangeSpec := { name := "fnExactRestBy", fn := fun _ => fun
  | [d1, d2] => { results := [.lit (.bool true)], args := [d1, d2] }
  | _ => none }
def fnExactRestByRow : OpenClaim := { program := "ytmgemafkaddfjaa", sum := "a1c641a37fb0b54cea573c03a2810c7686ed4670c62089c4eac2f45f7d5e6dee", func := "loop.example/g03204/laws.FnExactRestBy", spec := "fnExactRestBy", recurses := true, apart := false }
def FnExactRestBySaid : Prop := fnExactRestByRow.holds Try.pinned (OpenSpec.ofChange fnExactRestBySpec)

/-- ITS FALSE NEIGHBOUR: 'it returns false'. Refute it at one input. -/
def fnExactRestByWrong : ChangeSpec := { name := "fnExactRestBy", fn := fun _ => fun
  | [d1, d2] => { results := [.lit (.bool false)], args := [d1, d2] }
  | _ => none }
def FnExactRestByWrongFalsely : Prop := fnExactRestByRow.holds Try.pinned (OpenSpec.ofChange fnExactRestByWrong)

/-- 'laws.FnExactVanishesAt': WHATEVER THE INPUT: true; the input reads as it did. -/
def fnExactVanishesAtSpec : ChangeSpec := { name := "fnExactVanishesAt", fn := fun _ => fun
  | [d1, d2] => { results := [.lit (.bool true)], args := [d1, d2] }
  | _ => none }
def fnExactVanishesAtRow : OpenClaim := { program := "ytmgemafkaddfjaa", sum := "a1c641a37fb0b54cea573c03a2810c7686ed4670c62089c4eac2f45f7d5e6dee", func := "loop.example/g03204/laws.FnExactVanishesAt", spec := "fnExactVanishesAt", recurses := true, apart := false }
def FnExactVanishesAtSaid : Prop := fnExactVanishesAtRow.holds Try.pinned (OpenSpec.ofChange fnExactVanishesAtSpec)

/-- ITS FALSE NEIGHBOUR: 'it returns false'. Refute it at one input. -/
def fnExactVanishesAtWrong : ChangeSpec := { name := "fnExactVanishesAt", fn := fun _ => fun
  | [d1, d2] => { results := [.lit (.bool false)], args := [d1, d2] }
  | _ => none }
def FnExactVanishesAtWrongFalsely : Prop := fnExactVanishesAtRow.holds Try.pinned (OpenSpec.ofChange fnExactVanishesAtWrong)

/-- 'laws.FnExactVanishingOrders': WHATEVER THE INPUT: true; the input reads as it did. -/
def fnExactVanishingOrdersSpec : ChangeSpec := { name := "fnExactVanishingOrders", fn := fun _ => fun
  | [d] => { results := [.lit (.bool true)], args := [d] }
  | _ => none }
def fnExactVanishingOrdersRow : OpenClaim := { program := "ytmgemafkaddfjaa", sum := "a1c641a37fb0b54cea573c03a2810c7686ed4670c62089c4eac2f45f7d5e6dee", func := "loop.example/g03204/laws.FnExactVanishingOrders", spec := "fnExactVanishingOrders", unfollowed := true, recurses := true, apart := false }
def FnExactVanishingOrdersSaid : Prop := fnExactVanishingOrdersRow.holds Try.pinned (OpenSpec.ofChange fnExactVanishingOrdersSpec)

/-- ITS FALSE NEIGHBOUR: 'it returns false'. Refute it at one input. -/
def fnExactVanishingOrdersWrong : ChangeSpec := { name := "fnExactVanishingOrders", fn := fun _ => fun
  | [d] => { results := [.lit (.bool false)], args := [d] }
  | _ => none }
def FnExactVanishingOrdersWrongFalsely : Prop := fnExactVanishingOrdersRow.holds Try.pinned (OpenSpec.ofChange fnExactVanishingOrdersWrong)

/-- 'laws.FnExactOrdersLeft': WHATEVER THE INPUT: true; the input reads as it did. -/
def fnExactOrdersLeftSpec : ChangeSpec := { name := "fnExactOrdersLeft", fn := fun _ => fun
  | [d1, d2] => { results := [.lit (.bool true)], args := [d1, d2] }
  | _ => none }
def fnExactOrdersLeftRow : OpenClaim := { program := "ytmgemafkaddfjaa", sum := "a1c641a37fb0b54cea573c03a2810c7686ed4670c62089c4eac2f45f7d5e6dee", func := "loop.example/g03204/laws.FnExactOrdersLeft", spec := "fnExactOrdersLeft", unfollowed := true, recurses := true, apart := false }
def FnExactOrdersLeftSaid : Prop := fnExactOrdersLeftRow.holds Try.pinned (OpenSpec.ofChange fnExactOrdersLeftSpec)

/-- ITS FALSE NEIGHBOUR: 'it returns false'. Refute it at one input. -/
def fnExactOrdersLeftWrong : ChangeSpec := { name := "fnExactOrdersLeft", fn := fun _ => fun
  | [d1, d2] => { results := [.lit (.bool false)], args := [d1, d2] }
  | _ => none }
def FnExactOrdersLeftWrongFalsely : Prop := fnExactOrdersLeftRow.holds Try.pinned (OpenSpec.ofChange fnExactOrdersLeftWrong)

/-- 'laws.FnExactPrimePowersOf': WHATEVER THE INPUT: true; the input reads as it did. -/
def fnExactPrimePowersOfSpec : ChangeSpec := { name := "fnExactPrimePowersOf", fn := fun _ => fun
  | [d] => { results := [.lit (.bool true)], args := [d] }
  | _ => none }
def fnExactPrimePowersOfRow : OpenClaim := { program := "ytmgemafkaddfjaa", sum := "a1c641a37fb0b54cea573c03a2810c7686ed4670c62089c4eac2f45f7d5e6dee", func := "loop.example/g03204/laws.FnExactPrimePowersOf", spec := "fnExactPrimePowersOf", unfollowed := true, recurses := true, apart := false }
def FnExactPrimePowersOfSaid : Prop := fnExactPrimePowersOfRow.holds Try.pinned (OpenSpec.ofChange fnExactPrimePowersOfSpec)

/-- ITS FALSE NEIGHBOUR: 'it returns false'. Refute it at one input. -/
def fnExactPrimePowersOfWrong : ChangeSpec := { name := "fnExactPrimePowersOf", fn := fun _ => fun
  | [d] => { results := [.lit (.bool false)], args := [d] }
  | _ => none }
def FnExactPrimePowersOfWrongFalsely : Prop := fnExactPrimePowersOfRow.holds Try.pinned (OpenSpec.ofChange fnExactPrimePowersOfWrong)

/-- 'laws.FnExactMeetsFirst': WHATEVER THE INPUT: true; the input reads as it did. -/
def fnExactMeetsFirstSpec : ChangeSpec := { name := "fnExactMeetsFirst", fn := fun _ => fun
  | [d] => { results := [.lit (.bool true)], args := [d] }
  | _ => none }
def fnExactMeetsFirstRow : OpenClaim := { program := "ytmgemafkaddfjaa", sum := "a1c641a37fb0b54cea573c03a2810c7686ed4670c62089c4eac2f45f7d5e6dee", func := "loop.example/g03204/laws.FnExactMeetsFirst", spec := "fnExactMeetsFirst", unfollowed := true, recurses := true, apart := false }
def FnExactMeetsFirstSaid : Prop := fnExactMeetsFirstRow.holds Try.pinned (OpenSpec.ofChange fnExactMeetsFirstSpec)

/-- ITS FALSE NEIGHBOUR: 'it returns false'. Refute it at one input. -/
def fnExactMeetsFirstWrong : ChangeSpec := { name := "fnExactMeetsFirst", fn := fun _ => fun
  | [d] => { results := [.lit (.bool false)], args := [d] }
  | _ => none }
def FnExactMeetsFirstWrongFalsely : Prop := fnExactMeetsFirstRow.holds Try.pinned (OpenSpec.ofChange fnExactMeetsFirstWrong)

/- THE SECOND FORM. 'bulk': how many values and letters a reading holds, each counted each time it is reached (what is shared counts as often as it is met; a slice's spare places count too). A statement '..UptoSaid' is the law's where the arguments, and the package variables that the reading takes, are together of bulk at most 1048576: NARROWER than '..Said'. Prove '..Said' where nothing that the law and all that it calls make is longer than what came in: it says more and counts as full. Else prove '..UptoSaid'. A law counts once. -/
mutual
def uptoBulk {H : Type} : DataW H → Nat
  | .lit (.string bytes) => bytes.length + 1
  | .lit _ => 1
  | .nil => 1
  | .ptr d => uptoBulk d + 1
  | .slice elems spare => uptoBulkAll elems + uptoBulkAll spare + 1
  | .agg parts => uptoBulkAll parts + 1
  | .iface _ d => uptoBulk d + 1
  | .map entries => uptoBulkEntries entries + 1
  | .held _ => 1
def uptoBulkAll {H : Type} : List (DataW H) → Nat
  | [] => 0
  | d :: r => uptoBulk d + uptoBulkAll r
def uptoBulkEntries {H : Type} : List (Lit × DataW H) → Nat
  | [] => 0
  | x :: r => uptoBulkEntry x + uptoBulkEntries r
def uptoBulkEntry {H : Type} : Lit × DataW H → Nat
  | (.string bytes, d) => bytes.length + uptoBulk d + 1
  | (_, d) => uptoBulk d + 1
 end
def uptoSmall : (H : Type) → List (DataW H) → Bool := fun _ ds => decide (uptoBulkAll ds ≤ 1048576)
def OpenSpec.upto (s : _root_.Go.ChangeSpec) : _root_.Go.OpenSpec := { _root_.Go.OpenSpec.ofChange s with cond := some uptoSmall }

/-- 'laws.FnExactCountClashes', WHERE WHAT IT READS IS OF BULK AT MOST 1048576: true; the input reads as it did. -/
def fnExactCountClashesUptoRow : OpenClaim := { program := "ytmgemafkaddfjaa", sum := "a1c641a37fb0b54cea573c03a2810c7686ed4670c62089c4eac2f45f7d5e6dee", func := "loop.example/g03204/laws.FnExactCountClashes", spec := "fnExactCountClashes", apart := false, narrowed := true }
def FnExactCountClashesUptoSaid : Prop := fnExactCountClashesUptoRow.holds Try.pinned (OpenSpec.upto fnExactCountClashesSpec)

/-- 'laws.FnExactVoicesAt', WHERE WHAT IT READS IS OF BULK AT MOST 1048576: true; the input reads as it did. -/
def fnExactVoicesAtUptoRow : OpenClaim := { program := "ytmgemafkaddfjaa", sum := "a1c641a37fb0b54cea573c03a2810c7686ed4670c62089c4eac2f45f7d5e6dee", func := "loop.example/g03204/laws.FnExactVoicesAt", spec := "fnExactVoicesAt", apart := false, narrowed := true }
def FnExactVoicesAtUptoSaid : Prop := fnExactVoicesAtUptoRow.holds Try.pinned (OpenSpec.upto fnExactVoicesAtSpec)

/-- 'laws.FnExactStretchTiling', WHERE WHAT IT READS IS OF BULK AT MOST 1048576: true; the input reads as it did. -/
def fnExactStretchTilingUptoRow : OpenClaim := { program := "ytmgemafkaddfjaa", sum := "a1c641a37fb0b54cea573c03a2810c7686ed4670c62089c4eac2f45f7d5e6dee", func := "loop.example/g03204/laws.FnExactStretchTiling", spec := "fnExactStretchTiling", apart := false, narrowed := true }
def FnExactStretchTilingUptoSaid : Prop := fnExactStretchTilingUptoRow.holds Try.pinned (OpenSpec.upto fnExactStretchTilingSpec)

/-- 'laws.FnExactPolynomialOf', WHERE WHAT IT READS IS OF BULK AT MOST 1048576: true; the input reads as it did. -/
def fnExactPolynomialOfUptoRow : OpenClaim := { program := "ytmgemafkaddfjaa", sum := "a1c641a37fb0b54cea573c03a2810c7686ed4670c62089c4eac2f45f7d5e6dee", func := "loop.example/g03204/laws.FnExactPolynomialOf", spec := "fnExactPolynomialOf", apart := false, narrowed := true }
def FnExactPolynomialOfUptoSaid : Prop := fnExactPolynomialOfUptoRow.holds Try.pinned (OpenSpec.upto fnExactPolynomialOfSpec)

/-- 'laws.FnExactTimesPolynomials', WHERE WHAT IT READS IS OF BULK AT MOST 1048576: true; the input reads as it did. -/
def fnExactTimesPolynomialsUptoRow : OpenClaim := { program := "ytmgemafkaddfjaa", sum := "a1c641a37fb0b54cea573c03a2810c7686ed4670c62089c4eac2f45f7d5e6dee", func := "loop.example/g03204/laws.FnExactTimesPolynomials", spec := "fnExactTimesPolynomials", unfollowed := true, recurses := true, apart := false, narrowed := true }
def FnExactTimesPolynomialsUptoSaid : Prop := fnExactTimesPolynomialsUptoRow.holds Try.pinned (OpenSpec.upto fnExactTimesPolynomialsSpec)

/-- 'laws.FnExactCyclotomic', WHERE WHAT IT READS IS OF BULK AT MOST 1048576: true; the input reads as it did. -/
def fnExactCyclotomicUptoRow : OpenClaim := { program := "ytmgemafkaddfjaa", sum := "a1c641a37fb0b54cea573c03a2810c7686ed4670c62089c4eac2f45f7d5e6dee", func := "loop.example/g03204/laws.FnExactCyclotomic", spec := "fnExactCyclotomic", recurses := true, apart := false, narrowed := true }
def FnExactCyclotomicUptoSaid : Prop := fnExactCyclotomicUptoRow.holds Try.pinned (OpenSpec.upto fnExactCyclotomicSpec)

/-- 'laws.FnExactRestBy', WHERE WHAT IT READS IS OF BULK AT MOST 1048576: true; the input reads as it did. -/
def fnExactRestByUptoRow : OpenClaim := { program := "ytmgemafkaddfjaa", sum := "a1c641a37fb0b54cea573c03a2810c7686ed4670c62089c4eac2f45f7d5e6dee", func := "loop.example/g03204/laws.FnExactRestBy", spec := "fnExactRestBy", recurses := true, apart := false, narrowed := true }
def FnExactRestByUptoSaid : Prop := fnExactRestByUptoRow.holds Try.pinned (OpenSpec.upto fnExactRestBySpec)

/-- 'laws.FnExactVanishesAt', WHERE WHAT IT READS IS OF BULK AT MOST 1048576: true; the input reads as it did. -/
def fnExactVanishesAtUptoRow : OpenClaim := { program := "ytmgemafkaddfjaa", sum := "a1c641a37fb0b54cea573c03a2810c7686ed4670c62089c4eac2f45f7d5e6dee", func := "loop.example/g03204/laws.FnExactVanishesAt", spec := "fnExactVanishesAt", recurses := true, apart := false, narrowed := true }
def FnExactVanishesAtUptoSaid : Prop := fnExactVanishesAtUptoRow.holds Try.pinned (OpenSpec.upto fnExactVanishesAtSpec)

/-- 'laws.FnExactVanishingOrders', WHERE WHAT IT READS IS OF BULK AT MOST 1048576: true; the input reads as it did. -/
def fnExactVanishingOrdersUptoRow : OpenClaim := { program := "ytmgemafkaddfjaa", sum := "a1c641a37fb0b54cea573c03a2810c7686ed4670c62089c4eac2f45f7d5e6dee", func := "loop.example/g03204/laws.FnExactVanishingOrders", spec := "fnExactVanishingOrders", unfollowed := true, recurses := true, apart := false, narrowed := true }
def FnExactVanishingOrdersUptoSaid : Prop := fnExactVanishingOrdersUptoRow.holds Try.pinned (OpenSpec.upto fnExactVanishingOrdersSpec)

/-- 'laws.FnExactOrdersLeft', WHERE WHAT IT READS IS OF BULK AT MOST 1048576: true; the input reads as it did. -/
def fnExactOrdersLeftUptoRow : OpenClaim := { program := "ytmgemafkaddfjaa", sum := "a1c641a37fb0b54cea573c03a2810c7686ed4670c62089c4eac2f45f7d5e6dee", func := "loop.example/g03204/laws.FnExactOrdersLeft", spec := "fnExactOrdersLeft", unfollowed := true, recurses := true, apart := false, narrowed := true }
def FnExactOrdersLeftUptoSaid : Prop := fnExactOrdersLeftUptoRow.holds Try.pinned (OpenSpec.upto fnExactOrdersLeftSpec)

/-- 'laws.FnExactPrimePowersOf', WHERE WHAT IT READS IS OF BULK AT MOST 1048576: true; the input reads as it did. -/
def fnExactPrimePowersOfUptoRow : OpenClaim := { program := "ytmgemafkaddfjaa", sum := "a1c641a37fb0b54cea573c03a2810c7686ed4670c62089c4eac2f45f7d5e6dee", func := "loop.example/g03204/laws.FnExactPrimePowersOf", spec := "fnExactPrimePowersOf", unfollowed := true, recurses := true, apart := false, narrowed := true }
def FnExactPrimePowersOfUptoSaid : Prop := fnExactPrimePowersOfUptoRow.holds Try.pinned (OpenSpec.upto fnExactPrimePowersOfSpec)

/-- 'laws.FnExactMeetsFirst', WHERE WHAT IT READS IS OF BULK AT MOST 1048576: true; the input reads as it did. -/
def fnExactMeetsFirstUptoRow : OpenClaim := { program := "ytmgemafkaddfjaa", sum := "a1c641a37fb0b54cea573c03a2810c7686ed4670c62089c4eac2f45f7d5e6dee", func := "loop.example/g03204/laws.FnExactMeetsFirst", spec := "fnExactMeetsFirst", unfollowed := true, recurses := true, apart := false, narrowed := true }
def FnExactMeetsFirstUptoSaid : Prop := fnExactMeetsFirstUptoRow.holds Try.pinned (OpenSpec.upto fnExactMeetsFirstSpec)

end Rows
end Go.Proofs.Ytmgemafkaddfjaa
