/-
  No cell of these rows narrows 'for every input' (looked for: loops, veiled, ifaces, maps, wideKeys, modest, calm, conditions, laid).
  DERIVED. THE GIVEN ROWS OF THIS SEAT. 7 by the template 'for every input the law returns true; each argument reads behind the call as it read before'; 0 by the template 'total and deterministic' (their statements: YtjpdlpegcfpcdaaTotals.lean).
  GIVEN WITH THE SEED: the statements are not yours to turn. If you find one false, say at which input.
  Laid BY PROGRAM, IN A SANDBOX (cutbox-rows.mjs): the forced cells as the released guide's own fill.sh prints them over the translation 4c1d5762dbd30dd8… (all of the seat's roots in one cut). By AI agents, Wed Nov 11 2026. No macro, syntax, notation, axiom, sorry.
-/
import Derived.Test.YtjpdlpegcfpcdaaChecked
import GoSem.Claim
import GoSem.ClaimJoined
import GoSem.ClaimMapViews
import Derived.JoinedTies
import Derived.KernelRfl
namespace Go.Proofs.Ytjpdlpegcfpcdaa
/- THE CELL 'sum', in the pinned program and in every row, IS THE sha256 OF THE DUMP (.gsa) THAT YtjpdlpegcfpcdaaProg.lean LOADS. Nothing in Lean hashes anything: it is a label: what it is worth is what the hold of that sum in a sandbox is worth. -/
noncomputable def Try.pinned : Pinned := { name := "ytjpdlpegcfpcdaa", sum := "4c1d5762dbd30dd804ac6722e7947249725233a170535a7567ad04601779c730", checked := Try.checked }
namespace Rows
def none {H : Type} : Left H := { results := [], args := [] }

/-- 'laws.FnExactMostAvoiding': WHATEVER THE INPUT: true; the input reads as it did. -/
def fnExactMostAvoidingSpec : ChangeSpec := { name := "fnExactMostAvoiding", fn := fun _ => fun
  | [d1, d2] => { results := [.lit (.bool true)], args := [d1, d2] }
  | _ => none }
def fnExactMostAvoidingRow : OpenClaim := { program := "ytjpdlpegcfpcdaa", sum := "4c1d5762dbd30dd804ac6722e7947249725233a170535a7567ad04601779c730", func := "loop.example/g03204/laws.FnExactMostAvoiding", spec := "fnExactMostAvoiding", apart := false }
def FnExactMostAvoidingSaid : Prop := fnExactMostAvoidingRow.holds Try.pinned (OpenSpec.ofChange fnExactMostAvoidingSpec)

/-- ITS FALSE NEIGHBOUR: 'it returns false'. Refute it at one input. -/
def fnExactMostAvoidingWrong : ChangeSpec := { name := "fnExactMostAvoiding", fn := fun _ => fun
  | [d1, d2] => { results := [.lit (.bool false)], args := [d1, d2] }
  | _ => none }
def FnExactMostAvoidingWrongFalsely : Prop := fnExactMostAvoidingRow.holds Try.pinned (OpenSpec.ofChange fnExactMostAvoidingWrong)

/-- 'laws.FnExactTotient': WHATEVER THE INPUT: true; the input reads as it did. -/
def fnExactTotientSpec : ChangeSpec := { name := "fnExactTotient", fn := fun _ => fun
  | [d] => { results := [.lit (.bool true)], args := [d] }
  | _ => none }
def fnExactTotientRow : OpenClaim := { program := "ytjpdlpegcfpcdaa", sum := "4c1d5762dbd30dd804ac6722e7947249725233a170535a7567ad04601779c730", func := "loop.example/g03204/laws.FnExactTotient", spec := "fnExactTotient", apart := false }
def FnExactTotientSaid : Prop := fnExactTotientRow.holds Try.pinned (OpenSpec.ofChange fnExactTotientSpec)

/-- ITS FALSE NEIGHBOUR: 'it returns false'. Refute it at one input. -/
def fnExactTotientWrong : ChangeSpec := { name := "fnExactTotient", fn := fun _ => fun
  | [d] => { results := [.lit (.bool false)], args := [d] }
  | _ => none }
def FnExactTotientWrongFalsely : Prop := fnExactTotientRow.holds Try.pinned (OpenSpec.ofChange fnExactTotientWrong)

/-- 'laws.FnExactPrimeOf': WHATEVER THE INPUT: true; the input reads as it did. -/
def fnExactPrimeOfSpec : ChangeSpec := { name := "fnExactPrimeOf", fn := fun _ => fun
  | [d] => { results := [.lit (.bool true)], args := [d] }
  | _ => none }
def fnExactPrimeOfRow : OpenClaim := { program := "ytjpdlpegcfpcdaa", sum := "4c1d5762dbd30dd804ac6722e7947249725233a170535a7567ad04601779c730", func := "loop.example/g03204/laws.FnExactPrimeOf", spec := "fnExactPrimeOf", apart := false }
def FnExactPrimeOfSaid : Prop := fnExactPrimeOfRow.holds Try.pinned (OpenSpec.ofChange fnExactPrimeOfSpec)

/-- ITS FALSE NEIGHBOUR: 'it returns false'. Refute it at one input. -/
def fnExactPrimeOfWrong : ChangeSpec := { name := "fnExactPrimeOf", fn := fun _ => fun
  | [d] => { results := [.lit (.bool false)], args := [d] }
  | _ => none }
def FnExactPrimeOfWrongFalsely : Prop := fnExactPrimeOfRow.holds Try.pinned (OpenSpec.ofChange fnExactPrimeOfWrong)

/-- 'laws.FnExactDivisorsOf': WHATEVER THE INPUT: true; the input reads as it did. -/
def fnExactDivisorsOfSpec : ChangeSpec := { name := "fnExactDivisorsOf", fn := fun _ => fun
  | [d] => { results := [.lit (.bool true)], args := [d] }
  | _ => none }
def fnExactDivisorsOfRow : OpenClaim := { program := "ytjpdlpegcfpcdaa", sum := "4c1d5762dbd30dd804ac6722e7947249725233a170535a7567ad04601779c730", func := "loop.example/g03204/laws.FnExactDivisorsOf", spec := "fnExactDivisorsOf", apart := false }
def FnExactDivisorsOfSaid : Prop := fnExactDivisorsOfRow.holds Try.pinned (OpenSpec.ofChange fnExactDivisorsOfSpec)

/-- ITS FALSE NEIGHBOUR: 'it returns false'. Refute it at one input. -/
def fnExactDivisorsOfWrong : ChangeSpec := { name := "fnExactDivisorsOf", fn := fun _ => fun
  | [d] => { results := [.lit (.bool false)], args := [d] }
  | _ => none }
def FnExactDivisorsOfWrongFalsely : Prop := fnExactDivisorsOfRow.holds Try.pinned (OpenSpec.ofChange fnExactDivisorsOfWrong)

/-- 'laws.FnExactValueAt': WHATEVER THE INPUT: true; the input reads as it did. -/
def fnExactValueAtSpec : ChangeSpec := { name := "fnExactValueAt", fn := fun _ => fun
  | [d1, d2] => { results := [.lit (.bool true)], args := [d1, d2] }
  | _ => none }
def fnExactValueAtRow : OpenClaim := { program := "ytjpdlpegcfpcdaa", sum := "4c1d5762dbd30dd804ac6722e7947249725233a170535a7567ad04601779c730", func := "loop.example/g03204/laws.FnExactValueAt", spec := "fnExactValueAt", unfollowed := true, recurses := true, apart := false }
def FnExactValueAtSaid : Prop := fnExactValueAtRow.holds Try.pinned (OpenSpec.ofChange fnExactValueAtSpec)

/-- ITS FALSE NEIGHBOUR: 'it returns false'. Refute it at one input. -/
def fnExactValueAtWrong : ChangeSpec := { name := "fnExactValueAt", fn := fun _ => fun
  | [d1, d2] => { results := [.lit (.bool false)], args := [d1, d2] }
  | _ => none }
def FnExactValueAtWrongFalsely : Prop := fnExactValueAtRow.holds Try.pinned (OpenSpec.ofChange fnExactValueAtWrong)

/-- 'laws.FnExactCirclesOf': WHATEVER THE INPUT: true; the input reads as it did. -/
def fnExactCirclesOfSpec : ChangeSpec := { name := "fnExactCirclesOf", fn := fun _ => fun
  | [d1, d2] => { results := [.lit (.bool true)], args := [d1, d2] }
  | _ => none }
def fnExactCirclesOfRow : OpenClaim := { program := "ytjpdlpegcfpcdaa", sum := "4c1d5762dbd30dd804ac6722e7947249725233a170535a7567ad04601779c730", func := "loop.example/g03204/laws.FnExactCirclesOf", spec := "fnExactCirclesOf", apart := false }
def FnExactCirclesOfSaid : Prop := fnExactCirclesOfRow.holds Try.pinned (OpenSpec.ofChange fnExactCirclesOfSpec)

/-- ITS FALSE NEIGHBOUR: 'it returns false'. Refute it at one input. -/
def fnExactCirclesOfWrong : ChangeSpec := { name := "fnExactCirclesOf", fn := fun _ => fun
  | [d1, d2] => { results := [.lit (.bool false)], args := [d1, d2] }
  | _ => none }
def FnExactCirclesOfWrongFalsely : Prop := fnExactCirclesOfRow.holds Try.pinned (OpenSpec.ofChange fnExactCirclesOfWrong)

/-- 'laws.FnExactCountAvoiding': WHATEVER THE INPUT: true; the input reads as it did. -/
def fnExactCountAvoidingSpec : ChangeSpec := { name := "fnExactCountAvoiding", fn := fun _ => fun
  | [d1, d2, d3] => { results := [.lit (.bool true)], args := [d1, d2, d3] }
  | _ => none }
def fnExactCountAvoidingRow : OpenClaim := { program := "ytjpdlpegcfpcdaa", sum := "4c1d5762dbd30dd804ac6722e7947249725233a170535a7567ad04601779c730", func := "loop.example/g03204/laws.FnExactCountAvoiding", spec := "fnExactCountAvoiding", apart := false }
def FnExactCountAvoidingSaid : Prop := fnExactCountAvoidingRow.holds Try.pinned (OpenSpec.ofChange fnExactCountAvoidingSpec)

/-- ITS FALSE NEIGHBOUR: 'it returns false'. Refute it at one input. -/
def fnExactCountAvoidingWrong : ChangeSpec := { name := "fnExactCountAvoiding", fn := fun _ => fun
  | [d1, d2, d3] => { results := [.lit (.bool false)], args := [d1, d2, d3] }
  | _ => none }
def FnExactCountAvoidingWrongFalsely : Prop := fnExactCountAvoidingRow.holds Try.pinned (OpenSpec.ofChange fnExactCountAvoidingWrong)

/- THE SECOND FORM. 'bulk': how many values and letters a reading holds, each counted each time it is reached (what is shared counts as often as it is met; a slice's spare places count too). A statement '..UptoSaid' is the law's where the arguments, and the package variables that the reading takes, are together of bulk at most 1048576: NARROWER than '..Said'. Prove '..Said' where nothing that the law and all that it calls make is longer than what came in: it says more and counts as full. Else prove '..UptoSaid'. A law counts once. -/
mutual
def uptoBulk {H : Type} : DataW H → Nat
  | .lit (.string bytes) => bytes.length + 1
  | .lit _ => 1
  | .nil => 1
  | .ptr d => uptoBulk d + 1
  | .slice elems spare => uptoBulkAll elems + uptoBulkAll spare + 1
  | .agg parts => uptoBulkAll parts + 1
  | .iface _ d => uptoBulk d + 1
  | .map entries => uptoBulkEntries entries + 1
  | .held _ => 1
def uptoBulkAll {H : Type} : List (DataW H) → Nat
  | [] => 0
  | d :: r => uptoBulk d + uptoBulkAll r
def uptoBulkEntries {H : Type} : List (Lit × DataW H) → Nat
  | [] => 0
  | x :: r => uptoBulkEntry x + uptoBulkEntries r
def uptoBulkEntry {H : Type} : Lit × DataW H → Nat
  | (.string bytes, d) => bytes.length + uptoBulk d + 1
  | (_, d) => uptoBulk d + 1
 end
def uptoSmall : (H : Type) → List (DataW H) → Bool := fun _ ds => decide (uptoBulkAll ds ≤ 1048576)
def OpenSpec.upto (s : _root_.Go.ChangeSpec) : _root_.Go.OpenSpec := { _root_.Go.OpenSpec.ofChange s with cond := some uptoSmall }

/-- 'laws.FnExactMostAvoiding', WHERE WHAT IT READS IS OF BULK AT MOST 1048576: true; the input reads as it did. -/
def fnExactMostAvoidingUptoRow : OpenClaim := { program := "ytjpdlpegcfpcdaa", sum := "4c1d5762dbd30dd804ac6722e7947249725233a170535a7567ad04601779c730", func := "loop.example/g03204/laws.FnExactMostAvoiding", spec := "fnExactMostAvoiding", apart := false, narrowed := true }
def FnExactMostAvoidingUptoSaid : Prop := fnExactMostAvoidingUptoRow.holds Try.pinned (OpenSpec.upto fnExactMostAvoidingSpec)

/-- 'laws.FnExactTotient', WHERE WHAT IT READS IS OF BULK AT MOST 1048576: true; the input reads as it did. -/
def fnExactTotientUptoRow : OpenClaim := { program := "ytjpdlpegcfpcdaa", sum := "4c1d5762dbd30dd804ac6722e7947249725233a170535a7567ad04601779c730", func := "loop.example/g03204/laws.FnExactTotient", spec := "fnExactTotient", apart := false, narrowed := true }
def FnExactTotientUptoSaid : Prop := fnExactTotientUptoRow.holds Try.pinned (OpenSpec.upto fnExactTotientSpec)

/-- 'laws.FnExactPrimeOf', WHERE WHAT IT READS IS OF BULK AT MOST 1048576: true; the input reads as it did. -/
def fnExactPrimeOfUptoRow : OpenClaim := { program := "ytjpdlpegcfpcdaa", sum := "4c1d5762dbd30dd804ac6722e7947249725233a170535a7567ad04601779c730", func := "loop.example/g03204/laws.FnExactPrimeOf", spec := "fnExactPrimeOf", apart := false, narrowed := true }
def FnExactPrimeOfUptoSaid : Prop := fnExactPrimeOfUptoRow.holds Try.pinned (OpenSpec.upto fnExactPrimeOfSpec)

/-- 'laws.FnExactDivisorsOf', WHERE WHAT IT READS IS OF BULK AT MOST 1048576: true; the input reads as it did. -/
def fnExactDivisorsOfUptoRow : OpenClaim := { program := "ytjpdlpegcfpcdaa", sum := "4c1d5762dbd30dd804ac6722e7947249725233a170535a7567ad04601779c730", func := "loop.example/g03204/laws.FnExactDivisorsOf", spec := "fnExactDivisorsOf", apart := false, narrowed := true }
def FnExactDivisorsOfUptoSaid : Prop := fnExactDivisorsOfUptoRow.holds Try.pinned (OpenSpec.upto fnExactDivisorsOfSpec)

/-- 'laws.FnExactValueAt', WHERE WHAT IT READS IS OF BULK AT MOST 1048576: true; the input reads as it did. -/
def fnExactValueAtUptoRow : OpenClaim := { program := "ytjpdlpegcfpcdaa", sum := "4c1d5762dbd30dd804ac6722e7947249725233a170535a7567ad04601779c730", func := "loop.example/g03204/laws.FnExactValueAt", spec := "fnExactValueAt", unfollowed := true, recurses := true, apart := false, narrowed := true }
def FnExactValueAtUptoSaid : Prop := fnExactValueAtUptoRow.holds Try.pinned (OpenSpec.upto fnExactValueAtSpec)

/-- 'laws.FnExactCirclesOf', WHERE WHAT IT READS IS OF BULK AT MOST 1048576: true; the input reads as it did. -/
def fnExactCirclesOfUptoRow : OpenClaim := { program := "ytjpdlpegcfpcdaa", sum := "4c1d5762dbd30dd804ac6722e7947249725233a170535a7567ad04601779c730", func := "loop.example/g03204/laws.FnExactCirclesOf", spec := "fnExactCirclesOf", apart := false, narrowed := true }
def FnExactCirclesOfUptoSaid : Prop := fnExactCirclesOfUptoRow.holds Try.pinned (OpenSpec.upto fnExactCirclesOfSpec)

/-- 'laws.FnExactCountAvoiding', WHERE WHAT IT READS IS OF BULK AT MOST 1048576: true; the input reads as it did. -/
def fnExactCountAvoidingUptoRow : OpenClaim := { program := "ytjpdlpegcfpcdaa", sum := "4c1d5762dbd30dd804ac6722e7947249725233a170535a7567ad04601779c730", func := "loop.example/g03204/laws.FnExactCountAvoiding", spec := "fnExactCountAvoiding", apart := false, narrowed := true }
def FnExactCountAvoidingUptoSaid : Prop := fnExactCountAvoidingUptoRow.holds Try.pinned (OpenSpec.upto fnExactCountAvoidingSpec)

end Rows
end Go.Proofs.Ytjpdlpegcfpcdaa
