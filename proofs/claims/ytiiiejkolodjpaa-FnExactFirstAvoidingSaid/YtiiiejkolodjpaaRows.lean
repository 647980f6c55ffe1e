/-
  No cell of these rows narrows 'for every input' (looked for: loops, veiled, ifaces, maps, wideKeys, modest, calm, conditions, laid).
  DERIVED. THE GIVEN ROWS OF THIS SEAT. 12 by the template 'for every input the law returns true; each argument reads behind the call as it read before'; 0 by the template 'total and deterministic' (their statements: YtiiiejkolodjpaaTotals.lean).
  GIVEN WITH THE SEED: the statements are not yours to turn. If you find one false, say at which input.
  Laid BY PROGRAM, IN A SANDBOX (cutbox-rows.mjs): the forced cells as the released guide's own fill.sh prints them over the translation bcf0ad8efe91955a… (all of the seat's roots in one cut). By AI agents, Wed Nov 11 2026. No macro, syntax, notation, axiom, sorry.
-/
import Derived.Test.YtiiiejkolodjpaaChecked
import GoSem.Claim
import GoSem.ClaimJoined
import GoSem.ClaimMapViews
import Derived.JoinedTies
import Derived.KernelRfl
namespace Go.Proofs.Ytiiiejkolodjpaa
/- THE CELL 'sum', in the pinned program and in every row, IS THE sha256 OF THE DUMP (.gsa) THAT YtiiiejkolodjpaaProg.lean LOADS. Nothing in Lean hashes anything: it is a label: what it is worth is what the hold of that sum in a sandbox is worth. -/
noncomputable def Try.pinned : Pinned := { name := "ytiiiejkolodjpaa", sum := "bcf0ad8efe91955a0983ccc93cbf2a9110886cbc423a5ba89ceb4e585d46f1e1", checked := Try.checked }
namespace Rows
def none {H : Type} : Left H := { results := [], args := [] }

/-- 'laws.FnExactAvoidsInterval': WHATEVER THE INPUT: true; the input reads as it did. -/
def fnExactAvoidsIntervalSpec : ChangeSpec := { name := "fnExactAvoidsInterval", fn := fun _ => fun
  | [d1, d2] => { results := [.lit (.bool true)], args := [d1, d2] }
  | _ => none }
def fnExactAvoidsIntervalRow : OpenClaim := { program := "ytiiiejkolodjpaa", sum := "bcf0ad8efe91955a0983ccc93cbf2a9110886cbc423a5ba89ceb4e585d46f1e1", func := "loop.example/g03204/laws.FnExactAvoidsInterval", spec := "fnExactAvoidsInterval", apart := false }
def FnExactAvoidsIntervalSaid : Prop := fnExactAvoidsIntervalRow.holds Try.pinned (OpenSpec.ofChange fnExactAvoidsIntervalSpec)

/-- ITS FALSE NEIGHBOUR: 'it returns false'. Refute it at one input. -/
def fnExactAvoidsIntervalWrong : ChangeSpec := { name := "fnExactAvoidsInterval", fn := fun _ => fun
  | [d1, d2] => { results := [.lit (.bool false)], args := [d1, d2] }
  | _ => none }
def FnExactAvoidsIntervalWrongFalsely : Prop := fnExactAvoidsIntervalRow.holds Try.pinned (OpenSpec.ofChange fnExactAvoidsIntervalWrong)

/-- 'laws.FnExactHasOddity': WHATEVER THE INPUT: true; the input reads as it did. -/
def fnExactHasOdditySpec : ChangeSpec := { name := "fnExactHasOddity", fn := fun _ => fun
  | [d] => { results := [.lit (.bool true)], args := [d] }
  | _ => none }
def fnExactHasOddityRow : OpenClaim := { program := "ytiiiejkolodjpaa", sum := "bcf0ad8efe91955a0983ccc93cbf2a9110886cbc423a5ba89ceb4e585d46f1e1", func := "loop.example/g03204/laws.FnExactHasOddity", spec := "fnExactHasOddity", apart := false }
def FnExactHasOdditySaid : Prop := fnExactHasOddityRow.holds Try.pinned (OpenSpec.ofChange fnExactHasOdditySpec)

/-- ITS FALSE NEIGHBOUR: 'it returns false'. Refute it at one input. -/
def fnExactHasOddityWrong : ChangeSpec := { name := "fnExactHasOddity", fn := fun _ => fun
  | [d] => { results := [.lit (.bool false)], args := [d] }
  | _ => none }
def FnExactHasOddityWrongFalsely : Prop := fnExactHasOddityRow.holds Try.pinned (OpenSpec.ofChange fnExactHasOddityWrong)

/-- 'laws.FnExactOppositePairs': WHATEVER THE INPUT: true; the input reads as it did. -/
def fnExactOppositePairsSpec : ChangeSpec := { name := "fnExactOppositePairs", fn := fun _ => fun
  | [d] => { results := [.lit (.bool true)], args := [d] }
  | _ => none }
def fnExactOppositePairsRow : OpenClaim := { program := "ytiiiejkolodjpaa", sum := "bcf0ad8efe91955a0983ccc93cbf2a9110886cbc423a5ba89ceb4e585d46f1e1", func := "loop.example/g03204/laws.FnExactOppositePairs", spec := "fnExactOppositePairs", apart := false }
def FnExactOppositePairsSaid : Prop := fnExactOppositePairsRow.holds Try.pinned (OpenSpec.ofChange fnExactOppositePairsSpec)

/-- ITS FALSE NEIGHBOUR: 'it returns false'. Refute it at one input. -/
def fnExactOppositePairsWrong : ChangeSpec := { name := "fnExactOppositePairs", fn := fun _ => fun
  | [d] => { results := [.lit (.bool false)], args := [d] }
  | _ => none }
def FnExactOppositePairsWrongFalsely : Prop := fnExactOppositePairsRow.holds Try.pinned (OpenSpec.ofChange fnExactOppositePairsWrong)

/-- 'laws.FnExactFreePulses': WHATEVER THE INPUT: true; the input reads as it did. -/
def fnExactFreePulsesSpec : ChangeSpec := { name := "fnExactFreePulses", fn := fun _ => fun
  | [d1, d2] => { results := [.lit (.bool true)], args := [d1, d2] }
  | _ => none }
def fnExactFreePulsesRow : OpenClaim := { program := "ytiiiejkolodjpaa", sum := "bcf0ad8efe91955a0983ccc93cbf2a9110886cbc423a5ba89ceb4e585d46f1e1", func := "loop.example/g03204/laws.FnExactFreePulses", spec := "fnExactFreePulses", apart := false }
def FnExactFreePulsesSaid : Prop := fnExactFreePulsesRow.holds Try.pinned (OpenSpec.ofChange fnExactFreePulsesSpec)

/-- ITS FALSE NEIGHBOUR: 'it returns false'. Refute it at one input. -/
def fnExactFreePulsesWrong : ChangeSpec := { name := "fnExactFreePulses", fn := fun _ => fun
  | [d1, d2] => { results := [.lit (.bool false)], args := [d1, d2] }
  | _ => none }
def FnExactFreePulsesWrongFalsely : Prop := fnExactFreePulsesRow.holds Try.pinned (OpenSpec.ofChange fnExactFreePulsesWrong)

/-- 'laws.FnExactFirstAvoiding': WHATEVER THE INPUT: true; the input reads as it did. -/
def fnExactFirstAvoidingSpec : ChangeSpec := { name := "fnExactFirstAvoiding", fn := fun _ => fun
  | [d1, d2, d3] => { results := [.lit (.bool true)], args := [d1, d2, d3] }
  | _ => none }
def fnExactFirstAvoidingRow : OpenClaim := { program := "ytiiiejkolodjpaa", sum := "bcf0ad8efe91955a0983ccc93cbf2a9110886cbc423a5ba89ceb4e585d46f1e1", func := "loop.example/g03204/laws.FnExactFirstAvoiding", spec := "fnExactFirstAvoiding", recurses := true, apart := false }
def FnExactFirstAvoidingSaid : Prop := fnExactFirstAvoidingRow.holds Try.pinned (OpenSpec.ofChange fnExactFirstAvoidingSpec)

/-- ITS FALSE NEIGHBOUR: 'it returns false'. Refute it at one input. -/
def fnExactFirstAvoidingWrong : ChangeSpec := { name := "fnExactFirstAvoiding", fn := fun _ => fun
  | [d1, d2, d3] => { results := [.lit (.bool false)], args := [d1, d2, d3] }
  | _ => none }
def FnExactFirstAvoidingWrongFalsely : Prop := fnExactFirstAvoidingRow.holds Try.pinned (OpenSpec.ofChange fnExactFirstAvoidingWrong)

/-- 'laws.FnExactCanonOk': WHATEVER THE INPUT: true; the input reads as it did. -/
def fnExactCanonOkSpec : ChangeSpec := { name := "fnExactCanonOk", fn := fun _ => fun
  | [d] => { results := [.lit (.bool true)], args := [d] }
  | _ => none }
def fnExactCanonOkRow : OpenClaim := { program := "ytiiiejkolodjpaa", sum := "bcf0ad8efe91955a0983ccc93cbf2a9110886cbc423a5ba89ceb4e585d46f1e1", func := "loop.example/g03204/laws.FnExactCanonOk", spec := "fnExactCanonOk", apart := false }
def FnExactCanonOkSaid : Prop := fnExactCanonOkRow.holds Try.pinned (OpenSpec.ofChange fnExactCanonOkSpec)

/-- ITS FALSE NEIGHBOUR: 'it returns false'. Refute it at one input. -/
def fnExactCanonOkWrong : ChangeSpec := { name := "fnExactCanonOk", fn := fun _ => fun
  | [d] => { results := [.lit (.bool false)], args := [d] }
  | _ => none }
def FnExactCanonOkWrongFalsely : Prop := fnExactCanonOkRow.holds Try.pinned (OpenSpec.ofChange fnExactCanonOkWrong)

/-- 'laws.FnExactIsDirect': WHATEVER THE INPUT: true; the input reads as it did. -/
def fnExactIsDirectSpec : ChangeSpec := { name := "fnExactIsDirect", fn := fun _ => fun
  | [d1, d2] => { results := [.lit (.bool true)], args := [d1, d2] }
  | _ => none }
def fnExactIsDirectRow : OpenClaim := { program := "ytiiiejkolodjpaa", sum := "bcf0ad8efe91955a0983ccc93cbf2a9110886cbc423a5ba89ceb4e585d46f1e1", func := "loop.example/g03204/laws.FnExactIsDirect", spec := "fnExactIsDirect", apart := false }
def FnExactIsDirectSaid : Prop := fnExactIsDirectRow.holds Try.pinned (OpenSpec.ofChange fnExactIsDirectSpec)

/-- ITS FALSE NEIGHBOUR: 'it returns false'. Refute it at one input. -/
def fnExactIsDirectWrong : ChangeSpec := { name := "fnExactIsDirect", fn := fun _ => fun
  | [d1, d2] => { results := [.lit (.bool false)], args := [d1, d2] }
  | _ => none }
def FnExactIsDirectWrongFalsely : Prop := fnExactIsDirectRow.holds Try.pinned (OpenSpec.ofChange fnExactIsDirectWrong)

/-- 'laws.FnExactIsTiling': WHATEVER THE INPUT: true; the input reads as it did. -/
def fnExactIsTilingSpec : ChangeSpec := { name := "fnExactIsTiling", fn := fun _ => fun
  | [d1, d2] => { results := [.lit (.bool true)], args := [d1, d2] }
  | _ => none }
def fnExactIsTilingRow : OpenClaim := { program := "ytiiiejkolodjpaa", sum := "bcf0ad8efe91955a0983ccc93cbf2a9110886cbc423a5ba89ceb4e585d46f1e1", func := "loop.example/g03204/laws.FnExactIsTiling", spec := "fnExactIsTiling", apart := false }
def FnExactIsTilingSaid : Prop := fnExactIsTilingRow.holds Try.pinned (OpenSpec.ofChange fnExactIsTilingSpec)

/-- ITS FALSE NEIGHBOUR: 'it returns false'. Refute it at one input. -/
def fnExactIsTilingWrong : ChangeSpec := { name := "fnExactIsTiling", fn := fun _ => fun
  | [d1, d2] => { results := [.lit (.bool false)], args := [d1, d2] }
  | _ => none }
def FnExactIsTilingWrongFalsely : Prop := fnExactIsTilingRow.holds Try.pinned (OpenSpec.ofChange fnExactIsTilingWrong)

/-- 'laws.FnExactSumCounts': WHATEVER THE INPUT: true; the input reads as it did. -/
def fnExactSumCountsSpec : ChangeSpec := { name := "fnExactSumCounts", fn := fun _ => fun
  | [d1, d2] => { results := [.lit (.bool true)], args := [d1, d2] }
  | _ => none }
def fnExactSumCountsRow : OpenClaim := { program := "ytiiiejkolodjpaa", sum := "bcf0ad8efe91955a0983ccc93cbf2a9110886cbc423a5ba89ceb4e585d46f1e1", func := "loop.example/g03204/laws.FnExactSumCounts", spec := "fnExactSumCounts", apart := false }
def FnExactSumCountsSaid : Prop := fnExactSumCountsRow.holds Try.pinned (OpenSpec.ofChange fnExactSumCountsSpec)

/-- ITS FALSE NEIGHBOUR: 'it returns false'. Refute it at one input. -/
def fnExactSumCountsWrong : ChangeSpec := { name := "fnExactSumCounts", fn := fun _ => fun
  | [d1, d2] => { results := [.lit (.bool false)], args := [d1, d2] }
  | _ => none }
def FnExactSumCountsWrongFalsely : Prop := fnExactSumCountsRow.holds Try.pinned (OpenSpec.ofChange fnExactSumCountsWrong)

/-- 'laws.FnExactSumRhythm': WHATEVER THE INPUT: true; the input reads as it did. -/
def fnExactSumRhythmSpec : ChangeSpec := { name := "fnExactSumRhythm", fn := fun _ => fun
  | [d1, d2] => { results := [.lit (.bool true)], args := [d1, d2] }
  | _ => none }
def fnExactSumRhythmRow : OpenClaim := { program := "ytiiiejkolodjpaa", sum := "bcf0ad8efe91955a0983ccc93cbf2a9110886cbc423a5ba89ceb4e585d46f1e1", func := "loop.example/g03204/laws.FnExactSumRhythm", spec := "fnExactSumRhythm", apart := false }
def FnExactSumRhythmSaid : Prop := fnExactSumRhythmRow.holds Try.pinned (OpenSpec.ofChange fnExactSumRhythmSpec)

/-- ITS FALSE NEIGHBOUR: 'it returns false'. Refute it at one input. -/
def fnExactSumRhythmWrong : ChangeSpec := { name := "fnExactSumRhythm", fn := fun _ => fun
  | [d1, d2] => { results := [.lit (.bool false)], args := [d1, d2] }
  | _ => none }
def FnExactSumRhythmWrongFalsely : Prop := fnExactSumRhythmRow.holds Try.pinned (OpenSpec.ofChange fnExactSumRhythmWrong)

/-- 'laws.FnExactIsTight': WHATEVER THE INPUT: true; the input reads as it did. -/
def fnExactIsTightSpec : ChangeSpec := { name := "fnExactIsTight", fn := fun _ => fun
  | [d] => { results := [.lit (.bool true)], args := [d] }
  | _ => none }
def fnExactIsTightRow : OpenClaim := { program := "ytiiiejkolodjpaa", sum := "bcf0ad8efe91955a0983ccc93cbf2a9110886cbc423a5ba89ceb4e585d46f1e1", func := "loop.example/g03204/laws.FnExactIsTight", spec := "fnExactIsTight", apart := false }
def FnExactIsTightSaid : Prop := fnExactIsTightRow.holds Try.pinned (OpenSpec.ofChange fnExactIsTightSpec)

/-- ITS FALSE NEIGHBOUR: 'it returns false'. Refute it at one input. -/
def fnExactIsTightWrong : ChangeSpec := { name := "fnExactIsTight", fn := fun _ => fun
  | [d] => { results := [.lit (.bool false)], args := [d] }
  | _ => none }
def FnExactIsTightWrongFalsely : Prop := fnExactIsTightRow.holds Try.pinned (OpenSpec.ofChange fnExactIsTightWrong)

/-- 'laws.FnExactGapsIn': WHATEVER THE INPUT: true; the input reads as it did. -/
def fnExactGapsInSpec : ChangeSpec := { name := "fnExactGapsIn", fn := fun _ => fun
  | [d1, d2] => { results := [.lit (.bool true)], args := [d1, d2] }
  | _ => none }
def fnExactGapsInRow : OpenClaim := { program := "ytiiiejkolodjpaa", sum := "bcf0ad8efe91955a0983ccc93cbf2a9110886cbc423a5ba89ceb4e585d46f1e1", func := "loop.example/g03204/laws.FnExactGapsIn", spec := "fnExactGapsIn", apart := false }
def FnExactGapsInSaid : Prop := fnExactGapsInRow.holds Try.pinned (OpenSpec.ofChange fnExactGapsInSpec)

/-- ITS FALSE NEIGHBOUR: 'it returns false'. Refute it at one input. -/
def fnExactGapsInWrong : ChangeSpec := { name := "fnExactGapsIn", fn := fun _ => fun
  | [d1, d2] => { results := [.lit (.bool false)], args := [d1, d2] }
  | _ => none }
def FnExactGapsInWrongFalsely : Prop := fnExactGapsInRow.holds Try.pinned (OpenSpec.ofChange fnExactGapsInWrong)

/- THE SECOND FORM. 'bulk': how many values and letters a reading holds, each counted each time it is reached (what is shared counts as often as it is met; a slice's spare places count too). A statement '..UptoSaid' is the law's where the arguments, and the package variables that the reading takes, are together of bulk at most 1048576: NARROWER than '..Said'. Prove '..Said' where nothing that the law and all that it calls make is longer than what came in: it says more and counts as full. Else prove '..UptoSaid'. A law counts once. -/
mutual
def uptoBulk {H : Type} : DataW H → Nat
  | .lit (.string bytes) => bytes.length + 1
  | .lit _ => 1
  | .nil => 1
  | .ptr d => uptoBulk d + 1
  | .slice elems spare => uptoBulkAll elems + uptoBulkAll spare + 1
  | .agg parts => uptoBulkAll parts + 1
  | .iface _ d => uptoBulk d + 1
  | .map entries => uptoBulkEntries entries + 1
  | .held _ => 1
def uptoBulkAll {H : Type} : List (DataW H) → Nat
  | [] => 0
  | d :: r => uptoBulk d + uptoBulkAll r
def uptoBulkEntries {H : Type} : List (Lit × DataW H) → Nat
  | [] => 0
  | x :: r => uptoBulkEntry x + uptoBulkEntries r
def uptoBulkEntry {H : Type} : Lit × DataW H → Nat
  | (.string bytes, d) => bytes.length + uptoBulk d + 1
  | (_, d) => uptoBulk d + 1
 end
def uptoSmall : (H : Type) → List (DataW H) → Bool := fun _ ds => decide (uptoBulkAll ds ≤ 1048576)
def OpenSpec.upto (s : _root_.Go.ChangeSpec) : _root_.Go.OpenSpec := { _root_.Go.OpenSpec.ofChange s with cond := some uptoSmall }

/-- 'laws.FnExactAvoidsInterval', WHERE WHAT IT READS IS OF BULK AT MOST 1048576: true; the input reads as it did. -/
def fnExactAvoidsIntervalUptoRow : OpenClaim := { program := "ytiiiejkolodjpaa", sum := "bcf0ad8efe91955a0983ccc93cbf2a9110886cbc423a5ba89ceb4e585d46f1e1", func := "loop.example/g03204/laws.FnExactAvoidsInterval", spec := "fnExactAvoidsInterval", apart := false, narrowed := true }
def FnExactAvoidsIntervalUptoSaid : Prop := fnExactAvoidsIntervalUptoRow.holds Try.pinned (OpenSpec.upto fnExactAvoidsIntervalSpec)

/-- 'laws.FnExactHasOddity', WHERE WHAT IT READS IS OF BULK AT MOST 1048576: true; the input reads as it did. -/
def fnExactHasOddityUptoRow : OpenClaim := { program := "ytiiiejkolodjpaa", sum := "bcf0ad8efe91955a0983ccc93cbf2a9110886cbc423a5ba89ceb4e585d46f1e1", func := "loop.example/g03204/laws.FnExactHasOddity", spec := "fnExactHasOddity", apart := false, narrowed := true }
def FnExactHasOddityUptoSaid : Prop := fnExactHasOddityUptoRow.holds Try.pinned (OpenSpec.upto fnExactHasOdditySpec)

/-- 'laws.FnExactOppositePairs', WHERE WHAT IT READS IS OF BULK AT MOST 1048576: true; the input reads as it did. -/
def fnExactOppositePairsUptoRow : OpenClaim := { program := "ytiiiejkolodjpaa", sum := "bcf0ad8efe91955a0983ccc93cbf2a9110886cbc423a5ba89ceb4e585d46f1e1", func := "loop.example/g03204/laws.FnExactOppositePairs", spec := "fnExactOppositePairs", apart := false, narrowed := true }
def FnExactOppositePairsUptoSaid : Prop := fnExactOppositePairsUptoRow.holds Try.pinned (OpenSpec.upto fnExactOppositePairsSpec)

/-- 'laws.FnExactFreePulses', WHERE WHAT IT READS IS OF BULK AT MOST 1048576: true; the input reads as it did. -/
def fnExactFreePulsesUptoRow : OpenClaim := { program := "ytiiiejkolodjpaa", sum := "bcf0ad8efe91955a0983ccc93cbf2a9110886cbc423a5ba89ceb4e585d46f1e1", func := "loop.example/g03204/laws.FnExactFreePulses", spec := "fnExactFreePulses", apart := false, narrowed := true }
def FnExactFreePulsesUptoSaid : Prop := fnExactFreePulsesUptoRow.holds Try.pinned (OpenSpec.upto fnExactFreePulsesSpec)

/-- 'laws.FnExactFirstAvoiding', WHERE WHAT IT READS IS OF BULK AT MOST 1048576: true; the input reads as it did. -/
def fnExactFirstAvoidingUptoRow : OpenClaim := { program := "ytiiiejkolodjpaa", sum := "bcf0ad8efe91955a0983ccc93cbf2a9110886cbc423a5ba89ceb4e585d46f1e1", func := "loop.example/g03204/laws.FnExactFirstAvoiding", spec := "fnExactFirstAvoiding", recurses := true, apart := false, narrowed := true }
def FnExactFirstAvoidingUptoSaid : Prop := fnExactFirstAvoidingUptoRow.holds Try.pinned (OpenSpec.upto fnExactFirstAvoidingSpec)

/-- 'laws.FnExactCanonOk', WHERE WHAT IT READS IS OF BULK AT MOST 1048576: true; the input reads as it did. -/
def fnExactCanonOkUptoRow : OpenClaim := { program := "ytiiiejkolodjpaa", sum := "bcf0ad8efe91955a0983ccc93cbf2a9110886cbc423a5ba89ceb4e585d46f1e1", func := "loop.example/g03204/laws.FnExactCanonOk", spec := "fnExactCanonOk", apart := false, narrowed := true }
def FnExactCanonOkUptoSaid : Prop := fnExactCanonOkUptoRow.holds Try.pinned (OpenSpec.upto fnExactCanonOkSpec)

/-- 'laws.FnExactIsDirect', WHERE WHAT IT READS IS OF BULK AT MOST 1048576: true; the input reads as it did. -/
def fnExactIsDirectUptoRow : OpenClaim := { program := "ytiiiejkolodjpaa", sum := "bcf0ad8efe91955a0983ccc93cbf2a9110886cbc423a5ba89ceb4e585d46f1e1", func := "loop.example/g03204/laws.FnExactIsDirect", spec := "fnExactIsDirect", apart := false, narrowed := true }
def FnExactIsDirectUptoSaid : Prop := fnExactIsDirectUptoRow.holds Try.pinned (OpenSpec.upto fnExactIsDirectSpec)

/-- 'laws.FnExactIsTiling', WHERE WHAT IT READS IS OF BULK AT MOST 1048576: true; the input reads as it did. -/
def fnExactIsTilingUptoRow : OpenClaim := { program := "ytiiiejkolodjpaa", sum := "bcf0ad8efe91955a0983ccc93cbf2a9110886cbc423a5ba89ceb4e585d46f1e1", func := "loop.example/g03204/laws.FnExactIsTiling", spec := "fnExactIsTiling", apart := false, narrowed := true }
def FnExactIsTilingUptoSaid : Prop := fnExactIsTilingUptoRow.holds Try.pinned (OpenSpec.upto fnExactIsTilingSpec)

/-- 'laws.FnExactSumCounts', WHERE WHAT IT READS IS OF BULK AT MOST 1048576: true; the input reads as it did. -/
def fnExactSumCountsUptoRow : OpenClaim := { program := "ytiiiejkolodjpaa", sum := "bcf0ad8efe91955a0983ccc93cbf2a9110886cbc423a5ba89ceb4e585d46f1e1", func := "loop.example/g03204/laws.FnExactSumCounts", spec := "fnExactSumCounts", apart := false, narrowed := true }
def FnExactSumCountsUptoSaid : Prop := fnExactSumCountsUptoRow.holds Try.pinned (OpenSpec.upto fnExactSumCountsSpec)

/-- 'laws.FnExactSumRhythm', WHERE WHAT IT READS IS OF BULK AT MOST 1048576: true; the input reads as it did. -/
def fnExactSumRhythmUptoRow : OpenClaim := { program := "ytiiiejkolodjpaa", sum := "bcf0ad8efe91955a0983ccc93cbf2a9110886cbc423a5ba89ceb4e585d46f1e1", func := "loop.example/g03204/laws.FnExactSumRhythm", spec := "fnExactSumRhythm", apart := false, narrowed := true }
def FnExactSumRhythmUptoSaid : Prop := fnExactSumRhythmUptoRow.holds Try.pinned (OpenSpec.upto fnExactSumRhythmSpec)

/-- 'laws.FnExactIsTight', WHERE WHAT IT READS IS OF BULK AT MOST 1048576: true; the input reads as it did. -/
def fnExactIsTightUptoRow : OpenClaim := { program := "ytiiiejkolodjpaa", sum := "bcf0ad8efe91955a0983ccc93cbf2a9110886cbc423a5ba89ceb4e585d46f1e1", func := "loop.example/g03204/laws.FnExactIsTight", spec := "fnExactIsTight", apart := false, narrowed := true }
def FnExactIsTightUptoSaid : Prop := fnExactIsTightUptoRow.holds Try.pinned (OpenSpec.upto fnExactIsTightSpec)

/-- 'laws.FnExactGapsIn', WHERE WHAT IT READS IS OF BULK AT MOST 1048576: true; the input reads as it did. -/
def fnExactGapsInUptoRow : OpenClaim := { program := "ytiiiejkolodjpaa", sum := "bcf0ad8efe91955a0983ccc93cbf2a9110886cbc423a5ba89ceb4e585d46f1e1", func := "loop.example/g03204/laws.FnExactGapsIn", spec := "fnExactGapsIn", apart := false, narrowed := true }
def FnExactGapsInUptoSaid : Prop := fnExactGapsInUptoRow.holds Try.pinned (OpenSpec.upto fnExactGapsInSpec)

end Rows
end Go.Proofs.Ytiiiejkolodjpaa
