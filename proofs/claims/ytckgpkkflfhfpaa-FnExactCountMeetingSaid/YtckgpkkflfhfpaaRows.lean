/-
  No cell of these rows narrows 'for every input' (looked for: loops, veiled, ifaces, maps, wideKeys, modest, calm, conditions, laid).
  DERIVED. THE GIVEN ROWS OF THIS SEAT. 4 by the template 'for every input the law returns true; each argument reads behind the call as it read before'; 0 by the template 'total and deterministic' (their statements: YtckgpkkflfhfpaaTotals.lean).
  GIVEN WITH THE SEED: the statements are not yours to turn. If you find one false, say at which input.
  Laid BY PROGRAM, IN A SANDBOX (cutbox-rows.mjs): the forced cells as the released guide's own fill.sh prints them over the translation 018761711f8b4143… (all of the seat's roots in one cut). By AI agents, Wed Nov 11 2026. No macro, syntax, notation, axiom, sorry.
-/
import Derived.Test.YtckgpkkflfhfpaaChecked
import GoSem.Claim
import GoSem.ClaimJoined
import GoSem.ClaimMapViews
import Derived.JoinedTies
import Derived.KernelRfl
namespace Go.Proofs.Ytckgpkkflfhfpaa
/- THE CELL 'sum', in the pinned program and in every row, IS THE sha256 OF THE DUMP (.gsa) THAT YtckgpkkflfhfpaaProg.lean LOADS. Nothing in Lean hashes anything: it is a label: what it is worth is what the hold of that sum in a sandbox is worth. -/
noncomputable def Try.pinned : Pinned := { name := "ytckgpkkflfhfpaa", sum := "018761711f8b414319cb7d25d71c364e76da62eb70b68507e796d3d63ab66a6a", checked := Try.checked }
namespace Rows
def none {H : Type} : Left H := { results := [], args := [] }

/-- 'laws.FnExactMeetsSecond': WHATEVER THE INPUT: true; the input reads as it did. -/
def fnExactMeetsSecondSpec : ChangeSpec := { name := "fnExactMeetsSecond", fn := fun _ => fun
  | [d] => { results := [.lit (.bool true)], args := [d] }
  | _ => none }
def fnExactMeetsSecondRow : OpenClaim := { program := "ytckgpkkflfhfpaa", sum := "018761711f8b414319cb7d25d71c364e76da62eb70b68507e796d3d63ab66a6a", func := "loop.example/g03204/laws.FnExactMeetsSecond", spec := "fnExactMeetsSecond", unfollowed := true, recurses := true, apart := false }
def FnExactMeetsSecondSaid : Prop := fnExactMeetsSecondRow.holds Try.pinned (OpenSpec.ofChange fnExactMeetsSecondSpec)

/-- ITS FALSE NEIGHBOUR: 'it returns false'. Refute it at one input. -/
def fnExactMeetsSecondWrong : ChangeSpec := { name := "fnExactMeetsSecond", fn := fun _ => fun
  | [d] => { results := [.lit (.bool false)], args := [d] }
  | _ => none }
def FnExactMeetsSecondWrongFalsely : Prop := fnExactMeetsSecondRow.holds Try.pinned (OpenSpec.ofChange fnExactMeetsSecondWrong)

/-- 'laws.FnExactMeetsBoth': WHATEVER THE INPUT: true; the input reads as it did. -/
def fnExactMeetsBothSpec : ChangeSpec := { name := "fnExactMeetsBoth", fn := fun _ => fun
  | [d] => { results := [.lit (.bool true)], args := [d] }
  | _ => none }
def fnExactMeetsBothRow : OpenClaim := { program := "ytckgpkkflfhfpaa", sum := "018761711f8b414319cb7d25d71c364e76da62eb70b68507e796d3d63ab66a6a", func := "loop.example/g03204/laws.FnExactMeetsBoth", spec := "fnExactMeetsBoth", unfollowed := true, recurses := true, apart := false }
def FnExactMeetsBothSaid : Prop := fnExactMeetsBothRow.holds Try.pinned (OpenSpec.ofChange fnExactMeetsBothSpec)

/-- ITS FALSE NEIGHBOUR: 'it returns false'. Refute it at one input. -/
def fnExactMeetsBothWrong : ChangeSpec := { name := "fnExactMeetsBoth", fn := fun _ => fun
  | [d] => { results := [.lit (.bool false)], args := [d] }
  | _ => none }
def FnExactMeetsBothWrongFalsely : Prop := fnExactMeetsBothRow.holds Try.pinned (OpenSpec.ofChange fnExactMeetsBothWrong)

/-- 'laws.FnExactCountMeeting': WHATEVER THE INPUT: true; the input reads as it did. -/
def fnExactCountMeetingSpec : ChangeSpec := { name := "fnExactCountMeeting", fn := fun _ => fun
  | [d1, d2] => { results := [.lit (.bool true)], args := [d1, d2] }
  | _ => none }
def fnExactCountMeetingRow : OpenClaim := { program := "ytckgpkkflfhfpaa", sum := "018761711f8b414319cb7d25d71c364e76da62eb70b68507e796d3d63ab66a6a", func := "loop.example/g03204/laws.FnExactCountMeeting", spec := "fnExactCountMeeting", unfollowed := true, recurses := true, apart := false }
def FnExactCountMeetingSaid : Prop := fnExactCountMeetingRow.holds Try.pinned (OpenSpec.ofChange fnExactCountMeetingSpec)

/-- ITS FALSE NEIGHBOUR: 'it returns false'. Refute it at one input. -/
def fnExactCountMeetingWrong : ChangeSpec := { name := "fnExactCountMeeting", fn := fun _ => fun
  | [d1, d2] => { results := [.lit (.bool false)], args := [d1, d2] }
  | _ => none }
def FnExactCountMeetingWrongFalsely : Prop := fnExactCountMeetingRow.holds Try.pinned (OpenSpec.ofChange fnExactCountMeetingWrong)

/-- 'laws.FnExactIsPeriodicTiling': WHATEVER THE INPUT: true; the input reads as it did. -/
def fnExactIsPeriodicTilingSpec : ChangeSpec := { name := "fnExactIsPeriodicTiling", fn := fun _ => fun
  | [d1, d2] => { results := [.lit (.bool true)], args := [d1, d2] }
  | _ => none }
def fnExactIsPeriodicTilingRow : OpenClaim := { program := "ytckgpkkflfhfpaa", sum := "018761711f8b414319cb7d25d71c364e76da62eb70b68507e796d3d63ab66a6a", func := "loop.example/g03204/laws.FnExactIsPeriodicTiling", spec := "fnExactIsPeriodicTiling", unfollowed := true, recurses := true, apart := false }
def FnExactIsPeriodicTilingSaid : Prop := fnExactIsPeriodicTilingRow.holds Try.pinned (OpenSpec.ofChange fnExactIsPeriodicTilingSpec)

/-- ITS FALSE NEIGHBOUR: 'it returns false'. Refute it at one input. -/
def fnExactIsPeriodicTilingWrong : ChangeSpec := { name := "fnExactIsPeriodicTiling", fn := fun _ => fun
  | [d1, d2] => { results := [.lit (.bool false)], args := [d1, d2] }
  | _ => none }
def FnExactIsPeriodicTilingWrongFalsely : Prop := fnExactIsPeriodicTilingRow.holds Try.pinned (OpenSpec.ofChange fnExactIsPeriodicTilingWrong)

/- THE SECOND FORM. 'bulk': how many values and letters a reading holds, each counted each time it is reached (what is shared counts as often as it is met; a slice's spare places count too). A statement '..UptoSaid' is the law's where the arguments, and the package variables that the reading takes, are together of bulk at most 1048576: NARROWER than '..Said'. Prove '..Said' where nothing that the law and all that it calls make is longer than what came in: it says more and counts as full. Else prove '..UptoSaid'. A law counts once. -/
mutual
def uptoBulk {H : Type} : DataW H → Nat
  | .lit (.string bytes) => bytes.length + 1
  | .lit _ => 1
  | .nil => 1
  | .ptr d => uptoBulk d + 1
  | .slice elems spare => uptoBulkAll elems + uptoBulkAll spare + 1
  | .agg parts => uptoBulkAll parts + 1
  | .iface _ d => uptoBulk d + 1
  | .map entries => uptoBulkEntries entries + 1
  | .held _ => 1
def uptoBulkAll {H : Type} : List (DataW H) → Nat
  | [] => 0
  | d :: r => uptoBulk d + uptoBulkAll r
def uptoBulkEntries {H : Type} : List (Lit × DataW H) → Nat
  | [] => 0
  | x :: r => uptoBulkEntry x + uptoBulkEntries r
def uptoBulkEntry {H : Type} : Lit × DataW H → Nat
  | (.string bytes, d) => bytes.length + uptoBulk d + 1
  | (_, d) => uptoBulk d + 1
 end
def uptoSmall : (H : Type) → List (DataW H) → Bool := fun _ ds => decide (uptoBulkAll ds ≤ 1048576)
def OpenSpec.upto (s : _root_.Go.ChangeSpec) : _root_.Go.OpenSpec := { _root_.Go.OpenSpec.ofChange s with cond := some uptoSmall }

/-- 'laws.FnExactMeetsSecond', WHERE WHAT IT READS IS OF BULK AT MOST 1048576: true; the input reads as it did. -/
def fnExactMeetsSecondUptoRow : OpenClaim := { program := "ytckgpkkflfhfpaa", sum := "018761711f8b414319cb7d25d71c364e76da62eb70b68507e796d3d63ab66a6a", func := "loop.example/g03204/laws.FnExactMeetsSecond", spec := "fnExactMeetsSecond", unfollowed := true, recurses := true, apart := false, narrowed := true }
def FnExactMeetsSecondUptoSaid : Prop := fnExactMeetsSecondUptoRow.holds Try.pinned (OpenSpec.upto fnExactMeetsSecondSpec)

/-- 'laws.FnExactMeetsBoth', WHERE WHAT IT READS IS OF BULK AT MOST 1048576: true; the input reads as it did. -/
def fnExactMeetsBothUptoRow : OpenClaim := { program := "ytckgpkkflfhfpaa", sum := "018761711f8b414319cb7d25d71c364e76da62eb70b68507e796d3d63ab66a6a", func := "loop.example/g03204/laws.FnExactMeetsBoth", spec := "fnExactMeetsBoth", unfollowed := true, recurses := true, apart := false, narrowed := true }
def FnExactMeetsBothUptoSaid : Prop := fnExactMeetsBothUptoRow.holds Try.pinned (OpenSpec.upto fnExactMeetsBothSpec)

/-- 'laws.FnExactCountMeeting', WHERE WHAT IT READS IS OF BULK AT MOST 1048576: true; the input reads as it did. -/
def fnExactCountMeetingUptoRow : OpenClaim := { program := "ytckgpkkflfhfpaa", sum := "018761711f8b414319cb7d25d71c364e76da62eb70b68507e796d3d63ab66a6a", func := "loop.example/g03204/laws.FnExactCountMeeting", spec := "fnExactCountMeeting", unfollowed := true, recurses := true, apart := false, narrowed := true }
def FnExactCountMeetingUptoSaid : Prop := fnExactCountMeetingUptoRow.holds Try.pinned (OpenSpec.upto fnExactCountMeetingSpec)

/-- 'laws.FnExactIsPeriodicTiling', WHERE WHAT IT READS IS OF BULK AT MOST 1048576: true; the input reads as it did. -/
def fnExactIsPeriodicTilingUptoRow : OpenClaim := { program := "ytckgpkkflfhfpaa", sum := "018761711f8b414319cb7d25d71c364e76da62eb70b68507e796d3d63ab66a6a", func := "loop.example/g03204/laws.FnExactIsPeriodicTiling", spec := "fnExactIsPeriodicTiling", unfollowed := true, recurses := true, apart := false, narrowed := true }
def FnExactIsPeriodicTilingUptoSaid : Prop := fnExactIsPeriodicTilingUptoRow.holds Try.pinned (OpenSpec.upto fnExactIsPeriodicTilingSpec)

end Rows
end Go.Proofs.Ytckgpkkflfhfpaa
