/-
  DERIVED. GIVEN WITH THE SEED: THE CARDS: each row of YtjpdgdacfejplaaDoorRows.lean that lists a variable, with what it lists TIED to the program's text (the seventh form; the later family's looks); each row that meets fmt, with fmt's text TOLD by the authors' own Lean function (tested against real Go, not proved from fmt's source: count such statements apart). THE CARD IS WHAT COUNTS. Prove the row's statement (the work); the ties are given (YtjpdgdacfejplaaDoorTie.lean); close each card by the builder's one call (the guide's Derived/Test/ToyasCard.lean, 'card_holds'). Laid BY PROGRAM, IN A SANDBOX (cutbox-door.mjs). By AI agents, Wed Nov 11 2026. No macro, syntax, notation, axiom, sorry.
-/
import Derived.Test.YtjpdgdacfejplaaDoorRows
import GoSem.ClaimSeven
namespace Go.Proofs.YtjpdgdacfejplaaDoor
namespace Rows

/-- THE TIED CARD OF 'laws.FnExactGroupedEven'. -/
def fnExactGroupedEvenCard : Claim7 := { stood := { row := fnExactGroupedEvenRow, standIns := [], harness := (true, "993d1fe4b14338bb8743c782e93d9f56d6ed1be228872d459c42f8aa73621710"), looks := false }, kinds := [], alts := [], laidByText := true, laidKinds := [.data, .pinned], laidTests := true, laidLooks := .later }
def FnExactGroupedEvenCardSaid : Prop := Claim7.holds Tryd.pinned (.plain (OpenSpec.ofChange fnExactGroupedEvenSpec)) fnExactGroupedEvenCard

/-- THE SECOND FORM's CARD OF 'laws.FnExactGroupedEven'. -/
def fnExactGroupedEvenUptoCard : Claim7 := { stood := { row := fnExactGroupedEvenUptoRow, standIns := [], harness := (true, "993d1fe4b14338bb8743c782e93d9f56d6ed1be228872d459c42f8aa73621710"), looks := false }, kinds := [], alts := [], laidByText := true, laidKinds := [.data, .pinned], laidTests := true, laidLooks := .later }
def FnExactGroupedEvenUptoCardSaid : Prop := Claim7.holds Tryd.pinned (.plain (OpenSpec.upto fnExactGroupedEvenSpec)) fnExactGroupedEvenUptoCard
end Rows
end Go.Proofs.YtjpdgdacfejplaaDoor
