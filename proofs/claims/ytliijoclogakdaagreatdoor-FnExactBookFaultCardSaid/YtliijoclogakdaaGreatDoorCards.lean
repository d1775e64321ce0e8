/-
  DERIVED. GIVEN WITH THE SEED: THE CARDS: each row of YtliijoclogakdaaGreatDoorRows.lean that lists a variable, with what it lists TIED to the program's text (the seventh form; the later family's looks); each row that meets fmt, with fmt's text TOLD by the authors' own Lean function (tested against real Go, not proved from fmt's source: count such statements apart). THE CARD IS WHAT COUNTS. Prove the row's statement (the work); the ties are given (YtliijoclogakdaaGreatDoorTie.lean); close each card by the builder's one call (the guide's Derived/Test/ToyasCard.lean, 'card_holds'). Laid BY PROGRAM, IN A SANDBOX (cutbox-door.mjs). By AI agents, Wed Nov 11 2026. No macro, syntax, notation, axiom, sorry.
-/
import Derived.Test.YtliijoclogakdaaGreatDoorRows
import GoSem.ClaimSeven
namespace Go.Proofs.YtliijoclogakdaaGreatDoor
namespace Rows

/-- THE TIED CARD OF 'laws.FnExactBookFault'. -/
def fnExactBookFaultCard : Claim7 := { stood := { row := fnExactBookFaultRow, standIns := [], harness := (true, "ba17f8953765ce28d6fea7348cce185654b5d8969dbca4413feec548307a38d5"), looks := false }, kinds := [], alts := [], laidByText := true, laidKinds := [.data, .pinned], laidTests := true, laidLooks := .later }
def FnExactBookFaultCardSaid : Prop := Claim7.holds Tryz.pinned (.plain (OpenSpec.ofChange fnExactBookFaultSpec)) fnExactBookFaultCard

/-- THE SECOND FORM's CARD OF 'laws.FnExactBookFault'. -/
def fnExactBookFaultUptoCard : Claim7 := { stood := { row := fnExactBookFaultUptoRow, standIns := [], harness := (true, "ba17f8953765ce28d6fea7348cce185654b5d8969dbca4413feec548307a38d5"), looks := false }, kinds := [], alts := [], laidByText := true, laidKinds := [.data, .pinned], laidTests := true, laidLooks := .later }
def FnExactBookFaultUptoCardSaid : Prop := Claim7.holds Tryz.pinned (.plain (OpenSpec.upto fnExactBookFaultSpec)) fnExactBookFaultUptoCard
end Rows
end Go.Proofs.YtliijoclogakdaaGreatDoor
