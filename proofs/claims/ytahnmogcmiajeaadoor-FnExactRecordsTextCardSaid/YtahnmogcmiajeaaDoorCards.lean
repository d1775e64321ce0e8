/-
  DERIVED. GIVEN WITH THE SEED: THE CARDS: each row of YtahnmogcmiajeaaDoorRows.lean that lists a variable, with what it lists TIED to the program's text (the seventh form; the later family's looks); each row that meets fmt, with fmt's text TOLD by the authors' own Lean function (tested against real Go, not proved from fmt's source: count such statements apart). THE CARD IS WHAT COUNTS. Prove the row's statement (the work); the ties are given (YtahnmogcmiajeaaDoorTie.lean); close each card by the builder's one call (the guide's Derived/Test/ToyasCard.lean, 'card_holds'). Laid BY PROGRAM, IN A SANDBOX (cutbox-door.mjs). By AI agents, Wed Nov 11 2026. No macro, syntax, notation, axiom, sorry.
-/
import Derived.Test.YtahnmogcmiajeaaDoorRows
import GoSem.ClaimSeven
namespace Go.Proofs.YtahnmogcmiajeaaDoor
namespace Rows

/-- THE TIED CARD OF 'laws.FnExactRecordsText'. -/
def fnExactRecordsTextCard : Claim7 := { stood := { row := fnExactRecordsTextRow, standIns := [], harness := (true, "f2e62c1dad15c9035a8fc90428a4c8062807026bb5deed710d052de3961e0386"), looks := false }, kinds := [], alts := [], laidByText := true, laidKinds := [.data, .data, .data, .data, .pinned], laidTests := true, laidLooks := .later }
def FnExactRecordsTextCardSaid : Prop := Claim7.holds Tryd.pinned (.plain (OpenSpec.ofChange fnExactRecordsTextSpec)) fnExactRecordsTextCard

/-- THE SECOND FORM's CARD OF 'laws.FnExactRecordsText'. -/
def fnExactRecordsTextUptoCard : Claim7 := { stood := { row := fnExactRecordsTextUptoRow, standIns := [], harness := (true, "f2e62c1dad15c9035a8fc90428a4c8062807026bb5deed710d052de3961e0386"), looks := false }, kinds := [], alts := [], laidByText := true, laidKinds := [.data, .data, .data, .data, .pinned], laidTests := true, laidLooks := .later }
def FnExactRecordsTextUptoCardSaid : Prop := Claim7.holds Tryd.pinned (.plain (OpenSpec.upto fnExactRecordsTextSpec)) fnExactRecordsTextUptoCard
end Rows
end Go.Proofs.YtahnmogcmiajeaaDoor
