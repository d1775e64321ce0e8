/-
  DERIVED. GIVEN WITH THE SEED: THE CARDS: each row of YtogofkjpbpgneaaGreatDoorRows.lean that lists a variable, with what it lists TIED to the program's text (the seventh form; the later family's looks); each row that meets fmt, with fmt's text TOLD by the authors' own Lean function (tested against real Go, not proved from fmt's source: count such statements apart). THE CARD IS WHAT COUNTS. Prove the row's statement (the work); the ties are given (YtogofkjpbpgneaaGreatDoorTie.lean); close each card by the builder's one call (the guide's Derived/Test/ToyasCard.lean, 'card_holds'). Laid BY PROGRAM, IN A SANDBOX (cutbox-door.mjs). By AI agents, Wed Nov 11 2026. No macro, syntax, notation, axiom, sorry.
-/
import Derived.Test.YtogofkjpbpgneaaGreatDoorRows
import GoSem.ClaimSeven
namespace Go.Proofs.YtogofkjpbpgneaaGreatDoor
namespace Rows

/-- THE TIED CARD OF 'laws.FnExactDropMove'. -/
def fnExactDropMoveCard : Claim7 := { stood := { row := fnExactDropMoveRow, standIns := [], harness := (true, "c023c126ad504b0f049c085dd5990b08ba27918847d1a65488940fea1571fbb5"), looks := false }, kinds := [], alts := [], laidByText := true, laidKinds := [.data, .pinned], laidTests := true, laidLooks := .later }
def FnExactDropMoveCardSaid : Prop := Claim7.holds Tryz.pinned (.plain (OpenSpec.ofChange fnExactDropMoveSpec)) fnExactDropMoveCard

/-- THE TIED CARD OF 'laws.FnExactRecordsOf'. -/
def fnExactRecordsOfCard : Claim7 := { stood := { row := fnExactRecordsOfRow, standIns := [], harness := (true, "c023c126ad504b0f049c085dd5990b08ba27918847d1a65488940fea1571fbb5"), looks := false }, kinds := [], alts := [], laidByText := true, laidKinds := [.data, .pinned], laidTests := true, laidLooks := .later }
def FnExactRecordsOfCardSaid : Prop := Claim7.holds Tryz.pinned (.plain (OpenSpec.ofChange fnExactRecordsOfSpec)) fnExactRecordsOfCard

/-- THE TIED CARD OF 'laws.FnExactFinishMove'. -/
def fnExactFinishMoveCard : Claim7 := { stood := { row := fnExactFinishMoveRow, standIns := [], harness := (true, "c023c126ad504b0f049c085dd5990b08ba27918847d1a65488940fea1571fbb5"), looks := false }, kinds := [], alts := [], laidByText := true, laidKinds := [.data, .pinned], laidTests := true, laidLooks := .later }
def FnExactFinishMoveCardSaid : Prop := Claim7.holds Tryz.pinned (.plain (OpenSpec.ofChange fnExactFinishMoveSpec)) fnExactFinishMoveCard

/-- THE SECOND FORM's CARD OF 'laws.FnExactDropMove'. -/
def fnExactDropMoveUptoCard : Claim7 := { stood := { row := fnExactDropMoveUptoRow, standIns := [], harness := (true, "c023c126ad504b0f049c085dd5990b08ba27918847d1a65488940fea1571fbb5"), looks := false }, kinds := [], alts := [], laidByText := true, laidKinds := [.data, .pinned], laidTests := true, laidLooks := .later }
def FnExactDropMoveUptoCardSaid : Prop := Claim7.holds Tryz.pinned (.plain (OpenSpec.upto fnExactDropMoveSpec)) fnExactDropMoveUptoCard

/-- THE SECOND FORM's CARD OF 'laws.FnExactRecordsOf'. -/
def fnExactRecordsOfUptoCard : Claim7 := { stood := { row := fnExactRecordsOfUptoRow, standIns := [], harness := (true, "c023c126ad504b0f049c085dd5990b08ba27918847d1a65488940fea1571fbb5"), looks := false }, kinds := [], alts := [], laidByText := true, laidKinds := [.data, .pinned], laidTests := true, laidLooks := .later }
def FnExactRecordsOfUptoCardSaid : Prop := Claim7.holds Tryz.pinned (.plain (OpenSpec.upto fnExactRecordsOfSpec)) fnExactRecordsOfUptoCard

/-- THE SECOND FORM's CARD OF 'laws.FnExactFinishMove'. -/
def fnExactFinishMoveUptoCard : Claim7 := { stood := { row := fnExactFinishMoveUptoRow, standIns := [], harness := (true, "c023c126ad504b0f049c085dd5990b08ba27918847d1a65488940fea1571fbb5"), looks := false }, kinds := [], alts := [], laidByText := true, laidKinds := [.data, .pinned], laidTests := true, laidLooks := .later }
def FnExactFinishMoveUptoCardSaid : Prop := Claim7.holds Tryz.pinned (.plain (OpenSpec.upto fnExactFinishMoveSpec)) fnExactFinishMoveUptoCard
end Rows
end Go.Proofs.YtogofkjpbpgneaaGreatDoor
