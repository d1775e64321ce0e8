/-
  DERIVED. GIVEN WITH THE SEED: THE CARDS: each row of YthoahlghegcfnaaGreatDoorRows.lean that lists a variable, with what it lists TIED to the program's text (the seventh form; the later family's looks); each row that meets fmt, with fmt's text TOLD by the authors' own Lean function (tested against real Go, not proved from fmt's source: count such statements apart). THE CARD IS WHAT COUNTS. Prove the row's statement (the work); the ties are given (YthoahlghegcfnaaGreatDoorTie.lean); close each card by the builder's one call (the guide's Derived/Test/ToyasCard.lean, 'card_holds'). Laid BY PROGRAM, IN A SANDBOX (cutbox-door.mjs). By AI agents, Wed Nov 11 2026. No macro, syntax, notation, axiom, sorry.
-/
import Derived.Test.YthoahlghegcfnaaGreatDoorRows
import GoSem.ClaimSeven
namespace Go.Proofs.YthoahlghegcfnaaGreatDoor
namespace Rows

/-- THE TIED CARD OF 'laws.FnExactKeptBy'. -/
def fnExactKeptByCard : Claim7 := { stood := { row := fnExactKeptByRow, standIns := [], harness := (true, "d94c8679b034f640df4c2aa842d1c1a6401a1943342edef19e4e536f13843e2a"), looks := true }, kinds := [], alts := [], laidByText := true, laidKinds := [.data, .pinned], laidTests := true, laidLooks := .later }
def FnExactKeptByCardSaid : Prop := Claim7.holds Tryz.pinned (.plain (OpenSpec.ofChange fnExactKeptBySpec)) fnExactKeptByCard

/-- THE TIED CARD OF 'laws.FnExactOpOf'. -/
def fnExactOpOfCard : Claim7 := { stood := { row := fnExactOpOfRow, standIns := [], harness := (true, "d94c8679b034f640df4c2aa842d1c1a6401a1943342edef19e4e536f13843e2a"), looks := true }, kinds := [], alts := [], laidByText := true, laidKinds := [.data, .data, .data, .data, .sentinel, .sentinel, .pinned], laidTests := true, laidLooks := .later }
def FnExactOpOfCardSaid : Prop := Claim7.holds Tryz.pinned (.plain (OpenSpec.ofChange fnExactOpOfSpec)) fnExactOpOfCard

/-- THE TIED CARD OF 'laws.FnExactScrubStore'. -/
def fnExactScrubStoreCard : Claim7 := { stood := { row := fnExactScrubStoreRow, standIns := [], harness := (true, "d94c8679b034f640df4c2aa842d1c1a6401a1943342edef19e4e536f13843e2a"), looks := true }, kinds := [], alts := [], laidByText := true, laidKinds := [.data, .pinned], laidTests := true, laidLooks := .later }
def FnExactScrubStoreCardSaid : Prop := Claim7.holds Tryz.pinned (.plain (OpenSpec.ofChange fnExactScrubStoreSpec)) fnExactScrubStoreCard

/-- THE TIED CARD OF 'laws.FnExactLeftIn'. -/
def fnExactLeftInCard : Claim7 := { stood := { row := fnExactLeftInRow, standIns := [], harness := (true, "d94c8679b034f640df4c2aa842d1c1a6401a1943342edef19e4e536f13843e2a"), looks := true }, kinds := [], alts := [], laidByText := true, laidKinds := [.data, .pinned], laidTests := true, laidLooks := .later }
def FnExactLeftInCardSaid : Prop := Claim7.holds Tryz.pinned (.plain (OpenSpec.ofChange fnExactLeftInSpec)) fnExactLeftInCard

/-- THE TIED CARD OF 'laws.FnExactRecordsOf'. -/
def fnExactRecordsOfCard : Claim7 := { stood := { row := fnExactRecordsOfRow, standIns := [], harness := (true, "d94c8679b034f640df4c2aa842d1c1a6401a1943342edef19e4e536f13843e2a"), looks := true }, kinds := [], alts := [], laidByText := true, laidKinds := [.data, .pinned], laidTests := true, laidLooks := .later }
def FnExactRecordsOfCardSaid : Prop := Claim7.holds Tryz.pinned (.plain (OpenSpec.ofChange fnExactRecordsOfSpec)) fnExactRecordsOfCard

/-- THE TIED CARD OF 'laws.FnExactDropMove'. -/
def fnExactDropMoveCard : Claim7 := { stood := { row := fnExactDropMoveRow, standIns := [], harness := (true, "d94c8679b034f640df4c2aa842d1c1a6401a1943342edef19e4e536f13843e2a"), looks := true }, kinds := [], alts := [], laidByText := true, laidKinds := [.data, .pinned], laidTests := true, laidLooks := .later }
def FnExactDropMoveCardSaid : Prop := Claim7.holds Tryz.pinned (.plain (OpenSpec.ofChange fnExactDropMoveSpec)) fnExactDropMoveCard

/-- THE SECOND FORM's CARD OF 'laws.FnExactKeptBy'. -/
def fnExactKeptByUptoCard : Claim7 := { stood := { row := fnExactKeptByUptoRow, standIns := [], harness := (true, "d94c8679b034f640df4c2aa842d1c1a6401a1943342edef19e4e536f13843e2a"), looks := true }, kinds := [], alts := [], laidByText := true, laidKinds := [.data, .pinned], laidTests := true, laidLooks := .later }
def FnExactKeptByUptoCardSaid : Prop := Claim7.holds Tryz.pinned (.plain (OpenSpec.upto fnExactKeptBySpec)) fnExactKeptByUptoCard

/-- THE SECOND FORM's CARD OF 'laws.FnExactOpOf'. -/
def fnExactOpOfUptoCard : Claim7 := { stood := { row := fnExactOpOfUptoRow, standIns := [], harness := (true, "d94c8679b034f640df4c2aa842d1c1a6401a1943342edef19e4e536f13843e2a"), looks := true }, kinds := [], alts := [], laidByText := true, laidKinds := [.data, .data, .data, .data, .sentinel, .sentinel, .pinned], laidTests := true, laidLooks := .later }
def FnExactOpOfUptoCardSaid : Prop := Claim7.holds Tryz.pinned (.plain (OpenSpec.upto fnExactOpOfSpec)) fnExactOpOfUptoCard

/-- THE SECOND FORM's CARD OF 'laws.FnExactScrubStore'. -/
def fnExactScrubStoreUptoCard : Claim7 := { stood := { row := fnExactScrubStoreUptoRow, standIns := [], harness := (true, "d94c8679b034f640df4c2aa842d1c1a6401a1943342edef19e4e536f13843e2a"), looks := true }, kinds := [], alts := [], laidByText := true, laidKinds := [.data, .pinned], laidTests := true, laidLooks := .later }
def FnExactScrubStoreUptoCardSaid : Prop := Claim7.holds Tryz.pinned (.plain (OpenSpec.upto fnExactScrubStoreSpec)) fnExactScrubStoreUptoCard

/-- THE SECOND FORM's CARD OF 'laws.FnExactLeftIn'. -/
def fnExactLeftInUptoCard : Claim7 := { stood := { row := fnExactLeftInUptoRow, standIns := [], harness := (true, "d94c8679b034f640df4c2aa842d1c1a6401a1943342edef19e4e536f13843e2a"), looks := true }, kinds := [], alts := [], laidByText := true, laidKinds := [.data, .pinned], laidTests := true, laidLooks := .later }
def FnExactLeftInUptoCardSaid : Prop := Claim7.holds Tryz.pinned (.plain (OpenSpec.upto fnExactLeftInSpec)) fnExactLeftInUptoCard

/-- THE SECOND FORM's CARD OF 'laws.FnExactRecordsOf'. -/
def fnExactRecordsOfUptoCard : Claim7 := { stood := { row := fnExactRecordsOfUptoRow, standIns := [], harness := (true, "d94c8679b034f640df4c2aa842d1c1a6401a1943342edef19e4e536f13843e2a"), looks := true }, kinds := [], alts := [], laidByText := true, laidKinds := [.data, .pinned], laidTests := true, laidLooks := .later }
def FnExactRecordsOfUptoCardSaid : Prop := Claim7.holds Tryz.pinned (.plain (OpenSpec.upto fnExactRecordsOfSpec)) fnExactRecordsOfUptoCard

/-- THE SECOND FORM's CARD OF 'laws.FnExactDropMove'. -/
def fnExactDropMoveUptoCard : Claim7 := { stood := { row := fnExactDropMoveUptoRow, standIns := [], harness := (true, "d94c8679b034f640df4c2aa842d1c1a6401a1943342edef19e4e536f13843e2a"), looks := true }, kinds := [], alts := [], laidByText := true, laidKinds := [.data, .pinned], laidTests := true, laidLooks := .later }
def FnExactDropMoveUptoCardSaid : Prop := Claim7.holds Tryz.pinned (.plain (OpenSpec.upto fnExactDropMoveSpec)) fnExactDropMoveUptoCard
end Rows
end Go.Proofs.YthoahlghegcfnaaGreatDoor
