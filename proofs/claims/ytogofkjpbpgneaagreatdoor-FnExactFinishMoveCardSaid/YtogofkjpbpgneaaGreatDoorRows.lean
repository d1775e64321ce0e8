/-
  NARROWER THAN 'FOR EVERY INPUT', by the rows' own cells (each row's printed sentence says how): FnExactDropMove: laid · FnExactRecordsOf: laid · FnExactFinishMove: laid.
  DERIVED. THE GIVEN ROWS OF THIS SEAT. 3 by the template 'for every input the law returns true; each argument reads behind the call as it read before'; 0 by the template 'total and deterministic' (their statements: YtogofkjpbpgneaaGreatDoorTotals.lean).
  GIVEN WITH THE SEED: the statements are not yours to turn. If you find one false, say at which input.
  Laid BY PROGRAM, IN A SANDBOX (cutbox-rows.mjs): the forced cells as the released guide's own fill.sh prints them over the translation 29fee091ca9893b0… (all of the seat's roots in one cut). By AI agents, Wed Nov 11 2026. No macro, syntax, notation, axiom, sorry.
-/
import Derived.Test.YtogofkjpbpgneaaGreatDoorChecked
import GoSem.PinnedTables
import GoSem.Claim
import GoSem.ClaimJoined
import GoSem.ClaimMapViews
import Derived.JoinedTies
import Derived.KernelRfl
namespace Go.Proofs.YtogofkjpbpgneaaGreatDoor
/- THE CELL 'sum', in the pinned program and in every row, IS THE sha256 OF THE DUMP (.gsa) THAT YtogofkjpbpgneaaGreatDoorProg.lean LOADS. Nothing in Lean hashes anything: it is a label: what it is worth is what the hold of that sum in a sandbox is worth. -/
noncomputable def Tryz.pinned : Pinned := { name := "ytogofkjpbpgneaagreatdoor", sum := "29fee091ca9893b08b9825ea70c869ad38b01627a0db56c408f87a6cc1f1990b", checked := Tryz.checked }
namespace Rows
def none {H : Type} : Left H := { results := [], args := [] }

/- WHAT THE LISTED PACKAGE-LEVEL VARIABLES READ AS WHEN THE CALL BEGINS. Each datum BY PROGRAM (the guide's laid-datum.mjs) off the statement by which the dump's own 'gosem.cut.vars' lays the variable. In a bare row this is a premise. The card (YtogofkjpbpgneaaGreatDoorCards.lean) ties it to the program's text. -/
def laid_unicode_utf8_acceptRanges {H : Type} : DataW H := .agg [.agg [.lit (.int .u8 128), .lit (.int .u8 191)], .agg [.lit (.int .u8 160), .lit (.int .u8 191)], .agg [.lit (.int .u8 128), .lit (.int .u8 159)], .agg [.lit (.int .u8 144), .lit (.int .u8 191)], .agg [.lit (.int .u8 128), .lit (.int .u8 143)], .agg [.lit (.int .u8 0), .lit (.int .u8 0)], .agg [.lit (.int .u8 0), .lit (.int .u8 0)], .agg [.lit (.int .u8 0), .lit (.int .u8 0)], .agg [.lit (.int .u8 0), .lit (.int .u8 0)], .agg [.lit (.int .u8 0), .lit (.int .u8 0)], .agg [.lit (.int .u8 0), .lit (.int .u8 0)], .agg [.lit (.int .u8 0), .lit (.int .u8 0)], .agg [.lit (.int .u8 0), .lit (.int .u8 0)], .agg [.lit (.int .u8 0), .lit (.int .u8 0)], .agg [.lit (.int .u8 0), .lit (.int .u8 0)], .agg [.lit (.int .u8 0), .lit (.int .u8 0)]]
/-- One of Go's own tables, pinned by name: the form's constant. -/
def laid_unicode_utf8_first : DataW Unit := Go.Pinned.utf8First

/-- 'laws.FnExactDropMove': WHATEVER THE INPUT: true; the input reads as it did. -/
def fnExactDropMoveSpec : ChangeSpec := { name := "fnExactDropMove", fn := fun _ => fun
  | [d] => { results := [.lit (.bool true)], args := [d] }
  | _ => none }
def fnExactDropMoveRow : OpenClaim := { program := "ytogofkjpbpgneaagreatdoor", sum := "29fee091ca9893b08b9825ea70c869ad38b01627a0db56c408f87a6cc1f1990b", func := "loop.example/g00653/laws.FnExactDropMove", spec := "fnExactDropMove", inPlace := ["internal/bytealg.IndexByteString", "internal/bytealg.IndexString", "internal/bytealg.Compare"], unfollowed := true, recurses := true, named := ["unicode/utf8.first", "unicode/utf8.acceptRanges", "internal/bytealg.MaxLen"], plainKeys := false, apart := false, laid := [("unicode/utf8.acceptRanges", laid_unicode_utf8_acceptRanges), ("unicode/utf8.first", laid_unicode_utf8_first)] }
def FnExactDropMoveSaid : Prop := fnExactDropMoveRow.holds Tryz.pinned (OpenSpec.ofChange fnExactDropMoveSpec)

/-- ITS FALSE NEIGHBOUR: 'it returns false'. Refute it at one input. -/
def fnExactDropMoveWrong : ChangeSpec := { name := "fnExactDropMove", fn := fun _ => fun
  | [d] => { results := [.lit (.bool false)], args := [d] }
  | _ => none }
def FnExactDropMoveWrongFalsely : Prop := fnExactDropMoveRow.holds Tryz.pinned (OpenSpec.ofChange fnExactDropMoveWrong)

/-- 'laws.FnExactRecordsOf': WHATEVER THE INPUT: true; the input reads as it did. -/
def fnExactRecordsOfSpec : ChangeSpec := { name := "fnExactRecordsOf", fn := fun _ => fun
  | [d] => { results := [.lit (.bool true)], args := [d] }
  | _ => none }
def fnExactRecordsOfRow : OpenClaim := { program := "ytogofkjpbpgneaagreatdoor", sum := "29fee091ca9893b08b9825ea70c869ad38b01627a0db56c408f87a6cc1f1990b", func := "loop.example/g00653/laws.FnExactRecordsOf", spec := "fnExactRecordsOf", inPlace := ["internal/bytealg.IndexByteString", "internal/bytealg.IndexString", "internal/bytealg.Compare"], unfollowed := true, recurses := true, named := ["unicode/utf8.first", "unicode/utf8.acceptRanges", "internal/bytealg.MaxLen"], plainKeys := false, apart := false, laid := [("unicode/utf8.acceptRanges", laid_unicode_utf8_acceptRanges), ("unicode/utf8.first", laid_unicode_utf8_first)] }
def FnExactRecordsOfSaid : Prop := fnExactRecordsOfRow.holds Tryz.pinned (OpenSpec.ofChange fnExactRecordsOfSpec)

/-- ITS FALSE NEIGHBOUR: 'it returns false'. Refute it at one input. -/
def fnExactRecordsOfWrong : ChangeSpec := { name := "fnExactRecordsOf", fn := fun _ => fun
  | [d] => { results := [.lit (.bool false)], args := [d] }
  | _ => none }
def FnExactRecordsOfWrongFalsely : Prop := fnExactRecordsOfRow.holds Tryz.pinned (OpenSpec.ofChange fnExactRecordsOfWrong)

/-- 'laws.FnExactFinishMove': WHATEVER THE INPUT: true; the input reads as it did. -/
def fnExactFinishMoveSpec : ChangeSpec := { name := "fnExactFinishMove", fn := fun _ => fun
  | [d] => { results := [.lit (.bool true)], args := [d] }
  | _ => none }
def fnExactFinishMoveRow : OpenClaim := { program := "ytogofkjpbpgneaagreatdoor", sum := "29fee091ca9893b08b9825ea70c869ad38b01627a0db56c408f87a6cc1f1990b", func := "loop.example/g00653/laws.FnExactFinishMove", spec := "fnExactFinishMove", inPlace := ["internal/bytealg.IndexByteString", "internal/bytealg.IndexString", "internal/bytealg.Compare"], unfollowed := true, recurses := true, named := ["unicode/utf8.first", "unicode/utf8.acceptRanges", "internal/bytealg.MaxLen"], plainKeys := false, apart := false, laid := [("unicode/utf8.acceptRanges", laid_unicode_utf8_acceptRanges), ("unicode/utf8.first", laid_unicode_utf8_first)] }
def FnExactFinishMoveSaid : Prop := fnExactFinishMoveRow.holds Tryz.pinned (OpenSpec.ofChange fnExactFinishMoveSpec)

/-- ITS FALSE NEIGHBOUR: 'it returns false'. Refute it at one input. -/
def fnExactFinishMoveWrong : ChangeSpec := { name := "fnExactFinishMove", fn := fun _ => fun
  | [d] => { results := [.lit (.bool false)], args := [d] }
  | _ => none }
def FnExactFinishMoveWrongFalsely : Prop := fnExactFinishMoveRow.holds Tryz.pinned (OpenSpec.ofChange fnExactFinishMoveWrong)

/- THE SECOND FORM. 'bulk': how many values and letters a reading holds, each counted each time it is reached (what is shared counts as often as it is met; a slice's spare places count too). A statement '..UptoSaid' is the law's where the arguments, and the package variables that the reading takes, are together of bulk at most 1048576: NARROWER than '..Said'. Prove '..Said' where nothing that the law and all that it calls make is longer than what came in: it says more and counts as full. Else prove '..UptoSaid'. A law counts once. -/
mutual
def uptoBulk {H : Type} : DataW H → Nat
  | .lit (.string bytes) => bytes.length + 1
  | .lit _ => 1
  | .nil => 1
  | .ptr d => uptoBulk d + 1
  | .slice elems spare => uptoBulkAll elems + uptoBulkAll spare + 1
  | .agg parts => uptoBulkAll parts + 1
  | .iface _ d => uptoBulk d + 1
  | .map entries => uptoBulkEntries entries + 1
  | .held _ => 1
def uptoBulkAll {H : Type} : List (DataW H) → Nat
  | [] => 0
  | d :: r => uptoBulk d + uptoBulkAll r
def uptoBulkEntries {H : Type} : List (Lit × DataW H) → Nat
  | [] => 0
  | x :: r => uptoBulkEntry x + uptoBulkEntries r
def uptoBulkEntry {H : Type} : Lit × DataW H → Nat
  | (.string bytes, d) => bytes.length + uptoBulk d + 1
  | (_, d) => uptoBulk d + 1
 end
def uptoSmall : (H : Type) → List (DataW H) → Bool := fun _ ds => decide (uptoBulkAll ds ≤ 1048576)
def OpenSpec.upto (s : _root_.Go.ChangeSpec) : _root_.Go.OpenSpec := { _root_.Go.OpenSpec.ofChange s with cond := some uptoSmall }

/-- 'laws.FnExactDropMove', WHERE WHAT IT READS IS OF BULK AT MOST 1048576: true; the input reads as it did. -/
def fnExactDropMoveUptoRow : OpenClaim := { program := "ytogofkjpbpgneaagreatdoor", sum := "29fee091ca9893b08b9825ea70c869ad38b01627a0db56c408f87a6cc1f1990b", func := "loop.example/g00653/laws.FnExactDropMove", spec := "fnExactDropMove", inPlace := ["internal/bytealg.IndexByteString", "internal/bytealg.IndexString", "internal/bytealg.Compare"], unfollowed := true, recurses := true, named := ["unicode/utf8.first", "unicode/utf8.acceptRanges", "internal/bytealg.MaxLen"], plainKeys := false, apart := false, laid := [("unicode/utf8.acceptRanges", laid_unicode_utf8_acceptRanges), ("unicode/utf8.first", laid_unicode_utf8_first)], narrowed := true }
def FnExactDropMoveUptoSaid : Prop := fnExactDropMoveUptoRow.holds Tryz.pinned (OpenSpec.upto fnExactDropMoveSpec)

/-- 'laws.FnExactRecordsOf', WHERE WHAT IT READS IS OF BULK AT MOST 1048576: true; the input reads as it did. -/
def fnExactRecordsOfUptoRow : OpenClaim := { program := "ytogofkjpbpgneaagreatdoor", sum := "29fee091ca9893b08b9825ea70c869ad38b01627a0db56c408f87a6cc1f1990b", func := "loop.example/g00653/laws.FnExactRecordsOf", spec := "fnExactRecordsOf", inPlace := ["internal/bytealg.IndexByteString", "internal/bytealg.IndexString", "internal/bytealg.Compare"], unfollowed := true, recurses := true, named := ["unicode/utf8.first", "unicode/utf8.acceptRanges", "internal/bytealg.MaxLen"], plainKeys := false, apart := false, laid := [("unicode/utf8.acceptRanges", laid_unicode_utf8_acceptRanges), ("unicode/utf8.first", laid_unicode_utf8_first)], narrowed := true }
def FnExactRecordsOfUptoSaid : Prop := fnExactRecordsOfUptoRow.holds Tryz.pinned (OpenSpec.upto fnExactRecordsOfSpec)

/-- 'laws.FnExactFinishMove', WHERE WHAT IT READS IS OF BULK AT MOST 1048576: true; the input reads as it did. -/
def fnExactFinishMoveUptoRow : OpenClaim := { program := "ytogofkjpbpgneaagreatdoor", sum := "29fee091ca9893b08b9825ea70c869ad38b01627a0db56c408f87a6cc1f1990b", func := "loop.example/g00653/laws.FnExactFinishMove", spec := "fnExactFinishMove", inPlace := ["internal/bytealg.IndexByteString", "internal/bytealg.IndexString", "internal/bytealg.Compare"], unfollowed := true, recurses := true, named := ["unicode/utf8.first", "unicode/utf8.acceptRanges", "internal/bytealg.MaxLen"], plainKeys := false, apart := false, laid := [("unicode/utf8.acceptRanges", laid_unicode_utf8_acceptRanges), ("unicode/utf8.first", laid_unicode_utf8_first)], narrowed := true }
def FnExactFinishMoveUptoSaid : Prop := fnExactFinishMoveUptoRow.holds Tryz.pinned (OpenSpec.upto fnExactFinishMoveSpec)

end Rows
end Go.Proofs.YtogofkjpbpgneaaGreatDoor
