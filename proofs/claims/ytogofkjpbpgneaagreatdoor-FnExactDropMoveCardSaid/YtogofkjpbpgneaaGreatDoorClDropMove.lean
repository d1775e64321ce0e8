/- The closed facts of the row of fnExactDropMove, one by one. -/
import Derived.Test.YtogofkjpbpgneaaGreatDoorRows
import Derived.Test.YtogofkjpbpgneaaGreatDoorCards
import Derived.WalkKit
import Derived.ProofKit
set_option linter.unusedVariables false
set_option maxRecDepth 100000
namespace Go.Proofs.YtogofkjpbpgneaaGreatDoor.fnExactDropMove
theorem and_t {a b : Bool} (h : a = true) (k : b = true) : (a && b) = true := by rw [h, k]; rfl
open Go Go.Proofs
theorem cl0 : (Rows.fnExactDropMoveRow.wf (OpenSpec.ofChange Rows.fnExactDropMoveSpec)) = true := by kernel_rfl
theorem cl1 : (laidOutB Tryz.checked.prog) = true := by kernel_rfl
theorem cl2 : (mapsRowed Tryz.checked.prog) = true := by kernel_rfl
theorem cl3 : (Tryz.f3.params.all (Tryz.checked.prog.readableRec ·)) = true := by kernel_rfl
theorem cl4 : (namedTie Tryz.checked.prog Rows.fnExactDropMoveRow.named Rows.fnExactDropMoveSpec.vars) = true := by kernel_rfl
theorem cl5 : ((Rows.fnExactDropMoveRow.stops == [])) = true := by kernel_rfl
theorem cl6 : ((Tryz.checked.prog.stops == [])) = true := by kernel_rfl
theorem cl7 : ((Rows.fnExactDropMoveRow.knobs == [])) = true := by kernel_rfl
theorem cl8 : ((Tryz.checked.prog.stopKnobs == [])) = true := by kernel_rfl
theorem cl9 : ((Rows.fnExactDropMoveRow.inPlace == Tryz.checked.prog.inPlace 3)) = true := by kernel_rfl
theorem cl10 : ((Rows.fnExactDropMoveRow.unfollowed == Tryz.checked.prog.unfollowed 3)) = true := by kernel_rfl
theorem cl11 : ((Rows.fnExactDropMoveRow.recurses == Tryz.checked.prog.recurses 3)) = true := by kernel_rfl
theorem cl12 : ((Rows.fnExactDropMoveRow.named == Tryz.checked.prog.varsNamed 3)) = true := by kernel_rfl
theorem cl13 : ((Rows.fnExactDropMoveRow.maps == (Tryz.f3.params.toList ++ Rows.fnExactDropMoveSpec.plain.varTypes Tryz.checked.prog).any (Tryz.checked.prog.mapsRec ·))) = true := by kernel_rfl
theorem cl14 : ((Rows.fnExactDropMoveRow.ifaces == (Tryz.f3.params.toList ++ Rows.fnExactDropMoveSpec.plain.varTypes Tryz.checked.prog).any (Tryz.checked.prog.ifacesRec ·))) = true := by kernel_rfl
theorem cl15 : ((Rows.fnExactDropMoveRow.mapsOut == Tryz.checked.prog.mapsAmong Tryz.f3.resultTypes.toList)) = true := by kernel_rfl
theorem cl16 : ((Rows.fnExactDropMoveRow.loops == (Tryz.f3.params.toList ++ Rows.fnExactDropMoveSpec.plain.varTypes Tryz.checked.prog).any (Tryz.checked.prog.loopsFrom ·))) = true := by kernel_rfl
theorem cl17 : ((Rows.fnExactDropMoveRow.wideKeys == (Tryz.f3.params.toList ++ Rows.fnExactDropMoveSpec.plain.varTypes Tryz.checked.prog ++ Tryz.f3.resultTypes.toList).any (Tryz.checked.prog.wideKeysFrom ·))) = true := by kernel_rfl
theorem cl18 : (Rows.fnExactDropMoveSpec.vars.all (Tryz.checked.prog.varReadable ·)) = true := by kernel_rfl
theorem cl19 : (Tryz.f3.resultTypes.all (fun t => Tryz.checked.prog.readableRec t && decide (t < Tryz.checked.prog.types.size))) = true := by kernel_rfl
theorem cl20 : ((Rows.fnExactDropMoveRow.ifacesOut == Tryz.f3.resultTypes.toList.any (Tryz.checked.prog.ifacesRec ·))) = true := by kernel_rfl
theorem cl21 : ((Rows.fnExactDropMoveRow.loopsOut == Tryz.f3.resultTypes.toList.any (Tryz.checked.prog.loopsFrom ·))) = true := by kernel_rfl
theorem cl22 : ((Rows.fnExactDropMoveRow.plainKeys == Tryz.checked.prog.plainKeys)) = true := by kernel_rfl
theorem cl23 : (Rows.fnExactDropMoveRow.shortTexts.isNone) = true := by kernel_rfl
theorem cl24 : (Tryz.checked.prog.stopsHeard) = true := by kernel_rfl
theorem cl25 : (Tryz.checked.prog.mayEnter) = true := by kernel_rfl
theorem cl26 : ((Rows.fnExactDropMoveRow.lifted == Tryz.checked.prog.liftsFinal)) = true := by kernel_rfl
theorem cl27 : ((Tryz.checked.prog.make == some Rows.fnExactDropMoveRow.make)) = true := by kernel_rfl
theorem cl28 : ((Rows.fnExactDropMoveRow.kinds == (if Rows.fnExactDropMoveRow.domain.isEmpty then [] else Tryz.f3.params.toList.map fun t => match Tryz.checked.prog.underlying t with | some (.int k) => some k | _ => none))) = true := by kernel_rfl
theorem cl29 : ((Rows.fnExactDropMoveRow.pinned == Rows.fnExactDropMoveRow.pinnedBy)) = true := by kernel_rfl
theorem cl30 : ((Rows.fnExactDropMoveRow.veiled == (Tryz.f3.params.toList ++ Rows.fnExactDropMoveSpec.plain.varTypes Tryz.checked.prog ++ Tryz.f3.resultTypes.toList).any (Tryz.checked.prog.veiledRec ·))) = true := by kernel_rfl
theorem cl31 : (Rows.fnExactDropMoveRow.veiledFits Tryz.checked.prog Tryz.f3.params.toList (Tryz.f3.params.toList ++ Rows.fnExactDropMoveSpec.plain.varTypes Tryz.checked.prog ++ Tryz.f3.resultTypes.toList)) = true := by kernel_rfl
theorem closed : joinedFacts Tryz.checked.prog 3 Tryz.f3 Rows.fnExactDropMoveSpec Rows.fnExactDropMoveRow = true := by
  exact and_t (and_t (and_t (and_t (and_t (and_t (and_t (and_t (and_t (and_t (and_t (and_t (and_t (and_t (and_t (and_t (and_t (and_t (and_t (and_t (and_t (and_t (and_t (and_t (and_t (and_t (and_t (and_t (and_t (and_t (and_t (cl0) cl1) cl2) cl3) cl4) cl5) cl6) cl7) cl8) cl9) cl10) cl11) cl12) cl13) cl14) cl15) cl16) cl17) cl18) cl19) cl20) cl21) cl22) cl23) cl24) cl25) cl26) cl27) cl28) cl29) cl30) cl31
theorem cw : Rows.fnExactDropMoveRow.wfByText (OpenSpec.ofChange Rows.fnExactDropMoveSpec) = true := by kernel_rfl
theorem cm : Tryz.pinned.checked.prog.mainIs = some (Rows.fnExactDropMoveCard.stood.harness.1, Rows.fnExactDropMoveCard.stood.harness.2.toList) := by kernel_rfl
theorem ck : false = Tryz.pinned.checked.prog.looks [] := by kernel_rfl
theorem cs : ([25].all fun u => !Tryz.prog.wantsStandIn u) = true := by kernel_rfl
theorem cg : false = Rows.fnExactDropMoveRow.goesBy Tryz.pinned.checked.prog := by kernel_rfl
theorem cn : Tryz.prog.funcNamed Rows.fnExactDropMoveRow.func = some 3 := by kernel_rfl
end Go.Proofs.YtogofkjpbpgneaaGreatDoor.fnExactDropMove
