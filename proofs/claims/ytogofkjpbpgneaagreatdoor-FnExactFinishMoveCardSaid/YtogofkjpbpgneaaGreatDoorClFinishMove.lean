/- The closed facts of the row of fnExactFinishMove, one by one. -/
import Derived.Test.YtogofkjpbpgneaaGreatDoorRows
import Derived.Test.YtogofkjpbpgneaaGreatDoorCards
import Derived.WalkKit
import Derived.ProofKit
set_option linter.unusedVariables false
set_option maxRecDepth 100000
namespace Go.Proofs.YtogofkjpbpgneaaGreatDoor.fnExactFinishMove
theorem and_t {a b : Bool} (h : a = true) (k : b = true) : (a && b) = true := by rw [h, k]; rfl
open Go Go.Proofs
theorem cl0 : (Rows.fnExactFinishMoveRow.wf (OpenSpec.ofChange Rows.fnExactFinishMoveSpec)) = true := by kernel_rfl
theorem cl1 : (laidOutB Tryz.checked.prog) = true := by kernel_rfl
theorem cl2 : (mapsRowed Tryz.checked.prog) = true := by kernel_rfl
theorem cl3 : (Tryz.f5.params.all (Tryz.checked.prog.readableRec ·)) = true := by kernel_rfl
theorem cl4 : (namedTie Tryz.checked.prog Rows.fnExactFinishMoveRow.named Rows.fnExactFinishMoveSpec.vars) = true := by kernel_rfl
theorem cl5 : ((Rows.fnExactFinishMoveRow.stops == [])) = true := by kernel_rfl
theorem cl6 : ((Tryz.checked.prog.stops == [])) = true := by kernel_rfl
theorem cl7 : ((Rows.fnExactFinishMoveRow.knobs == [])) = true := by kernel_rfl
theorem cl8 : ((Tryz.checked.prog.stopKnobs == [])) = true := by kernel_rfl
theorem cl9 : ((Rows.fnExactFinishMoveRow.inPlace == Tryz.checked.prog.inPlace 5)) = true := by kernel_rfl
theorem cl10 : ((Rows.fnExactFinishMoveRow.unfollowed == Tryz.checked.prog.unfollowed 5)) = true := by kernel_rfl
theorem cl11 : ((Rows.fnExactFinishMoveRow.recurses == Tryz.checked.prog.recurses 5)) = true := by kernel_rfl
theorem cl12 : ((Rows.fnExactFinishMoveRow.named == Tryz.checked.prog.varsNamed 5)) = true := by kernel_rfl
theorem cl13 : ((Rows.fnExactFinishMoveRow.maps == (Tryz.f5.params.toList ++ Rows.fnExactFinishMoveSpec.plain.varTypes Tryz.checked.prog).any (Tryz.checked.prog.mapsRec ·))) = true := by kernel_rfl
theorem cl14 : ((Rows.fnExactFinishMoveRow.ifaces == (Tryz.f5.params.toList ++ Rows.fnExactFinishMoveSpec.plain.varTypes Tryz.checked.prog).any (Tryz.checked.prog.ifacesRec ·))) = true := by kernel_rfl
theorem cl15 : ((Rows.fnExactFinishMoveRow.mapsOut == Tryz.checked.prog.mapsAmong Tryz.f5.resultTypes.toList)) = true := by kernel_rfl
theorem cl16 : ((Rows.fnExactFinishMoveRow.loops == (Tryz.f5.params.toList ++ Rows.fnExactFinishMoveSpec.plain.varTypes Tryz.checked.prog).any (Tryz.checked.prog.loopsFrom ·))) = true := by kernel_rfl
theorem cl17 : ((Rows.fnExactFinishMoveRow.wideKeys == (Tryz.f5.params.toList ++ Rows.fnExactFinishMoveSpec.plain.varTypes Tryz.checked.prog ++ Tryz.f5.resultTypes.toList).any (Tryz.checked.prog.wideKeysFrom ·))) = true := by kernel_rfl
theorem cl18 : (Rows.fnExactFinishMoveSpec.vars.all (Tryz.checked.prog.varReadable ·)) = true := by kernel_rfl
theorem cl19 : (Tryz.f5.resultTypes.all (fun t => Tryz.checked.prog.readableRec t && decide (t < Tryz.checked.prog.types.size))) = true := by kernel_rfl
theorem cl20 : ((Rows.fnExactFinishMoveRow.ifacesOut == Tryz.f5.resultTypes.toList.any (Tryz.checked.prog.ifacesRec ·))) = true := by kernel_rfl
theorem cl21 : ((Rows.fnExactFinishMoveRow.loopsOut == Tryz.f5.resultTypes.toList.any (Tryz.checked.prog.loopsFrom ·))) = true := by kernel_rfl
theorem cl22 : ((Rows.fnExactFinishMoveRow.plainKeys == Tryz.checked.prog.plainKeys)) = true := by kernel_rfl
theorem cl23 : (Rows.fnExactFinishMoveRow.shortTexts.isNone) = true := by kernel_rfl
theorem cl24 : (Tryz.checked.prog.stopsHeard) = true := by kernel_rfl
theorem cl25 : (Tryz.checked.prog.mayEnter) = true := by kernel_rfl
theorem cl26 : ((Rows.fnExactFinishMoveRow.lifted == Tryz.checked.prog.liftsFinal)) = true := by kernel_rfl
theorem cl27 : ((Tryz.checked.prog.make == some Rows.fnExactFinishMoveRow.make)) = true := by kernel_rfl
theorem cl28 : ((Rows.fnExactFinishMoveRow.kinds == (if Rows.fnExactFinishMoveRow.domain.isEmpty then [] else Tryz.f5.params.toList.map fun t => match Tryz.checked.prog.underlying t with | some (.int k) => some k | _ => none))) = true := by kernel_rfl
theorem cl29 : ((Rows.fnExactFinishMoveRow.pinned == Rows.fnExactFinishMoveRow.pinnedBy)) = true := by kernel_rfl
theorem cl30 : ((Rows.fnExactFinishMoveRow.veiled == (Tryz.f5.params.toList ++ Rows.fnExactFinishMoveSpec.plain.varTypes Tryz.checked.prog ++ Tryz.f5.resultTypes.toList).any (Tryz.checked.prog.veiledRec ·))) = true := by kernel_rfl
theorem cl31 : (Rows.fnExactFinishMoveRow.veiledFits Tryz.checked.prog Tryz.f5.params.toList (Tryz.f5.params.toList ++ Rows.fnExactFinishMoveSpec.plain.varTypes Tryz.checked.prog ++ Tryz.f5.resultTypes.toList)) = true := by kernel_rfl
theorem closed : joinedFacts Tryz.checked.prog 5 Tryz.f5 Rows.fnExactFinishMoveSpec Rows.fnExactFinishMoveRow = true := by
  exact and_t (and_t (and_t (and_t (and_t (and_t (and_t (and_t (and_t (and_t (and_t (and_t (and_t (and_t (and_t (and_t (and_t (and_t (and_t (and_t (and_t (and_t (and_t (and_t (and_t (and_t (and_t (and_t (and_t (and_t (and_t (cl0) cl1) cl2) cl3) cl4) cl5) cl6) cl7) cl8) cl9) cl10) cl11) cl12) cl13) cl14) cl15) cl16) cl17) cl18) cl19) cl20) cl21) cl22) cl23) cl24) cl25) cl26) cl27) cl28) cl29) cl30) cl31
theorem cw : Rows.fnExactFinishMoveRow.wfByText (OpenSpec.ofChange Rows.fnExactFinishMoveSpec) = true := by kernel_rfl
theorem cm : Tryz.pinned.checked.prog.mainIs = some (Rows.fnExactFinishMoveCard.stood.harness.1, Rows.fnExactFinishMoveCard.stood.harness.2.toList) := by kernel_rfl
theorem ck : false = Tryz.pinned.checked.prog.looks [] := by kernel_rfl
theorem cs : ([25].all fun u => !Tryz.prog.wantsStandIn u) = true := by kernel_rfl
theorem cg : false = Rows.fnExactFinishMoveRow.goesBy Tryz.pinned.checked.prog := by kernel_rfl
theorem cn : Tryz.prog.funcNamed Rows.fnExactFinishMoveRow.func = some 5 := by kernel_rfl
end Go.Proofs.YtogofkjpbpgneaaGreatDoor.fnExactFinishMove
