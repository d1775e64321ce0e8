/- The closed facts of the row of fnExactLeftIn, one by one. -/
import Derived.Test.YthoahlghegcfnaaGreatDoorRows
import Derived.Test.YthoahlghegcfnaaGreatDoorCards
import Derived.WalkKit
import Derived.ProofKit
set_option linter.unusedVariables false
set_option maxRecDepth 100000
namespace Go.Proofs.YthoahlghegcfnaaGreatDoor.fnExactLeftIn
theorem and_t {a b : Bool} (h : a = true) (k : b = true) : (a && b) = true := by rw [h, k]; rfl
open Go Go.Proofs
theorem cl0 : (Rows.fnExactLeftInRow.wf (OpenSpec.ofChange Rows.fnExactLeftInSpec)) = true := by kernel_rfl
theorem cl1 : (laidOutB Tryz.checked.prog) = true := by kernel_rfl
theorem cl2 : (mapsRowed Tryz.checked.prog) = true := by kernel_rfl
theorem cl3 : (Tryz.f6.params.all (Tryz.checked.prog.readableRec ·)) = true := by kernel_rfl
theorem cl4 : (namedTie Tryz.checked.prog Rows.fnExactLeftInRow.named Rows.fnExactLeftInSpec.vars) = true := by kernel_rfl
theorem cl5 : ((Rows.fnExactLeftInRow.stops == [])) = true := by kernel_rfl
theorem cl6 : ((Tryz.checked.prog.stops == [])) = true := by kernel_rfl
theorem cl7 : ((Rows.fnExactLeftInRow.knobs == [])) = true := by kernel_rfl
theorem cl8 : ((Tryz.checked.prog.stopKnobs == [])) = true := by kernel_rfl
theorem cl9 : ((Rows.fnExactLeftInRow.inPlace == Tryz.checked.prog.inPlace 6)) = true := by kernel_rfl
theorem cl10 : ((Rows.fnExactLeftInRow.unfollowed == Tryz.checked.prog.unfollowed 6)) = true := by kernel_rfl
theorem cl11 : ((Rows.fnExactLeftInRow.recurses == Tryz.checked.prog.recurses 6)) = true := by kernel_rfl
theorem cl12 : ((Rows.fnExactLeftInRow.named == Tryz.checked.prog.varsNamed 6)) = true := by kernel_rfl
theorem cl13 : ((Rows.fnExactLeftInRow.maps == (Tryz.f6.params.toList ++ Rows.fnExactLeftInSpec.plain.varTypes Tryz.checked.prog).any (Tryz.checked.prog.mapsRec ·))) = true := by kernel_rfl
theorem cl14 : ((Rows.fnExactLeftInRow.ifaces == (Tryz.f6.params.toList ++ Rows.fnExactLeftInSpec.plain.varTypes Tryz.checked.prog).any (Tryz.checked.prog.ifacesRec ·))) = true := by kernel_rfl
theorem cl15 : ((Rows.fnExactLeftInRow.mapsOut == Tryz.checked.prog.mapsAmong Tryz.f6.resultTypes.toList)) = true := by kernel_rfl
theorem cl16 : ((Rows.fnExactLeftInRow.loops == (Tryz.f6.params.toList ++ Rows.fnExactLeftInSpec.plain.varTypes Tryz.checked.prog).any (Tryz.checked.prog.loopsFrom ·))) = true := by kernel_rfl
theorem cl17 : ((Rows.fnExactLeftInRow.wideKeys == (Tryz.f6.params.toList ++ Rows.fnExactLeftInSpec.plain.varTypes Tryz.checked.prog ++ Tryz.f6.resultTypes.toList).any (Tryz.checked.prog.wideKeysFrom ·))) = true := by kernel_rfl
theorem cl18 : (Rows.fnExactLeftInSpec.vars.all (Tryz.checked.prog.varReadable ·)) = true := by kernel_rfl
theorem cl19 : (Tryz.f6.resultTypes.all (fun t => Tryz.checked.prog.readableRec t && decide (t < Tryz.checked.prog.types.size))) = true := by kernel_rfl
theorem cl20 : ((Rows.fnExactLeftInRow.ifacesOut == Tryz.f6.resultTypes.toList.any (Tryz.checked.prog.ifacesRec ·))) = true := by kernel_rfl
theorem cl21 : ((Rows.fnExactLeftInRow.loopsOut == Tryz.f6.resultTypes.toList.any (Tryz.checked.prog.loopsFrom ·))) = true := by kernel_rfl
theorem cl22 : ((Rows.fnExactLeftInRow.plainKeys == Tryz.checked.prog.plainKeys)) = true := by kernel_rfl
theorem cl23 : (Rows.fnExactLeftInRow.shortTexts.isNone) = true := by kernel_rfl
theorem cl24 : (Tryz.checked.prog.stopsHeard) = true := by kernel_rfl
theorem cl25 : (Tryz.checked.prog.mayEnter) = true := by kernel_rfl
theorem cl26 : ((Rows.fnExactLeftInRow.lifted == Tryz.checked.prog.liftsFinal)) = true := by kernel_rfl
theorem cl27 : ((Tryz.checked.prog.make == some Rows.fnExactLeftInRow.make)) = true := by kernel_rfl
theorem cl28 : ((Rows.fnExactLeftInRow.kinds == (if Rows.fnExactLeftInRow.domain.isEmpty then [] else Tryz.f6.params.toList.map fun t => match Tryz.checked.prog.underlying t with | some (.int k) => some k | _ => none))) = true := by kernel_rfl
theorem cl29 : ((Rows.fnExactLeftInRow.pinned == Rows.fnExactLeftInRow.pinnedBy)) = true := by kernel_rfl
theorem cl30 : ((Rows.fnExactLeftInRow.veiled == (Tryz.f6.params.toList ++ Rows.fnExactLeftInSpec.plain.varTypes Tryz.checked.prog ++ Tryz.f6.resultTypes.toList).any (Tryz.checked.prog.veiledRec ·))) = true := by kernel_rfl
theorem cl31 : (Rows.fnExactLeftInRow.veiledFits Tryz.checked.prog Tryz.f6.params.toList (Tryz.f6.params.toList ++ Rows.fnExactLeftInSpec.plain.varTypes Tryz.checked.prog ++ Tryz.f6.resultTypes.toList)) = true := by kernel_rfl
theorem closed : joinedFacts Tryz.checked.prog 6 Tryz.f6 Rows.fnExactLeftInSpec Rows.fnExactLeftInRow = true := by
  exact and_t (and_t (and_t (and_t (and_t (and_t (and_t (and_t (and_t (and_t (and_t (and_t (and_t (and_t (and_t (and_t (and_t (and_t (and_t (and_t (and_t (and_t (and_t (and_t (and_t (and_t (and_t (and_t (and_t (and_t (and_t (cl0) cl1) cl2) cl3) cl4) cl5) cl6) cl7) cl8) cl9) cl10) cl11) cl12) cl13) cl14) cl15) cl16) cl17) cl18) cl19) cl20) cl21) cl22) cl23) cl24) cl25) cl26) cl27) cl28) cl29) cl30) cl31
theorem cw : Rows.fnExactLeftInRow.wfByText (OpenSpec.ofChange Rows.fnExactLeftInSpec) = true := by kernel_rfl
theorem cm : Tryz.pinned.checked.prog.mainIs = some (Rows.fnExactLeftInCard.stood.harness.1, Rows.fnExactLeftInCard.stood.harness.2.toList) := by kernel_rfl
theorem ck : true = Tryz.pinned.checked.prog.looks [] := by kernel_rfl
theorem cs : ([25].all fun u => !Tryz.prog.wantsStandIn u) = true := by kernel_rfl
theorem cg : false = Rows.fnExactLeftInRow.goesBy Tryz.pinned.checked.prog := by kernel_rfl
theorem cn : Tryz.prog.funcNamed Rows.fnExactLeftInRow.func = some 6 := by kernel_rfl
end Go.Proofs.YthoahlghegcfnaaGreatDoor.fnExactLeftIn
