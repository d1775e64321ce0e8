/- The closed facts of the row of fnExactKeptBy, one by one. -/
import Derived.Test.YthoahlghegcfnaaGreatDoorRows
import Derived.Test.YthoahlghegcfnaaGreatDoorCards
import Derived.WalkKit
import Derived.ProofKit
set_option linter.unusedVariables false
set_option maxRecDepth 100000
namespace Go.Proofs.YthoahlghegcfnaaGreatDoor.fnExactKeptBy
theorem and_t {a b : Bool} (h : a = true) (k : b = true) : (a && b) = true := by rw [h, k]; rfl
open Go Go.Proofs
theorem cl0 : (Rows.fnExactKeptByRow.wf (OpenSpec.ofChange Rows.fnExactKeptBySpec)) = true := by kernel_rfl
theorem cl1 : (laidOutB Tryz.checked.prog) = true := by kernel_rfl
theorem cl2 : (mapsRowed Tryz.checked.prog) = true := by kernel_rfl
theorem cl3 : (Tryz.f3.params.all (Tryz.checked.prog.readableRec ·)) = true := by kernel_rfl
theorem cl4 : (namedTie Tryz.checked.prog Rows.fnExactKeptByRow.named Rows.fnExactKeptBySpec.vars) = true := by kernel_rfl
theorem cl5 : ((Rows.fnExactKeptByRow.stops == [])) = true := by kernel_rfl
theorem cl6 : ((Tryz.checked.prog.stops == [])) = true := by kernel_rfl
theorem cl7 : ((Rows.fnExactKeptByRow.knobs == [])) = true := by kernel_rfl
theorem cl8 : ((Tryz.checked.prog.stopKnobs == [])) = true := by kernel_rfl
theorem cl9 : ((Rows.fnExactKeptByRow.inPlace == Tryz.checked.prog.inPlace 3)) = true := by kernel_rfl
theorem cl10 : ((Rows.fnExactKeptByRow.unfollowed == Tryz.checked.prog.unfollowed 3)) = true := by kernel_rfl
theorem cl11 : ((Rows.fnExactKeptByRow.recurses == Tryz.checked.prog.recurses 3)) = true := by kernel_rfl
theorem cl12 : ((Rows.fnExactKeptByRow.named == Tryz.checked.prog.varsNamed 3)) = true := by kernel_rfl
theorem cl13 : ((Rows.fnExactKeptByRow.maps == (Tryz.f3.params.toList ++ Rows.fnExactKeptBySpec.plain.varTypes Tryz.checked.prog).any (Tryz.checked.prog.mapsRec ·))) = true := by kernel_rfl
theorem cl14 : ((Rows.fnExactKeptByRow.ifaces == (Tryz.f3.params.toList ++ Rows.fnExactKeptBySpec.plain.varTypes Tryz.checked.prog).any (Tryz.checked.prog.ifacesRec ·))) = true := by kernel_rfl
theorem cl15 : ((Rows.fnExactKeptByRow.mapsOut == Tryz.checked.prog.mapsAmong Tryz.f3.resultTypes.toList)) = true := by kernel_rfl
theorem cl16 : ((Rows.fnExactKeptByRow.loops == (Tryz.f3.params.toList ++ Rows.fnExactKeptBySpec.plain.varTypes Tryz.checked.prog).any (Tryz.checked.prog.loopsFrom ·))) = true := by kernel_rfl
theorem cl17 : ((Rows.fnExactKeptByRow.wideKeys == (Tryz.f3.params.toList ++ Rows.fnExactKeptBySpec.plain.varTypes Tryz.checked.prog ++ Tryz.f3.resultTypes.toList).any (Tryz.checked.prog.wideKeysFrom ·))) = true := by kernel_rfl
theorem cl18 : (Rows.fnExactKeptBySpec.vars.all (Tryz.checked.prog.varReadable ·)) = true := by kernel_rfl
theorem cl19 : (Tryz.f3.resultTypes.all (fun t => Tryz.checked.prog.readableRec t && decide (t < Tryz.checked.prog.types.size))) = true := by kernel_rfl
theorem cl20 : ((Rows.fnExactKeptByRow.ifacesOut == Tryz.f3.resultTypes.toList.any (Tryz.checked.prog.ifacesRec ·))) = true := by kernel_rfl
theorem cl21 : ((Rows.fnExactKeptByRow.loopsOut == Tryz.f3.resultTypes.toList.any (Tryz.checked.prog.loopsFrom ·))) = true := by kernel_rfl
theorem cl22 : ((Rows.fnExactKeptByRow.plainKeys == Tryz.checked.prog.plainKeys)) = true := by kernel_rfl
theorem cl23 : (Rows.fnExactKeptByRow.shortTexts.isNone) = true := by kernel_rfl
theorem cl24 : (Tryz.checked.prog.stopsHeard) = true := by kernel_rfl
theorem cl25 : (Tryz.checked.prog.mayEnter) = true := by kernel_rfl
theorem cl26 : ((Rows.fnExactKeptByRow.lifted == Tryz.checked.prog.liftsFinal)) = true := by kernel_rfl
theorem cl27 : ((Tryz.checked.prog.make == some Rows.fnExactKeptByRow.make)) = true := by kernel_rfl
theorem cl28 : ((Rows.fnExactKeptByRow.kinds == (if Rows.fnExactKeptByRow.domain.isEmpty then [] else Tryz.f3.params.toList.map fun t => match Tryz.checked.prog.underlying t with | some (.int k) => some k | _ => none))) = true := by kernel_rfl
theorem cl29 : ((Rows.fnExactKeptByRow.pinned == Rows.fnExactKeptByRow.pinnedBy)) = true := by kernel_rfl
theorem cl30 : ((Rows.fnExactKeptByRow.veiled == (Tryz.f3.params.toList ++ Rows.fnExactKeptBySpec.plain.varTypes Tryz.checked.prog ++ Tryz.f3.resultTypes.toList).any (Tryz.checked.prog.veiledRec ·))) = true := by kernel_rfl
theorem cl31 : (Rows.fnExactKeptByRow.veiledFits Tryz.checked.prog Tryz.f3.params.toList (Tryz.f3.params.toList ++ Rows.fnExactKeptBySpec.plain.varTypes Tryz.checked.prog ++ Tryz.f3.resultTypes.toList)) = true := by kernel_rfl
theorem closed : joinedFacts Tryz.checked.prog 3 Tryz.f3 Rows.fnExactKeptBySpec Rows.fnExactKeptByRow = true := by
  exact and_t (and_t (and_t (and_t (and_t (and_t (and_t (and_t (and_t (and_t (and_t (and_t (and_t (and_t (and_t (and_t (and_t (and_t (and_t (and_t (and_t (and_t (and_t (and_t (and_t (and_t (and_t (and_t (and_t (and_t (and_t (cl0) cl1) cl2) cl3) cl4) cl5) cl6) cl7) cl8) cl9) cl10) cl11) cl12) cl13) cl14) cl15) cl16) cl17) cl18) cl19) cl20) cl21) cl22) cl23) cl24) cl25) cl26) cl27) cl28) cl29) cl30) cl31
theorem cw : Rows.fnExactKeptByRow.wfByText (OpenSpec.ofChange Rows.fnExactKeptBySpec) = true := by kernel_rfl
theorem cm : Tryz.pinned.checked.prog.mainIs = some (Rows.fnExactKeptByCard.stood.harness.1, Rows.fnExactKeptByCard.stood.harness.2.toList) := by kernel_rfl
theorem ck : true = Tryz.pinned.checked.prog.looks [] := by kernel_rfl
theorem cs : ([25, 31].all fun u => !Tryz.prog.wantsStandIn u) = true := by kernel_rfl
theorem cg : false = Rows.fnExactKeptByRow.goesBy Tryz.pinned.checked.prog := by kernel_rfl
theorem cn : Tryz.prog.funcNamed Rows.fnExactKeptByRow.func = some 3 := by kernel_rfl
end Go.Proofs.YthoahlghegcfnaaGreatDoor.fnExactKeptBy
