/- The closed facts of the row of fnExactScrubStore, one by one. -/
import Derived.Test.YthoahlghegcfnaaGreatDoorRows
import Derived.Test.YthoahlghegcfnaaGreatDoorCards
import Derived.WalkKit
import Derived.ProofKit
set_option linter.unusedVariables false
set_option maxRecDepth 100000
namespace Go.Proofs.YthoahlghegcfnaaGreatDoor.fnExactScrubStore
theorem and_t{a b:Bool}(h:a=true)(k:b=true):(a&&b)=true:=by rw[h,k];rfl
open Go Go.Proofs
theorem cl0:(Rows.fnExactScrubStoreRow.wf (OpenSpec.ofChange Rows.fnExactScrubStoreSpec))=true:=by kernel_rfl
theorem cl1:(laidOutB Tryz.checked.prog)=true:=by kernel_rfl
theorem cl2:(mapsRowed Tryz.checked.prog)=true:=by kernel_rfl
theorem cl3:(Tryz.f5.params.all (Tryz.checked.prog.readableRec ·))=true:=by kernel_rfl
theorem cl4:(namedTie Tryz.checked.prog Rows.fnExactScrubStoreRow.named Rows.fnExactScrubStoreSpec.vars)=true:=by kernel_rfl
theorem cl5:((Rows.fnExactScrubStoreRow.stops==[]))=true:=by kernel_rfl
theorem cl6:((Tryz.checked.prog.stops==[]))=true:=by kernel_rfl
theorem cl7:((Rows.fnExactScrubStoreRow.knobs==[]))=true:=by kernel_rfl
theorem cl8:((Tryz.checked.prog.stopKnobs==[]))=true:=by kernel_rfl
theorem cl9:((Rows.fnExactScrubStoreRow.inPlace==Tryz.checked.prog.inPlace 5))=true:=by kernel_rfl
theorem cl10:((Rows.fnExactScrubStoreRow.unfollowed==Tryz.checked.prog.unfollowed 5))=true:=by kernel_rfl
theorem cl11:((Rows.fnExactScrubStoreRow.recurses==Tryz.checked.prog.recurses 5))=true:=by kernel_rfl
theorem cl12:((Rows.fnExactScrubStoreRow.named==Tryz.checked.prog.varsNamed 5))=true:=by kernel_rfl
theorem cl13:((Rows.fnExactScrubStoreRow.maps==(Tryz.f5.params.toList++Rows.fnExactScrubStoreSpec.plain.varTypes Tryz.checked.prog).any (Tryz.checked.prog.mapsRec ·)))=true:=by kernel_rfl
theorem cl14:((Rows.fnExactScrubStoreRow.ifaces==(Tryz.f5.params.toList++Rows.fnExactScrubStoreSpec.plain.varTypes Tryz.checked.prog).any (Tryz.checked.prog.ifacesRec ·)))=true:=by kernel_rfl
theorem cl15:((Rows.fnExactScrubStoreRow.mapsOut==Tryz.checked.prog.mapsAmong Tryz.f5.resultTypes.toList))=true:=by kernel_rfl
theorem cl16:((Rows.fnExactScrubStoreRow.loops==(Tryz.f5.params.toList++Rows.fnExactScrubStoreSpec.plain.varTypes Tryz.checked.prog).any (Tryz.checked.prog.loopsFrom ·)))=true:=by kernel_rfl
theorem cl17:((Rows.fnExactScrubStoreRow.wideKeys==(Tryz.f5.params.toList++Rows.fnExactScrubStoreSpec.plain.varTypes Tryz.checked.prog++Tryz.f5.resultTypes.toList).any (Tryz.checked.prog.wideKeysFrom ·)))=true:=by kernel_rfl
theorem cl18:(Rows.fnExactScrubStoreSpec.vars.all (Tryz.checked.prog.varReadable ·))=true:=by kernel_rfl
theorem cl19:(Tryz.f5.resultTypes.all (fun t=>Tryz.checked.prog.readableRec t&&decide (t<Tryz.checked.prog.types.size)))=true:=by kernel_rfl
theorem cl20:((Rows.fnExactScrubStoreRow.ifacesOut==Tryz.f5.resultTypes.toList.any (Tryz.checked.prog.ifacesRec ·)))=true:=by kernel_rfl
theorem cl21:((Rows.fnExactScrubStoreRow.loopsOut==Tryz.f5.resultTypes.toList.any (Tryz.checked.prog.loopsFrom ·)))=true:=by kernel_rfl
theorem cl22:((Rows.fnExactScrubStoreRow.plainKeys==Tryz.checked.prog.plainKeys))=true:=by kernel_rfl
theorem cl23:(Rows.fnExactScrubStoreRow.shortTexts.isNone)=true:=by kernel_rfl
theorem cl24:(Tryz.checked.prog.stopsHeard)=true:=by kernel_rfl
theorem cl25:(Tryz.checked.prog.mayEnter)=true:=by kernel_rfl
theorem cl26:((Rows.fnExactScrubStoreRow.lifted==Tryz.checked.prog.liftsFinal))=true:=by kernel_rfl
theorem cl27:((Tryz.checked.prog.make==some Rows.fnExactScrubStoreRow.make))=true:=by kernel_rfl
theorem cl28:((Rows.fnExactScrubStoreRow.kinds==(if Rows.fnExactScrubStoreRow.domain.isEmpty then []else Tryz.f5.params.toList.map fun t=>match Tryz.checked.prog.underlying t with|some (.int k)=>some k|_=>none)))=true:=by kernel_rfl
theorem cl29:((Rows.fnExactScrubStoreRow.pinned==Rows.fnExactScrubStoreRow.pinnedBy))=true:=by kernel_rfl
theorem cl30:((Rows.fnExactScrubStoreRow.veiled==(Tryz.f5.params.toList++Rows.fnExactScrubStoreSpec.plain.varTypes Tryz.checked.prog++Tryz.f5.resultTypes.toList).any (Tryz.checked.prog.veiledRec ·)))=true:=by kernel_rfl
theorem cl31:(Rows.fnExactScrubStoreRow.veiledFits Tryz.checked.prog Tryz.f5.params.toList (Tryz.f5.params.toList++Rows.fnExactScrubStoreSpec.plain.varTypes Tryz.checked.prog++Tryz.f5.resultTypes.toList))=true:=by kernel_rfl
theorem closed:joinedFacts Tryz.checked.prog 5 Tryz.f5 Rows.fnExactScrubStoreSpec Rows.fnExactScrubStoreRow=true:=by
 exact and_t (and_t (and_t (and_t (and_t (and_t (and_t (and_t (and_t (and_t (and_t (and_t (and_t (and_t (and_t (and_t (and_t (and_t (and_t (and_t (and_t (and_t (and_t (and_t (and_t (and_t (and_t (and_t (and_t (and_t (and_t (cl0) cl1) cl2) cl3) cl4) cl5) cl6) cl7) cl8) cl9) cl10) cl11) cl12) cl13) cl14) cl15) cl16) cl17) cl18) cl19) cl20) cl21) cl22) cl23) cl24) cl25) cl26) cl27) cl28) cl29) cl30) cl31
theorem cw:Rows.fnExactScrubStoreRow.wfByText (OpenSpec.ofChange Rows.fnExactScrubStoreSpec)=true:=by kernel_rfl
theorem cm:Tryz.pinned.checked.prog.mainIs=some (Rows.fnExactScrubStoreCard.stood.harness.1,Rows.fnExactScrubStoreCard.stood.harness.2.toList):=by kernel_rfl
theorem ck:true=Tryz.pinned.checked.prog.looks []:=by kernel_rfl
theorem cs:([25].all fun u=> !Tryz.prog.wantsStandIn u)=true:=by kernel_rfl
theorem cg:false=Rows.fnExactScrubStoreRow.goesBy Tryz.pinned.checked.prog:=by kernel_rfl
theorem cn:Tryz.prog.funcNamed Rows.fnExactScrubStoreRow.func=some 5:=by kernel_rfl
end Go.Proofs.YthoahlghegcfnaaGreatDoor.fnExactScrubStore
