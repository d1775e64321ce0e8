/- FnExactFinishMove: the given statement: whatever the arguments, the law is true. Out of the contract of its function. -/
import Derived.Test.YtogofkjpbpgneaaGreatDoorRows
import Derived.Test.YtogofkjpbpgneaaGreatDoorF9
import Derived.Test.YtogofkjpbpgneaaGreatDoorFmCore4
import Derived.Test.YtogofkjpbpgneaaGreatDoorClFinishMove
import Derived.Test.YtogofkjpbpgneaaGreatDoorTie
import Derived.Test.YtogofkjpbpgneaaGreatDoorCards
import Derived.WalkKit
import Derived.ProofKit
import Derived.OpenShut
import Derived.ShutString
import Derived.ChangeOld
import Derived.Below
import Derived.SizedLaws
import Derived.ChangeBears
import Derived.LaidMore
import Derived.Lay
import Derived.Shelf.Vars
import Derived.Stop.LaidErr
import Derived.Lib.LaidTab
import Derived.SevenTiedAt
import Derived.Stop.Joined
set_option linter.unusedVariables false
set_option linter.unusedSimpArgs false
set_option maxRecDepth 100000
namespace Go.Proofs.YtogofkjpbpgneaaGreatDoor.fnExactFinishMove
open Go Go.SC Go.ChangeShapes Go.WideShapes Go.ChangeAt Go.RowKit Go.Proofs
open Go.ChangeMaps (open_string shut_string)
theorem own:ownKnob Tryz.prog.godebug=none:=by kernel_rfl
theorem kids:Kids Tryz.prog (· <Tryz.prog.types.size):=kids_rows (by kernel_rfl) (by kernel_rfl)
theorem sized{t e:TypeId}(ht:t<Tryz.prog.types.size)(hu:Tryz.prog.underlying t=some (.slice e)):0<Tryz.prog.cellsOf e:=by
 have hall:(List.range Tryz.prog.types.size).all (fun t=>match Tryz.prog.underlying t with|some (.slice e)=>decide (0<Tryz.prog.cellsOf e)|_=>true)=true:=by kernel_rfl
 have h:=List.all_eq_true.1 hall t (List.mem_range.2 ht)
 rw[hu]at h
 exact of_decide_eq_true h
theorem opn0:Opn Tryz.prog 25 GDisk:=(opn_struct (fun x:GDisk=>(x.sectors,x.pending)) (fun y=>GDisk.mk y.1 y.2) (fun _=>rfl) (fun _=>rfl) (fun _ h=>h) (fun _ h=>h) Tryz.underlying25 (by kernel_rfl) rfl (of_decide_eq_true (by kernel_rfl)) (OpnL.cons (opn_list (opn_list (opn_byte Tryz.underlying5 (by kernel_rfl) (of_decide_eq_true (by kernel_rfl))) Tryz.underlying48 (by kernel_rfl) (of_decide_eq_true (by kernel_rfl))) Tryz.underlying22 (by kernel_rfl) (of_decide_eq_true (by kernel_rfl))) rfl rfl (OpnL.one (opn_list (opn_struct (fun x:GPut=>(x.sector,x.bytes)) (fun y=>GPut.mk y.1 y.2) (fun _=>rfl) (fun _=>rfl) (fun _ h=>h) (fun _ h=>h) Tryz.underlying96 (by kernel_rfl) rfl (of_decide_eq_true (by kernel_rfl)) (OpnL.cons (opn_int Tryz.underlying2 (by kernel_rfl) (of_decide_eq_true (by kernel_rfl))) rfl rfl (OpnL.one (opn_list (opn_byte Tryz.underlying5 (by kernel_rfl) (of_decide_eq_true (by kernel_rfl))) Tryz.underlying48 (by kernel_rfl) (of_decide_eq_true (by kernel_rfl))) rfl))) Tryz.underlying23 (by kernel_rfl) (of_decide_eq_true (by kernel_rfl))) rfl)))
theorem lifted(os:Os)(started:os.Started)(H:Type)(enc0:TypeId×Value->H):
  ReturnsInHanded {} Tryz.checked os 5 .any (fun w args=>(Rows.fnExactFinishMoveSpec.pre enc0 Tryz.prog Tryz.f5 Rows.fnExactFinishMoveRow.domain false w args/\laidMetH Tryz.prog Rows.fnExactFinishMoveRow.laid w)/\sizedMet enc0 Tryz.prog Tryz.f5 (OpenSpec.ofChange Rows.fnExactFinishMoveSpec) false w args)
   (Rows.fnExactFinishMoveSpec.post enc0 Tryz.prog Tryz.f5 false true false false):=by
 refine handed_and_shaped (C:=Tryz.checked) (X:=fun w _=>laidMetH Tryz.prog Rows.fnExactFinishMoveRow.laid w) (fun _ _ _ hh h=>h.of_heap hh) own started (by kernel_rfl) Tryz.func5
  (ChangeSpec.witness_shaped (enc:=enc0) (C:=Tryz.checked) (os:=os) (X:=fun w _=>laidMetH Tryz.prog Rows.fnExactFinishMoveRow.laid w) false (World.laidAll Tryz.prog os Rows.fnExactFinishMoveRow.laid) #[(Value.agg #[Value.slice none 0 0,Value.slice none 0 0])] 64 (World.laidAll_os _ _ _)
   (World.shaped_of_ZipB (by kernel_rfl) (by kernel_rfl)) (by kernel_rfl) (by kernel_rfl) (by kernel_rfl)
   (by rw[MakeChecks.laidMetH_plain _ _ _ (by kernel_rfl)];exact laidMet_laidAll _ (by kernel_rfl) (by kernel_rfl))) ?_
 intro W base args ds gs before hval0 hW hcnd hsz0 hL hShp
 have hsz:(DataW.weightsEach Tryz.prog (Tryz.f5.params.toList++Rows.fnExactFinishMoveSpec.plain.varTypes Tryz.prog) (ds++gs)).all (· <=reachBytes)=true:=hsz0
 have hval:∀(j:Nat) t v,Tryz.f5.params[j]? =some t->args[j]? =some v->Value.okWide Tryz.prog W .any base t v:=hval0
 have hW':=hW
 obtain⟨p,q,hA0,hV,rfl,hfz,hnd⟩:=hW
 have hA:DataW.TrodAll enc0 Tryz.prog W 0 (fun _=>true) true Tryz.f5.params.toList args.toList ds p:=hA0
 have hA1:=hA
 rw[Tryz.params5]at hA hval hsz
 obtain⟨v0,vs0,d0,ds0,p0,q0,hargs,rfl,rfl,h0,r0⟩:=trodAll_cons hA
 obtain⟨rfl,rfl,rfl⟩:=trodAll_nil r0
 obtain rfl:args= #[v0]:=by cases args;simp_all
 obtain⟨rfl,rfl⟩:=trodVars_none hV
 have hz:(DataW.weightsEach Tryz.prog [25] [d0]).all (· <=reachBytes)=true:=hsz
 simp only[DataW.weightsEach,List.all_append,List.append_nil,Bool.and_eq_true]at hz
 have z0:=hz
 obtain⟨fu0,t0⟩:=h0
 obtain⟨a0,l0,s0,g0⟩:=opn0.op enc0 W fu0 _ _ t0 z0
 have c0:=vr_struct Tryz.underlying25 (hval 0 25 v0 rfl rfl) l0
 have hc:=law_calls (W5_ok [.agg (enc (a0)).toArray] _ _ _ ⟨a0,rfl,s0,rfl⟩) W #[v0] (sr_cons c0 (sr_nil))
 refine hc.mono fun e W' ⟨he,hh,ho,hp⟩=> ?_
 subst he
 refine⟨_,rfl,_,_,_,[],_,[],hW',trodAll_mk1 (shut_bool Tryz.underlying4 _),trodAll_stays kids sized hh (fun B hB=>by simpa using hB) (by rw[Tryz.params5];simp only[List.mem_cons,List.not_mem_nil,or_false];intro t ht;subst ht;exact of_decide_eq_true (by kernel_rfl)) hA1,rfl,kept_same hh ho hp _,fun h=>by cases h⟩
theorem over:Rows.fnExactFinishMoveRow.holds Tryz.pinned (OpenSpec.ofChange Rows.fnExactFinishMoveSpec):=
 OpenClaim.holds_of_wide 5 Tryz.f5 rfl rfl rfl rfl rfl rfl rfl ⟨rfl,rfl,rfl,rfl,rfl⟩ rfl rfl rfl rfl rfl (by kernel_rfl) Tryz.func5 closed
  (of_decide_eq_true (by kernel_rfl)) (by unfold Func.isWrapper;first|(rw[if_pos (by decide +kernel)];kernel_rfl)|(rw[if_neg (by decide +kernel)];exact⟨rfl,rfl⟩))
  (fun os started H enc0 _=>lifted os started H enc0)
end Go.Proofs.YtogofkjpbpgneaaGreatDoor.fnExactFinishMove
namespace Go.Proofs.YtogofkjpbpgneaaGreatDoor
theorem fnExactFinishMove_holds:Rows.FnExactFinishMoveSaid:=fnExactFinishMove.over
theorem fnExactFinishMoveCard_holds:Rows.FnExactFinishMoveCardSaid:=
 Claim7.holds_tied_plain_at .later [] [.data, .pinned] true Rows.fnExactFinishMoveCard.stood.harness false fnExactFinishMove_holds (fun _ h=>by cases h) fnExactFinishMove.cw (fun _ h=>by cases h) fnExactFinishMove_row_tie rfl ⟨rfl,rfl⟩ fnExactFinishMove.cm rfl
  (fun f fn hf hfn=>by
   obtain rfl:f=5:=Option.some.inj ((show Tryz.prog.funcNamed Rows.fnExactFinishMoveRow.func=some 5 from fnExactFinishMove.cn).symm.trans hf) |>.symm
   obtain rfl:fn=Tryz.f5:=(Option.some.inj (Tryz.func5.symm.trans hfn)).symm
   exact⟨fnExactFinishMove.ck,fun j t ht=>by
    rw[Tryz.params5]at ht
    have hm:t∈[25]:=by simpa using Array.mem_of_getElem? ht
    have hall:([25].all fun u=> !Tryz.prog.wantsStandIn u)=true:=fnExactFinishMove.cs
    exact(show Tryz.prog.wantsStandIn t=false by simpa using List.all_eq_true.1 hall t hm)⟩)
  fnExactFinishMove.cg
end Go.Proofs.YtogofkjpbpgneaaGreatDoor
