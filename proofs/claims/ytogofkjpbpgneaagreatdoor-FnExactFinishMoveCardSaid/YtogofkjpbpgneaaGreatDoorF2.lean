/- YtogofkjpbpgneaaGreatDoorF2 -/
import Derived.Test.YtogofkjpbpgneaaGreatDoorF1
set_option linter.unusedSimpArgs false
set_option linter.unusedVariables false
set_option maxRecDepth 20000
set_option maxHeartbeats 4000000
namespace Go.Proofs.YtogofkjpbpgneaaGreatDoor
open Go Go.SC Tryz
variable {H:AH} {Bd:Nat} {K:Value->AH->Nat->Prop}
@[go_sem ↓] def BW172 (p:GPage):Tq:=fun H Bd K=>((sm p/\R64 p.id)/\K (iv (pageF p)) H Bd)
def W172:qH:=fun g' H Bd K=>∃(p:GPage),g'=[.agg (enc p).toArray]/\BW172 p H Bd K
@[go_sem ↓] theorem W172_eq (a b:Int) (c:List UInt8):W172 [.agg #[iv a,iv b,lst c]] H Bd K=BW172 (GPage.mk a b c) H Bd K:=ex1 (GPage.mk a b c) rfl
theorem W172_ok:OK 172 W172:=by
 rintro _ H Bd K ⟨p,rfl,hpre,hK⟩
 refine fnp pok ((uA.uB W81_ok).uB W216_ok) [(1,[],[],(.k 5 (.grp false 7 11 4 [8,9,10,11] 12 none (.k 4 .nil) .nil)))] hK func172 ntmps172 call172 [.tmp 2] fun hb ha=>?_
 obtain⟨h1,h2⟩:=hpre
 simp only[sm_GPage]at h1
 have hlen:=qS h1.2.2
 refine R (cj h1 h2) ?_
 unfold pageF isPg
 all_goals first|done|trivial|((try simp only[Cnp,Imp]);grind)
@[go_sem ↓] def BV173 (p:GPage):Tq:=fun H Bd K=>((sm p/\pageF p=0)/\K (lst (packP p)) H Bd)
def V173:qH:=fun g' H Bd K=>∃(p:GPage),g'=[.agg (enc p).toArray]/\BV173 p H Bd K
@[go_sem ↓] theorem V173_eq (a b:Int) (c:List UInt8):V173 [.agg #[iv a,iv b,lst c]] H Bd K=BV173 (GPage.mk a b c) H Bd K:=ex1 (GPage.mk a b c) rfl
def W173:qH:=fun g' H Bd K=>∃(pp:Value),g'=[pp]/\Yld (qI H 3 pp) fun cp=>qQ V173 [.agg cp.toArray] H Bd K
@[go_sem ↓] theorem W173_eq (a:Value):W173 [a] H Bd K=(Yld (qI H 3 a) fun cp=>qQ V173 (idS [.agg cp.toArray]) H Bd K):=px1 a
theorem W173_ok:OK 173 W173:=by
 rintro _ H Bd K ⟨pp,rfl,cp,ep,h⟩
 obtain⟨p,e,hpre,hK⟩:=h
 simp only[xG,and_true]at e
 have Ep:=e
 obtain rfl:=qR Ep
 refine fnp pok ((uA.uB L132_ok).uB W130_ok) [(1,[0,1,2,3,4,5,6,7,8,9,10,11,12,13,14,15,16,17],[z0 0,z0 1,z0 2,z0 3,z0 4,z0 5,z0 6,z0 7,z0 8,z0 9,z0 10,z0 11,z0 12,z0 13,z0 14,z0 15,z0 16,z0 17], .nil)] hK func173 ntmps173 call173 [.tmp 2] fun hb ha=>?_
 have Pp:=qM ep (NB.vpok (ha pp (by simp)))
 simp only[enc_GPage]at Pp
 have Zp:=Pp.all 3 rfl
 have Yp:=jE (ha pp (by simp))
 refine jF pok fun cv=>?_
 obtain⟨h1,h2⟩:=hpre
 have hp:=pageF_ok h2
 simp only[sm_GPage]at h1
 have h0:=packP0_flat p
 have hl0:=packP0_len p
 have hok:=flat_ok p.body
 have hpl:=padP_len (l:=yC p) (by omega)
 have hsr:=sum_rg (padP (yC p))
 have hend:qO (padP (yC p))++qO (jX (sumB 29 (padP (yC p))))=qO (packP p):=by rw[<-qK];rfl
 have hend2:=packP_len hp.2.2
 have htk2:List.take 94 (qO (padP (yC p)))=qO (padP (yC p)):=by
  have h:=flat_all (padP (yC p))
  rw[hpl,show Enc.k UInt8=1 from rfl,Nat.mul_one]at h
  exact h
 have hsmp:sm (padP (yC p)):=⟨by omega,fun _ _=>trivial⟩
 have hpn:=jQ (sumB 29 (padP (yC p)))
 have hok2:=flat_ok (jX (sumB 29 (padP (yC p))))
 have hLx:∀b,Le (upd H (Bd+18) b) (upd (upd H (Bd+16) none) (Bd+18) b):=fun b=>Le_mark (by rw[qL hb _ (by omega)];exact Le.refl _)
 refine RA (cj Zp hok) ?_
 refine tr_st (X:=Nat×Nat×Nat) (fun x=>x.1<=91-p.body.length/\Bd<=x.2.1/\0<x.2.2) (fun x=>91-p.body.length-x.1) (fun x=>[(3,sv (x.2.1) 1 (3+p.body.length+x.1) x.2.2)]) (fun x=>upd H x.2.1 (some ⟨qO (yC p++List.replicate x.1 0),true⟩)) (0,Bd+18,vC (3+p.body.length) 3) (⟨xT _,xB _ _,kG _ _⟩) (by simp only[go_sem,push_cast,qB,qA,List.replicate_zero,wL,h0,hLx]<;>exact cT) (by first|exact Le.refl _|simp (disch:=first|assumption|omega) only[go_sem,push_cast,qB,qA,qU,jP,List.replicate_zero,wL,h0,hLx]) ?_
 intro x Bx hIx hBx hbx Fx hFx
 refine cv (by kernel_rfl) ?_
 obtain⟨i,n,c⟩:=x
 obtain⟨i1,i2,i3⟩:=hIx
 simp only at i1 i2 i3 hbx
 have hnx:=hb_lt hbx
 have hz:(c=0)=False:=eq_false (by omega)
 have hln:(yC p++List.replicate i (0:UInt8)).length=3+p.body.length+i:=by simp[hl0];omega
 have htki:List.take (3+p.body.length+i) (qO (yC p++List.replicate i (0:UInt8)))=qO (yC p++List.replicate i 0):=by
  have h:=flat_all (yC p++List.replicate i (0:UInt8))
  rw[hln,show Enc.k UInt8=1 from rfl,Nat.mul_one]at h
  exact h
 by_cases hlt:3+p.body.length+i<94
 ·have hst:qO (yC p++0::List.replicate i (0:UInt8))=qO (yC p++List.replicate i 0)++[.int .u8 0]:=by
   rw[<-List.replicate_succ,List.replicate_succ',<-xL,qK,qT];rfl
  refine R (cj5 Zp hz hln htki hlt) ?_
  refine hFx (i+1,Bx+1,vC (3+p.body.length+i+1) (c-1)) _ _ _ ?_ ?_ (by first|exact Le.refl _|simp (disch:=first|assumption|omega|(simp (disch:=omega) only[qG,qE hb];done)) only[go_sem,push_cast,qB,qA,qU,jP,qG,qE hb,hst,zB,yK]) (by simp only[go_sem,push_cast,qB,qA]) (by simp only[go_sem,push_cast,qB,qA,hst,zB,yK]<;>exact cT)
  ·show 91-p.body.length-(i+1)<91-p.body.length-i
   omega
  ·refine⟨show i+1<=91-p.body.length by omega,show Bd<=Bx+1 by omega,?_⟩
   exact kG _ _
 ·obtain rfl:i=91-p.body.length:=by omega
  have hpad:yC p++List.replicate (91-p.body.length) (0:UInt8)=padP (yC p):=by
   unfold padP
   rw[hl0,show 94-(p.body.length+3)=91-p.body.length by omega]
  have h94:3+p.body.length+(91-p.body.length)=94:=by omega
  rw[hpad,h94]at hln htki
  rw[hpad]
  rw[hpad]at hbx
  refine R (cj5 Zp hz hln htki h94) ?_
  refine cv (by kernel_rfl) ?_
  refine RA (cj8 Zp hz hok2 h94 hsmp htki htk2 hend) ?_
  refine qV (qJ _ _ _) ?_ rfl ?_
  ·exact hb.fresh _ (by omega)
  ·rw[hend2,hpn]
@[go_sem ↓] def BW125 (data:List UInt8) (id:Int):Tq:=fun H Bd K=>((data.length=96/\2<=id/\id<=63)/\K (.tuple #[.agg (enc ((qY data id).1)).toArray,iv ((qY data id).2)]) H Bd)
def W125:qH:=fun g' H Bd K=>∃(data:List UInt8) (id:Int),g'=[lst data,iv id]/\BW125 data id H Bd K
@[go_sem ↓] theorem W125_eq (a:List UInt8) (b:Int):W125 [lst a,iv b] H Bd K=BW125 a b H Bd K:=ex2 a b rfl
theorem W125_ok:OK 125 W125:=by
 rintro _ H Bd K ⟨data,id,rfl,hpre,hK⟩
 refine yF pok (((((uA.uB W132_ok).uB W130_ok).uB W129_ok).uB W172_ok).uB W173_ok) [(3,[0,1,2,6,7,8,9,3,4,5,10],[z0 0,z0 1,z0 2,z0 6,z0 7,z0 8,z0 9,⟨3,[],[9]⟩,⟨4,[],[9]⟩,z0 5,z0 10], .nil),(9,[0,1,2,3,4,5,6,7,8,9,10,11,14,12,13,15],[z0 0,z0 1,z0 2,z0 3,z0 4,z0 5,z0 6,z0 7,z0 8,z0 9,z0 10,z0 11,z0 14,⟨12,[],[3,2]⟩,z0 13,⟨15,[14],[]⟩], .nil),(10,[0,1,2,3,6,7,4,5,8,9],[z0 0,z0 1,z0 2,z0 3,z0 6,z0 7,⟨4,[],[7]⟩,z0 5,z0 8,z0 9], .nil)] _ hK func125 rfl (rs:=[.cell 4 187, .tmp 5]) rfl ntmps125 (by simp) call125 (by kernel_rfl) (fun ha hb=>tup_nb ⟨agg_nb _ _, .int _ _,trivial⟩) (fun hb ha=>?_)
 obtain⟨h1,h2,h3⟩:=hpre
 have e0:data[0]? =some (data[0]'(by omega)):=xA _
 have e1:data[1]? =some (data[1]'(by omega)):=xA _
 have e2:data[2]? =some (data[2]'(by omega)):=xA _
 have hsr:=sum_rg (data.take 94)
 have b0:((data[0]'(by omega)).toNat:Int)<=255:=by have:=(data[0]'(by omega)).toNat_lt;omega
 have b1:((data[1]'(by omega)).toNat:Int)<=255:=by have:=(data[1]'(by omega)).toNat_lt;omega
 have b2:((data[2]'(by omega)).toNat:Int)<=255:=by have:=(data[2]'(by omega)).toNat_lt;omega
 have f0:data.getD 0 0=data[0]'(by omega):=by rw[xF,e0];rfl
 have f1:data.getD 1 0=data[1]'(by omega):=by rw[xF,e1];rfl
 have f2:data.getD 2 0=data[2]'(by omega):=by rw[xF,e2];rfl
 have htk:data.take 96=data:=xO (by omega)
 have hl94:(data.take 94).length<=2000:=by rw[xQ];omega
 have hsm:sm (data.take 94):=⟨by rw[xQ];omega,fun _ _=>trivial⟩
 have hn:((3:Int)+((data[2]'(by omega)).toNat:Int)).toNat=3+(data[2]'(by omega)).toNat:=by omega
 have hdt:List.drop 3 (List.take (3+(data[2]'(by omega)).toNat) data)=List.take (data[2]'(by omega)).toNat (List.drop 3 data):=by rw[List.drop_take,Nat.add_sub_cancel_left]
 have hG:readG data id=⟨((data[0]'(by omega)).toNat:Int),id,List.take (data[2]'(by omega)).toNat (List.drop 3 data)⟩:=by unfold readG;rw[f0,f2]
 have hlb:(List.take (data[2]'(by omega)).toNat (List.drop 3 data)).length<=93:=by rw[xQ,xI];omega
 have hsb:sm (List.take (data[2]'(by omega)).toNat (List.drop 3 data)):=⟨by omega,fun _ _=>trivial⟩
 have hsp:sm (readG data id):=by rw[hG];exact⟨trivial,trivial,hsb⟩
 have hsp2:sm (⟨((data[0]'(by omega)).toNat:Int),id,List.take (data[2]'(by omega)).toNat (List.drop 3 data)⟩:GPage):=⟨trivial,trivial,hsb⟩
 have b3:((data[0]'(by omega)).toNat:Int)<=9223372036854775807:=by omega
 have h64:R64 id:=⟨by omega,by omega⟩
 have hlb2:(List.take (data[2]'(by omega)).toNat (List.drop 3 data)).length<=1000000:=by omega
 by_cases q1:jX (sumB 29 (data.take 94))=data.drop 94
 case neg=>
  have e:qY data id=(⟨0,0,[]⟩,11):=by unfold qY;rw[if_pos q1];rfl
  simp (maxSteps:=2000000) (disch:=first|exact dq|fail) only[go_sem,push_cast,qB,qA,qL hb,qE hb,h1,e0,e1,e2,if_pos b3,wK,eq_self,true_and,htk,hsm,q1,e]
 by_cases q2:((data[1]'(by omega)).toNat:Int)=id
 case neg=>
  have e:qY data id=(⟨0,0,[]⟩,8):=by unfold qY;rw[if_neg (by simpa using q1),if_pos (by rw[f1];exact q2)];rfl
  simp (maxSteps:=2000000) (disch:=first|exact dq|fail) only[go_sem,push_cast,qB,qA,qL hb,qE hb,h1,e0,e1,e2,if_pos b3,wK,eq_self,true_and,htk,hsm,q1,q2,e]
 by_cases q3:(91:Int)<((data[2]'(by omega)).toNat:Int)
 ·have e:qY data id=(⟨0,0,[]⟩,5):=by unfold qY;rw[if_neg (by simpa using q1),if_neg (by rw[f1];simpa using q2),if_pos (by rw[f2];omega)];rfl
  simp (maxSteps:=2000000) (disch:=first|exact dq|fail) only[go_sem,push_cast,qB,qA,qL hb,qE hb,h1,e0,e1,e2,if_pos b3,wK,eq_self,true_and,htk,hsm,q1,q2,q3,e]
 have hR:qY data id=if pageF (readG data id)≠0\/packP (readG data id)≠data then(noPg,5)else(readG data id,0):=by unfold qY;rw[if_neg (by simpa using q1),if_neg (by rw[f1];simpa using q2),if_neg (by rw[f2];omega)]
 by_cases q4:pageF (readG data id)=0
 case neg=>
  have e:qY data id=(⟨0,0,[]⟩,5):=by rw[hR,if_pos (.inl q4)];rfl
  rw[hG]at q4
  simp (maxSteps:=2000000) (disch:=first|exact dq|fail) only[go_sem,push_cast,qB,qA,qL hb,qE hb,h1,e0,e1,e2,if_pos b3,wK,eq_self,true_and,htk,hsm,q1,q2,q3,hn,hdt,hlb2,hsp2,h64,HB.no hb,q4,e]
 by_cases q5:packP (readG data id)=data
 case neg=>
  have e:qY data id=(⟨0,0,[]⟩,5):=by rw[hR,if_pos (.inr q5)];rfl
  rw[hG]at q4 q5
  simp (maxSteps:=2000000) (disch:=first|exact dq|fail) only[go_sem,push_cast,qB,qA,qL hb,qE hb,h1,e0,e1,e2,if_pos b3,wK,eq_self,true_and,htk,hsm,q1,q2,q3,hn,hdt,hlb2,hsp2,h64,HB.no hb,q4,q5,e]
 have e:qY data id=(⟨((data[0]'(by omega)).toNat:Int),id,List.take (data[2]'(by omega)).toNat (List.drop 3 data)⟩,0):=by rw[hR,if_neg (by simp[q4,q5]),hG]
 rw[hG]at q4 q5
 simp (maxSteps:=2000000) (disch:=first|exact dq|fail) only[go_sem,push_cast,qB,qA,qL hb,qE hb,h1,e0,e1,e2,if_pos b3,wK,eq_self,true_and,htk,hsm,q1,q2,q3,hn,hdt,hlb2,hsp2,h64,HB.no hb,q4,q5,e]
def W118:qH:=fun g' H Bd K=>∃(xs:List UInt8) (ys:List UInt8),g'=[lst xs,lst ys]/\((sm xs/\sm ys)/\K (iv (Lib.compareBytes xs ys)) H Bd)
@[go_sem ↓] theorem W118_eq (a b:List UInt8):W118 [lst a,lst b] H Bd K=((sm a/\sm b)/\K (iv (Lib.compareBytes a b)) H Bd):=ex2 a b rfl
theorem W118_ok:OK 118 W118:=by
 rintro _ H Bd K ⟨xs,ys,rfl,hpre,hK⟩
 refine fnp pok uA [(2,[],[],(.k 5 (.grp true 10 14 4 [11,12,13,14] 15 none (.k 4 .nil) .nil))),(4,[0,1,2,3,4,5,6,7,8],[z0 0,z0 1,z0 2,z0 3,z0 4,z0 5,z0 6,z0 7,z0 8], .nil),(6,[0,1,2,3,4,5,6,7,8],[z0 0,z0 1,z0 2,z0 3,z0 4,z0 5,z0 6,z0 7,z0 8], .nil)] hK func118 ntmps118 call118 [.tmp 4] fun hb ha=>?_
 refine jF pok fun cv=>?_
 obtain⟨h1,h2⟩:=hpre
 have hl1:=qS h1
 have hl2:=qS h2
 refine R0 ?_
 refine jA (fun i=>∀j,j<i->xs[j]? =ys[j]?) (min xs.length ys.length) (fun i=>[(0,lst xs),(1,lst ys),(5,iv i)]) (fun j hj=>absurd hj (Nat.not_lt_zero _)) (by simp only[go_sem,push_cast,qB,qA]) ?_
 intro i Bi hIi hii hBi
 refine cv (by kernel_rfl) ?_
 rcases xM i (min xs.length ys.length)with hlti|hgei
 ·have e1:xs[i]? =some (xs[i]'(by omega)):=xA _
  have e2:ys[i]? =some (ys[i]'(by omega)):=xA _
  refine R (cj e1 e2) ?_
  have c1:(xs[i]<ys[i])↔(xs[i].toNat:Int)<ys[i].toNat:=by rw[UInt8.lt_iff_toNat_lt];omega
  have c2:(ys[i]<xs[i])↔(ys[i].toNat:Int)<xs[i].toNat:=by rw[UInt8.lt_iff_toNat_lt];omega
  refine⟨fun h=>(cmpB_lt hIi (by omega) (by omega) (c1.2 h)).symm,fun h3=>⟨fun h=>(cmpB_gt hIi (by omega) (by omega) (c2.2 h)).symm,fun h4 j hj=>?_⟩⟩
  by_cases e:j=i
  ·subst e
   rw[e1,e2,UInt8.toNat_inj.1 (show xs[j].toNat=ys[j].toNat by omega)]
  ·exact hIi j (by omega)
 ·refine R0 ?_
  refine⟨fun a1 a2=>absurd (show i<min xs.length ys.length by omega) (by omega),fun _=>?_⟩
  refine cv (by kernel_rfl) ?_
  refine R0 ?_
  have he:=cmpB_end hIi (by omega)
  rw[he]
  all_goals first|done|trivial|((try simp only[Cnp,Imp]);grind)
def W256:qH:=fun g' H Bd K=>∃(n:GNode),g'=[.agg (enc n).toArray]/\((sm n)/\K (iv (kS n)) H Bd)
@[go_sem ↓] theorem W256_eq (a:Bool) (b:List (List UInt8)) (c d:List Int):W256 [.agg #[.bool a,lst b,lst c,lst d]] H Bd K=((sm (GNode.mk a b c d))/\K (iv (kS (GNode.mk a b c d))) H Bd):=ex1 (GNode.mk a b c d) rfl
theorem W256_ok:OK 256 W256:=by
 rintro _ H Bd K ⟨n,rfl,hpre,hK⟩
 refine fnp pok (((uA.uB W118_ok).uB W81_ok).uB W216_ok) [(6,[],[],(.k 8 (.grp false 25 32 7 [26,27,28,29,30,31,32] 33 none (.k 7 .nil) .nil))),(11,[0,1,2,3,4,5,6,7,8,9,10,11,12],[z0 0,z0 1,z0 2,z0 3,z0 4,z0 5,z0 6,z0 7,z0 8,z0 9,z0 10,z0 11,z0 12], .nil),(14,[],[],(.k 8 (.grp false 63 67 4 [64,65,66,67] 68 none (.k 4 .nil) .nil))),(22,[],[],(.k 5 (.grp false 87 91 4 [88,89,90,91] 92 none (.k 4 .nil) (.k 1 (.grp false 93 101 8 [94,95,96,97,98,99,100,101] 102 none (.k 8 .nil) .nil)))))] hK func256 ntmps256 call256 [.tmp 2] fun hb ha=>?_
 refine jF pok fun cv=>?_
 have hss:=hpre
 simp only[sm_GNode]at hpre
 obtain⟨_,hk,hv,hc⟩:=hpre
 have hlk:=qS hk
 have hlv:=qS hv
 have hlc:=qS hc
 by_cases h4:4<n.keys.length
 ·have e:kS n=2:=by unfold kS;rw[if_pos h4]
  exact R (cj h4 e) trivial
 refine R h4 ?_
 refine jA (fun i=>∀j,j<i->∀x,n.keys[j]? =some x->keyBad x=false) (n.keys.length) (fun i=>[(1,pt Bd),(3,iv i)]) (by simp) (by simp only[go_sem,push_cast,qB,qA]) ?_
 intro i Bi hIi hii hBi
 refine cv (by kernel_rfl) ?_
 rcases xM i (n.keys.length)with hlti|hgei
 ·have e1:n.keys[i]? =some n.keys[i]:=xA hlti
  have hx:=qS (yP hk (xH hlti))
  by_cases hb1:keyBad n.keys[i]=true
  ·have e:kS n=2:=by unfold kS;rw[if_neg h4,if_pos (any_hit hlti hb1)]
   have hb2:=of_decide_eq_true hb1
   by_cases hb3:n.keys[i].length<1
   ·exact R (cj3 e1 hb3 e) trivial
   ·have hb4:16<n.keys[i].length:=hb2.resolve_left hb3
    exact R (cj4 e1 hb3 hb4 e) trivial
  ·have hb2:¬(n.keys[i].length<1\/16<n.keys[i].length):=fun h=>hb1 (decide_eq_true h)
   have hb3:¬n.keys[i].length<1:=fun h=>hb2 (.inl h)
   have hb4:¬16<n.keys[i].length:=fun h=>hb2 (.inr h)
   refine R (cj3 e1 hb3 hb4) ?_
   intro j hj x hx2
   by_cases e:j=i
   ·subst e;rw[e1]at hx2;cases hx2;simpa using hb1
   ·exact hIi j (by omega) x hx2
 refine R0 ?_
 have hany:n.keys.any keyBad=false:=vL fun j hj x hx=>hIi j (by omega) x hx
 refine cv (by kernel_rfl) ?_
 refine R0 ?_
 have hg1:kS n=if riseK n.keys=false then 1 else if n.leaf=true then leafG n else innerG n:=by unfold kS;rw[if_neg h4,if_neg (by rw[hany];exact Bool.false_ne_true)]
 refine jA (fun k=>∀j,j<k->∀x y,n.keys[j]? =some x->n.keys[j+1]? =some y->Lib.compareBytes x y<0) (n.keys.length-1) (fun k=>[(1,pt Bd),(4,iv ((k:Int)+1))]) (by simp) (by simp only[go_sem,push_cast,qB,qA]) ?_
 intro k Bk hIk hik hBk
 refine cv (by kernel_rfl) ?_
 rcases xM k (n.keys.length-1)with hltk|hgek
 ·have e1:n.keys[k]? =some (n.keys[k]'(by omega)):=xA _
  have e2:n.keys[k+1]? =some (n.keys[k+1]'(by omega)):=xA _
  have g1:=yP hk (xH (show k<n.keys.length by omega))
  have g2:=yP hk (xH (show k+1<n.keys.length by omega))
  have c1:((k:Int)+1-1).toNat=k:=by omega
  have c2:((k:Int)+1).toNat=k+1:=by omega
  by_cases hq:0<=Lib.compareBytes (n.keys[k]'(by omega)) (n.keys[k+1]'(by omega))
  ·have e:kS n=1:=by rw[hg1,if_pos (riseK_no e1 e2 (by omega))]
   exact R (cj8 e1 e2 c1 c2 g1 g2 hq e) trivial
  ·refine R (cj7 e1 e2 c1 c2 g1 g2 hq) ?_
   intro j hj x y j1 j2
   by_cases e:j=k
   ·subst e;rw[e1]at j1;rw[e2]at j2;cases j1;cases j2;omega
   ·exact hIk j (by omega) x y j1 j2
 ·refine R0 ?_
  refine cv (by kernel_rfl) ?_
  have hr:riseK n.keys=true:=riseK_yes fun j x y j1 j2=>hIk j (by have:=(xR.1 j2).1;omega) x y j1 j2
  have hg2:kS n=if n.leaf=true then leafG n else innerG n:=by rw[hg1,if_neg (by simp[hr])]
  by_cases hl:n.leaf=true
  ·rw[if_pos hl]at hg2
   rw[hg2]
   by_cases hq:n.values.length≠n.keys.length\/0<n.kids.length
   ·have e:leafG n=1:=by unfold leafG;rw[if_pos hq]
    by_cases hq1:n.values.length=n.keys.length
    ·have hq2:0<n.kids.length:=hq.resolve_left (by simpa using hq1)
     exact R (cj4 hl hq1 hq2 e) trivial
    ·have hq3:¬(n.values.length:Int)=n.keys.length:=by omega
     exact R (cj4 hl hq1 hq3 e) trivial
   ·have hq1:n.values.length=n.keys.length:=Decidable.not_not.1 fun h=>hq (.inl h)
    have hq2:¬0<n.kids.length:=fun h=>hq (.inr h)
    have e:leafG n=if n.values.any vBad=true then 3 else 0:=by unfold leafG;rw[if_neg hq]
    rw[e]
    refine R (cj3 hl hq1 hq2) ?_
    refine jA (fun m=>∀j,j<m->∀x,n.values[j]? =some x->vBad x=false) (n.values.length) (fun m=>[(1,pt Bd),(5,iv m)]) (by simp) (by simp only[go_sem,push_cast,qB,qA]) ?_
    intro m Bm hIm him hBm
    refine cv (by kernel_rfl) ?_
    rcases xM m (n.values.length)with hltm|hgem
    ·have e1:n.values[m]? =some n.values[m]:=xA hltm
     by_cases hv1:0<=n.values[m]/\n.values[m]<=65535
     ·have hv2:=hv1.1
      have hv3:=hv1.2
      have hv4:vBad n.values[m]=false:=by unfold vBad;rw[decide_eq_true hv1];rfl
      refine R (cj3 e1 hv2 hv3) ?_
      intro j hj x hx2
      by_cases e:j=m
      ·subst e;rw[e1]at hx2;cases hx2;exact hv4
      ·exact hIm j (by omega) x hx2
     ·have hv4:vBad n.values[m]=true:=by unfold vBad;rw[decide_eq_false hv1];rfl
      rw[if_pos (any_hit hltm hv4)]
      refine R (cj e1 hv1) ?_
      all_goals first|trivial|exact fun a b=>absurd ⟨a,b⟩ hv1
    ·refine R0 ?_
     refine cv (by kernel_rfl) ?_
     rw[if_neg (by rw[vL fun j hj x hx=>hIm j (by omega) x hx];exact Bool.false_ne_true)]
     exact R0 trivial
  ·rw[if_neg hl]at hg2
   rw[hg2]
   have hl2:n.leaf=false:=by simpa using hl
   by_cases hq:n.keys.length<1\/0<n.values.length\/n.kids.length≠n.keys.length+1
   ·have e:innerG n=1:=by unfold innerG;rw[if_pos hq]
    by_cases hq1:n.keys.length<1
    ·have hq0:n.keys.length=0:=by omega
     exact R (cj4 hl2 hq1 hq0 e) trivial
    ·have hq0:¬(n.keys.length:Int)=0:=by omega
     by_cases hq2:0<n.values.length
     ·exact R (cj5 hl2 hq1 hq0 hq2 e) trivial
     ·have hq3:¬(n.kids.length:Int)=(n.keys.length:Int)+1:=by
       rcases hq with h|h|h <;>omega
      exact R (cj6 hl2 hq1 hq0 hq2 hq3 e) trivial
   ·have hq1:¬n.keys.length<1:=fun h=>hq (.inl h)
    have hq0:¬(n.keys.length:Int)=0:=by omega
    have hq2:¬0<n.values.length:=fun h=>hq (.inr (.inl h))
    have hq3:n.kids.length=n.keys.length+1:=Decidable.not_not.1 fun h=>hq (.inr (.inr h))
    have e:innerG n=if n.kids.any pBad=true then 3 else 0:=by unfold innerG;rw[if_neg hq]
    rw[e]
    refine R (cj5 hl2 hq1 hq0 hq2 hq3) ?_
    refine jA (fun m=>∀j,j<m->∀x,n.kids[j]? =some x->pBad x=false) (n.kids.length) (fun m=>[(1,pt Bd),(6,iv m)]) (by simp) (by simp only[go_sem,push_cast,qB,qA]) ?_
    intro m Bm hIm him hBm
    refine cv (by kernel_rfl) ?_
    rcases xM m (n.kids.length)with hltm|hgem
    ·have e1:n.kids[m]? =some n.kids[m]:=xA hltm
     by_cases hv1:isPg n.kids[m]=true
     ·have hv4:pBad n.kids[m]=false:=by unfold pBad;rw[hv1];rfl
      refine R (cj e1 hv1) ?_
      intro j hj x hx2
      by_cases e:j=m
      ·subst e;rw[e1]at hx2;cases hx2;exact hv4
      ·exact hIm j (by omega) x hx2
     ·have hv4:pBad n.kids[m]=true:=by unfold pBad;simp[hv1]
      rw[if_pos (any_hit hltm hv4)]
      exact R (cj e1 hv1) trivial
    ·refine R0 ?_
     refine cv (by kernel_rfl) ?_
     rw[if_neg (by rw[vL fun j hj x hx=>hIm j (by omega) x hx];exact Bool.false_ne_true)]
     exact R0 trivial
theorem L256_pure:PureV (NilT 0 [1,1,1,1] W256):=by
 intro args H Bd K h
 obtain⟨x0,e,hpre,hK⟩:=h
 exact⟨_,by first|exact .bool _|exact .int _ _|exact .string _|exact vc_enc _,hK,fun H' K' hs h=>⟨x0,e,hpre,h⟩⟩
def L256:qH:=LendA (NilT 0 [1,1,1,1] W256)
@[go_sem ↓] theorem L256_eq (a:Value):L256 [a] H Bd K=qQ W256 (idS [nilAgg [1,1,1,1] (giveA H a)]) H Bd K:=(rfl)
theorem L256_ok:OK 256 L256:=LendA_ok (NilT_ok 0 [1,1,1,1] W256_ok) L256_pure
def W242:qH:=fun g' H Bd K=>∃(leaf:Bool) (body:List UInt8),g'=[.bool leaf,lst body]/\((body.length<=91)/\K (.tuple #[.agg (enc ((prsN leaf body).1)).toArray, .bool ((prsN leaf body).2)]) H Bd)
@[go_sem ↓] theorem W242_eq (a:Bool) (b:List UInt8):W242 [.bool a,lst b] H Bd K=((b.length<=91)/\K (.tuple #[.agg (enc ((prsN a b).1)).toArray, .bool ((prsN a b).2)]) H Bd):=ex2 a b rfl
theorem W242_ok:OK 242 W242:=by
 rintro _ H Bd K ⟨leaf,body,rfl,hpre,hK⟩
 refine yF pok ((uA.uB W129_ok).uB L256_ok) [(2,[],[],(.k 4 (.grp false 16 20 4 [17,18,19,20] 21 none (.k 4 .nil) .nil))),(12,[],[],(.k 5 (.grp false 38 51 13 [39,40,41,42,43,44,45,46,47,48,49,50,51] 52 none (.k 13 .nil) .nil))),(15,[0,1,2,3,4,5,6,7,8,9,10,11],[z0 0,z0 1,z0 2,z0 3,z0 4,z0 5,z0 6,⟨7,[],[1]⟩,z0 8,⟨9,[8],[]⟩,z0 10,⟨11,[8],[]⟩], .nil),(17,[0,1,2,3,4,5,6,7,8,9,10,11,12,13,14,15,16,17,18],[z0 0,z0 1,z0 2,z0 3,z0 4,z0 5,z0 6,z0 7,z0 8,z0 9,z0 10,z0 11,z0 12,z0 13,z0 14,z0 15,⟨16,[15],[]⟩,z0 17,⟨18,[15],[]⟩], .nil),(20,[],[],(.k 5 (.grp true 101 105 4 [102,103,104,105] 106 none (.k 4 .nil) .nil))),(22,[0,1,2,3,4,5,6,7,8,9,10],[z0 0,z0 1,z0 2,z0 3,z0 4,z0 5,z0 6,z0 7,⟨8,[7],[]⟩,z0 9,⟨10,[7],[]⟩], .nil),(23,[0,1,2,3,4,5,6,7,8,9,10,11],[z0 0,z0 1,z0 2,z0 3,z0 4,z0 5,z0 6,⟨7,[],[0]⟩,z0 8,z0 9,z0 10,z0 11], .nil)] _ hK func242 rfl (rs:=[.cell 4 248, .tmp 5]) rfl ntmps242 (by simp) call242 (by kernel_rfl) (fun ha hb=>tup_nb ⟨agg_nb _ _, .bool _,trivial⟩) (fun hb ha=>?_)
 refine jF pok fun cv=>?_
 by_cases hb0:body.length<1
 ·have e:prsN leaf body=(⟨false,[],[],[]⟩,false):=by unfold prsN;rw[if_pos (.inl hb0)];rfl
  exact R (cj hb0 e) trivial
 have e0:body[0]? =some (body[0]'(by omega)):=xA _
 have f0:body.getD 0 0=body[0]'(by omega):=by rw[xF,e0];rfl
 by_cases hb4:(4:Int)<((body[0]'(by omega)).toNat:Int)
 ·have e:prsN leaf body=(⟨false,[],[],[]⟩,false):=by unfold prsN;rw[if_pos (.inr (by rw[f0];omega))];rfl
  exact R (cj4 hb0 e0 hb4 e) trivial
 have hN:prsN leaf body=match prs leaf body (body[0]'(by omega)).toNat with
  |none=>(noNd,false)
  |some (p,ks,vs)=>prsE leaf body p ks vs:=by
  unfold prsN
  rw[if_neg (by rintro(h|h) <;>first|exact hb0 h|(rw[f0]at h;omega)),f0]
  rfl
 cases leaf with
 |false=>
  refine R (cj3 hb0 e0 hb4) ?_
  refine Tr.freshC (n:=Bd+2) 1 1 (by simp only[go_sem,push_cast,qB,qA];rfl) rfl ?_
  rw[upd_swap (by omega)]
  refine tr_st (X:=Nat×Nat×List (List UInt8)×Nat×Nat) (fun x=>x.1<=(body[0]'(by omega)).toNat/\prs false body x.1=some (x.2.1,x.2.2.1,[])/\Bd+3<=x.2.2.2.1/\0<x.2.2.2.2) (fun x=>(body[0]'(by omega)).toNat-x.1) (fun x=>[(4,pt Bd),(6,pt (Bd+1)),(7,pt (Bd+2)),(0, .bool false),(1,lst body),(8,iv x.2.1),(9,iv 0),(10,iv x.1)]) (fun x=>upd (upd (upd (upd H Bd (some ⟨[.bool false,sn,sn,sn],true⟩)) (Bd+1) (some ⟨[.bool false,sn,sn,sn],true⟩)) (Bd+2) (some ⟨[.bool false,sv (x.2.2.2.1) 1 x.2.2.1.length x.2.2.2.2,sn,sn],true⟩)) x.2.2.2.1 (some ⟨qO x.2.2.1,true⟩)) (0,1,[],Bd+3,1) (⟨xT _,rfl,xC _,Nat.zero_lt_one⟩) (by simp only[go_sem,push_cast,qB,qA,qZ,List.set_cons_succ,List.set_cons_zero]<;>exact cT) (by first|exact Le.refl _|simp (disch:=first|assumption|omega) only[go_sem,push_cast,qB,qA,qU,jP,qZ,List.set_cons_succ,List.set_cons_zero]) ?_
  intro x Bx hIx hBx hbx Fx hFx
  refine cv (by kernel_rfl) ?_
  obtain⟨i,p,ks,m,c⟩:=x
  obtain⟨i1,i2,i3,i4⟩:=hIx
  simp only at i1 i2 i3 i4 hbx
  have hmx:=hb_lt hbx
  have hz:(c=0)=False:=eq_false (by omega)
  have hpl:=prs_len i2
  rcases xM i (body[0]'(by omega)).toNat with hlt|hge
  ·have hst:prs false body (i+1)=if body.length<=p\/body.length<p+1+(body.getD p 0).toNat+0 then none else some (p+1+(body.getD p 0).toNat+0,ks++[(body.drop (p+1)).take (body.getD p 0).toNat],[]):=by
    conv=>lhs;unfold prs
    rw[i2];rfl
   by_cases hp:body.length<=p
   ·have hnn:prs false body (body[0]'(by omega)).toNat=none:=prs_none (i:=i+1) (by rw[hst,if_pos (.inl hp)]) _ hlt
    have e:prsN false body=(⟨false,[],[],[]⟩,false):=by rw[hN,hnn];rfl
    exact R (cj4 e0 hlt hp e) trivial
   ·have e1:body[p]? =some (body[p]'(by omega)):=xA _
    have f1:body.getD p 0=body[p]'(by omega):=by rw[xF,e1];rfl
    have b1:((body[p]'(by omega)).toNat:Int)<=255:=by have:=(body[p]'(by omega)).toNat_lt;omega
    rw[f1]at hst
    by_cases hp2:(body.length:Int)<(p:Int)+1+((body[p]'(by omega)).toNat:Int)+0
    ·have hnn:prs false body (body[0]'(by omega)).toNat=none:=prs_none (i:=i+1) (by rw[hst,if_pos (.inr (by omega))]) _ hlt
     have e:prsN false body=(⟨false,[],[],[]⟩,false):=by rw[hN,hnn];rfl
     exact R (cj6 e0 e1 hlt hp hp2 e) trivial
    ·rw[if_neg (by rintro(h|h) <;>omega)]at hst
     have c1:((p:Int)+1).toNat=p+1:=by omega
     have c2:((p:Int)+1+((body[p]'(by omega)).toNat:Int)).toNat=p+1+(body[p]'(by omega)).toNat:=by omega
     have hdt:List.drop (p+1) (List.take (p+1+(body[p]'(by omega)).toNat) body)=List.take (body[p]'(by omega)).toNat (List.drop (p+1) body):=by rw[List.drop_take,Nat.add_sub_cancel_left]
     have hln:(List.take (body[p]'(by omega)).toNat (List.drop (p+1) body)).length<=1000000:=by rw[xQ,xI];omega
     have hks:=hpl.1
     have hstf:qO (ks++[List.take (body[p]'(by omega)).toNat (List.drop (p+1) body)])=qO ks++[lst (List.take (body[p]'(by omega)).toNat (List.drop (p+1) body))]:=by rw[qK,qT];rfl
     refine RA (cj10 e0 e1 hlt hp hp2 hz c1 c2 hdt hln) ?_
     have hX:∀q,Bd+2<=q->∀u v,upd (upd H Bd u) (Bd+1) v q=none:=fun q hq u v=>by rw[qD _ _ (by omega),qD _ _ (by omega)];exact hb.fresh q (by omega)
     have hgx:Bd+2<=Bx+8:=by omega
     refine hFx (i+1,p+1+(body[p]'(by omega)).toNat+0,ks++[List.take (body[p]'(by omega)).toNat (List.drop (p+1) body)],Bx+12,vC (ks.length+1) (c-1)) _ _ _ ?_ ?_ ?_ (by simp only[go_sem,push_cast,qB,qA]) (by simp only[go_sem,push_cast,qB,qA]<;>exact cT)
     ·show(body[0]'(by omega)).toNat-(i+1)<(body[0]'(by omega)).toNat-i
      omega
     ·exact⟨hlt,hst,show Bd+3<=Bx+12 by omega,kG _ _⟩
     ·simp only[xD,xJ,xZ,Nat.zero_add,hstf]
      exact le_step (hX _ (by omega) _ _) (hX _ (by omega) _ _) (by omega)
  ·have hi:i=(body[0]'(by omega)).toNat:=by omega
   rw[hi]at i2
   have hple:p<=body.length:=prs_le (by omega) i2
   have e:prsN false body=prsE false body p ks []:=by rw[hN,i2]
   refine R e0 ?_
   refine cv (by kernel_rfl) ?_
   refine R0 ?_
   rw[upd_comm (by omega)]
   refine Tr.freshC (n:=Bd+2) 3 1 (qJ _ _ _) rfl ?_
   rw[upd_swap (by omega)]
   refine tr_st (X:=Nat×Nat×Nat) (fun y=>y.1<=5/\p+y.1<=body.length/\Bx<=y.2.1/\0<y.2.2) (fun y=>5-y.1) (fun y=>[(4,pt Bd),(6,pt (Bd+1)),(7,pt (Bd+2)),(0, .bool false),(1,lst body),(8,iv ((p:Int)+(y.1:Int)))]) (fun y=>upd (upd (upd (upd (upd H Bd (some ⟨[.bool false,sn,sn,sn],true⟩)) (Bd+1) (some ⟨[.bool false,sn,sn,sn],true⟩)) m (some ⟨qO ks,true⟩)) (Bd+2) (some ⟨[.bool false,sv m 1 ks.length c,sn,sv (y.2.1) 1 (vO body p y.1).length y.2.2],true⟩)) y.2.1 (some ⟨qO (vO body p y.1),true⟩)) (0,Bx,1) (⟨xT _,hple,xC _,Nat.zero_lt_one⟩) (by simp only[go_sem,push_cast,qB,qA,qZ,vO,List.take_zero,List.map_nil,List.set_cons_succ,List.set_cons_zero,Int.add_zero]<;>exact cT) (by first|exact Le.refl _|simp (disch:=first|assumption|omega) only[go_sem,push_cast,qB,qA,qU,jP,qZ,vO,List.take_zero,List.map_nil,List.set_cons_succ,List.set_cons_zero,Int.add_zero]) ?_
   intro y By hIy hBy hby Fy hFy
   refine cv (by kernel_rfl) ?_
   obtain⟨j,q,d⟩:=y
   obtain⟨j1,j2,j3,j4⟩:=hIy
   simp only at j1 j2 j3 j4 hby
   have hmq:=hb_lt hby
   have hzd:(d=0)=False:=eq_false (by omega)
   have hkl:=kidsB_len (body:=body) (p:=p) j2
   by_cases hq1:p+j<body.length
   ·have e1:body[p+j]? =some (body[p+j]'hq1):=xA _
    have b1:((body[p+j]'hq1).toNat:Int)<=255:=by have:=(body[p+j]'hq1).toNat_lt;omega
    have c1:((p:Int)+(j:Int)).toNat=p+j:=by omega
    have hq2:(p:Int)+(j:Int)<(body.length:Int):=by omega
    by_cases hq3:j<=4
    ·have hstf:qO (vO body p (j+1))=qO (vO body p j)++[iv ((body[p+j]'hq1).toNat:Int)]:=by rw[kidsB_succ hq1,qK,qT];rfl
     have hstl:(vO body p (j+1)).length=j+1:=kidsB_len (by omega)
     have hta:List.take j (qO (vO body p j))=qO (vO body p j):=by
      have h:=flat_all1 (vO body p j)
      rw[hkl]at h;exact h
     refine RA (cj7 e1 c1 hq2 hq3 hkl hzd hta) ?_
     have hX:∀t,Bd+2<=t->t≠m->∀u v z,upd (upd (upd H Bd u) (Bd+1) v) m z t=none:=fun t ht hm u v z=>by rw[qD _ _ hm,qD _ _ (by omega),qD _ _ (by omega)];exact hb.fresh t (by omega)
     refine hFy (j+1,By+11,vC (j+1) (d-1)) _ _ _ ?_ ?_ ?_ (by simp only[go_sem,push_cast,qB,qA]) (by simp only[go_sem,push_cast,qB,qA]<;>exact cT)
     ·show 5-(j+1)<5-j
      omega
     ·exact⟨show j+1<=5 by omega,show p+(j+1)<=body.length by omega,show Bx<=By+11 by omega,kG _ _⟩
     ·simp only[hstf,hstl]
      exact le_step (hX _ (by omega) (by omega) _ _ _) (hX _ (by omega) (by omega) _ _ _) (by omega)
    ·obtain rfl:j=5:=by omega
     have e5:prsN false body=(⟨false,ks,[],vO body p 5⟩,decide (p+5=body.length)&&decide (kS ⟨false,ks,[],vO body p 5⟩=0)):=by
      rw[e];unfold prsE
      simp only[Bool.false_eq_true,if_false]
      rw[show((body.drop p).take 5).map (fun b=>(b.toNat:Int))=vO body p 5 from rfl,hkl]
     refine R (cj4 hq2 hq3 hkl e5) ?_
     refine⟨⟨?_,?_⟩,?_⟩
     ·refine qV (n:=m) (xs:=ks) ?_ (hb.fresh _ (by omega)) rfl rfl
      rw[qD _ _ (by omega),qD _ _ (by omega),qD _ _ (by omega),qJ]
     ·refine qV (n:=q) (xs:=vO body p 5) ?_ (hb.fresh _ (by omega)) rfl hkl.symm
      rw[qD _ _ (by omega),qJ]
     ·rw[show decide (p+5=body.length)=false from decide_eq_false (by omega)];rfl
   ·have hq2:¬(p:Int)+(j:Int)<(body.length:Int):=by omega
    have hk5:((body.drop p).take 5).map (fun b=>(b.toNat:Int))=vO body p j:=by
     unfold vO
     rw[xO (by rw[xI];omega),xO (by rw[xI];omega)]
    have e5:prsN false body=(⟨false,ks,[],vO body p j⟩,decide (p+j=body.length)&&decide (kS ⟨false,ks,[],vO body p j⟩=0)):=by
     rw[e];unfold prsE
     simp only[Bool.false_eq_true,if_false]
     rw[hk5,hkl]
    have hki:=prs_key i2
    have hlk:=(prs_len i2).1
    have hsm:sm (⟨false,ks,[],vO body p j⟩:GNode):=⟨trivial,⟨show ks.length<=281474976710656 by omega,fun k hk=>⟨by have:=hki k hk;omega,fun _ _=>trivial⟩⟩,⟨by simp,by simp⟩,(yU _).2 (show(vO body p j).length<=281474976710656 by omega)⟩
    refine R (cj4 hq2 hkl hsm e5) ?_
    refine⟨⟨?_,?_⟩,?_⟩
    ·refine qV (n:=m) (xs:=ks) ?_ (hb.fresh _ (by omega)) rfl rfl
     rw[qD _ _ (by omega),qD _ _ (by omega),qD _ _ (by omega),qJ]
    ·refine qV (n:=q) (xs:=vO body p j) ?_ (hb.fresh _ (by omega)) rfl hkl.symm
     rw[qD _ _ (by omega),qJ]
    ·rw[show decide (p+j=body.length)=true from decide_eq_true (by omega)]
     simp
 |true=>
  refine R (cj3 hb0 e0 hb4) ?_
  refine Tr.freshC (n:=Bd+2) 1 1 (by simp only[go_sem,push_cast,qB,qA];rfl) rfl ?_
  rw[upd_swap (by omega)]
  refine Tr.freshC (n:=Bd+2) 2 1 (by rw[qD _ _ (by omega),qJ]) rfl ?_
  rw[upd_comm (m:=Bd+3+1) (n:=Bd+2) (by omega),upd_swap (by omega)]
  refine tr_st (X:=Nat×Nat×List (List UInt8)×List Int×Nat×Nat×Nat×Nat) (fun x=>x.1<=(body[0]'(by omega)).toNat/\prs true body x.1=some (x.2.1,x.2.2.1,x.2.2.2.1)/\Bd+3<=x.2.2.2.2.1/\0<x.2.2.2.2.2.1/\Bd+3<=x.2.2.2.2.2.2.1/\0<x.2.2.2.2.2.2.2/\x.2.2.2.2.1<x.2.2.2.2.2.2.1/\x.2.2.2.1.length=x.1) (fun x=>(body[0]'(by omega)).toNat-x.1) (fun x=>[(4,pt Bd),(6,pt (Bd+1)),(7,pt (Bd+2)),(0, .bool true),(1,lst body),(8,iv x.2.1),(9,iv 2),(10,iv x.1)]) (fun x=>upd (upd (upd (upd (upd H Bd (some ⟨[.bool false,sn,sn,sn],true⟩)) (Bd+1) (some ⟨[.bool false,sn,sn,sn],true⟩)) (Bd+2) (some ⟨[.bool true,sv (x.2.2.2.2.1) 1 x.2.2.1.length x.2.2.2.2.2.1,sv (x.2.2.2.2.2.2.1) 1 x.2.2.2.1.length x.2.2.2.2.2.2.2,sn],true⟩)) x.2.2.2.2.1 (some ⟨qO x.2.2.1,true⟩)) x.2.2.2.2.2.2.1 (some ⟨qO x.2.2.2.1,true⟩)) (0,1,[],[],Bd+3,1,Bd+3+1,1) (⟨xT _,rfl,xC _,Nat.zero_lt_one,Nat.le_succ _,Nat.zero_lt_one,Nat.lt_succ_self _,rfl⟩) (by simp only[go_sem,push_cast,qB,qA,qZ,List.set_cons_succ,List.set_cons_zero]<;>exact cT) (by first|exact Le.refl _|simp (disch:=first|assumption|omega) only[go_sem,push_cast,qB,qA,qU,jP,qZ,List.set_cons_succ,List.set_cons_zero]) ?_
  intro x Bx hIx hBx hbx Fx hFx
  refine cv (by kernel_rfl) ?_
  obtain⟨i,p,ks,vs,m,c,q,d⟩:=x
  obtain⟨i1,i2,i3,i4,i5,i6,i7,i8⟩:=hIx
  simp only at i1 i2 i3 i4 i5 i6 i7 i8 hbx
  have hqx:=hb_lt hbx
  have hz:(c=0)=False:=eq_false (by omega)
  have hzd:(d=0)=False:=eq_false (by omega)
  have hpl:=prs_len i2
  rcases xM i (body[0]'(by omega)).toNat with hlt|hge
  ·have hst:prs true body (i+1)=if body.length<=p\/body.length<p+1+(body.getD p 0).toNat+2 then none else some (p+1+(body.getD p 0).toNat+2,ks++[(body.drop (p+1)).take (body.getD p 0).toNat],vs++[((body.getD (p+1+(body.getD p 0).toNat) 0).toNat:Int)*256+((body.getD (p+2+(body.getD p 0).toNat) 0).toNat:Int)]):=by
    conv=>lhs;unfold prs
    rw[i2];rfl
   by_cases hp:body.length<=p
   ·have hnn:prs true body (body[0]'(by omega)).toNat=none:=prs_none (i:=i+1) (by rw[hst,if_pos (.inl hp)]) _ hlt
    have e:prsN true body=(⟨false,[],[],[]⟩,false):=by rw[hN,hnn];rfl
    exact R (cj4 e0 hlt hp e) trivial
   ·have e1:body[p]? =some (body[p]'(by omega)):=xA _
    have f1:body.getD p 0=body[p]'(by omega):=by rw[xF,e1];rfl
    have b1:((body[p]'(by omega)).toNat:Int)<=255:=by have:=(body[p]'(by omega)).toNat_lt;omega
    rw[f1]at hst
    by_cases hp2:(body.length:Int)<(p:Int)+1+((body[p]'(by omega)).toNat:Int)+2
    ·have hnn:prs true body (body[0]'(by omega)).toNat=none:=prs_none (i:=i+1) (by rw[hst,if_pos (.inr (by omega))]) _ hlt
     have e:prsN true body=(⟨false,[],[],[]⟩,false):=by rw[hN,hnn];rfl
     exact R (cj6 e0 e1 hlt hp hp2 e) trivial
    ·rw[if_neg (by rintro(h|h) <;>omega)]at hst
     have c1:((p:Int)+1).toNat=p+1:=by omega
     have c2:((p:Int)+1+((body[p]'(by omega)).toNat:Int)).toNat=p+1+(body[p]'(by omega)).toNat:=by omega
     have c3:((p:Int)+1+((body[p]'(by omega)).toNat:Int)+1).toNat=p+1+((body[p]'(by omega)).toNat+1):=by omega
     have hdt:List.drop (p+1) (List.take (p+1+(body[p]'(by omega)).toNat) body)=List.take (body[p]'(by omega)).toNat (List.drop (p+1) body):=by rw[List.drop_take,Nat.add_sub_cancel_left]
     have hln:(List.take (body[p]'(by omega)).toNat (List.drop (p+1) body)).length<=1000000:=by rw[xQ,xI];omega
     have hks:=hpl.1
     obtain⟨L,hL⟩:∃L,L=p+1+(body[p]'(by omega)).toNat:=⟨_,rfl⟩
     have e2:body[p+1+(body[p]'(by omega)).toNat]? =some (body[p+1+(body[p]'(by omega)).toNat]'(by omega)):=xA _
     have e3:body[p+1+((body[p]'(by omega)).toNat+1)]? =some (body[p+1+((body[p]'(by omega)).toNat+1)]'(by omega)):=xA _
     have b2:((body[p+1+(body[p]'(by omega)).toNat]'(by omega)).toNat:Int)<=255:=by have:=(body[p+1+(body[p]'(by omega)).toNat]'(by omega)).toNat_lt;omega
     have b3:((body[p+1+((body[p]'(by omega)).toNat+1)]'(by omega)).toNat:Int)<=255:=by have:=(body[p+1+((body[p]'(by omega)).toNat+1)]'(by omega)).toNat_lt;omega
     refine RA (cj16 e0 e1 e2 e3 hlt hp hp2 hz hzd c1 c2 c3 hdt hln hks i8) ?_
     have hX:∀t,Bd+3<=t->∀u v,upd (upd H Bd u) (Bd+1) v t=none:=fun t ht u v=>by rw[qD _ _ (by omega),qD _ _ (by omega)];exact hb.fresh t (by omega)
     have hvs:qO (vs++[((body[p+1+(body[p]'(by omega)).toNat]'(by omega)).toNat:Int)*256+((body[p+1+((body[p]'(by omega)).toNat+1)]'(by omega)).toNat:Int)])=qO vs++[iv (((body[p+1+(body[p]'(by omega)).toNat]'(by omega)).toNat:Int)*256+((body[p+1+((body[p]'(by omega)).toNat+1)]'(by omega)).toNat:Int))]:=by rw[qK,qT];rfl
     have hstf:qO (ks++[List.take (body[p]'(by omega)).toNat (List.drop (p+1) body)])=qO ks++[lst (List.take (body[p]'(by omega)).toNat (List.drop (p+1) body))]:=by rw[qK,qT];rfl
     have hta:List.take i (qO ks)=qO ks:=by
      have h:=flat_all1 ks
      rw[hks]at h;exact h
     have htv:List.take i (qO vs)=qO vs:=by
      have h:=flat_all1 vs
      rw[i8]at h;exact h
     rw[hta,htv]
     refine hFx (i+1,p+1+(body[p]'(by omega)).toNat+2,ks++[List.take (body[p]'(by omega)).toNat (List.drop (p+1) body)],vs++[((body[p+1+(body[p]'(by omega)).toNat]'(by omega)).toNat:Int)*256+((body[p+1+((body[p]'(by omega)).toNat+1)]'(by omega)).toNat:Int)],Bx+12,vC (i+1) (c-1),Bx+13+19,vC (i+1) (d-1)) _ _ _ ?_ ?_ ?_ (by simp only[go_sem,push_cast,qB,qA]) (by simp only[go_sem,push_cast,qB,qA]<;>exact cT)
     ·show(body[0]'(by omega)).toNat-(i+1)<(body[0]'(by omega)).toNat-i
      omega
     ·refine⟨hlt,?_,show Bd+3<=Bx+12 by omega,kG _ _,show Bd+3<=Bx+13+19 by omega,kG _ _,show Bx+12<Bx+13+19 by omega,by simp[i8]⟩
      rw[hst]
      have g1:body.getD (p+1+(body[p]'(by omega)).toNat) 0=body[p+1+(body[p]'(by omega)).toNat]'(by omega):=by rw[xF,e2];rfl
      have g2:body.getD (p+2+(body[p]'(by omega)).toNat) 0=body[p+1+((body[p]'(by omega)).toNat+1)]'(by omega):=by rw[show p+2+(body[p]'(by omega)).toNat=p+1+((body[p]'(by omega)).toNat+1) by omega,xF,e3];rfl
      rw[g1,g2]
     ·simp only[xD,xJ,xZ,Nat.zero_add,hstf,hvs,hks,i8]
      exact le_step2 (hX _ (by omega) _ _) (hX _ (by omega) _ _) (hX _ (by omega) _ _) (hX _ (by omega) _ _) (by omega) (by omega) (by omega) (by omega)
  ·have hi:i=(body[0]'(by omega)).toNat:=by omega
   rw[hi]at i2
   have hple:p<=body.length:=prs_le (by omega) i2
   have e:prsN true body=prsE true body p ks vs:=by rw[hN,i2]
   have e5:prsN true body=(⟨true,ks,vs,[]⟩,decide (p=body.length)&&decide (kS ⟨true,ks,vs,[]⟩=0)):=by rw[e];rfl
   have hki:=prs_key i2
   have hlk:=(prs_len i2).1
   refine R e0 ?_
   refine cv (by kernel_rfl) ?_
   have hsm:sm (⟨true,ks,vs,[]⟩:GNode):=⟨trivial,⟨show ks.length<=281474976710656 by omega,fun k hk=>⟨by have:=hki k hk;omega,fun _ _=>trivial⟩⟩,(yU _).2 (show vs.length<=281474976710656 by omega),⟨by simp,by simp⟩⟩
   by_cases hq1:(p:Int)=(body.length:Int)
   ·refine R (cj3 hq1 hsm e5) ?_
    refine⟨⟨?_,?_⟩,?_⟩
    ·refine qV (n:=m) (xs:=ks) ?_ (hb.fresh _ (by omega)) rfl rfl
     rw[qD _ _ (by omega),qD _ _ (by omega),qJ]
    ·refine qV (n:=q) (xs:=vs) ?_ (hb.fresh _ (by omega)) rfl rfl
     rw[qD _ _ (by omega),qJ]
    ·rw[show decide (p=body.length)=true from decide_eq_true (by omega)]
     simp
   ·refine R (cj3 hq1 hsm e5) ?_
    refine⟨⟨?_,?_⟩,?_⟩
    ·refine qV (n:=m) (xs:=ks) ?_ (hb.fresh _ (by omega)) rfl rfl
     rw[qD _ _ (by omega),qD _ _ (by omega),qJ]
    ·refine qV (n:=q) (xs:=vs) ?_ (hb.fresh _ (by omega)) rfl rfl
     rw[qD _ _ (by omega),qJ]
    ·rw[show decide (p=body.length)=false from decide_eq_false (by omega)];rfl
def W207:qH:=fun g' H Bd K=>∃(kind:Int) (body:List UInt8),g'=[iv kind,lst body]/\((body.length<=91)/\K (.agg (enc (rdN kind body)).toArray) H Bd)
@[go_sem ↓] theorem W207_eq (a:Int) (b:List UInt8):W207 [iv a,lst b] H Bd K=((b.length<=91)/\K (.agg (enc (rdN a b)).toArray) H Bd):=ex2 a b rfl
theorem W207_ok:OK 207 W207:=by
 rintro _ H Bd K ⟨kind,body,rfl,hpre,hK⟩
 refine fnp pok (uA.uB W242_ok) [(1,[],[],(.k 3 (.grp true 9 11 2 [10,11] 12 none (.k 2 .nil) .nil)))] hK func207 ntmps207 call207 [.cell 4 292] fun hb ha=>?_
 by_cases hk:kind≠1/\kind≠2
 ·have e:rdN kind body=⟨3,⟨false,[],[],[]⟩⟩:=by unfold rdN;rw[if_pos hk];rfl
  obtain⟨hk1,hk2⟩:=hk
  exact R (cj4 hpre hk1 hk2 e) trivial
 ·by_cases hq:(prsN (decide (kind=1)) body).2=true
  ·have e:rdN kind body=⟨0,(prsN (decide (kind=1)) body).1⟩:=by unfold rdN;rw[if_neg hk,if_pos hq]
   by_cases hk1:kind=1
   ·subst hk1
    rw[show decide ((1:Int)=1)=true from rfl]at hq e
    exact R (cj3 hpre hq e) trivial
   ·have hk2:kind=2:=Decidable.not_not.1 fun h=>hk ⟨hk1,h⟩
    subst hk2
    have hdec:decide ((2:Int)=1)=false:=rfl
    rw[hdec]at hq e
    exact R (cj4 hpre hdec hq e) trivial
  ·have e:rdN kind body=⟨5,⟨false,[],[],[]⟩⟩:=by unfold rdN;rw[if_neg hk,if_neg hq];rfl
   by_cases hk1:kind=1
   ·subst hk1
    rw[show decide ((1:Int)=1)=true from rfl]at hq
    exact R (cj3 hpre hq e) trivial
   ·have hk2:kind=2:=Decidable.not_not.1 fun h=>hk ⟨hk1,h⟩
    subst hk2
    have hdec:decide ((2:Int)=1)=false:=rfl
    rw[hdec]at hq
    exact R (cj4 hpre hdec hq e) trivial
@[go_sem ↓] def BV162 (d:GDisk) (id:Int):Tq:=fun H Bd K=>((sm d/\DiskOK d/\R64 id)/\K (.tuple #[.agg (enc ((jY d id).1)).toArray,iv ((jY d id).2)]) H Bd)
def V162:qH:=fun g' H Bd K=>∃(d:GDisk) (id:Int),g'=[.agg (enc d).toArray,iv id]/\BV162 d id H Bd K
@[go_sem ↓] theorem V162_eq (a:List (List UInt8)) (b:List GPut) (c:Int):V162 [.agg #[lst a,lst b],iv c] H Bd K=BV162 (GDisk.mk a b) c H Bd K:=ex2 (GDisk.mk a b) c rfl
def W162:qH:=fun g' H Bd K=>∃(pd vid:Value),g'=[pd,vid]/\Yld (qI H 2 pd) fun cd=>qQ V162 [.agg cd.toArray,vid] H Bd K
@[go_sem ↓] theorem W162_eq (a b:Value):W162 [a,b] H Bd K=(Yld (qI H 2 a) fun cd=>qQ V162 (idS [.agg cd.toArray,b]) H Bd K):=px2 a b
theorem W162_ok:OK 162 W162:=by
 rintro _ H Bd K ⟨pd,vid,rfl,cd,ed,h⟩
 obtain⟨d,id,e,hpre,hK⟩:=h
 simp only[xG,and_true]at e
 obtain⟨Ed,rfl⟩:=e
 obtain rfl:=qR Ed
 refine yF pok ((((uA.uB W81_ok).uB W126_ok).uB W125_ok).uB W207_ok) [(7,[0,1,2,3,4,5],[z0 0,z0 1,z0 2,z0 3,⟨4,[],[3]⟩,z0 5], .nil)] _ hK func162 rfl (rs:=[.cell 4 248, .tmp 5]) rfl ntmps162 (by simp) call162 (by kernel_rfl) (fun ha hb=>tup_nb ⟨agg_nb _ _, .int _ _,trivial⟩) (fun hb ha=>?_)
 have Pd:=qM ed (NB.vpok (ha pd (by simp)))
 simp only[jR]at Pd
 have Zd:=Pd.all 2 rfl
 have Yd:=jE (ha pd (by simp))
 obtain⟨h1,h2,h3⟩:=hpre
 have hl:=h2.len
 by_cases hr:2<=id/\id<=(d.sectors.length:Int)-1
 case neg=>
  have e:jY d id=(⟨false,[],[],[]⟩,3):=by unfold jY;rw[if_pos hr];rfl
  have hlen:=h2.len
  refine R (cj5 Zd h1 h3 hr e) ?_
  all_goals first|done|trivial|((try simp only[Cnp,Imp]);grind)
 obtain⟨hr1,hr2⟩:=hr
 have hlen:=readD_len h2 (n:=id) (by omega) (by omega)
 have hlt:id<d.sectors.length:=by omega
 have hge0:0<=id:=by omega
 have h63:id<=63:=by omega
 have hr3:¬ ¬(2<=id/\id<=(d.sectors.length:Int)-1):=fun h=>h ⟨hr1,hr2⟩
 by_cases hc:(qY (yH d id) id).2=0
 case neg=>
  have e:jY d id=(⟨false,[],[],[]⟩,(qY (yH d id) id).2):=by unfold jY;rw[if_neg hr3,if_pos hc];rfl
  exact R (cj12 Zd h1 h2 h3 hr1 hr2 hlen hlt hge0 h63 hc e) trivial
 have e:jY d id=((rdN (qY (yH d id) id).1.kind (qY (yH d id) id).1.body).node,(rdN (qY (yH d id) id).1.kind (qY (yH d id) id).1.body).code):=by unfold jY;rw[if_neg hr3,if_neg (by simpa using hc)]
 have hbl:=(pageF_ok (readPg_ok hc).1).2.2
 exact RA (cj13 Zd h1 h2 h3 hr1 hr2 hlen hlt hge0 h63 hc e hbl) trivial
def W163c:qH:=fun g' H Bd K=>∃(key:List UInt8) (low:List UInt8) (high:List UInt8),g'=[lst key,lst low,lst high]/\((sm key/\sm low/\sm high)/\K (.bool (inB key low high)) H Bd)
@[go_sem ↓] theorem W163c_eq (a b c:List UInt8) (d:AH) (e:Nat) (f:Value->AH->Nat->Prop):W163c [lst a,lst b,lst c] d e f=((sm a/\sm b/\sm c)/\f (.bool (inB a b c)) d e):=ex3 a b c rfl
theorem W163c_ok:OK 163 W163c:=by
 rintro _ H Bd K ⟨key,low,high,rfl,hpre,hK⟩
 refine fnp pok (uA.uB W118_ok) [(1,[],[],(.k 4 (.grp false 10 14 4 [11,12,13,14] 15 none (.k 4 .nil) (.k 1 (.grp true 16 25 9 [17,18,19,20,21,22,23,24,25] 26 none (.k 4 (.grp false 20 24 4 [21,22,23,24] 25 (some (16,true)) (.k 4 .nil) .nil)) (.k 1 .nil))))))] hK func163 ntmps163 call163 [.tmp 6] fun hb ha=>?_
 obtain⟨h1,h2,h3⟩:=hpre
 have e:inB key low high=((decide (low.length=0)||decide (Lib.compareBytes low key<=0))&&(decide (high.length=0)||decide (Lib.compareBytes key high<0))):=rfl
 rw[e]
 by_cases g1:low.length=0 <;>by_cases g2:Lib.compareBytes low key<=0 <;>by_cases g3:high.length=0 <;>by_cases g4:Lib.compareBytes key high<0
 all_goals (simp (maxSteps:=2000000) (disch:=first|exact dq|fail) only[go_sem,push_cast,qB,qA,qL hb,qE hb,h1,h2,h3,g1,g2,g3,g4])
 all_goals (first|done|trivial|simp[g1,g2,g3,g4])
def W163d:qH:=NilV 1 1 W163c
@[go_sem ↓] theorem W163d_eq (a b c:Value) (d:AH) (e:Nat) (f:Value->AH->Nat->Prop):W163d [a,b,c] d e f=qQ W163c (idS [a,nilV 1 b,c]) d e f:=(rfl)
theorem W163d_ok:OK 163 W163d:=NilV_ok 1 1 W163c_ok
def W163:qH:=NilV 2 1 W163d
@[go_sem ↓] theorem W163_eq (a b c:Value):W163 [a,b,c] H Bd K=qQ W163d (idS [a,b,nilV 1 c]) H Bd K:=(rfl)
theorem W163_ok:OK 163 W163:=NilV_ok 2 1 W163d_ok
def W164:qH:=fun g' H Bd K=>∃(l:List Int) (n:Int),g'=[lst l,iv n]/\((l.length<=1000000)/\K (lst (kV l n)) H Bd)
@[go_sem ↓] theorem W164_eq (a:List Int) (b:Int):W164 [lst a,iv b] H Bd K=((a.length<=1000000)/\K (lst (kV a b)) H Bd):=ex2 a b rfl
theorem W164_ok:OK 164 W164:=by
 rintro _ H Bd K ⟨l,n,rfl,hpre,hK⟩
 refine fnp pok uA [(6,[],[],(.k 3 (.grp true 17 23 6 [18,19,20,21,22,23] 24 none (.k 6 .nil) .nil)))] hK func164 ntmps164 call164 [.tmp 4] fun hb ha=>?_
 refine jF pok fun cv=>?_
 refine R0 ?_
 refine tr_st (X:=Nat×Nat×Nat) (fun x=>x.1<=l.length/\Bd<=x.2.1/\0<x.2.2) (fun x=>l.length-x.1) (fun x=>[(0,lst l),(1,iv n),(5,sv (x.2.1) 1 (kQ l n x.1).1.length x.2.2),(6, .bool (kQ l n x.1).2),(7,iv x.1)]) (fun x=>upd H x.2.1 (some ⟨qO (kQ l n x.1).1,true⟩)) (0,Bd,1) (⟨xT _,xC _,Nat.zero_lt_one⟩) (by simp only[go_sem,push_cast,qB,qA,kQ,qZ]<;>exact cT) (by first|exact Le.refl _|simp (disch:=first|assumption|omega) only[go_sem,push_cast,qB,qA,qU,jP,kQ,qZ]) ?_
 intro x Bx hIx hBx hbx Fx hFx
 refine cv (by kernel_rfl) ?_
 obtain⟨i,m,c⟩:=x
 obtain⟨i1,i2,i3⟩:=hIx
 simp only at i1 i2 i3 hbx
 have hmx:=hb_lt hbx
 have hz:(c=0)=False:=eq_false (by omega)
 have hpl:=putS_len l n i
 have hta:List.take (kQ l n i).1.length (qO (kQ l n i).1)=qO (kQ l n i).1:=flat_all1 _
 rcases xM i l.length with hlt|hge
 ·have e1:l[i]? =some l[i]:=xA hlt
  have g1:l.getD i 0=l[i]:=by rw[xF,e1];rfl
  have hfl:(qO (kQ l n i).1).length=(kQ l n i).1.length:=by rw[jJ];exact Nat.mul_one _
  by_cases hd:(kQ l n i).2=false/\n<=l[i]
  ·obtain⟨hd1,hd2⟩:=hd
   by_cases hq:l[i]=n
   ·have hst:kQ l n (i+1)=((kQ l n i).1++[n],true):=by rw[kQ,g1,if_pos ⟨hd1,hd2⟩,if_pos hq,wL,hq]
    have hstf:qO (kQ l n (i+1)).1=qO (kQ l n i).1++[iv n]:=by rw[hst,qK,qT];rfl
    have hstl:(kQ l n (i+1)).1.length=(kQ l n i).1.length+1:=by rw[hst,xD];rfl
    have hstb:(kQ l n (i+1)).2=true:=by rw[hst]
    refine RA (cj6 e1 hz hd1 hd2 hq hta) ?_
    refine hFx (i+1,Bx+1,vC ((kQ l n i).1.length+1) (c-1)) _ _ _ ?_ ?_ (by first|exact Le.refl _|simp (disch:=first|assumption|omega|(simp (disch:=omega) only[qG,qE hb];done)) only[go_sem,push_cast,qB,qA,qU,jP,qG,qE hb,hstf,hstl,hstb]) (by simp only[go_sem,push_cast,qB,qA]) (by simp only[go_sem,push_cast,qB,qA,hstf,hstl,hstb]<;>exact cT)
    ·show l.length-(i+1)<l.length-i
     omega
    ·exact⟨hlt,show Bd<=Bx+1 by omega,kG _ _⟩
   ·have hst:kQ l n (i+1)=((kQ l n i).1++[n]++[l[i]],true):=by rw[kQ,g1,if_pos ⟨hd1,hd2⟩,if_neg hq]
    have hstf:qO (kQ l n (i+1)).1=qO (kQ l n i).1++[iv n]++[iv l[i]]:=by rw[hst,qK,qK,qT,qT];rfl
    have hstl:(kQ l n (i+1)).1.length=(kQ l n i).1.length+2:=by rw[hst,xD,xD];rfl
    have hstb:(kQ l n (i+1)).2=true:=by rw[hst]
    have hx2:(qO (kQ l n i).1++[Value.int .i64 n]).length=(kQ l n i).1.length+1:=by rw[xD,hfl];rfl
    have hx1:List.take ((kQ l n i).1.length+1) (qO (kQ l n i).1++[Value.int .i64 n])=qO (kQ l n i).1++[Value.int .i64 n]:=xO (by rw[hx2];exact xC _)
    refine RA (cj8 e1 hz hd1 hd2 hq hta hx1 hx2) ?_
    refine hFx (i+1,Bx+3,vC ((kQ l n i).1.length+2) (vC ((kQ l n i).1.length+1) (c-1)-1)) _ _ _ ?_ ?_ (by first|exact Le.refl _|simp (disch:=first|assumption|omega|(simp (disch:=omega) only[qG,qE hb];done)) only[go_sem,push_cast,qB,qA,qU,jP,qG,qE hb,hstf,hstl,hstb]) (by simp only[go_sem,push_cast,qB,qA]) (by simp only[go_sem,push_cast,qB,qA,hstf,hstl,hstb]<;>exact cT)
    ·show l.length-(i+1)<l.length-i
     omega
    ·exact⟨hlt,show Bd<=Bx+3 by omega,kG _ _⟩
  ·have hst:kQ l n (i+1)=((kQ l n i).1++[l[i]],(kQ l n i).2):=by rw[kQ,g1,if_neg hd]
   have hstf:qO (kQ l n (i+1)).1=qO (kQ l n i).1++[iv l[i]]:=by rw[hst,qK,qT];rfl
   have hstl:(kQ l n (i+1)).1.length=(kQ l n i).1.length+1:=by rw[hst,xD];rfl
   by_cases hb2:(kQ l n i).2=true
   ·have hstb:(kQ l n (i+1)).2=true:=by rw[hst];exact hb2
    refine RA (cj4 e1 hz hb2 hta) ?_
    refine hFx (i+1,Bx+1,vC ((kQ l n i).1.length+1) (c-1)) _ _ _ ?_ ?_ (by first|exact Le.refl _|simp (disch:=first|assumption|omega|(simp (disch:=omega) only[qG,qE hb];done)) only[go_sem,push_cast,qB,qA,qU,jP,qG,qE hb,hstf,hstl,hstb]) (by simp only[go_sem,push_cast,qB,qA]) (by simp only[go_sem,push_cast,qB,qA,hstf,hstl,hstb]<;>exact cT)
    ·show l.length-(i+1)<l.length-i
     omega
    ·exact⟨hlt,show Bd<=Bx+1 by omega,kG _ _⟩
   ·have hb3:(kQ l n i).2=false:=by simpa using hb2
    have hn:¬n<=l[i]:=fun h=>hd ⟨hb3,h⟩
    have hstb:(kQ l n (i+1)).2=false:=by rw[hst];exact hb3
    refine RA (cj5 e1 hz hb3 hn hta) ?_
    refine hFx (i+1,Bx+1,vC ((kQ l n i).1.length+1) (c-1)) _ _ _ ?_ ?_ (by first|exact Le.refl _|simp (disch:=first|assumption|omega|(simp (disch:=omega) only[qG,qE hb];done)) only[go_sem,push_cast,qB,qA,qU,jP,qG,qE hb,hstf,hstl,hstb]) (by simp only[go_sem,push_cast,qB,qA]) (by simp only[go_sem,push_cast,qB,qA,hstf,hstl,hstb]<;>exact cT)
    ·show l.length-(i+1)<l.length-i
     omega
    ·exact⟨hlt,show Bd<=Bx+1 by omega,kG _ _⟩
 ·obtain rfl:i=l.length:=by omega
  refine R0 ?_
  by_cases hb2:(kQ l n l.length).2=true
  ·have e:kV l n=(kQ l n l.length).1:=by unfold kV;rw[if_pos hb2]
   refine Tr.fin2 5 (by simp (disch:=first|assumption|omega) only[qG,qE hb]) (by simp only[go_sem,push_cast,qB,qA];rfl) rfl ?_
   refine cv (by kernel_rfl) ?_
   exact R (cj hb2 e) trivial
  ·have hb3:(kQ l n l.length).2=false:=by simpa using hb2
   have e:kV l n=(kQ l n l.length).1++[n]:=by unfold kV;rw[if_neg hb2]
   have hend:qO (kQ l n l.length).1++[iv n]=qO (kV l n):=by rw[e,qK,qT];rfl
   refine cv (by kernel_rfl) ?_
   refine RA (cj4 hb3 hz hta hend) ?_
   refine qV (qJ _ _ _) ?_ rfl ?_
   ·exact hb.fresh _ (by omega)
   ·rw[e,xD];rfl
@[go_sem ↓] def BW113 (pd:Value) (id:Int) (low:List UInt8) (high:List UInt8) (depth:Int) (n:Nat):Tq:=fun H Bd K=>(Yld (H n) fun b=>Yld (kF wkB b) fun x=>Yld (H (x.2.1)) fun b0=>Yld (kF (flB (α:=GRow)) b0) fun rows=>Yld (qI (upd (upd H n none) (x.2.1) none) 2 pd) fun cd=>Yld (dataOf (α:=GDisk) cd) fun d=>(x.2.2.1=(rows).length/\x.2.2.2.1=x.2.2.1+1/\n≠x.2.1/\(sm d/\DiskOK d/\R64 id/\1<=depth/\depth<=5/\low.length<=16/\high.length<=16/\x.1.length+6^(6-depth).toNat<=100000/\rows.length+4*6^(6-depth).toNat<=400000))/\K (iv ((vis kV d (6-depth).toNat id low high depth ⟨x.1,rows,x.2.2.2.2⟩)).1) (upd (upd (upd (upd H n none) (x.2.1) none) n (some ⟨[lst ((vis kV d (6-depth).toNat id low high depth ⟨x.1,rows,x.2.2.2.2⟩)).2.pages,sv Bd 2 (((vis kV d (6-depth).toNat id low high depth ⟨x.1,rows,x.2.2.2.2⟩)).2.rows).length ((((vis kV d (6-depth).toNat id low high depth ⟨x.1,rows,x.2.2.2.2⟩)).2.rows).length+1),iv ((vis kV d (6-depth).toNat id low high depth ⟨x.1,rows,x.2.2.2.2⟩)).2.deep],true⟩)) Bd (some ⟨qO (((vis kV d (6-depth).toNat id low high depth ⟨x.1,rows,x.2.2.2.2⟩)).2.rows),true⟩)) (Bd+1))
def W113:qH:=fun g' H Bd K=>∃(pd:Value) (id:Int) (low:List UInt8) (high:List UInt8) (depth:Int) (n:Nat),g'=[pd,iv id,lst low,lst high,iv depth,pt n]/\BW113 pd id low high depth n H Bd K
@[go_sem ↓] theorem W113_eq (a:Value) (b:Int) (c d:List UInt8) (e:Int) (f:Nat):W113 [a,iv b,lst c,lst d,iv e,pt f] H Bd K=BW113 a b c d e f H Bd K:=by
 refine propext ⟨fun h=>?_,fun h=>⟨_,_,_,_,_,_,rfl,h⟩⟩
 obtain⟨pd',id',low',high',depth',n',e,h⟩:=h
 simp only[xG,Value.agg.injEq,jD,xK,Value.bool.injEq,Value.string.injEq,Value.pointer.injEq,xE,Addr.mk.injEq,lst_inj,true_and,and_true]at e
 obtain⟨rfl,rfl,rfl,rfl,rfl,rfl⟩:=e
 exact h
def R113(N:Nat):qH:=fun g' H Bd K=>∃(pd:Value) (id:Int) (low:List UInt8) (high:List UInt8) (depth:Int) (n:Nat),g'=[pd,iv id,lst low,lst high,iv depth,pt n]/\Yld (H n) fun b=>Yld (kF wkB b) fun x=>Yld (H (x.2.1)) fun b0=>Yld (kF (flB (α:=GRow)) b0) fun rows=>Yld (qI (upd (upd H n none) (x.2.1) none) 2 pd) fun cd=>Yld (dataOf (α:=GDisk) cd) fun d=>(x.2.2.1=(rows).length/\x.2.2.2.1=x.2.2.1+1/\n≠x.2.1/\(sm d/\DiskOK d/\R64 id/\1<=depth/\depth<=5/\low.length<=16/\high.length<=16/\x.1.length+6^(6-depth).toNat<=100000/\rows.length+4*6^(6-depth).toNat<=400000)/\(6-depth).toNat<N)/\K (iv ((vis kV d (6-depth).toNat id low high depth ⟨x.1,rows,x.2.2.2.2⟩)).1) (upd (upd (upd (upd H n none) (x.2.1) none) n (some ⟨[lst ((vis kV d (6-depth).toNat id low high depth ⟨x.1,rows,x.2.2.2.2⟩)).2.pages,sv Bd 2 (((vis kV d (6-depth).toNat id low high depth ⟨x.1,rows,x.2.2.2.2⟩)).2.rows).length ((((vis kV d (6-depth).toNat id low high depth ⟨x.1,rows,x.2.2.2.2⟩)).2.rows).length+1),iv ((vis kV d (6-depth).toNat id low high depth ⟨x.1,rows,x.2.2.2.2⟩)).2.deep],true⟩)) Bd (some ⟨qO (((vis kV d (6-depth).toNat id low high depth ⟨x.1,rows,x.2.2.2.2⟩)).2.rows),true⟩)) (Bd+1)
@[go_sem ↓] theorem R113_eq (a:Nat) (c:Value) (e:Int) (f g:List UInt8) (h:Int) (i:Nat):R113 a [c,iv e,lst f,lst g,iv h,pt i] H Bd K=(Yld (H i) fun b=>Yld (kF wkB b) fun x=>Yld (H (x.2.1)) fun b0=>Yld (kF (flB (α:=GRow)) b0) fun rows=>Yld (qI (upd (upd H i none) (x.2.1) none) 2 c) fun cd=>Yld (dataOf (α:=GDisk) cd) fun d=>(x.2.2.1=(rows).length/\x.2.2.2.1=x.2.2.1+1/\i≠x.2.1/\(sm d/\DiskOK d/\R64 e/\1<=h/\h<=5/\f.length<=16/\g.length<=16/\x.1.length+6^(6-h).toNat<=100000/\rows.length+4*6^(6-h).toNat<=400000)/\(6-h).toNat<a)/\K (iv ((vis kV d (6-h).toNat e f g h ⟨x.1,rows,x.2.2.2.2⟩)).1) (upd (upd (upd (upd H i none) (x.2.1) none) i (some ⟨[lst ((vis kV d (6-h).toNat e f g h ⟨x.1,rows,x.2.2.2.2⟩)).2.pages,sv Bd 2 (((vis kV d (6-h).toNat e f g h ⟨x.1,rows,x.2.2.2.2⟩)).2.rows).length ((((vis kV d (6-h).toNat e f g h ⟨x.1,rows,x.2.2.2.2⟩)).2.rows).length+1),iv ((vis kV d (6-h).toNat e f g h ⟨x.1,rows,x.2.2.2.2⟩)).2.deep],true⟩)) Bd (some ⟨qO (((vis kV d (6-h).toNat e f g h ⟨x.1,rows,x.2.2.2.2⟩)).2.rows),true⟩)) (Bd+1)):=by
 refine propext ⟨fun h=>?_,fun h=>⟨_,_,_,_,_,_,rfl,h⟩⟩
 obtain⟨pd',id',low',high',depth',n',e,h⟩:=h
 simp only[xG,Value.agg.injEq,jD,xK,Value.bool.injEq,Value.string.injEq,Value.pointer.injEq,xE,Addr.mk.injEq,lst_inj,true_and,and_true]at e
 obtain⟨rfl,rfl,rfl,rfl,rfl,rfl⟩:=e
 exact h
theorem R113_step(N:Nat)(ih:OK 113 (R113 N)):OK 113 (R113 (N+1)):=by
 rintro _ H Bd K ⟨pd,id,low,high,depth,n,rfl,b,hb0,x,hx,b1,hb1,rows,hv0,cd,ed,d,gd,⟨hl0,hc0,hd0,hpre,hmeas⟩,hK⟩
 obtain⟨pages,m,l,c,deep⟩:=x
 obtain rfl:=kX hx
 obtain rfl:=kX hv0
 obtain rfl:=dataOf_out gd
 simp only[wkB,flB]at hb0 hb1 hl0 hc0 hd0 hK hpre ed
 subst hl0;subst hc0
 have hnB:HB H Bd->n<Bd/\m<Bd:=fun h=>⟨zI h hb0,zI h hb1⟩
 obtain⟨G,rfl,⟨gn,gm0⟩,gE,gH⟩:=out2 hb0 hb1 hd0
 rw[gE]at hK ed
 refine fn_can pok (((((uA.uB W124_ok).uB W162_ok).uB W163_ok).uB W164_ok).add 113 (R113 N) ih) [(6,[],[],(.k 3 (.grp false 38 46 8 [39,40,41,42,43,44,45,46] 47 none (.k 3 (.grp true 41 45 4 [42,43,44,45] 46 (some (38,false)) (.k 4 .nil) .nil)) (.k 1 (.grp false 48 52 4 [49,50,51,52] 53 none (.k 4 .nil) .nil))))),(22,[0,1,2,3,4,5,6,7,8,9,10,11,12,13,14,15,16,17,18,19,20],[z0 0,z0 1,z0 2,z0 3,z0 4,z0 5,z0 6,z0 7,z0 8,z0 9,z0 10,z0 11,z0 12,z0 13,z0 14,z0 15,z0 16,⟨17,[16],[]⟩,z0 18,z0 19,⟨20,[16],[]⟩], .nil)] G [.m n 1] (iv ((vis kV d (6-depth).toNat id low high depth ⟨pages,rows,deep⟩)).1) [(Bd,⟨qO (((vis kV d (6-depth).toNat id low high depth ⟨pages,rows,deep⟩)).2.rows),true⟩),(n,⟨[lst ((vis kV d (6-depth).toNat id low high depth ⟨pages,rows,deep⟩)).2.pages,sv Bd 2 (((vis kV d (6-depth).toNat id low high depth ⟨pages,rows,deep⟩)).2.rows).length ((((vis kV d (6-depth).toNat id low high depth ⟨pages,rows,deep⟩)).2.rows).length+1),iv ((vis kV d (6-depth).toNat id low high depth ⟨pages,rows,deep⟩)).2.deep],true⟩)] hK (by simp) (gH Bd) func113 rfl (rs:=[.tmp 12]) rfl ntmps113 (by simp) call113 (by kernel_rfl) (fun hh hb ha=>?_)
 obtain⟨hn,hn0⟩:=hnB hh
 have Yd:=jE (ha pd (by simp))
 clear hK gE gH hnB hb0 hx hb1 hv0 gd
 have Pd:=qM ed (NB.vpok (ha pd (by simp)))
 simp only[jR]at Pd
 have Zd:=Pd.all 2 rfl
 refine jF pok fun cv=>?_
 obtain⟨h1,h2,h3,h4,h5,h6,h7,h8,h9⟩:=hpre
 obtain⟨f,hf⟩:∃f,(6-depth).toNat=f+1:=⟨(5-depth).toNat,by omega⟩
 rw[hf]at h8 h9 ⊢
 have h6p:6^(f+1)=6*6^f:=by rw[Nat.pow_succ];omega
 have hsp:sm pages:=(yU _).2 (by omega)
 have hsl:sm low:=⟨by omega,fun _ _=>trivial⟩
 have hsh:sm high:=⟨by omega,fun _ _=>trivial⟩
 by_cases q1:hasI pages id=true
 ·have e:vis kV d (f+1) id low high depth ⟨pages,rows,deep⟩=(8,⟨pages,rows,deep⟩):=vis_has q1
  rw[e]
  exact S (cj3 Zd q1 hsp) trivial
 by_cases q2:(jY d id).2=0
 case neg=>
  have e:vis kV d (f+1) id low high depth ⟨pages,rows,deep⟩=((jY d id).2,⟨pages,rows,deep⟩):=vis_code q1 q2
  rw[e]
  exact S (cj7 Zd q1 hsp h1 h2 h3 q2) trivial
 have hN:=node_ok (nodeD_ok q2)
 generalize hnd:(jY d id).1=nd at*
 have hkl:=hN.kl
 have hkk:∀k∈nd.keys,sm k:=fun k hk=>⟨by have:=(hN.key k hk).2;omega,fun _ _=>trivial⟩
 by_cases b1:4<depth\/(1<depth/\nd.keys.length<2)\/nd.keys.length<1
 ·have hbad:badN nd depth low high=true:=by unfold badN;rcases b1 with h|⟨h,h'⟩|h <;>simp[*]
  have e:vis kV d (f+1) id low high depth ⟨pages,rows,deep⟩=(8,⟨pages,rows,deep⟩):=vis_bad q1 q2 (by rw[hnd];exact hbad)
  rw[e]
  rcases b1 with h|⟨h,h'⟩|h
  ·exact S (cj9 Zd q1 hsp h1 h2 h3 q2 hnd h) trivial
  ·by_cases h4':4<depth
   ·exact S (cj9 Zd q1 hsp h1 h2 h3 q2 hnd h4') trivial
   ·exact S (cj11 Zd q1 hsp h1 h2 h3 q2 hnd h4' h h') trivial
  ·have h0:nd.keys.length=0:=by omega
   by_cases h4':4<depth
   ·exact S (cj9 Zd q1 hsp h1 h2 h3 q2 hnd h4') trivial
   ·by_cases h5':1<depth
    ·exact S (cj11 Zd q1 hsp h1 h2 h3 q2 hnd h4' h5' h0) trivial
    ·exact S (cj11 Zd q1 hsp h1 h2 h3 q2 hnd h4' h5' h0) trivial
 obtain⟨b2,b3,b4⟩:¬4<depth/\¬(1<depth/\nd.keys.length<2)/\¬nd.keys.length<1:=⟨fun h=>b1 (.inl h),fun h=>b1 (.inr (.inl h)),fun h=>b1 (.inr (.inr h))⟩
 have b5:1<depth->¬nd.keys.length<2:=fun h h'=>b3 ⟨h,h'⟩
 refine S (cj10 Zd q1 hsp h1 h2 h3 q2 hnd b2 b4) ?_
 intro _
 refine jA (fun i=>∀j,j<i->∀x,nd.keys[j]? =some x->(!inB x low high)=false) (nd.keys.length) (fun i=>[(0,pd),(1,iv id),(2,lst low),(3,lst high),(4,iv depth),(5,pt n),(13,pt Bd),(15,iv i)]) (by simp) (by simp only[go_sem,push_cast,qB,qA]) ?_
 intro i Bi hIi hii hBi
 refine cv (by kernel_rfl) ?_
 rcases xM i (nd.keys.length)with hlti|hgei
 ·have e1:nd.keys[i]? =some nd.keys[i]:=xA hlti
  have hk1:=hkk _ (xH hlti)
  by_cases hq:inB nd.keys[i] low high=true
  ·refine S (cj6 Zd e1 hk1 hsl hsh hq) ?_
   intro j hj x hx
   by_cases e:j=i
   ·subst e;rw[e1]at hx;cases hx;simp[hq]
   ·exact hIi j (by omega) x hx
  ·have hbad:badN nd depth low high=true:=by
    unfold badN
    rw[any_hit hlti (by simpa using hq)];simp
   have e:vis kV d (f+1) id low high depth ⟨pages,rows,deep⟩=(8,⟨pages,rows,deep⟩):=vis_bad q1 q2 (by rw[hnd];exact hbad)
   rw[e]
   exact S (cj6 Zd e1 hk1 hsl hsh hq) trivial
 have hgood:¬badN nd depth low high=true:=by
  unfold badN
  rw[vL fun j hj x hx=>hIi j (by omega) x hx]
  simp only[Bool.or_false,Bool.or_eq_true,Bool.and_eq_true,decide_eq_true_eq]
  rintro((h|h)|h)
  ·exact b2 h
  ·exact b3 h
  ·exact b4 h
 refine S Zd ?_
 refine cv (by kernel_rfl) ?_
 by_cases hlf:nd.leaf=true
 ·have hv:=hN.vals hlf
  by_cases hdp:deep=0\/deep=depth
  ·have e:vis kV d (f+1) id low high depth ⟨pages,rows,deep⟩=(0,⟨kV pages id,rows++rowsN nd nd.keys.length,depth⟩):=by
    have:=vis_leaf (ins:=kV) (f:=f) (low:=low) (high:=high) (w:=⟨pages,rows,deep⟩) q1 q2 (by rw[hnd];exact hgood) (by rw[hnd];exact hlf) hdp
    rw[hnd]at this;exact this
   rw[e]
   have hdn:deep≠0->deep=depth:=fun h=>hdp.resolve_left h
   by_cases hd0':deep=0
   case' pos=>have hd9:True:=trivial
   case' neg=>have hd9:=hdn hd0'
   all_goals
    refine S (cj4 Zd hlf hd0' hd9) ?_
    refine yM (X:=Nat) hb (by omega) 1 [.m n 1] rfl (fun x=>x<=nd.keys.length) (fun x=>nd.keys.length-x) (fun Nx x=>[(5,pt n),(13,pt Bd),(16,iv x)]) (fun Nx x=>[(n,⟨[lst (kV pages id),sv Nx 2 (rows++rowsN nd x).length ((rows++rowsN nd x).length+1),iv depth],true⟩),(Nx,⟨qO (rows++rowsN nd x),true⟩),(Bd,⟨[.bool nd.leaf,lst nd.keys,lst nd.values,lst nd.kids],true⟩)]) 0 (xT _) (fun Nx hNx=>(by simp (disch:=first|assumption|omega|(simp (disch:=omega) only[qG,qE hb];done)|(simp (disch:=first|omega|(simp (disch:=omega) only[qG,qE hb];done)) only[go_sem,push_cast,qB,qA,qG,qE hb];done)|fail) only[go_sem,push_cast,qB,qA,qU,qL hb,qG,qE hb,qZ,qK,qT,jS,jH,jB,jT,jK,xL,xD,xJ,xZ,Nat.zero_add,rq_nb (ha pd (by simp)),rowsN_zero,wL]<;>exact cT)) ?_
    intro Nx x hNx hIx hbx Fx hFx
    simp only[mem_cons,jC]at hbx ⊢
    refine cv (by kernel_rfl) ?_
    rcases xM x nd.keys.length with hltx|hgex
    ·have e1:nd.keys[x]? =some nd.keys[x]:=xA hltx
     have e2:nd.values[x]? =some (nd.values[x]'(by omega)):=xA _
     have hrl:(rows++rowsN nd x).length=rows.length+x:=by rw[xD,rowsN_len]
     refine SA (cj3 Zd e1 e2) ?_
     refine hFx (x+1) _ _ _ ?_ ?_ (by simp only[go_sem,push_cast,qB,qA]) ((by simp (disch:=first|assumption|omega|(simp (disch:=omega) only[qG,qE hb];done)|(simp (disch:=first|omega|(simp (disch:=omega) only[qG,qE hb];done)) only[go_sem,push_cast,qB,qA,qG,qE hb];done)|fail) only[go_sem,push_cast,qB,qA,qU,qL hb,qG,qE hb,qZ,qK,qT,jS,jH,jB,jT,jK,xL,xD,xJ,xZ,Nat.zero_add,rq_nb (ha pd (by simp)),rowsN_succ,rowN,getD_some e1,getD_some e2,enc_GRow]<;>exact cT))
     ·show nd.keys.length-(x+1)<nd.keys.length-x
      omega
     ·exact hltx
    ·obtain rfl:x=nd.keys.length:=Nat.le_antisymm hIx hgex
     refine S Zd ?_
     refine cv (by kernel_rfl) ?_
     exact S Zd trivial
  ·have e:vis kV d (f+1) id low high depth ⟨pages,rows,deep⟩=(8,⟨kV pages id,rows,deep⟩):=by
    have:=vis_leafN (ins:=kV) (f:=f) (low:=low) (high:=high) (w:=⟨pages,rows,deep⟩) q1 q2 (by rw[hnd];exact hgood) (by rw[hnd];exact hlf) hdp
    exact this
   rw[e]
   have hd1:¬deep=0:=fun h=>hdp (.inl h)
   have hd2:¬deep=depth:=fun h=>hdp (.inr h)
   exact S (cj4 Zd hlf hd1 hd2) trivial
 have hkd:=hN.kids (by simpa using hlf)
 have hlf2:nd.leaf=false:=by simpa using hlf
 have e:vis kV d (f+1) id low high depth ⟨pages,rows,deep⟩=visK (fun k a b w=>vis kV d f k a b (depth+1) w) nd low high nd.kids.length 0 ⟨kV pages id,rows,deep⟩:=by
  have:=vis_kids (ins:=kV) (f:=f) (low:=low) (high:=high) (w:=⟨pages,rows,deep⟩) q1 q2 (by rw[hnd];exact hgood) (by rw[hnd];exact hlf)
  rw[hnd]at this;exact this
 rw[e]
 have hpl:=putL_len pages id
 have hff:(6-(depth+1)).toNat=f:=by omega
 refine S (cj Zd hlf2) ?_
 refine yM (X:=Nat×GL17Walk) hb (by omega) 1 [.m n 1] rfl (fun x=>x.1<=nd.kids.length/\visK (fun k a b w=>vis kV d f k a b (depth+1) w) nd low high nd.kids.length 0 ⟨kV pages id,rows,deep⟩=visK (fun k a b w=>vis kV d f k a b (depth+1) w) nd low high (nd.kids.length-x.1) x.1 x.2/\Grow (x.1*6^f) ⟨kV pages id,rows,deep⟩ x.2) (fun x=>nd.kids.length-x.1) (fun Nx x=>[(0,pd),(2,lst low),(3,lst high),(4,iv depth),(5,pt n),(13,pt Bd),(17,iv x.1)]) (fun Nx x=>[(n,⟨[lst x.2.pages,sv Nx 2 x.2.rows.length (x.2.rows.length+1),iv x.2.deep],true⟩),(Nx,⟨qO x.2.rows,true⟩),(Bd,⟨[.bool false,lst nd.keys,lst nd.values,lst nd.kids],true⟩)]) (0,⟨kV pages id,rows,deep⟩) (⟨xT _,rfl,Grow.refl _ _⟩) (fun Nx hNx=>(canf Yd)) ?_
 intro Nx x hNx hIx hbx Fx hFx
 simp only[mem_cons,jC]at hbx ⊢
 refine cv (by kernel_rfl) ?_
 obtain⟨i,w⟩:=x
 obtain⟨i1,i2,i3⟩:=hIx
 simp only at i1 i2 i3
 have hp6:0<6^f:=Nat.pow_pos (by omega)
 have g1:=i3.pages
 have g2:=i3.rows
 simp only at g1 g2
 rcases xM i nd.kids.length with hlt|hge
 ·have e1:nd.kids[i]? =some nd.kids[i]:=xA hlt
  have hkr:=hkd.2.2.2 _ (xH hlt)
  have hkR:R64 nd.kids[i]:=⟨by omega,by omega⟩
  have hmul:i*6^f<=4*6^f:=Nat.mul_le_mul_right _ (by omega)
  obtain⟨P,hP⟩:∃P,P=i*6^f:=⟨_,rfl⟩
  rw[<-hP]at g1 g2 hmul
  have hq1:w.pages.length+6^f<=100000:=by omega
  have hq2:w.rows.length+4*6^f<=400000:=by omega
  have hlo:(loB nd low i).length<=16:=by
   unfold loB
   split
   ·rw[getD_some (xA (show i-1<nd.keys.length by omega))]
    exact(hN.key _ (xH _)).2
   ·exact h6
  have hhi:(hiB nd high i).length<=16:=by
   unfold hiB
   split
   ·rename_i hq
    rw[getD_some (xA hq)]
    exact(hN.key _ (xH _)).2
   ·exact h7
  have hst:nd.kids.length-i=(nd.kids.length-(i+1))+1:=by omega
  rw[hst]at i2
  have hgd:nd.kids.getD i 0=nd.kids[i]:=getD_some e1
  have hc1:((i:Int)-1).toNat=i-1:=by omega
  have h3':(0<i/\i<nd.keys.length)\/(0<i/\¬i<nd.keys.length)\/(¬0<i/\i<nd.keys.length):=by omega
  have hsv:= @visK_succ (fun k a b w=>vis kV d f k a b (depth+1) w) nd low high (nd.kids.length-(i+1)) i w
  have hsw:= @visK_stop (fun k a b w=>vis kV d f k a b (depth+1) w) nd low high (nd.kids.length-(i+1)) i w
  simp only[hgd]at hsv hsw
  have hgw:=vis_grow putL_len d f nd.kids[i] (loB nd low i) (hiB nd high i) (depth+1) w
  rcases h3' with⟨hi0,hin⟩|⟨hi0,hin⟩|⟨hi0,hin⟩
  case' inl=>
   have e2:nd.keys[i-1]? =some (nd.keys[i-1]'(by omega)):=xA _
   have hlo2:loB nd low i=nd.keys[i-1]'(by omega):=by unfold loB;rw[if_pos hi0,getD_some e2]
   have e3:nd.keys[i]? =some nd.keys[i]:=xA hin
   have hhi2:hiB nd high i=nd.keys[i]:=by unfold hiB;rw[if_pos hin,getD_some e3]
  case' inr.inl=>
   have e2:nd.keys[i-1]? =some (nd.keys[i-1]'(by omega)):=xA _
   have hlo2:loB nd low i=nd.keys[i-1]'(by omega):=by unfold loB;rw[if_pos hi0,getD_some e2]
   have e3:True:=trivial
   have hhi2:hiB nd high i=high:=if_neg hin
  case' inr.inr=>
   have e2:True:=trivial
   have hlo2:loB nd low i=low:=if_neg hi0
   have e3:nd.keys[i]? =some nd.keys[i]:=xA hin
   have hhi2:hiB nd high i=nd.keys[i]:=by unfold hiB;rw[if_pos hin,getD_some e3]
  all_goals
   rw[hlo2]at hlo;rw[hhi2]at hhi
   by_cases hr:(vis kV d f nd.kids[i] (loB nd low i) (hiB nd high i) (depth+1) w).1=0
   ·rw[hsv (by simpa using hr)]at i2
    have hr2:=hr
    rw[hlo2,hhi2]at hr2
    refine S (cj12 Zd e1 e2 e3 hi0 hin hc1 h1 h2 hkR hff hr2) ?_
    refine hFx (i+1,(vis kV d f nd.kids[i] (loB nd low i) (hiB nd high i) (depth+1) w).2) _ _ _ ?_ ?_ (by simp only[go_sem,push_cast,qB,qA]) ((canf (cj3 Yd hlo2 hhi2)))
    ·show nd.kids.length-(i+1)<nd.kids.length-i
     omega
    ·exact⟨hlt,i2,(i3.trans hgw).up (by rw[Nat.succ_mul];exact xC _)⟩
   ·rw[hsw hr]at i2;rw[i2]
    have hr2:=hr
    rw[hlo2,hhi2]at hr2 ⊢
    exact S (cj12 Zd e1 e2 e3 hi0 hin hc1 h1 h2 hkR hff hr2) trivial
 ·obtain rfl:i=nd.kids.length:=Nat.le_antisymm i1 hge
  rw[Nat.sub_self,visK]at i2
  rw[i2]
  refine S Zd ?_
  refine cv (by kernel_rfl) ?_
  exact S Zd trivial
theorem R113_zero:OK 113 (R113 0):=by
 rintro _ H Bd K ⟨pd,id,low,high,depth,n,rfl,b,hb0,x,hx,b1,hb1,rows,hv0,cd,ed,d,gd,⟨hl0,hc0,hd0,hpre,hmeas⟩,hK⟩
 exact absurd hmeas (Nat.not_lt_zero _)
theorem R113_ok:∀N,OK 113 (R113 N)
 |0=>R113_zero
 |N+1=>R113_step N (R113_ok N)
theorem W113_ok:OK 113 W113:=by
 rintro _ H Bd K ⟨pd,id,low,high,depth,n,rfl,b,hb0,x,hx,b1,hb1,rows,hv0,cd,ed,d,gd,⟨hl0,hc0,hd0,hpre⟩,hK⟩
 exact R113_ok (_+1) _ _ _ _ ⟨pd,id,low,high,depth,n,rfl,b,hb0,x,hx,b1,hb1,rows,hv0,cd,ed,d,gd,⟨hl0,hc0,hd0,hpre,Nat.lt_succ_self _⟩,hK⟩
def T113:qH:=ToC W113
theorem T113_ok:OK 113 T113:=ToC_ok W113_ok
@[go_sem ↓] def BV71 (d:GDisk) (root:Int):Tq:=fun H Bd K=>((sm d/\DiskOK d/\R64 root)/\K (.tuple #[.agg (enc ((jV d root).1)).toArray,iv ((jV d root).2)]) H Bd)
def V71:qH:=fun g' H Bd K=>∃(d:GDisk) (root:Int),g'=[.agg (enc d).toArray,iv root]/\BV71 d root H Bd K
@[go_sem ↓] theorem V71_eq (a:List (List UInt8)) (b:List GPut) (c:Int):V71 [.agg #[lst a,lst b],iv c] H Bd K=BV71 (GDisk.mk a b) c H Bd K:=ex2 (GDisk.mk a b) c rfl
def W71:qH:=fun g' H Bd K=>∃(pd vroot:Value),g'=[pd,vroot]/\Yld (qI H 2 pd) fun cd=>qQ V71 [.agg cd.toArray,vroot] H Bd K
@[go_sem ↓] theorem W71_eq (a b:Value):W71 [a,b] H Bd K=(Yld (qI H 2 a) fun cd=>qQ V71 (idS [.agg cd.toArray,b]) H Bd K):=px2 a b
theorem W71_ok:OK 71 W71:=by
 rintro _ H Bd K ⟨pd,vroot,rfl,cd,ed,h⟩
 obtain⟨d,root,e,hpre,hK⟩:=h
 simp only[xG,and_true]at e
 obtain⟨Ed,rfl⟩:=e
 obtain rfl:=qR Ed
 refine yF pok (uA.uB T113_ok) [] _ hK func71 rfl (rs:=[.cell 4 138, .tmp 5]) rfl ntmps71 (by simp) call71 (by kernel_rfl) (fun ha hb=>tup_nb ⟨agg_nb _ _, .int _ _,trivial⟩) (fun hb ha=>?_)
 have Pd:=qM ed (NB.vpok (ha pd (by simp)))
 simp only[jR]at Pd
 have Zd:=Pd.all 2 rfl
 have Yd:=jE (ha pd (by simp))
 obtain⟨h1,h2,h3⟩:=hpre
 by_cases h0:root=0
 ·have e:jV d root=(⟨[],[],0⟩,0):=by unfold jV;rw[if_pos h0];rfl
  rw[e]
  exact R (cj Zd h0) trivial
 refine R (cj Zd h0) ?_
 refine toC (args':=[pd,iv root,lst ([]:List UInt8),lst ([]:List UInt8),iv 1,pt (Bd+1)]) hb (by omega) 1 [.m (Bd+1) 1] rfl [(Bd,⟨[sn,sn,iv 0],true⟩),(Bd+1,⟨[lst ([]:List Int),sv (Bd+2) 2 0 1,iv 0],true⟩),(Bd+2,⟨[],true⟩)] (canf Yd) ?_
 simp only[mem_cons,jC]
 have h5:(6-(1:Int)).toNat=5:=rfl
 by_cases hr:(vis kV d 5 root [] [] 1 ⟨[],[],0⟩).1=0
 ·have e:jV d root=((vis kV d 5 root [] [] 1 ⟨[],[],0⟩).2,0):=by unfold jV noWk;rw[if_neg h0,if_neg (by simpa using hr)]
  rw[e]
  refine R (cj5 Zd h1 h2 h3 hr) ?_
  exact qV (by simp (disch:=first|assumption|omega) only[go_sem,push_cast,qB,qA]) (hb.fresh _ (by omega)) rfl (by first|rfl|exact(yS _).symm|simp|omega)
 ·have e:jV d root=(⟨[],[],0⟩,(vis kV d 5 root [] [] 1 ⟨[],[],0⟩).1):=by unfold jV noWk;rw[if_neg h0,if_pos hr]
  rw[e]
  exact R (cj5 Zd h1 h2 h3 hr) trivial
theorem L124_pure:PureV W124:=by
 rintro _ H Bd K ⟨x0,x1,rfl,hpre,hK⟩
 exact⟨_,by first|exact .bool _|exact .int _ _|exact .string _|exact vc_enc _,hK,fun H' K' hs h=>⟨x0,x1,rfl,hpre,h⟩⟩
def L124:qH:=LendA W124
@[go_sem ↓] theorem L124_eq (a b:Value):L124 [a,b] H Bd K=qQ W124 (idS [giveA H a,giveA H b]) H Bd K:=(rfl)
theorem L124_ok:OK 124 L124:=LendA_ok W124_ok L124_pure
@[go_sem ↓] def BV84 (d:GDisk) (head:Int):Tq:=fun H Bd K=>((sm d/\DiskOK d/\R64 head)/\K (.tuple #[lst ((qW d head).1),lst ((qW d head).2.1),iv ((qW d head).2.2)]) H Bd)
def V84:qH:=fun g' H Bd K=>∃(d:GDisk) (head:Int),g'=[.agg (enc d).toArray,iv head]/\BV84 d head H Bd K
@[go_sem ↓] theorem V84_eq (a:List (List UInt8)) (b:List GPut) (c:Int):V84 [.agg #[lst a,lst b],iv c] H Bd K=BV84 (GDisk.mk a b) c H Bd K:=ex2 (GDisk.mk a b) c rfl
def W84:qH:=fun g' H Bd K=>∃(pd vhead:Value),g'=[pd,vhead]/\Yld (qI H 2 pd) fun cd=>qQ V84 [.agg cd.toArray,vhead] H Bd K
@[go_sem ↓] theorem W84_eq (a b:Value):W84 [a,b] H Bd K=(Yld (qI H 2 a) fun cd=>qQ V84 (idS [.agg cd.toArray,b]) H Bd K):=px2 a b
theorem W84_ok:OK 84 W84:=by
 rintro _ H Bd K ⟨pd,vhead,rfl,cd,ed,h⟩
 obtain⟨d,head,e,hpre,hK⟩:=h
 simp only[xG,and_true]at e
 obtain⟨Ed,rfl⟩:=e
 obtain rfl:=qR Ed
 refine yF pok ((((uA.uB W81_ok).uB L124_ok).uB W126_ok).uB W125_ok) [(11,[],[],(.k 4 (.grp false 41 45 4 [42,43,44,45] 46 none (.k 4 .nil) .nil)))] _ hK func84 rfl (rs:=[.tmp 4, .tmp 5, .tmp 6]) rfl ntmps84 (by simp) call84 (by kernel_rfl) (fun ha hb=>tup_nb ⟨lst_nb _ _,lst_nb _ _, .int _ _,trivial⟩) (fun hb ha=>?_)
 have Pd:=qM ed (NB.vpok (ha pd (by simp)))
 simp only[jR]at Pd
 have Zd:=Pd.all 2 rfl
 have Yd:=jE (ha pd (by simp))
 refine jF pok fun cv=>?_
 obtain⟨h1,h2,h3⟩:=hpre
 have hsl:=h2.len
 refine R Zd ?_
 refine yM (X:=List UInt8×List Int×Int) hb (by omega) 2 [.s 7, .s 8] rfl (fun x=>x.1.length<=400/\x.2.1.length<=x.1.length/\R64 x.2.2/\qW d head=chn d (401-x.2.1.length) x.2.2 x.1 x.2.1) (fun x=>401-x.2.1.length) (fun Nx x=>[(0,pd),(7,sv Nx 1 x.1.length (x.1.length+1)),(8,sv (Nx+1) 1 x.2.1.length (x.2.1.length+1)),(9,iv x.2.2)]) (fun Nx x=>[(Nx,⟨qO x.1,true⟩),(Nx+1,⟨qO x.2.1,true⟩)]) ([],[],head) (⟨xT _,xT _,h3,rfl⟩) (fun Nx hNx=>(canf Yd)) ?_
 intro Nx x hNx hIx hbx Fx hFx
 simp only[mem_cons,jC]at hbx ⊢
 refine cv (by kernel_rfl) ?_
 obtain⟨data,pages,id⟩:=x
 obtain⟨i1,i2,i3,i4⟩:=hIx
 simp only at i1 i2 i3 i4
 have hsp:sm pages:=(yU _).2 (by omega)
 obtain⟨g,hg⟩:∃g,401-pages.length=g+1:=⟨400-pages.length,by omega⟩
 rw[hg,chn]at i4
 by_cases hr:2<=id/\id<=(d.sectors.length:Int)-1
 case neg=>
  rw[if_pos hr]at i4
  rw[i4]
  exact R (cj4 Zd h1 h2 hr) trivial
 rw[if_neg (by simpa using hr)]at i4
 obtain⟨hr1,hr2⟩:=hr
 by_cases hq:hasI pages id=true
 ·rw[if_pos hq]at i4
  rw[i4]
  exact R (cj6 Zd h1 h2 hr1 hr2 hq) trivial
 rw[if_neg hq]at i4
 have hlen:=readD_len h2 (n:=id) (by omega) (by omega)
 by_cases hc:(qY (yH d id) id).2=0
 case neg=>
  rw[if_pos hc]at i4
  rw[i4]
  exact R (cj7 Zd h1 h2 hr1 hr2 hq hc) trivial
 rw[if_neg (by simpa using hc)]at i4
 have hbl:=(pageF_ok (readPg_ok hc).1).2.2
 generalize hP:(qY (yH d id) id).1=P at*
 by_cases hk:P.kind=3
 case neg=>
  rw[if_pos (.inl hk)]at i4
  rw[i4]
  exact R (cj9 Zd h1 h2 hr1 hr2 hq hc hP hk) trivial
 by_cases hl:P.body.length<2
 ·rw[if_pos (.inr hl)]at i4
  rw[i4]
  exact R (cj10 Zd h1 h2 hr1 hr2 hq hc hP hk hl) trivial
 rw[if_neg (by simp[hk];omega)]at i4
 have hdl:(data++P.body.drop 1).length=data.length+(P.body.length-1):=by rw[xD,xI]
 have hdl2:(List.drop 1 P.body).length=P.body.length-1:=by rw[xI]
 have hok:=flat_ok (List.drop 1 P.body)
 by_cases h4:400<(data++P.body.drop 1).length
 ·rw[if_pos h4]at i4
  rw[i4]
  have h4':400<data.length+(P.body.length-1):=by omega
  exact RA (cj14 Zd h1 h2 hr1 hr2 hq hc hP hk hl hok hdl2 h4' ((@List.take_length UInt8))) trivial
 rw[if_neg h4]at i4
 have h4':¬400<data.length+(P.body.length-1):=by omega
 have e0:P.body[0]? =some (P.body[0]'(by omega)):=xA _
 have b0:((P.body[0]'(by omega)).toNat:Int)<=255:=by have:=(P.body[0]'(by omega)).toNat_lt;omega
 rw[getD_some e0]at i4
 by_cases h0:(P.body[0]'(by omega)).toNat=0
 ·rw[if_pos h0]at i4
  rw[i4]
  have h0':((P.body[0]'(by omega)).toNat:Int)=0:=by omega
  refine RA (cj17 Zd h1 h2 hr1 hr2 hq hc hP hk hl hok hdl2 h4' e0 h0 h0' ((@List.take_length UInt8))) ?_
  refine⟨?_,?_⟩ <;>exact qV (by simp (disch:=first|assumption|omega) only[go_sem,push_cast,qB,qA,qK,qT,jS,jH,jB,jT,jK,xL]) (hb.fresh _ (by omega)) rfl (by simp <;>omega)
 rw[if_neg h0]at i4
 have h0':¬((P.body[0]'(by omega)).toNat:Int)=0:=by omega
 refine RA (cj17 Zd h1 h2 hr1 hr2 hq hc hP hk hl hok hdl2 h4' e0 h0 h0' ((@List.take_length UInt8))) ?_
 refine hFx (data++P.body.drop 1,pages++[id],((P.body[0]'(by omega)).toNat:Int)) _ _ _ ?_ ?_ (by simp only[go_sem,push_cast,qB,qA]) ((canf (cj Yd hdl2)))
 ·show 401-(pages++[id]).length<401-pages.length
  rw[xD];simp only[xJ,xZ];omega
 ·refine⟨show(data++P.body.drop 1).length<=400 by omega,?_,show R64 ((P.body[0]'(by omega)).toNat:Int)from⟨by omega,by omega⟩,?_⟩
  ·show(pages++[id]).length<=(data++P.body.drop 1).length
   rw[xD,hdl];simp only[xJ,xZ];omega
  ·show _=chn d (401-(pages++[id]).length) _ _ _
   rw[i4,xD,show 401-(pages.length+[id].length)=g by simp only[xJ,xZ];omega]
def W123b:qH:=fun g' H Bd K=>∃(l:List Int) (more:List Int),g'=[lst l,lst more]/\((l.length<=100000/\more.length<=100000)/\K (.tuple #[lst ((addL l more).1), .bool ((addL l more).2)]) H Bd)
@[go_sem ↓] theorem W123b_eq (a b:List Int) (c:AH) (d:Nat) (e:Value->AH->Nat->Prop):W123b [lst a,lst b] c d e=((a.length<=100000/\b.length<=100000)/\e (.tuple #[lst ((addL a b).1), .bool ((addL a b).2)]) c d):=ex2 a b rfl
theorem W123b_ok:OK 123 W123b:=by
 rintro _ H Bd K ⟨l,more,rfl,hpre,hK⟩
 refine yF pok ((uA.uB W124_ok).uB W164_ok) [] _ hK func123 rfl (rs:=[.tmp 4, .tmp 5]) rfl ntmps123 (by simp) call123 (by kernel_rfl) (fun ha hb=>tup_nb ⟨lst_nb _ _, .bool _,trivial⟩) (fun hb ha=>?_)
 refine jF pok fun cv=>?_
 obtain⟨h1,h2⟩:=hpre
 refine R0 ?_
 refine jA (fun i=>True) (more.length) (fun i=>[(0,lst (addS l more i).1),(1,lst more),(6, .bool (addS l more i).2),(7,iv i)]) (trivial) (by simp only[go_sem,push_cast,qB,qA,addS]) ?_
 intro i Bi hIi hii hBi
 refine cv (by kernel_rfl) ?_
 rcases xM i (more.length)with hlti|hgei
 ·have e1:more[i]? =some more[i]:=xA hlti
  have g1:more.getD i 0=more[i]:=by rw[xF,e1];rfl
  have hl:=addS_len l more i
  have hsm:sm (addS l more i).1:=(yU _).2 (by omega)
  have hle:(addS l more i).1.length<=1000000:=by omega
  have hs1:(addS l more (i+1)).1=kV (addS l more i).1 more[i]:=by show kV _ _=_;rw[g1]
  by_cases hq:hasI (addS l more i).1 more[i]=true
  ·have hs2:(addS l more (i+1)).2=false:=by show(if _ then false else _)=_;rw[g1,if_pos hq]
   exact R (cj6 e1 hsm hle hq hs1 hs2) trivial
  ·have hs2:(addS l more (i+1)).2=(addS l more i).2:=by show(if _ then false else _)=_;rw[g1,if_neg hq]
   exact R (cj6 e1 hsm hle hq hs1 hs2) trivial
 ·obtain rfl:i=more.length:=by omega
  have e:addL l more=addS l more more.length:=rfl
  refine R0 ?_
  refine cv (by kernel_rfl) ?_
  exact R e trivial
def W123:qH:=GiveT 1 W123b
@[go_sem ↓] theorem W123_eq (a b:Value):W123 [a,b] H Bd K=qQ W123b (idS [a,giveV H b]) (giveH H b) Bd K:=(rfl)
theorem W123_ok:OK 123 W123:=GiveT_ok 1 W123b_ok
@[go_sem ↓] def BV83 (d:GDisk) (p:GSuper):Tq:=fun H Bd K=>((sm d/\DiskOK d/\SuperOK p)/\K (.tuple #[lst ((vW d p).list),iv ((vW d p).code)]) H Bd)
def V83:qH:=fun g' H Bd K=>∃(d:GDisk) (p:GSuper),g'=[.agg (enc d).toArray, .agg (enc p).toArray]/\BV83 d p H Bd K
@[go_sem ↓] theorem V83_eq (a:List (List UInt8)) (b:List GPut) (c d e f g h:Int) (i:Bool) (j:List UInt8) (k:List GSymbol):V83 [.agg #[lst a,lst b], .agg #[iv c,iv d,iv e,iv f,iv g,iv h, .bool i,lst j,lst k]] H Bd K=BV83 (GDisk.mk a b) (GSuper.mk c d e f g h i j (GSignature.mk k)) H Bd K:=ex2 (GDisk.mk a b) (GSuper.mk c d e f g h i j (GSignature.mk k)) rfl
def W83:qH:=fun g' H Bd K=>∃(pd pp:Value),g'=[pd,pp]/\Yld (qI H 2 pd) fun cd=>Yld (qI H 9 pp) fun cp=>qQ V83 [.agg cd.toArray, .agg cp.toArray] H Bd K
@[go_sem ↓] theorem W83_eq (a b:Value):W83 [a,b] H Bd K=(Yld (qI H 2 a) fun cd=>Yld (qI H 9 b) fun cp=>qQ V83 (idS [.agg cd.toArray, .agg cp.toArray]) H Bd K):=px2 a b
theorem W83_ok:OK 83 W83:=by
 rintro _ H Bd K ⟨pd,pp,rfl,cd,ed,cp,ep,h⟩
 obtain⟨d,p,e,hpre,hK⟩:=h
 simp only[xG,and_true]at e
 obtain⟨Ed,Ep⟩:=e
 obtain rfl:=qR Ed
 obtain rfl:=qR Ep
 refine yF pok (((uA.uB W71_ok).uB W84_ok).uB W123_ok) [(18,[],[],(.k 3 (.grp false 94 96 2 [95,96] 97 none (.k 2 .nil) (.k 1 (.grp false 98 100 2 [99,100] 101 none (.k 2 .nil) .nil)))))] _ hK func83 rfl (rs:=[.tmp 4, .tmp 5]) rfl ntmps83 (by simp) call83 (by kernel_rfl) (fun ha hb=>tup_nb ⟨lst_nb _ _, .int _ _,trivial⟩) (fun hb ha=>?_)
 have Pd:=qM ed (NB.vpok (ha pd (by simp)))
 simp only[jR]at Pd
 have Zd:=Pd.all 2 rfl
 have Yd:=jE (ha pd (by simp))
 have Pp:=qM ep (NB.vpok (ha pp (by simp)))
 simp only[jR,qN,vQ]at Pp
 have Zp:=Pp.all 9 rfl
 have Yp:=jE (ha pp (by simp))
 obtain⟨h1,h2,hS⟩:=hpre
 have hk:=kept_two d p
 have k1:(vW d p).list=(keptS d p).1:=by rw[hk]
 have k2:(vW d p).code=(keptS d p).2:=by rw[hk]
 rw[k1,k2]
 have hsp:=hS.root
 have hsh:=hS.shadow
 have hsn:=hS.next_
 have hst:=hS.theory
 have rr:R64 p.root:=⟨by omega,by omega⟩
 have rs:R64 p.shadow:=⟨by omega,by omega⟩
 have rn:R64 p.next_:=⟨by omega,by omega⟩
 have rt:R64 p.theory:=⟨by omega,by omega⟩
 by_cases c1:(jV d p.root).2=0
 case neg=>
  have e:keptS d p=([],(jV d p.root).2):=by unfold keptS;rw[if_pos c1]
  rw[e]
  exact R (cj9 Zd Zp h1 h2 rr rs rt rn c1) trivial
 by_cases c2:(jV d p.shadow).2=0
 case neg=>
  have e:keptS d p=([],(jV d p.shadow).2):=by unfold keptS;rw[if_neg (by simpa using c1),if_pos c2]
  rw[e]
  exact R (cj10 Zd Zp h1 h2 rr rs rt rn c1 c2) trivial
 by_cases c3:(qW d p.theory).2.2=0
 case neg=>
  have e:keptS d p=([],(qW d p.theory).2.2):=by unfold keptS;rw[if_neg (by simpa using c1),if_neg (by simpa using c2),if_pos c3]
  rw[e]
  exact R (cj11 Zd Zp h1 h2 rr rs rt rn c1 c2 c3) trivial
 have l1:=treeS_len d p.root
 have l2:=treeS_len d p.shadow
 have l3:=chainD_len d p.theory
 have l4:=chainD_len d p.next_
 have l5:=addL_len (jV d p.root).1.pages (jV d p.shadow).1.pages
 have l6:=addL_len (addL (jV d p.root).1.pages (jV d p.shadow).1.pages).1 (qW d p.theory).2.1
 have l7:(keptN d p).length<=401:=by unfold keptN;split;exact xT _;exact chainD_len _ _
 have fin:(p.next_≠0->(qW d p.next_).2.2=0)->keptS d p=if(addL (jV d p.root).1.pages (jV d p.shadow).1.pages).2=true/\(addL (addL (jV d p.root).1.pages (jV d p.shadow).1.pages).1 (qW d p.theory).2.1).2=true/\
  (addL (addL (addL (jV d p.root).1.pages (jV d p.shadow).1.pages).1 (qW d p.theory).2.1).1 (keptN d p)).2=true then
  ((addL (addL (addL (jV d p.root).1.pages (jV d p.shadow).1.pages).1 (qW d p.theory).2.1).1 (keptN d p)).1,0)else([],6):=fun h=>by
  unfold keptS
  rw[if_neg (by simpa using c1),if_neg (by simpa using c2),if_neg (by simpa using c3),if_neg (fun q=>q.2 (h q.1))]
 generalize hA:addL (jV d p.root).1.pages (jV d p.shadow).1.pages=A at*
 generalize hB:addL A.1 (qW d p.theory).2.1=B at*
 by_cases c4:p.next_=0
 case' pos=>
  have hN:keptN d p=[]:=if_pos c4
  have f:=fin fun h=>absurd c4 h
  have c5:True:=trivial
 case' neg=>
  by_cases c5:(qW d p.next_).2.2=0
  case neg=>
   have e:keptS d p=([],(qW d p.next_).2.2):=by unfold keptS;rw[if_neg (by simpa using c1),if_neg (by simpa using c2),if_neg (by simpa using c3),if_pos ⟨c4,c5⟩]
   rw[e]
   exact R (cj13 Zd Zp h1 h2 rr rs rt rn c1 c2 c3 c4 c5) trivial
  have hN:keptN d p=(qW d p.next_).2.1:=if_neg c4
  have f:=fin fun _=>c5
 all_goals
  rw[hN]at f l7
  clear fin
  generalize hC:addL B.1 _=C at*
  have l8:=addL_len A.1 (qW d p.theory).2.1
  rw[hB]at l8
  rw[f]
  by_cases a1:A.2=true
  ·by_cases a2:B.2=true
   ·by_cases a3:C.2=true
    ·rw[if_pos ⟨a1,a2,a3⟩]
     simp (maxSteps:=2000000) (disch:=first|exact dq|fail) only[go_sem,push_cast,qB,qA,qL hb,qE hb,Zd,Zp,h1,h2,rr,rs,rt,rn,c1,c2,c3,c4,c5,giveR_nilI,hA,hB,hC,a1,a2,a3]
    ·rw[if_neg fun h=>a3 h.2.2]
     simp (maxSteps:=2000000) (disch:=first|exact dq|fail) only[go_sem,push_cast,qB,qA,qL hb,qE hb,Zd,Zp,h1,h2,rr,rs,rt,rn,c1,c2,c3,c4,c5,giveR_nilI,hA,hB,hC,a1,a2,a3]
   ·rw[if_neg fun h=>a2 h.2.1]
    simp (maxSteps:=2000000) (disch:=first|exact dq|fail) only[go_sem,push_cast,qB,qA,qL hb,qE hb,Zd,Zp,h1,h2,rr,rs,rt,rn,c1,c2,c3,c4,c5,giveR_nilI,hA,hB,hC,a1,a2]
  ·rw[if_neg fun h=>a1 h.1]
   simp (maxSteps:=2000000) (disch:=first|exact dq|fail) only[go_sem,push_cast,qB,qA,qL hb,qE hb,Zd,Zp,h1,h2,rr,rs,rt,rn,c1,c2,c3,c4,c5,giveR_nilI,hA,hB,hC,a1]
def V204:qH:=fun g' H Bd K=>∃(s:GSignature) (n:Int),g'=[.agg (enc s).toArray,iv n]/\((sm s/\R64 n)/\K (.bool (isSym s n)) H Bd)
@[go_sem ↓] theorem V204_eq (a:List GSymbol) (b:Int):V204 [.agg #[lst a],iv b] H Bd K=((sm (GSignature.mk a)/\R64 b)/\K (.bool (isSym (GSignature.mk a) b)) H Bd):=ex2 (GSignature.mk a) b rfl
def W204:qH:=fun g' H Bd K=>∃(ps vn:Value),g'=[ps,vn]/\Yld (qI H 1 ps) fun cs=>qQ V204 [.agg cs.toArray,vn] H Bd K
@[go_sem ↓] theorem W204_eq (a b:Value):W204 [a,b] H Bd K=(Yld (qI H 1 a) fun cs=>qQ V204 (idS [.agg cs.toArray,b]) H Bd K):=px2 a b
theorem W204_ok:OK 204 W204:=by
 rintro _ H Bd K ⟨ps,vn,rfl,cs,es,h⟩
 obtain⟨s,n,e,hpre,hK⟩:=h
 simp only[xG,and_true]at e
 obtain⟨Es,rfl⟩:=e
 obtain rfl:=qR Es
 refine fnp pok (uA.uB W81_ok) [] hK func204 ntmps204 call204 [.tmp 4] fun hb ha=>?_
 have Ps:=qM es (NB.vpok (ha ps (by simp)))
 simp only[qN]at Ps
 have Zs:=Ps.all 1 rfl
 have Ys:=jE (ha ps (by simp))
 obtain⟨h1,h2⟩:=hpre
 simp only[yN]at h1
 have hlen:=qS h1
 refine R Zs ?_
 unfold isSym
 all_goals first|done|trivial|((try simp only[Cnp,Imp]);grind)
def V205:qH:=fun g' H Bd K=>∃(s:GSignature) (n:Int),g'=[.agg (enc s).toArray,iv n]/\((sm s/\R64 n)/\K (.bool (kI s n)) H Bd)
@[go_sem ↓] theorem V205_eq (a:List GSymbol) (b:Int):V205 [.agg #[lst a],iv b] H Bd K=((sm (GSignature.mk a)/\R64 b)/\K (.bool (kI (GSignature.mk a) b)) H Bd):=ex2 (GSignature.mk a) b rfl
def W205:qH:=fun g' H Bd K=>∃(ps vn:Value),g'=[ps,vn]/\Yld (qI H 1 ps) fun cs=>qQ V205 [.agg cs.toArray,vn] H Bd K
@[go_sem ↓] theorem W205_eq (a b:Value):W205 [a,b] H Bd K=(Yld (qI H 1 a) fun cs=>qQ V205 (idS [.agg cs.toArray,b]) H Bd K):=px2 a b
theorem W205_ok:OK 205 W205:=by
 rintro _ H Bd K ⟨ps,vn,rfl,cs,es,h⟩
 obtain⟨s,n,e,hpre,hK⟩:=h
 simp only[xG,and_true]at e
 obtain⟨Es,rfl⟩:=e
 obtain rfl:=qR Es
 refine fnp pok ((uA.uB W204_ok).uB W81_ok) [(1,[],[],(.k 4 (.grp false 8 10 2 [9,10] 11 none (.k 2 .nil) (.k 1 .nil))))] hK func205 ntmps205 call205 [.tmp 4] fun hb ha=>?_
 have Ps:=qM es (NB.vpok (ha ps (by simp)))
 simp only[qN]at Ps
 have Zs:=Ps.all 1 rfl
 have Ys:=jE (ha ps (by simp))
 obtain⟨h1,h2⟩:=hpre
 refine R (cj3 Zs h1 h2) ?_
 simp[kI]
def V159:qH:=fun g' H Bd K=>∃(s:GSignature) (b:UInt8),g'=[.agg (enc s).toArray, .int .u8 ((b).toNat:Int)]/\((sm s)/\K (.tuple #[iv (nodeB b), .bool (okB s b)]) H Bd)
@[go_sem ↓] theorem V159_eq (a:List GSymbol) (b:UInt8):V159 [.agg #[lst a], .int .u8 ((b).toNat:Int)] H Bd K=((sm (GSignature.mk a))/\K (.tuple #[iv (nodeB b), .bool (okB (GSignature.mk a) b)]) H Bd):=ex2 (GSignature.mk a) b rfl
def W159:qH:=fun g' H Bd K=>∃(ps vb:Value),g'=[ps,vb]/\Yld (qI H 1 ps) fun cs=>qQ V159 [.agg cs.toArray,vb] H Bd K
@[go_sem ↓] theorem W159_eq (a b:Value):W159 [a,b] H Bd K=(Yld (qI H 1 a) fun cs=>qQ V159 (idS [.agg cs.toArray,b]) H Bd K):=px2 a b
theorem W159_ok:OK 159 W159:=by
 rintro _ H Bd K ⟨ps,vb,rfl,cs,es,h⟩
 obtain⟨s,b,e,hpre,hK⟩:=h
 simp only[xG,and_true]at e
 obtain⟨Es,rfl⟩:=e
 obtain rfl:=qR Es
 refine yF pok ((uA.uB W204_ok).uB W205_ok) [] _ hK func159 rfl (rs:=[.tmp 4, .tmp 5]) rfl ntmps159 (by simp) call159 (by kernel_rfl) (fun ha hb=>tup_nb ⟨.int _ _, .bool _,trivial⟩) (fun hb ha=>?_)
 have Ps:=qM es (NB.vpok (ha ps (by simp)))
 simp only[qN]at Ps
 have Zs:=Ps.all 1 rfl
 have Ys:=jE (ha ps (by simp))
 have hbt:=b.toNat_lt
 by_cases h:b.toNat<32
 ·have e1:nodeB b=(b.toNat:Int)-1:=if_pos h
  have e2:okB s b=isSym s ((b.toNat:Int)-1):=if_pos h
  have h':(b.toNat:Int)<32:=by omega
  rw[e1,e2]
  refine R (cj3 Zs hpre h') ?_
  exact⟨by omega,by omega⟩
 ·have e1:nodeB b=31-(b.toNat:Int):=if_neg h
  have e2:okB s b=kI s (31-(b.toNat:Int)):=if_neg h
  have h':¬(b.toNat:Int)<32:=by omega
  rw[e1,e2]
  refine R (cj3 Zs hpre h') ?_
  exact⟨by omega,by omega⟩
@[go_sem ↓] def BV206 (s:GSignature) (t:List Int) (a:Int):Tq:=fun H Bd K=>((sm s/\sm t/\kE s=0/\nodes s t/\0<=a/\a<=t.length)/\K (iv (ep s t 1 a.toNat)) H Bd)
def V206:qH:=fun g' H Bd K=>∃(s:GSignature) (t:List Int) (a:Int),g'=[.agg (enc s).toArray,lst t,iv a]/\BV206 s t a H Bd K
@[go_sem ↓] theorem V206_eq (a:List GSymbol) (b:List Int) (c:Int):V206 [.agg #[lst a],lst b,iv c] H Bd K=BV206 (GSignature.mk a) b c H Bd K:=ex3 (GSignature.mk a) b c rfl
def W206:qH:=fun g' H Bd K=>∃(ps vt va:Value),g'=[ps,vt,va]/\Yld (qI H 1 ps) fun cs=>qQ V206 [.agg cs.toArray,vt,va] H Bd K
@[go_sem ↓] theorem W206_eq (a b c:Value):W206 [a,b,c] H Bd K=(Yld (qI H 1 a) fun cs=>qQ V206 (idS [.agg cs.toArray,b,c]) H Bd K):=px3 a b c
def Q206(N:Nat):qH:=fun g' H Bd K=>∃(s:GSignature) (t:List Int) (a:Int),g'=[.agg (enc s).toArray,lst t,iv a]/\(((sm s/\sm t/\kE s=0/\nodes s t/\0<=a/\a<=t.length)/\(t.length+1-a.toNat)<N)/\K (iv (ep s t 1 a.toNat)) H Bd)
@[go_sem ↓] theorem Q206_eq (a:Nat) (b:List GSymbol) (c:List Int) (d:Int):Q206 a [.agg #[lst b],lst c,iv d] H Bd K=(((sm (GSignature.mk b)/\sm c/\kE (GSignature.mk b)=0/\nodes (GSignature.mk b) c/\0<=d/\d<=c.length)/\(c.length+1-d.toNat)<a)/\K (iv (ep (GSignature.mk b) c 1 d.toNat)) H Bd):=ex3 (GSignature.mk b) c d rfl
def R206(N:Nat):qH:=fun g' H Bd K=>∃(ps vt va:Value),g'=[ps,vt,va]/\Yld (qI H 1 ps) fun cs=>qQ (Q206 N) [.agg cs.toArray,vt,va] H Bd K
@[go_sem ↓] theorem R206_eq (a:Nat) (b c d:Value):R206 a [b,c,d] H Bd K=(Yld (qI H 1 b) fun cs=>qQ (Q206 a) (idS [.agg cs.toArray,c,d]) H Bd K):=by
 refine propext ⟨fun h=>?_,fun h=>⟨_,_,_,rfl,h⟩⟩
 obtain⟨ps',vt',va',e,h⟩:=h
 simp only[xG,and_true]at e
 obtain⟨rfl,rfl,rfl⟩:=e
 exact h
theorem R206_step(N:Nat)(ih:OK 206 (R206 N)):OK 206 (R206 (N+1)):=by
 rintro _ H Bd K ⟨ps,vt,va,rfl,cs,es,h⟩
 obtain⟨s,t,a,e,hpre,hK⟩:=h
 simp only[xG,and_true]at e
 obtain⟨Es,rfl,rfl⟩:=e
 obtain rfl:=qR Es
 refine fnp pok (uA.add 206 _ ih) [(7,[0,1,2,3,4,5,6,7,8,9,10,11,12],[z0 0,z0 1,z0 2,z0 3,z0 4,z0 5,z0 6,z0 7,z0 8,z0 9,z0 10,z0 11,z0 12], .nil)] hK func206 ntmps206 call206 [.tmp 6] fun hb ha=>?_
 have Ps:=qM es (NB.vpok (ha ps (by simp)))
 simp only[qN]at Ps
 have Zs:=Ps.all 1 rfl
 have Ys:=jE (ha ps (by simp))
 refine jF pok fun cv=>?_
 obtain⟨⟨h1,h2,h3,h4,h5,h6⟩,hrec⟩:=hpre
 have hss:sm s:=h1
 simp only[yN]at h1
 have hlen:=qS h1
 have hs:=yT h3
 have hlt2:=qS h2
 obtain⟨a,rfl⟩:=Int.eq_ofNat_of_zero_le h5
 simp only[Int.toNat_natCast]at hrec
 by_cases hlt:a<t.length
 ·have e1:t[a]? =some t[a]:=xA hlt
  have hn:=h4 _ (xH hlt)
  by_cases hx:t[a]<0
  ·have e5:ep s t 1 a=a+1:=by rw[ep_node 0 e1,arN_neg hx,ep_zero (by omega)];omega
   exact R (cj4 Zs e1 hx e5) trivial
  ·have e4:t[a].toNat<s.symbols.length:=by omega
   have e2:s.symbols[t[a].toNat]? =some s.symbols[t[a].toNat]:=xA e4
   have ha:=hs.nm _ (xH e4)
   have e5:ep s t 1 a=ep s t (s.symbols[t[a].toNat].arity.toNat) (a+1):=by rw[ep_node 0 e1,arN_sym (by omega) e2,Nat.zero_add]
   refine R (cj3 Zs e1 hx) ?_
   refine jA (fun i=>0<=ep s t i (a+1)) (s.symbols[t[a].toNat].arity.toNat) (fun i=>[(0,ps),(1,lst t),(2,iv a),(7,iv (ep s t i (a+1))),(8,iv i)]) ((by rw[ep_zero (by omega)];omega)) (by simp only[go_sem,push_cast,qB,qA,ep_zero (show a+1<=t.length by omega)]) ?_
   intro i Bi hIi hii hBi
   refine cv (by kernel_rfl) ?_
   rcases xM i (s.symbols[t[a].toNat].arity.toNat)with hlti|hgei
   ·rcases ep_cases (s:=s) (t:=t) i (show a+1<=t.length by omega)with⟨q1,_⟩|⟨m,q1,q2,q3,_⟩
    ·omega
    have hst:ep s t (i+1) (a+1)=ep s t 1 (a+1+m):=by rw[ep_add i 1 (show a+1<=t.length by omega),q3,if_neg (by omega),Int.toNat_natCast]
    have hc:(i:Int)<s.symbols[t[a].toNat].arity:=by omega
    have hcv:((a:Int)+1+m).toNat=a+1+m:=by omega
    refine R (cj10 Zs e1 e2 hx hc q3 hss h2 h3 h4) ?_
    rw[hcv,<-hst]
    refine⟨fun h=>?_,fun h=>⟨by omega,rfl⟩⟩
    rw[e5,show s.symbols[t[a].toNat].arity.toNat=(i+1)+(s.symbols[t[a].toNat].arity.toNat-(i+1)) by omega,ep_add (i+1) _ (show a+1<=t.length by omega),if_pos h]
   ·have hc:¬(i:Int)<s.symbols[t[a].toNat].arity:=by omega
    refine R (cj5 Zs e1 e2 hx hc) ?_
    refine cv (by kernel_rfl) ?_
    refine R Zs ?_
    rw[e5,show i=s.symbols[t[a].toNat].arity.toNat by omega]
 ·have e5:ep s t 1 a= -1:=ep_out 0 (by omega)
  exact R (cj3 Zs hlt e5) trivial
theorem R206_zero:OK 206 (R206 0):=by
 rintro _ H Bd K ⟨ps,vt,va,rfl,cs,es,h⟩
 obtain⟨s,t,a,e,hpre,hK⟩:=h
 exact absurd hpre.2 (Nat.not_lt_zero _)
theorem R206_ok:∀N,OK 206 (R206 N)
 |0=>R206_zero
 |N+1=>R206_step N (R206_ok N)
theorem W206_ok:OK 206 W206:=by
 rintro _ H Bd K ⟨ps,vt,va,rfl,cs,es,h⟩
 obtain⟨s,t,a,e,hpre,hK⟩:=h
 exact R206_ok ((t.length+1-a.toNat)+1) _ _ _ _ ⟨ps,vt,va,rfl,cs,es,s,t,a,e,⟨hpre,Nat.lt_succ_self _⟩,hK⟩
def V160:qH:=fun g' H Bd K=>∃(s:GSignature) (t:List Int),g'=[.agg (enc s).toArray,lst t]/\((sm s/\sm t/\rg t/\kE s=0)/\K (iv (termG s t)) H Bd)
@[go_sem ↓] theorem V160_eq (a:List GSymbol) (b:List Int):V160 [.agg #[lst a],lst b] H Bd K=((sm (GSignature.mk a)/\sm b/\rg b/\kE (GSignature.mk a)=0)/\K (iv (termG (GSignature.mk a) b)) H Bd):=ex2 (GSignature.mk a) b rfl
def W160:qH:=fun g' H Bd K=>∃(ps vt:Value),g'=[ps,vt]/\Yld (qI H 1 ps) fun cs=>qQ V160 [.agg cs.toArray,vt] H Bd K
@[go_sem ↓] theorem W160_eq (a b:Value):W160 [a,b] H Bd K=(Yld (qI H 1 a) fun cs=>qQ V160 (idS [.agg cs.toArray,b]) H Bd K):=px2 a b
theorem W160_ok:OK 160 W160:=by
 rintro _ H Bd K ⟨ps,vt,rfl,cs,es,h⟩
 obtain⟨s,t,e,hpre,hK⟩:=h
 simp only[xG,and_true]at e
 obtain⟨Es,rfl⟩:=e
 obtain rfl:=qR Es
 refine fnp pok ((uA.uB W205_ok).uB W206_ok) [(1,[],[],(.k 4 (.grp false 9 12 3 [10,11,12] 13 none (.k 3 .nil) .nil)))] hK func160 ntmps160 call160 [.tmp 4] fun hb ha=>?_
 have Ps:=qM es (NB.vpok (ha ps (by simp)))
 simp only[qN]at Ps
 have Zs:=Ps.all 1 rfl
 have Ys:=jE (ha ps (by simp))
 refine jF pok fun cv=>?_
 obtain⟨h1,h2,h3,h4⟩:=hpre
 have hss:sm s:=h1
 have hlt2:=qS h2
 refine R (cj Zs h2) ?_
 refine⟨fun hq=>by unfold termG;rw[if_pos (by omega)],fun hq1 hq2=>?_⟩
 have hs:termG s t=if t.any (fun n=> !kI s n)=true then 3 else if ep s t 1 0=t.length then 0 else 1:=by unfold termG;rw[if_neg (by omega)]
 rw[hs]
 refine jA (fun i=>∀j,j<i->∀x,t[j]? =some x->kI s x=true) (t.length) (fun i=>[(0,ps),(1,lst t),(5,iv i)]) (by simp) (by simp only[go_sem,push_cast,qB,qA]) ?_
 intro i Bi hIi hii hBi
 refine cv (by kernel_rfl) ?_
 rcases xM i (t.length)with hlti|hgei
 ·have e1:t[i]? =some t[i]:=xA hlti
  have h5:=h3 _ (xH hlti)
  refine R (cj4 Zs e1 hss h5) ?_
  refine⟨h5,fun h j hj x hx=>?_,fun h=>?_⟩
  ·by_cases e:j=i
   ·subst e;rw[e1]at hx;cases hx;exact h
   ·exact hIi j (by omega) x hx
  ·rw[if_pos (any_hit hlti (by simpa using h))]
 ·refine R Zs ?_
  refine cv (by kernel_rfl) ?_
  have hany:t.any (fun n=> !kI s n)=false:=vL fun j hj x hx=>by rw[hIi j (by omega) x hx];rfl
  have hnd:=nodes_any hany
  refine R (cj6 Zs hss h2 h4 hnd hany) ?_
  refine⟨fun h=>?_,fun h=>?_⟩
  ·rw[if_pos h]
  ·rw[if_neg h]
theorem L160_pure:PureV V160:=by
 rintro _ H Bd K ⟨x0,x1,rfl,hpre,hK⟩
 exact⟨_,by first|exact .bool _|exact .int _ _|exact .string _|exact vc_enc _,hK,fun H' K' hs h=>⟨x0,x1,rfl,hpre,h⟩⟩
def L160:qH:=LendP 1 V160
@[go_sem ↓] theorem L160_eq (a b:Value):L160 [a,b] H Bd K=(Yld (qI H 1 a) fun cs=>qQ V160 (idS [.agg cs.toArray,giveA H b]) H Bd K):=LendP_eq _ _ _ _ _ _ _
theorem L160_ok:OK 160 L160:=LendP_ok W160_ok (fun ps rest cs H Bd K hc hV=>by
 obtain⟨x0,x1,e,_⟩:=id hV
 obtain⟨_,rfl⟩:=List.cons.inj e
 exact⟨_,_,rfl,cs,hc,hV⟩) L160_pure (by decide)
def V111:qH:=fun g' H Bd K=>∃(s:GSignature) (data:List UInt8),g'=[.agg (enc s).toArray,lst data]/\((sm s/\kE s=0/\data.length<=1000000)/\K (lst (rt s data)) H Bd)
@[go_sem ↓] theorem V111_eq (a:List GSymbol) (b:List UInt8):V111 [.agg #[lst a],lst b] H Bd K=((sm (GSignature.mk a)/\kE (GSignature.mk a)=0/\b.length<=1000000)/\K (lst (rt (GSignature.mk a) b)) H Bd):=ex2 (GSignature.mk a) b rfl
def W111:qH:=fun g' H Bd K=>∃(ps vdata:Value),g'=[ps,vdata]/\Yld (qI H 1 ps) fun cs=>qQ V111 [.agg cs.toArray,vdata] H Bd K
@[go_sem ↓] theorem W111_eq (a b:Value):W111 [a,b] H Bd K=(Yld (qI H 1 a) fun cs=>qQ V111 (idS [.agg cs.toArray,b]) H Bd K):=px2 a b
theorem W111_ok:OK 111 W111:=by
 rintro _ H Bd K ⟨ps,vdata,rfl,cs,es,h⟩
 obtain⟨s,data,e,hpre,hK⟩:=h
 simp only[xG,and_true]at e
 obtain⟨Es,rfl⟩:=e
 obtain rfl:=qR Es
 refine fnp pok ((uA.uB W159_ok).uB L160_ok) [(3,[],[],(.k 5 (.grp true 14 16 2 [15,16] 17 none (.k 2 .nil) .nil)))] hK func111 ntmps111 call111 [.tmp 4] fun hb ha=>?_
 have Ps:=qM es (NB.vpok (ha ps (by simp)))
 simp only[qN]at Ps
 have Zs:=Ps.all 1 rfl
 have Ys:=jE (ha ps (by simp))
 refine jF pok fun cv=>?_
 obtain⟨h1,h2,h3⟩:=hpre
 refine R Zs ?_
 refine yM (X:=Nat) hb (by omega) 1 [.s 5] rfl (fun x=>x<=24/\x<=data.length/\rt s data=rtS s data (24-x) x) (fun x=>24-x) (fun Nx x=>[(0,ps),(1,lst data),(5,sv Nx 1 (rtT data x).length ((rtT data x).length+1)),(6,iv x)]) (fun Nx x=>[(Nx,⟨qO (rtT data x),true⟩)]) 0 (⟨xT _,xT _,rfl⟩) (fun Nx hNx=>(canf (cj Ys (show rtT data 0=[]from rfl)))) ?_
 intro Nx x hNx hIx hbx Fx hFx
 simp only[mem_cons,jC]at hbx ⊢
 refine cv (by kernel_rfl) ?_
 obtain⟨i1,i2,i3⟩:=hIx
 have hl:=rtT_len i2
 by_cases hlt:x<data.length/\x<24
 ·obtain⟨g1,g2⟩:=hlt
  obtain⟨f,hf⟩:∃f,24-x=f+1:=⟨23-x,by omega⟩
  have e0:data[x]? =some (data[x]'g1):=xA _
  have hst:=rtT_succ g1
  have hl1:=rtT_len (show x+1<=data.length from g1)
  rw[getD_some e0]at hst
  have hfl:qO (rtT data x)++[Value.int .i64 (nodeB (data[x]'g1))]=qO (rtT data (x+1)):=by rw[hst,qK,qT];rfl
  have hlx:(rtT data (x+1)).length=(rtT data x).length+1:=by omega
  have hgi:∀v,giveR (some ⟨qO (rtT data (x+1)),true⟩) 1 ((rtT data x).length+1) v=lst (rtT data (x+1)):=fun v=>giveR_F _ hlx.symm v
  rw[hf,rtS,if_neg (by omega),getD_some e0]at i3
  have hrg:rg (rtT data (x+1)):=fun n hn=>by
   unfold rtT at hn
   obtain⟨b,_,rfl⟩:=List.mem_map.1 hn
   have:=b.toNat_lt
   unfold nodeB
   split <;>exact⟨by omega,by omega⟩
  have hsm:sm (rtT data (x+1)):=(yU _).2 (by omega)
  by_cases hk:okB s (data[x]'g1)=true
  ·rw[if_pos hk]at i3
   by_cases ht:termG s (rtT data (x+1))=0
   ·rw[if_pos ht]at i3
    rw[i3]
    refine RA (cj12 Zs h1 h2 e0 g1 g2 hk ht hfl hgi hsm hrg) ?_
    exact qV (by simp (disch:=first|assumption|omega) only[go_sem,push_cast,qB,qA]) (hb.fresh _ (by omega)) rfl (by first|rfl|exact(yS _).symm|simp|omega)
   ·rw[if_neg ht]at i3
    refine RA (cj12 Zs h1 h2 e0 g1 g2 hk ht hfl hgi hsm hrg) ?_
    refine hFx (x+1) _ _ _ ?_ ?_ (by simp only[go_sem,push_cast,qB,qA]) ((canf (cj Ys hlx)))
    ·show 24-(x+1)<24-x
     omega
    ·exact⟨g2,g1,by rw[i3,show 24-(x+1)=f by omega]⟩
  ·rw[if_neg hk]at i3
   rw[i3]
   exact R (cj7 Zs h1 h2 e0 g1 g2 hk) trivial
 ·have e:rt s data=[]:=by
   rw[i3]
   rcases xM x 24 with g|g
   ·obtain⟨f,hf⟩:∃f,24-x=f+1:=⟨23-x,by omega⟩
    rw[hf,rtS,if_pos (by omega)]
   ·rw[show 24-x=0 by omega];rfl
  rw[e]
  by_cases g1:x<data.length
  ·have g2:¬x<24:=fun h=>hlt ⟨g1,h⟩
   refine R (cj3 Zs g1 g2) ?_
   refine cv (by kernel_rfl) ?_
   exact R Zs trivial
  ·refine R (cj Zs g1) ?_
   refine cv (by kernel_rfl) ?_
   exact R Zs trivial
def W217:qH:=fun g' H Bd K=>∃(t:List Int),g'=[lst t]/\((sm t)/\K (.bool (lowB t)) H Bd)
@[go_sem ↓] theorem W217_eq (a:List Int):W217 [lst a] H Bd K=((sm a)/\K (.bool (lowB a)) H Bd):=ex1 a rfl
theorem W217_ok:OK 217 W217:=by
 rintro _ H Bd K ⟨t,rfl,hpre,hK⟩
 refine fnp pok uA [] hK func217 ntmps217 call217 [.tmp 2] fun hb ha=>?_
 refine jF pok fun cv=>?_
 have hlt2:=qS hpre
 refine R0 ?_
 refine jA (fun i=>∀j,j<i->∀n,t[j]? =some n-> -6<=n) (t.length) (fun i=>[(0,lst t),(3,iv i)]) (fun j hj=>absurd hj (Nat.not_lt_zero _)) (by simp only[go_sem,push_cast,qB,qA]) ?_
 intro i Bi hIi hii hBi
 refine cv (by kernel_rfl) ?_
 rcases xM i (t.length)with hlti|hgei
 ·have e1:t[i]? =some t[i]:=xA hlti
  refine R e1 ?_
  refine⟨fun h=>?_,fun h j hj n hn=>?_⟩
  ·exact(all_no (xH hlti) (by simpa using h)).symm
  ·by_cases e:j=i
   ·subst e;rw[e1]at hn;cases hn;omega
   ·exact hIi j (by omega) n hn
 ·refine R0 ?_
  refine cv (by kernel_rfl) ?_
  refine R0 ?_
  exact(all_yes fun x hx=>by
   obtain⟨j,hj,rfl⟩:=wO hx
   have:=hIi j (by omega) _ (xA hj)
   simpa using this).symm
@[go_sem ↓] def BV175 (s:GSignature) (e:GEquation):Tq:=fun H Bd K=>((sm s/\sm e/\rg e/\kE s=0)/\K (iv (eqnG s e)) H Bd)
def V175:qH:=fun g' H Bd K=>∃(s:GSignature) (e:GEquation),g'=[.agg (enc s).toArray, .agg (enc e).toArray]/\BV175 s e H Bd K
@[go_sem ↓] theorem V175_eq (a:List GSymbol) (b c:List Int):V175 [.agg #[lst a], .agg #[lst b,lst c]] H Bd K=BV175 (GSignature.mk a) (GEquation.mk b c) H Bd K:=ex2 (GSignature.mk a) (GEquation.mk b c) rfl
def W175:qH:=fun g' H Bd K=>∃(ps pe:Value),g'=[ps,pe]/\Yld (qI H 1 ps) fun cs=>Yld (qI H 2 pe) fun ce=>qQ V175 [.agg cs.toArray, .agg ce.toArray] H Bd K
@[go_sem ↓] theorem W175_eq (a b:Value):W175 [a,b] H Bd K=(Yld (qI H 1 a) fun cs=>Yld (qI H 2 b) fun ce=>qQ V175 (idS [.agg cs.toArray, .agg ce.toArray]) H Bd K):=px2 a b
theorem W175_ok:OK 175 W175:=by
 rintro _ H Bd K ⟨ps,pe,rfl,cs,es,ce,ee,h⟩
 obtain⟨s,e,e,hpre,hK⟩:=h
 simp only[xG,and_true]at e
 obtain⟨Es,Ee⟩:=e
 obtain rfl:=qR Es
 obtain rfl:=qR Ee
 refine fnp pok ((uA.uB W160_ok).uB W217_ok) [(7,[],[],(.k 7 (.grp false 31 37 6 [32,33,34,35,36,37] 38 none (.k 6 .nil) .nil)))] hK func175 ntmps175 call175 [.tmp 4] fun hb ha=>?_
 have Ps:=qM es (NB.vpok (ha ps (by simp)))
 simp only[qN]at Ps
 have Zs:=Ps.all 1 rfl
 have Ys:=jE (ha ps (by simp))
 have Pe:=qM ee (NB.vpok (ha pe (by simp)))
 simp only[enc_GEquation,qN]at Pe
 have Ze:=Pe.all 2 rfl
 have Ye:=jE (ha pe (by simp))
 obtain⟨h1,h2,h3,h4⟩:=hpre
 have hss:sm s:=h1
 simp only[zG]at h2
 have h5:=h2.1
 have h6:=h2.2
 have h7:rg e.left:=h3.1
 have h8:rg e.right:=h3.2
 refine R (cj8 Zs Ze h1 h5 h6 h7 h8 h4) ?_
 unfold eqnG
 refine⟨fun a1=>⟨fun a2=>⟨fun a3=>?_,fun a3 a4=>?_⟩,fun a2=>?_⟩,fun a1=>?_⟩
 ·rw[if_neg (by simp[a1]),if_neg (by simp[a2]),if_neg (fun h=>a3.elim (fun k=>k h.1) (fun k=>k h.2))]
 ·rw[if_neg (by simp[a1]),if_neg (by simp[a2]),if_pos ⟨a3,a4⟩]
 ·rw[if_neg (by simp[a1]),if_pos a2]
 ·rw[if_pos a1]
@[go_sem ↓] def BV127 (s:GSignature) (data:List UInt8):Tq:=fun H Bd K=>((sm s/\kE s=0/\data.length<=1000000)/\K (.tuple #[lst ((raD s data).1),iv ((raD s data).2)]) H Bd)
def V127:qH:=fun g' H Bd K=>∃(s:GSignature) (data:List UInt8),g'=[.agg (enc s).toArray,lst data]/\BV127 s data H Bd K
@[go_sem ↓] theorem V127_eq (a:List GSymbol) (b:List UInt8):V127 [.agg #[lst a],lst b] H Bd K=BV127 (GSignature.mk a) b H Bd K:=ex2 (GSignature.mk a) b rfl
def W127:qH:=fun g' H Bd K=>∃(ps vdata:Value),g'=[ps,vdata]/\Yld (qI H 1 ps) fun cs=>qQ V127 [.agg cs.toArray,vdata] H Bd K
@[go_sem ↓] theorem W127_eq (a b:Value):W127 [a,b] H Bd K=(Yld (qI H 1 a) fun cs=>qQ V127 (idS [.agg cs.toArray,b]) H Bd K):=px2 a b
theorem W127_ok:OK 127 W127:=by
 rintro _ H Bd K ⟨ps,vdata,rfl,cs,es,h⟩
 obtain⟨s,data,e,hpre,hK⟩:=h
 simp only[xG,and_true]at e
 obtain⟨Es,rfl⟩:=e
 obtain rfl:=qR Es
 refine yF pok ((uA.uB W111_ok).uB W175_ok) [(1,[],[],(.k 4 (.grp false 13 17 4 [14,15,16,17] 18 none (.k 4 .nil) .nil)))] _ hK func127 rfl (rs:=[.tmp 4, .tmp 5]) rfl ntmps127 (by simp) call127 (by kernel_rfl) (fun ha hb=>tup_nb ⟨lst_nb _ _, .int _ _,trivial⟩) (fun hb ha=>?_)
 have Ps:=qM es (NB.vpok (ha ps (by simp)))
 simp only[qN]at Ps
 have Zs:=Ps.all 1 rfl
 have Ys:=jE (ha ps (by simp))
 refine jF pok fun cv=>?_
 obtain⟨h1,h2,h3⟩:=hpre
 by_cases h0:data.length<1
 ·have e:raD s data=([],0):=by unfold raD;rw[if_pos (.inl h0)]
  rw[e]
  exact R (cj Zs h0) trivial
 have e0:data[0]? =some (data[0]'(by omega)):=xA _
 have f0:data.getD 0 0=data[0]'(by omega):=getD_some e0
 have b0:((data[0]'(by omega)).toNat:Int)<=255:=by have:=(data[0]'(by omega)).toNat_lt;omega
 generalize hc:(data[0]'(by omega))=c at*
 by_cases h12:12<c.toNat
 ·have e:raD s data=([],0):=by unfold raD;rw[f0,if_pos (.inr h12)]
  have h12':(12:Int)<(c.toNat:Int):=by omega
  rw[e]
  exact R (cj5 Zs h0 e0 hc h12') trivial
 have hN:raD s data=match rvS s data c.toNat with|none=>([],0)|some (l,p)=>(l,(p:Int)):=by
  unfold raD;rw[f0,if_neg (by omega)];rfl
 have h12':¬(12:Int)<(c.toNat:Int):=by omega
 refine R (cj5 Zs h0 e0 hc h12') ?_
 refine yM (X:=Nat×List GEquation×Nat) hb (by omega) 1 [.s 6] rfl (fun x=>x.1<=c.toNat/\rvS s data x.1=some (x.2.1,x.2.2)) (fun x=>12-x.1) (fun Nx x=>[(0,ps),(1,lst data),(6,sv Nx 2 x.2.1.length (x.2.1.length+1)),(7,iv x.2.2),(8,iv x.1)]) (fun Nx x=>[(Nx,⟨qO x.2.1,true⟩)]) (0,[],1) (⟨xT _,rfl⟩) (fun Nx hNx=>(canf Ys)) ?_
 intro Nx x hNx hIx hbx Fx hFx
 simp only[mem_cons,jC]at hbx ⊢
 refine cv (by kernel_rfl) ?_
 obtain⟨i,out,p⟩:=x
 obtain⟨i1,i2⟩:=hIx
 simp only at i1 i2
 obtain⟨l1,l2,l3,l4,l5⟩:=rvS_ok (by omega) i2
 by_cases hgo:i<c.toNat
 ·have g1:(i:Int)<(c.toNat:Int):=by omega
  have hst:rvS s data (i+1)=if eqnG s ⟨rt s (data.drop p),rt s (data.drop (p+(rt s (data.drop p)).length))⟩≠0 then none
   else some (out++[⟨rt s (data.drop p),rt s (data.drop (p+(rt s (data.drop p)).length))⟩],p+(rt s (data.drop p)).length+(rt s (data.drop (p+(rt s (data.drop p)).length))).length):=by
   conv=>lhs;unfold rvS
   rw[i2]
  have hd1:(data.drop p).length<=1000000:=by rw[xI];omega
  obtain⟨a1,a2,a3⟩:=rt_sm s (data.drop p)
  have a4:=rt_le s (data.drop p)
  rw[xI]at a4
  generalize hL:rt s (data.drop p)=L at*
  have hd2:(data.drop (p+L.length)).length<=1000000:=by rw[xI];omega
  obtain⟨b1,b2,b3⟩:=rt_sm s (data.drop (p+L.length))
  generalize hR:rt s (data.drop (p+L.length))=Rr at*
  have hsmE:sm (⟨L,Rr⟩:GEquation):=⟨a2,b2⟩
  have hrgE:rg (⟨L,Rr⟩:GEquation):=⟨a3,b3⟩
  have hcd:((p:Int)+(L.length:Int)).toNat=p+L.length:=by omega
  by_cases he:eqnG s ⟨L,Rr⟩=0
  ·rw[if_neg (by simpa using he)]at hst
   refine RA (cj15 Zs h1 h2 e0 hc g1 (@List.take_length UInt8) hd1 hL hcd hd2 hR hsmE hrgE he) ?_
   refine hFx (i+1,out++[⟨L,Rr⟩],p+L.length+Rr.length) _ _ _ ?_ ?_ (by simp only[go_sem,push_cast,qB,qA]) ((canf (cj Ys enc_GEquation)))
   ·show 12-(i+1)<12-i
    omega
   ·exact⟨hgo,hst⟩
  ·rw[if_pos he]at hst
   have hn:=rvS_none hst c.toNat hgo
   rw[hn]at hN
   rw[hN]
   exact R (cj15 Zs h1 h2 e0 hc g1 (@List.take_length UInt8) hd1 hL hcd hd2 hR hsmE hrgE he) trivial
 ·obtain rfl:i=c.toNat:=by omega
  rw[i2]at hN
  rw[hN]
  refine R (cj3 Zs e0 hc) ?_
  refine cv (by kernel_rfl) ?_
  refine R Zs ?_
  exact qV (by simp (disch:=first|assumption|omega) only[go_sem,push_cast,qB,qA]) (hb.fresh _ (by omega)) rfl (by first|rfl|exact(yS _).symm|simp|omega)
def V176:qH:=fun g' H Bd K=>∃(s:GSignature) (order:List Int),g'=[.agg (enc s).toArray,lst order]/\((sm s/\sm order/\rg order)/\K (iv (ordG s order)) H Bd)
@[go_sem ↓] theorem V176_eq (a:List GSymbol) (b:List Int):V176 [.agg #[lst a],lst b] H Bd K=((sm (GSignature.mk a)/\sm b/\rg b)/\K (iv (ordG (GSignature.mk a) b)) H Bd):=ex2 (GSignature.mk a) b rfl
def W176:qH:=fun g' H Bd K=>∃(ps vorder:Value),g'=[ps,vorder]/\Yld (qI H 1 ps) fun cs=>qQ V176 [.agg cs.toArray,vorder] H Bd K
@[go_sem ↓] theorem W176_eq (a b:Value):W176 [a,b] H Bd K=(Yld (qI H 1 a) fun cs=>qQ V176 (idS [.agg cs.toArray,b]) H Bd K):=px2 a b
theorem W176_ok:OK 176 W176:=by
 rintro _ H Bd K ⟨ps,vorder,rfl,cs,es,h⟩
 obtain⟨s,order,e,hpre,hK⟩:=h
 simp only[xG,and_true]at e
 obtain⟨Es,rfl⟩:=e
 obtain rfl:=qR Es
 refine fnp pok (uA.uB W204_ok) [(14,[0,1,2,3,4,5,6,7,8],[z0 0,z0 1,z0 2,z0 3,z0 4,z0 5,z0 6,z0 7,z0 8], .nil)] hK func176 ntmps176 call176 [.tmp 4] fun hb ha=>?_
 have Ps:=qM es (NB.vpok (ha ps (by simp)))
 simp only[qN]at Ps
 have Zs:=Ps.all 1 rfl
 have Ys:=jE (ha ps (by simp))
 refine jF pok fun cv=>?_
 obtain⟨h1,h2,h3⟩:=hpre
 have hss:sm s:=h1
 simp only[yN]at h1
 have hlen:=qS h1
 have hlen2:=qS h2
 refine R Zs ?_
 refine⟨fun hq=>?_,fun hq=>by unfold ordG;rw[if_pos (by omega)]⟩
 have hs:ordG s order=if order.any (fun n=> !isSym s n)=true then 3 else if order.Nodup then 0 else 6:=by unfold ordG;rw[if_neg (by omega)]
 rw[hs]
 refine jA (fun i=>∀b,b<i->∀y,order[b]? =some y->(!isSym s y)=false) (order.length) (fun i=>[(0,ps),(1,lst order),(5,iv i)]) (by simp) (by simp only[go_sem,push_cast,qB,qA]) ?_
 intro i Bi hIi hii hBi
 refine cv (by kernel_rfl) ?_
 rcases xM i (order.length)with hlti|hgei
 ·have e1:order[i]? =some order[i]:=xA hlti
  have hr:R64 order[i]:=h3 _ (xH hlti)
  refine R (cj4 Zs e1 hss hr) ?_
  refine⟨fun h=>fun b hb1 y hb2=>?_,fun h=>?_⟩
  ·by_cases e:b=i
   ·subst e;rw[e1]at hb2;cases hb2;simpa using h
   ·exact hIi b (by omega) y hb2
  ·rw[if_pos (any_hit hlti (by simpa using h))]
 ·refine R Zs ?_
  refine cv (by kernel_rfl) ?_
  refine R Zs ?_
  rw[if_neg (by rw[vL fun j hj x hx=>hIi j (by omega) x hx];simp)]
  refine jA (fun j=>∀a b x y,b<a->a<j->order[a]? =some x->order[b]? =some y->x≠y) (order.length) (fun j=>[(0,ps),(1,lst order),(6,iv j)]) (by simp) (by simp only[go_sem,push_cast,qB,qA]) ?_
  intro j Bj hIj hij hBj
  refine cv (by kernel_rfl) ?_
  rcases xM j (order.length)with hltj|hgej
  ·have e1:order[j]? =some order[j]:=xA hltj
   refine R (cj Zs e1) ?_
   refine jA (fun k=>∀b y,b<k->order[b]? =some y->order[j]≠y) (j) (fun k=>[(0,ps),(1,lst order),(6,iv j),(7,iv k)]) (by simp) (by simp only[go_sem,push_cast,qB,qA]) ?_
   intro k Bk hIk hik hBk
   refine cv (by kernel_rfl) ?_
   rcases xM k (j)with hltk|hgek
   ·have e2:order[k]? =some (order[k]'(by omega)):=xA _
    refine R (cj3 Zs e1 e2) ?_
    refine⟨fun h=>?_,fun h=>fun b y hb1 hb2=>?_⟩
    ·rw[if_neg (nodup_not hltk hltj h)]
    ·by_cases e:b=k
     ·subst e;rw[e2]at hb2;cases hb2;exact h
     ·exact hIk b y (by omega) hb2
   ·refine R Zs ?_
    intro a b x y h1 h2 h3 h4
    by_cases e:a=j
    ·subst e;rw[e1]at h3;cases h3;exact hIk b y (by omega) h4
    ·exact hIj a b x y h1 (by omega) h3 h4
  ·refine R Zs ?_
   refine cv (by kernel_rfl) ?_
   refine R Zs ?_
   rw[if_pos (nodup_of fun i j x y h1 h2 h3=>hIj i j x y h1 (by have:=(xR.1 h2).1;omega) h2 h3)]
def V177:qH:=fun g' H Bd K=>∃(s:GSignature) (l:List GEquation),g'=[.agg (enc s).toArray,lst l]/\((sm s/\sm l/\rg l/\kE s=0)/\K (iv (eqsG s l)) H Bd)
@[go_sem ↓] theorem V177_eq (a:List GSymbol) (b:List GEquation):V177 [.agg #[lst a],lst b] H Bd K=((sm (GSignature.mk a)/\sm b/\rg b/\kE (GSignature.mk a)=0)/\K (iv (eqsG (GSignature.mk a) b)) H Bd):=ex2 (GSignature.mk a) b rfl
def W177:qH:=fun g' H Bd K=>∃(ps vl:Value),g'=[ps,vl]/\Yld (qI H 1 ps) fun cs=>qQ V177 [.agg cs.toArray,vl] H Bd K
@[go_sem ↓] theorem W177_eq (a b:Value):W177 [a,b] H Bd K=(Yld (qI H 1 a) fun cs=>qQ V177 (idS [.agg cs.toArray,b]) H Bd K):=px2 a b
theorem W177_ok:OK 177 W177:=by
 rintro _ H Bd K ⟨ps,vl,rfl,cs,es,h⟩
 obtain⟨s,l,e,hpre,hK⟩:=h
 simp only[xG,and_true]at e
 obtain⟨Es,rfl⟩:=e
 obtain rfl:=qR Es
 refine fnp pok (uA.uB W175_ok) [] hK func177 ntmps177 call177 [.tmp 4] fun hb ha=>?_
 have Ps:=qM es (NB.vpok (ha ps (by simp)))
 simp only[qN]at Ps
 have Zs:=Ps.all 1 rfl
 have Ys:=jE (ha ps (by simp))
 refine jF pok fun cv=>?_
 obtain⟨h1,h2,h3,h4⟩:=hpre
 have hlt2:=qS h2
 refine R Zs ?_
 refine⟨fun hq=>?_,fun hq=>?_⟩
 ·unfold eqsG;rw[if_pos (by omega)]
 ·have hv:eqsG s l=vI (eqnG s) l:=if_neg (by omega)
  rw[hv]
  refine jA (fun i=>∀j,j<i->∀y,l[j]? =some y->eqnG s y=0) (l.length) (fun i=>[(0,ps),(1,lst l),(5,iv i)]) (fun j hj=>absurd hj (Nat.not_lt_zero _)) (by simp only[go_sem,push_cast,qB,qA]) ?_
  intro i Bi hIi hii hBi
  refine cv (by kernel_rfl) ?_
  rcases xM i (l.length)with hlti|hgei
  ·have e1:l[i]? =some l[i]:=xA hlti
   have h5:=yP h2 (xH hlti)
   have h6:=h3 _ (xH hlti)
   refine R (cj6 Zs e1 h1 h5 h6 h4) ?_
   refine⟨fun h j hj y hy=>?_,fun h=>(firstF_hit e1 hIi h).symm⟩
   ·by_cases e:j=i
    ·subst e;rw[e1]at hy;cases hy;exact h
    ·exact hIi j (by omega) y hy
  ·refine R Zs ?_
   refine cv (by kernel_rfl) ?_
   refine R Zs ?_
   exact(firstF_all fun x hx=>by
    obtain⟨j,hj,rfl⟩:=wO hx
    exact hIi j (by omega) _ (xA hj)).symm
end Go.Proofs.YtogofkjpbpgneaaGreatDoor
