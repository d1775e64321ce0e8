/- YtogofkjpbpgneaaGreatDoorF5 -/
import Derived.Test.YtogofkjpbpgneaaGreatDoorF4
set_option linter.unusedSimpArgs false
set_option linter.unusedVariables false
set_option maxRecDepth 20000
set_option maxHeartbeats 4000000
namespace Go.Proofs.YtogofkjpbpgneaaGreatDoor
open Go Go.SC Tryz
variable {H:AH} {Bd:Nat} {K:Value->AH->Nat->Prop}
def W142:qH:=fun g' H Bd K=>∃(xs:List Int),g'=[lst xs]/\((sm xs)/\K (iv (vI id xs)) H Bd)
@[go_sem ↓] theorem W142_eq (a:List Int):W142 [lst a] H Bd K=((sm a)/\K (iv (vI id a)) H Bd):=ex1 a rfl
theorem W142_ok:OK 142 W142:=by
 rintro _ H Bd K ⟨xs,rfl,hpre,hK⟩
 refine fnp pok uA [] hK func142 ntmps142 call142 [.tmp 2] fun hb ha=>?_
 refine jF pok fun cv=>?_
 have hlt2:=qS hpre
 refine R0 ?_
 refine jA (fun i=>∀j,j<i->∀y,xs[j]? =some y->id y=0) (xs.length) (fun i=>[(3,iv 0),(6,lst xs),(7,iv xs.length),(8,iv i)]) (fun j hj=>absurd hj (Nat.not_lt_zero _)) (by simp only[go_sem,push_cast,qB,qA]) ?_
 intro i Bi hIi hii hBi
 refine cv (by kernel_rfl) ?_
 rcases xM i (xs.length)with hlti|hgei
 ·have e1:xs[i]? =some xs[i]:=xA hlti
  refine R e1 ?_
  refine⟨fun h j hj y hy=>?_,fun h=>(firstF_hit e1 hIi h).symm⟩
  ·by_cases e:j=i
   ·subst e;rw[e1]at hy;cases hy;exact h
   ·exact hIi j (by omega) y hy
 ·refine R0 ?_
  refine cv (by kernel_rfl) ?_
  refine R0 ?_
  exact(firstF_all fun x hx=>by
   obtain⟨j,hj,rfl⟩:=wO hx
   exact hIi j (by omega) _ (xA hj)).symm
def W92b:qH:=fun g' H Bd K=>∃(xs:List Int),g'=[lst xs]/\((sm xs)/\K (iv (vI id xs)) H Bd)
@[go_sem ↓] theorem W92b_eq (a:List Int) (b:AH) (c:Nat) (d:Value->AH->Nat->Prop):W92b [lst a] b c d=((sm a)/\d (iv (vI id a)) b c):=ex1 a rfl
theorem W92b_ok:OK 92 W92b:=by
 rintro _ H Bd K ⟨xs,rfl,hpre,hK⟩
 refine fnp pok (uA.uB W142_ok) [] hK func92 ntmps92 call92 [.tmp 2] fun hb ha=>?_
 exact R hpre trivial
def W92:qH:=GiveT 0 W92b
@[go_sem ↓] theorem W92_eq (a:Value):W92 [a] H Bd K=qQ W92b (idS [giveV H a]) (giveH H a) Bd K:=(rfl)
theorem W92_ok:OK 92 W92:=GiveT_ok 0 W92b_ok
def W154:qH:=fun g' H Bd K=>∃(xs:List Int) (y:Int),g'=[lst xs,iv y]/\((sm xs)/\K (iv (fidx (fun x=>decide (y=x)) xs)) H Bd)
@[go_sem ↓] theorem W154_eq (a:List Int) (b:Int):W154 [lst a,iv b] H Bd K=((sm a)/\K (iv (fidx (fun x=>decide (b=x)) a)) H Bd):=ex2 a b rfl
theorem W154_ok:OK 154 W154:=by
 rintro _ H Bd K ⟨xs,y,rfl,hpre,hK⟩
 refine fnp pok uA [] hK func154 ntmps154 call154 [.tmp 4] fun hb ha=>?_
 refine jF pok fun cv=>?_
 have hlen:=qS hpre
 refine R0 ?_
 refine jA (fun i=>∀j,j<i->∀x,xs[j]? =some x->decide (y=x)=false) (xs.length) (fun i=>[(0,lst xs),(1,iv y),(7,iv xs.length),(8,iv i)]) (by simp) (by simp only[go_sem,push_cast,qB,qA]) ?_
 intro i Bi hIi hii hBi
 refine cv (by kernel_rfl) ?_
 rcases xM i (xs.length)with hlti|hgei
 ·have e1:xs[i]? =some xs[i]:=xA hlti
  refine R e1 ?_
  exact⟨fun h=>by rw[zC hlti hIi (by simpa using h)],fun h=>fun j hj x hx=>by
   by_cases e:j=i
   ·subst e;rw[e1]at hx;cases hx;simpa using h
   ·simpa using hIi j (by omega) x hx⟩
 ·refine R0 ?_
  refine cv (by kernel_rfl) ?_
  refine R0 ?_
  rw[vY fun j hj x hx=>hIi j (by omega) x hx]
def W104:qH:=fun g' H Bd K=>∃(xs:List Int) (y:Int),g'=[lst xs,iv y]/\((sm xs)/\K (.bool (xs.any (fun x=>decide (y=x)))) H Bd)
@[go_sem ↓] theorem W104_eq (a:List Int) (b:Int):W104 [lst a,iv b] H Bd K=((sm a)/\K (.bool (a.any (fun x=>decide (b=x)))) H Bd):=ex2 a b rfl
theorem W104_ok:OK 104 W104:=by
 rintro _ H Bd K ⟨xs,y,rfl,hpre,hK⟩
 refine fnp pok (uA.uB W154_ok) [] hK func104 ntmps104 call104 [.tmp 4] fun hb ha=>?_
 refine R hpre ?_
 exact fidx_ge _ xs
theorem L104_pure:PureV W104:=by
 rintro _ H Bd K ⟨x0,x1,rfl,hpre,hK⟩
 exact⟨_,by first|exact .bool _|exact .int _ _|exact .string _|exact vc_enc _,hK,fun H' K' hs h=>⟨x0,x1,rfl,hpre,h⟩⟩
def L104:qH:=LendA W104
@[go_sem ↓] theorem L104_eq (a b:Value):L104 [a,b] H Bd K=qQ W104 (idS [giveA H a,giveA H b]) H Bd K:=(rfl)
theorem L104_ok:OK 104 L104:=LendA_ok W104_ok L104_pure
@[go_sem ↓] def BW156 (d:GDisk) (n:Int):Tq:=fun H Bd K=>((sm d/\DiskOK d/\0<=n/\n<d.sectors.length)/\K (lst (yH d n)) H Bd)
def W156:qH:=fun g' H Bd K=>∃(d:GDisk) (n:Int),g'=[.agg (enc d).toArray,iv n]/\BW156 d n H Bd K
@[go_sem ↓] theorem W156_eq (a:List (List UInt8)) (b:List GPut) (c:Int):W156 [.agg #[lst a,lst b],iv c] H Bd K=BW156 (GDisk.mk a b) c H Bd K:=ex2 (GDisk.mk a b) c rfl
theorem W156_ok:OK 156 W156:=by
 rintro _ H Bd K ⟨d,n,rfl,hpre,hK⟩
 refine fnp pok (uA.uB W136_ok) [] hK func156 ntmps156 call156 [.tmp 4] fun hb ha=>?_
 obtain⟨h1,h2,h3,h4⟩:=hpre
 by_cases hw:0<=waitD d n
 ·have hlt:=wait_lt hw
  have e1:d.pending[(waitD d n).toNat]? =some d.pending[(waitD d n).toNat]:=xA hlt
  have hr:yH d n=d.pending[(waitD d n).toNat].bytes:=by unfold yH;rw[if_pos hw,e1];rfl
  exact R (cj4 h1 hw e1 hr) trivial
 ·have hlt:n.toNat<d.sectors.length:=by omega
  have e1:d.sectors[n.toNat]? =some d.sectors[n.toNat]:=xA hlt
  have hr:yH d n=d.sectors[n.toNat]:=by unfold yH;rw[if_neg hw,e1];rfl
  exact R (cj4 h1 hw e1 hr) trivial
@[go_sem ↓] def BW202 (p:GPage):Tq:=fun H Bd K=>((sm p/\R64 p.id)/\K (iv (pageF p)) H Bd)
def W202:qH:=fun g' H Bd K=>∃(p:GPage),g'=[.agg (enc p).toArray]/\BW202 p H Bd K
@[go_sem ↓] theorem W202_eq (a b:Int) (c:List UInt8):W202 [.agg #[iv a,iv b,lst c]] H Bd K=BW202 (GPage.mk a b c) H Bd K:=ex1 (GPage.mk a b c) rfl
theorem W202_ok:OK 202 W202:=by
 rintro _ H Bd K ⟨p,rfl,hpre,hK⟩
 refine fnp pok ((uA.uB W133_ok).uB W144_ok) [(1,[],[],(.k 5 (.grp false 7 11 4 [8,9,10,11] 12 none (.k 4 .nil) .nil)))] hK func202 ntmps202 call202 [.tmp 2] fun hb ha=>?_
 obtain⟨h1,h2⟩:=hpre
 simp only[sm_GPage]at h1
 have hlen:=qS h1.2.2
 refine R (cj h1 h2) ?_
 unfold pageF isPg
 all_goals first|done|trivial|((try simp only[Cnp,Imp]);grind)
@[go_sem ↓] def BW203 (p:GPage):Tq:=fun H Bd K=>((sm p/\pageF p=0)/\K (lst (packP p)) H Bd)
def W203:qH:=fun g' H Bd K=>∃(p:GPage),g'=[.agg (enc p).toArray]/\BW203 p H Bd K
@[go_sem ↓] theorem W203_eq (a b:Int) (c:List UInt8):W203 [.agg #[iv a,iv b,lst c]] H Bd K=BW203 (GPage.mk a b c) H Bd K:=ex1 (GPage.mk a b c) rfl
theorem W203_ok:OK 203 W203:=by
 rintro _ H Bd K ⟨p,rfl,hpre,hK⟩
 refine fnp pok ((uA.uB L138_ok).uB W137_ok) [] hK func203 ntmps203 call203 [.tmp 2] fun hb ha=>?_
 obtain⟨h1,h2⟩:=hpre
 have hp:=pageF_ok h2
 simp only[sm_GPage]at h1
 have h0:=packP0_flat p
 have hl0:=packP0_len p
 have hok:=flat_ok p.body
 have hpl:=padP_len (l:=yC p) (by omega)
 have hsr:=sum_rg (padP (yC p))
 have hend:qO (padP (yC p))++qO (jX (sumB 29 (padP (yC p))))=qO (packP p):=by rw[<-qK];rfl
 have hend2:=packP_len hp.2.2
 have htk2:List.take 94 (qO (padP (yC p)))=qO (padP (yC p)):=by
  have h:=flat_all (padP (yC p))
  rw[hpl,show Enc.k UInt8=1 from rfl,Nat.mul_one]at h
  exact h
 have hsmp:sm (padP (yC p)):=⟨by omega,fun _ _=>trivial⟩
 have hpn:=jQ (sumB 29 (padP (yC p)))
 have hok2:=flat_ok (jX (sumB 29 (padP (yC p))))
 have hm:(94-(3+(p.body.length:Int))).toNat=91-p.body.length:=by omega
 have hzm:jU (91-p.body.length) [Value.int .u8 0]=qO (List.replicate (91-p.body.length) (0:UInt8)):=(zmake_one _ _).trans (flat_zeros _).symm
 have hok3:=flat_ok (List.replicate (91-p.body.length) (0:UInt8))
 have htk:List.take (3+p.body.length) (Value.int .u8 (p.kind%256)::Value.int .u8 (p.id%256)::Value.int .u8 ((p.body.length:Int)%256)::qO p.body)=qO (yC p):=by
  have h:=flat_all (yC p)
  rw[hl0,show Enc.k UInt8=1 from rfl,Nat.mul_one,Nat.add_comm]at h
  rw[h0]at h ⊢
  exact h
 have hpad:qO (yC p)++qO (List.replicate (91-p.body.length) (0:UInt8))=qO (padP (yC p)):=by
  rw[<-qK];unfold padP
  rw[hl0,show 94-(p.body.length+3)=91-p.body.length by omega]
 have h94:3+p.body.length+(91-p.body.length)=94:=by omega
 refine RA (cj11 hok hok2 hok3 hm hzm htk hpad h94 htk2 hsmp hend) ?_
 refine qV (qJ _ _ _) ?_ rfl ?_
 ·exact hb.fresh _ (by omega)
 ·rw[hend2,hpn]
def W155:qH:=fun g' H Bd K=>∃(data:List UInt8) (id:Int),g'=[lst data,iv id]/\((sm data/\R64 id)/\K (.agg (enc (readPR data id)).toArray) H Bd)
@[go_sem ↓] theorem W155_eq (a:List UInt8) (b:Int):W155 [lst a,iv b] H Bd K=((sm a/\R64 b)/\K (.agg (enc (readPR a b)).toArray) H Bd):=ex2 a b rfl
theorem W155_ok:OK 155 W155:=by
 rintro _ H Bd K ⟨data,id,rfl,hpre,hK⟩
 refine fnp pok (((((((uA.uB W144_ok).uB W138_ok).uB W137_ok).uB W102_ok).uB W109_ok).uB W202_ok).uB W203_ok) [(5,[0,1,5,6,2,3,4,7,8],[z0 0,z0 1,z0 5,z0 6,z0 2,z0 3,z0 4,z0 7,z0 8], .nil),(12,[0,1,2,3,4,5,6,7,8,11,9,10,12],[z0 0,z0 1,z0 2,z0 3,z0 4,z0 5,z0 6,z0 7,z0 8,z0 11,⟨9,[],[3,2]⟩,z0 10,⟨12,[11],[]⟩], .nil),(13,[],[],(.k 4 (.grp false 53 58 5 [54,55,56,57,58] 59 none (.k 5 .nil) .nil)))] hK func155 ntmps155 call155 [.cell 4 240] fun hb ha=>?_
 obtain⟨hsd,hid⟩:=hpre
 have hlen:=qS hsd
 by_cases h1:data.length=96
 case neg=>
  have e:readPR data id=⟨1,⟨0,0,[]⟩⟩:=by unfold readPR;rw[if_pos h1];rfl
  exact R (cj h1 e) trivial
 by_cases hi:isPg id=true
 case neg=>
  have e:readPR data id=⟨3,⟨0,0,[]⟩⟩:=by unfold readPR;rw[if_neg (by simpa using h1),if_pos (by simpa using hi)];rfl
  exact R (cj4 h1 hid hi e) trivial
 have hi2:=of_decide_eq_true hi
 have hr:readPR data id=⟨(qY data id).2,(qY data id).1⟩:=by unfold readPR;rw[if_neg (by simpa using h1),if_neg (by simp[hi])]
 rw[hr]
 have hpre:data.length=96/\2<=id/\id<=63:=⟨h1,hi2⟩
 have e0:data[0]? =some (data[0]'(by omega)):=xA _
 have e1:data[1]? =some (data[1]'(by omega)):=xA _
 have e2:data[2]? =some (data[2]'(by omega)):=xA _
 have hsr:=sum_rg (data.take 94)
 have b0:((data[0]'(by omega)).toNat:Int)<=255:=by have:=(data[0]'(by omega)).toNat_lt;omega
 have b1:((data[1]'(by omega)).toNat:Int)<=255:=by have:=(data[1]'(by omega)).toNat_lt;omega
 have b2:((data[2]'(by omega)).toNat:Int)<=255:=by have:=(data[2]'(by omega)).toNat_lt;omega
 have f0:data.getD 0 0=data[0]'(by omega):=by rw[xF,e0];rfl
 have f1:data.getD 1 0=data[1]'(by omega):=by rw[xF,e1];rfl
 have f2:data.getD 2 0=data[2]'(by omega):=by rw[xF,e2];rfl
 have htk:data.take 96=data:=xO (by omega)
 have hl94:(data.take 94).length<=2000:=by rw[xQ];omega
 have hsm:sm (data.take 94):=⟨by rw[xQ];omega,fun _ _=>trivial⟩
 have hn:((3:Int)+((data[2]'(by omega)).toNat:Int)).toNat=3+(data[2]'(by omega)).toNat:=by omega
 have hdt:List.drop 3 (List.take (3+(data[2]'(by omega)).toNat) data)=List.take (data[2]'(by omega)).toNat (List.drop 3 data):=by rw[List.drop_take,Nat.add_sub_cancel_left]
 have hG:readG data id=⟨((data[0]'(by omega)).toNat:Int),id,List.take (data[2]'(by omega)).toNat (List.drop 3 data)⟩:=by unfold readG;rw[f0,f2]
 have hlb:(List.take (data[2]'(by omega)).toNat (List.drop 3 data)).length<=93:=by rw[xQ,xI];omega
 have hsb:sm (List.take (data[2]'(by omega)).toNat (List.drop 3 data)):=⟨by omega,fun _ _=>trivial⟩
 have hsp:sm (readG data id):=by rw[hG];exact⟨trivial,trivial,hsb⟩
 have hsp2:sm (⟨((data[0]'(by omega)).toNat:Int),id,List.take (data[2]'(by omega)).toNat (List.drop 3 data)⟩:GPage):=⟨trivial,trivial,hsb⟩
 have b3:((data[0]'(by omega)).toNat:Int)<=9223372036854775807:=by omega
 obtain⟨h2,h3⟩:=hi2
 have h64:=hid
 have hlb2:(List.take (data[2]'(by omega)).toNat (List.drop 3 data)).length<=1000000:=by omega
 by_cases q1:jX (sumB 29 (data.take 94))=data.drop 94
 case neg=>
  have e:qY data id=(⟨0,0,[]⟩,11):=by unfold qY;rw[if_pos q1];rfl
  simp (maxSteps:=2000000) (disch:=first|exact dq|fail) only[go_sem,push_cast,qB,qA,qL hb,qE hb,h1,hid,hi,hl94,e0,e1,e2,if_pos b3,wK,eq_self,true_and,htk,hsm,q1,e]
 by_cases q2:((data[1]'(by omega)).toNat:Int)=id
 case neg=>
  have e:qY data id=(⟨0,0,[]⟩,8):=by unfold qY;rw[if_neg (by simpa using q1),if_pos (by rw[f1];exact q2)];rfl
  simp (maxSteps:=2000000) (disch:=first|exact dq|fail) only[go_sem,push_cast,qB,qA,qL hb,qE hb,h1,hid,hi,hl94,e0,e1,e2,if_pos b3,wK,eq_self,true_and,htk,hsm,q1,q2,e]
 by_cases q3:(91:Int)<((data[2]'(by omega)).toNat:Int)
 ·have e:qY data id=(⟨0,0,[]⟩,5):=by unfold qY;rw[if_neg (by simpa using q1),if_neg (by rw[f1];simpa using q2),if_pos (by rw[f2];omega)];rfl
  simp (maxSteps:=2000000) (disch:=first|exact dq|fail) only[go_sem,push_cast,qB,qA,qL hb,qE hb,h1,hid,hi,hl94,e0,e1,e2,if_pos b3,wK,eq_self,true_and,htk,hsm,q1,q2,q3,e]
 have hR:qY data id=if pageF (readG data id)≠0\/packP (readG data id)≠data then(noPg,5)else(readG data id,0):=by unfold qY;rw[if_neg (by simpa using q1),if_neg (by rw[f1];simpa using q2),if_neg (by rw[f2];omega)]
 by_cases q4:pageF (readG data id)=0
 case neg=>
  have e:qY data id=(⟨0,0,[]⟩,5):=by rw[hR,if_pos (.inl q4)];rfl
  rw[hG]at q4
  simp (maxSteps:=2000000) (disch:=first|exact dq|fail) only[go_sem,push_cast,qB,qA,qL hb,qE hb,h1,hid,hi,hl94,e0,e1,e2,if_pos b3,wK,eq_self,true_and,htk,hsm,q1,q2,q3,hn,hdt,hlb2,hsp2,h64,HB.no hb,q4,e]
 by_cases q5:packP (readG data id)=data
 case neg=>
  have e:qY data id=(⟨0,0,[]⟩,5):=by rw[hR,if_pos (.inr q5)];rfl
  rw[hG]at q4 q5
  simp (maxSteps:=2000000) (disch:=first|exact dq|fail) only[go_sem,push_cast,qB,qA,qL hb,qE hb,h1,hid,hi,hl94,e0,e1,e2,if_pos b3,wK,eq_self,true_and,htk,hsm,q1,q2,q3,hn,hdt,hlb2,hsp2,h64,HB.no hb,q4,q5,e]
 have e:qY data id=(⟨((data[0]'(by omega)).toNat:Int),id,List.take (data[2]'(by omega)).toNat (List.drop 3 data)⟩,0):=by rw[hR,if_neg (by simp[q4,q5]),hG]
 rw[hG]at q4 q5
 simp (maxSteps:=2000000) (disch:=first|exact dq|fail) only[go_sem,push_cast,qB,qA,qL hb,qE hb,h1,hid,hi,hl94,e0,e1,e2,if_pos b3,wK,eq_self,true_and,htk,hsm,q1,q2,q3,hn,hdt,hlb2,hsp2,h64,HB.no hb,q4,q5,e]
@[go_sem ↓] def BW105 (d:GDisk) (id:Int):Tq:=fun H Bd K=>((sm d/\DiskOK d/\R64 id)/\K (.tuple #[.agg (enc ((pageD d id).1)).toArray,iv ((pageD d id).2)]) H Bd)
def W105:qH:=fun g' H Bd K=>∃(d:GDisk) (id:Int),g'=[.agg (enc d).toArray,iv id]/\BW105 d id H Bd K
@[go_sem ↓] theorem W105_eq (a:List (List UInt8)) (b:List GPut) (c:Int):W105 [.agg #[lst a,lst b],iv c] H Bd K=BW105 (GDisk.mk a b) c H Bd K:=ex2 (GDisk.mk a b) c rfl
theorem W105_ok:OK 105 W105:=by
 rintro _ H Bd K ⟨d,id,rfl,hpre,hK⟩
 refine yF pok (((uA.uB W103_ok).uB W156_ok).uB W155_ok) [(1,[],[],(.k 3 (.grp false 9 13 4 [10,11,12,13] 14 none (.k 4 .nil) .nil))),(4,[0,1,2,3,4,5],[z0 0,z0 1,z0 2,z0 3,⟨4,[],[3]⟩,z0 5], .nil)] _ hK func105 rfl (rs:=[.cell 4 187, .tmp 5]) rfl ntmps105 (by simp) call105 (by kernel_rfl) (fun ha hb=>tup_nb ⟨agg_nb _ _, .int _ _,trivial⟩) (fun hb ha=>?_)
 obtain⟨h1,h2,h3⟩:=hpre
 have hl:=h2.len
 by_cases hr:2<=id/\id<=(d.sectors.length:Int)-1
 case neg=>
  have e:pageD d id=(⟨0,0,[]⟩,3):=by unfold pageD;rw[if_pos hr];rfl
  by_cases hr2:id<2
  ·exact R (cj4 h1 h3 hr2 e) trivial
  ·have hr3:¬id<=(d.sectors.length:Int)-1:=fun h=>hr ⟨by omega,h⟩
   exact R (cj5 h1 h3 hr2 hr3 e) trivial
 obtain⟨hr1,hr2⟩:=hr
 have hlen:=readD_len h2 (n:=id) (by omega) (by omega)
 have hsm:sm (yH d id):=⟨by omega,fun _ _=>trivial⟩
 have e:pageD d id=qY (yH d id) id:=by unfold pageD;rw[if_neg (by simp;omega)]
 have hpg:isPg id=true:=decide_eq_true ⟨hr1,by omega⟩
 have hR:readPR (yH d id) id=⟨(qY (yH d id) id).2,(qY (yH d id) id).1⟩:=by unfold readPR;rw[if_neg (by simp[hlen]),if_neg (by simp[hpg])]
 exact RA (cj8 h1 h2 h3 hr1 hr2 hsm hR e) trivial
def W101:qH:=RdT (fun q=> .bool (endV q)) (fun q=>q)
@[go_sem ↓] theorem W101_eq (a:Nat):W101 [pt a] H Bd K=(Yld (H a) fun b=>Yld (rdOf b) fun q=>(q.1.length<=1000000)/\K (.bool (endV q)) (upd H a (some ⟨[lst q.1, .bool q.2],true⟩)) Bd):=RdT_eq _ _ a H Bd K
theorem W101_ok:OK 101 W101:=by
 rintro _ H Bd K ⟨n,rfl,b0,hb0,q,hq,h1,hK⟩
 obtain rfl:=rdOf_out hq
 have hK:K (.bool (endV q)) (upd H n (some ⟨[lst (q).1, .bool (q).2],true⟩)) Bd:=hK
 refine fn_set pok uA [(1,[],[],(.k 6 (.grp true 8 14 6 [9,10,11,12,13,14] 15 none (.k 6 .nil) (.k 1 .nil))))] _ hK (fun hh=>hb_setR hh hb0 _) func101 rfl (rs:=[.tmp 2]) rfl ntmps101 (by simp) call101 (by kernel_rfl) (fun ha hb=> .bool _) (fun hb ha=>?_)
 obtain⟨xs,f⟩:=q
 have hnB:=zI hb hb0
 have hLe:=le_own hb0
 simp only[rdB]at hb0 hLe
 simp only at h1
 cases f with
 |true=>
  have e1:endV (xs,true)=false:=rfl
  rw[e1]
  exact R (cj hb0 hLe) trivial
 |false=>
  have e1:endV (xs,false)=decide (xs.length=0):=rfl
  rw[e1]
  refine R (cj hb0 hLe) ?_
  simp
def W264:qH:=fun g' H Bd K=>∃(k:List UInt8),g'=[lst k]/\((sm k)/\K (iv (if keyBad k=true then 2 else 0)) H Bd)
@[go_sem ↓] theorem W264_eq (a:List UInt8):W264 [lst a] H Bd K=((sm a)/\K (iv (if keyBad a=true then 2 else 0)) H Bd):=ex1 a rfl
theorem W264_ok:OK 264 W264:=by
 rintro _ H Bd K ⟨k,rfl,hpre,hK⟩
 refine fnp pok uA [(1,[],[],(.k 4 (.grp false 6 9 3 [7,8,9] 10 none (.k 3 .nil) .nil)))] hK func264 ntmps264 call264 [.tmp 2] fun hb ha=>?_
 have hlen:=qS hpre
 refine R0 ?_
 unfold keyBad
 all_goals first|done|trivial|((try simp only[Cnp,Imp]);grind)
theorem G243(g:Nat)(caps:Array Value)(p:Int->Bool)(xs:List Int)(H:AH)(Bd:Nat)(K:Value->AH->Nat->Prop)(hsm:sm xs)(hg:∀x∈xs,∀B,Bd<=B->∀K':Value->AH->Nat->Prop,K' (.bool (p x)) H B->SCalls Tryz.prog g (idS ((iv (x))::caps.toList)) H B K')(hK:K (iv (fidx p xs)) H Bd):SCalls Tryz.prog 243 [lst xs, .func (.func g) #[] caps] H Bd K:=by
 refine yF pok uA [] _ hK func243 rfl (rs:=[.tmp 4]) rfl ntmps243 (by simp) call243 (by kernel_rfl) (fun ha hb=> .int _ _) (fun hb ha=>?_)
 refine jF pok fun cv=>?_
 have hlen:=qS hsm
 refine R0 ?_
 refine jA (fun i=>∀j,j<i->∀x,xs[j]? =some x->p x=false) (xs.length) (fun i=>[(0,lst xs),(1, .func (.func g) #[] caps),(7,iv xs.length),(8,iv i)]) (by simp) (by simp only[go_sem,push_cast,qB,qA]) ?_
 intro i Bi hIi hii hBi
 refine cv (by kernel_rfl) ?_
 rcases xM i (xs.length)with hlti|hgei
 ·have e1:xs[i]? =some xs[i]:=xA hlti
  refine R e1 ?_
  refine hg _ (xH hlti) _ (by omega) _ ?_
  refine R e1 ?_
  exact⟨fun h=>by rw[zC hlti hIi h],fun h=>fun j hj x hx=>by
   by_cases e:j=i
   ·subst e;rw[e1]at hx;cases hx;simpa using h
   ·exact hIi j (by omega) x hx⟩
 ·refine R0 ?_
  refine cv (by kernel_rfl) ?_
  refine R0 ?_
  rw[vY fun j hj x hx=>hIi j (by omega) x hx]
theorem G209(g:Nat)(caps:Array Value)(p:Int->Bool)(xs:List Int)(H:AH)(Bd:Nat)(K:Value->AH->Nat->Prop)(hsm:sm xs)(hg:∀x∈xs,∀B,Bd<=B->∀K':Value->AH->Nat->Prop,K' (.bool (p x)) H B->SCalls Tryz.prog g (idS ((iv (x))::caps.toList)) H B K')(hK:K (.bool (xs.any p)) H Bd):SCalls Tryz.prog 209 [lst xs, .func (.func g) #[] caps] H Bd K:=by
 refine yF pok uA [] _ hK func209 rfl (rs:=[.tmp 4]) rfl ntmps209 (by simp) call209 (by kernel_rfl) (fun ha hb=> .bool _) (fun hb ha=>?_)
 refine R0 ?_
 refine G243 _ _ p xs _ _ _ hsm hg ?_
 refine R0 ?_
 exact fidx_ge p xs
def W265:qH:=fun g' H Bd K=>∃(v:Int),g'=[iv v]/\(K (.bool (vBad v)) H Bd)
theorem W265_ok:OK 265 W265:=by
 rintro _ H Bd K ⟨v,rfl,hK⟩
 refine fnp pok (uA.uB W133_ok) [] hK func265 ntmps265 call265 [.tmp 2] fun hb ha=>?_
 refine R0 ?_
 unfold vBad
 all_goals first|done|trivial|((try simp only[Cnp,Imp]);grind)
def V209_265:qH:=fun g' H Bd K=>∃(xs:List Int),g'=[lst xs]/\((sm xs)/\K (.bool (xs.any (fun v:Int=>vBad v))) H Bd)
@[go_sem ↓] theorem V209_265_eq (a:List Int):V209_265 [lst a] H Bd K=((sm a)/\K (.bool (a.any (fun v:Int=>vBad v))) H Bd):=ex1 a rfl
def W209_265:qH:=fun g' H Bd K=>∃(vxs:Value),g'=[vxs, .func (.func 265) #[] #[]]/\qQ V209_265 [vxs] H Bd K
@[go_sem ↓] theorem W209_265_eq (a:Value):W209_265 [a, .func (.func 265) #[] #[]] H Bd K=(qQ V209_265 (idS [a]) H Bd K):=by
 refine propext ⟨fun h=>?_,fun h=>⟨_,rfl,h⟩⟩
 obtain⟨vxs',e,h⟩:=h
 simp only[xG,Value.func.injEq,jD,xG,and_true,true_and]at e
 obtain rfl:=e
 exact h
theorem W209_265_ok:OK 209 W209_265:=by
 rintro _ H Bd K ⟨vxs,rfl,h⟩
 obtain⟨xs,e,hpre,hK⟩:=h
 simp only[xG,and_true]at e
 obtain rfl:=e
 refine G209 265 #[] (fun v:Int=>vBad v) xs H Bd K hpre (fun x hx B hB K' hk=>?_) hK
 exact W265_ok _ _ _ _ ⟨x,rfl,hk⟩
def W266:qH:=fun g' H Bd K=>∃(k:Int),g'=[iv k]/\(K (.bool (pBad k)) H Bd)
theorem W266_ok:OK 266 W266:=by
 rintro _ H Bd K ⟨k,rfl,hK⟩
 refine fnp pok (uA.uB W144_ok) [] hK func266 ntmps266 call266 [.tmp 2] fun hb ha=>?_
 refine R0 ?_
 unfold pBad
 all_goals first|done|trivial|((try simp only[Cnp,Imp]);grind)
def V209_266:qH:=fun g' H Bd K=>∃(xs:List Int),g'=[lst xs]/\((sm xs)/\K (.bool (xs.any (fun k:Int=>pBad k))) H Bd)
@[go_sem ↓] theorem V209_266_eq (a:List Int):V209_266 [lst a] H Bd K=((sm a)/\K (.bool (a.any (fun k:Int=>pBad k))) H Bd):=ex1 a rfl
def W209_266:qH:=fun g' H Bd K=>∃(vxs:Value),g'=[vxs, .func (.func 266) #[] #[]]/\qQ V209_266 [vxs] H Bd K
@[go_sem ↓] theorem W209_266_eq (a:Value):W209_266 [a, .func (.func 266) #[] #[]] H Bd K=(qQ V209_266 (idS [a]) H Bd K):=by
 refine propext ⟨fun h=>?_,fun h=>⟨_,rfl,h⟩⟩
 obtain⟨vxs',e,h⟩:=h
 simp only[xG,Value.func.injEq,jD,xG,and_true,true_and]at e
 obtain rfl:=e
 exact h
theorem W209_266_ok:OK 209 W209_266:=by
 rintro _ H Bd K ⟨vxs,rfl,h⟩
 obtain⟨xs,e,hpre,hK⟩:=h
 simp only[xG,and_true]at e
 obtain rfl:=e
 refine G209 266 #[] (fun k:Int=>pBad k) xs H Bd K hpre (fun x hx B hB K' hk=>?_) hK
 exact W266_ok _ _ _ _ ⟨x,rfl,hk⟩
def W209_265_266:qH:=fun args H Bd K=>W209_265 args H Bd K\/W209_266 args H Bd K
@[go_sem ↓] theorem W209_265_266_eq0 (v:Value):W209_265_266 [v, .func (.func 265) #[] #[]] H Bd K=W209_265 [v, .func (.func 265) #[] #[]] H Bd K:=propext ⟨fun h=>h.resolve_right (by rintro⟨_,e,_⟩;simp at e),fun h=> .inl h⟩
@[go_sem ↓] theorem W209_265_266_eq1 (v:Value):W209_265_266 [v, .func (.func 266) #[] #[]] H Bd K=W209_266 [v, .func (.func 266) #[] #[]] H Bd K:=propext ⟨fun h=>h.resolve_left (by rintro⟨_,e,_⟩;simp at e),fun h=> .inr h⟩
theorem W209_265_266_ok:OK 209 W209_265_266:=fun args H Bd K h=>h.elim (W209_265_ok args H Bd K) (W209_266_ok args H Bd K)
def W257:qH:=fun g' H Bd K=>∃(n:GNode),g'=[.agg (enc n).toArray]/\((sm n)/\K (iv (kS n)) H Bd)
@[go_sem ↓] theorem W257_eq (a:Bool) (b:List (List UInt8)) (c d:List Int):W257 [.agg #[.bool a,lst b,lst c,lst d]] H Bd K=((sm (GNode.mk a b c d))/\K (iv (kS (GNode.mk a b c d))) H Bd):=ex1 (GNode.mk a b c d) rfl
theorem W257_ok:OK 257 W257:=by
 rintro _ H Bd K ⟨n,rfl,hpre,hK⟩
 refine fnp pok (((uA.uB W264_ok).uB W80_ok).uB W209_265_266_ok) [(13,[0,1,2,3,4,5,6,7,8,9,10,11,12],[z0 0,z0 1,z0 2,z0 3,z0 4,z0 5,z0 6,z0 7,z0 8,z0 9,z0 10,z0 11,z0 12], .nil),(16,[],[],(.k 8 (.grp false 53 57 4 [54,55,56,57] 58 none (.k 4 .nil) .nil))),(21,[],[],(.k 5 (.grp false 66 70 4 [67,68,69,70] 71 none (.k 4 .nil) (.k 1 (.grp false 72 80 8 [73,74,75,76,77,78,79,80] 81 none (.k 8 .nil) .nil)))))] hK func257 ntmps257 call257 [.tmp 2] fun hb ha=>?_
 refine jF pok fun cv=>?_
 have hss:=hpre
 simp only[sm_GNode]at hpre
 obtain⟨_,hk,hv,hc⟩:=hpre
 have hlk:=qS hk
 have hlv:=qS hv
 have hlc:=qS hc
 by_cases h4:4<n.keys.length
 ·have e:kS n=2:=by unfold kS;rw[if_pos h4]
  exact R (cj h4 e) trivial
 refine R h4 ?_
 refine jA (fun i=>∀j,j<i->∀x,n.keys[j]? =some x->keyBad x=false) (n.keys.length) (fun i=>[(1,pt Bd),(12,lst n.keys),(13,iv n.keys.length),(14,iv i)]) (by simp) (by simp only[go_sem,push_cast,qB,qA]) ?_
 intro i Bi hIi hii hBi
 refine cv (by kernel_rfl) ?_
 rcases xM i (n.keys.length)with hlti|hgei
 ·have e1:n.keys[i]? =some n.keys[i]:=xA hlti
  have hx:=yP hk (xH hlti)
  by_cases hb1:keyBad n.keys[i]=true
  ·have e:kS n=2:=by unfold kS;rw[if_neg h4,if_pos (any_hit hlti hb1)]
   exact R (cj4 e1 hx hb1 e) trivial
  ·refine R (cj3 e1 hx hb1) ?_
   intro j hj x hx2
   by_cases e:j=i
   ·subst e;rw[e1]at hx2;cases hx2;simpa using hb1
   ·exact hIi j (by omega) x hx2
 refine R0 ?_
 have hany:n.keys.any keyBad=false:=vL fun j hj x hx=>hIi j (by omega) x hx
 refine cv (by kernel_rfl) ?_
 refine R0 ?_
 have hg1:kS n=if riseK n.keys=false then 1 else if n.leaf=true then leafG n else innerG n:=by unfold kS;rw[if_neg h4,if_neg (by rw[hany];exact Bool.false_ne_true)]
 refine jA (fun k=>∀j,j<k->∀x y,n.keys[j]? =some x->n.keys[j+1]? =some y->Lib.compareBytes x y<0) (n.keys.length-1) (fun k=>[(1,pt Bd),(6,iv ((k:Int)+1))]) (by simp) (by simp only[go_sem,push_cast,qB,qA]) ?_
 intro k Bk hIk hik hBk
 refine cv (by kernel_rfl) ?_
 rcases xM k (n.keys.length-1)with hltk|hgek
 ·have e1:n.keys[k]? =some (n.keys[k]'(by omega)):=xA _
  have e2:n.keys[k+1]? =some (n.keys[k+1]'(by omega)):=xA _
  have g1:=yP hk (xH (show k<n.keys.length by omega))
  have g2:=yP hk (xH (show k+1<n.keys.length by omega))
  have c1:((k:Int)+1-1).toNat=k:=by omega
  have c2:((k:Int)+1).toNat=k+1:=by omega
  by_cases hq:0<=Lib.compareBytes (n.keys[k]'(by omega)) (n.keys[k+1]'(by omega))
  ·have e:kS n=1:=by rw[hg1,if_pos (riseK_no e1 e2 (by omega))]
   exact R (cj8 e1 e2 c1 c2 g1 g2 hq e) trivial
  ·refine R (cj7 e1 e2 c1 c2 g1 g2 hq) ?_
   intro j hj x y j1 j2
   by_cases e:j=k
   ·subst e;rw[e1]at j1;rw[e2]at j2;cases j1;cases j2;omega
   ·exact hIk j (by omega) x y j1 j2
 ·refine R0 ?_
  refine cv (by kernel_rfl) ?_
  have hr:riseK n.keys=true:=riseK_yes fun j x y j1 j2=>hIk j (by have:=(xR.1 j2).1;omega) x y j1 j2
  have hg2:kS n=if n.leaf=true then leafG n else innerG n:=by rw[hg1,if_neg (by simp[hr])]
  by_cases hl:n.leaf=true
  ·rw[if_pos hl]at hg2
   rw[hg2]
   by_cases hq:n.values.length≠n.keys.length\/0<n.kids.length
   ·have e:leafG n=1:=by unfold leafG;rw[if_pos hq]
    by_cases hq1:n.values.length=n.keys.length
    ·have hq2:0<n.kids.length:=hq.resolve_left (by simpa using hq1)
     exact R (cj4 hl hq1 hq2 e) trivial
    ·have hq3:¬(n.values.length:Int)=n.keys.length:=by omega
     exact R (cj4 hl hq1 hq3 e) trivial
   ·have hq1:n.values.length=n.keys.length:=Decidable.not_not.1 fun h=>hq (.inl h)
    have hq2:¬0<n.kids.length:=fun h=>hq (.inr h)
    have e:leafG n=if n.values.any vBad=true then 3 else 0:=by unfold leafG;rw[if_neg hq]
    rw[e]
    by_cases hq3:n.values.any vBad=true
    ·rw[if_pos hq3]
     exact R (cj5 hl hq1 hq2 hv hq3) trivial
    ·rw[if_neg hq3]
     exact R (cj5 hl hq1 hq2 hv hq3) trivial
  ·rw[if_neg hl]at hg2
   rw[hg2]
   have hl2:n.leaf=false:=by simpa using hl
   by_cases hq:n.keys.length<1\/0<n.values.length\/n.kids.length≠n.keys.length+1
   ·have e:innerG n=1:=by unfold innerG;rw[if_pos hq]
    by_cases hq1:n.keys.length<1
    ·have hq0:n.keys.length=0:=by omega
     exact R (cj4 hl2 hq1 hq0 e) trivial
    ·have hq0:¬(n.keys.length:Int)=0:=by omega
     by_cases hq2:0<n.values.length
     ·exact R (cj5 hl2 hq1 hq0 hq2 e) trivial
     ·have hq3:¬(n.kids.length:Int)=(n.keys.length:Int)+1:=by
       rcases hq with h|h|h <;>omega
      exact R (cj6 hl2 hq1 hq0 hq2 hq3 e) trivial
   ·have hq1:¬n.keys.length<1:=fun h=>hq (.inl h)
    have hq0:¬(n.keys.length:Int)=0:=by omega
    have hq2:¬0<n.values.length:=fun h=>hq (.inr (.inl h))
    have hq3:n.kids.length=n.keys.length+1:=Decidable.not_not.1 fun h=>hq (.inr (.inr h))
    have e:innerG n=if n.kids.any pBad=true then 3 else 0:=by unfold innerG;rw[if_neg hq]
    rw[e]
    by_cases hq4:n.kids.any pBad=true
    ·rw[if_pos hq4]
     exact R (cj7 hl2 hq1 hq0 hq2 hq3 hc hq4) trivial
    ·rw[if_neg hq4]
     exact R (cj7 hl2 hq1 hq0 hq2 hq3 hc hq4) trivial
@[go_sem ↓] def BW258 (n:GNode):Tq:=fun H Bd K=>((sm n/\kS n=0)/\K (lst (packN' n)) H Bd)
def W258:qH:=fun g' H Bd K=>∃(n:GNode),g'=[.agg (enc n).toArray]/\BW258 n H Bd K
@[go_sem ↓] theorem W258_eq (a:Bool) (b:List (List UInt8)) (c d:List Int):W258 [.agg #[.bool a,lst b,lst c,lst d]] H Bd K=BW258 (GNode.mk a b c d) H Bd K:=ex1 (GNode.mk a b c d) rfl
theorem W258_ok:OK 258 W258:=by
 rintro _ H Bd K ⟨n,rfl,hpre,hK⟩
 refine fnp pok (uA.uB W137_ok) [] hK func258 ntmps258 call258 [.tmp 2] fun hb ha=>?_
 refine jF pok fun cv=>?_
 obtain⟨hss,hz0⟩:=hpre
 have hN:=node_ok hz0
 have hkl:=hN.kl
 simp only[sm_GNode]at hss
 have hlv:=qS hss.2.2.1
 have hlc:=qS hss.2.2.2
 have h0:qO (accN n 0)=[.int .u8 ((n.keys.length:Int)%256)]:=by
  show [Value.int .u8 ((u8z (n.keys.length:Int)).toNat:Int)]=_
  rw[kZ]
 have h00:(accN n 0).length=1:=rfl
 refine R0 ?_
 refine tr_st (X:=Nat×Nat×Nat) (fun x=>x.1<=n.keys.length/\Bd+1<=x.2.1/\0<x.2.2) (fun x=>n.keys.length-x.1) (fun x=>[(1,pt Bd),(3,sv (x.2.1) 1 (accN n x.1).length x.2.2),(14,lst n.keys),(15,iv n.keys.length),(16,iv x.1)]) (fun x=>upd (upd H Bd (some ⟨[.bool n.leaf,lst n.keys,lst n.values,lst n.kids],true⟩)) x.2.1 (some ⟨qO (accN n x.1),true⟩)) (0,Bd+1,2) (⟨xT _,xC _,Nat.succ_pos _⟩) (by simp only[go_sem,push_cast,qB,qA,h0,h00]<;>exact cT) (by first|exact Le.refl _|simp (disch:=first|assumption|omega) only[go_sem,push_cast,qB,qA,qU,jP,h0,h00]) ?_
 intro x Bx hIx hBx hbx Fx hFx
 refine cv (by kernel_rfl) ?_
 obtain⟨i,m,c⟩:=x
 obtain⟨i1,i2,i3⟩:=hIx
 simp only at i1 i2 i3 hbx
 have hmx:=hb_lt hbx
 have hz:(c=0)=False:=eq_false (by omega)
 have hal:=accN_len hN i i1
 rcases xM i n.keys.length with hlt|hge
 ·have e1:n.keys[i]? =some n.keys[i]:=xA hlt
  have hkk:=hN.key _ (xH hlt)
  have hok:=flat_ok n.keys[i]
  have g1:n.keys.getD i []=n.keys[i]:=by rw[xF,e1];rfl
  have hta:List.take (accN n i).length (qO (accN n i))=qO (accN n i):=flat_all1 _
  have hfl:(qO (accN n i)).length=(accN n i).length:=by rw[jJ];exact Nat.mul_one _
  have hfk:(qO n.keys[i]).length=n.keys[i].length:=by rw[jJ];exact Nat.mul_one _
  have hx2:(qO (accN n i)++[Value.int .u8 ((n.keys[i].length:Int)%256)]).length=(accN n i).length+1:=by rw[xD,hfl];rfl
  have hx1:List.take ((accN n i).length+1) (qO (accN n i)++[Value.int .u8 ((n.keys[i].length:Int)%256)])=qO (accN n i)++[Value.int .u8 ((n.keys[i].length:Int)%256)]:=xO (by rw[hx2];exact xC _)
  have hx4:(qO (accN n i)++[Value.int .u8 ((n.keys[i].length:Int)%256)]++qO n.keys[i]).length=(accN n i).length+1+n.keys[i].length:=by rw[xD,hx2,hfk]
  have hx3:List.take ((accN n i).length+1+n.keys[i].length) (qO (accN n i)++[Value.int .u8 ((n.keys[i].length:Int)%256)]++qO n.keys[i])=qO (accN n i)++[Value.int .u8 ((n.keys[i].length:Int)%256)]++qO n.keys[i]:=xO (by rw[hx4];exact xC _)
  by_cases hl:n.leaf=true
  ·have hv:=hN.vals hl
   have e2:n.values[i]? =some (n.values[i]'(by omega)):=xA _
   have hvr:=hv.2.2 _ (xH (show i<n.values.length by omega))
   have g2:n.values.getD i 0=n.values[i]'(by omega):=by rw[xF,e2];rfl
   have hok2:=flat_ok (jX (n.values[i]'(by omega)))
   have hent:entN n i=u8z (n.keys[i].length:Int)::(n.keys[i]++jX (n.values[i]'(by omega))):=by unfold entN;rw[if_pos hl,g1,g2];rfl
   have hst:qO (accN n (i+1))=qO (accN n i)++[.int .u8 ((n.keys[i].length:Int)%256)]++qO n.keys[i]++qO (jX (n.values[i]'(by omega))):=by
    rw[accN_succ,qK,hent,jO,qK]
    show _++([Value.int .u8 ((u8z _).toNat:Int)]++_)=_
    rw[kZ]
    simp only[xL]
   have hstl:(accN n (i+1)).length=(accN n i).length+1+n.keys[i].length+(jX (n.values[i]'(by omega))).length:=by
    rw[accN_succ,xD,hent,xJ,xD];omega
   have hp2:=jQ (n.values[i]'(by omega))
   refine RA (cj12 e1 e2 hl hz hok hok2 hvr hta hx1 hx2 hx3 hx4) ?_
   refine hFx (i+1,Bx+3,vC ((accN n i).length+1+n.keys[i].length+(jX (n.values[i]'(by omega))).length) (vC ((accN n i).length+1+n.keys[i].length) (vC ((accN n i).length+1) (c-1)-1)-1)) _ _ _ ?_ ?_ (by first|exact Le.refl _|simp (disch:=first|assumption|omega|(simp (disch:=omega) only[qG,qE hb];done)) only[go_sem,push_cast,qB,qA,qU,jP,qG,qE hb,hst,hstl,hl]) (by simp only[go_sem,push_cast,qB,qA]) (by simp only[go_sem,push_cast,qB,qA,hst,hstl,hl]<;>exact cT)
   ·show n.keys.length-(i+1)<n.keys.length-i
    omega
   ·exact⟨hlt,show Bd+1<=Bx+3 by omega,kG _ _⟩
  ·have hl2:n.leaf=false:=by simpa using hl
   have hent:entN n i=u8z (n.keys[i].length:Int)::n.keys[i]:=by unfold entN;rw[if_neg hl,g1,wL]
   have hst:qO (accN n (i+1))=qO (accN n i)++[.int .u8 ((n.keys[i].length:Int)%256)]++qO n.keys[i]:=by
    rw[accN_succ,qK,hent,jO]
    show _++([Value.int .u8 ((u8z _).toNat:Int)]++_)=_
    rw[kZ]
    simp only[xL]
   have hstl:(accN n (i+1)).length=(accN n i).length+1+n.keys[i].length:=by
    rw[accN_succ,xD,hent,xJ];omega
   refine RA (cj9 e1 hl2 hz hok hta hx1 hx2 hx3 hx4) ?_
   refine hFx (i+1,Bx+2,vC ((accN n i).length+1+n.keys[i].length) (vC ((accN n i).length+1) (c-1)-1)) _ _ _ ?_ ?_ (by first|exact Le.refl _|simp (disch:=first|assumption|omega|(simp (disch:=omega) only[qG,qE hb];done)) only[go_sem,push_cast,qB,qA,qU,jP,qG,qE hb,hst,hstl,hl2]) (by simp only[go_sem,push_cast,qB,qA]) (by simp only[go_sem,push_cast,qB,qA,hst,hstl,hl2]<;>exact cT)
   ·show n.keys.length-(i+1)<n.keys.length-i
    omega
   ·exact⟨hlt,show Bd+1<=Bx+2 by omega,kG _ _⟩
 ·obtain rfl:i=n.keys.length:=by omega
  refine R0 ?_
  have hK0:accK n 0=accN n n.keys.length:=by simp[accK]
  refine cv (by kernel_rfl) ?_
  refine R0 ?_
  rw[<-hK0]at hbx hal ⊢
  refine tr_st (X:=Nat×Nat×Nat) (fun y=>y.1<=n.kids.length/\Bd+1<=y.2.1/\0<y.2.2) (fun y=>n.kids.length-y.1) (fun y=>[(3,sv (y.2.1) 1 (accK n y.1).length y.2.2),(41,lst n.kids),(42,iv n.kids.length),(43,iv y.1)]) (fun y=>upd (upd H Bd (some ⟨[.bool n.leaf,lst n.keys,lst n.values,lst n.kids],true⟩)) y.2.1 (some ⟨qO (accK n y.1),true⟩)) (0,m,c) (⟨xT _,i2,i3⟩) (by simp only[go_sem,push_cast,qB,qA]<;>exact cT) (by first|exact Le.refl _|simp (disch:=first|assumption|omega) only[go_sem,push_cast,qB,qA,qU,jP]) ?_
  intro y By hIy hBy hby Fy hFy
  refine cv (by kernel_rfl) ?_
  obtain⟨j,p,d⟩:=y
  obtain⟨j1,j2,j3⟩:=hIy
  simp only at j1 j2 j3 hby
  have hmy:=hb_lt hby
  have hzd:(d=0)=False:=eq_false (by omega)
  have hkl5:n.kids.length<=5:=by
   cases hlf:n.leaf with
   |true=>have:=(hN.vals hlf).2.1;omega
   |false=>have:=(hN.kids hlf).2.2.1;omega
  have hlk:(accK n j).length<=77+5:=by
   have:=accN_len hN n.keys.length (xC _)
   unfold accK
   rw[xD,List.length_map,xQ]
   omega
  have hta:List.take (accK n j).length (qO (accK n j))=qO (accK n j):=flat_all1 _
  rcases xM j n.kids.length with hltj|hgej
  ·have e1:n.kids[j]? =some n.kids[j]:=xA hltj
   have hst:qO (accK n (j+1))=qO (accK n j)++[.int .u8 (n.kids[j]%256)]:=by
    rw[accK_succ hltj,qK,qT]
    show _++[Value.int .u8 ((u8z _).toNat:Int)]=_
    rw[kZ]
   have hstl:(accK n (j+1)).length=(accK n j).length+1:=by rw[accK_succ hltj,xD];rfl
   refine RA (cj3 e1 hzd hta) ?_
   refine hFy (j+1,By+1,vC ((accK n j).length+1) (d-1)) _ _ _ ?_ ?_ (by first|exact Le.refl _|simp (disch:=first|assumption|omega|(simp (disch:=omega) only[qG,qE hb];done)) only[go_sem,push_cast,qB,qA,qU,jP,qG,qE hb,hst,hstl]) (by simp only[go_sem,push_cast,qB,qA]) (by simp only[go_sem,push_cast,qB,qA,hst,hstl]<;>exact cT)
   ·show n.kids.length-(j+1)<n.kids.length-j
    omega
   ·exact⟨hltj,show Bd+1<=By+1 by omega,kG _ _⟩
  ·have hpk:accK n j=packN' n:=by unfold accK packN';rw[xO hgej]
   rw[hpk]at hby ⊢
   refine R0 ?_
   refine Tr.fin2 3 (by simp (disch:=first|assumption|omega) only[qG,qE hb]) (by simp only[go_sem,push_cast,qB,qA];rfl) rfl ?_
   refine cv (by kernel_rfl) ?_
   exact R0 trivial
def W244:qH:=fun g' H Bd K=>∃(kind:Int) (body:List UInt8),g'=[iv kind,lst body]/\((body.length<=91)/\K (.agg (enc (rdN kind body)).toArray) H Bd)
@[go_sem ↓] theorem W244_eq (a:Int) (b:List UInt8):W244 [iv a,lst b] H Bd K=((b.length<=91)/\K (.agg (enc (rdN a b)).toArray) H Bd):=ex2 a b rfl
theorem W244_ok:OK 244 W244:=by
 rintro _ H Bd K ⟨kind,body,rfl,hpre,hK⟩
 refine fnp pok ((((((((uA.uB W98_ok).uB W140_ok).uB W139_ok).uB W101_ok).uB W109_ok).uB W257_ok).uB W258_ok).uB W102_ok) [(1,[],[],(.k 3 (.grp true 10 12 2 [11,12] 13 none (.k 2 .nil) .nil))),(9,[0,1,2,3,4,5,6,7,8,9,10],[z0 0,z0 1,z0 2,z0 3,⟨4,[],[1]⟩,⟨5,[],[1]⟩,⟨6,[],[1]⟩,z0 7,⟨8,[7],[]⟩,z0 9,⟨10,[7],[]⟩], .nil),(11,[0,1,2,3,4,5,6,7],[z0 0,z0 1,z0 2,⟨3,[],[1]⟩,z0 4,⟨5,[4],[]⟩,z0 6,⟨7,[4],[]⟩], .nil),(15,[],[],(.k 3 (.grp false 56 60 4 [57,58,59,60] 61 none (.k 4 .nil) .nil))),(16,[0,1,2,3,4,5,6,7],[z0 0,z0 1,z0 2,⟨3,[],[1]⟩,z0 4,⟨5,[4],[]⟩,z0 6,⟨7,[4],[]⟩], .nil),(18,[],[],(.k 4 (.grp false 73 76 3 [74,75,76] 77 none (.k 3 .nil) (.k 1 (.grp false 78 83 5 [79,80,81,82,83] 84 none (.k 5 .nil) .nil)))))] hK func244 ntmps244 call244 [.cell 4 292] fun hb ha=>?_
 refine jF pok fun cv=>?_
 by_cases hk:kind≠1/\kind≠2
 ·have e:rdN kind body=⟨3,⟨false,[],[],[]⟩⟩:=by unfold rdN;rw[if_pos hk];rfl
  obtain⟨hk1,hk2⟩:=hk
  exact R (cj4 hpre hk1 hk2 e) trivial
 ·by_cases hk1:kind=1
  ·subst hk1
   have hdec:decide ((1:Int)=1)=true:=rfl
   have hone:=vV (body,false)
   refine R (cj hpre hdec) ?_
   refine yM (X:=Nat×List (List UInt8)×List Int×List UInt8×Bool) hb (by omega) 2 [.m (Bd+2) 1, .m (Bd+2) 2] rfl (fun x=>(x.1:Int)<=yJ (body,false)/\x.2.1.length<=x.1/\x.2.2.1.length<=x.1/\(∀k∈x.2.1,k.length<=255)/\(true=false->x.2.2.1=[])/\x.2.2.2.1.length<=91/\((x.2.2.2.2=false/\1<=body.length/\∃p,x.2.2.2.1=body.drop p/\prs true body x.1=some (p,x.2.1,x.2.2.1))\/(x.2.2.2.2=true/\(prsN true body).2=false))) (fun x=>(yJ (body,false)).toNat-x.1) (fun Nx x=>[(4,pt Bd),(5,pt (Bd+1)),(6,pt (Bd+2)),(0,iv 1),(1,lst body),(7,iv (yJ (body,false))),(23,iv (yJ (body,false))),(24,iv x.1)]) (fun Nx x=>[(Bd,⟨[iv 0, .bool false,sn,sn,sn],true⟩),(Bd+1,⟨[lst x.2.2.2.1, .bool x.2.2.2.2],true⟩),(Bd+2,⟨[.bool true,sv Nx 1 x.2.1.length (x.2.1.length+1),sv (Nx+1) 1 x.2.2.1.length (x.2.2.1.length+1),sn],true⟩),(Nx,⟨qO x.2.1,true⟩),(Nx+1,⟨qO x.2.2.1,true⟩)]) (0,[],[],(tkS (body,false) 1).1,(tkS (body,false) 1).2) (⟨hone.1,xT _,xT _,(fun k hk=>by cases hk),fun _=>rfl,wE (vR _ _) hpre,rd_init true body⟩) (fun Nx hNx=>(cant)) ?_
   intro Nx x hNx hIx hbx Fx hFx
   simp only[mem_cons,jC]at hbx ⊢
   refine cv (by kernel_rfl) ?_
   obtain⟨i,ks,vs,rest,fd⟩:=x
   obtain⟨i1,i2,i3,iK,i4,i5,i6⟩:=hIx
   simp only at i1 i2 i3 iK i4 i5 i6
   by_cases hgo:(i:Int)<yJ (body,false)/\fd=false
   ·obtain⟨hlt,rfl⟩:=hgo
    obtain⟨_,hb1,p,rfl,hp⟩:=i6.resolve_right (fun h=>by cases h.1)
    have hone2:=vV (body.drop p,false)
    have hpair2:=pairV_bd (rq2 (body.drop p,false))
    have hl1:(tkS (body.drop p,false) 1).1.length<=91:=wE (vR _ _) i5
    have hl2:(tkS (tkS (body.drop p,false) 1) (yJ (body.drop p,false)).toNat).1.length<=91:=wE (vR _ _) hl1
    have hlE:(rqE true (body.drop p,false)).1.length<=91:=by unfold rqE;split <;>first|exact hl2|exact wE (vR _ _) hl2
    have hlk:(tkV (tkS (body.drop p,false) 1) (yJ (body.drop p,false)).toNat).length<=1000000:=by rw[vB];omega
    have hst:=rd_step hp
    refine RA (cj hlt hlk) ?_
    refine hFx (i+1,ks++[rky (body.drop p,false)],vs++[pairV (rq2 (body.drop p,false))],rqE true (body.drop p,false)) _ _ _ ?_ ?_ (by simp only[go_sem,push_cast,qB,qA]) ((by simp (disch:=first|assumption|omega|(simp (disch:=omega) only[qG,qE hb];done)|(simp (disch:=first|omega|(simp (disch:=omega) only[qG,qE hb];done)) only[go_sem,push_cast,qB,qA,qG,qE hb];done)|fail) only[go_sem,push_cast,qB,qA,qU,qL hb,qG,qE hb,qZ,qK,qT,jS,jH,jB,jT,jK,xL,xD,xJ,xZ,Nat.zero_add,rqE,rky,rq2,↓reduceIte]<;>exact cT))
    ·show(yJ (body,false)).toNat-(i+1)<(yJ (body,false)).toNat-i
     omega
    ·refine⟨show((i+1:Nat):Int)<=_ by omega,(by simp;omega),(by simp;omega),(fun k hk=>(List.mem_append.1 hk).elim (iK k) fun h=>by rw[wR.1 h];unfold rky;rw[vB];omega),(fun h=>by cases h),hlE,?_⟩
     rcases hst with⟨q1,p',q2,q3⟩|⟨q1,q2⟩
     ·exact .inl ⟨q1,hb1,p',q2,q3⟩
     ·exact .inr ⟨q1,prsN_none (prs_none q2 _ (by have:=oneV_cnt hb1;omega))⟩
   ·have hpos:(i:Int)<yJ (body,false)->fd=true:=fun h=>by cases fd <;>first|rfl|exact absurd ⟨h,rfl⟩ hgo
    skip
    have i7:(fd=false/\1<=body.length/\∃p,rest=body.drop p/\prs true body (body.getD 0 0).toNat=some (p,ks,vs))\/(fd=true/\(prsN true body).2=false):=by
     rcases i6 with⟨g1,g2,p,g3,g4⟩|h
     ·refine .inl ⟨g1,g2,p,g3,?_⟩
      have hc:=oneV_cnt g2
      have:¬(i:Int)<yJ (body,false):=fun h=>by rw[hpos h]at g1;cases g1
      rw[show(body.getD 0 0).toNat=i by omega];exact g4
     ·exact .inr h
    by_cases hlt:(i:Int)<yJ (body,false)
    case' pos=>have hfd:=hpos hlt
    case' neg=>have hfd:True:=trivial
    all_goals
     refine R (cj hlt hfd) ?_
     refine Tr.to hb (by omega) 0 [] rfl (fun Nk=>[(4,pt Bd),(5,pt (Bd+1)),(6,pt (Bd+2)),(0,iv 1),(1,lst body),(7,iv (yJ (body,false)))]) (fun Nk=>[(Bd,⟨[iv 0, .bool false,sn,sn,sn],true⟩),(Bd+1,⟨[lst rest, .bool fd],true⟩),(Bd+2,⟨[.bool true,lst ks,lst vs,sn],true⟩)]) (fun Nk hNk=>(cant)) ?_
     intro Nk hNk hbk
     simp only[mem_cons,jC]at hbk ⊢
     refine cv (by kernel_rfl) ?_
     refine R0 ?_
     refine yM (X:=Unit) hb (by omega) 0 [] rfl (fun y=>True) (fun y=>0) (fun Ny y=>[(4,pt Bd),(5,pt (Bd+1)),(6,pt (Bd+2)),(0,iv 1),(1,lst body),(51,iv (yJ (body,false)+1)),(52,iv 0)]) (fun Ny y=>[(Bd,⟨[iv 0, .bool false,sn,sn,sn],true⟩),(Bd+1,⟨[lst rest, .bool fd],true⟩),(Bd+2,⟨[.bool true,lst ks,lst vs,lst ([]:List Int)],true⟩)]) () (trivial) (fun Ny hNy=>(cant)) ?_
     intro Ny y hNy hIy hby Fy hFy
     simp only[mem_cons,jC]at hby ⊢
     refine cv (by kernel_rfl) ?_
     simp (maxSteps:=2000000) (disch:=first|exact dq|fail) only[go_sem,push_cast,qB,qA,qL hb,qE hb,show(0:Int)<yJ (body,false)+1 by omega]
     refine cv (by kernel_rfl) ?_
     have hF:=rd_fin (kids:=[]) (.inl rfl) hdec (i7.imp (fun⟨g1,g2,p,g3,g4⟩=>⟨g1,g2,p,g4,rfl,g3⟩) id)
     have hsm:sm (⟨true,ks,vs,[]⟩:GNode):=⟨trivial,⟨show ks.length<=281474976710656 by omega,fun k hk=>⟨by have:=iK k hk;omega,fun _ _=>trivial⟩⟩,(yU _).2 (show vs.length<=281474976710656 by omega),(yU _).2 (by simp)⟩
     have hsp:∀ {b},fd=b->endV (rest,fd)=endV (rest,b):=fun h=>by rw[h]
     have hxs:rest.length<=1000000:=by omega
     by_cases hE:endV (rest,fd)=true
     ·by_cases hZ:kS ⟨true,ks,vs,[]⟩=0
      ·obtain⟨g1,g2⟩:=hF.1 hE hZ
       exact R (cj6 hxs hE hZ hsm g1 g2) trivial
      ·have g2:rdN _ body=⟨5,⟨false,[],[],[]⟩⟩:=hF.2 (.inr hZ)
       exact R (cj5 hxs hE hZ hsm g2) trivial
     ·have g2:rdN _ body=⟨5,⟨false,[],[],[]⟩⟩:=hF.2 (.inl (by simpa using hE))
      exact R (cj3 hxs hE g2) trivial
  ·have hk2:kind=2:=Decidable.not_not.1 fun h=>hk ⟨hk1,h⟩
   subst hk2
   have hdec:decide ((2:Int)=1)=false:=rfl
   have hone:=vV (body,false)
   refine R (cj hpre hdec) ?_
   refine yM (X:=Nat×List (List UInt8)×List Int×List UInt8×Bool) hb (by omega) 1 [.m (Bd+2) 1] rfl (fun x=>(x.1:Int)<=yJ (body,false)/\x.2.1.length<=x.1/\x.2.2.1.length<=x.1/\(∀k∈x.2.1,k.length<=255)/\(false=false->x.2.2.1=[])/\x.2.2.2.1.length<=91/\((x.2.2.2.2=false/\1<=body.length/\∃p,x.2.2.2.1=body.drop p/\prs false body x.1=some (p,x.2.1,x.2.2.1))\/(x.2.2.2.2=true/\(prsN false body).2=false))) (fun x=>(yJ (body,false)).toNat-x.1) (fun Nx x=>[(4,pt Bd),(5,pt (Bd+1)),(6,pt (Bd+2)),(0,iv 2),(1,lst body),(7,iv (yJ (body,false))),(23,iv (yJ (body,false))),(24,iv x.1)]) (fun Nx x=>[(Bd,⟨[iv 0, .bool false,sn,sn,sn],true⟩),(Bd+1,⟨[lst x.2.2.2.1, .bool x.2.2.2.2],true⟩),(Bd+2,⟨[.bool false,sv Nx 1 x.2.1.length (x.2.1.length+1),sn,sn],true⟩),(Nx,⟨qO x.2.1,true⟩)]) (0,[],[],(tkS (body,false) 1).1,(tkS (body,false) 1).2) (⟨hone.1,xT _,xT _,(fun k hk=>by cases hk),fun _=>rfl,wE (vR _ _) hpre,rd_init false body⟩) (fun Nx hNx=>(cant)) ?_
   intro Nx x hNx hIx hbx Fx hFx
   simp only[mem_cons,jC]at hbx ⊢
   refine cv (by kernel_rfl) ?_
   obtain⟨i,ks,vs,rest,fd⟩:=x
   obtain⟨i1,i2,i3,iK,i4,i5,i6⟩:=hIx
   simp only at i1 i2 i3 iK i4 i5 i6
   by_cases hgo:(i:Int)<yJ (body,false)/\fd=false
   ·obtain⟨hlt,rfl⟩:=hgo
    obtain⟨_,hb1,p,rfl,hp⟩:=i6.resolve_right (fun h=>by cases h.1)
    have hone2:=vV (body.drop p,false)
    have hpair2:=pairV_bd (rq2 (body.drop p,false))
    have hl1:(tkS (body.drop p,false) 1).1.length<=91:=wE (vR _ _) i5
    have hl2:(tkS (tkS (body.drop p,false) 1) (yJ (body.drop p,false)).toNat).1.length<=91:=wE (vR _ _) hl1
    have hlE:(rqE false (body.drop p,false)).1.length<=91:=by unfold rqE;split <;>first|exact hl2|exact wE (vR _ _) hl2
    have hlk:(tkV (tkS (body.drop p,false) 1) (yJ (body.drop p,false)).toNat).length<=1000000:=by rw[vB];omega
    have hst:=rd_step hp
    refine RA (cj hlt hlk) ?_
    refine hFx (i+1,ks++[rky (body.drop p,false)],vs,rqE false (body.drop p,false)) _ _ _ ?_ ?_ (by simp only[go_sem,push_cast,qB,qA]) ((by simp (disch:=first|assumption|omega|(simp (disch:=omega) only[qG,qE hb];done)|(simp (disch:=first|omega|(simp (disch:=omega) only[qG,qE hb];done)) only[go_sem,push_cast,qB,qA,qG,qE hb];done)|fail) only[go_sem,push_cast,qB,qA,qU,qL hb,qG,qE hb,qZ,qK,qT,jS,jH,jB,jT,jK,xL,xD,xJ,xZ,Nat.zero_add,rqE,rky,rq2,↓reduceIte]<;>exact cT))
    ·show(yJ (body,false)).toNat-(i+1)<(yJ (body,false)).toNat-i
     omega
    ·refine⟨show((i+1:Nat):Int)<=_ by omega,(by simp;omega),(by simp;omega),(fun k hk=>(List.mem_append.1 hk).elim (iK k) fun h=>by rw[wR.1 h];unfold rky;rw[vB];omega),(fun _=>i4 trivial),hlE,?_⟩
     rcases hst with⟨q1,p',q2,q3⟩|⟨q1,q2⟩
     ·exact .inl ⟨q1,hb1,p',q2,q3⟩
     ·exact .inr ⟨q1,prsN_none (prs_none q2 _ (by have:=oneV_cnt hb1;omega))⟩
   ·have hpos:(i:Int)<yJ (body,false)->fd=true:=fun h=>by cases fd <;>first|rfl|exact absurd ⟨h,rfl⟩ hgo
    have hv0:vs=[]:=i4 trivial
    have i7:(fd=false/\1<=body.length/\∃p,rest=body.drop p/\prs false body (body.getD 0 0).toNat=some (p,ks,vs))\/(fd=true/\(prsN false body).2=false):=by
     rcases i6 with⟨g1,g2,p,g3,g4⟩|h
     ·refine .inl ⟨g1,g2,p,g3,?_⟩
      have hc:=oneV_cnt g2
      have:¬(i:Int)<yJ (body,false):=fun h=>by rw[hpos h]at g1;cases g1
      rw[show(body.getD 0 0).toNat=i by omega];exact g4
     ·exact .inr h
    by_cases hlt:(i:Int)<yJ (body,false)
    case' pos=>have hfd:=hpos hlt
    case' neg=>have hfd:True:=trivial
    all_goals
     refine R (cj hlt hfd) ?_
     refine Tr.to hb (by omega) 0 [] rfl (fun Nk=>[(4,pt Bd),(5,pt (Bd+1)),(6,pt (Bd+2)),(0,iv 2),(1,lst body),(7,iv (yJ (body,false)))]) (fun Nk=>[(Bd,⟨[iv 0, .bool false,sn,sn,sn],true⟩),(Bd+1,⟨[lst rest, .bool fd],true⟩),(Bd+2,⟨[.bool false,lst ks,lst vs,sn],true⟩)]) (fun Nk hNk=>(cant)) ?_
     intro Nk hNk hbk
     simp only[mem_cons,jC]at hbk ⊢
     refine cv (by kernel_rfl) ?_
     refine R0 ?_
     refine yM (X:=Nat×List Int×List UInt8×Bool) hb (by omega) 1 [.m (Bd+2) 3] rfl (fun y=>(y.1:Int)<=yJ (body,false)+1/\y.2.1.length<=y.1/\y.2.2.1.length<=91/\((y.2.2.2=false/\1<=body.length/\∃p,prs false body (body.getD 0 0).toNat=some (p,ks,vs)/\y.2.1=vO body p y.1/\p+y.1<=body.length/\y.2.2.1=body.drop (p+y.1))\/(y.2.2.2=true/\(prsN false body).2=false))) (fun y=>(yJ (body,false)+1).toNat-y.1) (fun Ny y=>[(4,pt Bd),(5,pt (Bd+1)),(6,pt (Bd+2)),(0,iv 2),(1,lst body),(51,iv (yJ (body,false)+1)),(52,iv y.1)]) (fun Ny y=>[(Bd,⟨[iv 0, .bool false,sn,sn,sn],true⟩),(Bd+1,⟨[lst y.2.2.1, .bool y.2.2.2],true⟩),(Bd+2,⟨[.bool false,lst ks,lst vs,sv Ny 1 y.2.1.length (y.2.1.length+1)],true⟩),(Ny,⟨qO y.2.1,true⟩)]) (0,[],rest,fd) (⟨show(0:Int)<=_ by omega,xT _,i5,i7.imp (fun⟨g1,g2,p,g3,g4⟩=>⟨g1,g2,p,g4,by simp[vO],prs_le g2 g4,g3⟩) id⟩) (fun Ny hNy=>(cant)) ?_
     intro Ny y hNy hIy hby Fy hFy
     simp only[mem_cons,jC]at hby ⊢
     refine cv (by kernel_rfl) ?_
     obtain⟨j,kids,rest2,f2⟩:=y
     obtain⟨j1,j2,j3,j4⟩:=hIy
     simp only at j1 j2 j3 j4
     by_cases hg2:(j:Int)<yJ (body,false)+1/\f2=false
     ·obtain⟨hlt2,rfl⟩:=hg2
      obtain⟨_,hb1,p,hp,rfl,hpj,rfl⟩:=j4.resolve_right (fun h=>by cases h.1)
      have hone2:=vV (body.drop (p+j),false)
      have hl1:(tkS (body.drop (p+j),false) 1).1.length<=91:=wE (vR _ _) j3
      refine RA hlt2 ?_
      refine hFy (j+1,vO body p j++[yJ (body.drop (p+j),false)],tkS (body.drop (p+j),false) 1) _ _ _ ?_ ?_ (by simp only[go_sem,push_cast,qB,qA]) ((cant))
      ·show(yJ (body,false)+1).toNat-(j+1)<(yJ (body,false)+1).toNat-j
       omega
      ·refine⟨show((j+1:Nat):Int)<=_ by omega,(by simp;omega),hl1,?_⟩
       by_cases hq:p+j<body.length
       ·refine .inl ⟨by rw[tkS_ok (by rw[xI];omega)],hb1,p,hp,?_,hq,by rw[tkS_ok (by rw[xI];omega),List.drop_drop];rfl⟩
        show _=vO body p (j+1)
        rw[kidsB_succ hq,oneV_at hq]
        simp[xF,xA hq]
       ·have hcn:=oneV_cnt hb1
        refine .inr ⟨by rw[tkS_no (by rw[xI];omega)],prsN_bad hp fun⟨h1,h2⟩=>?_⟩
        have hk:=((node_ok h2).kids rfl).2.2.1
        have hkl:=(prs_len hp).1
        simp only at hk
        omega
     ·have hpos2:(j:Int)<yJ (body,false)+1->f2=true:=fun h=>by cases f2 <;>first|rfl|exact absurd ⟨h,rfl⟩ hg2
      have j5:(f2=false/\1<=body.length/\∃p,prs false body (body.getD 0 0).toNat=some (p,ks,vs)/\kids=kidsE false body p ((body.getD 0 0).toNat+1)/\rest2=body.drop (p+kids.length))\/(f2=true/\(prsN false body).2=false):=by
       rcases j4 with⟨g1,g2,p,g3,g4,g5,g6⟩|h
       ·refine .inl ⟨g1,g2,p,g3,?_,by rw[g6,g4,kidsB_len g5]⟩
        have hc:=oneV_cnt g2
        have:¬(j:Int)<yJ (body,false)+1:=fun h=>by rw[hpos2 h]at g1;cases g1
        rw[g4,show j=(body.getD 0 0).toNat+1 by omega];rfl
       ·exact .inr h
      have hF:=rd_fin (.inr rfl) hdec j5
      by_cases hlt2:(j:Int)<yJ (body,false)+1
      case' pos=>have hf2:=hpos2 hlt2
      case' neg=>have hf2:True:=trivial
      all_goals
       refine R (cj hlt2 hf2) ?_
       refine Tr.to hb (by omega) 0 [] rfl (fun Nl=>[(4,pt Bd),(5,pt (Bd+1)),(6,pt (Bd+2)),(0,iv 2),(1,lst body)]) (fun Nl=>[(Bd,⟨[iv 0, .bool false,sn,sn,sn],true⟩),(Bd+1,⟨[lst rest2, .bool f2],true⟩),(Bd+2,⟨[.bool false,lst ks,lst vs,lst kids],true⟩)]) (fun Nl hNl=>(cant)) ?_
       intro Nl hNl hbl
       simp only[mem_cons,jC]at hbl ⊢
       refine cv (by kernel_rfl) ?_
       have hsm:sm (⟨false,ks,vs,kids⟩:GNode):=⟨trivial,⟨show ks.length<=281474976710656 by omega,fun k hk=>⟨by have:=iK k hk;omega,fun _ _=>trivial⟩⟩,(yU _).2 (show vs.length<=281474976710656 by omega),(yU _).2 (show kids.length<=281474976710656 by omega)⟩
       have hxs:rest2.length<=1000000:=by omega
       by_cases hE:endV (rest2,f2)=true
       ·by_cases hZ:kS ⟨false,ks,vs,kids⟩=0
        ·obtain⟨g1,g2⟩:=hF.1 hE hZ
         exact R (cj6 hxs hE hZ hsm g1 g2) trivial
        ·have g2:rdN _ body=⟨5,⟨false,[],[],[]⟩⟩:=hF.2 (.inr hZ)
         exact R (cj5 hxs hE hZ hsm g2) trivial
       ·have g2:rdN _ body=⟨5,⟨false,[],[],[]⟩⟩:=hF.2 (.inl (by simpa using hE))
        exact R (cj3 hxs hE g2) trivial
@[go_sem ↓] def BW213 (d:GDisk) (id:Int):Tq:=fun H Bd K=>((sm d/\DiskOK d/\R64 id)/\K (.tuple #[.agg (enc ((jY d id).1)).toArray,iv ((jY d id).2)]) H Bd)
def W213:qH:=fun g' H Bd K=>∃(d:GDisk) (id:Int),g'=[.agg (enc d).toArray,iv id]/\BW213 d id H Bd K
@[go_sem ↓] theorem W213_eq (a:List (List UInt8)) (b:List GPut) (c:Int):W213 [.agg #[lst a,lst b],iv c] H Bd K=BW213 (GDisk.mk a b) c H Bd K:=ex2 (GDisk.mk a b) c rfl
theorem W213_ok:OK 213 W213:=by
 rintro _ H Bd K ⟨d,id,rfl,hpre,hK⟩
 refine yF pok ((uA.uB W105_ok).uB W244_ok) [(5,[0,1,2,3,4,5],[z0 0,z0 1,z0 2,z0 3,⟨4,[],[3]⟩,z0 5], .nil)] _ hK func213 rfl (rs:=[.cell 4 248, .tmp 5]) rfl ntmps213 (by simp) call213 (by kernel_rfl) (fun ha hb=>tup_nb ⟨agg_nb _ _, .int _ _,trivial⟩) (fun hb ha=>?_)
 obtain⟨h1,h2,h3⟩:=hpre
 have hl:=h2.len
 by_cases hr:2<=id/\id<=(d.sectors.length:Int)-1
 case neg=>
  have e:jY d id=(⟨false,[],[],[]⟩,3):=by unfold jY;rw[if_pos hr];rfl
  have hp:pageD d id=(⟨0,0,[]⟩,3):=by unfold pageD;rw[if_pos hr];rfl
  exact R (cj5 h1 h2 h3 hp e) trivial
 obtain⟨hr1,hr2⟩:=hr
 have hlen:=readD_len h2 (n:=id) (by omega) (by omega)
 have hlt:id<d.sectors.length:=by omega
 have hge0:0<=id:=by omega
 have h63:id<=63:=by omega
 have hr3:¬ ¬(2<=id/\id<=(d.sectors.length:Int)-1):=fun h=>h ⟨hr1,hr2⟩
 have hp:pageD d id=qY (yH d id) id:=by unfold pageD;rw[if_neg hr3]
 by_cases hc:(qY (yH d id) id).2=0
 case neg=>
  have e:jY d id=(⟨false,[],[],[]⟩,(qY (yH d id) id).2):=by unfold jY;rw[if_neg hr3,if_pos hc];rfl
  exact R (cj6 h1 h2 h3 hp hc e) trivial
 have e:jY d id=((rdN (qY (yH d id) id).1.kind (qY (yH d id) id).1.body).node,(rdN (qY (yH d id) id).1.kind (qY (yH d id) id).1.body).code):=by unfold jY;rw[if_neg hr3,if_neg (by simpa using hc)]
 have hbl:=(pageF_ok (readPg_ok hc).1).2.2
 exact RA (cj7 h1 h2 h3 hp hc e hbl) trivial
@[go_sem ↓] def BW169 (n:Nat) (id:Int) (depth:Int) (plow:Value) (phigh:Value):Tq:=fun H Bd K=>(Yld (H n) fun b=>Yld (kF twB b) fun x=>Yld (H (x.2.2.1)) fun b0=>Yld (kF (flB (α:=Int)) b0) fun pages=>Yld (H (x.2.2.2.2.2.1)) fun b1=>Yld (kF (flB (α:=GRow)) b1) fun rows=>Yld (bvOf plow) fun low=>Yld (bvOf phigh) fun high=>(x.2.2.2.1=(pages).length/\x.2.2.2.2.1=x.2.2.2.1+1/\n≠x.2.2.1/\x.2.2.2.2.2.2.1=(rows).length/\x.2.2.2.2.2.2.2.1=x.2.2.2.2.2.2.1+1/\n≠x.2.2.2.2.2.1/\x.2.2.1≠x.2.2.2.2.2.1/\(sm (⟨x.1,x.2.1⟩:GDisk)/\DiskOK ⟨x.1,x.2.1⟩/\R64 id/\1<=depth/\depth<=5/\low.length<=16/\high.length<=16/\pages.length+6^(6-depth).toNat<=100000/\rows.length+4*6^(6-depth).toNat<=400000))/\K (iv ((vis (fun l n=>l++[n]) ⟨x.1,x.2.1⟩ (6-depth).toNat id low high depth ⟨pages,rows,x.2.2.2.2.2.2.2.2⟩)).1) (upd (upd (upd (upd (upd (upd H n none) (x.2.2.1) none) (x.2.2.2.2.2.1) none) n (some ⟨[lst x.1,lst x.2.1,sv Bd 1 (((vis (fun l n=>l++[n]) ⟨x.1,x.2.1⟩ (6-depth).toNat id low high depth ⟨pages,rows,x.2.2.2.2.2.2.2.2⟩)).2.pages).length ((((vis (fun l n=>l++[n]) ⟨x.1,x.2.1⟩ (6-depth).toNat id low high depth ⟨pages,rows,x.2.2.2.2.2.2.2.2⟩)).2.pages).length+1),sv (Bd+1) 2 (((vis (fun l n=>l++[n]) ⟨x.1,x.2.1⟩ (6-depth).toNat id low high depth ⟨pages,rows,x.2.2.2.2.2.2.2.2⟩)).2.rows).length ((((vis (fun l n=>l++[n]) ⟨x.1,x.2.1⟩ (6-depth).toNat id low high depth ⟨pages,rows,x.2.2.2.2.2.2.2.2⟩)).2.rows).length+1),iv ((vis (fun l n=>l++[n]) ⟨x.1,x.2.1⟩ (6-depth).toNat id low high depth ⟨pages,rows,x.2.2.2.2.2.2.2.2⟩)).2.deep],true⟩)) Bd (some ⟨qO (((vis (fun l n=>l++[n]) ⟨x.1,x.2.1⟩ (6-depth).toNat id low high depth ⟨pages,rows,x.2.2.2.2.2.2.2.2⟩)).2.pages),true⟩)) (Bd+1) (some ⟨qO (((vis (fun l n=>l++[n]) ⟨x.1,x.2.1⟩ (6-depth).toNat id low high depth ⟨pages,rows,x.2.2.2.2.2.2.2.2⟩)).2.rows),true⟩)) (Bd+2))
def W169:qH:=fun g' H Bd K=>∃(n:Nat) (id:Int) (depth:Int) (plow:Value) (phigh:Value),g'=[pt n,iv id,iv depth,plow,phigh]/\BW169 n id depth plow phigh H Bd K
@[go_sem ↓] theorem W169_eq (a:Nat) (b c:Int) (d e:Value):W169 [pt a,iv b,iv c,d,e] H Bd K=BW169 a b c d e H Bd K:=by
 refine propext ⟨fun h=>?_,fun h=>⟨_,_,_,_,_,rfl,h⟩⟩
 obtain⟨n',id',depth',plow',phigh',e,h⟩:=h
 simp only[xG,Value.agg.injEq,jD,xK,Value.bool.injEq,Value.string.injEq,Value.pointer.injEq,xE,Addr.mk.injEq,lst_inj,true_and,and_true]at e
 obtain⟨rfl,rfl,rfl,rfl,rfl⟩:=e
 exact h
def R169(N:Nat):qH:=fun g' H Bd K=>∃(n:Nat) (id:Int) (depth:Int) (plow:Value) (phigh:Value),g'=[pt n,iv id,iv depth,plow,phigh]/\Yld (H n) fun b=>Yld (kF twB b) fun x=>Yld (H (x.2.2.1)) fun b0=>Yld (kF (flB (α:=Int)) b0) fun pages=>Yld (H (x.2.2.2.2.2.1)) fun b1=>Yld (kF (flB (α:=GRow)) b1) fun rows=>Yld (bvOf plow) fun low=>Yld (bvOf phigh) fun high=>(x.2.2.2.1=(pages).length/\x.2.2.2.2.1=x.2.2.2.1+1/\n≠x.2.2.1/\x.2.2.2.2.2.2.1=(rows).length/\x.2.2.2.2.2.2.2.1=x.2.2.2.2.2.2.1+1/\n≠x.2.2.2.2.2.1/\x.2.2.1≠x.2.2.2.2.2.1/\(sm (⟨x.1,x.2.1⟩:GDisk)/\DiskOK ⟨x.1,x.2.1⟩/\R64 id/\1<=depth/\depth<=5/\low.length<=16/\high.length<=16/\pages.length+6^(6-depth).toNat<=100000/\rows.length+4*6^(6-depth).toNat<=400000)/\(6-depth).toNat<N)/\K (iv ((vis (fun l n=>l++[n]) ⟨x.1,x.2.1⟩ (6-depth).toNat id low high depth ⟨pages,rows,x.2.2.2.2.2.2.2.2⟩)).1) (upd (upd (upd (upd (upd (upd H n none) (x.2.2.1) none) (x.2.2.2.2.2.1) none) n (some ⟨[lst x.1,lst x.2.1,sv Bd 1 (((vis (fun l n=>l++[n]) ⟨x.1,x.2.1⟩ (6-depth).toNat id low high depth ⟨pages,rows,x.2.2.2.2.2.2.2.2⟩)).2.pages).length ((((vis (fun l n=>l++[n]) ⟨x.1,x.2.1⟩ (6-depth).toNat id low high depth ⟨pages,rows,x.2.2.2.2.2.2.2.2⟩)).2.pages).length+1),sv (Bd+1) 2 (((vis (fun l n=>l++[n]) ⟨x.1,x.2.1⟩ (6-depth).toNat id low high depth ⟨pages,rows,x.2.2.2.2.2.2.2.2⟩)).2.rows).length ((((vis (fun l n=>l++[n]) ⟨x.1,x.2.1⟩ (6-depth).toNat id low high depth ⟨pages,rows,x.2.2.2.2.2.2.2.2⟩)).2.rows).length+1),iv ((vis (fun l n=>l++[n]) ⟨x.1,x.2.1⟩ (6-depth).toNat id low high depth ⟨pages,rows,x.2.2.2.2.2.2.2.2⟩)).2.deep],true⟩)) Bd (some ⟨qO (((vis (fun l n=>l++[n]) ⟨x.1,x.2.1⟩ (6-depth).toNat id low high depth ⟨pages,rows,x.2.2.2.2.2.2.2.2⟩)).2.pages),true⟩)) (Bd+1) (some ⟨qO (((vis (fun l n=>l++[n]) ⟨x.1,x.2.1⟩ (6-depth).toNat id low high depth ⟨pages,rows,x.2.2.2.2.2.2.2.2⟩)).2.rows),true⟩)) (Bd+2)
@[go_sem ↓] theorem R169_eq (a c:Nat) (d e:Int) (f g:Value):R169 a [pt c,iv d,iv e,f,g] H Bd K=(Yld (H c) fun b=>Yld (kF twB b) fun x=>Yld (H (x.2.2.1)) fun b0=>Yld (kF (flB (α:=Int)) b0) fun pages=>Yld (H (x.2.2.2.2.2.1)) fun b1=>Yld (kF (flB (α:=GRow)) b1) fun rows=>Yld (bvOf f) fun low=>Yld (bvOf g) fun high=>(x.2.2.2.1=(pages).length/\x.2.2.2.2.1=x.2.2.2.1+1/\c≠x.2.2.1/\x.2.2.2.2.2.2.1=(rows).length/\x.2.2.2.2.2.2.2.1=x.2.2.2.2.2.2.1+1/\c≠x.2.2.2.2.2.1/\x.2.2.1≠x.2.2.2.2.2.1/\(sm (⟨x.1,x.2.1⟩:GDisk)/\DiskOK ⟨x.1,x.2.1⟩/\R64 d/\1<=e/\e<=5/\low.length<=16/\high.length<=16/\pages.length+6^(6-e).toNat<=100000/\rows.length+4*6^(6-e).toNat<=400000)/\(6-e).toNat<a)/\K (iv ((vis (fun l c=>l++[c]) ⟨x.1,x.2.1⟩ (6-e).toNat d low high e ⟨pages,rows,x.2.2.2.2.2.2.2.2⟩)).1) (upd (upd (upd (upd (upd (upd H c none) (x.2.2.1) none) (x.2.2.2.2.2.1) none) c (some ⟨[lst x.1,lst x.2.1,sv Bd 1 (((vis (fun l c=>l++[c]) ⟨x.1,x.2.1⟩ (6-e).toNat d low high e ⟨pages,rows,x.2.2.2.2.2.2.2.2⟩)).2.pages).length ((((vis (fun l c=>l++[c]) ⟨x.1,x.2.1⟩ (6-e).toNat d low high e ⟨pages,rows,x.2.2.2.2.2.2.2.2⟩)).2.pages).length+1),sv (Bd+1) 2 (((vis (fun l c=>l++[c]) ⟨x.1,x.2.1⟩ (6-e).toNat d low high e ⟨pages,rows,x.2.2.2.2.2.2.2.2⟩)).2.rows).length ((((vis (fun l c=>l++[c]) ⟨x.1,x.2.1⟩ (6-e).toNat d low high e ⟨pages,rows,x.2.2.2.2.2.2.2.2⟩)).2.rows).length+1),iv ((vis (fun l c=>l++[c]) ⟨x.1,x.2.1⟩ (6-e).toNat d low high e ⟨pages,rows,x.2.2.2.2.2.2.2.2⟩)).2.deep],true⟩)) Bd (some ⟨qO (((vis (fun l c=>l++[c]) ⟨x.1,x.2.1⟩ (6-e).toNat d low high e ⟨pages,rows,x.2.2.2.2.2.2.2.2⟩)).2.pages),true⟩)) (Bd+1) (some ⟨qO (((vis (fun l c=>l++[c]) ⟨x.1,x.2.1⟩ (6-e).toNat d low high e ⟨pages,rows,x.2.2.2.2.2.2.2.2⟩)).2.rows),true⟩)) (Bd+2)):=by
 refine propext ⟨fun h=>?_,fun h=>⟨_,_,_,_,_,rfl,h⟩⟩
 obtain⟨n',id',depth',plow',phigh',e,h⟩:=h
 simp only[xG,Value.agg.injEq,jD,xK,Value.bool.injEq,Value.string.injEq,Value.pointer.injEq,xE,Addr.mk.injEq,lst_inj,true_and,and_true]at e
 obtain⟨rfl,rfl,rfl,rfl,rfl⟩:=e
 exact h
theorem R169_step(N:Nat)(ih:OK 169 (R169 N)):OK 169 (R169 (N+1)):=by
 rintro _ H Bd K ⟨n,id,depth,plow,phigh,rfl,b,hb0,x,hx,b1,hb1,pages,hv0,b2,hb2,rows,hv1,low,wlow,high,whigh,⟨hl0,hc0,hd0,hl1,hc1,hd1,hm01,hpre,hmeas⟩,hK⟩
 obtain⟨sectors,pending,m1,l1,c1,m2,l2,c2,deep⟩:=x
 obtain rfl:=kX hx
 obtain rfl:=kX hv0
 obtain rfl:=kX hv1
 simp only[twB,flB]at hb0 hb1 hl0 hc0 hd0 hb2 hl1 hc1 hd1 hm01 hK hpre
 subst hl0;subst hc0
 subst hl1;subst hc1
 have hnB:HB H Bd->n<Bd/\m1<Bd/\m2<Bd:=fun h=>⟨zI h hb0,zI h hb1,zI h hb2⟩
 obtain⟨G,rfl,⟨gn,gm0,gm1⟩,gE,gH⟩:=out3 hb0 hb1 hb2 hd0 hd1 hm01
 rw[gE]at hK
 refine fn_can pok ((((uA.uB L104_ok).uB W213_ok).uB W80_ok).add 169 (R169 N) ih) [(6,[],[],(.k 3 (.grp false 42 50 8 [43,44,45,46,47,48,49,50] 51 none (.k 3 (.grp true 45 49 4 [46,47,48,49] 50 (some (42,false)) (.k 4 .nil) .nil)) (.k 1 (.grp false 52 56 4 [53,54,55,56] 57 none (.k 4 .nil) .nil))))),(11,[],[],(.k 3 (.grp true 67 71 4 [68,69,70,71] 72 none (.k 4 .nil) (.k 1 (.grp false 73 81 8 [74,75,76,77,78,79,80,81] 82 none (.k 3 (.grp true 76 80 4 [77,78,79,80] 81 (some (73,false)) (.k 4 .nil) .nil)) .nil))))),(23,[0,1,2,3,4,5,6,7,8,9,10,11,12,13,14,15,16],[z0 0,z0 1,z0 2,z0 3,z0 4,z0 5,z0 6,z0 7,z0 8,z0 9,z0 10,z0 11,z0 12,⟨13,[12],[]⟩,z0 14,z0 15,⟨16,[12],[]⟩], .nil)] G [.m n 2, .m n 3] (iv ((vis (fun l n=>l++[n]) ⟨sectors,pending⟩ (6-depth).toNat id low high depth ⟨pages,rows,deep⟩)).1) [((Bd+1),⟨qO (((vis (fun l n=>l++[n]) ⟨sectors,pending⟩ (6-depth).toNat id low high depth ⟨pages,rows,deep⟩)).2.rows),true⟩),(Bd,⟨qO (((vis (fun l n=>l++[n]) ⟨sectors,pending⟩ (6-depth).toNat id low high depth ⟨pages,rows,deep⟩)).2.pages),true⟩),(n,⟨[lst sectors,lst pending,sv Bd 1 (((vis (fun l n=>l++[n]) ⟨sectors,pending⟩ (6-depth).toNat id low high depth ⟨pages,rows,deep⟩)).2.pages).length ((((vis (fun l n=>l++[n]) ⟨sectors,pending⟩ (6-depth).toNat id low high depth ⟨pages,rows,deep⟩)).2.pages).length+1),sv (Bd+1) 2 (((vis (fun l n=>l++[n]) ⟨sectors,pending⟩ (6-depth).toNat id low high depth ⟨pages,rows,deep⟩)).2.rows).length ((((vis (fun l n=>l++[n]) ⟨sectors,pending⟩ (6-depth).toNat id low high depth ⟨pages,rows,deep⟩)).2.rows).length+1),iv ((vis (fun l n=>l++[n]) ⟨sectors,pending⟩ (6-depth).toNat id low high depth ⟨pages,rows,deep⟩)).2.deep],true⟩)] hK (by simp) (gH Bd) func169 rfl (rs:=[.tmp 10]) rfl ntmps169 (by simp) call169 (by kernel_rfl) (fun hh hb ha=>?_)
 obtain⟨hn,hn0,hn1⟩:=hnB hh
 have Ylow:=jE (ha plow (by simp))
 have Yhigh:=jE (ha phigh (by simp))
 clear hK gE gH hnB hb0 hx hb1 hv0 hb2 hv1
 refine jF pok fun cv=>?_
 obtain⟨h1,h2,h3,h4,h5,h6,h7,h8,h9⟩:=hpre
 generalize hD:(⟨sectors,pending⟩:GDisk)=d at*
 obtain⟨f,hf⟩:∃f,(6-depth).toNat=f+1:=⟨(5-depth).toNat,by omega⟩
 rw[hf]at h8 h9 ⊢
 have h6p:6^(f+1)=6*6^f:=by rw[Nat.pow_succ];omega
 have hsp:sm pages:=(yU _).2 (by omega)
 have hsl:sm low:=⟨by omega,fun _ _=>trivial⟩
 have hsh:sm high:=⟨by omega,fun _ _=>trivial⟩
 by_cases q1:hasI pages id=true
 ·have e:vis (fun l n=>l++[n]) d (f+1) id low high depth ⟨pages,rows,deep⟩=(8,⟨pages,rows,deep⟩):=vis_has q1
  rw[e]
  exact S (cj3 q1 hsp kK) trivial
 by_cases q2:(jY d id).2=0
 case neg=>
  have e:vis (fun l n=>l++[n]) d (f+1) id low high depth ⟨pages,rows,deep⟩=((jY d id).2,⟨pages,rows,deep⟩):=vis_code q1 q2
  rw[e]
  exact S (cj8 q1 hsp kK hD h1 h2 h3 q2) trivial
 have hN:=node_ok (nodeD_ok q2)
 generalize hnd:(jY d id).1=nd at*
 have hkl:=hN.kl
 have hkk:∀k∈nd.keys,sm k:=fun k hk=>⟨by have:=(hN.key k hk).2;omega,fun _ _=>trivial⟩
 by_cases b1:4<depth\/(1<depth/\nd.keys.length<2)\/nd.keys.length<1
 ·have hbad:badN nd depth low high=true:=by unfold badN;rcases b1 with h|⟨h,h'⟩|h <;>simp[*]
  have e:vis (fun l n=>l++[n]) d (f+1) id low high depth ⟨pages,rows,deep⟩=(8,⟨pages,rows,deep⟩):=vis_bad q1 q2 (by rw[hnd];exact hbad)
  rw[e]
  rcases b1 with h|⟨h,h'⟩|h
  ·exact S (cj10 q1 hsp kK hD h1 h2 h3 q2 hnd h) trivial
  ·by_cases h4':4<depth
   ·exact S (cj10 q1 hsp kK hD h1 h2 h3 q2 hnd h4') trivial
   ·exact S (cj12 q1 hsp kK hD h1 h2 h3 q2 hnd h4' h h') trivial
  ·have h0:nd.keys.length=0:=by omega
   by_cases h4':4<depth
   ·exact S (cj10 q1 hsp kK hD h1 h2 h3 q2 hnd h4') trivial
   ·by_cases h5':1<depth
    ·exact S (cj12 q1 hsp kK hD h1 h2 h3 q2 hnd h4' h5' h0) trivial
    ·exact S (cj12 q1 hsp kK hD h1 h2 h3 q2 hnd h4' h5' h0) trivial
 obtain⟨b2,b3,b4⟩:¬4<depth/\¬(1<depth/\nd.keys.length<2)/\¬nd.keys.length<1:=⟨fun h=>b1 (.inl h),fun h=>b1 (.inr (.inl h)),fun h=>b1 (.inr (.inr h))⟩
 have b5:1<depth->¬nd.keys.length<2:=fun h h'=>b3 ⟨h,h'⟩
 refine S (cj11 q1 hsp kK hD h1 h2 h3 q2 hnd b2 b4) ?_
 intro _
 refine jA (fun i=>∀j,j<i->∀x,nd.keys[j]? =some x->(!inB x low high)=false) (nd.keys.length) (fun i=>[(0,pt n),(1,iv id),(2,iv depth),(3,plow),(4,phigh),(11,pt Bd),(59,lst nd.keys),(60,iv nd.keys.length),(61,iv i)]) (by simp) (by simp only[go_sem,push_cast,qB,qA]) ?_
 intro i Bi hIi hii hBi
 refine cv (by kernel_rfl) ?_
 rcases xM i (nd.keys.length)with hlti|hgei
 ·have e1:nd.keys[i]? =some nd.keys[i]:=xA hlti
  have hk1:=hkk _ (xH hlti)
  have hbad:(!inB nd.keys[i] low high)=true->vis (fun l n=>l++[n]) d (f+1) id low high depth ⟨pages,rows,deep⟩=(8,⟨pages,rows,deep⟩):=fun hq=>vis_bad q1 q2 (by
   rw[hnd];unfold badN
   rw[any_hit hlti hq];simp)
  have hA:(low≠[]/\Lib.compareBytes nd.keys[i] low<0)\/low=[]\/(low≠[]/\¬Lib.compareBytes nd.keys[i] low<0):=by
   by_cases h:low=[]
   ·exact .inr (.inl h)
   ·by_cases h':Lib.compareBytes nd.keys[i] low<0
    ·exact .inl ⟨h,h'⟩
    ·exact .inr (.inr ⟨h,h'⟩)
  have hB:(high≠[]/\0<=Lib.compareBytes nd.keys[i] high)\/high=[]\/(high≠[]/\¬0<=Lib.compareBytes nd.keys[i] high):=by
   by_cases h:high=[]
   ·exact .inr (.inl h)
   ·by_cases h':0<=Lib.compareBytes nd.keys[i] high
    ·exact .inl ⟨h,h'⟩
    ·exact .inr (.inr ⟨h,h'⟩)
  have pl0:=bvOf_out wlow
  have ph0:=bvOf_out whigh
  rcases hA with⟨hl0,qa⟩|hA
  ·rw[hbad (inB_no1 hl0 qa)]
   rw[bvV_ne hl0]at pl0
   have la:=len_pos hl0
   exact S (cj7 e1 hk1 hsl hsh pl0 la qa) trivial
  rcases hA with hl0|⟨hl0,qa⟩
  case' inl=>
   have qa:True:=trivial
   have la:True:=trivial
   rw[hl0]at pl0
   have pl:plow=sn:=pl0
   have gA:low=[]\/¬Lib.compareBytes nd.keys[i] low<0:= .inl hl0
  case' inr=>
   have la:=len_pos hl0
   rw[bvV_ne hl0]at pl0
   have pl:=pl0
   have gA:low=[]\/¬Lib.compareBytes nd.keys[i] low<0:= .inr qa
  all_goals
   rcases hB with⟨hh0,qb⟩|hB
   ·rw[hbad (inB_no2 hh0 qb)]
    rw[bvV_ne hh0]at ph0
    have lb:=len_pos hh0
    exact S (cj10 e1 hk1 hsl hsh pl ph0 la lb qa qb) trivial
   rcases hB with hh0|⟨hh0,qb⟩
   case' inl=>
    have qb:True:=trivial
    have lb:True:=trivial
    rw[hh0]at ph0
    have ph:phigh=sn:=ph0
    have gB:high=[]\/¬0<=Lib.compareBytes nd.keys[i] high:= .inl hh0
   case' inr=>
    have lb:=len_pos hh0
    rw[bvV_ne hh0]at ph0
    have ph:=ph0
    have gB:high=[]\/¬0<=Lib.compareBytes nd.keys[i] high:= .inr qb
   all_goals
    refine S (cj10 e1 hk1 hsl hsh pl ph la lb qa qb) ?_
    intro j hj x hx
    by_cases e:j=i
    ·subst e;rw[e1]at hx;cases hx;exact inB_yes gA gB
    ·exact hIi j (by omega) x hx
 have hgood:¬badN nd depth low high=true:=by
  unfold badN
  rw[vL fun j hj x hx=>hIi j (by omega) x hx]
  simp only[Bool.or_false,Bool.or_eq_true,Bool.and_eq_true,decide_eq_true_eq]
  rintro((h|h)|h)
  ·exact b2 h
  ·exact b3 h
  ·exact b4 h
 refine SA0 ?_
 refine cv (by kernel_rfl) ?_
 by_cases hlf:nd.leaf=true
 ·have hv:=hN.vals hlf
  by_cases hdp:deep=0\/deep=depth
  ·have e:vis (fun l n=>l++[n]) d (f+1) id low high depth ⟨pages,rows,deep⟩=(0,⟨(pages++[id]),rows++rowsN nd nd.keys.length,depth⟩):=by
    have:=vis_leaf (ins:=(fun l n=>l++[n])) (f:=f) (low:=low) (high:=high) (w:=⟨pages,rows,deep⟩) q1 q2 (by rw[hnd];exact hgood) (by rw[hnd];exact hlf) hdp
    rw[hnd]at this;exact this
   rw[e]
   have hdn:deep≠0->deep=depth:=fun h=>hdp.resolve_left h
   by_cases hd0':deep=0
   case' pos=>have hd9:True:=trivial
   case' neg=>have hd9:=hdn hd0'
   all_goals
    refine SA (cj3 hlf hd0' hd9) ?_
    refine yM (X:=Nat) hb (by omega) 2 [.m n 2, .m n 3] rfl (fun x=>x<=nd.keys.length) (fun x=>nd.keys.length-x) (fun Nx x=>[(0,pt n),(11,pt Bd),(112,lst nd.keys),(113,iv nd.keys.length),(114,iv x)]) (fun Nx x=>[(n,⟨[lst sectors,lst pending,sv Nx 1 (pages++[id]).length ((pages++[id]).length+1),sv (Nx+1) 2 (rows++rowsN nd x).length ((rows++rowsN nd x).length+1),iv depth],true⟩),(Nx,⟨qO (pages++[id]),true⟩),(Nx+1,⟨qO (rows++rowsN nd x),true⟩),(Bd,⟨[.bool nd.leaf,lst nd.keys,lst nd.values,lst nd.kids],true⟩)]) 0 (xT _) (fun Nx hNx=>(by simp (disch:=first|assumption|omega|(simp (disch:=omega) only[qG,qE hb];done)|(simp (disch:=first|omega|(simp (disch:=omega) only[qG,qE hb];done)) only[go_sem,push_cast,qB,qA,qG,qE hb];done)|fail) only[go_sem,push_cast,qB,qA,qU,qL hb,qG,qE hb,qZ,qK,qT,jS,jH,jB,jT,jK,xL,xD,xJ,xZ,Nat.zero_add,rq_nb (ha plow (by simp)),rq_nb (ha phigh (by simp)),rowsN_zero,wL]<;>exact cT)) ?_
    intro Nx x hNx hIx hbx Fx hFx
    simp only[mem_cons,jC]at hbx ⊢
    refine cv (by kernel_rfl) ?_
    rcases xM x nd.keys.length with hltx|hgex
    ·have e1:nd.keys[x]? =some nd.keys[x]:=xA hltx
     have e2:nd.values[x]? =some (nd.values[x]'(by omega)):=xA _
     have hrl:(rows++rowsN nd x).length=rows.length+x:=by rw[xD,rowsN_len]
     refine SA (cj e1 e2) ?_
     refine hFx (x+1) _ _ _ ?_ ?_ (by simp only[go_sem,push_cast,qB,qA]) ((by simp (disch:=first|assumption|omega|(simp (disch:=omega) only[qG,qE hb];done)|(simp (disch:=first|omega|(simp (disch:=omega) only[qG,qE hb];done)) only[go_sem,push_cast,qB,qA,qG,qE hb];done)|fail) only[go_sem,push_cast,qB,qA,qU,qL hb,qG,qE hb,qZ,qK,qT,jS,jH,jB,jT,jK,xL,xD,xJ,xZ,Nat.zero_add,rq_nb (ha plow (by simp)),rq_nb (ha phigh (by simp)),rowsN_succ,rowN,getD_some e1,getD_some e2,enc_GRow]<;>exact cT))
     ·show nd.keys.length-(x+1)<nd.keys.length-x
      omega
     ·exact hltx
    ·obtain rfl:x=nd.keys.length:=Nat.le_antisymm hIx hgex
     refine S0 ?_
     refine cv (by kernel_rfl) ?_
     exact S0 trivial
  ·have e:vis (fun l n=>l++[n]) d (f+1) id low high depth ⟨pages,rows,deep⟩=(8,⟨(pages++[id]),rows,deep⟩):=by
    have:=vis_leafN (ins:=(fun l n=>l++[n])) (f:=f) (low:=low) (high:=high) (w:=⟨pages,rows,deep⟩) q1 q2 (by rw[hnd];exact hgood) (by rw[hnd];exact hlf) hdp
    exact this
   rw[e]
   have hd1:¬deep=0:=fun h=>hdp (.inl h)
   have hd2:¬deep=depth:=fun h=>hdp (.inr h)
   simp (maxSteps:=2000000) (disch:=first|exact dp|fail) only[go_sem,push_cast,qB,qA,qL hb,qE hb,hlf,hd1,hd2,zB,yK,qK,qT,jS,jH,jB,xL,xD,xJ,xZ,Nat.zero_add]
 have hkd:=hN.kids (by simpa using hlf)
 have hkne:∀k∈nd.keys,k≠[]:=fun k hk e=>by have:=(hN.key k hk).1;rw[e]at this;exact absurd this (by decide)
 have hlf2:nd.leaf=false:=by simpa using hlf
 have e:vis (fun l n=>l++[n]) d (f+1) id low high depth ⟨pages,rows,deep⟩=visK (fun k a b w=>vis (fun l n=>l++[n]) d f k a b (depth+1) w) nd low high nd.kids.length 0 ⟨(pages++[id]),rows,deep⟩:=by
  have:=vis_kids (ins:=(fun l n=>l++[n])) (f:=f) (low:=low) (high:=high) (w:=⟨pages,rows,deep⟩) q1 q2 (by rw[hnd];exact hgood) (by rw[hnd];exact hlf)
  rw[hnd]at this;exact this
 rw[e]
 have hff:(6-(depth+1)).toNat=f:=by omega
 have hipl:∀(l:List Int) (z:Int),((fun l n=>l++[n]) l z).length<=l.length+1:=fun l z=>by simp
 refine SA hlf2 ?_
 refine yM (X:=Nat×GL17Walk) hb (by omega) 2 [.m n 2, .m n 3] rfl (fun x=>x.1<=nd.kids.length/\visK (fun k a b w=>vis (fun l n=>l++[n]) d f k a b (depth+1) w) nd low high nd.kids.length 0 ⟨(pages++[id]),rows,deep⟩=visK (fun k a b w=>vis (fun l n=>l++[n]) d f k a b (depth+1) w) nd low high (nd.kids.length-x.1) x.1 x.2/\Grow (x.1*6^f) ⟨(pages++[id]),rows,deep⟩ x.2) (fun x=>nd.kids.length-x.1) (fun Nx x=>[(0,pt n),(2,iv depth),(3,plow),(4,phigh),(11,pt Bd),(137,lst nd.kids),(138,iv nd.kids.length),(139,iv x.1)]) (fun Nx x=>[(n,⟨[lst sectors,lst pending,sv Nx 1 x.2.pages.length (x.2.pages.length+1),sv (Nx+1) 2 x.2.rows.length (x.2.rows.length+1),iv x.2.deep],true⟩),(Nx,⟨qO x.2.pages,true⟩),(Nx+1,⟨qO x.2.rows,true⟩),(Bd,⟨[.bool false,lst nd.keys,lst nd.values,lst nd.kids],true⟩)]) (0,⟨(pages++[id]),rows,deep⟩) (⟨xT _,rfl,Grow.refl _ _⟩) (fun Nx hNx=>(canf (cj Ylow Yhigh))) ?_
 intro Nx x hNx hIx hbx Fx hFx
 simp only[mem_cons,jC]at hbx ⊢
 refine cv (by kernel_rfl) ?_
 obtain⟨i,w⟩:=x
 obtain⟨i1,i2,i3⟩:=hIx
 simp only at i1 i2 i3
 have hp6:0<6^f:=Nat.pow_pos (by omega)
 have g1:=i3.pages
 have g2:=i3.rows
 simp only[xD,xJ,xZ]at g1 g2
 rcases xM i nd.kids.length with hlt|hge
 ·have e1:nd.kids[i]? =some nd.kids[i]:=xA hlt
  have hkr:=hkd.2.2.2 _ (xH hlt)
  have hkR:R64 nd.kids[i]:=⟨by omega,by omega⟩
  have hmul:i*6^f<=4*6^f:=Nat.mul_le_mul_right _ (by omega)
  obtain⟨P,hP⟩:∃P,P=i*6^f:=⟨_,rfl⟩
  rw[<-hP]at g1 g2 hmul
  have hq1:w.pages.length+6^f<=100000:=by omega
  have hq2:w.rows.length+4*6^f<=400000:=by omega
  have hlo:(loB nd low i).length<=16:=by
   unfold loB
   split
   ·rw[getD_some (xA (show i-1<nd.keys.length by omega))]
    exact(hN.key _ (xH _)).2
   ·exact h6
  have hhi:(hiB nd high i).length<=16:=by
   unfold hiB
   split
   ·rename_i hq
    rw[getD_some (xA hq)]
    exact(hN.key _ (xH _)).2
   ·exact h7
  have hst:nd.kids.length-i=(nd.kids.length-(i+1))+1:=by omega
  rw[hst]at i2
  have hgd:nd.kids.getD i 0=nd.kids[i]:=getD_some e1
  have hc1:((i:Int)-1).toNat=i-1:=by omega
  have h3':(0<i/\i<nd.keys.length)\/(0<i/\¬i<nd.keys.length)\/(¬0<i/\i<nd.keys.length):=by omega
  have hsv:= @visK_succ (fun k a b w=>vis (fun l n=>l++[n]) d f k a b (depth+1) w) nd low high (nd.kids.length-(i+1)) i w
  have hsw:= @visK_stop (fun k a b w=>vis (fun l n=>l++[n]) d f k a b (depth+1) w) nd low high (nd.kids.length-(i+1)) i w
  simp only[hgd]at hsv hsw
  have hgw:=vis_grow hipl d f nd.kids[i] (loB nd low i) (hiB nd high i) (depth+1) w
  rcases h3' with⟨hi0,hin⟩|⟨hi0,hin⟩|⟨hi0,hin⟩
  case' inl=>
   have e2:nd.keys[i-1]? =some (nd.keys[i-1]'(by omega)):=xA _
   have n2:(nd.keys[i-1]'(by omega))≠[]:=hkne _ (xH _)
   have hlo2:loB nd low i=nd.keys[i-1]'(by omega):=by unfold loB;rw[if_pos hi0,getD_some e2]
   have e3:nd.keys[i]? =some nd.keys[i]:=xA hin
   have n3:nd.keys[i]≠[]:=hkne _ (xH _)
   have hhi2:hiB nd high i=nd.keys[i]:=by unfold hiB;rw[if_pos hin,getD_some e3]
  case' inr.inl=>
   have e2:nd.keys[i-1]? =some (nd.keys[i-1]'(by omega)):=xA _
   have n2:(nd.keys[i-1]'(by omega))≠[]:=hkne _ (xH _)
   have hlo2:loB nd low i=nd.keys[i-1]'(by omega):=by unfold loB;rw[if_pos hi0,getD_some e2]
   have e3:True:=trivial
   have hhi2:hiB nd high i=high:=if_neg hin
  case' inr.inr=>
   have e2:True:=trivial
   have hlo2:loB nd low i=low:=if_neg hi0
   have e3:nd.keys[i]? =some nd.keys[i]:=xA hin
   have n3:nd.keys[i]≠[]:=hkne _ (xH _)
   have hhi2:hiB nd high i=nd.keys[i]:=by unfold hiB;rw[if_pos hin,getD_some e3]
  all_goals
   rw[hlo2]at hlo;rw[hhi2]at hhi
   by_cases hr:(vis (fun l n=>l++[n]) d f nd.kids[i] (loB nd low i) (hiB nd high i) (depth+1) w).1=0
   ·rw[hsv (by simpa using hr)]at i2
    have hr2:=hr
    rw[hlo2,hhi2]at hr2
    simp (maxSteps:=2000000) (disch:=first|exact dp|fail) only[go_sem,push_cast,qB,qA,qL hb,qE hb,e1,e2,e3,hi0,hin,hc1,hD,h1,h2,hkR,hff,wlow,whigh,hr2]
    refine hFx (i+1,(vis (fun l n=>l++[n]) d f nd.kids[i] (loB nd low i) (hiB nd high i) (depth+1) w).2) _ _ _ ?_ ?_ (by simp only[go_sem,push_cast,qB,qA]) ((canf (cj4 Ylow Yhigh hlo2 hhi2)))
    ·show nd.kids.length-(i+1)<nd.kids.length-i
     omega
    ·exact⟨hlt,i2,(i3.trans hgw).up (by rw[Nat.succ_mul];exact xC _)⟩
   ·rw[hsw hr]at i2;rw[i2]
    have hr2:=hr
    rw[hlo2,hhi2]at hr2 ⊢
    simp (maxSteps:=2000000) (disch:=first|exact dp|fail) only[go_sem,push_cast,qB,qA,qL hb,qE hb,e1,e2,e3,hi0,hin,hc1,hD,h1,h2,hkR,hff,wlow,whigh,hr2]
 ·obtain rfl:i=nd.kids.length:=Nat.le_antisymm i1 hge
  rw[Nat.sub_self,visK]at i2
  rw[i2]
  refine S0 ?_
  refine cv (by kernel_rfl) ?_
  exact S0 trivial
theorem R169_zero:OK 169 (R169 0):=by
 rintro _ H Bd K ⟨n,id,depth,plow,phigh,rfl,b,hb0,x,hx,b1,hb1,pages,hv0,b2,hb2,rows,hv1,low,wlow,high,whigh,⟨hl0,hc0,hd0,hl1,hc1,hd1,hm01,hpre,hmeas⟩,hK⟩
 exact absurd hmeas (Nat.not_lt_zero _)
theorem R169_ok:∀N,OK 169 (R169 N)
 |0=>R169_zero
 |N+1=>R169_step N (R169_ok N)
theorem W169_ok:OK 169 W169:=by
 rintro _ H Bd K ⟨n,id,depth,plow,phigh,rfl,b,hb0,x,hx,b1,hb1,pages,hv0,b2,hb2,rows,hv1,low,wlow,high,whigh,⟨hl0,hc0,hd0,hl1,hc1,hd1,hm01,hpre⟩,hK⟩
 exact R169_ok (_+1) _ _ _ _ ⟨n,id,depth,plow,phigh,rfl,b,hb0,x,hx,b1,hb1,pages,hv0,b2,hb2,rows,hv1,low,wlow,high,whigh,⟨hl0,hc0,hd0,hl1,hc1,hd1,hm01,hpre,Nat.lt_succ_self _⟩,hK⟩
def T169:qH:=ToC W169
theorem T169_ok:OK 169 T169:=ToC_ok W169_ok
@[go_sem ↓] def BW116 (d:GDisk) (root:Int):Tq:=fun H Bd K=>((sm d/\DiskOK d/\R64 root)/\K (.tuple #[pt Bd,iv (yB d root).1]) (upd (upd (upd H Bd (some ⟨twC d (yB d root).2 (Bd+1) (Bd+2),true⟩)) (Bd+1) (some ⟨qO (yB d root).2.pages,true⟩)) (Bd+2) (some ⟨qO (yB d root).2.rows,true⟩)) (Bd+3))
def W116:qH:=fun g' H Bd K=>∃(d:GDisk) (root:Int),g'=[.agg (enc d).toArray,iv root]/\BW116 d root H Bd K
@[go_sem ↓] theorem W116_eq (a:List (List UInt8)) (b:List GPut) (c:Int):W116 [.agg #[lst a,lst b],iv c] H Bd K=BW116 (GDisk.mk a b) c H Bd K:=ex2 (GDisk.mk a b) c rfl
theorem W116_ok:OK 116 W116:=by
 rintro _ H Bd K ⟨d,root,rfl,hpre,hK⟩
 refine fn_can pok (uA.uB T169_ok) [] H [.s 4, .m (Bd+1) 2, .m (Bd+1) 3] (.tuple #[pt Bd,iv (yB d root).1]) [((Bd+2),⟨qO (yB d root).2.rows,true⟩),((Bd+1),⟨qO (yB d root).2.pages,true⟩),(Bd,⟨twC d (yB d root).2 (Bd+1) (Bd+2),true⟩)] hK (by simp) id func116 rfl (rs:=[.tmp 4, .tmp 5]) rfl ntmps116 (by simp) call116 (by kernel_rfl) (fun _ hb ha=>?_)
 clear hK
 obtain⟨h1,h2,h3⟩:=hpre
 by_cases h0:root=0
 ·have e:yB d root=(0,⟨[],[],0⟩):=by unfold yB noWk;rw[if_pos h0]
  rw[e]
  simp (maxSteps:=2000000) (disch:=first|exact dq|fail) only[go_sem,push_cast,qB,qA,qL hb,qE hb,h0,qZ,xZ,Nat.zero_add]
 have e:yB d root=vis (fun l n=>l++[n]) d 5 root [] [] 1 ⟨[],[],0⟩:=by unfold yB noWk;rw[if_neg h0]
 rw[e]
 refine R h0 ?_
 refine toC (args':=[pt (Bd+1),iv root,iv 1,sn,sn]) hb (by omega) 2 [.m (Bd+1) 2, .m (Bd+1) 3] rfl [(Bd,⟨[lst d.sectors,lst d.pending],true⟩),(Bd+1,⟨[lst d.sectors,lst d.pending,sv (Bd+2) 1 0 1,sv (Bd+2+1) 2 0 1,iv 0],true⟩),(Bd+2,⟨[],true⟩),(Bd+2+1,⟨[],true⟩)] (cant) ?_
 simp only[mem_cons,jC]
 have h5:(6-(1:Int)).toNat=5:=rfl
 exact R (cj3 h1 h2 h3) trivial
@[go_sem ↓] def BW73 (d:GDisk) (root:Int):Tq:=fun H Bd K=>((sm d/\R64 root)/\K (.tuple #[pt Bd,iv (vU d root).1]) (upd (upd (upd H Bd (some ⟨twC (vU d root).2.1 (vU d root).2.2 (Bd+1) (Bd+2),true⟩)) (Bd+1) (some ⟨qO (vU d root).2.2.pages,true⟩)) (Bd+2) (some ⟨qO (vU d root).2.2.rows,true⟩)) (Bd+3))
def W73:qH:=fun g' H Bd K=>∃(d:GDisk) (root:Int),g'=[.agg (enc d).toArray,iv root]/\BW73 d root H Bd K
@[go_sem ↓] theorem W73_eq (a:List (List UInt8)) (b:List GPut) (c:Int):W73 [.agg #[lst a,lst b],iv c] H Bd K=BW73 (GDisk.mk a b) c H Bd K:=ex2 (GDisk.mk a b) c rfl
theorem W73_ok:OK 73 W73:=by
 rintro _ H Bd K ⟨d,root,rfl,hpre,hK⟩
 refine fn_can pok ((uA.uB W90_ok).uB W116_ok) [] H [.s 4, .m (Bd+1) 2, .m (Bd+1) 3] (.tuple #[pt Bd,iv (vU d root).1]) [((Bd+2),⟨qO (vU d root).2.2.rows,true⟩),((Bd+1),⟨qO (vU d root).2.2.pages,true⟩),(Bd,⟨twC (vU d root).2.1 (vU d root).2.2 (Bd+1) (Bd+2),true⟩)] hK (by simp) id func73 rfl (rs:=[.tmp 4, .tmp 5]) rfl ntmps73 (by simp) call73 (by kernel_rfl) (fun _ hb ha=>?_)
 clear hK
 obtain⟨h1,h3⟩:=hpre
 by_cases hd:yR d=0
 case neg=>
  have e:vU d root=(yR d,⟨[],[]⟩,⟨[],[],0⟩):=by unfold vU noWk;rw[if_pos hd]
  rw[e]
  simp (maxSteps:=2000000) (disch:=first|exact dq|fail) only[go_sem,push_cast,qB,qA,qL hb,qE hb,h1,hd,qZ,xZ,Nat.zero_add]
 have h2:=disk_ok hd
 have e:vU d root=((yB d root).1,d,(yB d root).2):=by unfold vU;rw[if_neg (by simpa using hd)]
 rw[e]
 exact R (cj4 h1 h2 h3 hd) trivial
def W94:qH:=fun g' H Bd K=>∃(d:GDisk) (root:Int),g'=[.agg (enc d).toArray,iv root]/\((sm d/\R64 root)/\K (.agg (enc (pagesR d root)).toArray) H Bd)
@[go_sem ↓] theorem W94_eq (a:List (List UInt8)) (b:List GPut) (c:Int):W94 [.agg #[lst a,lst b],iv c] H Bd K=((sm (GDisk.mk a b)/\R64 c)/\K (.agg (enc (pagesR (GDisk.mk a b) c)).toArray) H Bd):=ex2 (GDisk.mk a b) c rfl
theorem W94_ok:OK 94 W94:=by
 rintro _ H Bd K ⟨d,root,rfl,hpre,hK⟩
 refine fnp pok ((uA.uB W73_ok).uB W95_ok) [] hK func94 ntmps94 call94 [.cell 4 111] fun hb ha=>?_
 obtain⟨h1,h3⟩:=hpre
 by_cases hc:(vU d root).1=0
 case neg=>
  have e:pagesR d root=⟨(vU d root).1,[]⟩:=by unfold pagesR;rw[if_pos hc]
  rw[e]
  exact R (cj3 h1 h3 hc) trivial
 have hd:yR d=0:=by
  by_cases h:yR d=0
  ·exact h
  ·unfold vU at hc;rw[if_pos h]at hc;exact hc
 have et:(vU d root).2.2=(yB d root).2:=by unfold vU;rw[if_neg (by simpa using hd)]
 have e:pagesR d root=⟨0,vN (yB d root).2.pages⟩:=by unfold pagesR;rw[if_neg (by simpa using hc)]
 have hl:=(treeI_len d root).1
 rw[e]
 refine R (cj4 h1 h3 hc et) ?_
 exact qV (by simp (disch:=first|assumption|omega) only[go_sem,push_cast,qB,qA]) (hb.fresh _ (by omega)) rfl (by first|rfl|exact(yS _).symm|simp|omega)
def W60:qH:=fun g' H Bd K=>∃(d:GDisk) (head:Int),g'=[.agg (enc d).toArray,iv head]/\((sm d/\R64 head)/\K (.agg (enc (chainR d head)).toArray) H Bd)
@[go_sem ↓] theorem W60_eq (a:List (List UInt8)) (b:List GPut) (c:Int):W60 [.agg #[lst a,lst b],iv c] H Bd K=((sm (GDisk.mk a b)/\R64 c)/\K (.agg (enc (chainR (GDisk.mk a b) c)).toArray) H Bd):=ex2 (GDisk.mk a b) c rfl
theorem W60_ok:OK 60 W60:=by
 rintro _ H Bd K ⟨d,head,rfl,hpre,hK⟩
 refine fnp pok ((((uA.uB W90_ok).uB W103_ok).uB L104_ok).uB W105_ok) [(6,[],[],(.k 3 (.grp false 20 24 4 [21,22,23,24] 25 none (.k 4 .nil) .nil))),(13,[],[],(.k 4 (.grp false 45 49 4 [46,47,48,49] 50 none (.k 4 .nil) .nil))),(15,[0,1,2,3,4,5,6,7],[z0 0,z0 1,z0 2,z0 3,z0 4,z0 5,z0 6,z0 7], .nil)] hK func60 ntmps60 call60 [.cell 4 117] fun hb ha=>?_
 refine jF pok fun cv=>?_
 obtain⟨h1,h3⟩:=hpre
 by_cases hd:yR d=0
 case neg=>
  have e:chainR d head=⟨yR d,[],[]⟩:=by unfold chainR;rw[if_pos hd]
  rw[e]
  exact R (cj h1 hd) trivial
 have h2:=disk_ok hd
 have hsl:=h2.len
 have e:chainR d head=⟨(qW d head).2.2,(qW d head).1,(qW d head).2.1⟩:=by unfold chainR;rw[if_neg (by simpa using hd)]
 rw[e]
 refine R (cj h1 hd) ?_
 refine yM (X:=List UInt8×List Int×Int) hb (by omega) 2 [.m (Bd+2) 1, .m (Bd+2) 2] rfl (fun x=>x.1.length<=400/\x.2.1.length<=x.1.length/\R64 x.2.2/\qW d head=chn d (401-x.2.1.length) x.2.2 x.1 x.2.1) (fun x=>401-x.2.1.length) (fun Nx x=>[(2,pt Bd),(4,pt (Bd+1)),(6,pt (Bd+2)),(7,iv x.2.2)]) (fun Nx x=>[(Bd,⟨[lst d.sectors,lst d.pending],true⟩),(Bd+1,⟨[iv 0,sn,sn],true⟩),(Bd+2,⟨[iv 0,sv Nx 1 x.1.length (x.1.length+1),sv (Nx+1) 1 x.2.1.length (x.2.1.length+1)],true⟩),(Nx,⟨qO x.1,true⟩),(Nx+1,⟨qO x.2.1,true⟩)]) ([],[],head) (⟨xT _,xT _,h3,rfl⟩) (fun Nx hNx=>(cant)) ?_
 intro Nx x hNx hIx hbx Fx hFx
 simp only[mem_cons,jC]at hbx ⊢
 refine cv (by kernel_rfl) ?_
 obtain⟨data,pages,id⟩:=x
 obtain⟨i1,i2,i3,i4⟩:=hIx
 simp only at i1 i2 i3 i4
 have hsp:sm pages:=(yU _).2 (by omega)
 obtain⟨g,hg⟩:∃g,401-pages.length=g+1:=⟨400-pages.length,by omega⟩
 rw[hg,chn]at i4
 by_cases hr:2<=id/\id<=(d.sectors.length:Int)-1
 case neg=>
  rw[if_pos hr]at i4
  rw[i4]
  by_cases hr2:id<2
  ·exact R (cj h1 hr2) trivial
  ·have hr3:¬id<=(d.sectors.length:Int)-1:=fun h=>hr ⟨by omega,h⟩
   exact R (cj3 h1 hr2 hr3) trivial
 rw[if_neg (by simpa using hr)]at i4
 have hpd:pageD d id=qY (yH d id) id:=by unfold pageD;rw[if_neg (by simpa using hr)]
 obtain⟨hr1,hr2⟩:=hr
 by_cases hq:hasI pages id=true
 ·rw[if_pos hq]at i4
  rw[i4]
  exact R (cj8 h1 h2 hr1 hr2 i3 hpd kK hq) trivial
 rw[if_neg hq]at i4
 have hlen:=readD_len h2 (n:=id) (by omega) (by omega)
 by_cases hc:(qY (yH d id) id).2=0
 case neg=>
  rw[if_pos hc]at i4
  rw[i4]
  exact R (cj9 h1 h2 hr1 hr2 i3 hpd kK hq hc) trivial
 rw[if_neg (by simpa using hc)]at i4
 have hbl:=(pageF_ok (readPg_ok hc).1).2.2
 generalize hP:(qY (yH d id) id).1=P at*
 by_cases hk:P.kind=3
 case neg=>
  rw[if_pos (.inl hk)]at i4
  rw[i4]
  exact R (cj11 h1 h2 hr1 hr2 i3 hpd kK hq hc hP hk) trivial
 by_cases hl:P.body.length<2
 ·rw[if_pos (.inr hl)]at i4
  rw[i4]
  exact R (cj12 h1 h2 hr1 hr2 i3 hpd kK hq hc hP hk hl) trivial
 rw[if_neg (by simp[hk];omega)]at i4
 have hdl:(data++P.body.drop 1).length=data.length+(P.body.length-1):=by rw[xD,xI]
 have hdl2:(List.drop 1 P.body).length=P.body.length-1:=by rw[xI]
 have hok:=flat_ok (List.drop 1 P.body)
 by_cases h4:400<(data++P.body.drop 1).length
 ·rw[if_pos h4]at i4
  rw[i4]
  have h4':400<data.length+(P.body.length-1):=by omega
  exact RA (cj16 h1 h2 hr1 hr2 i3 hpd kK hq hc hP hk hl hok hdl2 h4' ((@List.take_length UInt8))) trivial
 rw[if_neg h4]at i4
 have h4':¬400<data.length+(P.body.length-1):=by omega
 have e0:P.body[0]? =some (P.body[0]'(by omega)):=xA _
 have b0:((P.body[0]'(by omega)).toNat:Int)<=255:=by have:=(P.body[0]'(by omega)).toNat_lt;omega
 rw[getD_some e0]at i4
 by_cases h0:(P.body[0]'(by omega)).toNat=0
 ·rw[if_pos h0]at i4
  rw[i4]
  have h0':((P.body[0]'(by omega)).toNat:Int)=0:=by omega
  refine RA (cj19 h1 h2 hr1 hr2 i3 hpd kK hq hc hP hk hl hok hdl2 h4' e0 h0 h0' ((@List.take_length UInt8))) ?_
  refine⟨?_,?_⟩ <;>exact qV (by simp (disch:=first|assumption|omega) only[go_sem,push_cast,qB,qA,qK,qT,jS,jH,jB,jT,jK,xL]) (hb.fresh _ (by omega)) rfl (by simp <;>omega)
 rw[if_neg h0]at i4
 have h0':¬((P.body[0]'(by omega)).toNat:Int)=0:=by omega
 refine RA (cj19 h1 h2 hr1 hr2 i3 hpd kK hq hc hP hk hl hok hdl2 h4' e0 h0 h0' ((@List.take_length UInt8))) ?_
 refine hFx (data++P.body.drop 1,pages++[id],((P.body[0]'(by omega)).toNat:Int)) _ _ _ ?_ ?_ (by simp only[go_sem,push_cast,qB,qA]) ((canf hdl2))
 ·show 401-(pages++[id]).length<401-pages.length
  rw[xD];simp only[xJ,xZ];omega
 ·refine⟨show(data++P.body.drop 1).length<=400 by omega,?_,show R64 ((P.body[0]'(by omega)).toNat:Int)from⟨by omega,by omega⟩,?_⟩
  ·show(pages++[id]).length<=(data++P.body.drop 1).length
   rw[xD,hdl];simp only[xJ,xZ];omega
  ·show _=chn d (401-(pages++[id]).length) _ _ _
   rw[i4,xD,show 401-(pages.length+[id].length)=g by simp only[xJ,xZ];omega]
def W96:qH:=fun g' H Bd K=>∃(l:List Int),g'=[lst l]/\((sm l)/\K (.bool (incI l)) H Bd)
@[go_sem ↓] theorem W96_eq (a:List Int):W96 [lst a] H Bd K=((sm a)/\K (.bool (incI a)) H Bd):=ex1 a rfl
theorem W96_ok:OK 96 W96:=by
 rintro _ H Bd K ⟨l,rfl,hpre,hK⟩
 refine fnp pok uA [(4,[0,1,2,3,4,5,6,7,8,9],[z0 0,z0 1,z0 2,z0 3,z0 4,z0 5,z0 6,z0 7,z0 8,z0 9], .nil)] hK func96 ntmps96 call96 [.tmp 2] fun hb ha=>?_
 refine jF pok fun cv=>?_
 have hlen:=qS hpre
 refine R0 ?_
 refine jA (fun k=>∀j,j<k->∀x y,l[j]? =some x->l[j+1]? =some y->x<y) (l.length-1) (fun k=>[(0,lst l),(3,iv ((k:Int)+1))]) (fun j hj=>absurd hj (Nat.not_lt_zero _)) (by simp only[go_sem,push_cast,qB,qA,Int.zero_add]) ?_
 intro k Bk hIk hik hBk
 refine cv (by kernel_rfl) ?_
 rcases xM k (l.length-1)with hltk|hgek
 ·have e1:l[k]? =some (l[k]'(by omega)):=xA _
  have e2:l[k+1]? =some (l[k+1]'(by omega)):=xA _
  have c1:((k:Int)+1-1).toNat=k:=by omega
  have c2:((k:Int)+1).toNat=k+1:=by omega
  by_cases hq:l[k]'(by omega)<l[k+1]'(by omega)
  ·refine R (cj5 e1 e2 c1 c2 hq) ?_
   intro j hj x y j1 j2
   by_cases e:j=k
   ·subst e;rw[e1]at j1;rw[e2]at j2;cases j1;cases j2;exact hq
   ·exact hIk j (by omega) x y j1 j2
  ·have e:incI l=false:=incI_no e1 e2 hq
   exact R (cj6 e1 e2 c1 c2 hq e) trivial
 ·refine R0 ?_
  refine cv (by kernel_rfl) ?_
  have e:incI l=true:=incI_yes fun j x y j1 j2=>hIk j (by have:=(xR.1 j2).1;omega) x y j1 j2
  exact R e trivial
end Go.Proofs.YtogofkjpbpgneaaGreatDoor
