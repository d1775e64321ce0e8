/- YthoahlghegcfnaaGreatDoorC2 -/
import Derived.Test.YthoahlghegcfnaaGreatDoorC1
set_option linter.unusedSimpArgs false
set_option linter.unusedVariables false
set_option maxRecDepth 20000
namespace Go.Proofs.YthoahlghegcfnaaGreatDoor
open Go Go.SC
variable {H:AH} {Bd:Nat} {K:Value→AH→Nat→Prop}
def W242:qJ:=fun args H Bd K=>∃(p:GPage),args=[.agg (enc p).toArray]∧((sm p∧R64 p.id)∧K (.int .i64 (pageF p)) H Bd)
@[go_sem ↓] theorem W242_eq (p_kind:Int) (p_id:Int) (p_body:List UInt8):W242 [.agg #[.int .i64 p_kind, .int .i64 p_id,lst p_body]] H Bd K=((sm (GPage.mk p_kind p_id p_body)∧R64 (GPage.mk p_kind p_id p_body).id)∧K (.int .i64 (pageF (GPage.mk p_kind p_id p_body))) H Bd):=ex1 (GPage.mk p_kind p_id p_body) rfl
theorem W242_ok:OK 242 W242:=by
 rintro args H Bd K ⟨p,rfl,hpre,hK⟩
 refine fnp pok (((Env.base _).add 105 _ W105_ok).add 107 _ W107_ok) [(1,[],[],(.k 5 (.grp false 7 11 4 [8,9,10,11] 12 none (.k 4 .nil) .nil)))] hK Tryz.func242 Tryz.ntmps242 Tryz.call242 [.tmp 2] fun hb ha=> ?_
 obtain⟨h1,h2⟩:=hpre
 simp only[sm_GPage]at h1
 have hlen:=qY h1.2.2
 refine R (cj h1 h2) ?_
 unfold pageF isPg
 all_goals first|done|trivial|((try simp only[Cnp,Imp]);grind)
def V243:qJ:=fun args H Bd K=>∃(p:GPage),args=[.agg (enc p).toArray]∧((sm p∧pageF p=0)∧K (lst (packP p)) H Bd)
@[go_sem ↓] theorem V243_eq (p_kind:Int) (p_id:Int) (p_body:List UInt8):V243 [.agg #[.int .i64 p_kind, .int .i64 p_id,lst p_body]] H Bd K=((sm (GPage.mk p_kind p_id p_body)∧pageF (GPage.mk p_kind p_id p_body)=0)∧K (lst (packP (GPage.mk p_kind p_id p_body))) H Bd):=ex1 (GPage.mk p_kind p_id p_body) rfl
def W243:qJ:=fun args H Bd K=>∃(pp:Value),args=[pp]∧Yld (qK H 3 pp) fun cp=>qS V243 [.agg cp.toArray] H Bd K
@[go_sem ↓] theorem W243_eq (pp:Value):W243 [pp] H Bd K=(Yld (qK H 3 pp) fun cp=>qS V243 (idS [.agg cp.toArray]) H Bd K):=by
 refine propext ⟨fun h=> ?_,fun h=>⟨_,rfl,h⟩⟩
 obtain⟨pp',e,h⟩:=h
 simp only[List.cons.injEq,and_true]at e
 obtain rfl:=e
 exact h
set_option maxHeartbeats 2000000 in
theorem W243_ok:OK 243 W243:=by
 rintro args H Bd K ⟨pp,rfl,cp,ep,h⟩
 obtain⟨p,e,hpre,hK⟩:=h
 simp only[List.cons.injEq,and_true]at e
 have Ep:=e
 obtain rfl:=qZ Ep
 refine fnp pok (((Env.base _).add 240 _ L240_ok).add 239 _ W239_ok) [(1,[0,1,2,3,4,5,6,7,8,9,10,11,12,13,14,15,16,17],[⟨0,[],[]⟩,⟨1,[],[]⟩,⟨2,[],[]⟩,⟨3,[],[]⟩,⟨4,[],[]⟩,⟨5,[],[]⟩,⟨6,[],[]⟩,⟨7,[],[]⟩,⟨8,[],[]⟩,⟨9,[],[]⟩,⟨10,[],[]⟩,⟨11,[],[]⟩,⟨12,[],[]⟩,⟨13,[],[]⟩,⟨14,[],[]⟩,⟨15,[],[]⟩,⟨16,[],[]⟩,⟨17,[],[]⟩], .nil)] hK Tryz.func243 Tryz.ntmps243 Tryz.call243 [.tmp 2] fun hb ha=> ?_
 have Pp:=qO ep (NB.vpok (ha pp (by simp)))
 simp only[enc_GPage]at Pp
 have Zp:=Pp.all 3 rfl
 have Yp:=jJ (ha pp (by simp))
 refine jH pok fun cv=> ?_
 obtain⟨h1,h2⟩:=hpre
 have hp:=pageF_ok h2
 simp only[sm_GPage]at h1
 have h0:=packP0_flat p
 have hl0:=packP0_len p
 have hok:=flat_ok p.body
 have hpl:=padP_len (l:=yA p) (by omega)
 have hsr:=sum_rg (padP (yA p))
 have hend:qQ (padP (yA p))++qQ (jP (sumB 29 (padP (yA p))))=qQ (packP p):=by rw[←qL];rfl
 have hend2:=packP_len hp.2.2
 have htk2:List.take 94 (qQ (padP (yA p)))=qQ (padP (yA p)):=by
  have h:=flat_all (padP (yA p))
  rw[hpl,show Enc.k UInt8=1 from rfl,Nat.mul_one]at h
  exact h
 have hsmp:sm (padP (yA p)):=⟨by omega,fun _ _=>trivial⟩
 have hpn:=jZ (sumB 29 (padP (yA p)))
 have hok2:=flat_ok (jP (sumB 29 (padP (yA p))))
 have hLx:∀b,Le (upd H (Bd+18) b) (upd (upd H (Bd+16) none) (Bd+18) b):=fun b=>Le_mark (by rw[qG hb _ (by omega)];exact Le.refl _)
 refine RA (cj Zp hok) ?_
 refine tr_st (X:=Nat×Nat×Nat) (fun x=>x.1≤91-p.body.length∧Bd≤x.2.1∧0<x.2.2) (fun x=>91-p.body.length-x.1) (fun x=>[(3, .slice (some ⟨x.2.1,0,some 1⟩) (3+p.body.length+x.1) x.2.2)]) (fun x=>upd H x.2.1 (some ⟨qQ (yA p++List.replicate x.1 0),true⟩)) (0,Bd+18,kY (3+p.body.length) 3) (⟨Nat.zero_le _,Nat.le_add_right _ _,kD _ _⟩) (by simp only[go_sem,push_cast,qB,qA,List.replicate_zero,List.append_nil,h0,hLx];all_goals (try simp only[Value.int.injEq,Value.slice.injEq,true_and,and_true]) <;>all_goals (try(first|trivial|omega|grind))) (by first|exact Le.refl _|simp (disch:=first|assumption|omega) only[go_sem,push_cast,qB,qA,qM,yF,List.replicate_zero,List.append_nil,h0,hLx]) ?_
 intro x Bx hIx hBx hbx Fx hFx
 refine cv (by kernel_rfl) ?_
 obtain⟨i,n,c⟩:=x
 obtain⟨i1,i2,i3⟩:=hIx
 simp only at i1 i2 i3 hbx
 have hnx:=hb_lt hbx
 have hz:(c=0)=False:=eq_false (by omega)
 have hln:(yA p++List.replicate i (0:UInt8)).length=3+p.body.length+i:=by simp[hl0];omega
 have htki:List.take (3+p.body.length+i) (qQ (yA p++List.replicate i (0:UInt8)))=qQ (yA p++List.replicate i 0):=by
  have h:=flat_all (yA p++List.replicate i (0:UInt8))
  rw[hln,show Enc.k UInt8=1 from rfl,Nat.mul_one]at h
  exact h
 by_cases hlt:3+p.body.length+i<94
 ·have hst:qQ (yA p++0::List.replicate i (0:UInt8))=qQ (yA p++List.replicate i 0)++[.int .u8 0]:=by
   rw[←List.replicate_succ,List.replicate_succ',←List.append_assoc,qL,qU];rfl
  refine R (cj Zp (cj hz (cj hln (cj htki hlt)))) ?_
  refine hFx (i+1,Bx+1,kY (3+p.body.length+i+1) (c-1)) _ _ _ ?_ ?_ (by first|exact Le.refl _|simp (disch:=first|assumption|omega|(simp (disch:=omega) only[qC,qE hb];done)) only[go_sem,push_cast,qB,qA,qM,yF,qC,qE hb,hst,appVal,yU]) (by simp only[go_sem,push_cast,qB,qA]) (by simp only[go_sem,push_cast,qB,qA,hst,appVal,yU];all_goals (try simp only[Value.int.injEq,Value.slice.injEq,true_and,and_true]) <;>all_goals (try(first|trivial|omega|grind)))
  ·show 91-p.body.length-(i+1)<91-p.body.length-i
   omega
  ·refine⟨show i+1≤91-p.body.length by omega,show Bd≤Bx+1 by omega,?_⟩
   exact kD _ _
 ·obtain rfl:i=91-p.body.length:=by omega
  have hpad:yA p++List.replicate (91-p.body.length) (0:UInt8)=padP (yA p):=by
   unfold padP
   rw[hl0,show 94-(p.body.length+3)=91-p.body.length by omega]
  have h94:3+p.body.length+(91-p.body.length)=94:=by omega
  rw[hpad,h94]at hln htki
  rw[hpad]
  rw[hpad]at hbx
  refine R (cj Zp (cj hz (cj hln (cj htki h94)))) ?_
  refine cv (by kernel_rfl) ?_
  refine RA (cj Zp (cj hz (cj hok2 (cj h94 (cj hsmp (cj htki (cj htk2 hend))))))) ?_
  refine jA (qN _ _ _) ?_ rfl ?_
  ·exact hb.fresh _ (by omega)
  ·rw[hend2,hpn]
def W168:qJ:=fun args H Bd K=>∃(data:List UInt8) (id:Int),args=[lst data, .int .i64 id]∧((data.length=96∧2≤id∧id≤63)∧K (.tuple #[.agg (enc ((qV data id).1)).toArray, .int .i64 ((qV data id).2)]) H Bd)
@[go_sem ↓] theorem W168_eq (data:List UInt8) (id:Int):W168 [lst data, .int .i64 id] H Bd K=((data.length=96∧2≤id∧id≤63)∧K (.tuple #[.agg (enc ((qV data id).1)).toArray, .int .i64 ((qV data id).2)]) H Bd):=ex2 data id rfl
set_option maxHeartbeats 2000000 in
theorem W168_ok:OK 168 W168:=by
 rintro args H Bd K ⟨data,id,rfl,hpre,hK⟩
 refine yE pok ((((((Env.base _).add 240 _ W240_ok).add 239 _ W239_ok).add 241 _ W241_ok).add 242 _ W242_ok).add 243 _ W243_ok) [(3,[0,1,2,6,7,8,9,3,4,5,10],[⟨0,[],[]⟩,⟨1,[],[]⟩,⟨2,[],[]⟩,⟨6,[],[]⟩,⟨7,[],[]⟩,⟨8,[],[]⟩,⟨9,[],[]⟩,⟨3,[],[9]⟩,⟨4,[],[9]⟩,⟨5,[],[]⟩,⟨10,[],[]⟩], .nil),(9,[0,1,2,3,4,5,6,7,8,9,10,11,14,12,13,15],[⟨0,[],[]⟩,⟨1,[],[]⟩,⟨2,[],[]⟩,⟨3,[],[]⟩,⟨4,[],[]⟩,⟨5,[],[]⟩,⟨6,[],[]⟩,⟨7,[],[]⟩,⟨8,[],[]⟩,⟨9,[],[]⟩,⟨10,[],[]⟩,⟨11,[],[]⟩,⟨14,[],[]⟩,⟨12,[],[3,2]⟩,⟨13,[],[]⟩,⟨15,[14],[]⟩], .nil),(10,[0,1,2,3,6,7,4,5,8,9],[⟨0,[],[]⟩,⟨1,[],[]⟩,⟨2,[],[]⟩,⟨3,[],[]⟩,⟨6,[],[]⟩,⟨7,[],[]⟩,⟨4,[],[7]⟩,⟨5,[],[]⟩,⟨8,[],[]⟩,⟨9,[],[]⟩], .nil)] _ hK Tryz.func168 rfl (rs:=[.cell 4 181, .tmp 5]) rfl Tryz.ntmps168 (by simp) Tryz.call168 (by kernel_rfl) (fun ha hb=>tup_nb ⟨agg_nb _ _, .int _ _,trivial⟩) (fun hb ha=> ?_)
 obtain⟨h1,h2,h3⟩:=hpre
 have e0:data[0]? =some (data[0]'(by omega)):=List.getElem?_eq_getElem _
 have e1:data[1]? =some (data[1]'(by omega)):=List.getElem?_eq_getElem _
 have e2:data[2]? =some (data[2]'(by omega)):=List.getElem?_eq_getElem _
 have hsr:=sum_rg (data.take 94)
 have b0:((data[0]'(by omega)).toNat:Int)≤255:=by have:=(data[0]'(by omega)).toNat_lt;omega
 have b1:((data[1]'(by omega)).toNat:Int)≤255:=by have:=(data[1]'(by omega)).toNat_lt;omega
 have b2:((data[2]'(by omega)).toNat:Int)≤255:=by have:=(data[2]'(by omega)).toNat_lt;omega
 have f0:data.getD 0 0=data[0]'(by omega):=by rw[List.getD_eq_getElem?_getD,e0];rfl
 have f1:data.getD 1 0=data[1]'(by omega):=by rw[List.getD_eq_getElem?_getD,e1];rfl
 have f2:data.getD 2 0=data[2]'(by omega):=by rw[List.getD_eq_getElem?_getD,e2];rfl
 have htk:data.take 96=data:=List.take_of_length_le (by omega)
 have hl94:(data.take 94).length≤2000:=by rw[List.length_take];omega
 have hsm:sm (data.take 94):=⟨by rw[List.length_take];omega,fun _ _=>trivial⟩
 have hn:((3:Int)+((data[2]'(by omega)).toNat:Int)).toNat=3+(data[2]'(by omega)).toNat:=by omega
 have hdt:List.drop 3 (List.take (3+(data[2]'(by omega)).toNat) data)=List.take (data[2]'(by omega)).toNat (List.drop 3 data):=by rw[List.drop_take,Nat.add_sub_cancel_left]
 have hG:readG data id=⟨((data[0]'(by omega)).toNat:Int),id,List.take (data[2]'(by omega)).toNat (List.drop 3 data)⟩:=by unfold readG;rw[f0,f2]
 have hlb:(List.take (data[2]'(by omega)).toNat (List.drop 3 data)).length≤93:=by rw[List.length_take,List.length_drop];omega
 have hsb:sm (List.take (data[2]'(by omega)).toNat (List.drop 3 data)):=⟨by omega,fun _ _=>trivial⟩
 have hsp:sm (readG data id):=by rw[hG];exact⟨trivial,trivial,hsb⟩
 have hsp2:sm (⟨((data[0]'(by omega)).toNat:Int),id,List.take (data[2]'(by omega)).toNat (List.drop 3 data)⟩:GPage):=⟨trivial,trivial,hsb⟩
 have b3:((data[0]'(by omega)).toNat:Int)≤9223372036854775807:=by omega
 have h64:R64 id:=⟨by omega,by omega⟩
 have hlb2:(List.take (data[2]'(by omega)).toNat (List.drop 3 data)).length≤1000000:=by omega
 by_cases q1:jP (sumB 29 (data.take 94))=data.drop 94
 case neg=>
  have e:qV data id=(⟨0,0,[]⟩,11):=by unfold qV;rw[if_pos q1];rfl
  simp (maxSteps:=2000000) (disch:=first|assumption|(refine qI ?_;assumption)|exact Nat.le_add_right _ _|exact Nat.le_refl _|omega|(simp (disch:=first|exact Nat.le_add_right _ _|omega) only[qG hb,qR hb,qM,qE hb,qC];done)|fail) only[go_sem,push_cast,qB,qA,qG hb,qE hb,h1,e0,e1,e2,if_pos b3,Option.map_some,eq_self,true_and,htk,hsm,q1,e]
 by_cases q2:((data[1]'(by omega)).toNat:Int)=id
 case neg=>
  have e:qV data id=(⟨0,0,[]⟩,8):=by unfold qV;rw[if_neg (by simpa using q1),if_pos (by rw[f1];exact q2)];rfl
  simp (maxSteps:=2000000) (disch:=first|assumption|(refine qI ?_;assumption)|exact Nat.le_add_right _ _|exact Nat.le_refl _|omega|(simp (disch:=first|exact Nat.le_add_right _ _|omega) only[qG hb,qR hb,qM,qE hb,qC];done)|fail) only[go_sem,push_cast,qB,qA,qG hb,qE hb,h1,e0,e1,e2,if_pos b3,Option.map_some,eq_self,true_and,htk,hsm,q1,q2,e]
 by_cases q3:(91:Int)<((data[2]'(by omega)).toNat:Int)
 ·have e:qV data id=(⟨0,0,[]⟩,5):=by unfold qV;rw[if_neg (by simpa using q1),if_neg (by rw[f1];simpa using q2),if_pos (by rw[f2];omega)];rfl
  simp (maxSteps:=2000000) (disch:=first|assumption|(refine qI ?_;assumption)|exact Nat.le_add_right _ _|exact Nat.le_refl _|omega|(simp (disch:=first|exact Nat.le_add_right _ _|omega) only[qG hb,qR hb,qM,qE hb,qC];done)|fail) only[go_sem,push_cast,qB,qA,qG hb,qE hb,h1,e0,e1,e2,if_pos b3,Option.map_some,eq_self,true_and,htk,hsm,q1,q2,q3,e]
 have hR:qV data id=if pageF (readG data id)≠0∨packP (readG data id)≠data then(noPg,5)else(readG data id,0):=by unfold qV;rw[if_neg (by simpa using q1),if_neg (by rw[f1];simpa using q2),if_neg (by rw[f2];omega)]
 by_cases q4:pageF (readG data id)=0
 case neg=>
  have e:qV data id=(⟨0,0,[]⟩,5):=by rw[hR,if_pos (.inl q4)];rfl
  rw[hG]at q4
  simp (maxSteps:=2000000) (disch:=first|assumption|(refine qI ?_;assumption)|exact Nat.le_add_right _ _|exact Nat.le_refl _|omega|(simp (disch:=first|exact Nat.le_add_right _ _|omega) only[qG hb,qR hb,qM,qE hb,qC];done)|fail) only[go_sem,push_cast,qB,qA,qG hb,qE hb,h1,e0,e1,e2,if_pos b3,Option.map_some,eq_self,true_and,htk,hsm,q1,q2,q3,hn,hdt,hlb2,hsp2,h64,HB.no hb,q4,e]
 by_cases q5:packP (readG data id)=data
 case neg=>
  have e:qV data id=(⟨0,0,[]⟩,5):=by rw[hR,if_pos (.inr q5)];rfl
  rw[hG]at q4 q5
  simp (maxSteps:=2000000) (disch:=first|assumption|(refine qI ?_;assumption)|exact Nat.le_add_right _ _|exact Nat.le_refl _|omega|(simp (disch:=first|exact Nat.le_add_right _ _|omega) only[qG hb,qR hb,qM,qE hb,qC];done)|fail) only[go_sem,push_cast,qB,qA,qG hb,qE hb,h1,e0,e1,e2,if_pos b3,Option.map_some,eq_self,true_and,htk,hsm,q1,q2,q3,hn,hdt,hlb2,hsp2,h64,HB.no hb,q4,q5,e]
 have e:qV data id=(⟨((data[0]'(by omega)).toNat:Int),id,List.take (data[2]'(by omega)).toNat (List.drop 3 data)⟩,0):=by rw[hR,if_neg (by simp[q4,q5]),hG]
 rw[hG]at q4 q5
 simp (maxSteps:=2000000) (disch:=first|assumption|(refine qI ?_;assumption)|exact Nat.le_add_right _ _|exact Nat.le_refl _|omega|(simp (disch:=first|exact Nat.le_add_right _ _|omega) only[qG hb,qR hb,qM,qE hb,qC];done)|fail) only[go_sem,push_cast,qB,qA,qG hb,qE hb,h1,e0,e1,e2,if_pos b3,Option.map_some,eq_self,true_and,htk,hsm,q1,q2,q3,hn,hdt,hlb2,hsp2,h64,HB.no hb,q4,q5,e]
def W220:qJ:=fun args H Bd K=>∃(xs:List UInt8) (ys:List UInt8),args=[lst xs,lst ys]∧((sm xs∧sm ys)∧K (.int .i64 (Lib.compareBytes xs ys)) H Bd)
@[go_sem ↓] theorem W220_eq (xs:List UInt8) (ys:List UInt8):W220 [lst xs,lst ys] H Bd K=((sm xs∧sm ys)∧K (.int .i64 (Lib.compareBytes xs ys)) H Bd):=ex2 xs ys rfl
set_option maxHeartbeats 2000000 in
theorem W220_ok:OK 220 W220:=by
 rintro args H Bd K ⟨xs,ys,rfl,hpre,hK⟩
 refine fnp pok (Env.base _) [(2,[],[],(.k 5 (.grp true 10 14 4 [11,12,13,14] 15 none (.k 4 .nil) .nil))),(4,[0,1,2,3,4,5,6,7,8],[⟨0,[],[]⟩,⟨1,[],[]⟩,⟨2,[],[]⟩,⟨3,[],[]⟩,⟨4,[],[]⟩,⟨5,[],[]⟩,⟨6,[],[]⟩,⟨7,[],[]⟩,⟨8,[],[]⟩], .nil),(6,[0,1,2,3,4,5,6,7,8],[⟨0,[],[]⟩,⟨1,[],[]⟩,⟨2,[],[]⟩,⟨3,[],[]⟩,⟨4,[],[]⟩,⟨5,[],[]⟩,⟨6,[],[]⟩,⟨7,[],[]⟩,⟨8,[],[]⟩], .nil)] hK Tryz.func220 Tryz.ntmps220 Tryz.call220 [.tmp 4] fun hb ha=> ?_
 refine jH pok fun cv=> ?_
 obtain⟨h1,h2⟩:=hpre
 have hl1:=qY h1
 have hl2:=qY h2
 refine R0 ?_
 refine jB (fun i=>∀j,j<i→xs[j]? =ys[j]?) (min xs.length ys.length) (fun i=>[(0,lst xs),(1,lst ys),(5, .int .i64 i)]) (fun j hj=>absurd hj (Nat.not_lt_zero _)) (by simp only[go_sem,push_cast,qB,qA]) ?_
 intro i Bi hIi hii hBi
 refine cv (by kernel_rfl) ?_
 rcases Nat.lt_or_ge i (min xs.length ys.length)with hlti|hgei
 ·have e1:xs[i]? =some (xs[i]'(by omega)):=List.getElem?_eq_getElem _
  have e2:ys[i]? =some (ys[i]'(by omega)):=List.getElem?_eq_getElem _
  refine R (cj e1 e2) ?_
  have c1:(xs[i]<ys[i])↔(xs[i].toNat:Int)<ys[i].toNat:=by rw[UInt8.lt_iff_toNat_lt];omega
  have c2:(ys[i]<xs[i])↔(ys[i].toNat:Int)<xs[i].toNat:=by rw[UInt8.lt_iff_toNat_lt];omega
  refine⟨fun h=>(cmpB_lt hIi (by omega) (by omega) (c1.2 h)).symm,fun h3=>⟨fun h=>(cmpB_gt hIi (by omega) (by omega) (c2.2 h)).symm,fun h4 j hj=> ?_⟩⟩
  by_cases e:j=i
  ·subst e
   rw[e1,e2,UInt8.toNat_inj.1 (show xs[j].toNat=ys[j].toNat by omega)]
  ·exact hIi j (by omega)
 ·refine R0 ?_
  refine⟨fun a1 a2=>absurd (show i<min xs.length ys.length by omega) (by omega),fun _=> ?_⟩
  refine cv (by kernel_rfl) ?_
  refine R0 ?_
  have he:=cmpB_end hIi (by omega)
  rw[he]
  all_goals first|done|trivial|((try simp only[Cnp,Imp]);grind)
def W360:qJ:=fun args H Bd K=>∃(n:GNode),args=[.agg (enc n).toArray]∧((sm n)∧K (.int .i64 (kO n)) H Bd)
@[go_sem ↓] theorem W360_eq (n_leaf:Bool) (n_keys:List (List UInt8)) (n_values:List Int) (n_kids:List Int):W360 [.agg #[.bool n_leaf,lst n_keys,lst n_values,lst n_kids]] H Bd K=((sm (GNode.mk n_leaf n_keys n_values n_kids))∧K (.int .i64 (kO (GNode.mk n_leaf n_keys n_values n_kids))) H Bd):=ex1 (GNode.mk n_leaf n_keys n_values n_kids) rfl
set_option maxHeartbeats 2000000 in
theorem W360_ok:OK 360 W360:=by
 rintro args H Bd K ⟨n,rfl,hpre,hK⟩
 refine fnp pok ((((Env.base _).add 220 _ W220_ok).add 105 _ W105_ok).add 107 _ W107_ok) [(6,[],[],(.k 8 (.grp false 25 32 7 [26,27,28,29,30,31,32] 33 none (.k 7 .nil) .nil))),(11,[0,1,2,3,4,5,6,7,8,9,10,11,12],[⟨0,[],[]⟩,⟨1,[],[]⟩,⟨2,[],[]⟩,⟨3,[],[]⟩,⟨4,[],[]⟩,⟨5,[],[]⟩,⟨6,[],[]⟩,⟨7,[],[]⟩,⟨8,[],[]⟩,⟨9,[],[]⟩,⟨10,[],[]⟩,⟨11,[],[]⟩,⟨12,[],[]⟩], .nil),(14,[],[],(.k 8 (.grp false 63 67 4 [64,65,66,67] 68 none (.k 4 .nil) .nil))),(22,[],[],(.k 5 (.grp false 87 91 4 [88,89,90,91] 92 none (.k 4 .nil) (.k 1 (.grp false 93 101 8 [94,95,96,97,98,99,100,101] 102 none (.k 8 .nil) .nil)))))] hK Tryz.func360 Tryz.ntmps360 Tryz.call360 [.tmp 2] fun hb ha=> ?_
 refine jH pok fun cv=> ?_
 have hss:=hpre
 simp only[sm_GNode]at hpre
 obtain⟨_,hk,hv,hc⟩:=hpre
 have hlk:=qY hk
 have hlv:=qY hv
 have hlc:=qY hc
 by_cases h4:4<n.keys.length
 ·have e:kO n=2:=by unfold kO;rw[if_pos h4]
  exact R (cj h4 e) trivial
 refine R h4 ?_
 refine jB (fun i=>∀j,j<i→∀x,n.keys[j]? =some x→keyBad x=false) (n.keys.length) (fun i=>[(1, .pointer (some ⟨Bd,0,none⟩)),(3, .int .i64 i)]) (by simp) (by simp only[go_sem,push_cast,qB,qA]) ?_
 intro i Bi hIi hii hBi
 refine cv (by kernel_rfl) ?_
 rcases Nat.lt_or_ge i (n.keys.length)with hlti|hgei
 ·have e1:n.keys[i]? =some n.keys[i]:=List.getElem?_eq_getElem hlti
  have hx:=qY (kC hk (List.getElem_mem hlti))
  by_cases hb1:keyBad n.keys[i]=true
  ·have e:kO n=2:=by unfold kO;rw[if_neg h4,if_pos (any_hit hlti hb1)]
   have hb2:=of_decide_eq_true hb1
   by_cases hb3:n.keys[i].length<1
   ·exact R (cj e1 (cj hb3 e)) trivial
   ·have hb4:16<n.keys[i].length:=hb2.resolve_left hb3
    exact R (cj e1 (cj hb3 (cj hb4 e))) trivial
  ·have hb2:¬(n.keys[i].length<1∨16<n.keys[i].length):=fun h=>hb1 (decide_eq_true h)
   have hb3:¬n.keys[i].length<1:=fun h=>hb2 (.inl h)
   have hb4:¬16<n.keys[i].length:=fun h=>hb2 (.inr h)
   refine R (cj e1 (cj hb3 hb4)) ?_
   intro j hj x hx2
   by_cases e:j=i
   ·subst e;rw[e1]at hx2;cases hx2;simpa using hb1
   ·exact hIi j (by omega) x hx2
 refine R0 ?_
 have hany:n.keys.any keyBad=false:=vG fun j hj x hx=>hIi j (by omega) x hx
 refine cv (by kernel_rfl) ?_
 refine R0 ?_
 have hg1:kO n=if riseK n.keys=false then 1 else if n.leaf=true then leafG n else innerG n:=by unfold kO;rw[if_neg h4,if_neg (by rw[hany];exact Bool.false_ne_true)]
 refine jB (fun k=>∀j,j<k→∀x y,n.keys[j]? =some x→n.keys[j+1]? =some y→Lib.compareBytes x y<0) (n.keys.length-1) (fun k=>[(1, .pointer (some ⟨Bd,0,none⟩)),(4, .int .i64 ((k:Int)+1))]) (by simp) (by simp only[go_sem,push_cast,qB,qA]) ?_
 intro k Bk hIk hik hBk
 refine cv (by kernel_rfl) ?_
 rcases Nat.lt_or_ge k (n.keys.length-1)with hltk|hgek
 ·have e1:n.keys[k]? =some (n.keys[k]'(by omega)):=List.getElem?_eq_getElem _
  have e2:n.keys[k+1]? =some (n.keys[k+1]'(by omega)):=List.getElem?_eq_getElem _
  have g1:=kC hk (List.getElem_mem (show k<n.keys.length by omega))
  have g2:=kC hk (List.getElem_mem (show k+1<n.keys.length by omega))
  have c1:((k:Int)+1-1).toNat=k:=by omega
  have c2:((k:Int)+1).toNat=k+1:=by omega
  by_cases hq:0≤Lib.compareBytes (n.keys[k]'(by omega)) (n.keys[k+1]'(by omega))
  ·have e:kO n=1:=by rw[hg1,if_pos (riseK_no e1 e2 (by omega))]
   exact R (cj e1 (cj e2 (cj c1 (cj c2 (cj g1 (cj g2 (cj hq e))))))) trivial
  ·refine R (cj e1 (cj e2 (cj c1 (cj c2 (cj g1 (cj g2 hq)))))) ?_
   intro j hj x y j1 j2
   by_cases e:j=k
   ·subst e;rw[e1]at j1;rw[e2]at j2;cases j1;cases j2;omega
   ·exact hIk j (by omega) x y j1 j2
 ·refine R0 ?_
  refine cv (by kernel_rfl) ?_
  have hr:riseK n.keys=true:=riseK_yes fun j x y j1 j2=>hIk j (by have:=(List.getElem?_eq_some_iff.1 j2).1;omega) x y j1 j2
  have hg2:kO n=if n.leaf=true then leafG n else innerG n:=by rw[hg1,if_neg (by simp[hr])]
  by_cases hl:n.leaf=true
  ·rw[if_pos hl]at hg2
   rw[hg2]
   by_cases hq:n.values.length≠n.keys.length∨0<n.kids.length
   ·have e:leafG n=1:=by unfold leafG;rw[if_pos hq]
    by_cases hq1:n.values.length=n.keys.length
    ·have hq2:0<n.kids.length:=hq.resolve_left (by simpa using hq1)
     exact R (cj hl (cj hq1 (cj hq2 e))) trivial
    ·have hq3:¬(n.values.length:Int)=n.keys.length:=by omega
     exact R (cj hl (cj hq1 (cj hq3 e))) trivial
   ·have hq1:n.values.length=n.keys.length:=Decidable.not_not.1 fun h=>hq (.inl h)
    have hq2:¬0<n.kids.length:=fun h=>hq (.inr h)
    have e:leafG n=if n.values.any vBad=true then 3 else 0:=by unfold leafG;rw[if_neg hq]
    rw[e]
    refine R (cj hl (cj hq1 hq2)) ?_
    refine jB (fun m=>∀j,j<m→∀x,n.values[j]? =some x→vBad x=false) (n.values.length) (fun m=>[(1, .pointer (some ⟨Bd,0,none⟩)),(5, .int .i64 m)]) (by simp) (by simp only[go_sem,push_cast,qB,qA]) ?_
    intro m Bm hIm him hBm
    refine cv (by kernel_rfl) ?_
    rcases Nat.lt_or_ge m (n.values.length)with hltm|hgem
    ·have e1:n.values[m]? =some n.values[m]:=List.getElem?_eq_getElem hltm
     by_cases hv1:0≤n.values[m]∧n.values[m]≤65535
     ·have hv2:=hv1.1
      have hv3:=hv1.2
      have hv4:vBad n.values[m]=false:=by unfold vBad;rw[decide_eq_true hv1];rfl
      refine R (cj e1 (cj hv2 hv3)) ?_
      intro j hj x hx2
      by_cases e:j=m
      ·subst e;rw[e1]at hx2;cases hx2;exact hv4
      ·exact hIm j (by omega) x hx2
     ·have hv4:vBad n.values[m]=true:=by unfold vBad;rw[decide_eq_false hv1];rfl
      rw[if_pos (any_hit hltm hv4)]
      refine R (cj e1 hv1) ?_
      all_goals first|trivial|exact fun a b=>absurd ⟨a,b⟩ hv1
    ·refine R0 ?_
     refine cv (by kernel_rfl) ?_
     rw[if_neg (by rw[vG fun j hj x hx=>hIm j (by omega) x hx];exact Bool.false_ne_true)]
     exact R0 trivial
  ·rw[if_neg hl]at hg2
   rw[hg2]
   have hl2:n.leaf=false:=by simpa using hl
   by_cases hq:n.keys.length<1∨0<n.values.length∨n.kids.length≠n.keys.length+1
   ·have e:innerG n=1:=by unfold innerG;rw[if_pos hq]
    by_cases hq1:n.keys.length<1
    ·have hq0:n.keys.length=0:=by omega
     exact R (cj hl2 (cj hq1 (cj hq0 e))) trivial
    ·have hq0:¬(n.keys.length:Int)=0:=by omega
     by_cases hq2:0<n.values.length
     ·exact R (cj hl2 (cj hq1 (cj hq0 (cj hq2 e)))) trivial
     ·have hq3:¬(n.kids.length:Int)=(n.keys.length:Int)+1:=by
       rcases hq with h|h|h <;>omega
      exact R (cj hl2 (cj hq1 (cj hq0 (cj hq2 (cj hq3 e))))) trivial
   ·have hq1:¬n.keys.length<1:=fun h=>hq (.inl h)
    have hq0:¬(n.keys.length:Int)=0:=by omega
    have hq2:¬0<n.values.length:=fun h=>hq (.inr (.inl h))
    have hq3:n.kids.length=n.keys.length+1:=Decidable.not_not.1 fun h=>hq (.inr (.inr h))
    have e:innerG n=if n.kids.any pBad=true then 3 else 0:=by unfold innerG;rw[if_neg hq]
    rw[e]
    refine R (cj hl2 (cj hq1 (cj hq0 (cj hq2 hq3)))) ?_
    refine jB (fun m=>∀j,j<m→∀x,n.kids[j]? =some x→pBad x=false) (n.kids.length) (fun m=>[(1, .pointer (some ⟨Bd,0,none⟩)),(6, .int .i64 m)]) (by simp) (by simp only[go_sem,push_cast,qB,qA]) ?_
    intro m Bm hIm him hBm
    refine cv (by kernel_rfl) ?_
    rcases Nat.lt_or_ge m (n.kids.length)with hltm|hgem
    ·have e1:n.kids[m]? =some n.kids[m]:=List.getElem?_eq_getElem hltm
     by_cases hv1:isPg n.kids[m]=true
     ·have hv4:pBad n.kids[m]=false:=by unfold pBad;rw[hv1];rfl
      refine R (cj e1 hv1) ?_
      intro j hj x hx2
      by_cases e:j=m
      ·subst e;rw[e1]at hx2;cases hx2;exact hv4
      ·exact hIm j (by omega) x hx2
     ·have hv4:pBad n.kids[m]=true:=by unfold pBad;simp[hv1]
      rw[if_pos (any_hit hltm hv4)]
      exact R (cj e1 hv1) trivial
    ·refine R0 ?_
     refine cv (by kernel_rfl) ?_
     rw[if_neg (by rw[vG fun j hj x hx=>hIm j (by omega) x hx];exact Bool.false_ne_true)]
     exact R0 trivial
theorem L360_pure:PureV (NilT 0 [1,1,1,1] W360):=by
 intro args H Bd K h
 obtain⟨x0,e,hpre,hK⟩:=h
 exact⟨_,by first|exact .bool _|exact .int _ _|exact .string _|exact vc_enc _,hK,fun H' K' hs h=>⟨x0,e,hpre,h⟩⟩
def L360:qJ:=LendA (NilT 0 [1,1,1,1] W360)
@[go_sem ↓] theorem L360_eq (v0:Value):L360 [v0] H Bd K=qS W360 (idS [nilAgg [1,1,1,1] (giveA H v0)]) H Bd K:=(rfl)
theorem L360_ok:OK 360 L360:=LendA_ok (NilT_ok 0 [1,1,1,1] W360_ok) L360_pure
def W331:qJ:=fun args H Bd K=>∃(leaf:Bool) (body:List UInt8),args=[.bool leaf,lst body]∧((body.length≤91)∧K (.tuple #[.agg (enc ((prsN leaf body).1)).toArray, .bool ((prsN leaf body).2)]) H Bd)
@[go_sem ↓] theorem W331_eq (leaf:Bool) (body:List UInt8):W331 [.bool leaf,lst body] H Bd K=((body.length≤91)∧K (.tuple #[.agg (enc ((prsN leaf body).1)).toArray, .bool ((prsN leaf body).2)]) H Bd):=ex2 leaf body rfl
set_option maxHeartbeats 2000000 in
theorem W331_ok:OK 331 W331:=by
 rintro args H Bd K ⟨leaf,body,rfl,hpre,hK⟩
 refine yE pok (((Env.base _).add 241 _ W241_ok).add 360 _ L360_ok) [(2,[],[],(.k 4 (.grp false 16 20 4 [17,18,19,20] 21 none (.k 4 .nil) .nil))),(12,[],[],(.k 5 (.grp false 38 51 13 [39,40,41,42,43,44,45,46,47,48,49,50,51] 52 none (.k 13 .nil) .nil))),(15,[0,1,2,3,4,5,6,7,8,9,10,11],[⟨0,[],[]⟩,⟨1,[],[]⟩,⟨2,[],[]⟩,⟨3,[],[]⟩,⟨4,[],[]⟩,⟨5,[],[]⟩,⟨6,[],[]⟩,⟨7,[],[1]⟩,⟨8,[],[]⟩,⟨9,[8],[]⟩,⟨10,[],[]⟩,⟨11,[8],[]⟩], .nil),(17,[0,1,2,3,4,5,6,7,8,9,10,11,12,13,14,15,16,17,18],[⟨0,[],[]⟩,⟨1,[],[]⟩,⟨2,[],[]⟩,⟨3,[],[]⟩,⟨4,[],[]⟩,⟨5,[],[]⟩,⟨6,[],[]⟩,⟨7,[],[]⟩,⟨8,[],[]⟩,⟨9,[],[]⟩,⟨10,[],[]⟩,⟨11,[],[]⟩,⟨12,[],[]⟩,⟨13,[],[]⟩,⟨14,[],[]⟩,⟨15,[],[]⟩,⟨16,[15],[]⟩,⟨17,[],[]⟩,⟨18,[15],[]⟩], .nil),(20,[],[],(.k 5 (.grp true 101 105 4 [102,103,104,105] 106 none (.k 4 .nil) .nil))),(22,[0,1,2,3,4,5,6,7,8,9,10],[⟨0,[],[]⟩,⟨1,[],[]⟩,⟨2,[],[]⟩,⟨3,[],[]⟩,⟨4,[],[]⟩,⟨5,[],[]⟩,⟨6,[],[]⟩,⟨7,[],[]⟩,⟨8,[7],[]⟩,⟨9,[],[]⟩,⟨10,[7],[]⟩], .nil),(23,[0,1,2,3,4,5,6,7,8,9,10,11],[⟨0,[],[]⟩,⟨1,[],[]⟩,⟨2,[],[]⟩,⟨3,[],[]⟩,⟨4,[],[]⟩,⟨5,[],[]⟩,⟨6,[],[]⟩,⟨7,[],[0]⟩,⟨8,[],[]⟩,⟨9,[],[]⟩,⟨10,[],[]⟩,⟨11,[],[]⟩], .nil)] _ hK Tryz.func331 rfl (rs:=[.cell 4 327, .tmp 5]) rfl Tryz.ntmps331 (by simp) Tryz.call331 (by kernel_rfl) (fun ha hb=>tup_nb ⟨agg_nb _ _, .bool _,trivial⟩) (fun hb ha=> ?_)
 refine jH pok fun cv=> ?_
 by_cases hb0:body.length<1
 ·have e:prsN leaf body=(⟨false,[],[],[]⟩,false):=by unfold prsN;rw[if_pos (.inl hb0)];rfl
  exact R (cj hb0 e) trivial
 have e0:body[0]? =some (body[0]'(by omega)):=List.getElem?_eq_getElem _
 have f0:body.getD 0 0=body[0]'(by omega):=by rw[List.getD_eq_getElem?_getD,e0];rfl
 by_cases hb4:(4:Int)<((body[0]'(by omega)).toNat:Int)
 ·have e:prsN leaf body=(⟨false,[],[],[]⟩,false):=by unfold prsN;rw[if_pos (.inr (by rw[f0];omega))];rfl
  exact R (cj hb0 (cj e0 (cj hb4 e))) trivial
 have hN:prsN leaf body=match prs leaf body (body[0]'(by omega)).toNat with
  |none=>(noNd,false)
  |some (p,ks,vs)=>prsE leaf body p ks vs:=by
  unfold prsN
  rw[if_neg (by rintro(h|h) <;>first|exact hb0 h|(rw[f0]at h;omega)),f0]
  rfl
 cases leaf with
 |false=>
  refine R (cj hb0 (cj e0 hb4)) ?_
  refine Tr.freshC (n:=Bd+2) 1 1 (by simp only[go_sem,push_cast,qB,qA];rfl) rfl ?_
  rw[upd_swap (by omega)]
  refine tr_st (X:=Nat×Nat×List (List UInt8)×Nat×Nat) (fun x=>x.1≤(body[0]'(by omega)).toNat∧prs false body x.1=some (x.2.1,x.2.2.1,[])∧Bd+3≤x.2.2.2.1∧0<x.2.2.2.2) (fun x=>(body[0]'(by omega)).toNat-x.1) (fun x=>[(4, .pointer (some ⟨Bd,0,none⟩)),(6, .pointer (some ⟨Bd+1,0,none⟩)),(7, .pointer (some ⟨Bd+2,0,none⟩)),(0, .bool false),(1,lst body),(8, .int .i64 x.2.1),(9, .int .i64 0),(10, .int .i64 x.1)]) (fun x=>upd (upd (upd (upd H Bd (some ⟨[.bool false, .slice none 0 0, .slice none 0 0, .slice none 0 0],true⟩)) (Bd+1) (some ⟨[.bool false, .slice none 0 0, .slice none 0 0, .slice none 0 0],true⟩)) (Bd+2) (some ⟨[.bool false, .slice (some ⟨x.2.2.2.1,0,some 1⟩) x.2.2.1.length x.2.2.2.2, .slice none 0 0, .slice none 0 0],true⟩)) x.2.2.2.1 (some ⟨qQ x.2.2.1,true⟩)) (0,1,[],Bd+3,1) (⟨Nat.zero_le _,rfl,Nat.le_refl _,Nat.zero_lt_one⟩) (by simp only[go_sem,push_cast,qB,qA,jC,List.set_cons_succ,List.set_cons_zero];all_goals (try simp only[Value.int.injEq,Value.slice.injEq,true_and,and_true]) <;>all_goals (try(first|trivial|omega|grind))) (by first|exact Le.refl _|simp (disch:=first|assumption|omega) only[go_sem,push_cast,qB,qA,qM,yF,jC,List.set_cons_succ,List.set_cons_zero]) ?_
  intro x Bx hIx hBx hbx Fx hFx
  refine cv (by kernel_rfl) ?_
  obtain⟨i,p,ks,m,c⟩:=x
  obtain⟨i1,i2,i3,i4⟩:=hIx
  simp only at i1 i2 i3 i4 hbx
  have hmx:=hb_lt hbx
  have hz:(c=0)=False:=eq_false (by omega)
  have hpl:=prs_len i2
  rcases Nat.lt_or_ge i (body[0]'(by omega)).toNat with hlt|hge
  ·have hst:prs false body (i+1)=if body.length≤p∨body.length<p+1+(body.getD p 0).toNat+0 then none else some (p+1+(body.getD p 0).toNat+0,ks++[(body.drop (p+1)).take (body.getD p 0).toNat],[]):=by
    conv=>lhs;unfold prs
    rw[i2];rfl
   by_cases hp:body.length≤p
   ·have hnn:prs false body (body[0]'(by omega)).toNat=none:=prs_none (i:=i+1) (by rw[hst,if_pos (.inl hp)]) _ hlt
    have e:prsN false body=(⟨false,[],[],[]⟩,false):=by rw[hN,hnn];rfl
    exact R (cj e0 (cj hlt (cj hp e))) trivial
   ·have e1:body[p]? =some (body[p]'(by omega)):=List.getElem?_eq_getElem _
    have f1:body.getD p 0=body[p]'(by omega):=by rw[List.getD_eq_getElem?_getD,e1];rfl
    have b1:((body[p]'(by omega)).toNat:Int)≤255:=by have:=(body[p]'(by omega)).toNat_lt;omega
    rw[f1]at hst
    by_cases hp2:(body.length:Int)<(p:Int)+1+((body[p]'(by omega)).toNat:Int)+0
    ·have hnn:prs false body (body[0]'(by omega)).toNat=none:=prs_none (i:=i+1) (by rw[hst,if_pos (.inr (by omega))]) _ hlt
     have e:prsN false body=(⟨false,[],[],[]⟩,false):=by rw[hN,hnn];rfl
     exact R (cj e0 (cj e1 (cj hlt (cj hp (cj hp2 e))))) trivial
    ·rw[if_neg (by rintro(h|h) <;>omega)]at hst
     have c1:((p:Int)+1).toNat=p+1:=by omega
     have c2:((p:Int)+1+((body[p]'(by omega)).toNat:Int)).toNat=p+1+(body[p]'(by omega)).toNat:=by omega
     have hdt:List.drop (p+1) (List.take (p+1+(body[p]'(by omega)).toNat) body)=List.take (body[p]'(by omega)).toNat (List.drop (p+1) body):=by rw[List.drop_take,Nat.add_sub_cancel_left]
     have hln:(List.take (body[p]'(by omega)).toNat (List.drop (p+1) body)).length≤1000000:=by rw[List.length_take,List.length_drop];omega
     have hks:=hpl.1
     have hstf:qQ (ks++[List.take (body[p]'(by omega)).toNat (List.drop (p+1) body)])=qQ ks++[lst (List.take (body[p]'(by omega)).toNat (List.drop (p+1) body))]:=by rw[qL,qU];rfl
     refine RA (cj e0 (cj e1 (cj hlt (cj hp (cj hp2 (cj hz (cj c1 (cj c2 (cj hdt hln))))))))) ?_
     have hX:∀q,Bd+2≤q→∀u v,upd (upd H Bd u) (Bd+1) v q=none:=fun q hq u v=>by rw[qF _ _ (by omega),qF _ _ (by omega)];exact hb.fresh q (by omega)
     have hgx:Bd+2≤Bx+8:=by omega
     refine hFx (i+1,p+1+(body[p]'(by omega)).toNat+0,ks++[List.take (body[p]'(by omega)).toNat (List.drop (p+1) body)],Bx+12,kY (ks.length+1) (c-1)) _ _ _ ?_ ?_ ?_ (by simp only[go_sem,push_cast,qB,qA]) (by simp only[go_sem,push_cast,qB,qA];all_goals (try simp only[Value.int.injEq,Value.slice.injEq,true_and,and_true]) <;>all_goals (try(first|trivial|omega|grind)))
     ·show(body[0]'(by omega)).toNat-(i+1)<(body[0]'(by omega)).toNat-i
      omega
     ·exact⟨hlt,hst,show Bd+3≤Bx+12 by omega,kD _ _⟩
     ·simp only[List.length_append,List.length_cons,List.length_nil,Nat.zero_add,hstf]
      exact le_step (hX _ (by omega) _ _) (hX _ (by omega) _ _) (by omega)
  ·have hi:i=(body[0]'(by omega)).toNat:=by omega
   rw[hi]at i2
   have hple:p≤body.length:=prs_le (by omega) i2
   have e:prsN false body=prsE false body p ks []:=by rw[hN,i2]
   refine R e0 ?_
   refine cv (by kernel_rfl) ?_
   refine R0 ?_
   rw[upd_comm (by omega)]
   refine Tr.freshC (n:=Bd+2) 3 1 (qN _ _ _) rfl ?_
   rw[upd_swap (by omega)]
   refine tr_st (X:=Nat×Nat×Nat) (fun y=>y.1≤5∧p+y.1≤body.length∧Bx≤y.2.1∧0<y.2.2) (fun y=>5-y.1) (fun y=>[(4, .pointer (some ⟨Bd,0,none⟩)),(6, .pointer (some ⟨Bd+1,0,none⟩)),(7, .pointer (some ⟨Bd+2,0,none⟩)),(0, .bool false),(1,lst body),(8, .int .i64 ((p:Int)+(y.1:Int)))]) (fun y=>upd (upd (upd (upd (upd H Bd (some ⟨[.bool false, .slice none 0 0, .slice none 0 0, .slice none 0 0],true⟩)) (Bd+1) (some ⟨[.bool false, .slice none 0 0, .slice none 0 0, .slice none 0 0],true⟩)) m (some ⟨qQ ks,true⟩)) (Bd+2) (some ⟨[.bool false, .slice (some ⟨m,0,some 1⟩) ks.length c, .slice none 0 0, .slice (some ⟨y.2.1,0,some 1⟩) (vI body p y.1).length y.2.2],true⟩)) y.2.1 (some ⟨qQ (vI body p y.1),true⟩)) (0,Bx,1) (⟨Nat.zero_le _,hple,Nat.le_refl _,Nat.zero_lt_one⟩) (by simp only[go_sem,push_cast,qB,qA,jC,vI,List.take_zero,List.map_nil,List.set_cons_succ,List.set_cons_zero,Int.add_zero];all_goals (try simp only[Value.int.injEq,Value.slice.injEq,true_and,and_true]) <;>all_goals (try(first|trivial|omega|grind))) (by first|exact Le.refl _|simp (disch:=first|assumption|omega) only[go_sem,push_cast,qB,qA,qM,yF,jC,vI,List.take_zero,List.map_nil,List.set_cons_succ,List.set_cons_zero,Int.add_zero]) ?_
   intro y By hIy hBy hby Fy hFy
   refine cv (by kernel_rfl) ?_
   obtain⟨j,q,d⟩:=y
   obtain⟨j1,j2,j3,j4⟩:=hIy
   simp only at j1 j2 j3 j4 hby
   have hmq:=hb_lt hby
   have hzd:(d=0)=False:=eq_false (by omega)
   have hkl:=kidsB_len (body:=body) (p:=p) j2
   by_cases hq1:p+j<body.length
   ·have e1:body[p+j]? =some (body[p+j]'hq1):=List.getElem?_eq_getElem _
    have b1:((body[p+j]'hq1).toNat:Int)≤255:=by have:=(body[p+j]'hq1).toNat_lt;omega
    have c1:((p:Int)+(j:Int)).toNat=p+j:=by omega
    have hq2:(p:Int)+(j:Int)<(body.length:Int):=by omega
    by_cases hq3:j≤4
    ·have hstf:qQ (vI body p (j+1))=qQ (vI body p j)++[.int .i64 ((body[p+j]'hq1).toNat:Int)]:=by rw[kidsB_succ hq1,qL,qU];rfl
     have hstl:(vI body p (j+1)).length=j+1:=kidsB_len (by omega)
     have hta:List.take j (qQ (vI body p j))=qQ (vI body p j):=by
      have h:=flat_all1 (vI body p j)
      rw[hkl]at h;exact h
     refine RA (cj e1 (cj c1 (cj hq2 (cj hq3 (cj hkl (cj hzd hta)))))) ?_
     have hX:∀t,Bd+2≤t→t≠m→∀u v z,upd (upd (upd H Bd u) (Bd+1) v) m z t=none:=fun t ht hm u v z=>by rw[qF _ _ hm,qF _ _ (by omega),qF _ _ (by omega)];exact hb.fresh t (by omega)
     refine hFy (j+1,By+11,kY (j+1) (d-1)) _ _ _ ?_ ?_ ?_ (by simp only[go_sem,push_cast,qB,qA]) (by simp only[go_sem,push_cast,qB,qA];all_goals (try simp only[Value.int.injEq,Value.slice.injEq,true_and,and_true]) <;>all_goals (try(first|trivial|omega|grind)))
     ·show 5-(j+1)<5-j
      omega
     ·exact⟨show j+1≤5 by omega,show p+(j+1)≤body.length by omega,show Bx≤By+11 by omega,kD _ _⟩
     ·simp only[hstf,hstl]
      exact le_step (hX _ (by omega) (by omega) _ _ _) (hX _ (by omega) (by omega) _ _ _) (by omega)
    ·obtain rfl:j=5:=by omega
     have e5:prsN false body=(⟨false,ks,[],vI body p 5⟩,decide (p+5=body.length)&&decide (kO ⟨false,ks,[],vI body p 5⟩=0)):=by
      rw[e];unfold prsE
      simp only[Bool.false_eq_true,if_false]
      rw[show((body.drop p).take 5).map (fun b=>(b.toNat:Int))=vI body p 5 from rfl,hkl]
     refine R (cj hq2 (cj hq3 (cj hkl e5))) ?_
     refine⟨⟨?_,?_⟩,?_⟩
     ·refine jA (n:=m) (xs:=ks) ?_ (hb.fresh _ (by omega)) rfl rfl
      rw[qF _ _ (by omega),qF _ _ (by omega),qF _ _ (by omega),qN]
     ·refine jA (n:=q) (xs:=vI body p 5) ?_ (hb.fresh _ (by omega)) rfl hkl.symm
      rw[qF _ _ (by omega),qN]
     ·rw[show decide (p+5=body.length)=false from decide_eq_false (by omega)];rfl
   ·have hq2:¬(p:Int)+(j:Int)<(body.length:Int):=by omega
    have hk5:((body.drop p).take 5).map (fun b=>(b.toNat:Int))=vI body p j:=by
     unfold vI
     rw[List.take_of_length_le (by rw[List.length_drop];omega),List.take_of_length_le (by rw[List.length_drop];omega)]
    have e5:prsN false body=(⟨false,ks,[],vI body p j⟩,decide (p+j=body.length)&&decide (kO ⟨false,ks,[],vI body p j⟩=0)):=by
     rw[e];unfold prsE
     simp only[Bool.false_eq_true,if_false]
     rw[hk5,hkl]
    have hki:=prs_key i2
    have hlk:=(prs_len i2).1
    have hsm:sm (⟨false,ks,[],vI body p j⟩:GNode):=⟨trivial,⟨show ks.length≤281474976710656 by omega,fun k hk=>⟨by have:=hki k hk;omega,fun _ _=>trivial⟩⟩,⟨by simp,by simp⟩,(yR _).2 (show(vI body p j).length≤281474976710656 by omega)⟩
    refine R (cj hq2 (cj hkl (cj hsm e5))) ?_
    refine⟨⟨?_,?_⟩,?_⟩
    ·refine jA (n:=m) (xs:=ks) ?_ (hb.fresh _ (by omega)) rfl rfl
     rw[qF _ _ (by omega),qF _ _ (by omega),qF _ _ (by omega),qN]
    ·refine jA (n:=q) (xs:=vI body p j) ?_ (hb.fresh _ (by omega)) rfl hkl.symm
     rw[qF _ _ (by omega),qN]
    ·rw[show decide (p+j=body.length)=true from decide_eq_true (by omega)]
     simp
 |true=>
  refine R (cj hb0 (cj e0 hb4)) ?_
  refine Tr.freshC (n:=Bd+2) 1 1 (by simp only[go_sem,push_cast,qB,qA];rfl) rfl ?_
  rw[upd_swap (by omega)]
  refine Tr.freshC (n:=Bd+2) 2 1 (by rw[qF _ _ (by omega),qN]) rfl ?_
  rw[upd_comm (m:=Bd+3+1) (n:=Bd+2) (by omega),upd_swap (by omega)]
  refine tr_st (X:=Nat×Nat×List (List UInt8)×List Int×Nat×Nat×Nat×Nat) (fun x=>x.1≤(body[0]'(by omega)).toNat∧prs true body x.1=some (x.2.1,x.2.2.1,x.2.2.2.1)∧Bd+3≤x.2.2.2.2.1∧0<x.2.2.2.2.2.1∧Bd+3≤x.2.2.2.2.2.2.1∧0<x.2.2.2.2.2.2.2∧x.2.2.2.2.1<x.2.2.2.2.2.2.1∧x.2.2.2.1.length=x.1) (fun x=>(body[0]'(by omega)).toNat-x.1) (fun x=>[(4, .pointer (some ⟨Bd,0,none⟩)),(6, .pointer (some ⟨Bd+1,0,none⟩)),(7, .pointer (some ⟨Bd+2,0,none⟩)),(0, .bool true),(1,lst body),(8, .int .i64 x.2.1),(9, .int .i64 2),(10, .int .i64 x.1)]) (fun x=>upd (upd (upd (upd (upd H Bd (some ⟨[.bool false, .slice none 0 0, .slice none 0 0, .slice none 0 0],true⟩)) (Bd+1) (some ⟨[.bool false, .slice none 0 0, .slice none 0 0, .slice none 0 0],true⟩)) (Bd+2) (some ⟨[.bool true, .slice (some ⟨x.2.2.2.2.1,0,some 1⟩) x.2.2.1.length x.2.2.2.2.2.1, .slice (some ⟨x.2.2.2.2.2.2.1,0,some 1⟩) x.2.2.2.1.length x.2.2.2.2.2.2.2, .slice none 0 0],true⟩)) x.2.2.2.2.1 (some ⟨qQ x.2.2.1,true⟩)) x.2.2.2.2.2.2.1 (some ⟨qQ x.2.2.2.1,true⟩)) (0,1,[],[],Bd+3,1,Bd+3+1,1) (⟨Nat.zero_le _,rfl,Nat.le_refl _,Nat.zero_lt_one,Nat.le_succ _,Nat.zero_lt_one,Nat.lt_succ_self _,rfl⟩) (by simp only[go_sem,push_cast,qB,qA,jC,List.set_cons_succ,List.set_cons_zero];all_goals (try simp only[Value.int.injEq,Value.slice.injEq,true_and,and_true]) <;>all_goals (try(first|trivial|omega|grind))) (by first|exact Le.refl _|simp (disch:=first|assumption|omega) only[go_sem,push_cast,qB,qA,qM,yF,jC,List.set_cons_succ,List.set_cons_zero]) ?_
  intro x Bx hIx hBx hbx Fx hFx
  refine cv (by kernel_rfl) ?_
  obtain⟨i,p,ks,vs,m,c,q,d⟩:=x
  obtain⟨i1,i2,i3,i4,i5,i6,i7,i8⟩:=hIx
  simp only at i1 i2 i3 i4 i5 i6 i7 i8 hbx
  have hqx:=hb_lt hbx
  have hz:(c=0)=False:=eq_false (by omega)
  have hzd:(d=0)=False:=eq_false (by omega)
  have hpl:=prs_len i2
  rcases Nat.lt_or_ge i (body[0]'(by omega)).toNat with hlt|hge
  ·have hst:prs true body (i+1)=if body.length≤p∨body.length<p+1+(body.getD p 0).toNat+2 then none else some (p+1+(body.getD p 0).toNat+2,ks++[(body.drop (p+1)).take (body.getD p 0).toNat],vs++[((body.getD (p+1+(body.getD p 0).toNat) 0).toNat:Int)*256+((body.getD (p+2+(body.getD p 0).toNat) 0).toNat:Int)]):=by
    conv=>lhs;unfold prs
    rw[i2];rfl
   by_cases hp:body.length≤p
   ·have hnn:prs true body (body[0]'(by omega)).toNat=none:=prs_none (i:=i+1) (by rw[hst,if_pos (.inl hp)]) _ hlt
    have e:prsN true body=(⟨false,[],[],[]⟩,false):=by rw[hN,hnn];rfl
    exact R (cj e0 (cj hlt (cj hp e))) trivial
   ·have e1:body[p]? =some (body[p]'(by omega)):=List.getElem?_eq_getElem _
    have f1:body.getD p 0=body[p]'(by omega):=by rw[List.getD_eq_getElem?_getD,e1];rfl
    have b1:((body[p]'(by omega)).toNat:Int)≤255:=by have:=(body[p]'(by omega)).toNat_lt;omega
    rw[f1]at hst
    by_cases hp2:(body.length:Int)<(p:Int)+1+((body[p]'(by omega)).toNat:Int)+2
    ·have hnn:prs true body (body[0]'(by omega)).toNat=none:=prs_none (i:=i+1) (by rw[hst,if_pos (.inr (by omega))]) _ hlt
     have e:prsN true body=(⟨false,[],[],[]⟩,false):=by rw[hN,hnn];rfl
     exact R (cj e0 (cj e1 (cj hlt (cj hp (cj hp2 e))))) trivial
    ·rw[if_neg (by rintro(h|h) <;>omega)]at hst
     have c1:((p:Int)+1).toNat=p+1:=by omega
     have c2:((p:Int)+1+((body[p]'(by omega)).toNat:Int)).toNat=p+1+(body[p]'(by omega)).toNat:=by omega
     have c3:((p:Int)+1+((body[p]'(by omega)).toNat:Int)+1).toNat=p+1+((body[p]'(by omega)).toNat+1):=by omega
     have hdt:List.drop (p+1) (List.take (p+1+(body[p]'(by omega)).toNat) body)=List.take (body[p]'(by omega)).toNat (List.drop (p+1) body):=by rw[List.drop_take,Nat.add_sub_cancel_left]
     have hln:(List.take (body[p]'(by omega)).toNat (List.drop (p+1) body)).length≤1000000:=by rw[List.length_take,List.length_drop];omega
     have hks:=hpl.1
     obtain⟨L,hL⟩:∃L,L=p+1+(body[p]'(by omega)).toNat:=⟨_,rfl⟩
     have e2:body[p+1+(body[p]'(by omega)).toNat]? =some (body[p+1+(body[p]'(by omega)).toNat]'(by omega)):=List.getElem?_eq_getElem _
     have e3:body[p+1+((body[p]'(by omega)).toNat+1)]? =some (body[p+1+((body[p]'(by omega)).toNat+1)]'(by omega)):=List.getElem?_eq_getElem _
     have b2:((body[p+1+(body[p]'(by omega)).toNat]'(by omega)).toNat:Int)≤255:=by have:=(body[p+1+(body[p]'(by omega)).toNat]'(by omega)).toNat_lt;omega
     have b3:((body[p+1+((body[p]'(by omega)).toNat+1)]'(by omega)).toNat:Int)≤255:=by have:=(body[p+1+((body[p]'(by omega)).toNat+1)]'(by omega)).toNat_lt;omega
     refine RA (cj e0 (cj e1 (cj e2 (cj e3 (cj hlt (cj hp (cj hp2 (cj hz (cj hzd (cj c1 (cj c2 (cj c3 (cj hdt (cj hln (cj hks i8))))))))))))))) ?_
     have hX:∀t,Bd+3≤t→∀u v,upd (upd H Bd u) (Bd+1) v t=none:=fun t ht u v=>by rw[qF _ _ (by omega),qF _ _ (by omega)];exact hb.fresh t (by omega)
     have hvs:qQ (vs++[((body[p+1+(body[p]'(by omega)).toNat]'(by omega)).toNat:Int)*256+((body[p+1+((body[p]'(by omega)).toNat+1)]'(by omega)).toNat:Int)])=qQ vs++[.int .i64 (((body[p+1+(body[p]'(by omega)).toNat]'(by omega)).toNat:Int)*256+((body[p+1+((body[p]'(by omega)).toNat+1)]'(by omega)).toNat:Int))]:=by rw[qL,qU];rfl
     have hstf:qQ (ks++[List.take (body[p]'(by omega)).toNat (List.drop (p+1) body)])=qQ ks++[lst (List.take (body[p]'(by omega)).toNat (List.drop (p+1) body))]:=by rw[qL,qU];rfl
     have hta:List.take i (qQ ks)=qQ ks:=by
      have h:=flat_all1 ks
      rw[hks]at h;exact h
     have htv:List.take i (qQ vs)=qQ vs:=by
      have h:=flat_all1 vs
      rw[i8]at h;exact h
     rw[hta,htv]
     refine hFx (i+1,p+1+(body[p]'(by omega)).toNat+2,ks++[List.take (body[p]'(by omega)).toNat (List.drop (p+1) body)],vs++[((body[p+1+(body[p]'(by omega)).toNat]'(by omega)).toNat:Int)*256+((body[p+1+((body[p]'(by omega)).toNat+1)]'(by omega)).toNat:Int)],Bx+12,kY (i+1) (c-1),Bx+13+19,kY (i+1) (d-1)) _ _ _ ?_ ?_ ?_ (by simp only[go_sem,push_cast,qB,qA]) (by simp only[go_sem,push_cast,qB,qA];all_goals (try simp only[Value.int.injEq,Value.slice.injEq,true_and,and_true]) <;>all_goals (try(first|trivial|omega|grind)))
     ·show(body[0]'(by omega)).toNat-(i+1)<(body[0]'(by omega)).toNat-i
      omega
     ·refine⟨hlt,?_,show Bd+3≤Bx+12 by omega,kD _ _,show Bd+3≤Bx+13+19 by omega,kD _ _,show Bx+12<Bx+13+19 by omega,by simp[i8]⟩
      rw[hst]
      have g1:body.getD (p+1+(body[p]'(by omega)).toNat) 0=body[p+1+(body[p]'(by omega)).toNat]'(by omega):=by rw[List.getD_eq_getElem?_getD,e2];rfl
      have g2:body.getD (p+2+(body[p]'(by omega)).toNat) 0=body[p+1+((body[p]'(by omega)).toNat+1)]'(by omega):=by rw[show p+2+(body[p]'(by omega)).toNat=p+1+((body[p]'(by omega)).toNat+1) by omega,List.getD_eq_getElem?_getD,e3];rfl
      rw[g1,g2]
     ·simp only[List.length_append,List.length_cons,List.length_nil,Nat.zero_add,hstf,hvs,hks,i8]
      exact le_step2 (hX _ (by omega) _ _) (hX _ (by omega) _ _) (hX _ (by omega) _ _) (hX _ (by omega) _ _) (by omega) (by omega) (by omega) (by omega)
  ·have hi:i=(body[0]'(by omega)).toNat:=by omega
   rw[hi]at i2
   have hple:p≤body.length:=prs_le (by omega) i2
   have e:prsN true body=prsE true body p ks vs:=by rw[hN,i2]
   have e5:prsN true body=(⟨true,ks,vs,[]⟩,decide (p=body.length)&&decide (kO ⟨true,ks,vs,[]⟩=0)):=by rw[e];rfl
   have hki:=prs_key i2
   have hlk:=(prs_len i2).1
   refine R e0 ?_
   refine cv (by kernel_rfl) ?_
   have hsm:sm (⟨true,ks,vs,[]⟩:GNode):=⟨trivial,⟨show ks.length≤281474976710656 by omega,fun k hk=>⟨by have:=hki k hk;omega,fun _ _=>trivial⟩⟩,(yR _).2 (show vs.length≤281474976710656 by omega),⟨by simp,by simp⟩⟩
   by_cases hq1:(p:Int)=(body.length:Int)
   ·refine R (cj hq1 (cj hsm e5)) ?_
    refine⟨⟨?_,?_⟩,?_⟩
    ·refine jA (n:=m) (xs:=ks) ?_ (hb.fresh _ (by omega)) rfl rfl
     rw[qF _ _ (by omega),qF _ _ (by omega),qN]
    ·refine jA (n:=q) (xs:=vs) ?_ (hb.fresh _ (by omega)) rfl rfl
     rw[qF _ _ (by omega),qN]
    ·rw[show decide (p=body.length)=true from decide_eq_true (by omega)]
     simp
   ·refine R (cj hq1 (cj hsm e5)) ?_
    refine⟨⟨?_,?_⟩,?_⟩
    ·refine jA (n:=m) (xs:=ks) ?_ (hb.fresh _ (by omega)) rfl rfl
     rw[qF _ _ (by omega),qF _ _ (by omega),qN]
    ·refine jA (n:=q) (xs:=vs) ?_ (hb.fresh _ (by omega)) rfl rfl
     rw[qF _ _ (by omega),qN]
    ·rw[show decide (p=body.length)=false from decide_eq_false (by omega)];rfl
def W301:qJ:=fun args H Bd K=>∃(kind:Int) (body:List UInt8),args=[.int .i64 kind,lst body]∧((body.length≤91)∧K (.agg (enc (rdN kind body)).toArray) H Bd)
@[go_sem ↓] theorem W301_eq (kind:Int) (body:List UInt8):W301 [.int .i64 kind,lst body] H Bd K=((body.length≤91)∧K (.agg (enc (rdN kind body)).toArray) H Bd):=ex2 kind body rfl
theorem W301_ok:OK 301 W301:=by
 rintro args H Bd K ⟨kind,body,rfl,hpre,hK⟩
 refine fnp pok ((Env.base _).add 331 _ W331_ok) [(1,[],[],(.k 3 (.grp true 9 11 2 [10,11] 12 none (.k 2 .nil) .nil)))] hK Tryz.func301 Tryz.ntmps301 Tryz.call301 [.cell 4 387] fun hb ha=> ?_
 by_cases hk:kind≠1∧kind≠2
 ·have e:rdN kind body=⟨3,⟨false,[],[],[]⟩⟩:=by unfold rdN;rw[if_pos hk];rfl
  obtain⟨hk1,hk2⟩:=hk
  exact R (cj hpre (cj hk1 (cj hk2 e))) trivial
 ·by_cases hq:(prsN (decide (kind=1)) body).2=true
  ·have e:rdN kind body=⟨0,(prsN (decide (kind=1)) body).1⟩:=by unfold rdN;rw[if_neg hk,if_pos hq]
   by_cases hk1:kind=1
   ·subst hk1
    rw[show decide ((1:Int)=1)=true from rfl]at hq e
    exact R (cj hpre (cj hq e)) trivial
   ·have hk2:kind=2:=Decidable.not_not.1 fun h=>hk ⟨hk1,h⟩
    subst hk2
    have hdec:decide ((2:Int)=1)=false:=rfl
    rw[hdec]at hq e
    exact R (cj hpre (cj hdec (cj hq e))) trivial
  ·have e:rdN kind body=⟨5,⟨false,[],[],[]⟩⟩:=by unfold rdN;rw[if_neg hk,if_neg hq];rfl
   by_cases hk1:kind=1
   ·subst hk1
    rw[show decide ((1:Int)=1)=true from rfl]at hq
    exact R (cj hpre (cj hq e)) trivial
   ·have hk2:kind=2:=Decidable.not_not.1 fun h=>hk ⟨hk1,h⟩
    subst hk2
    have hdec:decide ((2:Int)=1)=false:=rfl
    rw[hdec]at hq
    exact R (cj hpre (cj hdec (cj hq e))) trivial
def V237:qJ:=fun args H Bd K=>∃(d:GDisk) (id:Int),args=[.agg (enc d).toArray, .int .i64 id]∧((sm d∧DiskOK d∧R64 id)∧K (.tuple #[.agg (enc ((jQ d id).1)).toArray, .int .i64 ((jQ d id).2)]) H Bd)
@[go_sem ↓] theorem V237_eq (d_sectors:List (List UInt8)) (d_pending:List GPut) (id:Int):V237 [.agg #[lst d_sectors,lst d_pending], .int .i64 id] H Bd K=((sm (GDisk.mk d_sectors d_pending)∧DiskOK (GDisk.mk d_sectors d_pending)∧R64 id)∧K (.tuple #[.agg (enc ((jQ (GDisk.mk d_sectors d_pending) id).1)).toArray, .int .i64 ((jQ (GDisk.mk d_sectors d_pending) id).2)]) H Bd):=ex2 (GDisk.mk d_sectors d_pending) id rfl
def W237:qJ:=fun args H Bd K=>∃(pd vid:Value),args=[pd,vid]∧Yld (qK H 2 pd) fun cd=>qS V237 [.agg cd.toArray,vid] H Bd K
@[go_sem ↓] theorem W237_eq (pd vid:Value):W237 [pd,vid] H Bd K=(Yld (qK H 2 pd) fun cd=>qS V237 (idS [.agg cd.toArray,vid]) H Bd K):=by
 refine propext ⟨fun h=> ?_,fun h=>⟨_,_,rfl,h⟩⟩
 obtain⟨pd',vid',e,h⟩:=h
 simp only[List.cons.injEq,and_true]at e
 obtain⟨rfl,rfl⟩:=e
 exact h
set_option maxHeartbeats 2000000 in
theorem W237_ok:OK 237 W237:=by
 rintro args H Bd K ⟨pd,vid,rfl,cd,ed,h⟩
 obtain⟨d,id,e,hpre,hK⟩:=h
 simp only[List.cons.injEq,and_true]at e
 obtain⟨Ed,rfl⟩:=e
 obtain rfl:=qZ Ed
 refine yE pok (((((Env.base _).add 105 _ W105_ok).add 169 _ W169_ok).add 168 _ W168_ok).add 301 _ W301_ok) [(7,[0,1,2,3,4,5],[⟨0,[],[]⟩,⟨1,[],[]⟩,⟨2,[],[]⟩,⟨3,[],[]⟩,⟨4,[],[3]⟩,⟨5,[],[]⟩], .nil)] _ hK Tryz.func237 rfl (rs:=[.cell 4 327, .tmp 5]) rfl Tryz.ntmps237 (by simp) Tryz.call237 (by kernel_rfl) (fun ha hb=>tup_nb ⟨agg_nb _ _, .int _ _,trivial⟩) (fun hb ha=> ?_)
 have Pd:=qO ed (NB.vpok (ha pd (by simp)))
 simp only[kM]at Pd
 have Zd:=Pd.all 2 rfl
 have Yd:=jJ (ha pd (by simp))
 obtain⟨h1,h2,h3⟩:=hpre
 have hl:=h2.len
 by_cases hr:2≤id∧id≤(d.sectors.length:Int)-1
 case neg=>
  have e:jQ d id=(⟨false,[],[],[]⟩,3):=by unfold jQ;rw[if_pos hr];rfl
  have hlen:=h2.len
  refine R (cj Zd (cj h1 (cj h3 (cj hr e)))) ?_
  all_goals first|done|trivial|((try simp only[Cnp,Imp]);grind)
 obtain⟨hr1,hr2⟩:=hr
 have hlen:=readD_len h2 (n:=id) (by omega) (by omega)
 have hlt:id<d.sectors.length:=by omega
 have hge0:0≤id:=by omega
 have h63:id≤63:=by omega
 have hr3:¬ ¬(2≤id∧id≤(d.sectors.length:Int)-1):=fun h=>h ⟨hr1,hr2⟩
 by_cases hc:(qV (yD d id) id).2=0
 case neg=>
  have e:jQ d id=(⟨false,[],[],[]⟩,(qV (yD d id) id).2):=by unfold jQ;rw[if_neg hr3,if_pos hc];rfl
  exact R (cj Zd (cj h1 (cj h2 (cj h3 (cj hr1 (cj hr2 (cj hlen (cj hlt (cj hge0 (cj h63 (cj hc e))))))))))) trivial
 have e:jQ d id=((rdN (qV (yD d id) id).1.kind (qV (yD d id) id).1.body).node,(rdN (qV (yD d id) id).1.kind (qV (yD d id) id).1.body).code):=by unfold jQ;rw[if_neg hr3,if_neg (by simpa using hc)]
 have hbl:=(pageF_ok (readPg_ok hc).1).2.2
 exact RA (cj Zd (cj h1 (cj h2 (cj h3 (cj hr1 (cj hr2 (cj hlen (cj hlt (cj hge0 (cj h63 (cj hc (cj e hbl)))))))))))) trivial
def W238c:qJ:=fun args H Bd K=>∃(key:List UInt8) (low:List UInt8) (high:List UInt8),args=[lst key,lst low,lst high]∧((sm key∧sm low∧sm high)∧K (.bool (inB key low high)) H Bd)
@[go_sem ↓] theorem W238c_eq (key:List UInt8) (low:List UInt8) (high:List UInt8) (H:AH) (Bd:Nat) (K:Value→AH→Nat→Prop):W238c [lst key,lst low,lst high] H Bd K=((sm key∧sm low∧sm high)∧K (.bool (inB key low high)) H Bd):=ex3 key low high rfl
theorem W238c_ok:OK 238 W238c:=by
 rintro args H Bd K ⟨key,low,high,rfl,hpre,hK⟩
 refine fnp pok ((Env.base _).add 220 _ W220_ok) [(1,[],[],(.k 4 (.grp false 10 14 4 [11,12,13,14] 15 none (.k 4 .nil) (.k 1 (.grp true 16 25 9 [17,18,19,20,21,22,23,24,25] 26 none (.k 4 (.grp false 20 24 4 [21,22,23,24] 25 (some (16,true)) (.k 4 .nil) .nil)) (.k 1 .nil))))))] hK Tryz.func238 Tryz.ntmps238 Tryz.call238 [.tmp 6] fun hb ha=> ?_
 obtain⟨h1,h2,h3⟩:=hpre
 have e:inB key low high=((decide (low.length=0)||decide (Lib.compareBytes low key≤0))&&(decide (high.length=0)||decide (Lib.compareBytes key high<0))):=rfl
 rw[e]
 by_cases g1:low.length=0 <;>by_cases g2:Lib.compareBytes low key≤0 <;>by_cases g3:high.length=0 <;>by_cases g4:Lib.compareBytes key high<0
 all_goals (simp (maxSteps:=2000000) (disch:=first|assumption|(refine qI ?_;assumption)|exact Nat.le_add_right _ _|exact Nat.le_refl _|omega|(simp (disch:=first|exact Nat.le_add_right _ _|omega) only[qG hb,qR hb,qM,qE hb,qC];done)|fail) only[go_sem,push_cast,qB,qA,qG hb,qE hb,h1,h2,h3,g1,g2,g3,g4])
 all_goals (first|done|trivial|simp[g1,g2,g3,g4])
def W238d:qJ:=NilV 1 1 W238c
@[go_sem ↓] theorem W238d_eq (v0 v1 v2:Value) (H:AH) (Bd:Nat) (K:Value→AH→Nat→Prop):W238d [v0,v1,v2] H Bd K=qS W238c (idS [v0,nilV 1 v1,v2]) H Bd K:=(rfl)
theorem W238d_ok:OK 238 W238d:=NilV_ok 1 1 W238c_ok
def W238:qJ:=NilV 2 1 W238d
@[go_sem ↓] theorem W238_eq (v0 v1 v2:Value):W238 [v0,v1,v2] H Bd K=qS W238d (idS [v0,v1,nilV 1 v2]) H Bd K:=(rfl)
theorem W238_ok:OK 238 W238:=NilV_ok 2 1 W238d_ok
def W170:qJ:=fun args H Bd K=>∃(l:List Int) (n:Int),args=[lst l, .int .i64 n]∧((l.length≤1000000)∧K (lst (kJ l n)) H Bd)
@[go_sem ↓] theorem W170_eq (l:List Int) (n:Int):W170 [lst l, .int .i64 n] H Bd K=((l.length≤1000000)∧K (lst (kJ l n)) H Bd):=ex2 l n rfl
set_option maxHeartbeats 2000000 in
theorem W170_ok:OK 170 W170:=by
 rintro args H Bd K ⟨l,n,rfl,hpre,hK⟩
 refine fnp pok (Env.base _) [(6,[],[],(.k 3 (.grp true 17 23 6 [18,19,20,21,22,23] 24 none (.k 6 .nil) .nil)))] hK Tryz.func170 Tryz.ntmps170 Tryz.call170 [.tmp 4] fun hb ha=> ?_
 refine jH pok fun cv=> ?_
 refine R0 ?_
 refine tr_st (X:=Nat×Nat×Nat) (fun x=>x.1≤l.length∧Bd≤x.2.1∧0<x.2.2) (fun x=>l.length-x.1) (fun x=>[(0,lst l),(1, .int .i64 n),(5, .slice (some ⟨x.2.1,0,some 1⟩) (kS l n x.1).1.length x.2.2),(6, .bool (kS l n x.1).2),(7, .int .i64 x.1)]) (fun x=>upd H x.2.1 (some ⟨qQ (kS l n x.1).1,true⟩)) (0,Bd,1) (⟨Nat.zero_le _,Nat.le_refl _,Nat.zero_lt_one⟩) (by simp only[go_sem,push_cast,qB,qA,kS,jC];all_goals (try simp only[Value.int.injEq,Value.slice.injEq,true_and,and_true]) <;>all_goals (try(first|trivial|omega|grind))) (by first|exact Le.refl _|simp (disch:=first|assumption|omega) only[go_sem,push_cast,qB,qA,qM,yF,kS,jC]) ?_
 intro x Bx hIx hBx hbx Fx hFx
 refine cv (by kernel_rfl) ?_
 obtain⟨i,m,c⟩:=x
 obtain⟨i1,i2,i3⟩:=hIx
 simp only at i1 i2 i3 hbx
 have hmx:=hb_lt hbx
 have hz:(c=0)=False:=eq_false (by omega)
 have hpl:=putS_len l n i
 have hta:List.take (kS l n i).1.length (qQ (kS l n i).1)=qQ (kS l n i).1:=flat_all1 _
 rcases Nat.lt_or_ge i l.length with hlt|hge
 ·have e1:l[i]? =some l[i]:=List.getElem?_eq_getElem hlt
  have g1:l.getD i 0=l[i]:=by rw[List.getD_eq_getElem?_getD,e1];rfl
  have hfl:(qQ (kS l n i).1).length=(kS l n i).1.length:=by rw[jT];exact Nat.mul_one _
  by_cases hd:(kS l n i).2=false∧n≤l[i]
  ·obtain⟨hd1,hd2⟩:=hd
   by_cases hq:l[i]=n
   ·have hst:kS l n (i+1)=((kS l n i).1++[n],true):=by rw[kS,g1,if_pos ⟨hd1,hd2⟩,if_pos hq,List.append_nil,hq]
    have hstf:qQ (kS l n (i+1)).1=qQ (kS l n i).1++[.int .i64 n]:=by rw[hst,qL,qU];rfl
    have hstl:(kS l n (i+1)).1.length=(kS l n i).1.length+1:=by rw[hst,List.length_append];rfl
    have hstb:(kS l n (i+1)).2=true:=by rw[hst]
    refine RA (cj e1 (cj hz (cj hd1 (cj hd2 (cj hq hta))))) ?_
    refine hFx (i+1,Bx+1,kY ((kS l n i).1.length+1) (c-1)) _ _ _ ?_ ?_ (by first|exact Le.refl _|simp (disch:=first|assumption|omega|(simp (disch:=omega) only[qC,qE hb];done)) only[go_sem,push_cast,qB,qA,qM,yF,qC,qE hb,hstf,hstl,hstb]) (by simp only[go_sem,push_cast,qB,qA]) (by simp only[go_sem,push_cast,qB,qA,hstf,hstl,hstb];all_goals (try simp only[Value.int.injEq,Value.slice.injEq,true_and,and_true]) <;>all_goals (try(first|trivial|omega|grind)))
    ·show l.length-(i+1)<l.length-i
     omega
    ·exact⟨hlt,show Bd≤Bx+1 by omega,kD _ _⟩
   ·have hst:kS l n (i+1)=((kS l n i).1++[n]++[l[i]],true):=by rw[kS,g1,if_pos ⟨hd1,hd2⟩,if_neg hq]
    have hstf:qQ (kS l n (i+1)).1=qQ (kS l n i).1++[.int .i64 n]++[.int .i64 l[i]]:=by rw[hst,qL,qL,qU,qU];rfl
    have hstl:(kS l n (i+1)).1.length=(kS l n i).1.length+2:=by rw[hst,List.length_append,List.length_append];rfl
    have hstb:(kS l n (i+1)).2=true:=by rw[hst]
    have hx2:(qQ (kS l n i).1++[Value.int .i64 n]).length=(kS l n i).1.length+1:=by rw[List.length_append,hfl];rfl
    have hx1:List.take ((kS l n i).1.length+1) (qQ (kS l n i).1++[Value.int .i64 n])=qQ (kS l n i).1++[Value.int .i64 n]:=List.take_of_length_le (by rw[hx2];exact Nat.le_refl _)
    refine RA (cj e1 (cj hz (cj hd1 (cj hd2 (cj hq (cj hta (cj hx1 hx2))))))) ?_
    refine hFx (i+1,Bx+3,kY ((kS l n i).1.length+2) (kY ((kS l n i).1.length+1) (c-1)-1)) _ _ _ ?_ ?_ (by first|exact Le.refl _|simp (disch:=first|assumption|omega|(simp (disch:=omega) only[qC,qE hb];done)) only[go_sem,push_cast,qB,qA,qM,yF,qC,qE hb,hstf,hstl,hstb]) (by simp only[go_sem,push_cast,qB,qA]) (by simp only[go_sem,push_cast,qB,qA,hstf,hstl,hstb];all_goals (try simp only[Value.int.injEq,Value.slice.injEq,true_and,and_true]) <;>all_goals (try(first|trivial|omega|grind)))
    ·show l.length-(i+1)<l.length-i
     omega
    ·exact⟨hlt,show Bd≤Bx+3 by omega,kD _ _⟩
  ·have hst:kS l n (i+1)=((kS l n i).1++[l[i]],(kS l n i).2):=by rw[kS,g1,if_neg hd]
   have hstf:qQ (kS l n (i+1)).1=qQ (kS l n i).1++[.int .i64 l[i]]:=by rw[hst,qL,qU];rfl
   have hstl:(kS l n (i+1)).1.length=(kS l n i).1.length+1:=by rw[hst,List.length_append];rfl
   by_cases hb2:(kS l n i).2=true
   ·have hstb:(kS l n (i+1)).2=true:=by rw[hst];exact hb2
    refine RA (cj e1 (cj hz (cj hb2 hta))) ?_
    refine hFx (i+1,Bx+1,kY ((kS l n i).1.length+1) (c-1)) _ _ _ ?_ ?_ (by first|exact Le.refl _|simp (disch:=first|assumption|omega|(simp (disch:=omega) only[qC,qE hb];done)) only[go_sem,push_cast,qB,qA,qM,yF,qC,qE hb,hstf,hstl,hstb]) (by simp only[go_sem,push_cast,qB,qA]) (by simp only[go_sem,push_cast,qB,qA,hstf,hstl,hstb];all_goals (try simp only[Value.int.injEq,Value.slice.injEq,true_and,and_true]) <;>all_goals (try(first|trivial|omega|grind)))
    ·show l.length-(i+1)<l.length-i
     omega
    ·exact⟨hlt,show Bd≤Bx+1 by omega,kD _ _⟩
   ·have hb3:(kS l n i).2=false:=by simpa using hb2
    have hn:¬n≤l[i]:=fun h=>hd ⟨hb3,h⟩
    have hstb:(kS l n (i+1)).2=false:=by rw[hst];exact hb3
    refine RA (cj e1 (cj hz (cj hb3 (cj hn hta)))) ?_
    refine hFx (i+1,Bx+1,kY ((kS l n i).1.length+1) (c-1)) _ _ _ ?_ ?_ (by first|exact Le.refl _|simp (disch:=first|assumption|omega|(simp (disch:=omega) only[qC,qE hb];done)) only[go_sem,push_cast,qB,qA,qM,yF,qC,qE hb,hstf,hstl,hstb]) (by simp only[go_sem,push_cast,qB,qA]) (by simp only[go_sem,push_cast,qB,qA,hstf,hstl,hstb];all_goals (try simp only[Value.int.injEq,Value.slice.injEq,true_and,and_true]) <;>all_goals (try(first|trivial|omega|grind)))
    ·show l.length-(i+1)<l.length-i
     omega
    ·exact⟨hlt,show Bd≤Bx+1 by omega,kD _ _⟩
 ·obtain rfl:i=l.length:=by omega
  refine R0 ?_
  by_cases hb2:(kS l n l.length).2=true
  ·have e:kJ l n=(kS l n l.length).1:=by unfold kJ;rw[if_pos hb2]
   refine Tr.fin2 5 (by simp (disch:=first|assumption|omega) only[qC,qE hb]) (by simp only[go_sem,push_cast,qB,qA];rfl) rfl ?_
   refine cv (by kernel_rfl) ?_
   exact R (cj hb2 e) trivial
  ·have hb3:(kS l n l.length).2=false:=by simpa using hb2
   have e:kJ l n=(kS l n l.length).1++[n]:=by unfold kJ;rw[if_neg hb2]
   have hend:qQ (kS l n l.length).1++[.int .i64 n]=qQ (kJ l n):=by rw[e,qL,qU];rfl
   refine cv (by kernel_rfl) ?_
   refine RA (cj hb3 (cj hz (cj hta hend))) ?_
   refine jA (qN _ _ _) ?_ rfl ?_
   ·exact hb.fresh _ (by omega)
   ·rw[e,List.length_append];rfl
def W166:qJ:=fun args H Bd K=>∃(pd:Value) (id:Int) (low:List UInt8) (high:List UInt8) (depth:Int) (n:Nat),args=[pd, .int .i64 id,lst low,lst high, .int .i64 depth, .pointer (some ⟨n,0,none⟩)]∧Yld (H n) fun b=>Yld (yG wkB b) fun x=>Yld (H (x.2.1)) fun b0=>Yld (yG (flB (α:=GRow)) b0) fun rows=>Yld (qK (upd (upd H n none) (x.2.1) none) 2 pd) fun cd=>Yld (dataOf (α:=GDisk) cd) fun d=>(x.2.2.1=(rows).length∧x.2.2.2.1=x.2.2.1+1∧n≠x.2.1∧(sm d∧DiskOK d∧R64 id∧1≤depth∧depth≤5∧low.length≤16∧high.length≤16∧x.1.length+6^(6-depth).toNat≤100000∧rows.length+4*6^(6-depth).toNat≤400000))∧K (.int .i64 ((vis kJ d (6-depth).toNat id low high depth ⟨x.1,rows,x.2.2.2.2⟩)).1) (upd (upd (upd (upd H n none) (x.2.1) none) n (some ⟨[lst ((vis kJ d (6-depth).toNat id low high depth ⟨x.1,rows,x.2.2.2.2⟩)).2.pages, .slice (some ⟨Bd,0,some 2⟩) (((vis kJ d (6-depth).toNat id low high depth ⟨x.1,rows,x.2.2.2.2⟩)).2.rows).length ((((vis kJ d (6-depth).toNat id low high depth ⟨x.1,rows,x.2.2.2.2⟩)).2.rows).length+1), .int .i64 ((vis kJ d (6-depth).toNat id low high depth ⟨x.1,rows,x.2.2.2.2⟩)).2.deep],true⟩)) Bd (some ⟨qQ (((vis kJ d (6-depth).toNat id low high depth ⟨x.1,rows,x.2.2.2.2⟩)).2.rows),true⟩)) (Bd+1)
@[go_sem ↓] theorem W166_eq (pd:Value) (id:Int) (low:List UInt8) (high:List UInt8) (depth:Int) (n:Nat):W166 [pd, .int .i64 id,lst low,lst high, .int .i64 depth, .pointer (some ⟨n,0,none⟩)] H Bd K=(Yld (H n) fun b=>Yld (yG wkB b) fun x=>Yld (H (x.2.1)) fun b0=>Yld (yG (flB (α:=GRow)) b0) fun rows=>Yld (qK (upd (upd H n none) (x.2.1) none) 2 pd) fun cd=>Yld (dataOf (α:=GDisk) cd) fun d=>(x.2.2.1=(rows).length∧x.2.2.2.1=x.2.2.1+1∧n≠x.2.1∧(sm d∧DiskOK d∧R64 id∧1≤depth∧depth≤5∧low.length≤16∧high.length≤16∧x.1.length+6^(6-depth).toNat≤100000∧rows.length+4*6^(6-depth).toNat≤400000))∧K (.int .i64 ((vis kJ d (6-depth).toNat id low high depth ⟨x.1,rows,x.2.2.2.2⟩)).1) (upd (upd (upd (upd H n none) (x.2.1) none) n (some ⟨[lst ((vis kJ d (6-depth).toNat id low high depth ⟨x.1,rows,x.2.2.2.2⟩)).2.pages, .slice (some ⟨Bd,0,some 2⟩) (((vis kJ d (6-depth).toNat id low high depth ⟨x.1,rows,x.2.2.2.2⟩)).2.rows).length ((((vis kJ d (6-depth).toNat id low high depth ⟨x.1,rows,x.2.2.2.2⟩)).2.rows).length+1), .int .i64 ((vis kJ d (6-depth).toNat id low high depth ⟨x.1,rows,x.2.2.2.2⟩)).2.deep],true⟩)) Bd (some ⟨qQ (((vis kJ d (6-depth).toNat id low high depth ⟨x.1,rows,x.2.2.2.2⟩)).2.rows),true⟩)) (Bd+1)):=by
 refine propext ⟨fun h=> ?_,fun h=>⟨_,_,_,_,_,_,rfl,h⟩⟩
 obtain⟨pd',id',low',high',depth',n',e,h⟩:=h
 simp only[List.cons.injEq,Value.agg.injEq,jE,Value.int.injEq,Value.bool.injEq,Value.string.injEq,Value.pointer.injEq,Option.some.injEq,Addr.mk.injEq,lst_inj,true_and,and_true]at e
 obtain⟨rfl,rfl,rfl,rfl,rfl,rfl⟩:=e
 exact h
def R166(N:Nat):qJ:=fun args H Bd K=>∃(pd:Value) (id:Int) (low:List UInt8) (high:List UInt8) (depth:Int) (n:Nat),args=[pd, .int .i64 id,lst low,lst high, .int .i64 depth, .pointer (some ⟨n,0,none⟩)]∧Yld (H n) fun b=>Yld (yG wkB b) fun x=>Yld (H (x.2.1)) fun b0=>Yld (yG (flB (α:=GRow)) b0) fun rows=>Yld (qK (upd (upd H n none) (x.2.1) none) 2 pd) fun cd=>Yld (dataOf (α:=GDisk) cd) fun d=>(x.2.2.1=(rows).length∧x.2.2.2.1=x.2.2.1+1∧n≠x.2.1∧(sm d∧DiskOK d∧R64 id∧1≤depth∧depth≤5∧low.length≤16∧high.length≤16∧x.1.length+6^(6-depth).toNat≤100000∧rows.length+4*6^(6-depth).toNat≤400000)∧(6-depth).toNat<N)∧K (.int .i64 ((vis kJ d (6-depth).toNat id low high depth ⟨x.1,rows,x.2.2.2.2⟩)).1) (upd (upd (upd (upd H n none) (x.2.1) none) n (some ⟨[lst ((vis kJ d (6-depth).toNat id low high depth ⟨x.1,rows,x.2.2.2.2⟩)).2.pages, .slice (some ⟨Bd,0,some 2⟩) (((vis kJ d (6-depth).toNat id low high depth ⟨x.1,rows,x.2.2.2.2⟩)).2.rows).length ((((vis kJ d (6-depth).toNat id low high depth ⟨x.1,rows,x.2.2.2.2⟩)).2.rows).length+1), .int .i64 ((vis kJ d (6-depth).toNat id low high depth ⟨x.1,rows,x.2.2.2.2⟩)).2.deep],true⟩)) Bd (some ⟨qQ (((vis kJ d (6-depth).toNat id low high depth ⟨x.1,rows,x.2.2.2.2⟩)).2.rows),true⟩)) (Bd+1)
@[go_sem ↓] theorem R166_eq (N:Nat) (pd:Value) (id:Int) (low:List UInt8) (high:List UInt8) (depth:Int) (n:Nat):R166 N [pd, .int .i64 id,lst low,lst high, .int .i64 depth, .pointer (some ⟨n,0,none⟩)] H Bd K=(Yld (H n) fun b=>Yld (yG wkB b) fun x=>Yld (H (x.2.1)) fun b0=>Yld (yG (flB (α:=GRow)) b0) fun rows=>Yld (qK (upd (upd H n none) (x.2.1) none) 2 pd) fun cd=>Yld (dataOf (α:=GDisk) cd) fun d=>(x.2.2.1=(rows).length∧x.2.2.2.1=x.2.2.1+1∧n≠x.2.1∧(sm d∧DiskOK d∧R64 id∧1≤depth∧depth≤5∧low.length≤16∧high.length≤16∧x.1.length+6^(6-depth).toNat≤100000∧rows.length+4*6^(6-depth).toNat≤400000)∧(6-depth).toNat<N)∧K (.int .i64 ((vis kJ d (6-depth).toNat id low high depth ⟨x.1,rows,x.2.2.2.2⟩)).1) (upd (upd (upd (upd H n none) (x.2.1) none) n (some ⟨[lst ((vis kJ d (6-depth).toNat id low high depth ⟨x.1,rows,x.2.2.2.2⟩)).2.pages, .slice (some ⟨Bd,0,some 2⟩) (((vis kJ d (6-depth).toNat id low high depth ⟨x.1,rows,x.2.2.2.2⟩)).2.rows).length ((((vis kJ d (6-depth).toNat id low high depth ⟨x.1,rows,x.2.2.2.2⟩)).2.rows).length+1), .int .i64 ((vis kJ d (6-depth).toNat id low high depth ⟨x.1,rows,x.2.2.2.2⟩)).2.deep],true⟩)) Bd (some ⟨qQ (((vis kJ d (6-depth).toNat id low high depth ⟨x.1,rows,x.2.2.2.2⟩)).2.rows),true⟩)) (Bd+1)):=by
 refine propext ⟨fun h=> ?_,fun h=>⟨_,_,_,_,_,_,rfl,h⟩⟩
 obtain⟨pd',id',low',high',depth',n',e,h⟩:=h
 simp only[List.cons.injEq,Value.agg.injEq,jE,Value.int.injEq,Value.bool.injEq,Value.string.injEq,Value.pointer.injEq,Option.some.injEq,Addr.mk.injEq,lst_inj,true_and,and_true]at e
 obtain⟨rfl,rfl,rfl,rfl,rfl,rfl⟩:=e
 exact h
set_option maxHeartbeats 4000000 in
theorem R166_step(N:Nat)(ih:OK 166 (R166 N)):OK 166 (R166 (N+1)):=by
 rintro args H Bd K ⟨pd,id,low,high,depth,n,rfl,b,hb0,x,hx,b1,hb1,rows,hv0,cd,ed,d,gd,⟨hl0,hc0,hd0,hpre,hmeas⟩,hK⟩
 obtain⟨pages,m,l,c,deep⟩:=x
 obtain rfl:=kV hx
 obtain rfl:=kV hv0
 obtain rfl:=dataOf_out gd
 simp only[wkB,flB]at hb0 hb1 hl0 hc0 hd0 hK hpre ed
 subst hl0;subst hc0
 have hnB:HB H Bd→n<Bd∧m<Bd:=fun h=>⟨hb_in h hb0,hb_in h hb1⟩
 obtain⟨G,rfl,⟨gn,gm0⟩,gE,gH⟩:=out2 hb0 hb1 hd0
 rw[gE]at hK ed
 refine fn_can pok ((((((Env.base _).add 167 _ W167_ok).add 237 _ W237_ok).add 238 _ W238_ok).add 170 _ W170_ok).add 166 (R166 N) ih) [(6,[],[],(.k 3 (.grp false 38 46 8 [39,40,41,42,43,44,45,46] 47 none (.k 3 (.grp true 41 45 4 [42,43,44,45] 46 (some (38,false)) (.k 4 .nil) .nil)) (.k 1 (.grp false 48 52 4 [49,50,51,52] 53 none (.k 4 .nil) .nil))))),(22,[0,1,2,3,4,5,6,7,8,9,10,11,12,13,14,15,16,17,18,19,20],[⟨0,[],[]⟩,⟨1,[],[]⟩,⟨2,[],[]⟩,⟨3,[],[]⟩,⟨4,[],[]⟩,⟨5,[],[]⟩,⟨6,[],[]⟩,⟨7,[],[]⟩,⟨8,[],[]⟩,⟨9,[],[]⟩,⟨10,[],[]⟩,⟨11,[],[]⟩,⟨12,[],[]⟩,⟨13,[],[]⟩,⟨14,[],[]⟩,⟨15,[],[]⟩,⟨16,[],[]⟩,⟨17,[16],[]⟩,⟨18,[],[]⟩,⟨19,[],[]⟩,⟨20,[16],[]⟩], .nil)] G [.m n 1] (.int .i64 ((vis kJ d (6-depth).toNat id low high depth ⟨pages,rows,deep⟩)).1) [(Bd,⟨qQ (((vis kJ d (6-depth).toNat id low high depth ⟨pages,rows,deep⟩)).2.rows),true⟩),(n,⟨[lst ((vis kJ d (6-depth).toNat id low high depth ⟨pages,rows,deep⟩)).2.pages, .slice (some ⟨Bd,0,some 2⟩) (((vis kJ d (6-depth).toNat id low high depth ⟨pages,rows,deep⟩)).2.rows).length ((((vis kJ d (6-depth).toNat id low high depth ⟨pages,rows,deep⟩)).2.rows).length+1), .int .i64 ((vis kJ d (6-depth).toNat id low high depth ⟨pages,rows,deep⟩)).2.deep],true⟩)] hK (by simp) (gH Bd) Tryz.func166 rfl (rs:=[.tmp 12]) rfl Tryz.ntmps166 (by simp) Tryz.call166 (by kernel_rfl) (fun hh hb ha=> ?_)
 obtain⟨hn,hn0⟩:=hnB hh
 have Yd:=jJ (ha pd (by simp))
 clear hK gE gH hnB hb0 hx hb1 hv0 gd
 have Pd:=qO ed (NB.vpok (ha pd (by simp)))
 simp only[kM]at Pd
 have Zd:=Pd.all 2 rfl
 refine jH pok fun cv=> ?_
 obtain⟨h1,h2,h3,h4,h5,h6,h7,h8,h9⟩:=hpre
 obtain⟨f,hf⟩:∃f,(6-depth).toNat=f+1:=⟨(5-depth).toNat,by omega⟩
 rw[hf]at h8 h9 ⊢
 have h6p:6^(f+1)=6*6^f:=by rw[Nat.pow_succ];omega
 have hsp:sm pages:=(yR _).2 (by omega)
 have hsl:sm low:=⟨by omega,fun _ _=>trivial⟩
 have hsh:sm high:=⟨by omega,fun _ _=>trivial⟩
 by_cases q1:hasI pages id=true
 ·have e:vis kJ d (f+1) id low high depth ⟨pages,rows,deep⟩=(8,⟨pages,rows,deep⟩):=vis_has q1
  rw[e]
  exact S (cj Zd (cj q1 hsp)) trivial
 by_cases q2:(jQ d id).2=0
 case neg=>
  have e:vis kJ d (f+1) id low high depth ⟨pages,rows,deep⟩=((jQ d id).2,⟨pages,rows,deep⟩):=vis_code q1 q2
  rw[e]
  exact S (cj Zd (cj q1 (cj hsp (cj h1 (cj h2 (cj h3 q2)))))) trivial
 have hN:=node_ok (nodeD_ok q2)
 generalize hnd:(jQ d id).1=nd at*
 have hkl:=hN.kl
 have hkk:∀k∈nd.keys,sm k:=fun k hk=>⟨by have:=(hN.key k hk).2;omega,fun _ _=>trivial⟩
 by_cases b1:4<depth∨(1<depth∧nd.keys.length<2)∨nd.keys.length<1
 ·have hbad:badN nd depth low high=true:=by unfold badN;rcases b1 with h|⟨h,h'⟩|h <;>simp[*]
  have e:vis kJ d (f+1) id low high depth ⟨pages,rows,deep⟩=(8,⟨pages,rows,deep⟩):=vis_bad q1 q2 (by rw[hnd];exact hbad)
  rw[e]
  rcases b1 with h|⟨h,h'⟩|h
  ·exact S (cj Zd (cj q1 (cj hsp (cj h1 (cj h2 (cj h3 (cj q2 (cj hnd h)))))))) trivial
  ·by_cases h4':4<depth
   ·exact S (cj Zd (cj q1 (cj hsp (cj h1 (cj h2 (cj h3 (cj q2 (cj hnd h4')))))))) trivial
   ·exact S (cj Zd (cj q1 (cj hsp (cj h1 (cj h2 (cj h3 (cj q2 (cj hnd (cj h4' (cj h h')))))))))) trivial
  ·have h0:nd.keys.length=0:=by omega
   by_cases h4':4<depth
   ·exact S (cj Zd (cj q1 (cj hsp (cj h1 (cj h2 (cj h3 (cj q2 (cj hnd h4')))))))) trivial
   ·by_cases h5':1<depth
    ·exact S (cj Zd (cj q1 (cj hsp (cj h1 (cj h2 (cj h3 (cj q2 (cj hnd (cj h4' (cj h5' h0)))))))))) trivial
    ·exact S (cj Zd (cj q1 (cj hsp (cj h1 (cj h2 (cj h3 (cj q2 (cj hnd (cj h4' (cj h5' h0)))))))))) trivial
 obtain⟨b2,b3,b4⟩:¬4<depth∧¬(1<depth∧nd.keys.length<2)∧¬nd.keys.length<1:=⟨fun h=>b1 (.inl h),fun h=>b1 (.inr (.inl h)),fun h=>b1 (.inr (.inr h))⟩
 have b5:1<depth→¬nd.keys.length<2:=fun h h'=>b3 ⟨h,h'⟩
 refine S (cj Zd (cj q1 (cj hsp (cj h1 (cj h2 (cj h3 (cj q2 (cj hnd (cj b2 b4))))))))) ?_
 intro _
 refine jB (fun i=>∀j,j<i→∀x,nd.keys[j]? =some x→(!inB x low high)=false) (nd.keys.length) (fun i=>[(0,pd),(1, .int .i64 id),(2,lst low),(3,lst high),(4, .int .i64 depth),(5, .pointer (some ⟨n,0,none⟩)),(13, .pointer (some ⟨Bd,0,none⟩)),(15, .int .i64 i)]) (by simp) (by simp only[go_sem,push_cast,qB,qA]) ?_
 intro i Bi hIi hii hBi
 refine cv (by kernel_rfl) ?_
 rcases Nat.lt_or_ge i (nd.keys.length)with hlti|hgei
 ·have e1:nd.keys[i]? =some nd.keys[i]:=List.getElem?_eq_getElem hlti
  have hk1:=hkk _ (List.getElem_mem hlti)
  by_cases hq:inB nd.keys[i] low high=true
  ·refine S (cj Zd (cj e1 (cj hk1 (cj hsl (cj hsh hq))))) ?_
   intro j hj x hx
   by_cases e:j=i
   ·subst e;rw[e1]at hx;cases hx;simp[hq]
   ·exact hIi j (by omega) x hx
  ·have hbad:badN nd depth low high=true:=by
    unfold badN
    rw[any_hit hlti (by simpa using hq)];simp
   have e:vis kJ d (f+1) id low high depth ⟨pages,rows,deep⟩=(8,⟨pages,rows,deep⟩):=vis_bad q1 q2 (by rw[hnd];exact hbad)
   rw[e]
   exact S (cj Zd (cj e1 (cj hk1 (cj hsl (cj hsh hq))))) trivial
 have hgood:¬badN nd depth low high=true:=by
  unfold badN
  rw[vG fun j hj x hx=>hIi j (by omega) x hx]
  simp only[Bool.or_false,Bool.or_eq_true,Bool.and_eq_true,decide_eq_true_eq]
  rintro((h|h)|h)
  ·exact b2 h
  ·exact b3 h
  ·exact b4 h
 refine S Zd ?_
 refine cv (by kernel_rfl) ?_
 by_cases hlf:nd.leaf=true
 ·have hv:=hN.vals hlf
  by_cases hdp:deep=0∨deep=depth
  ·have e:vis kJ d (f+1) id low high depth ⟨pages,rows,deep⟩=(0,⟨kJ pages id,rows++rowsN nd nd.keys.length,depth⟩):=by
    have:=vis_leaf (ins:=kJ) (f:=f) (low:=low) (high:=high) (w:=⟨pages,rows,deep⟩) q1 q2 (by rw[hnd];exact hgood) (by rw[hnd];exact hlf) hdp
    rw[hnd]at this;exact this
   rw[e]
   have hdn:deep≠0→deep=depth:=fun h=>hdp.resolve_left h
   by_cases hd0':deep=0
   case' pos=>have hd9:True:=trivial
   case' neg=>have hd9:=hdn hd0'
   all_goals
    refine S (cj Zd (cj hlf (cj hd0' hd9))) ?_
    refine kB (X:=Nat) hb (by omega) 1 [.m n 1] rfl (fun x=>x≤nd.keys.length) (fun x=>nd.keys.length-x) (fun Nx x=>[(5, .pointer (some ⟨n,0,none⟩)),(13, .pointer (some ⟨Bd,0,none⟩)),(16, .int .i64 x)]) (fun Nx x=>[(n,⟨[lst (kJ pages id), .slice (some ⟨Nx,0,some 2⟩) (rows++rowsN nd x).length ((rows++rowsN nd x).length+1), .int .i64 depth],true⟩),(Nx,⟨qQ (rows++rowsN nd x),true⟩),(Bd,⟨[.bool nd.leaf,lst nd.keys,lst nd.values,lst nd.kids],true⟩)]) 0 (Nat.zero_le _) (fun Nx hNx=>(by simp (disch:=first|assumption|omega|(simp (disch:=omega) only[qC,qE hb];done)|(simp (disch:=first|omega|(simp (disch:=omega) only[qC,qE hb];done)) only[go_sem,push_cast,qB,qA,qC,qE hb];done)|fail) only[go_sem,push_cast,qB,qA,qM,qG hb,qC,qE hb,jC,qL,qU,jS,jI,jD,jX,jL,List.append_assoc,List.length_append,List.length_cons,List.length_nil,Nat.zero_add,rq_nb (ha pd (by simp)),rowsN_zero,List.append_nil];all_goals (try simp only[Value.int.injEq,Value.slice.injEq,true_and,and_true]) <;>all_goals (try(first|trivial|omega|grind)))) ?_
    intro Nx x hNx hIx hbx Fx hFx
    simp only[mem_cons,jK]at hbx ⊢
    refine cv (by kernel_rfl) ?_
    rcases Nat.lt_or_ge x nd.keys.length with hltx|hgex
    ·have e1:nd.keys[x]? =some nd.keys[x]:=List.getElem?_eq_getElem hltx
     have e2:nd.values[x]? =some (nd.values[x]'(by omega)):=List.getElem?_eq_getElem _
     have hrl:(rows++rowsN nd x).length=rows.length+x:=by rw[List.length_append,rowsN_len]
     refine SA (cj Zd (cj e1 e2)) ?_
     refine hFx (x+1) _ _ _ ?_ ?_ (by simp only[go_sem,push_cast,qB,qA]) ((by simp (disch:=first|assumption|omega|(simp (disch:=omega) only[qC,qE hb];done)|(simp (disch:=first|omega|(simp (disch:=omega) only[qC,qE hb];done)) only[go_sem,push_cast,qB,qA,qC,qE hb];done)|fail) only[go_sem,push_cast,qB,qA,qM,qG hb,qC,qE hb,jC,qL,qU,jS,jI,jD,jX,jL,List.append_assoc,List.length_append,List.length_cons,List.length_nil,Nat.zero_add,rq_nb (ha pd (by simp)),rowsN_succ,rowN,getD_some e1,getD_some e2,enc_GRow];all_goals (try simp only[Value.int.injEq,Value.slice.injEq,true_and,and_true]) <;>all_goals (try(first|trivial|omega|grind))))
     ·show nd.keys.length-(x+1)<nd.keys.length-x
      omega
     ·exact hltx
    ·obtain rfl:x=nd.keys.length:=Nat.le_antisymm hIx hgex
     refine S Zd ?_
     refine cv (by kernel_rfl) ?_
     exact S Zd trivial
  ·have e:vis kJ d (f+1) id low high depth ⟨pages,rows,deep⟩=(8,⟨kJ pages id,rows,deep⟩):=by
    have:=vis_leafN (ins:=kJ) (f:=f) (low:=low) (high:=high) (w:=⟨pages,rows,deep⟩) q1 q2 (by rw[hnd];exact hgood) (by rw[hnd];exact hlf) hdp
    exact this
   rw[e]
   have hd1:¬deep=0:=fun h=>hdp (.inl h)
   have hd2:¬deep=depth:=fun h=>hdp (.inr h)
   exact S (cj Zd (cj hlf (cj hd1 hd2))) trivial
 have hkd:=hN.kids (by simpa using hlf)
 have hlf2:nd.leaf=false:=by simpa using hlf
 have e:vis kJ d (f+1) id low high depth ⟨pages,rows,deep⟩=visK (fun k a b w=>vis kJ d f k a b (depth+1) w) nd low high nd.kids.length 0 ⟨kJ pages id,rows,deep⟩:=by
  have:=vis_kids (ins:=kJ) (f:=f) (low:=low) (high:=high) (w:=⟨pages,rows,deep⟩) q1 q2 (by rw[hnd];exact hgood) (by rw[hnd];exact hlf)
  rw[hnd]at this;exact this
 rw[e]
 have hpl:=putL_len pages id
 have hff:(6-(depth+1)).toNat=f:=by omega
 refine S (cj Zd hlf2) ?_
 refine kB (X:=Nat×GL17Walk) hb (by omega) 1 [.m n 1] rfl (fun x=>x.1≤nd.kids.length∧visK (fun k a b w=>vis kJ d f k a b (depth+1) w) nd low high nd.kids.length 0 ⟨kJ pages id,rows,deep⟩=visK (fun k a b w=>vis kJ d f k a b (depth+1) w) nd low high (nd.kids.length-x.1) x.1 x.2∧Grow (x.1*6^f) ⟨kJ pages id,rows,deep⟩ x.2) (fun x=>nd.kids.length-x.1) (fun Nx x=>[(0,pd),(2,lst low),(3,lst high),(4, .int .i64 depth),(5, .pointer (some ⟨n,0,none⟩)),(13, .pointer (some ⟨Bd,0,none⟩)),(17, .int .i64 x.1)]) (fun Nx x=>[(n,⟨[lst x.2.pages, .slice (some ⟨Nx,0,some 2⟩) x.2.rows.length (x.2.rows.length+1), .int .i64 x.2.deep],true⟩),(Nx,⟨qQ x.2.rows,true⟩),(Bd,⟨[.bool false,lst nd.keys,lst nd.values,lst nd.kids],true⟩)]) (0,⟨kJ pages id,rows,deep⟩) (⟨Nat.zero_le _,rfl,Grow.refl _ _⟩) (fun Nx hNx=>(canf Yd)) ?_
 intro Nx x hNx hIx hbx Fx hFx
 simp only[mem_cons,jK]at hbx ⊢
 refine cv (by kernel_rfl) ?_
 obtain⟨i,w⟩:=x
 obtain⟨i1,i2,i3⟩:=hIx
 simp only at i1 i2 i3
 have hp6:0<6^f:=Nat.pow_pos (by omega)
 have g1:=i3.pages
 have g2:=i3.rows
 simp only at g1 g2
 rcases Nat.lt_or_ge i nd.kids.length with hlt|hge
 ·have e1:nd.kids[i]? =some nd.kids[i]:=List.getElem?_eq_getElem hlt
  have hkr:=hkd.2.2.2 _ (List.getElem_mem hlt)
  have hkR:R64 nd.kids[i]:=⟨by omega,by omega⟩
  have hmul:i*6^f≤4*6^f:=Nat.mul_le_mul_right _ (by omega)
  obtain⟨P,hP⟩:∃P,P=i*6^f:=⟨_,rfl⟩
  rw[←hP]at g1 g2 hmul
  have hq1:w.pages.length+6^f≤100000:=by omega
  have hq2:w.rows.length+4*6^f≤400000:=by omega
  have hlo:(loB nd low i).length≤16:=by
   unfold loB
   split
   ·rw[getD_some (List.getElem?_eq_getElem (show i-1<nd.keys.length by omega))]
    exact(hN.key _ (List.getElem_mem _)).2
   ·exact h6
  have hhi:(hiB nd high i).length≤16:=by
   unfold hiB
   split
   ·rename_i hq
    rw[getD_some (List.getElem?_eq_getElem hq)]
    exact(hN.key _ (List.getElem_mem _)).2
   ·exact h7
  have hst:nd.kids.length-i=(nd.kids.length-(i+1))+1:=by omega
  rw[hst]at i2
  have hgd:nd.kids.getD i 0=nd.kids[i]:=getD_some e1
  have hc1:((i:Int)-1).toNat=i-1:=by omega
  have h3':(0<i∧i<nd.keys.length)∨(0<i∧¬i<nd.keys.length)∨(¬0<i∧i<nd.keys.length):=by omega
  have hsv:= @visK_succ (fun k a b w=>vis kJ d f k a b (depth+1) w) nd low high (nd.kids.length-(i+1)) i w
  have hsw:= @visK_stop (fun k a b w=>vis kJ d f k a b (depth+1) w) nd low high (nd.kids.length-(i+1)) i w
  simp only[hgd]at hsv hsw
  have hgw:=vis_grow putL_len d f nd.kids[i] (loB nd low i) (hiB nd high i) (depth+1) w
  rcases h3' with⟨hi0,hin⟩|⟨hi0,hin⟩|⟨hi0,hin⟩
  case' inl=>
   have e2:nd.keys[i-1]? =some (nd.keys[i-1]'(by omega)):=List.getElem?_eq_getElem _
   have hlo2:loB nd low i=nd.keys[i-1]'(by omega):=by unfold loB;rw[if_pos hi0,getD_some e2]
   have e3:nd.keys[i]? =some nd.keys[i]:=List.getElem?_eq_getElem hin
   have hhi2:hiB nd high i=nd.keys[i]:=by unfold hiB;rw[if_pos hin,getD_some e3]
  case' inr.inl=>
   have e2:nd.keys[i-1]? =some (nd.keys[i-1]'(by omega)):=List.getElem?_eq_getElem _
   have hlo2:loB nd low i=nd.keys[i-1]'(by omega):=by unfold loB;rw[if_pos hi0,getD_some e2]
   have e3:True:=trivial
   have hhi2:hiB nd high i=high:=if_neg hin
  case' inr.inr=>
   have e2:True:=trivial
   have hlo2:loB nd low i=low:=if_neg hi0
   have e3:nd.keys[i]? =some nd.keys[i]:=List.getElem?_eq_getElem hin
   have hhi2:hiB nd high i=nd.keys[i]:=by unfold hiB;rw[if_pos hin,getD_some e3]
  all_goals
   rw[hlo2]at hlo;rw[hhi2]at hhi
   by_cases hr:(vis kJ d f nd.kids[i] (loB nd low i) (hiB nd high i) (depth+1) w).1=0
   ·rw[hsv (by simpa using hr)]at i2
    have hr2:=hr
    rw[hlo2,hhi2]at hr2
    refine S (cj Zd (cj e1 (cj e2 (cj e3 (cj hi0 (cj hin (cj hc1 (cj h1 (cj h2 (cj hkR (cj hff hr2))))))))))) ?_
    refine hFx (i+1,(vis kJ d f nd.kids[i] (loB nd low i) (hiB nd high i) (depth+1) w).2) _ _ _ ?_ ?_ (by simp only[go_sem,push_cast,qB,qA]) ((canf (cj Yd (cj hlo2 hhi2))))
    ·show nd.kids.length-(i+1)<nd.kids.length-i
     omega
    ·exact⟨hlt,i2,(i3.trans hgw).up (by rw[Nat.succ_mul];exact Nat.le_refl _)⟩
   ·rw[hsw hr]at i2;rw[i2]
    have hr2:=hr
    rw[hlo2,hhi2]at hr2 ⊢
    exact S (cj Zd (cj e1 (cj e2 (cj e3 (cj hi0 (cj hin (cj hc1 (cj h1 (cj h2 (cj hkR (cj hff hr2))))))))))) trivial
 ·obtain rfl:i=nd.kids.length:=Nat.le_antisymm i1 hge
  rw[Nat.sub_self,visK]at i2
  rw[i2]
  refine S Zd ?_
  refine cv (by kernel_rfl) ?_
  exact S Zd trivial
theorem R166_zero:OK 166 (R166 0):=by
 rintro args H Bd K ⟨pd,id,low,high,depth,n,rfl,b,hb0,x,hx,b1,hb1,rows,hv0,cd,ed,d,gd,⟨hl0,hc0,hd0,hpre,hmeas⟩,hK⟩
 exact absurd hmeas (Nat.not_lt_zero _)
theorem R166_ok:∀N,OK 166 (R166 N)
 |0=>R166_zero
 |N+1=>R166_step N (R166_ok N)
theorem W166_ok:OK 166 W166:=by
 rintro args H Bd K ⟨pd,id,low,high,depth,n,rfl,b,hb0,x,hx,b1,hb1,rows,hv0,cd,ed,d,gd,⟨hl0,hc0,hd0,hpre⟩,hK⟩
 exact R166_ok (_+1) _ _ _ _ ⟨pd,id,low,high,depth,n,rfl,b,hb0,x,hx,b1,hb1,rows,hv0,cd,ed,d,gd,⟨hl0,hc0,hd0,hpre,Nat.lt_succ_self _⟩,hK⟩
def T166:qJ:=ToC W166
theorem T166_ok:OK 166 T166:=ToC_ok W166_ok
def V108:qJ:=fun args H Bd K=>∃(d:GDisk) (root:Int),args=[.agg (enc d).toArray, .int .i64 root]∧((sm d∧DiskOK d∧R64 root)∧K (.tuple #[.agg (enc ((jR d root).1)).toArray, .int .i64 ((jR d root).2)]) H Bd)
@[go_sem ↓] theorem V108_eq (d_sectors:List (List UInt8)) (d_pending:List GPut) (root:Int):V108 [.agg #[lst d_sectors,lst d_pending], .int .i64 root] H Bd K=((sm (GDisk.mk d_sectors d_pending)∧DiskOK (GDisk.mk d_sectors d_pending)∧R64 root)∧K (.tuple #[.agg (enc ((jR (GDisk.mk d_sectors d_pending) root).1)).toArray, .int .i64 ((jR (GDisk.mk d_sectors d_pending) root).2)]) H Bd):=ex2 (GDisk.mk d_sectors d_pending) root rfl
def W108:qJ:=fun args H Bd K=>∃(pd vroot:Value),args=[pd,vroot]∧Yld (qK H 2 pd) fun cd=>qS V108 [.agg cd.toArray,vroot] H Bd K
@[go_sem ↓] theorem W108_eq (pd vroot:Value):W108 [pd,vroot] H Bd K=(Yld (qK H 2 pd) fun cd=>qS V108 (idS [.agg cd.toArray,vroot]) H Bd K):=by
 refine propext ⟨fun h=> ?_,fun h=>⟨_,_,rfl,h⟩⟩
 obtain⟨pd',vroot',e,h⟩:=h
 simp only[List.cons.injEq,and_true]at e
 obtain⟨rfl,rfl⟩:=e
 exact h
theorem W108_ok:OK 108 W108:=by
 rintro args H Bd K ⟨pd,vroot,rfl,cd,ed,h⟩
 obtain⟨d,root,e,hpre,hK⟩:=h
 simp only[List.cons.injEq,and_true]at e
 obtain⟨Ed,rfl⟩:=e
 obtain rfl:=qZ Ed
 refine yE pok ((Env.base _).add 166 _ T166_ok) [] _ hK Tryz.func108 rfl (rs:=[.cell 4 163, .tmp 5]) rfl Tryz.ntmps108 (by simp) Tryz.call108 (by kernel_rfl) (fun ha hb=>tup_nb ⟨agg_nb _ _, .int _ _,trivial⟩) (fun hb ha=> ?_)
 have Pd:=qO ed (NB.vpok (ha pd (by simp)))
 simp only[kM]at Pd
 have Zd:=Pd.all 2 rfl
 have Yd:=jJ (ha pd (by simp))
 obtain⟨h1,h2,h3⟩:=hpre
 by_cases h0:root=0
 ·have e:jR d root=(⟨[],[],0⟩,0):=by unfold jR;rw[if_pos h0];rfl
  rw[e]
  exact R (cj Zd h0) trivial
 refine R (cj Zd h0) ?_
 refine toC (args':=[pd, .int .i64 root,lst ([]:List UInt8),lst ([]:List UInt8), .int .i64 1, .pointer (some ⟨Bd+1,0,none⟩)]) hb (by omega) 1 [.m (Bd+1) 1] rfl [(Bd,⟨[.slice none 0 0, .slice none 0 0, .int .i64 0],true⟩),(Bd+1,⟨[lst ([]:List Int), .slice (some ⟨Bd+2,0,some 2⟩) 0 1, .int .i64 0],true⟩),(Bd+2,⟨[],true⟩)] (canf Yd) ?_
 simp only[mem_cons,jK]
 have h5:(6-(1:Int)).toNat=5:=rfl
 by_cases hr:(vis kJ d 5 root [] [] 1 ⟨[],[],0⟩).1=0
 ·have e:jR d root=((vis kJ d 5 root [] [] 1 ⟨[],[],0⟩).2,0):=by unfold jR noWk;rw[if_neg h0,if_neg (by simpa using hr)]
  rw[e]
  refine R (cj Zd (cj h1 (cj h2 (cj h3 hr)))) ?_
  exact jA (by simp (disch:=first|assumption|omega) only[go_sem,push_cast,qB,qA]) (hb.fresh _ (by omega)) rfl (by first|rfl|exact(kI _).symm|simp|omega)
 ·have e:jR d root=(⟨[],[],0⟩,(vis kJ d 5 root [] [] 1 ⟨[],[],0⟩).1):=by unfold jR noWk;rw[if_neg h0,if_pos hr]
  rw[e]
  exact R (cj Zd (cj h1 (cj h2 (cj h3 hr)))) trivial
theorem L167_pure:PureV W167:=by
 rintro args H Bd K ⟨x0,x1,rfl,hpre,hK⟩
 exact⟨_,by first|exact .bool _|exact .int _ _|exact .string _|exact vc_enc _,hK,fun H' K' hs h=>⟨x0,x1,rfl,hpre,h⟩⟩
def L167:qJ:=LendA W167
@[go_sem ↓] theorem L167_eq (v0 v1:Value):L167 [v0,v1] H Bd K=qS W167 (idS [giveA H v0,giveA H v1]) H Bd K:=(rfl)
theorem L167_ok:OK 167 L167:=LendA_ok W167_ok L167_pure
def V109:qJ:=fun args H Bd K=>∃(d:GDisk) (head:Int),args=[.agg (enc d).toArray, .int .i64 head]∧((sm d∧DiskOK d∧R64 head)∧K (.tuple #[lst ((qT d head).1),lst ((qT d head).2.1), .int .i64 ((qT d head).2.2)]) H Bd)
@[go_sem ↓] theorem V109_eq (d_sectors:List (List UInt8)) (d_pending:List GPut) (head:Int):V109 [.agg #[lst d_sectors,lst d_pending], .int .i64 head] H Bd K=((sm (GDisk.mk d_sectors d_pending)∧DiskOK (GDisk.mk d_sectors d_pending)∧R64 head)∧K (.tuple #[lst ((qT (GDisk.mk d_sectors d_pending) head).1),lst ((qT (GDisk.mk d_sectors d_pending) head).2.1), .int .i64 ((qT (GDisk.mk d_sectors d_pending) head).2.2)]) H Bd):=ex2 (GDisk.mk d_sectors d_pending) head rfl
def W109:qJ:=fun args H Bd K=>∃(pd vhead:Value),args=[pd,vhead]∧Yld (qK H 2 pd) fun cd=>qS V109 [.agg cd.toArray,vhead] H Bd K
@[go_sem ↓] theorem W109_eq (pd vhead:Value):W109 [pd,vhead] H Bd K=(Yld (qK H 2 pd) fun cd=>qS V109 (idS [.agg cd.toArray,vhead]) H Bd K):=by
 refine propext ⟨fun h=> ?_,fun h=>⟨_,_,rfl,h⟩⟩
 obtain⟨pd',vhead',e,h⟩:=h
 simp only[List.cons.injEq,and_true]at e
 obtain⟨rfl,rfl⟩:=e
 exact h
set_option maxHeartbeats 2000000 in
theorem W109_ok:OK 109 W109:=by
 rintro args H Bd K ⟨pd,vhead,rfl,cd,ed,h⟩
 obtain⟨d,head,e,hpre,hK⟩:=h
 simp only[List.cons.injEq,and_true]at e
 obtain⟨Ed,rfl⟩:=e
 obtain rfl:=qZ Ed
 refine yE pok (((((Env.base _).add 105 _ W105_ok).add 167 _ L167_ok).add 169 _ W169_ok).add 168 _ W168_ok) [(11,[],[],(.k 4 (.grp false 41 45 4 [42,43,44,45] 46 none (.k 4 .nil) .nil)))] _ hK Tryz.func109 rfl (rs:=[.tmp 4, .tmp 5, .tmp 6]) rfl Tryz.ntmps109 (by simp) Tryz.call109 (by kernel_rfl) (fun ha hb=>tup_nb ⟨lst_nb _ _,lst_nb _ _, .int _ _,trivial⟩) (fun hb ha=> ?_)
 have Pd:=qO ed (NB.vpok (ha pd (by simp)))
 simp only[kM]at Pd
 have Zd:=Pd.all 2 rfl
 have Yd:=jJ (ha pd (by simp))
 refine jH pok fun cv=> ?_
 obtain⟨h1,h2,h3⟩:=hpre
 have hsl:=h2.len
 refine R Zd ?_
 refine kB (X:=List UInt8×List Int×Int) hb (by omega) 2 [.s 7, .s 8] rfl (fun x=>x.1.length≤400∧x.2.1.length≤x.1.length∧R64 x.2.2∧qT d head=chn d (401-x.2.1.length) x.2.2 x.1 x.2.1) (fun x=>401-x.2.1.length) (fun Nx x=>[(0,pd),(7, .slice (some ⟨Nx,0,some 1⟩) x.1.length (x.1.length+1)),(8, .slice (some ⟨Nx+1,0,some 1⟩) x.2.1.length (x.2.1.length+1)),(9, .int .i64 x.2.2)]) (fun Nx x=>[(Nx,⟨qQ x.1,true⟩),(Nx+1,⟨qQ x.2.1,true⟩)]) ([],[],head) (⟨Nat.zero_le _,Nat.zero_le _,h3,rfl⟩) (fun Nx hNx=>(canf Yd)) ?_
 intro Nx x hNx hIx hbx Fx hFx
 simp only[mem_cons,jK]at hbx ⊢
 refine cv (by kernel_rfl) ?_
 obtain⟨data,pages,id⟩:=x
 obtain⟨i1,i2,i3,i4⟩:=hIx
 simp only at i1 i2 i3 i4
 have hsp:sm pages:=(yR _).2 (by omega)
 obtain⟨g,hg⟩:∃g,401-pages.length=g+1:=⟨400-pages.length,by omega⟩
 rw[hg,chn]at i4
 by_cases hr:2≤id∧id≤(d.sectors.length:Int)-1
 case neg=>
  rw[if_pos hr]at i4
  rw[i4]
  exact R (cj Zd (cj h1 (cj h2 hr))) trivial
 rw[if_neg (by simpa using hr)]at i4
 obtain⟨hr1,hr2⟩:=hr
 by_cases hq:hasI pages id=true
 ·rw[if_pos hq]at i4
  rw[i4]
  exact R (cj Zd (cj h1 (cj h2 (cj hr1 (cj hr2 hq))))) trivial
 rw[if_neg hq]at i4
 have hlen:=readD_len h2 (n:=id) (by omega) (by omega)
 by_cases hc:(qV (yD d id) id).2=0
 case neg=>
  rw[if_pos hc]at i4
  rw[i4]
  exact R (cj Zd (cj h1 (cj h2 (cj hr1 (cj hr2 (cj hq hc)))))) trivial
 rw[if_neg (by simpa using hc)]at i4
 have hbl:=(pageF_ok (readPg_ok hc).1).2.2
 generalize hP:(qV (yD d id) id).1=P at*
 by_cases hk:P.kind=3
 case neg=>
  rw[if_pos (.inl hk)]at i4
  rw[i4]
  exact R (cj Zd (cj h1 (cj h2 (cj hr1 (cj hr2 (cj hq (cj hc (cj hP hk)))))))) trivial
 by_cases hl:P.body.length<2
 ·rw[if_pos (.inr hl)]at i4
  rw[i4]
  exact R (cj Zd (cj h1 (cj h2 (cj hr1 (cj hr2 (cj hq (cj hc (cj hP (cj hk hl))))))))) trivial
 rw[if_neg (by simp[hk];omega)]at i4
 have hdl:(data++P.body.drop 1).length=data.length+(P.body.length-1):=by rw[List.length_append,List.length_drop]
 have hdl2:(List.drop 1 P.body).length=P.body.length-1:=by rw[List.length_drop]
 have hok:=flat_ok (List.drop 1 P.body)
 by_cases h4:400<(data++P.body.drop 1).length
 ·rw[if_pos h4]at i4
  rw[i4]
  have h4':400<data.length+(P.body.length-1):=by omega
  exact RA (cj Zd (cj h1 (cj h2 (cj hr1 (cj hr2 (cj hq (cj hc (cj hP (cj hk (cj hl (cj hok (cj hdl2 (cj h4' ((@List.take_length UInt8))))))))))))))) trivial
 rw[if_neg h4]at i4
 have h4':¬400<data.length+(P.body.length-1):=by omega
 have e0:P.body[0]? =some (P.body[0]'(by omega)):=List.getElem?_eq_getElem _
 have b0:((P.body[0]'(by omega)).toNat:Int)≤255:=by have:=(P.body[0]'(by omega)).toNat_lt;omega
 rw[getD_some e0]at i4
 by_cases h0:(P.body[0]'(by omega)).toNat=0
 ·rw[if_pos h0]at i4
  rw[i4]
  have h0':((P.body[0]'(by omega)).toNat:Int)=0:=by omega
  refine RA (cj Zd (cj h1 (cj h2 (cj hr1 (cj hr2 (cj hq (cj hc (cj hP (cj hk (cj hl (cj hok (cj hdl2 (cj h4' (cj e0 (cj h0 (cj h0' ((@List.take_length UInt8)))))))))))))))))) ?_
  refine⟨?_,?_⟩ <;>exact jA (by simp (disch:=first|assumption|omega) only[go_sem,push_cast,qB,qA,qL,qU,jS,jI,jD,jX,jL,List.append_assoc]) (hb.fresh _ (by omega)) rfl (by simp <;>omega)
 rw[if_neg h0]at i4
 have h0':¬((P.body[0]'(by omega)).toNat:Int)=0:=by omega
 refine RA (cj Zd (cj h1 (cj h2 (cj hr1 (cj hr2 (cj hq (cj hc (cj hP (cj hk (cj hl (cj hok (cj hdl2 (cj h4' (cj e0 (cj h0 (cj h0' ((@List.take_length UInt8)))))))))))))))))) ?_
 refine hFx (data++P.body.drop 1,pages++[id],((P.body[0]'(by omega)).toNat:Int)) _ _ _ ?_ ?_ (by simp only[go_sem,push_cast,qB,qA]) ((canf (cj Yd hdl2)))
 ·show 401-(pages++[id]).length<401-pages.length
  rw[List.length_append];simp only[List.length_cons,List.length_nil];omega
 ·refine⟨show(data++P.body.drop 1).length≤400 by omega,?_,show R64 ((P.body[0]'(by omega)).toNat:Int)from⟨by omega,by omega⟩,?_⟩
  ·show(pages++[id]).length≤(data++P.body.drop 1).length
   rw[List.length_append,hdl];simp only[List.length_cons,List.length_nil];omega
  ·show _=chn d (401-(pages++[id]).length) _ _ _
   rw[i4,List.length_append,show 401-(pages.length+[id].length)=g by simp only[List.length_cons,List.length_nil];omega]
def W110b:qJ:=fun args H Bd K=>∃(l:List Int) (more:List Int),args=[lst l,lst more]∧((l.length≤100000∧more.length≤100000)∧K (.tuple #[lst ((addL l more).1), .bool ((addL l more).2)]) H Bd)
@[go_sem ↓] theorem W110b_eq (l:List Int) (more:List Int) (H:AH) (Bd:Nat) (K:Value→AH→Nat→Prop):W110b [lst l,lst more] H Bd K=((l.length≤100000∧more.length≤100000)∧K (.tuple #[lst ((addL l more).1), .bool ((addL l more).2)]) H Bd):=ex2 l more rfl
set_option maxHeartbeats 2000000 in
theorem W110b_ok:OK 110 W110b:=by
 rintro args H Bd K ⟨l,more,rfl,hpre,hK⟩
 refine yE pok (((Env.base _).add 167 _ W167_ok).add 170 _ W170_ok) [] _ hK Tryz.func110 rfl (rs:=[.tmp 4, .tmp 5]) rfl Tryz.ntmps110 (by simp) Tryz.call110 (by kernel_rfl) (fun ha hb=>tup_nb ⟨lst_nb _ _, .bool _,trivial⟩) (fun hb ha=> ?_)
 refine jH pok fun cv=> ?_
 obtain⟨h1,h2⟩:=hpre
 refine R0 ?_
 refine jB (fun i=>True) (more.length) (fun i=>[(0,lst (addS l more i).1),(1,lst more),(6, .bool (addS l more i).2),(7, .int .i64 i)]) (trivial) (by simp only[go_sem,push_cast,qB,qA,addS]) ?_
 intro i Bi hIi hii hBi
 refine cv (by kernel_rfl) ?_
 rcases Nat.lt_or_ge i (more.length)with hlti|hgei
 ·have e1:more[i]? =some more[i]:=List.getElem?_eq_getElem hlti
  have g1:more.getD i 0=more[i]:=by rw[List.getD_eq_getElem?_getD,e1];rfl
  have hl:=addS_len l more i
  have hsm:sm (addS l more i).1:=(yR _).2 (by omega)
  have hle:(addS l more i).1.length≤1000000:=by omega
  have hs1:(addS l more (i+1)).1=kJ (addS l more i).1 more[i]:=by show kJ _ _=_;rw[g1]
  by_cases hq:hasI (addS l more i).1 more[i]=true
  ·have hs2:(addS l more (i+1)).2=false:=by show(if _ then false else _)=_;rw[g1,if_pos hq]
   exact R (cj e1 (cj hsm (cj hle (cj hq (cj hs1 hs2))))) trivial
  ·have hs2:(addS l more (i+1)).2=(addS l more i).2:=by show(if _ then false else _)=_;rw[g1,if_neg hq]
   exact R (cj e1 (cj hsm (cj hle (cj hq (cj hs1 hs2))))) trivial
 ·obtain rfl:i=more.length:=by omega
  have e:addL l more=addS l more more.length:=rfl
  refine R0 ?_
  refine cv (by kernel_rfl) ?_
  exact R e trivial
def W110:qJ:=GiveT 1 W110b
@[go_sem ↓] theorem W110_eq (v0 v1:Value):W110 [v0,v1] H Bd K=qS W110b (idS [v0,giveV H v1]) (giveH H v1) Bd K:=(rfl)
theorem W110_ok:OK 110 W110:=GiveT_ok 1 W110b_ok
def V51:qJ:=fun args H Bd K=>∃(d:GDisk) (p:GSuper),args=[.agg (enc d).toArray, .agg (enc p).toArray]∧((sm d∧DiskOK d∧SuperOK p)∧K (.tuple #[lst ((vO d p).list), .int .i64 ((vO d p).code)]) H Bd)
@[go_sem ↓] theorem V51_eq (d_sectors:List (List UInt8)) (d_pending:List GPut) (p_gen:Int) (p_root:Int) (p_shadow:Int) (p_theory:Int) (p_next:Int) (p_version:Int) (p_moving:Bool) (p_cursor:List UInt8) (p_symbols_symbols:List GSymbol):V51 [.agg #[lst d_sectors,lst d_pending], .agg #[.int .i64 p_gen, .int .i64 p_root, .int .i64 p_shadow, .int .i64 p_theory, .int .i64 p_next, .int .i64 p_version, .bool p_moving,lst p_cursor,lst p_symbols_symbols]] H Bd K=((sm (GDisk.mk d_sectors d_pending)∧DiskOK (GDisk.mk d_sectors d_pending)∧SuperOK (GSuper.mk p_gen p_root p_shadow p_theory p_next p_version p_moving p_cursor (GSignature.mk p_symbols_symbols)))∧K (.tuple #[lst ((vO (GDisk.mk d_sectors d_pending) (GSuper.mk p_gen p_root p_shadow p_theory p_next p_version p_moving p_cursor (GSignature.mk p_symbols_symbols))).list), .int .i64 ((vO (GDisk.mk d_sectors d_pending) (GSuper.mk p_gen p_root p_shadow p_theory p_next p_version p_moving p_cursor (GSignature.mk p_symbols_symbols))).code)]) H Bd):=ex2 (GDisk.mk d_sectors d_pending) (GSuper.mk p_gen p_root p_shadow p_theory p_next p_version p_moving p_cursor (GSignature.mk p_symbols_symbols)) rfl
def W51:qJ:=fun args H Bd K=>∃(pd pp:Value),args=[pd,pp]∧Yld (qK H 2 pd) fun cd=>Yld (qK H 9 pp) fun cp=>qS V51 [.agg cd.toArray, .agg cp.toArray] H Bd K
@[go_sem ↓] theorem W51_eq (pd pp:Value):W51 [pd,pp] H Bd K=(Yld (qK H 2 pd) fun cd=>Yld (qK H 9 pp) fun cp=>qS V51 (idS [.agg cd.toArray, .agg cp.toArray]) H Bd K):=by
 refine propext ⟨fun h=> ?_,fun h=>⟨_,_,rfl,h⟩⟩
 obtain⟨pd',pp',e,h⟩:=h
 simp only[List.cons.injEq,and_true]at e
 obtain⟨rfl,rfl⟩:=e
 exact h
set_option maxHeartbeats 2000000 in
theorem W51_ok:OK 51 W51:=by
 rintro args H Bd K ⟨pd,pp,rfl,cd,ed,cp,ep,h⟩
 obtain⟨d,p,e,hpre,hK⟩:=h
 simp only[List.cons.injEq,and_true]at e
 obtain⟨Ed,Ep⟩:=e
 obtain rfl:=qZ Ed
 obtain rfl:=qZ Ep
 refine yE pok ((((Env.base _).add 108 _ W108_ok).add 109 _ W109_ok).add 110 _ W110_ok) [(18,[],[],(.k 3 (.grp false 94 96 2 [95,96] 97 none (.k 2 .nil) (.k 1 (.grp false 98 100 2 [99,100] 101 none (.k 2 .nil) .nil)))))] _ hK Tryz.func51 rfl (rs:=[.tmp 4, .tmp 5]) rfl Tryz.ntmps51 (by simp) Tryz.call51 (by kernel_rfl) (fun ha hb=>tup_nb ⟨lst_nb _ _, .int _ _,trivial⟩) (fun hb ha=> ?_)
 have Pd:=qO ed (NB.vpok (ha pd (by simp)))
 simp only[kM]at Pd
 have Zd:=Pd.all 2 rfl
 have Yd:=jJ (ha pd (by simp))
 have Pp:=qO ep (NB.vpok (ha pp (by simp)))
 simp only[kM,qP,enc_GSuper]at Pp
 have Zp:=Pp.all 9 rfl
 have Yp:=jJ (ha pp (by simp))
 obtain⟨h1,h2,hS⟩:=hpre
 have hk:=kept_two d p
 have k1:(vO d p).list=(keptS d p).1:=by rw[hk]
 have k2:(vO d p).code=(keptS d p).2:=by rw[hk]
 rw[k1,k2]
 have hsp:=hS.root
 have hsh:=hS.shadow
 have hsn:=hS.next_
 have hst:=hS.theory
 have rr:R64 p.root:=⟨by omega,by omega⟩
 have rs:R64 p.shadow:=⟨by omega,by omega⟩
 have rn:R64 p.next_:=⟨by omega,by omega⟩
 have rt:R64 p.theory:=⟨by omega,by omega⟩
 by_cases c1:(jR d p.root).2=0
 case neg=>
  have e:keptS d p=([],(jR d p.root).2):=by unfold keptS;rw[if_pos c1]
  rw[e]
  exact R (cj Zd (cj Zp (cj h1 (cj h2 (cj rr (cj rs (cj rt (cj rn c1)))))))) trivial
 by_cases c2:(jR d p.shadow).2=0
 case neg=>
  have e:keptS d p=([],(jR d p.shadow).2):=by unfold keptS;rw[if_neg (by simpa using c1),if_pos c2]
  rw[e]
  exact R (cj Zd (cj Zp (cj h1 (cj h2 (cj rr (cj rs (cj rt (cj rn (cj c1 c2))))))))) trivial
 by_cases c3:(qT d p.theory).2.2=0
 case neg=>
  have e:keptS d p=([],(qT d p.theory).2.2):=by unfold keptS;rw[if_neg (by simpa using c1),if_neg (by simpa using c2),if_pos c3]
  rw[e]
  exact R (cj Zd (cj Zp (cj h1 (cj h2 (cj rr (cj rs (cj rt (cj rn (cj c1 (cj c2 c3)))))))))) trivial
 have l1:=treeS_len d p.root
 have l2:=treeS_len d p.shadow
 have l3:=chainD_len d p.theory
 have l4:=chainD_len d p.next_
 have l5:=addL_len (jR d p.root).1.pages (jR d p.shadow).1.pages
 have l6:=addL_len (addL (jR d p.root).1.pages (jR d p.shadow).1.pages).1 (qT d p.theory).2.1
 have l7:(keptN d p).length≤401:=by unfold keptN;split;exact Nat.zero_le _;exact chainD_len _ _
 have fin:(p.next_≠0→(qT d p.next_).2.2=0)→keptS d p=if(addL (jR d p.root).1.pages (jR d p.shadow).1.pages).2=true∧(addL (addL (jR d p.root).1.pages (jR d p.shadow).1.pages).1 (qT d p.theory).2.1).2=true∧
  (addL (addL (addL (jR d p.root).1.pages (jR d p.shadow).1.pages).1 (qT d p.theory).2.1).1 (keptN d p)).2=true then
  ((addL (addL (addL (jR d p.root).1.pages (jR d p.shadow).1.pages).1 (qT d p.theory).2.1).1 (keptN d p)).1,0)else([],6):=fun h=>by
  unfold keptS
  rw[if_neg (by simpa using c1),if_neg (by simpa using c2),if_neg (by simpa using c3),if_neg (fun q=>q.2 (h q.1))]
 generalize hA:addL (jR d p.root).1.pages (jR d p.shadow).1.pages=A at*
 generalize hB:addL A.1 (qT d p.theory).2.1=B at*
 by_cases c4:p.next_=0
 case' pos=>
  have hN:keptN d p=[]:=if_pos c4
  have f:=fin fun h=>absurd c4 h
  have c5:True:=trivial
 case' neg=>
  by_cases c5:(qT d p.next_).2.2=0
  case neg=>
   have e:keptS d p=([],(qT d p.next_).2.2):=by unfold keptS;rw[if_neg (by simpa using c1),if_neg (by simpa using c2),if_neg (by simpa using c3),if_pos ⟨c4,c5⟩]
   rw[e]
   exact R (cj Zd (cj Zp (cj h1 (cj h2 (cj rr (cj rs (cj rt (cj rn (cj c1 (cj c2 (cj c3 (cj c4 c5)))))))))))) trivial
  have hN:keptN d p=(qT d p.next_).2.1:=if_neg c4
  have f:=fin fun _=>c5
 all_goals
  rw[hN]at f l7
  clear fin
  generalize hC:addL B.1 _=C at*
  have l8:=addL_len A.1 (qT d p.theory).2.1
  rw[hB]at l8
  rw[f]
  by_cases a1:A.2=true
  ·by_cases a2:B.2=true
   ·by_cases a3:C.2=true
    ·rw[if_pos ⟨a1,a2,a3⟩]
     simp (maxSteps:=2000000) (disch:=first|assumption|(refine qI ?_;assumption)|exact Nat.le_add_right _ _|exact Nat.le_refl _|omega|(simp (disch:=first|exact Nat.le_add_right _ _|omega) only[qG hb,qR hb,qM,qE hb,qC];done)|fail) only[go_sem,push_cast,qB,qA,qG hb,qE hb,Zd,Zp,h1,h2,rr,rs,rt,rn,c1,c2,c3,c4,c5,giveR_nilI,hA,hB,hC,a1,a2,a3]
    ·rw[if_neg fun h=>a3 h.2.2]
     simp (maxSteps:=2000000) (disch:=first|assumption|(refine qI ?_;assumption)|exact Nat.le_add_right _ _|exact Nat.le_refl _|omega|(simp (disch:=first|exact Nat.le_add_right _ _|omega) only[qG hb,qR hb,qM,qE hb,qC];done)|fail) only[go_sem,push_cast,qB,qA,qG hb,qE hb,Zd,Zp,h1,h2,rr,rs,rt,rn,c1,c2,c3,c4,c5,giveR_nilI,hA,hB,hC,a1,a2,a3]
   ·rw[if_neg fun h=>a2 h.2.1]
    simp (maxSteps:=2000000) (disch:=first|assumption|(refine qI ?_;assumption)|exact Nat.le_add_right _ _|exact Nat.le_refl _|omega|(simp (disch:=first|exact Nat.le_add_right _ _|omega) only[qG hb,qR hb,qM,qE hb,qC];done)|fail) only[go_sem,push_cast,qB,qA,qG hb,qE hb,Zd,Zp,h1,h2,rr,rs,rt,rn,c1,c2,c3,c4,c5,giveR_nilI,hA,hB,hC,a1,a2]
  ·rw[if_neg fun h=>a1 h.1]
   simp (maxSteps:=2000000) (disch:=first|assumption|(refine qI ?_;assumption)|exact Nat.le_add_right _ _|exact Nat.le_refl _|omega|(simp (disch:=first|exact Nat.le_add_right _ _|omega) only[qG hb,qR hb,qM,qE hb,qC];done)|fail) only[go_sem,push_cast,qB,qA,qG hb,qE hb,Zd,Zp,h1,h2,rr,rs,rt,rn,c1,c2,c3,c4,c5,giveR_nilI,hA,hB,hC,a1]
def V304:qJ:=fun args H Bd K=>∃(s:GSignature) (n:Int),args=[.agg (enc s).toArray, .int .i64 n]∧((sm s∧R64 n)∧K (.bool (isSym s n)) H Bd)
@[go_sem ↓] theorem V304_eq (s_symbols:List GSymbol) (n:Int):V304 [.agg #[lst s_symbols], .int .i64 n] H Bd K=((sm (GSignature.mk s_symbols)∧R64 n)∧K (.bool (isSym (GSignature.mk s_symbols) n)) H Bd):=ex2 (GSignature.mk s_symbols) n rfl
def W304:qJ:=fun args H Bd K=>∃(ps vn:Value),args=[ps,vn]∧Yld (qK H 1 ps) fun cs=>qS V304 [.agg cs.toArray,vn] H Bd K
@[go_sem ↓] theorem W304_eq (ps vn:Value):W304 [ps,vn] H Bd K=(Yld (qK H 1 ps) fun cs=>qS V304 (idS [.agg cs.toArray,vn]) H Bd K):=by
 refine propext ⟨fun h=> ?_,fun h=>⟨_,_,rfl,h⟩⟩
 obtain⟨ps',vn',e,h⟩:=h
 simp only[List.cons.injEq,and_true]at e
 obtain⟨rfl,rfl⟩:=e
 exact h
theorem W304_ok:OK 304 W304:=by
 rintro args H Bd K ⟨ps,vn,rfl,cs,es,h⟩
 obtain⟨s,n,e,hpre,hK⟩:=h
 simp only[List.cons.injEq,and_true]at e
 obtain⟨Es,rfl⟩:=e
 obtain rfl:=qZ Es
 refine fnp pok ((Env.base _).add 105 _ W105_ok) [] hK Tryz.func304 Tryz.ntmps304 Tryz.call304 [.tmp 4] fun hb ha=> ?_
 have Ps:=qO es (NB.vpok (ha ps (by simp)))
 simp only[qP]at Ps
 have Zs:=Ps.all 1 rfl
 have Ys:=jJ (ha ps (by simp))
 obtain⟨h1,h2⟩:=hpre
 simp only[yL]at h1
 have hlen:=qY h1
 refine R Zs ?_
 unfold isSym
 all_goals first|done|trivial|((try simp only[Cnp,Imp]);grind)
def V257:qJ:=fun args H Bd K=>∃(s:GSignature) (n:Int),args=[.agg (enc s).toArray, .int .i64 n]∧((sm s∧R64 n)∧K (.bool (kF s n)) H Bd)
@[go_sem ↓] theorem V257_eq (s_symbols:List GSymbol) (n:Int):V257 [.agg #[lst s_symbols], .int .i64 n] H Bd K=((sm (GSignature.mk s_symbols)∧R64 n)∧K (.bool (kF (GSignature.mk s_symbols) n)) H Bd):=ex2 (GSignature.mk s_symbols) n rfl
def W257:qJ:=fun args H Bd K=>∃(ps vn:Value),args=[ps,vn]∧Yld (qK H 1 ps) fun cs=>qS V257 [.agg cs.toArray,vn] H Bd K
@[go_sem ↓] theorem W257_eq (ps vn:Value):W257 [ps,vn] H Bd K=(Yld (qK H 1 ps) fun cs=>qS V257 (idS [.agg cs.toArray,vn]) H Bd K):=by
 refine propext ⟨fun h=> ?_,fun h=>⟨_,_,rfl,h⟩⟩
 obtain⟨ps',vn',e,h⟩:=h
 simp only[List.cons.injEq,and_true]at e
 obtain⟨rfl,rfl⟩:=e
 exact h
theorem W257_ok:OK 257 W257:=by
 rintro args H Bd K ⟨ps,vn,rfl,cs,es,h⟩
 obtain⟨s,n,e,hpre,hK⟩:=h
 simp only[List.cons.injEq,and_true]at e
 obtain⟨Es,rfl⟩:=e
 obtain rfl:=qZ Es
 refine fnp pok (((Env.base _).add 304 _ W304_ok).add 105 _ W105_ok) [(1,[],[],(.k 4 (.grp false 8 10 2 [9,10] 11 none (.k 2 .nil) (.k 1 .nil))))] hK Tryz.func257 Tryz.ntmps257 Tryz.call257 [.tmp 4] fun hb ha=> ?_
 have Ps:=qO es (NB.vpok (ha ps (by simp)))
 simp only[qP]at Ps
 have Zs:=Ps.all 1 rfl
 have Ys:=jJ (ha ps (by simp))
 obtain⟨h1,h2⟩:=hpre
 refine R (cj Zs (cj h1 h2)) ?_
 simp[kF]
def V294:qJ:=fun args H Bd K=>∃(s:GSignature) (b:UInt8),args=[.agg (enc s).toArray, .int .u8 ((b).toNat:Int)]∧((sm s)∧K (.tuple #[.int .i64 (nodeB b), .bool (okB s b)]) H Bd)
@[go_sem ↓] theorem V294_eq (s_symbols:List GSymbol) (b:UInt8):V294 [.agg #[lst s_symbols], .int .u8 ((b).toNat:Int)] H Bd K=((sm (GSignature.mk s_symbols))∧K (.tuple #[.int .i64 (nodeB b), .bool (okB (GSignature.mk s_symbols) b)]) H Bd):=ex2 (GSignature.mk s_symbols) b rfl
def W294:qJ:=fun args H Bd K=>∃(ps vb:Value),args=[ps,vb]∧Yld (qK H 1 ps) fun cs=>qS V294 [.agg cs.toArray,vb] H Bd K
@[go_sem ↓] theorem W294_eq (ps vb:Value):W294 [ps,vb] H Bd K=(Yld (qK H 1 ps) fun cs=>qS V294 (idS [.agg cs.toArray,vb]) H Bd K):=by
 refine propext ⟨fun h=> ?_,fun h=>⟨_,_,rfl,h⟩⟩
 obtain⟨ps',vb',e,h⟩:=h
 simp only[List.cons.injEq,and_true]at e
 obtain⟨rfl,rfl⟩:=e
 exact h
theorem W294_ok:OK 294 W294:=by
 rintro args H Bd K ⟨ps,vb,rfl,cs,es,h⟩
 obtain⟨s,b,e,hpre,hK⟩:=h
 simp only[List.cons.injEq,and_true]at e
 obtain⟨Es,rfl⟩:=e
 obtain rfl:=qZ Es
 refine yE pok (((Env.base _).add 304 _ W304_ok).add 257 _ W257_ok) [] _ hK Tryz.func294 rfl (rs:=[.tmp 4, .tmp 5]) rfl Tryz.ntmps294 (by simp) Tryz.call294 (by kernel_rfl) (fun ha hb=>tup_nb ⟨.int _ _, .bool _,trivial⟩) (fun hb ha=> ?_)
 have Ps:=qO es (NB.vpok (ha ps (by simp)))
 simp only[qP]at Ps
 have Zs:=Ps.all 1 rfl
 have Ys:=jJ (ha ps (by simp))
 have hbt:=b.toNat_lt
 by_cases h:b.toNat<32
 ·have e1:nodeB b=(b.toNat:Int)-1:=if_pos h
  have e2:okB s b=isSym s ((b.toNat:Int)-1):=if_pos h
  have h':(b.toNat:Int)<32:=by omega
  rw[e1,e2]
  refine R (cj Zs (cj hpre h')) ?_
  exact⟨by omega,by omega⟩
 ·have e1:nodeB b=31-(b.toNat:Int):=if_neg h
  have e2:okB s b=kF s (31-(b.toNat:Int)):=if_neg h
  have h':¬(b.toNat:Int)<32:=by omega
  rw[e1,e2]
  refine R (cj Zs (cj hpre h')) ?_
  exact⟨by omega,by omega⟩
def V258:qJ:=fun args H Bd K=>∃(s:GSignature) (t:List Int) (a:Int),args=[.agg (enc s).toArray,lst t, .int .i64 a]∧((sm s∧sm t∧yK s=0∧nodes s t∧0≤a∧a≤t.length)∧K (.int .i64 (ep s t 1 a.toNat)) H Bd)
@[go_sem ↓] theorem V258_eq (s_symbols:List GSymbol) (t:List Int) (a:Int):V258 [.agg #[lst s_symbols],lst t, .int .i64 a] H Bd K=((sm (GSignature.mk s_symbols)∧sm t∧yK (GSignature.mk s_symbols)=0∧nodes (GSignature.mk s_symbols) t∧0≤a∧a≤t.length)∧K (.int .i64 (ep (GSignature.mk s_symbols) t 1 a.toNat)) H Bd):=ex3 (GSignature.mk s_symbols) t a rfl
def W258:qJ:=fun args H Bd K=>∃(ps vt va:Value),args=[ps,vt,va]∧Yld (qK H 1 ps) fun cs=>qS V258 [.agg cs.toArray,vt,va] H Bd K
@[go_sem ↓] theorem W258_eq (ps vt va:Value):W258 [ps,vt,va] H Bd K=(Yld (qK H 1 ps) fun cs=>qS V258 (idS [.agg cs.toArray,vt,va]) H Bd K):=by
 refine propext ⟨fun h=> ?_,fun h=>⟨_,_,_,rfl,h⟩⟩
 obtain⟨ps',vt',va',e,h⟩:=h
 simp only[List.cons.injEq,and_true]at e
 obtain⟨rfl,rfl,rfl⟩:=e
 exact h
def Q258(N:Nat):qJ:=fun args H Bd K=>∃(s:GSignature) (t:List Int) (a:Int),args=[.agg (enc s).toArray,lst t, .int .i64 a]∧(((sm s∧sm t∧yK s=0∧nodes s t∧0≤a∧a≤t.length)∧(t.length+1-a.toNat)<N)∧K (.int .i64 (ep s t 1 a.toNat)) H Bd)
@[go_sem ↓] theorem Q258_eq (N:Nat) (s_symbols:List GSymbol) (t:List Int) (a:Int):Q258 N [.agg #[lst s_symbols],lst t, .int .i64 a] H Bd K=(((sm (GSignature.mk s_symbols)∧sm t∧yK (GSignature.mk s_symbols)=0∧nodes (GSignature.mk s_symbols) t∧0≤a∧a≤t.length)∧(t.length+1-a.toNat)<N)∧K (.int .i64 (ep (GSignature.mk s_symbols) t 1 a.toNat)) H Bd):=ex3 (GSignature.mk s_symbols) t a rfl
def R258(N:Nat):qJ:=fun args H Bd K=>∃(ps vt va:Value),args=[ps,vt,va]∧Yld (qK H 1 ps) fun cs=>qS (Q258 N) [.agg cs.toArray,vt,va] H Bd K
@[go_sem ↓] theorem R258_eq (N:Nat) (ps vt va:Value):R258 N [ps,vt,va] H Bd K=(Yld (qK H 1 ps) fun cs=>qS (Q258 N) (idS [.agg cs.toArray,vt,va]) H Bd K):=by
 refine propext ⟨fun h=> ?_,fun h=>⟨_,_,_,rfl,h⟩⟩
 obtain⟨ps',vt',va',e,h⟩:=h
 simp only[List.cons.injEq,and_true]at e
 obtain⟨rfl,rfl,rfl⟩:=e
 exact h
set_option maxHeartbeats 2000000 in
theorem R258_step(N:Nat)(ih:OK 258 (R258 N)):OK 258 (R258 (N+1)):=by
 rintro args H Bd K ⟨ps,vt,va,rfl,cs,es,h⟩
 obtain⟨s,t,a,e,hpre,hK⟩:=h
 simp only[List.cons.injEq,and_true]at e
 obtain⟨Es,rfl,rfl⟩:=e
 obtain rfl:=qZ Es
 refine fnp pok ((Env.base _).add 258 _ ih) [(7,[0,1,2,3,4,5,6,7,8,9,10,11,12],[⟨0,[],[]⟩,⟨1,[],[]⟩,⟨2,[],[]⟩,⟨3,[],[]⟩,⟨4,[],[]⟩,⟨5,[],[]⟩,⟨6,[],[]⟩,⟨7,[],[]⟩,⟨8,[],[]⟩,⟨9,[],[]⟩,⟨10,[],[]⟩,⟨11,[],[]⟩,⟨12,[],[]⟩], .nil)] hK Tryz.func258 Tryz.ntmps258 Tryz.call258 [.tmp 6] fun hb ha=> ?_
 have Ps:=qO es (NB.vpok (ha ps (by simp)))
 simp only[qP]at Ps
 have Zs:=Ps.all 1 rfl
 have Ys:=jJ (ha ps (by simp))
 refine jH pok fun cv=> ?_
 obtain⟨⟨h1,h2,h3,h4,h5,h6⟩,hrec⟩:=hpre
 have hss:sm s:=h1
 simp only[yL]at h1
 have hlen:=qY h1
 have hs:=yW h3
 have hlt2:=qY h2
 obtain⟨a,rfl⟩:=Int.eq_ofNat_of_zero_le h5
 simp only[Int.toNat_natCast]at hrec
 by_cases hlt:a<t.length
 ·have e1:t[a]? =some t[a]:=List.getElem?_eq_getElem hlt
  have hn:=h4 _ (List.getElem_mem hlt)
  by_cases hx:t[a]<0
  ·have e5:ep s t 1 a=a+1:=by rw[ep_node 0 e1,arN_neg hx,ep_zero (by omega)];omega
   exact R (cj Zs (cj e1 (cj hx e5))) trivial
  ·have e4:t[a].toNat<s.symbols.length:=by omega
   have e2:s.symbols[t[a].toNat]? =some s.symbols[t[a].toNat]:=List.getElem?_eq_getElem e4
   have ha:=hs.nm _ (List.getElem_mem e4)
   have e5:ep s t 1 a=ep s t (s.symbols[t[a].toNat].arity.toNat) (a+1):=by rw[ep_node 0 e1,arN_sym (by omega) e2,Nat.zero_add]
   refine R (cj Zs (cj e1 hx)) ?_
   refine jB (fun i=>0≤ep s t i (a+1)) (s.symbols[t[a].toNat].arity.toNat) (fun i=>[(0,ps),(1,lst t),(2, .int .i64 a),(7, .int .i64 (ep s t i (a+1))),(8, .int .i64 i)]) ((by rw[ep_zero (by omega)];omega)) (by simp only[go_sem,push_cast,qB,qA,ep_zero (show a+1≤t.length by omega)]) ?_
   intro i Bi hIi hii hBi
   refine cv (by kernel_rfl) ?_
   rcases Nat.lt_or_ge i (s.symbols[t[a].toNat].arity.toNat)with hlti|hgei
   ·rcases ep_cases (s:=s) (t:=t) i (show a+1≤t.length by omega)with⟨q1,_⟩|⟨m,q1,q2,q3,_⟩
    ·omega
    have hst:ep s t (i+1) (a+1)=ep s t 1 (a+1+m):=by rw[ep_add i 1 (show a+1≤t.length by omega),q3,if_neg (by omega),Int.toNat_natCast]
    have hc:(i:Int)<s.symbols[t[a].toNat].arity:=by omega
    have hcv:((a:Int)+1+m).toNat=a+1+m:=by omega
    refine R (cj Zs (cj e1 (cj e2 (cj hx (cj hc (cj q3 (cj hss (cj h2 (cj h3 h4))))))))) ?_
    rw[hcv,←hst]
    refine⟨fun h=> ?_,fun h=>⟨by omega,rfl⟩⟩
    rw[e5,show s.symbols[t[a].toNat].arity.toNat=(i+1)+(s.symbols[t[a].toNat].arity.toNat-(i+1)) by omega,ep_add (i+1) _ (show a+1≤t.length by omega),if_pos h]
   ·have hc:¬(i:Int)<s.symbols[t[a].toNat].arity:=by omega
    refine R (cj Zs (cj e1 (cj e2 (cj hx hc)))) ?_
    refine cv (by kernel_rfl) ?_
    refine R Zs ?_
    rw[e5,show i=s.symbols[t[a].toNat].arity.toNat by omega]
 ·have e5:ep s t 1 a= -1:=ep_out 0 (by omega)
  exact R (cj Zs (cj hlt e5)) trivial
theorem R258_zero:OK 258 (R258 0):=by
 rintro args H Bd K ⟨ps,vt,va,rfl,cs,es,h⟩
 obtain⟨s,t,a,e,hpre,hK⟩:=h
 exact absurd hpre.2 (Nat.not_lt_zero _)
theorem R258_ok:∀N,OK 258 (R258 N)
 |0=>R258_zero
 |N+1=>R258_step N (R258_ok N)
theorem W258_ok:OK 258 W258:=by
 rintro args H Bd K ⟨ps,vt,va,rfl,cs,es,h⟩
 obtain⟨s,t,a,e,hpre,hK⟩:=h
 exact R258_ok ((t.length+1-a.toNat)+1) _ _ _ _ ⟨ps,vt,va,rfl,cs,es,s,t,a,e,⟨hpre,Nat.lt_succ_self _⟩,hK⟩
def V191:qJ:=fun args H Bd K=>∃(s:GSignature) (t:List Int),args=[.agg (enc s).toArray,lst t]∧((sm s∧sm t∧rg t∧yK s=0)∧K (.int .i64 (zA s t)) H Bd)
@[go_sem ↓] theorem V191_eq (s_symbols:List GSymbol) (t:List Int):V191 [.agg #[lst s_symbols],lst t] H Bd K=((sm (GSignature.mk s_symbols)∧sm t∧rg t∧yK (GSignature.mk s_symbols)=0)∧K (.int .i64 (zA (GSignature.mk s_symbols) t)) H Bd):=ex2 (GSignature.mk s_symbols) t rfl
def W191:qJ:=fun args H Bd K=>∃(ps vt:Value),args=[ps,vt]∧Yld (qK H 1 ps) fun cs=>qS V191 [.agg cs.toArray,vt] H Bd K
@[go_sem ↓] theorem W191_eq (ps vt:Value):W191 [ps,vt] H Bd K=(Yld (qK H 1 ps) fun cs=>qS V191 (idS [.agg cs.toArray,vt]) H Bd K):=by
 refine propext ⟨fun h=> ?_,fun h=>⟨_,_,rfl,h⟩⟩
 obtain⟨ps',vt',e,h⟩:=h
 simp only[List.cons.injEq,and_true]at e
 obtain⟨rfl,rfl⟩:=e
 exact h
set_option maxHeartbeats 2000000 in
theorem W191_ok:OK 191 W191:=by
 rintro args H Bd K ⟨ps,vt,rfl,cs,es,h⟩
 obtain⟨s,t,e,hpre,hK⟩:=h
 simp only[List.cons.injEq,and_true]at e
 obtain⟨Es,rfl⟩:=e
 obtain rfl:=qZ Es
 refine fnp pok (((Env.base _).add 257 _ W257_ok).add 258 _ W258_ok) [(1,[],[],(.k 4 (.grp false 9 12 3 [10,11,12] 13 none (.k 3 .nil) .nil)))] hK Tryz.func191 Tryz.ntmps191 Tryz.call191 [.tmp 4] fun hb ha=> ?_
 have Ps:=qO es (NB.vpok (ha ps (by simp)))
 simp only[qP]at Ps
 have Zs:=Ps.all 1 rfl
 have Ys:=jJ (ha ps (by simp))
 refine jH pok fun cv=> ?_
 obtain⟨h1,h2,h3,h4⟩:=hpre
 have hss:sm s:=h1
 have hlt2:=qY h2
 refine R (cj Zs h2) ?_
 refine⟨fun hq=>by unfold zA;rw[if_pos (by omega)],fun hq1 hq2=> ?_⟩
 have hs:zA s t=if t.any (fun n=> !kF s n)=true then 3 else if ep s t 1 0=t.length then 0 else 1:=by unfold zA;rw[if_neg (by omega)]
 rw[hs]
 refine jB (fun i=>∀j,j<i→∀x,t[j]? =some x→kF s x=true) (t.length) (fun i=>[(0,ps),(1,lst t),(5, .int .i64 i)]) (by simp) (by simp only[go_sem,push_cast,qB,qA]) ?_
 intro i Bi hIi hii hBi
 refine cv (by kernel_rfl) ?_
 rcases Nat.lt_or_ge i (t.length)with hlti|hgei
 ·have e1:t[i]? =some t[i]:=List.getElem?_eq_getElem hlti
  have h5:=h3 _ (List.getElem_mem hlti)
  refine R (cj Zs (cj e1 (cj hss h5))) ?_
  refine⟨h5,fun h j hj x hx=> ?_,fun h=> ?_⟩
  ·by_cases e:j=i
   ·subst e;rw[e1]at hx;cases hx;exact h
   ·exact hIi j (by omega) x hx
  ·rw[if_pos (any_hit hlti (by simpa using h))]
 ·refine R Zs ?_
  refine cv (by kernel_rfl) ?_
  have hany:t.any (fun n=> !kF s n)=false:=vG fun j hj x hx=>by rw[hIi j (by omega) x hx];rfl
  have hnd:=nodes_any hany
  refine R (cj Zs (cj hss (cj h2 (cj h4 (cj hnd hany))))) ?_
  refine⟨fun h=> ?_,fun h=> ?_⟩
  ·rw[if_pos h]
  ·rw[if_neg h]
theorem L191_pure:PureV V191:=by
 rintro args H Bd K ⟨x0,x1,rfl,hpre,hK⟩
 exact⟨_,by first|exact .bool _|exact .int _ _|exact .string _|exact vc_enc _,hK,fun H' K' hs h=>⟨x0,x1,rfl,hpre,h⟩⟩
def L191:qJ:=LendP 1 V191
@[go_sem ↓] theorem L191_eq (v0 v1:Value):L191 [v0,v1] H Bd K=(Yld (qK H 1 v0) fun cs=>qS V191 (idS [.agg cs.toArray,giveA H v1]) H Bd K):=LendP_eq _ _ _ _ _ _ _
theorem L191_ok:OK 191 L191:=LendP_ok W191_ok (fun ps rest cs H Bd K hc hV=>by
 obtain⟨x0,x1,e,_⟩:=id hV
 obtain⟨_,rfl⟩:=List.cons.inj e
 exact⟨_,_,rfl,cs,hc,hV⟩) L191_pure (by decide)
def V224:qJ:=fun args H Bd K=>∃(s:GSignature) (data:List UInt8),args=[.agg (enc s).toArray,lst data]∧((sm s∧yK s=0∧data.length≤1000000)∧K (lst (rt s data)) H Bd)
@[go_sem ↓] theorem V224_eq (s_symbols:List GSymbol) (data:List UInt8):V224 [.agg #[lst s_symbols],lst data] H Bd K=((sm (GSignature.mk s_symbols)∧yK (GSignature.mk s_symbols)=0∧data.length≤1000000)∧K (lst (rt (GSignature.mk s_symbols) data)) H Bd):=ex2 (GSignature.mk s_symbols) data rfl
def W224:qJ:=fun args H Bd K=>∃(ps vdata:Value),args=[ps,vdata]∧Yld (qK H 1 ps) fun cs=>qS V224 [.agg cs.toArray,vdata] H Bd K
@[go_sem ↓] theorem W224_eq (ps vdata:Value):W224 [ps,vdata] H Bd K=(Yld (qK H 1 ps) fun cs=>qS V224 (idS [.agg cs.toArray,vdata]) H Bd K):=by
 refine propext ⟨fun h=> ?_,fun h=>⟨_,_,rfl,h⟩⟩
 obtain⟨ps',vdata',e,h⟩:=h
 simp only[List.cons.injEq,and_true]at e
 obtain⟨rfl,rfl⟩:=e
 exact h
set_option maxHeartbeats 2000000 in
theorem W224_ok:OK 224 W224:=by
 rintro args H Bd K ⟨ps,vdata,rfl,cs,es,h⟩
 obtain⟨s,data,e,hpre,hK⟩:=h
 simp only[List.cons.injEq,and_true]at e
 obtain⟨Es,rfl⟩:=e
 obtain rfl:=qZ Es
 refine fnp pok (((Env.base _).add 294 _ W294_ok).add 191 _ L191_ok) [(3,[],[],(.k 5 (.grp true 14 16 2 [15,16] 17 none (.k 2 .nil) .nil)))] hK Tryz.func224 Tryz.ntmps224 Tryz.call224 [.tmp 4] fun hb ha=> ?_
 have Ps:=qO es (NB.vpok (ha ps (by simp)))
 simp only[qP]at Ps
 have Zs:=Ps.all 1 rfl
 have Ys:=jJ (ha ps (by simp))
 refine jH pok fun cv=> ?_
 obtain⟨h1,h2,h3⟩:=hpre
 refine R Zs ?_
 refine kB (X:=Nat) hb (by omega) 1 [.s 5] rfl (fun x=>x≤24∧x≤data.length∧rt s data=rtS s data (24-x) x) (fun x=>24-x) (fun Nx x=>[(0,ps),(1,lst data),(5, .slice (some ⟨Nx,0,some 1⟩) (rtT data x).length ((rtT data x).length+1)),(6, .int .i64 x)]) (fun Nx x=>[(Nx,⟨qQ (rtT data x),true⟩)]) 0 (⟨Nat.zero_le _,Nat.zero_le _,rfl⟩) (fun Nx hNx=>(canf (cj Ys (show rtT data 0=[]from rfl)))) ?_
 intro Nx x hNx hIx hbx Fx hFx
 simp only[mem_cons,jK]at hbx ⊢
 refine cv (by kernel_rfl) ?_
 obtain⟨i1,i2,i3⟩:=hIx
 have hl:=rtT_len i2
 by_cases hlt:x<data.length∧x<24
 ·obtain⟨g1,g2⟩:=hlt
  obtain⟨f,hf⟩:∃f,24-x=f+1:=⟨23-x,by omega⟩
  have e0:data[x]? =some (data[x]'g1):=List.getElem?_eq_getElem _
  have hst:=rtT_succ g1
  have hl1:=rtT_len (show x+1≤data.length from g1)
  rw[getD_some e0]at hst
  have hfl:qQ (rtT data x)++[Value.int .i64 (nodeB (data[x]'g1))]=qQ (rtT data (x+1)):=by rw[hst,qL,qU];rfl
  have hlx:(rtT data (x+1)).length=(rtT data x).length+1:=by omega
  have hgi:∀v,giveR (some ⟨qQ (rtT data (x+1)),true⟩) 1 ((rtT data x).length+1) v=lst (rtT data (x+1)):=fun v=>giveR_F _ hlx.symm v
  rw[hf,rtS,if_neg (by omega),getD_some e0]at i3
  have hrg:rg (rtT data (x+1)):=fun n hn=>by
   unfold rtT at hn
   obtain⟨b,_,rfl⟩:=List.mem_map.1 hn
   have:=b.toNat_lt
   unfold nodeB
   split <;>exact⟨by omega,by omega⟩
  have hsm:sm (rtT data (x+1)):=(yR _).2 (by omega)
  by_cases hk:okB s (data[x]'g1)=true
  ·rw[if_pos hk]at i3
   by_cases ht:zA s (rtT data (x+1))=0
   ·rw[if_pos ht]at i3
    rw[i3]
    refine RA (cj Zs (cj h1 (cj h2 (cj e0 (cj g1 (cj g2 (cj hk (cj ht (cj hfl (cj hgi (cj hsm hrg))))))))))) ?_
    exact jA (by simp (disch:=first|assumption|omega) only[go_sem,push_cast,qB,qA]) (hb.fresh _ (by omega)) rfl (by first|rfl|exact(kI _).symm|simp|omega)
   ·rw[if_neg ht]at i3
    refine RA (cj Zs (cj h1 (cj h2 (cj e0 (cj g1 (cj g2 (cj hk (cj ht (cj hfl (cj hgi (cj hsm hrg))))))))))) ?_
    refine hFx (x+1) _ _ _ ?_ ?_ (by simp only[go_sem,push_cast,qB,qA]) ((canf (cj Ys hlx)))
    ·show 24-(x+1)<24-x
     omega
    ·exact⟨g2,g1,by rw[i3,show 24-(x+1)=f by omega]⟩
  ·rw[if_neg hk]at i3
   rw[i3]
   exact R (cj Zs (cj h1 (cj h2 (cj e0 (cj g1 (cj g2 hk)))))) trivial
 ·have e:rt s data=[]:=by
   rw[i3]
   rcases Nat.lt_or_ge x 24 with g|g
   ·obtain⟨f,hf⟩:∃f,24-x=f+1:=⟨23-x,by omega⟩
    rw[hf,rtS,if_pos (by omega)]
   ·rw[show 24-x=0 by omega];rfl
  rw[e]
  by_cases g1:x<data.length
  ·have g2:¬x<24:=fun h=>hlt ⟨g1,h⟩
   refine R (cj Zs (cj g1 g2)) ?_
   refine cv (by kernel_rfl) ?_
   exact R Zs trivial
  ·refine R (cj Zs g1) ?_
   refine cv (by kernel_rfl) ?_
   exact R Zs trivial
def W305:qJ:=fun args H Bd K=>∃(t:List Int),args=[lst t]∧((sm t)∧K (.bool (lowB t)) H Bd)
@[go_sem ↓] theorem W305_eq (t:List Int):W305 [lst t] H Bd K=((sm t)∧K (.bool (lowB t)) H Bd):=ex1 t rfl
theorem W305_ok:OK 305 W305:=by
 rintro args H Bd K ⟨t,rfl,hpre,hK⟩
 refine fnp pok (Env.base _) [] hK Tryz.func305 Tryz.ntmps305 Tryz.call305 [.tmp 2] fun hb ha=> ?_
 refine jH pok fun cv=> ?_
 have hlt2:=qY hpre
 refine R0 ?_
 refine jB (fun i=>∀j,j<i→∀n,t[j]? =some n→ -6≤n) (t.length) (fun i=>[(0,lst t),(3, .int .i64 i)]) (fun j hj=>absurd hj (Nat.not_lt_zero _)) (by simp only[go_sem,push_cast,qB,qA]) ?_
 intro i Bi hIi hii hBi
 refine cv (by kernel_rfl) ?_
 rcases Nat.lt_or_ge i (t.length)with hlti|hgei
 ·have e1:t[i]? =some t[i]:=List.getElem?_eq_getElem hlti
  refine R e1 ?_
  refine⟨fun h=> ?_,fun h j hj n hn=> ?_⟩
  ·exact(all_no (List.getElem_mem hlti) (by simpa using h)).symm
  ·by_cases e:j=i
   ·subst e;rw[e1]at hn;cases hn;omega
   ·exact hIi j (by omega) n hn
 ·refine R0 ?_
  refine cv (by kernel_rfl) ?_
  refine R0 ?_
  exact(all_yes fun x hx=>by
   obtain⟨j,hj,rfl⟩:=List.getElem_of_mem hx
   have:=hIi j (by omega) _ (List.getElem?_eq_getElem hj)
   simpa using this).symm
def V260:qJ:=fun args H Bd K=>∃(s:GSignature) (e:GEquation),args=[.agg (enc s).toArray, .agg (enc e).toArray]∧((sm s∧sm e∧rg e∧yK s=0)∧K (.int .i64 (eqnG s e)) H Bd)
@[go_sem ↓] theorem V260_eq (s_symbols:List GSymbol) (e_left:List Int) (e_right:List Int):V260 [.agg #[lst s_symbols], .agg #[lst e_left,lst e_right]] H Bd K=((sm (GSignature.mk s_symbols)∧sm (GEquation.mk e_left e_right)∧rg (GEquation.mk e_left e_right)∧yK (GSignature.mk s_symbols)=0)∧K (.int .i64 (eqnG (GSignature.mk s_symbols) (GEquation.mk e_left e_right))) H Bd):=ex2 (GSignature.mk s_symbols) (GEquation.mk e_left e_right) rfl
def W260:qJ:=fun args H Bd K=>∃(ps pe:Value),args=[ps,pe]∧Yld (qK H 1 ps) fun cs=>Yld (qK H 2 pe) fun ce=>qS V260 [.agg cs.toArray, .agg ce.toArray] H Bd K
@[go_sem ↓] theorem W260_eq (ps pe:Value):W260 [ps,pe] H Bd K=(Yld (qK H 1 ps) fun cs=>Yld (qK H 2 pe) fun ce=>qS V260 (idS [.agg cs.toArray, .agg ce.toArray]) H Bd K):=by
 refine propext ⟨fun h=> ?_,fun h=>⟨_,_,rfl,h⟩⟩
 obtain⟨ps',pe',e,h⟩:=h
 simp only[List.cons.injEq,and_true]at e
 obtain⟨rfl,rfl⟩:=e
 exact h
set_option maxHeartbeats 2000000 in
theorem W260_ok:OK 260 W260:=by
 rintro args H Bd K ⟨ps,pe,rfl,cs,es,ce,ee,h⟩
 obtain⟨s,e,e,hpre,hK⟩:=h
 simp only[List.cons.injEq,and_true]at e
 obtain⟨Es,Ee⟩:=e
 obtain rfl:=qZ Es
 obtain rfl:=qZ Ee
 refine fnp pok (((Env.base _).add 191 _ W191_ok).add 305 _ W305_ok) [(7,[],[],(.k 7 (.grp false 31 37 6 [32,33,34,35,36,37] 38 none (.k 6 .nil) .nil)))] hK Tryz.func260 Tryz.ntmps260 Tryz.call260 [.tmp 4] fun hb ha=> ?_
 have Ps:=qO es (NB.vpok (ha ps (by simp)))
 simp only[qP]at Ps
 have Zs:=Ps.all 1 rfl
 have Ys:=jJ (ha ps (by simp))
 have Pe:=qO ee (NB.vpok (ha pe (by simp)))
 simp only[enc_GEquation,qP]at Pe
 have Ze:=Pe.all 2 rfl
 have Ye:=jJ (ha pe (by simp))
 obtain⟨h1,h2,h3,h4⟩:=hpre
 have hss:sm s:=h1
 simp only[vY]at h2
 have h5:=h2.1
 have h6:=h2.2
 have h7:rg e.left:=h3.1
 have h8:rg e.right:=h3.2
 refine R (cj Zs (cj Ze (cj h1 (cj h5 (cj h6 (cj h7 (cj h8 h4))))))) ?_
 unfold eqnG
 refine⟨fun a1=>⟨fun a2=>⟨fun a3=> ?_,fun a3 a4=> ?_⟩,fun a2=> ?_⟩,fun a1=> ?_⟩
 ·rw[if_neg (by simp[a1]),if_neg (by simp[a2]),if_neg (fun h=>a3.elim (fun k=>k h.1) (fun k=>k h.2))]
 ·rw[if_neg (by simp[a1]),if_neg (by simp[a2]),if_pos ⟨a3,a4⟩]
 ·rw[if_neg (by simp[a1]),if_pos a2]
 ·rw[if_pos a1]
def V212:qJ:=fun args H Bd K=>∃(s:GSignature) (data:List UInt8),args=[.agg (enc s).toArray,lst data]∧((sm s∧yK s=0∧data.length≤1000000)∧K (.tuple #[lst ((raD s data).1), .int .i64 ((raD s data).2)]) H Bd)
@[go_sem ↓] theorem V212_eq (s_symbols:List GSymbol) (data:List UInt8):V212 [.agg #[lst s_symbols],lst data] H Bd K=((sm (GSignature.mk s_symbols)∧yK (GSignature.mk s_symbols)=0∧data.length≤1000000)∧K (.tuple #[lst ((raD (GSignature.mk s_symbols) data).1), .int .i64 ((raD (GSignature.mk s_symbols) data).2)]) H Bd):=ex2 (GSignature.mk s_symbols) data rfl
def W212:qJ:=fun args H Bd K=>∃(ps vdata:Value),args=[ps,vdata]∧Yld (qK H 1 ps) fun cs=>qS V212 [.agg cs.toArray,vdata] H Bd K
@[go_sem ↓] theorem W212_eq (ps vdata:Value):W212 [ps,vdata] H Bd K=(Yld (qK H 1 ps) fun cs=>qS V212 (idS [.agg cs.toArray,vdata]) H Bd K):=by
 refine propext ⟨fun h=> ?_,fun h=>⟨_,_,rfl,h⟩⟩
 obtain⟨ps',vdata',e,h⟩:=h
 simp only[List.cons.injEq,and_true]at e
 obtain⟨rfl,rfl⟩:=e
 exact h
set_option maxHeartbeats 2000000 in
theorem W212_ok:OK 212 W212:=by
 rintro args H Bd K ⟨ps,vdata,rfl,cs,es,h⟩
 obtain⟨s,data,e,hpre,hK⟩:=h
 simp only[List.cons.injEq,and_true]at e
 obtain⟨Es,rfl⟩:=e
 obtain rfl:=qZ Es
 refine yE pok (((Env.base _).add 224 _ W224_ok).add 260 _ W260_ok) [(1,[],[],(.k 4 (.grp false 13 17 4 [14,15,16,17] 18 none (.k 4 .nil) .nil)))] _ hK Tryz.func212 rfl (rs:=[.tmp 4, .tmp 5]) rfl Tryz.ntmps212 (by simp) Tryz.call212 (by kernel_rfl) (fun ha hb=>tup_nb ⟨lst_nb _ _, .int _ _,trivial⟩) (fun hb ha=> ?_)
 have Ps:=qO es (NB.vpok (ha ps (by simp)))
 simp only[qP]at Ps
 have Zs:=Ps.all 1 rfl
 have Ys:=jJ (ha ps (by simp))
 refine jH pok fun cv=> ?_
 obtain⟨h1,h2,h3⟩:=hpre
 by_cases h0:data.length<1
 ·have e:raD s data=([],0):=by unfold raD;rw[if_pos (.inl h0)]
  rw[e]
  exact R (cj Zs h0) trivial
 have e0:data[0]? =some (data[0]'(by omega)):=List.getElem?_eq_getElem _
 have f0:data.getD 0 0=data[0]'(by omega):=getD_some e0
 have b0:((data[0]'(by omega)).toNat:Int)≤255:=by have:=(data[0]'(by omega)).toNat_lt;omega
 generalize hc:(data[0]'(by omega))=c at*
 by_cases h12:12<c.toNat
 ·have e:raD s data=([],0):=by unfold raD;rw[f0,if_pos (.inr h12)]
  have h12':(12:Int)<(c.toNat:Int):=by omega
  rw[e]
  exact R (cj Zs (cj h0 (cj e0 (cj hc h12')))) trivial
 have hN:raD s data=match rvS s data c.toNat with|none=>([],0)|some (l,p)=>(l,(p:Int)):=by
  unfold raD;rw[f0,if_neg (by omega)];rfl
 have h12':¬(12:Int)<(c.toNat:Int):=by omega
 refine R (cj Zs (cj h0 (cj e0 (cj hc h12')))) ?_
 refine kB (X:=Nat×List GEquation×Nat) hb (by omega) 1 [.s 6] rfl (fun x=>x.1≤c.toNat∧rvS s data x.1=some (x.2.1,x.2.2)) (fun x=>12-x.1) (fun Nx x=>[(0,ps),(1,lst data),(6, .slice (some ⟨Nx,0,some 2⟩) x.2.1.length (x.2.1.length+1)),(7, .int .i64 x.2.2),(8, .int .i64 x.1)]) (fun Nx x=>[(Nx,⟨qQ x.2.1,true⟩)]) (0,[],1) (⟨Nat.zero_le _,rfl⟩) (fun Nx hNx=>(canf Ys)) ?_
 intro Nx x hNx hIx hbx Fx hFx
 simp only[mem_cons,jK]at hbx ⊢
 refine cv (by kernel_rfl) ?_
 obtain⟨i,out,p⟩:=x
 obtain⟨i1,i2⟩:=hIx
 simp only at i1 i2
 obtain⟨l1,l2,l3,l4,l5⟩:=rvS_ok (by omega) i2
 by_cases hgo:i<c.toNat
 ·have g1:(i:Int)<(c.toNat:Int):=by omega
  have hst:rvS s data (i+1)=if eqnG s ⟨rt s (data.drop p),rt s (data.drop (p+(rt s (data.drop p)).length))⟩≠0 then none
   else some (out++[⟨rt s (data.drop p),rt s (data.drop (p+(rt s (data.drop p)).length))⟩],p+(rt s (data.drop p)).length+(rt s (data.drop (p+(rt s (data.drop p)).length))).length):=by
   conv=>lhs;unfold rvS
   rw[i2]
  have hd1:(data.drop p).length≤1000000:=by rw[List.length_drop];omega
  obtain⟨a1,a2,a3⟩:=rt_sm s (data.drop p)
  have a4:=rt_le s (data.drop p)
  rw[List.length_drop]at a4
  generalize hL:rt s (data.drop p)=L at*
  have hd2:(data.drop (p+L.length)).length≤1000000:=by rw[List.length_drop];omega
  obtain⟨b1,b2,b3⟩:=rt_sm s (data.drop (p+L.length))
  generalize hR:rt s (data.drop (p+L.length))=Rr at*
  have hsmE:sm (⟨L,Rr⟩:GEquation):=⟨a2,b2⟩
  have hrgE:rg (⟨L,Rr⟩:GEquation):=⟨a3,b3⟩
  have hcd:((p:Int)+(L.length:Int)).toNat=p+L.length:=by omega
  by_cases he:eqnG s ⟨L,Rr⟩=0
  ·rw[if_neg (by simpa using he)]at hst
   refine RA (cj Zs (cj h1 (cj h2 (cj e0 (cj hc (cj g1 (cj (@List.take_length UInt8) (cj hd1 (cj hL (cj hcd (cj hd2 (cj hR (cj hsmE (cj hrgE he)))))))))))))) ?_
   refine hFx (i+1,out++[⟨L,Rr⟩],p+L.length+Rr.length) _ _ _ ?_ ?_ (by simp only[go_sem,push_cast,qB,qA]) ((canf (cj Ys enc_GEquation)))
   ·show 12-(i+1)<12-i
    omega
   ·exact⟨hgo,hst⟩
  ·rw[if_pos he]at hst
   have hn:=rvS_none hst c.toNat hgo
   rw[hn]at hN
   rw[hN]
   exact R (cj Zs (cj h1 (cj h2 (cj e0 (cj hc (cj g1 (cj (@List.take_length UInt8) (cj hd1 (cj hL (cj hcd (cj hd2 (cj hR (cj hsmE (cj hrgE he)))))))))))))) trivial
 ·obtain rfl:i=c.toNat:=by omega
  rw[i2]at hN
  rw[hN]
  refine R (cj Zs (cj e0 hc)) ?_
  refine cv (by kernel_rfl) ?_
  refine R Zs ?_
  exact jA (by simp (disch:=first|assumption|omega) only[go_sem,push_cast,qB,qA]) (hb.fresh _ (by omega)) rfl (by first|rfl|exact(kI _).symm|simp|omega)
def V259:qJ:=fun args H Bd K=>∃(s:GSignature) (order:List Int),args=[.agg (enc s).toArray,lst order]∧((sm s∧sm order∧rg order)∧K (.int .i64 (ordG s order)) H Bd)
@[go_sem ↓] theorem V259_eq (s_symbols:List GSymbol) (order:List Int):V259 [.agg #[lst s_symbols],lst order] H Bd K=((sm (GSignature.mk s_symbols)∧sm order∧rg order)∧K (.int .i64 (ordG (GSignature.mk s_symbols) order)) H Bd):=ex2 (GSignature.mk s_symbols) order rfl
def W259:qJ:=fun args H Bd K=>∃(ps vorder:Value),args=[ps,vorder]∧Yld (qK H 1 ps) fun cs=>qS V259 [.agg cs.toArray,vorder] H Bd K
@[go_sem ↓] theorem W259_eq (ps vorder:Value):W259 [ps,vorder] H Bd K=(Yld (qK H 1 ps) fun cs=>qS V259 (idS [.agg cs.toArray,vorder]) H Bd K):=by
 refine propext ⟨fun h=> ?_,fun h=>⟨_,_,rfl,h⟩⟩
 obtain⟨ps',vorder',e,h⟩:=h
 simp only[List.cons.injEq,and_true]at e
 obtain⟨rfl,rfl⟩:=e
 exact h
set_option maxHeartbeats 2000000 in
theorem W259_ok:OK 259 W259:=by
 rintro args H Bd K ⟨ps,vorder,rfl,cs,es,h⟩
 obtain⟨s,order,e,hpre,hK⟩:=h
 simp only[List.cons.injEq,and_true]at e
 obtain⟨Es,rfl⟩:=e
 obtain rfl:=qZ Es
 refine fnp pok ((Env.base _).add 304 _ W304_ok) [(14,[0,1,2,3,4,5,6,7,8],[⟨0,[],[]⟩,⟨1,[],[]⟩,⟨2,[],[]⟩,⟨3,[],[]⟩,⟨4,[],[]⟩,⟨5,[],[]⟩,⟨6,[],[]⟩,⟨7,[],[]⟩,⟨8,[],[]⟩], .nil)] hK Tryz.func259 Tryz.ntmps259 Tryz.call259 [.tmp 4] fun hb ha=> ?_
 have Ps:=qO es (NB.vpok (ha ps (by simp)))
 simp only[qP]at Ps
 have Zs:=Ps.all 1 rfl
 have Ys:=jJ (ha ps (by simp))
 refine jH pok fun cv=> ?_
 obtain⟨h1,h2,h3⟩:=hpre
 have hss:sm s:=h1
 simp only[yL]at h1
 have hlen:=qY h1
 have hlen2:=qY h2
 refine R Zs ?_
 refine⟨fun hq=> ?_,fun hq=>by unfold ordG;rw[if_pos (by omega)]⟩
 have hs:ordG s order=if order.any (fun n=> !isSym s n)=true then 3 else if order.Nodup then 0 else 6:=by unfold ordG;rw[if_neg (by omega)]
 rw[hs]
 refine jB (fun i=>∀b,b<i→∀y,order[b]? =some y→(!isSym s y)=false) (order.length) (fun i=>[(0,ps),(1,lst order),(5, .int .i64 i)]) (by simp) (by simp only[go_sem,push_cast,qB,qA]) ?_
 intro i Bi hIi hii hBi
 refine cv (by kernel_rfl) ?_
 rcases Nat.lt_or_ge i (order.length)with hlti|hgei
 ·have e1:order[i]? =some order[i]:=List.getElem?_eq_getElem hlti
  have hr:R64 order[i]:=h3 _ (List.getElem_mem hlti)
  refine R (cj Zs (cj e1 (cj hss hr))) ?_
  refine⟨fun h=>fun b hb1 y hb2=> ?_,fun h=> ?_⟩
  ·by_cases e:b=i
   ·subst e;rw[e1]at hb2;cases hb2;simpa using h
   ·exact hIi b (by omega) y hb2
  ·rw[if_pos (any_hit hlti (by simpa using h))]
 ·refine R Zs ?_
  refine cv (by kernel_rfl) ?_
  refine R Zs ?_
  rw[if_neg (by rw[vG fun j hj x hx=>hIi j (by omega) x hx];simp)]
  refine jB (fun j=>∀a b x y,b<a→a<j→order[a]? =some x→order[b]? =some y→x≠y) (order.length) (fun j=>[(0,ps),(1,lst order),(6, .int .i64 j)]) (by simp) (by simp only[go_sem,push_cast,qB,qA]) ?_
  intro j Bj hIj hij hBj
  refine cv (by kernel_rfl) ?_
  rcases Nat.lt_or_ge j (order.length)with hltj|hgej
  ·have e1:order[j]? =some order[j]:=List.getElem?_eq_getElem hltj
   refine R (cj Zs e1) ?_
   refine jB (fun k=>∀b y,b<k→order[b]? =some y→order[j]≠y) (j) (fun k=>[(0,ps),(1,lst order),(6, .int .i64 j),(7, .int .i64 k)]) (by simp) (by simp only[go_sem,push_cast,qB,qA]) ?_
   intro k Bk hIk hik hBk
   refine cv (by kernel_rfl) ?_
   rcases Nat.lt_or_ge k (j)with hltk|hgek
   ·have e2:order[k]? =some (order[k]'(by omega)):=List.getElem?_eq_getElem _
    refine R (cj Zs (cj e1 e2)) ?_
    refine⟨fun h=> ?_,fun h=>fun b y hb1 hb2=> ?_⟩
    ·rw[if_neg (nodup_not hltk hltj h)]
    ·by_cases e:b=k
     ·subst e;rw[e2]at hb2;cases hb2;exact h
     ·exact hIk b y (by omega) hb2
   ·refine R Zs ?_
    intro a b x y h1 h2 h3 h4
    by_cases e:a=j
    ·subst e;rw[e1]at h3;cases h3;exact hIk b y (by omega) h4
    ·exact hIj a b x y h1 (by omega) h3 h4
  ·refine R Zs ?_
   refine cv (by kernel_rfl) ?_
   refine R Zs ?_
   rw[if_pos (nodup_of fun i j x y h1 h2 h3=>hIj i j x y h1 (by have:=(List.getElem?_eq_some_iff.1 h2).1;omega) h2 h3)]
def V285:qJ:=fun args H Bd K=>∃(s:GSignature) (l:List GEquation),args=[.agg (enc s).toArray,lst l]∧((sm s∧sm l∧rg l∧yK s=0)∧K (.int .i64 (eqsG s l)) H Bd)
@[go_sem ↓] theorem V285_eq (s_symbols:List GSymbol) (l:List GEquation):V285 [.agg #[lst s_symbols],lst l] H Bd K=((sm (GSignature.mk s_symbols)∧sm l∧rg l∧yK (GSignature.mk s_symbols)=0)∧K (.int .i64 (eqsG (GSignature.mk s_symbols) l)) H Bd):=ex2 (GSignature.mk s_symbols) l rfl
def W285:qJ:=fun args H Bd K=>∃(ps vl:Value),args=[ps,vl]∧Yld (qK H 1 ps) fun cs=>qS V285 [.agg cs.toArray,vl] H Bd K
@[go_sem ↓] theorem W285_eq (ps vl:Value):W285 [ps,vl] H Bd K=(Yld (qK H 1 ps) fun cs=>qS V285 (idS [.agg cs.toArray,vl]) H Bd K):=by
 refine propext ⟨fun h=> ?_,fun h=>⟨_,_,rfl,h⟩⟩
 obtain⟨ps',vl',e,h⟩:=h
 simp only[List.cons.injEq,and_true]at e
 obtain⟨rfl,rfl⟩:=e
 exact h
theorem W285_ok:OK 285 W285:=by
 rintro args H Bd K ⟨ps,vl,rfl,cs,es,h⟩
 obtain⟨s,l,e,hpre,hK⟩:=h
 simp only[List.cons.injEq,and_true]at e
 obtain⟨Es,rfl⟩:=e
 obtain rfl:=qZ Es
 refine fnp pok ((Env.base _).add 260 _ W260_ok) [] hK Tryz.func285 Tryz.ntmps285 Tryz.call285 [.tmp 4] fun hb ha=> ?_
 have Ps:=qO es (NB.vpok (ha ps (by simp)))
 simp only[qP]at Ps
 have Zs:=Ps.all 1 rfl
 have Ys:=jJ (ha ps (by simp))
 refine jH pok fun cv=> ?_
 obtain⟨h1,h2,h3,h4⟩:=hpre
 have hlt2:=qY h2
 refine R Zs ?_
 refine⟨fun hq=> ?_,fun hq=> ?_⟩
 ·unfold eqsG;rw[if_pos (by omega)]
 ·have hv:eqsG s l=vF (eqnG s) l:=if_neg (by omega)
  rw[hv]
  refine jB (fun i=>∀j,j<i→∀y,l[j]? =some y→eqnG s y=0) (l.length) (fun i=>[(0,ps),(1,lst l),(5, .int .i64 i)]) (fun j hj=>absurd hj (Nat.not_lt_zero _)) (by simp only[go_sem,push_cast,qB,qA]) ?_
  intro i Bi hIi hii hBi
  refine cv (by kernel_rfl) ?_
  rcases Nat.lt_or_ge i (l.length)with hlti|hgei
  ·have e1:l[i]? =some l[i]:=List.getElem?_eq_getElem hlti
   have h5:=kC h2 (List.getElem_mem hlti)
   have h6:=h3 _ (List.getElem_mem hlti)
   refine R (cj Zs (cj e1 (cj h1 (cj h5 (cj h6 h4))))) ?_
   refine⟨fun h j hj y hy=> ?_,fun h=>(firstF_hit e1 hIi h).symm⟩
   ·by_cases e:j=i
    ·subst e;rw[e1]at hy;cases hy;exact h
    ·exact hIi j (by omega) y hy
  ·refine R Zs ?_
   refine cv (by kernel_rfl) ?_
   refine R Zs ?_
   exact(firstF_all fun x hx=>by
    obtain⟨j,hj,rfl⟩:=List.getElem_of_mem hx
    exact hIi j (by omega) _ (List.getElem?_eq_getElem hj)).symm
end Go.Proofs.YthoahlghegcfnaaGreatDoor
