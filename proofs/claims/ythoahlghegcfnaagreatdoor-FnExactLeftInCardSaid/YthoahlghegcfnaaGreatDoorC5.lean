/- YthoahlghegcfnaaGreatDoorC5 -/
import Derived.Test.YthoahlghegcfnaaGreatDoorC4
set_option linter.unusedSimpArgs false
set_option linter.unusedVariables false
set_option maxRecDepth 20000
namespace Go.Proofs.YthoahlghegcfnaaGreatDoor
open Go Go.SC
variable {H:AH} {Bd:Nat} {K:Value→AH→Nat→Prop}
theorem L121_pure:PureV W121:=by
 rintro args H Bd K ⟨x0,x1,rfl,hpre,hK⟩
 exact⟨_,by first|exact .bool _|exact .int _ _|exact .string _|exact vc_enc _,hK,fun H' K' hs h=>⟨x0,x1,rfl,hpre,h⟩⟩
def L121:qJ:=LendA W121
@[go_sem ↓] theorem L121_eq (v0 v1:Value):L121 [v0,v1] H Bd K=qS W121 (idS [giveA H v0,giveA H v1]) H Bd K:=(rfl)
theorem L121_ok:OK 121 L121:=LendA_ok W121_ok L121_pure
def W177:qJ:=fun args H Bd K=>∃(d:GDisk) (n:Int),args=[.agg (enc d).toArray, .int .i64 n]∧((sm d∧DiskOK d∧0≤n∧n<d.sectors.length)∧K (lst (yD d n)) H Bd)
@[go_sem ↓] theorem W177_eq (d_sectors:List (List UInt8)) (d_pending:List GPut) (n:Int):W177 [.agg #[lst d_sectors,lst d_pending], .int .i64 n] H Bd K=((sm (GDisk.mk d_sectors d_pending)∧DiskOK (GDisk.mk d_sectors d_pending)∧0≤n∧n<(GDisk.mk d_sectors d_pending).sectors.length)∧K (lst (yD (GDisk.mk d_sectors d_pending) n)) H Bd):=ex2 (GDisk.mk d_sectors d_pending) n rfl
theorem W177_ok:OK 177 W177:=by
 rintro args H Bd K ⟨d,n,rfl,hpre,hK⟩
 refine fnp pok ((Env.base _).add 117 _ W117_ok) [] hK Tryz.func177 Tryz.ntmps177 Tryz.call177 [.tmp 4] fun hb ha=> ?_
 obtain⟨h1,h2,h3,h4⟩:=hpre
 by_cases hw:0≤waitD d n
 ·have hlt:=wait_lt hw
  have e1:d.pending[(waitD d n).toNat]? =some d.pending[(waitD d n).toNat]:=List.getElem?_eq_getElem hlt
  have hr:yD d n=d.pending[(waitD d n).toNat].bytes:=by unfold yD;rw[if_pos hw,e1];rfl
  exact R (cj h1 (cj hw (cj e1 hr))) trivial
 ·have hlt:n.toNat<d.sectors.length:=by omega
  have e1:d.sectors[n.toNat]? =some d.sectors[n.toNat]:=List.getElem?_eq_getElem hlt
  have hr:yD d n=d.sectors[n.toNat]:=by unfold yD;rw[if_neg hw,e1];rfl
  exact R (cj h1 (cj hw (cj e1 hr))) trivial
def W248:qJ:=fun args H Bd K=>∃(p:GPage),args=[.agg (enc p).toArray]∧((sm p∧R64 p.id)∧K (.int .i64 (pageF p)) H Bd)
@[go_sem ↓] theorem W248_eq (p_kind:Int) (p_id:Int) (p_body:List UInt8):W248 [.agg #[.int .i64 p_kind, .int .i64 p_id,lst p_body]] H Bd K=((sm (GPage.mk p_kind p_id p_body)∧R64 (GPage.mk p_kind p_id p_body).id)∧K (.int .i64 (pageF (GPage.mk p_kind p_id p_body))) H Bd):=ex1 (GPage.mk p_kind p_id p_body) rfl
theorem W248_ok:OK 248 W248:=by
 rintro args H Bd K ⟨p,rfl,hpre,hK⟩
 refine fnp pok (((Env.base _).add 113 _ W113_ok).add 119 _ W119_ok) [(1,[],[],(.k 5 (.grp false 7 11 4 [8,9,10,11] 12 none (.k 4 .nil) .nil)))] hK Tryz.func248 Tryz.ntmps248 Tryz.call248 [.tmp 2] fun hb ha=> ?_
 obtain⟨h1,h2⟩:=hpre
 simp only[sm_GPage]at h1
 have hlen:=qY h1.2.2
 refine R (cj h1 h2) ?_
 unfold pageF isPg
 all_goals first|done|trivial|((try simp only[Cnp,Imp]);grind)
def W249:qJ:=fun args H Bd K=>∃(p:GPage),args=[.agg (enc p).toArray]∧((sm p∧pageF p=0)∧K (lst (packP p)) H Bd)
@[go_sem ↓] theorem W249_eq (p_kind:Int) (p_id:Int) (p_body:List UInt8):W249 [.agg #[.int .i64 p_kind, .int .i64 p_id,lst p_body]] H Bd K=((sm (GPage.mk p_kind p_id p_body)∧pageF (GPage.mk p_kind p_id p_body)=0)∧K (lst (packP (GPage.mk p_kind p_id p_body))) H Bd):=ex1 (GPage.mk p_kind p_id p_body) rfl
set_option maxHeartbeats 2000000 in
theorem W249_ok:OK 249 W249:=by
 rintro args H Bd K ⟨p,rfl,hpre,hK⟩
 refine fnp pok (((Env.base _).add 247 _ L247_ok).add 246 _ W246_ok) [] hK Tryz.func249 Tryz.ntmps249 Tryz.call249 [.tmp 2] fun hb ha=> ?_
 obtain⟨h1,h2⟩:=hpre
 have hp:=pageF_ok h2
 simp only[sm_GPage]at h1
 have h0:=packP0_flat p
 have hl0:=packP0_len p
 have hok:=flat_ok p.body
 have hpl:=padP_len (l:=yA p) (by omega)
 have hsr:=sum_rg (padP (yA p))
 have hend:qQ (padP (yA p))++qQ (jP (sumB 29 (padP (yA p))))=qQ (packP p):=by rw[←qL];rfl
 have hend2:=packP_len hp.2.2
 have htk2:List.take 94 (qQ (padP (yA p)))=qQ (padP (yA p)):=by
  have h:=flat_all (padP (yA p))
  rw[hpl,show Enc.k UInt8=1 from rfl,Nat.mul_one]at h
  exact h
 have hsmp:sm (padP (yA p)):=⟨by omega,fun _ _=>trivial⟩
 have hpn:=jZ (sumB 29 (padP (yA p)))
 have hok2:=flat_ok (jP (sumB 29 (padP (yA p))))
 have hm:(94-(3+(p.body.length:Int))).toNat=91-p.body.length:=by omega
 have hzm:yZ (91-p.body.length) [Value.int .u8 0]=qQ (List.replicate (91-p.body.length) (0:UInt8)):=(zmake_one _ _).trans (flat_zeros _).symm
 have hok3:=flat_ok (List.replicate (91-p.body.length) (0:UInt8))
 have htk:List.take (3+p.body.length) (Value.int .u8 (p.kind%256)::Value.int .u8 (p.id%256)::Value.int .u8 ((p.body.length:Int)%256)::qQ p.body)=qQ (yA p):=by
  have h:=flat_all (yA p)
  rw[hl0,show Enc.k UInt8=1 from rfl,Nat.mul_one,Nat.add_comm]at h
  rw[h0]at h ⊢
  exact h
 have hpad:qQ (yA p)++qQ (List.replicate (91-p.body.length) (0:UInt8))=qQ (padP (yA p)):=by
  rw[←qL];unfold padP
  rw[hl0,show 94-(p.body.length+3)=91-p.body.length by omega]
 have h94:3+p.body.length+(91-p.body.length)=94:=by omega
 refine RA (cj hok (cj hok2 (cj hok3 (cj hm (cj hzm (cj htk (cj hpad (cj h94 (cj htk2 (cj hsmp hend)))))))))) ?_
 refine jA (qN _ _ _) ?_ rfl ?_
 ·exact hb.fresh _ (by omega)
 ·rw[hend2,hpn]
def W176:qJ:=fun args H Bd K=>∃(data:List UInt8) (id:Int),args=[lst data, .int .i64 id]∧((sm data∧R64 id)∧K (.agg (enc (readPR data id)).toArray) H Bd)
@[go_sem ↓] theorem W176_eq (data:List UInt8) (id:Int):W176 [lst data, .int .i64 id] H Bd K=((sm data∧R64 id)∧K (.agg (enc (readPR data id)).toArray) H Bd):=ex2 data id rfl
set_option maxHeartbeats 2000000 in
theorem W176_ok:OK 176 W176:=by
 rintro args H Bd K ⟨data,id,rfl,hpre,hK⟩
 refine fnp pok ((((((((Env.base _).add 119 _ W119_ok).add 247 _ W247_ok).add 246 _ W246_ok).add 219 _ W219_ok).add 235 _ W235_ok).add 248 _ W248_ok).add 249 _ W249_ok) [(5,[0,1,5,6,2,3,4,7,8],[⟨0,[],[]⟩,⟨1,[],[]⟩,⟨5,[],[]⟩,⟨6,[],[]⟩,⟨2,[],[]⟩,⟨3,[],[]⟩,⟨4,[],[]⟩,⟨7,[],[]⟩,⟨8,[],[]⟩], .nil),(12,[0,1,2,3,4,5,6,7,8,11,9,10,12],[⟨0,[],[]⟩,⟨1,[],[]⟩,⟨2,[],[]⟩,⟨3,[],[]⟩,⟨4,[],[]⟩,⟨5,[],[]⟩,⟨6,[],[]⟩,⟨7,[],[]⟩,⟨8,[],[]⟩,⟨11,[],[]⟩,⟨9,[],[3,2]⟩,⟨10,[],[]⟩,⟨12,[11],[]⟩], .nil),(13,[],[],(.k 4 (.grp false 53 58 5 [54,55,56,57,58] 59 none (.k 5 .nil) .nil)))] hK Tryz.func176 Tryz.ntmps176 Tryz.call176 [.cell 4 260] fun hb ha=> ?_
 obtain⟨hsd,hid⟩:=hpre
 have hlen:=qY hsd
 by_cases h1:data.length=96
 case neg=>
  have e:readPR data id=⟨1,⟨0,0,[]⟩⟩:=by unfold readPR;rw[if_pos h1];rfl
  exact R (cj h1 e) trivial
 by_cases hi:isPg id=true
 case neg=>
  have e:readPR data id=⟨3,⟨0,0,[]⟩⟩:=by unfold readPR;rw[if_neg (by simpa using h1),if_pos (by simpa using hi)];rfl
  exact R (cj h1 (cj hid (cj hi e))) trivial
 have hi2:=of_decide_eq_true hi
 have hr:readPR data id=⟨(qV data id).2,(qV data id).1⟩:=by unfold readPR;rw[if_neg (by simpa using h1),if_neg (by simp[hi])]
 rw[hr]
 have hpre:data.length=96∧2≤id∧id≤63:=⟨h1,hi2⟩
 have e0:data[0]? =some (data[0]'(by omega)):=List.getElem?_eq_getElem _
 have e1:data[1]? =some (data[1]'(by omega)):=List.getElem?_eq_getElem _
 have e2:data[2]? =some (data[2]'(by omega)):=List.getElem?_eq_getElem _
 have hsr:=sum_rg (data.take 94)
 have b0:((data[0]'(by omega)).toNat:Int)≤255:=by have:=(data[0]'(by omega)).toNat_lt;omega
 have b1:((data[1]'(by omega)).toNat:Int)≤255:=by have:=(data[1]'(by omega)).toNat_lt;omega
 have b2:((data[2]'(by omega)).toNat:Int)≤255:=by have:=(data[2]'(by omega)).toNat_lt;omega
 have f0:data.getD 0 0=data[0]'(by omega):=by rw[List.getD_eq_getElem?_getD,e0];rfl
 have f1:data.getD 1 0=data[1]'(by omega):=by rw[List.getD_eq_getElem?_getD,e1];rfl
 have f2:data.getD 2 0=data[2]'(by omega):=by rw[List.getD_eq_getElem?_getD,e2];rfl
 have htk:data.take 96=data:=List.take_of_length_le (by omega)
 have hl94:(data.take 94).length≤2000:=by rw[List.length_take];omega
 have hsm:sm (data.take 94):=⟨by rw[List.length_take];omega,fun _ _=>trivial⟩
 have hn:((3:Int)+((data[2]'(by omega)).toNat:Int)).toNat=3+(data[2]'(by omega)).toNat:=by omega
 have hdt:List.drop 3 (List.take (3+(data[2]'(by omega)).toNat) data)=List.take (data[2]'(by omega)).toNat (List.drop 3 data):=by rw[List.drop_take,Nat.add_sub_cancel_left]
 have hG:readG data id=⟨((data[0]'(by omega)).toNat:Int),id,List.take (data[2]'(by omega)).toNat (List.drop 3 data)⟩:=by unfold readG;rw[f0,f2]
 have hlb:(List.take (data[2]'(by omega)).toNat (List.drop 3 data)).length≤93:=by rw[List.length_take,List.length_drop];omega
 have hsb:sm (List.take (data[2]'(by omega)).toNat (List.drop 3 data)):=⟨by omega,fun _ _=>trivial⟩
 have hsp:sm (readG data id):=by rw[hG];exact⟨trivial,trivial,hsb⟩
 have hsp2:sm (⟨((data[0]'(by omega)).toNat:Int),id,List.take (data[2]'(by omega)).toNat (List.drop 3 data)⟩:GPage):=⟨trivial,trivial,hsb⟩
 have b3:((data[0]'(by omega)).toNat:Int)≤9223372036854775807:=by omega
 obtain⟨h2,h3⟩:=hi2
 have h64:=hid
 have hlb2:(List.take (data[2]'(by omega)).toNat (List.drop 3 data)).length≤1000000:=by omega
 by_cases q1:jP (sumB 29 (data.take 94))=data.drop 94
 case neg=>
  have e:qV data id=(⟨0,0,[]⟩,11):=by unfold qV;rw[if_pos q1];rfl
  simp (maxSteps:=2000000) (disch:=first|assumption|(refine qI ?_;assumption)|exact Nat.le_add_right _ _|exact Nat.le_refl _|omega|(simp (disch:=first|exact Nat.le_add_right _ _|omega) only[qG hb,qR hb,qM,qE hb,qC];done)|fail) only[go_sem,push_cast,qB,qA,qG hb,qE hb,h1,hid,hi,hl94,e0,e1,e2,if_pos b3,Option.map_some,eq_self,true_and,htk,hsm,q1,e]
 by_cases q2:((data[1]'(by omega)).toNat:Int)=id
 case neg=>
  have e:qV data id=(⟨0,0,[]⟩,8):=by unfold qV;rw[if_neg (by simpa using q1),if_pos (by rw[f1];exact q2)];rfl
  simp (maxSteps:=2000000) (disch:=first|assumption|(refine qI ?_;assumption)|exact Nat.le_add_right _ _|exact Nat.le_refl _|omega|(simp (disch:=first|exact Nat.le_add_right _ _|omega) only[qG hb,qR hb,qM,qE hb,qC];done)|fail) only[go_sem,push_cast,qB,qA,qG hb,qE hb,h1,hid,hi,hl94,e0,e1,e2,if_pos b3,Option.map_some,eq_self,true_and,htk,hsm,q1,q2,e]
 by_cases q3:(91:Int)<((data[2]'(by omega)).toNat:Int)
 ·have e:qV data id=(⟨0,0,[]⟩,5):=by unfold qV;rw[if_neg (by simpa using q1),if_neg (by rw[f1];simpa using q2),if_pos (by rw[f2];omega)];rfl
  simp (maxSteps:=2000000) (disch:=first|assumption|(refine qI ?_;assumption)|exact Nat.le_add_right _ _|exact Nat.le_refl _|omega|(simp (disch:=first|exact Nat.le_add_right _ _|omega) only[qG hb,qR hb,qM,qE hb,qC];done)|fail) only[go_sem,push_cast,qB,qA,qG hb,qE hb,h1,hid,hi,hl94,e0,e1,e2,if_pos b3,Option.map_some,eq_self,true_and,htk,hsm,q1,q2,q3,e]
 have hR:qV data id=if pageF (readG data id)≠0∨packP (readG data id)≠data then(noPg,5)else(readG data id,0):=by unfold qV;rw[if_neg (by simpa using q1),if_neg (by rw[f1];simpa using q2),if_neg (by rw[f2];omega)]
 by_cases q4:pageF (readG data id)=0
 case neg=>
  have e:qV data id=(⟨0,0,[]⟩,5):=by rw[hR,if_pos (.inl q4)];rfl
  rw[hG]at q4
  simp (maxSteps:=2000000) (disch:=first|assumption|(refine qI ?_;assumption)|exact Nat.le_add_right _ _|exact Nat.le_refl _|omega|(simp (disch:=first|exact Nat.le_add_right _ _|omega) only[qG hb,qR hb,qM,qE hb,qC];done)|fail) only[go_sem,push_cast,qB,qA,qG hb,qE hb,h1,hid,hi,hl94,e0,e1,e2,if_pos b3,Option.map_some,eq_self,true_and,htk,hsm,q1,q2,q3,hn,hdt,hlb2,hsp2,h64,HB.no hb,q4,e]
 by_cases q5:packP (readG data id)=data
 case neg=>
  have e:qV data id=(⟨0,0,[]⟩,5):=by rw[hR,if_pos (.inr q5)];rfl
  rw[hG]at q4 q5
  simp (maxSteps:=2000000) (disch:=first|assumption|(refine qI ?_;assumption)|exact Nat.le_add_right _ _|exact Nat.le_refl _|omega|(simp (disch:=first|exact Nat.le_add_right _ _|omega) only[qG hb,qR hb,qM,qE hb,qC];done)|fail) only[go_sem,push_cast,qB,qA,qG hb,qE hb,h1,hid,hi,hl94,e0,e1,e2,if_pos b3,Option.map_some,eq_self,true_and,htk,hsm,q1,q2,q3,hn,hdt,hlb2,hsp2,h64,HB.no hb,q4,q5,e]
 have e:qV data id=(⟨((data[0]'(by omega)).toNat:Int),id,List.take (data[2]'(by omega)).toNat (List.drop 3 data)⟩,0):=by rw[hR,if_neg (by simp[q4,q5]),hG]
 rw[hG]at q4 q5
 simp (maxSteps:=2000000) (disch:=first|assumption|(refine qI ?_;assumption)|exact Nat.le_add_right _ _|exact Nat.le_refl _|omega|(simp (disch:=first|exact Nat.le_add_right _ _|omega) only[qG hb,qR hb,qM,qE hb,qC];done)|fail) only[go_sem,push_cast,qB,qA,qG hb,qE hb,h1,hid,hi,hl94,e0,e1,e2,if_pos b3,Option.map_some,eq_self,true_and,htk,hsm,q1,q2,q3,hn,hdt,hlb2,hsp2,h64,HB.no hb,q4,q5,e]
def W122:qJ:=fun args H Bd K=>∃(d:GDisk) (id:Int),args=[.agg (enc d).toArray, .int .i64 id]∧((sm d∧DiskOK d∧R64 id)∧K (.tuple #[.agg (enc ((pageD d id).1)).toArray, .int .i64 ((pageD d id).2)]) H Bd)
@[go_sem ↓] theorem W122_eq (d_sectors:List (List UInt8)) (d_pending:List GPut) (id:Int):W122 [.agg #[lst d_sectors,lst d_pending], .int .i64 id] H Bd K=((sm (GDisk.mk d_sectors d_pending)∧DiskOK (GDisk.mk d_sectors d_pending)∧R64 id)∧K (.tuple #[.agg (enc ((pageD (GDisk.mk d_sectors d_pending) id).1)).toArray, .int .i64 ((pageD (GDisk.mk d_sectors d_pending) id).2)]) H Bd):=ex2 (GDisk.mk d_sectors d_pending) id rfl
theorem W122_ok:OK 122 W122:=by
 rintro args H Bd K ⟨d,id,rfl,hpre,hK⟩
 refine yE pok ((((Env.base _).add 116 _ W116_ok).add 177 _ W177_ok).add 176 _ W176_ok) [(1,[],[],(.k 3 (.grp false 9 13 4 [10,11,12,13] 14 none (.k 4 .nil) .nil))),(4,[0,1,2,3,4,5],[⟨0,[],[]⟩,⟨1,[],[]⟩,⟨2,[],[]⟩,⟨3,[],[]⟩,⟨4,[],[3]⟩,⟨5,[],[]⟩], .nil)] _ hK Tryz.func122 rfl (rs:=[.cell 4 181, .tmp 5]) rfl Tryz.ntmps122 (by simp) Tryz.call122 (by kernel_rfl) (fun ha hb=>tup_nb ⟨agg_nb _ _, .int _ _,trivial⟩) (fun hb ha=> ?_)
 obtain⟨h1,h2,h3⟩:=hpre
 have hl:=h2.len
 by_cases hr:2≤id∧id≤(d.sectors.length:Int)-1
 case neg=>
  have e:pageD d id=(⟨0,0,[]⟩,3):=by unfold pageD;rw[if_pos hr];rfl
  by_cases hr2:id<2
  ·exact R (cj h1 (cj h3 (cj hr2 e))) trivial
  ·have hr3:¬id≤(d.sectors.length:Int)-1:=fun h=>hr ⟨by omega,h⟩
   exact R (cj h1 (cj h3 (cj hr2 (cj hr3 e)))) trivial
 obtain⟨hr1,hr2⟩:=hr
 have hlen:=readD_len h2 (n:=id) (by omega) (by omega)
 have hsm:sm (yD d id):=⟨by omega,fun _ _=>trivial⟩
 have e:pageD d id=qV (yD d id) id:=by unfold pageD;rw[if_neg (by simp;omega)]
 have hpg:isPg id=true:=decide_eq_true ⟨hr1,by omega⟩
 have hR:readPR (yD d id) id=⟨(qV (yD d id) id).2,(qV (yD d id) id).1⟩:=by unfold readPR;rw[if_neg (by simp[hlen]),if_neg (by simp[hpg])]
 exact RA (cj h1 (cj h2 (cj h3 (cj hr1 (cj hr2 (cj hsm (cj hR e))))))) trivial
def W218:qJ:=RdT (fun q=> .bool (endV q)) (fun q=>q)
@[go_sem ↓] theorem W218_eq (n:Nat):W218 [.pointer (some ⟨n,0,none⟩)] H Bd K=(Yld (H n) fun b=>Yld (rdOf b) fun q=>(q.1.length≤1000000)∧K (.bool (endV q)) (upd H n (some ⟨[lst q.1, .bool q.2],true⟩)) Bd):=RdT_eq _ _ n H Bd K
theorem W218_ok:OK 218 W218:=by
 rintro args H Bd K ⟨n,rfl,b0,hb0,q,hq,h1,hK⟩
 obtain rfl:=rdOf_out hq
 have hK:K (.bool (endV q)) (upd H n (some ⟨[lst (q).1, .bool (q).2],true⟩)) Bd:=hK
 refine fn_set pok (Env.base _) [(1,[],[],(.k 6 (.grp true 8 14 6 [9,10,11,12,13,14] 15 none (.k 6 .nil) (.k 1 .nil))))] _ hK (fun hh=>hb_setR hh hb0 _) Tryz.func218 rfl (rs:=[.tmp 2]) rfl Tryz.ntmps218 (by simp) Tryz.call218 (by kernel_rfl) (fun ha hb=> .bool _) (fun hb ha=> ?_)
 obtain⟨xs,f⟩:=q
 have hnB:=hb_in hb hb0
 have hLe:=le_own hb0
 simp only[rdB]at hb0 hLe
 simp only at h1
 cases f with
 |true=>
  have e1:endV (xs,true)=false:=rfl
  rw[e1]
  exact R (cj hb0 hLe) trivial
 |false=>
  have e1:endV (xs,false)=decide (xs.length=0):=rfl
  rw[e1]
  refine R (cj hb0 hLe) ?_
  simp
def W378:qJ:=fun args H Bd K=>∃(k:List UInt8),args=[lst k]∧((sm k)∧K (.int .i64 (if keyBad k=true then 2 else 0)) H Bd)
@[go_sem ↓] theorem W378_eq (k:List UInt8):W378 [lst k] H Bd K=((sm k)∧K (.int .i64 (if keyBad k=true then 2 else 0)) H Bd):=ex1 k rfl
theorem W378_ok:OK 378 W378:=by
 rintro args H Bd K ⟨k,rfl,hpre,hK⟩
 refine fnp pok (Env.base _) [(1,[],[],(.k 4 (.grp false 6 9 3 [7,8,9] 10 none (.k 3 .nil) .nil)))] hK Tryz.func378 Tryz.ntmps378 Tryz.call378 [.tmp 2] fun hb ha=> ?_
 have hlen:=qY hpre
 refine R0 ?_
 unfold keyBad
 all_goals first|done|trivial|((try simp only[Cnp,Imp]);grind)
theorem G313(g:Nat)(caps:Array Value)(p:Int→Bool)(xs:List Int)(H:AH)(Bd:Nat)(K:Value→AH→Nat→Prop)(hsm:sm xs)(hg:∀x∈xs,∀B,Bd≤B→∀K':Value→AH→Nat→Prop,K' (.bool (p x)) H B→SCalls Tryz.prog g (idS ((.int .i64 (x))::caps.toList)) H B K')(hK:K (.int .i64 (fidx p xs)) H Bd):SCalls Tryz.prog 313 [lst xs, .func (.func g) #[] caps] H Bd K:=by
 refine yE pok (Env.base _) [] _ hK Tryz.func313 rfl (rs:=[.tmp 4]) rfl Tryz.ntmps313 (by simp) Tryz.call313 (by kernel_rfl) (fun ha hb=> .int _ _) (fun hb ha=> ?_)
 refine jH pok fun cv=> ?_
 have hlen:=qY hsm
 refine R0 ?_
 refine jB (fun i=>∀j,j<i→∀x,xs[j]? =some x→p x=false) (xs.length) (fun i=>[(0,lst xs),(1, .func (.func g) #[] caps),(7, .int .i64 xs.length),(8, .int .i64 i)]) (by simp) (by simp only[go_sem,push_cast,qB,qA]) ?_
 intro i Bi hIi hii hBi
 refine cv (by kernel_rfl) ?_
 rcases Nat.lt_or_ge i (xs.length)with hlti|hgei
 ·have e1:xs[i]? =some xs[i]:=List.getElem?_eq_getElem hlti
  refine R e1 ?_
  refine hg _ (List.getElem_mem hlti) _ (by omega) _ ?_
  refine R e1 ?_
  exact⟨fun h=>by rw[vU hlti hIi h],fun h=>fun j hj x hx=>by
   by_cases e:j=i
   ·subst e;rw[e1]at hx;cases hx;simpa using h
   ·exact hIi j (by omega) x hx⟩
 ·refine R0 ?_
  refine cv (by kernel_rfl) ?_
  refine R0 ?_
  rw[vR fun j hj x hx=>hIi j (by omega) x hx]
theorem G270(g:Nat)(caps:Array Value)(p:Int→Bool)(xs:List Int)(H:AH)(Bd:Nat)(K:Value→AH→Nat→Prop)(hsm:sm xs)(hg:∀x∈xs,∀B,Bd≤B→∀K':Value→AH→Nat→Prop,K' (.bool (p x)) H B→SCalls Tryz.prog g (idS ((.int .i64 (x))::caps.toList)) H B K')(hK:K (.bool (xs.any p)) H Bd):SCalls Tryz.prog 270 [lst xs, .func (.func g) #[] caps] H Bd K:=by
 refine yE pok (Env.base _) [] _ hK Tryz.func270 rfl (rs:=[.tmp 4]) rfl Tryz.ntmps270 (by simp) Tryz.call270 (by kernel_rfl) (fun ha hb=> .bool _) (fun hb ha=> ?_)
 refine R0 ?_
 refine G313 _ _ p xs _ _ _ hsm hg ?_
 refine R0 ?_
 exact fidx_ge p xs
def W379:qJ:=fun args H Bd K=>∃(v:Int),args=[.int .i64 v]∧(K (.bool (vBad v)) H Bd)
theorem W379_ok:OK 379 W379:=by
 rintro args H Bd K ⟨v,rfl,hK⟩
 refine fnp pok ((Env.base _).add 113 _ W113_ok) [] hK Tryz.func379 Tryz.ntmps379 Tryz.call379 [.tmp 2] fun hb ha=> ?_
 refine R0 ?_
 unfold vBad
 all_goals first|done|trivial|((try simp only[Cnp,Imp]);grind)
def V270_379:qJ:=fun args H Bd K=>∃(xs:List Int),args=[lst xs]∧((sm xs)∧K (.bool (xs.any (fun v:Int=>vBad v))) H Bd)
@[go_sem ↓] theorem V270_379_eq (xs:List Int):V270_379 [lst xs] H Bd K=((sm xs)∧K (.bool (xs.any (fun v:Int=>vBad v))) H Bd):=ex1 xs rfl
def W270_379:qJ:=fun args H Bd K=>∃(vxs:Value),args=[vxs, .func (.func 379) #[] #[]]∧qS V270_379 [vxs] H Bd K
@[go_sem ↓] theorem W270_379_eq (vxs:Value):W270_379 [vxs, .func (.func 379) #[] #[]] H Bd K=(qS V270_379 (idS [vxs]) H Bd K):=by
 refine propext ⟨fun h=> ?_,fun h=>⟨_,rfl,h⟩⟩
 obtain⟨vxs',e,h⟩:=h
 simp only[List.cons.injEq,Value.func.injEq,jE,List.cons.injEq,and_true,true_and]at e
 obtain rfl:=e
 exact h
theorem W270_379_ok:OK 270 W270_379:=by
 rintro args H Bd K ⟨vxs,rfl,h⟩
 obtain⟨xs,e,hpre,hK⟩:=h
 simp only[List.cons.injEq,and_true]at e
 obtain rfl:=e
 refine G270 379 #[] (fun v:Int=>vBad v) xs H Bd K hpre (fun x hx B hB K' hk=> ?_) hK
 exact W379_ok _ _ _ _ ⟨x,rfl,hk⟩
def W380:qJ:=fun args H Bd K=>∃(k:Int),args=[.int .i64 k]∧(K (.bool (pBad k)) H Bd)
theorem W380_ok:OK 380 W380:=by
 rintro args H Bd K ⟨k,rfl,hK⟩
 refine fnp pok ((Env.base _).add 119 _ W119_ok) [] hK Tryz.func380 Tryz.ntmps380 Tryz.call380 [.tmp 2] fun hb ha=> ?_
 refine R0 ?_
 unfold pBad
 all_goals first|done|trivial|((try simp only[Cnp,Imp]);grind)
def V270_380:qJ:=fun args H Bd K=>∃(xs:List Int),args=[lst xs]∧((sm xs)∧K (.bool (xs.any (fun k:Int=>pBad k))) H Bd)
@[go_sem ↓] theorem V270_380_eq (xs:List Int):V270_380 [lst xs] H Bd K=((sm xs)∧K (.bool (xs.any (fun k:Int=>pBad k))) H Bd):=ex1 xs rfl
def W270_380:qJ:=fun args H Bd K=>∃(vxs:Value),args=[vxs, .func (.func 380) #[] #[]]∧qS V270_380 [vxs] H Bd K
@[go_sem ↓] theorem W270_380_eq (vxs:Value):W270_380 [vxs, .func (.func 380) #[] #[]] H Bd K=(qS V270_380 (idS [vxs]) H Bd K):=by
 refine propext ⟨fun h=> ?_,fun h=>⟨_,rfl,h⟩⟩
 obtain⟨vxs',e,h⟩:=h
 simp only[List.cons.injEq,Value.func.injEq,jE,List.cons.injEq,and_true,true_and]at e
 obtain rfl:=e
 exact h
theorem W270_380_ok:OK 270 W270_380:=by
 rintro args H Bd K ⟨vxs,rfl,h⟩
 obtain⟨xs,e,hpre,hK⟩:=h
 simp only[List.cons.injEq,and_true]at e
 obtain rfl:=e
 refine G270 380 #[] (fun k:Int=>pBad k) xs H Bd K hpre (fun x hx B hB K' hk=> ?_) hK
 exact W380_ok _ _ _ _ ⟨x,rfl,hk⟩
def W270_379_380:qJ:=fun args H Bd K=>W270_379 args H Bd K∨W270_380 args H Bd K
@[go_sem ↓] theorem W270_379_380_eq0 (v:Value):W270_379_380 [v, .func (.func 379) #[] #[]] H Bd K=W270_379 [v, .func (.func 379) #[] #[]] H Bd K:=propext ⟨fun h=>h.resolve_right (by rintro⟨_,e,_⟩;simp at e),fun h=> .inl h⟩
@[go_sem ↓] theorem W270_379_380_eq1 (v:Value):W270_379_380 [v, .func (.func 380) #[] #[]] H Bd K=W270_380 [v, .func (.func 380) #[] #[]] H Bd K:=propext ⟨fun h=>h.resolve_left (by rintro⟨_,e,_⟩;simp at e),fun h=> .inr h⟩
theorem W270_379_380_ok:OK 270 W270_379_380:=fun args H Bd K h=>h.elim (W270_379_ok args H Bd K) (W270_380_ok args H Bd K)
def W361:qJ:=fun args H Bd K=>∃(n:GNode),args=[.agg (enc n).toArray]∧((sm n)∧K (.int .i64 (kO n)) H Bd)
@[go_sem ↓] theorem W361_eq (n_leaf:Bool) (n_keys:List (List UInt8)) (n_values:List Int) (n_kids:List Int):W361 [.agg #[.bool n_leaf,lst n_keys,lst n_values,lst n_kids]] H Bd K=((sm (GNode.mk n_leaf n_keys n_values n_kids))∧K (.int .i64 (kO (GNode.mk n_leaf n_keys n_values n_kids))) H Bd):=ex1 (GNode.mk n_leaf n_keys n_values n_kids) rfl
set_option maxHeartbeats 2000000 in
theorem W361_ok:OK 361 W361:=by
 rintro args H Bd K ⟨n,rfl,hpre,hK⟩
 refine fnp pok ((((Env.base _).add 378 _ W378_ok).add 154 _ W154_ok).add 270 _ W270_379_380_ok) [(13,[0,1,2,3,4,5,6,7,8,9,10,11,12],[⟨0,[],[]⟩,⟨1,[],[]⟩,⟨2,[],[]⟩,⟨3,[],[]⟩,⟨4,[],[]⟩,⟨5,[],[]⟩,⟨6,[],[]⟩,⟨7,[],[]⟩,⟨8,[],[]⟩,⟨9,[],[]⟩,⟨10,[],[]⟩,⟨11,[],[]⟩,⟨12,[],[]⟩], .nil),(16,[],[],(.k 8 (.grp false 53 57 4 [54,55,56,57] 58 none (.k 4 .nil) .nil))),(21,[],[],(.k 5 (.grp false 66 70 4 [67,68,69,70] 71 none (.k 4 .nil) (.k 1 (.grp false 72 80 8 [73,74,75,76,77,78,79,80] 81 none (.k 8 .nil) .nil)))))] hK Tryz.func361 Tryz.ntmps361 Tryz.call361 [.tmp 2] fun hb ha=> ?_
 refine jH pok fun cv=> ?_
 have hss:=hpre
 simp only[sm_GNode]at hpre
 obtain⟨_,hk,hv,hc⟩:=hpre
 have hlk:=qY hk
 have hlv:=qY hv
 have hlc:=qY hc
 by_cases h4:4<n.keys.length
 ·have e:kO n=2:=by unfold kO;rw[if_pos h4]
  exact R (cj h4 e) trivial
 refine R h4 ?_
 refine jB (fun i=>∀j,j<i→∀x,n.keys[j]? =some x→keyBad x=false) (n.keys.length) (fun i=>[(1, .pointer (some ⟨Bd,0,none⟩)),(12,lst n.keys),(13, .int .i64 n.keys.length),(14, .int .i64 i)]) (by simp) (by simp only[go_sem,push_cast,qB,qA]) ?_
 intro i Bi hIi hii hBi
 refine cv (by kernel_rfl) ?_
 rcases Nat.lt_or_ge i (n.keys.length)with hlti|hgei
 ·have e1:n.keys[i]? =some n.keys[i]:=List.getElem?_eq_getElem hlti
  have hx:=kC hk (List.getElem_mem hlti)
  by_cases hb1:keyBad n.keys[i]=true
  ·have e:kO n=2:=by unfold kO;rw[if_neg h4,if_pos (any_hit hlti hb1)]
   exact R (cj e1 (cj hx (cj hb1 e))) trivial
  ·refine R (cj e1 (cj hx hb1)) ?_
   intro j hj x hx2
   by_cases e:j=i
   ·subst e;rw[e1]at hx2;cases hx2;simpa using hb1
   ·exact hIi j (by omega) x hx2
 refine R0 ?_
 have hany:n.keys.any keyBad=false:=vG fun j hj x hx=>hIi j (by omega) x hx
 refine cv (by kernel_rfl) ?_
 refine R0 ?_
 have hg1:kO n=if riseK n.keys=false then 1 else if n.leaf=true then leafG n else innerG n:=by unfold kO;rw[if_neg h4,if_neg (by rw[hany];exact Bool.false_ne_true)]
 refine jB (fun k=>∀j,j<k→∀x y,n.keys[j]? =some x→n.keys[j+1]? =some y→Lib.compareBytes x y<0) (n.keys.length-1) (fun k=>[(1, .pointer (some ⟨Bd,0,none⟩)),(6, .int .i64 ((k:Int)+1))]) (by simp) (by simp only[go_sem,push_cast,qB,qA]) ?_
 intro k Bk hIk hik hBk
 refine cv (by kernel_rfl) ?_
 rcases Nat.lt_or_ge k (n.keys.length-1)with hltk|hgek
 ·have e1:n.keys[k]? =some (n.keys[k]'(by omega)):=List.getElem?_eq_getElem _
  have e2:n.keys[k+1]? =some (n.keys[k+1]'(by omega)):=List.getElem?_eq_getElem _
  have g1:=kC hk (List.getElem_mem (show k<n.keys.length by omega))
  have g2:=kC hk (List.getElem_mem (show k+1<n.keys.length by omega))
  have c1:((k:Int)+1-1).toNat=k:=by omega
  have c2:((k:Int)+1).toNat=k+1:=by omega
  by_cases hq:0≤Lib.compareBytes (n.keys[k]'(by omega)) (n.keys[k+1]'(by omega))
  ·have e:kO n=1:=by rw[hg1,if_pos (riseK_no e1 e2 (by omega))]
   exact R (cj e1 (cj e2 (cj c1 (cj c2 (cj g1 (cj g2 (cj hq e))))))) trivial
  ·refine R (cj e1 (cj e2 (cj c1 (cj c2 (cj g1 (cj g2 hq)))))) ?_
   intro j hj x y j1 j2
   by_cases e:j=k
   ·subst e;rw[e1]at j1;rw[e2]at j2;cases j1;cases j2;omega
   ·exact hIk j (by omega) x y j1 j2
 ·refine R0 ?_
  refine cv (by kernel_rfl) ?_
  have hr:riseK n.keys=true:=riseK_yes fun j x y j1 j2=>hIk j (by have:=(List.getElem?_eq_some_iff.1 j2).1;omega) x y j1 j2
  have hg2:kO n=if n.leaf=true then leafG n else innerG n:=by rw[hg1,if_neg (by simp[hr])]
  by_cases hl:n.leaf=true
  ·rw[if_pos hl]at hg2
   rw[hg2]
   by_cases hq:n.values.length≠n.keys.length∨0<n.kids.length
   ·have e:leafG n=1:=by unfold leafG;rw[if_pos hq]
    by_cases hq1:n.values.length=n.keys.length
    ·have hq2:0<n.kids.length:=hq.resolve_left (by simpa using hq1)
     exact R (cj hl (cj hq1 (cj hq2 e))) trivial
    ·have hq3:¬(n.values.length:Int)=n.keys.length:=by omega
     exact R (cj hl (cj hq1 (cj hq3 e))) trivial
   ·have hq1:n.values.length=n.keys.length:=Decidable.not_not.1 fun h=>hq (.inl h)
    have hq2:¬0<n.kids.length:=fun h=>hq (.inr h)
    have e:leafG n=if n.values.any vBad=true then 3 else 0:=by unfold leafG;rw[if_neg hq]
    rw[e]
    by_cases hq3:n.values.any vBad=true
    ·rw[if_pos hq3]
     exact R (cj hl (cj hq1 (cj hq2 (cj hv hq3)))) trivial
    ·rw[if_neg hq3]
     exact R (cj hl (cj hq1 (cj hq2 (cj hv hq3)))) trivial
  ·rw[if_neg hl]at hg2
   rw[hg2]
   have hl2:n.leaf=false:=by simpa using hl
   by_cases hq:n.keys.length<1∨0<n.values.length∨n.kids.length≠n.keys.length+1
   ·have e:innerG n=1:=by unfold innerG;rw[if_pos hq]
    by_cases hq1:n.keys.length<1
    ·have hq0:n.keys.length=0:=by omega
     exact R (cj hl2 (cj hq1 (cj hq0 e))) trivial
    ·have hq0:¬(n.keys.length:Int)=0:=by omega
     by_cases hq2:0<n.values.length
     ·exact R (cj hl2 (cj hq1 (cj hq0 (cj hq2 e)))) trivial
     ·have hq3:¬(n.kids.length:Int)=(n.keys.length:Int)+1:=by
       rcases hq with h|h|h <;>omega
      exact R (cj hl2 (cj hq1 (cj hq0 (cj hq2 (cj hq3 e))))) trivial
   ·have hq1:¬n.keys.length<1:=fun h=>hq (.inl h)
    have hq0:¬(n.keys.length:Int)=0:=by omega
    have hq2:¬0<n.values.length:=fun h=>hq (.inr (.inl h))
    have hq3:n.kids.length=n.keys.length+1:=Decidable.not_not.1 fun h=>hq (.inr (.inr h))
    have e:innerG n=if n.kids.any pBad=true then 3 else 0:=by unfold innerG;rw[if_neg hq]
    rw[e]
    by_cases hq4:n.kids.any pBad=true
    ·rw[if_pos hq4]
     exact R (cj hl2 (cj hq1 (cj hq0 (cj hq2 (cj hq3 (cj hc hq4)))))) trivial
    ·rw[if_neg hq4]
     exact R (cj hl2 (cj hq1 (cj hq0 (cj hq2 (cj hq3 (cj hc hq4)))))) trivial
def W362:qJ:=fun args H Bd K=>∃(n:GNode),args=[.agg (enc n).toArray]∧((sm n∧kO n=0)∧K (lst (packN' n)) H Bd)
@[go_sem ↓] theorem W362_eq (n_leaf:Bool) (n_keys:List (List UInt8)) (n_values:List Int) (n_kids:List Int):W362 [.agg #[.bool n_leaf,lst n_keys,lst n_values,lst n_kids]] H Bd K=((sm (GNode.mk n_leaf n_keys n_values n_kids)∧kO (GNode.mk n_leaf n_keys n_values n_kids)=0)∧K (lst (packN' (GNode.mk n_leaf n_keys n_values n_kids))) H Bd):=ex1 (GNode.mk n_leaf n_keys n_values n_kids) rfl
set_option maxHeartbeats 2000000 in
theorem W362_ok:OK 362 W362:=by
 rintro args H Bd K ⟨n,rfl,hpre,hK⟩
 refine fnp pok ((Env.base _).add 246 _ W246_ok) [] hK Tryz.func362 Tryz.ntmps362 Tryz.call362 [.tmp 2] fun hb ha=> ?_
 refine jH pok fun cv=> ?_
 obtain⟨hss,hz0⟩:=hpre
 have hN:=node_ok hz0
 have hkl:=hN.kl
 simp only[sm_GNode]at hss
 have hlv:=qY hss.2.2.1
 have hlc:=qY hss.2.2.2
 have h0:qQ (accN n 0)=[.int .u8 ((n.keys.length:Int)%256)]:=by
  show [Value.int .u8 ((u8z (n.keys.length:Int)).toNat:Int)]=_
  rw[vA]
 have h00:(accN n 0).length=1:=rfl
 refine R0 ?_
 refine tr_st (X:=Nat×Nat×Nat) (fun x=>x.1≤n.keys.length∧Bd+1≤x.2.1∧0<x.2.2) (fun x=>n.keys.length-x.1) (fun x=>[(1, .pointer (some ⟨Bd,0,none⟩)),(3, .slice (some ⟨x.2.1,0,some 1⟩) (accN n x.1).length x.2.2),(14,lst n.keys),(15, .int .i64 n.keys.length),(16, .int .i64 x.1)]) (fun x=>upd (upd H Bd (some ⟨[.bool n.leaf,lst n.keys,lst n.values,lst n.kids],true⟩)) x.2.1 (some ⟨qQ (accN n x.1),true⟩)) (0,Bd+1,2) (⟨Nat.zero_le _,Nat.le_refl _,Nat.succ_pos _⟩) (by simp only[go_sem,push_cast,qB,qA,h0,h00];all_goals (try simp only[Value.int.injEq,Value.slice.injEq,true_and,and_true]) <;>all_goals (try(first|trivial|omega|grind))) (by first|exact Le.refl _|simp (disch:=first|assumption|omega) only[go_sem,push_cast,qB,qA,qM,yF,h0,h00]) ?_
 intro x Bx hIx hBx hbx Fx hFx
 refine cv (by kernel_rfl) ?_
 obtain⟨i,m,c⟩:=x
 obtain⟨i1,i2,i3⟩:=hIx
 simp only at i1 i2 i3 hbx
 have hmx:=hb_lt hbx
 have hz:(c=0)=False:=eq_false (by omega)
 have hal:=accN_len hN i i1
 rcases Nat.lt_or_ge i n.keys.length with hlt|hge
 ·have e1:n.keys[i]? =some n.keys[i]:=List.getElem?_eq_getElem hlt
  have hkk:=hN.key _ (List.getElem_mem hlt)
  have hok:=flat_ok n.keys[i]
  have g1:n.keys.getD i []=n.keys[i]:=by rw[List.getD_eq_getElem?_getD,e1];rfl
  have hta:List.take (accN n i).length (qQ (accN n i))=qQ (accN n i):=flat_all1 _
  have hfl:(qQ (accN n i)).length=(accN n i).length:=by rw[jT];exact Nat.mul_one _
  have hfk:(qQ n.keys[i]).length=n.keys[i].length:=by rw[jT];exact Nat.mul_one _
  have hx2:(qQ (accN n i)++[Value.int .u8 ((n.keys[i].length:Int)%256)]).length=(accN n i).length+1:=by rw[List.length_append,hfl];rfl
  have hx1:List.take ((accN n i).length+1) (qQ (accN n i)++[Value.int .u8 ((n.keys[i].length:Int)%256)])=qQ (accN n i)++[Value.int .u8 ((n.keys[i].length:Int)%256)]:=List.take_of_length_le (by rw[hx2];exact Nat.le_refl _)
  have hx4:(qQ (accN n i)++[Value.int .u8 ((n.keys[i].length:Int)%256)]++qQ n.keys[i]).length=(accN n i).length+1+n.keys[i].length:=by rw[List.length_append,hx2,hfk]
  have hx3:List.take ((accN n i).length+1+n.keys[i].length) (qQ (accN n i)++[Value.int .u8 ((n.keys[i].length:Int)%256)]++qQ n.keys[i])=qQ (accN n i)++[Value.int .u8 ((n.keys[i].length:Int)%256)]++qQ n.keys[i]:=List.take_of_length_le (by rw[hx4];exact Nat.le_refl _)
  by_cases hl:n.leaf=true
  ·have hv:=hN.vals hl
   have e2:n.values[i]? =some (n.values[i]'(by omega)):=List.getElem?_eq_getElem _
   have hvr:=hv.2.2 _ (List.getElem_mem (show i<n.values.length by omega))
   have g2:n.values.getD i 0=n.values[i]'(by omega):=by rw[List.getD_eq_getElem?_getD,e2];rfl
   have hok2:=flat_ok (jP (n.values[i]'(by omega)))
   have hent:entN n i=u8z (n.keys[i].length:Int)::(n.keys[i]++jP (n.values[i]'(by omega))):=by unfold entN;rw[if_pos hl,g1,g2];rfl
   have hst:qQ (accN n (i+1))=qQ (accN n i)++[.int .u8 ((n.keys[i].length:Int)%256)]++qQ n.keys[i]++qQ (jP (n.values[i]'(by omega))):=by
    rw[accN_succ,qL,hent,jO,qL]
    show _++([Value.int .u8 ((u8z _).toNat:Int)]++_)=_
    rw[vA]
    simp only[List.append_assoc]
   have hstl:(accN n (i+1)).length=(accN n i).length+1+n.keys[i].length+(jP (n.values[i]'(by omega))).length:=by
    rw[accN_succ,List.length_append,hent,List.length_cons,List.length_append];omega
   have hp2:=jZ (n.values[i]'(by omega))
   refine RA (cj e1 (cj e2 (cj hl (cj hz (cj hok (cj hok2 (cj hvr (cj hta (cj hx1 (cj hx2 (cj hx3 hx4))))))))))) ?_
   refine hFx (i+1,Bx+3,kY ((accN n i).length+1+n.keys[i].length+(jP (n.values[i]'(by omega))).length) (kY ((accN n i).length+1+n.keys[i].length) (kY ((accN n i).length+1) (c-1)-1)-1)) _ _ _ ?_ ?_ (by first|exact Le.refl _|simp (disch:=first|assumption|omega|(simp (disch:=omega) only[qC,qE hb];done)) only[go_sem,push_cast,qB,qA,qM,yF,qC,qE hb,hst,hstl,hl]) (by simp only[go_sem,push_cast,qB,qA]) (by simp only[go_sem,push_cast,qB,qA,hst,hstl,hl];all_goals (try simp only[Value.int.injEq,Value.slice.injEq,true_and,and_true]) <;>all_goals (try(first|trivial|omega|grind)))
   ·show n.keys.length-(i+1)<n.keys.length-i
    omega
   ·exact⟨hlt,show Bd+1≤Bx+3 by omega,kD _ _⟩
  ·have hl2:n.leaf=false:=by simpa using hl
   have hent:entN n i=u8z (n.keys[i].length:Int)::n.keys[i]:=by unfold entN;rw[if_neg hl,g1,List.append_nil]
   have hst:qQ (accN n (i+1))=qQ (accN n i)++[.int .u8 ((n.keys[i].length:Int)%256)]++qQ n.keys[i]:=by
    rw[accN_succ,qL,hent,jO]
    show _++([Value.int .u8 ((u8z _).toNat:Int)]++_)=_
    rw[vA]
    simp only[List.append_assoc]
   have hstl:(accN n (i+1)).length=(accN n i).length+1+n.keys[i].length:=by
    rw[accN_succ,List.length_append,hent,List.length_cons];omega
   refine RA (cj e1 (cj hl2 (cj hz (cj hok (cj hta (cj hx1 (cj hx2 (cj hx3 hx4)))))))) ?_
   refine hFx (i+1,Bx+2,kY ((accN n i).length+1+n.keys[i].length) (kY ((accN n i).length+1) (c-1)-1)) _ _ _ ?_ ?_ (by first|exact Le.refl _|simp (disch:=first|assumption|omega|(simp (disch:=omega) only[qC,qE hb];done)) only[go_sem,push_cast,qB,qA,qM,yF,qC,qE hb,hst,hstl,hl2]) (by simp only[go_sem,push_cast,qB,qA]) (by simp only[go_sem,push_cast,qB,qA,hst,hstl,hl2];all_goals (try simp only[Value.int.injEq,Value.slice.injEq,true_and,and_true]) <;>all_goals (try(first|trivial|omega|grind)))
   ·show n.keys.length-(i+1)<n.keys.length-i
    omega
   ·exact⟨hlt,show Bd+1≤Bx+2 by omega,kD _ _⟩
 ·obtain rfl:i=n.keys.length:=by omega
  refine R0 ?_
  have hK0:accK n 0=accN n n.keys.length:=by simp[accK]
  refine cv (by kernel_rfl) ?_
  refine R0 ?_
  rw[←hK0]at hbx hal ⊢
  refine tr_st (X:=Nat×Nat×Nat) (fun y=>y.1≤n.kids.length∧Bd+1≤y.2.1∧0<y.2.2) (fun y=>n.kids.length-y.1) (fun y=>[(3, .slice (some ⟨y.2.1,0,some 1⟩) (accK n y.1).length y.2.2),(41,lst n.kids),(42, .int .i64 n.kids.length),(43, .int .i64 y.1)]) (fun y=>upd (upd H Bd (some ⟨[.bool n.leaf,lst n.keys,lst n.values,lst n.kids],true⟩)) y.2.1 (some ⟨qQ (accK n y.1),true⟩)) (0,m,c) (⟨Nat.zero_le _,i2,i3⟩) (by simp only[go_sem,push_cast,qB,qA];all_goals (try simp only[Value.int.injEq,Value.slice.injEq,true_and,and_true]) <;>all_goals (try(first|trivial|omega|grind))) (by first|exact Le.refl _|simp (disch:=first|assumption|omega) only[go_sem,push_cast,qB,qA,qM,yF]) ?_
  intro y By hIy hBy hby Fy hFy
  refine cv (by kernel_rfl) ?_
  obtain⟨j,p,d⟩:=y
  obtain⟨j1,j2,j3⟩:=hIy
  simp only at j1 j2 j3 hby
  have hmy:=hb_lt hby
  have hzd:(d=0)=False:=eq_false (by omega)
  have hkl5:n.kids.length≤5:=by
   cases hlf:n.leaf with
   |true=>have:=(hN.vals hlf).2.1;omega
   |false=>have:=(hN.kids hlf).2.2.1;omega
  have hlk:(accK n j).length≤77+5:=by
   have:=accN_len hN n.keys.length (Nat.le_refl _)
   unfold accK
   rw[List.length_append,List.length_map,List.length_take]
   omega
  have hta:List.take (accK n j).length (qQ (accK n j))=qQ (accK n j):=flat_all1 _
  rcases Nat.lt_or_ge j n.kids.length with hltj|hgej
  ·have e1:n.kids[j]? =some n.kids[j]:=List.getElem?_eq_getElem hltj
   have hst:qQ (accK n (j+1))=qQ (accK n j)++[.int .u8 (n.kids[j]%256)]:=by
    rw[accK_succ hltj,qL,qU]
    show _++[Value.int .u8 ((u8z _).toNat:Int)]=_
    rw[vA]
   have hstl:(accK n (j+1)).length=(accK n j).length+1:=by rw[accK_succ hltj,List.length_append];rfl
   refine RA (cj e1 (cj hzd hta)) ?_
   refine hFy (j+1,By+1,kY ((accK n j).length+1) (d-1)) _ _ _ ?_ ?_ (by first|exact Le.refl _|simp (disch:=first|assumption|omega|(simp (disch:=omega) only[qC,qE hb];done)) only[go_sem,push_cast,qB,qA,qM,yF,qC,qE hb,hst,hstl]) (by simp only[go_sem,push_cast,qB,qA]) (by simp only[go_sem,push_cast,qB,qA,hst,hstl];all_goals (try simp only[Value.int.injEq,Value.slice.injEq,true_and,and_true]) <;>all_goals (try(first|trivial|omega|grind)))
   ·show n.kids.length-(j+1)<n.kids.length-j
    omega
   ·exact⟨hltj,show Bd+1≤By+1 by omega,kD _ _⟩
  ·have hpk:accK n j=packN' n:=by unfold accK packN';rw[List.take_of_length_le hgej]
   rw[hpk]at hby ⊢
   refine R0 ?_
   refine Tr.fin2 3 (by simp (disch:=first|assumption|omega) only[qC,qE hb]) (by simp only[go_sem,push_cast,qB,qA];rfl) rfl ?_
   refine cv (by kernel_rfl) ?_
   exact R0 trivial
def W332:qJ:=fun args H Bd K=>∃(kind:Int) (body:List UInt8),args=[.int .i64 kind,lst body]∧((body.length≤91)∧K (.agg (enc (rdN kind body)).toArray) H Bd)
@[go_sem ↓] theorem W332_eq (kind:Int) (body:List UInt8):W332 [.int .i64 kind,lst body] H Bd K=((body.length≤91)∧K (.agg (enc (rdN kind body)).toArray) H Bd):=ex2 kind body rfl
set_option maxHeartbeats 2000000 in
theorem W332_ok:OK 332 W332:=by
 rintro args H Bd K ⟨kind,body,rfl,hpre,hK⟩
 refine fnp pok (((((((((Env.base _).add 215 _ W215_ok).add 289 _ W289_ok).add 288 _ W288_ok).add 218 _ W218_ok).add 235 _ W235_ok).add 361 _ W361_ok).add 362 _ W362_ok).add 219 _ W219_ok) [(1,[],[],(.k 3 (.grp true 10 12 2 [11,12] 13 none (.k 2 .nil) .nil))),(9,[0,1,2,3,4,5,6,7,8,9,10],[⟨0,[],[]⟩,⟨1,[],[]⟩,⟨2,[],[]⟩,⟨3,[],[]⟩,⟨4,[],[1]⟩,⟨5,[],[1]⟩,⟨6,[],[1]⟩,⟨7,[],[]⟩,⟨8,[7],[]⟩,⟨9,[],[]⟩,⟨10,[7],[]⟩], .nil),(11,[0,1,2,3,4,5,6,7],[⟨0,[],[]⟩,⟨1,[],[]⟩,⟨2,[],[]⟩,⟨3,[],[1]⟩,⟨4,[],[]⟩,⟨5,[4],[]⟩,⟨6,[],[]⟩,⟨7,[4],[]⟩], .nil),(15,[],[],(.k 3 (.grp false 56 60 4 [57,58,59,60] 61 none (.k 4 .nil) .nil))),(16,[0,1,2,3,4,5,6,7],[⟨0,[],[]⟩,⟨1,[],[]⟩,⟨2,[],[]⟩,⟨3,[],[1]⟩,⟨4,[],[]⟩,⟨5,[4],[]⟩,⟨6,[],[]⟩,⟨7,[4],[]⟩], .nil),(18,[],[],(.k 4 (.grp false 73 76 3 [74,75,76] 77 none (.k 3 .nil) (.k 1 (.grp false 78 83 5 [79,80,81,82,83] 84 none (.k 5 .nil) .nil)))))] hK Tryz.func332 Tryz.ntmps332 Tryz.call332 [.cell 4 387] fun hb ha=> ?_
 refine jH pok fun cv=> ?_
 by_cases hk:kind≠1∧kind≠2
 ·have e:rdN kind body=⟨3,⟨false,[],[],[]⟩⟩:=by unfold rdN;rw[if_pos hk];rfl
  obtain⟨hk1,hk2⟩:=hk
  exact R (cj hpre (cj hk1 (cj hk2 e))) trivial
 ·by_cases hk1:kind=1
  ·subst hk1
   have hdec:decide ((1:Int)=1)=true:=rfl
   have hone:=vN (body,false)
   refine R (cj hpre hdec) ?_
   refine kB (X:=Nat×List (List UInt8)×List Int×List UInt8×Bool) hb (by omega) 2 [.m (Bd+2) 1, .m (Bd+2) 2] rfl (fun x=>(x.1:Int)≤yI (body,false)∧x.2.1.length≤x.1∧x.2.2.1.length≤x.1∧(∀k∈x.2.1,k.length≤255)∧(true=false→x.2.2.1=[])∧x.2.2.2.1.length≤91∧((x.2.2.2.2=false∧1≤body.length∧∃p,x.2.2.2.1=body.drop p∧prs true body x.1=some (p,x.2.1,x.2.2.1))∨(x.2.2.2.2=true∧(prsN true body).2=false))) (fun x=>(yI (body,false)).toNat-x.1) (fun Nx x=>[(4, .pointer (some ⟨Bd,0,none⟩)),(5, .pointer (some ⟨Bd+1,0,none⟩)),(6, .pointer (some ⟨Bd+2,0,none⟩)),(0, .int .i64 1),(1,lst body),(7, .int .i64 (yI (body,false))),(23, .int .i64 (yI (body,false))),(24, .int .i64 x.1)]) (fun Nx x=>[(Bd,⟨[.int .i64 0, .bool false, .slice none 0 0, .slice none 0 0, .slice none 0 0],true⟩),(Bd+1,⟨[lst x.2.2.2.1, .bool x.2.2.2.2],true⟩),(Bd+2,⟨[.bool true, .slice (some ⟨Nx,0,some 1⟩) x.2.1.length (x.2.1.length+1), .slice (some ⟨Nx+1,0,some 1⟩) x.2.2.1.length (x.2.2.1.length+1), .slice none 0 0],true⟩),(Nx,⟨qQ x.2.1,true⟩),(Nx+1,⟨qQ x.2.2.1,true⟩)]) (0,[],[],(tkS (body,false) 1).1,(tkS (body,false) 1).2) (⟨hone.1,Nat.zero_le _,Nat.zero_le _,(fun k hk=>by cases hk),fun _=>rfl,Nat.le_trans (vK _ _) hpre,rd_init true body⟩) (fun Nx hNx=>(cant)) ?_
   intro Nx x hNx hIx hbx Fx hFx
   simp only[mem_cons,jK]at hbx ⊢
   refine cv (by kernel_rfl) ?_
   obtain⟨i,ks,vs,rest,fd⟩:=x
   obtain⟨i1,i2,i3,iK,i4,i5,i6⟩:=hIx
   simp only at i1 i2 i3 iK i4 i5 i6
   by_cases hgo:(i:Int)<yI (body,false)∧fd=false
   ·obtain⟨hlt,rfl⟩:=hgo
    obtain⟨_,hb1,p,rfl,hp⟩:=i6.resolve_right (fun h=>by cases h.1)
    have hone2:=vN (body.drop p,false)
    have hpair2:=pairV_bd (rq2 (body.drop p,false))
    have hl1:(tkS (body.drop p,false) 1).1.length≤91:=Nat.le_trans (vK _ _) i5
    have hl2:(tkS (tkS (body.drop p,false) 1) (yI (body.drop p,false)).toNat).1.length≤91:=Nat.le_trans (vK _ _) hl1
    have hlE:(rqE true (body.drop p,false)).1.length≤91:=by unfold rqE;split <;>first|exact hl2|exact Nat.le_trans (vK _ _) hl2
    have hlk:(tkV (tkS (body.drop p,false) 1) (yI (body.drop p,false)).toNat).length≤1000000:=by rw[kW];omega
    have hst:=rd_step hp
    refine RA (cj hlt hlk) ?_
    refine hFx (i+1,ks++[rky (body.drop p,false)],vs++[pairV (rq2 (body.drop p,false))],rqE true (body.drop p,false)) _ _ _ ?_ ?_ (by simp only[go_sem,push_cast,qB,qA]) ((by simp (disch:=first|assumption|omega|(simp (disch:=omega) only[qC,qE hb];done)|(simp (disch:=first|omega|(simp (disch:=omega) only[qC,qE hb];done)) only[go_sem,push_cast,qB,qA,qC,qE hb];done)|fail) only[go_sem,push_cast,qB,qA,qM,qG hb,qC,qE hb,jC,qL,qU,jS,jI,jD,jX,jL,List.append_assoc,List.length_append,List.length_cons,List.length_nil,Nat.zero_add,rqE,rky,rq2,↓reduceIte];all_goals (try simp only[Value.int.injEq,Value.slice.injEq,true_and,and_true]) <;>all_goals (try(first|trivial|omega|grind))))
    ·show(yI (body,false)).toNat-(i+1)<(yI (body,false)).toNat-i
     omega
    ·refine⟨show((i+1:Nat):Int)≤_ by omega,(by simp;omega),(by simp;omega),(fun k hk=>(List.mem_append.1 hk).elim (iK k) fun h=>by rw[List.mem_singleton.1 h];unfold rky;rw[kW];omega),(fun h=>by cases h),hlE,?_⟩
     rcases hst with⟨q1,p',q2,q3⟩|⟨q1,q2⟩
     ·exact .inl ⟨q1,hb1,p',q2,q3⟩
     ·exact .inr ⟨q1,prsN_none (prs_none q2 _ (by have:=oneV_cnt hb1;omega))⟩
   ·have hpos:(i:Int)<yI (body,false)→fd=true:=fun h=>by cases fd <;>first|rfl|exact absurd ⟨h,rfl⟩ hgo
    skip
    have i7:(fd=false∧1≤body.length∧∃p,rest=body.drop p∧prs true body (body.getD 0 0).toNat=some (p,ks,vs))∨(fd=true∧(prsN true body).2=false):=by
     rcases i6 with⟨g1,g2,p,g3,g4⟩|h
     ·refine .inl ⟨g1,g2,p,g3,?_⟩
      have hc:=oneV_cnt g2
      have:¬(i:Int)<yI (body,false):=fun h=>by rw[hpos h]at g1;cases g1
      rw[show(body.getD 0 0).toNat=i by omega];exact g4
     ·exact .inr h
    by_cases hlt:(i:Int)<yI (body,false)
    case' pos=>have hfd:=hpos hlt
    case' neg=>have hfd:True:=trivial
    all_goals
     refine R (cj hlt hfd) ?_
     refine Tr.to hb (by omega) 0 [] rfl (fun Nk=>[(4, .pointer (some ⟨Bd,0,none⟩)),(5, .pointer (some ⟨Bd+1,0,none⟩)),(6, .pointer (some ⟨Bd+2,0,none⟩)),(0, .int .i64 1),(1,lst body),(7, .int .i64 (yI (body,false)))]) (fun Nk=>[(Bd,⟨[.int .i64 0, .bool false, .slice none 0 0, .slice none 0 0, .slice none 0 0],true⟩),(Bd+1,⟨[lst rest, .bool fd],true⟩),(Bd+2,⟨[.bool true,lst ks,lst vs, .slice none 0 0],true⟩)]) (fun Nk hNk=>(cant)) ?_
     intro Nk hNk hbk
     simp only[mem_cons,jK]at hbk ⊢
     refine cv (by kernel_rfl) ?_
     refine R0 ?_
     refine kB (X:=Unit) hb (by omega) 0 [] rfl (fun y=>True) (fun y=>0) (fun Ny y=>[(4, .pointer (some ⟨Bd,0,none⟩)),(5, .pointer (some ⟨Bd+1,0,none⟩)),(6, .pointer (some ⟨Bd+2,0,none⟩)),(0, .int .i64 1),(1,lst body),(51, .int .i64 (yI (body,false)+1)),(52, .int .i64 0)]) (fun Ny y=>[(Bd,⟨[.int .i64 0, .bool false, .slice none 0 0, .slice none 0 0, .slice none 0 0],true⟩),(Bd+1,⟨[lst rest, .bool fd],true⟩),(Bd+2,⟨[.bool true,lst ks,lst vs,lst ([]:List Int)],true⟩)]) () (trivial) (fun Ny hNy=>(cant)) ?_
     intro Ny y hNy hIy hby Fy hFy
     simp only[mem_cons,jK]at hby ⊢
     refine cv (by kernel_rfl) ?_
     simp (maxSteps:=2000000) (disch:=first|assumption|(refine qI ?_;assumption)|exact Nat.le_add_right _ _|exact Nat.le_refl _|omega|(simp (disch:=first|exact Nat.le_add_right _ _|omega) only[qG hb,qR hb,qM,qE hb,qC];done)|fail) only[go_sem,push_cast,qB,qA,qG hb,qE hb,show(0:Int)<yI (body,false)+1 by omega]
     refine cv (by kernel_rfl) ?_
     have hF:=rd_fin (kids:=[]) (.inl rfl) hdec (i7.imp (fun⟨g1,g2,p,g3,g4⟩=>⟨g1,g2,p,g4,rfl,g3⟩) id)
     have hsm:sm (⟨true,ks,vs,[]⟩:GNode):=⟨trivial,⟨show ks.length≤281474976710656 by omega,fun k hk=>⟨by have:=iK k hk;omega,fun _ _=>trivial⟩⟩,(yR _).2 (show vs.length≤281474976710656 by omega),(yR _).2 (by simp)⟩
     have hsp:∀ {b},fd=b→endV (rest,fd)=endV (rest,b):=fun h=>by rw[h]
     have hxs:rest.length≤1000000:=by omega
     by_cases hE:endV (rest,fd)=true
     ·by_cases hZ:kO ⟨true,ks,vs,[]⟩=0
      ·obtain⟨g1,g2⟩:=hF.1 hE hZ
       exact R (cj hxs (cj hE (cj hZ (cj hsm (cj g1 g2))))) trivial
      ·have g2:rdN _ body=⟨5,⟨false,[],[],[]⟩⟩:=hF.2 (.inr hZ)
       exact R (cj hxs (cj hE (cj hZ (cj hsm g2)))) trivial
     ·have g2:rdN _ body=⟨5,⟨false,[],[],[]⟩⟩:=hF.2 (.inl (by simpa using hE))
      exact R (cj hxs (cj hE g2)) trivial
  ·have hk2:kind=2:=Decidable.not_not.1 fun h=>hk ⟨hk1,h⟩
   subst hk2
   have hdec:decide ((2:Int)=1)=false:=rfl
   have hone:=vN (body,false)
   refine R (cj hpre hdec) ?_
   refine kB (X:=Nat×List (List UInt8)×List Int×List UInt8×Bool) hb (by omega) 1 [.m (Bd+2) 1] rfl (fun x=>(x.1:Int)≤yI (body,false)∧x.2.1.length≤x.1∧x.2.2.1.length≤x.1∧(∀k∈x.2.1,k.length≤255)∧(false=false→x.2.2.1=[])∧x.2.2.2.1.length≤91∧((x.2.2.2.2=false∧1≤body.length∧∃p,x.2.2.2.1=body.drop p∧prs false body x.1=some (p,x.2.1,x.2.2.1))∨(x.2.2.2.2=true∧(prsN false body).2=false))) (fun x=>(yI (body,false)).toNat-x.1) (fun Nx x=>[(4, .pointer (some ⟨Bd,0,none⟩)),(5, .pointer (some ⟨Bd+1,0,none⟩)),(6, .pointer (some ⟨Bd+2,0,none⟩)),(0, .int .i64 2),(1,lst body),(7, .int .i64 (yI (body,false))),(23, .int .i64 (yI (body,false))),(24, .int .i64 x.1)]) (fun Nx x=>[(Bd,⟨[.int .i64 0, .bool false, .slice none 0 0, .slice none 0 0, .slice none 0 0],true⟩),(Bd+1,⟨[lst x.2.2.2.1, .bool x.2.2.2.2],true⟩),(Bd+2,⟨[.bool false, .slice (some ⟨Nx,0,some 1⟩) x.2.1.length (x.2.1.length+1), .slice none 0 0, .slice none 0 0],true⟩),(Nx,⟨qQ x.2.1,true⟩)]) (0,[],[],(tkS (body,false) 1).1,(tkS (body,false) 1).2) (⟨hone.1,Nat.zero_le _,Nat.zero_le _,(fun k hk=>by cases hk),fun _=>rfl,Nat.le_trans (vK _ _) hpre,rd_init false body⟩) (fun Nx hNx=>(cant)) ?_
   intro Nx x hNx hIx hbx Fx hFx
   simp only[mem_cons,jK]at hbx ⊢
   refine cv (by kernel_rfl) ?_
   obtain⟨i,ks,vs,rest,fd⟩:=x
   obtain⟨i1,i2,i3,iK,i4,i5,i6⟩:=hIx
   simp only at i1 i2 i3 iK i4 i5 i6
   by_cases hgo:(i:Int)<yI (body,false)∧fd=false
   ·obtain⟨hlt,rfl⟩:=hgo
    obtain⟨_,hb1,p,rfl,hp⟩:=i6.resolve_right (fun h=>by cases h.1)
    have hone2:=vN (body.drop p,false)
    have hpair2:=pairV_bd (rq2 (body.drop p,false))
    have hl1:(tkS (body.drop p,false) 1).1.length≤91:=Nat.le_trans (vK _ _) i5
    have hl2:(tkS (tkS (body.drop p,false) 1) (yI (body.drop p,false)).toNat).1.length≤91:=Nat.le_trans (vK _ _) hl1
    have hlE:(rqE false (body.drop p,false)).1.length≤91:=by unfold rqE;split <;>first|exact hl2|exact Nat.le_trans (vK _ _) hl2
    have hlk:(tkV (tkS (body.drop p,false) 1) (yI (body.drop p,false)).toNat).length≤1000000:=by rw[kW];omega
    have hst:=rd_step hp
    refine RA (cj hlt hlk) ?_
    refine hFx (i+1,ks++[rky (body.drop p,false)],vs,rqE false (body.drop p,false)) _ _ _ ?_ ?_ (by simp only[go_sem,push_cast,qB,qA]) ((by simp (disch:=first|assumption|omega|(simp (disch:=omega) only[qC,qE hb];done)|(simp (disch:=first|omega|(simp (disch:=omega) only[qC,qE hb];done)) only[go_sem,push_cast,qB,qA,qC,qE hb];done)|fail) only[go_sem,push_cast,qB,qA,qM,qG hb,qC,qE hb,jC,qL,qU,jS,jI,jD,jX,jL,List.append_assoc,List.length_append,List.length_cons,List.length_nil,Nat.zero_add,rqE,rky,rq2,↓reduceIte];all_goals (try simp only[Value.int.injEq,Value.slice.injEq,true_and,and_true]) <;>all_goals (try(first|trivial|omega|grind))))
    ·show(yI (body,false)).toNat-(i+1)<(yI (body,false)).toNat-i
     omega
    ·refine⟨show((i+1:Nat):Int)≤_ by omega,(by simp;omega),(by simp;omega),(fun k hk=>(List.mem_append.1 hk).elim (iK k) fun h=>by rw[List.mem_singleton.1 h];unfold rky;rw[kW];omega),(fun _=>i4 trivial),hlE,?_⟩
     rcases hst with⟨q1,p',q2,q3⟩|⟨q1,q2⟩
     ·exact .inl ⟨q1,hb1,p',q2,q3⟩
     ·exact .inr ⟨q1,prsN_none (prs_none q2 _ (by have:=oneV_cnt hb1;omega))⟩
   ·have hpos:(i:Int)<yI (body,false)→fd=true:=fun h=>by cases fd <;>first|rfl|exact absurd ⟨h,rfl⟩ hgo
    have hv0:vs=[]:=i4 trivial
    have i7:(fd=false∧1≤body.length∧∃p,rest=body.drop p∧prs false body (body.getD 0 0).toNat=some (p,ks,vs))∨(fd=true∧(prsN false body).2=false):=by
     rcases i6 with⟨g1,g2,p,g3,g4⟩|h
     ·refine .inl ⟨g1,g2,p,g3,?_⟩
      have hc:=oneV_cnt g2
      have:¬(i:Int)<yI (body,false):=fun h=>by rw[hpos h]at g1;cases g1
      rw[show(body.getD 0 0).toNat=i by omega];exact g4
     ·exact .inr h
    by_cases hlt:(i:Int)<yI (body,false)
    case' pos=>have hfd:=hpos hlt
    case' neg=>have hfd:True:=trivial
    all_goals
     refine R (cj hlt hfd) ?_
     refine Tr.to hb (by omega) 0 [] rfl (fun Nk=>[(4, .pointer (some ⟨Bd,0,none⟩)),(5, .pointer (some ⟨Bd+1,0,none⟩)),(6, .pointer (some ⟨Bd+2,0,none⟩)),(0, .int .i64 2),(1,lst body),(7, .int .i64 (yI (body,false)))]) (fun Nk=>[(Bd,⟨[.int .i64 0, .bool false, .slice none 0 0, .slice none 0 0, .slice none 0 0],true⟩),(Bd+1,⟨[lst rest, .bool fd],true⟩),(Bd+2,⟨[.bool false,lst ks,lst vs, .slice none 0 0],true⟩)]) (fun Nk hNk=>(cant)) ?_
     intro Nk hNk hbk
     simp only[mem_cons,jK]at hbk ⊢
     refine cv (by kernel_rfl) ?_
     refine R0 ?_
     refine kB (X:=Nat×List Int×List UInt8×Bool) hb (by omega) 1 [.m (Bd+2) 3] rfl (fun y=>(y.1:Int)≤yI (body,false)+1∧y.2.1.length≤y.1∧y.2.2.1.length≤91∧((y.2.2.2=false∧1≤body.length∧∃p,prs false body (body.getD 0 0).toNat=some (p,ks,vs)∧y.2.1=vI body p y.1∧p+y.1≤body.length∧y.2.2.1=body.drop (p+y.1))∨(y.2.2.2=true∧(prsN false body).2=false))) (fun y=>(yI (body,false)+1).toNat-y.1) (fun Ny y=>[(4, .pointer (some ⟨Bd,0,none⟩)),(5, .pointer (some ⟨Bd+1,0,none⟩)),(6, .pointer (some ⟨Bd+2,0,none⟩)),(0, .int .i64 2),(1,lst body),(51, .int .i64 (yI (body,false)+1)),(52, .int .i64 y.1)]) (fun Ny y=>[(Bd,⟨[.int .i64 0, .bool false, .slice none 0 0, .slice none 0 0, .slice none 0 0],true⟩),(Bd+1,⟨[lst y.2.2.1, .bool y.2.2.2],true⟩),(Bd+2,⟨[.bool false,lst ks,lst vs, .slice (some ⟨Ny,0,some 1⟩) y.2.1.length (y.2.1.length+1)],true⟩),(Ny,⟨qQ y.2.1,true⟩)]) (0,[],rest,fd) (⟨show(0:Int)≤_ by omega,Nat.zero_le _,i5,i7.imp (fun⟨g1,g2,p,g3,g4⟩=>⟨g1,g2,p,g4,by simp[vI],prs_le g2 g4,g3⟩) id⟩) (fun Ny hNy=>(cant)) ?_
     intro Ny y hNy hIy hby Fy hFy
     simp only[mem_cons,jK]at hby ⊢
     refine cv (by kernel_rfl) ?_
     obtain⟨j,kids,rest2,f2⟩:=y
     obtain⟨j1,j2,j3,j4⟩:=hIy
     simp only at j1 j2 j3 j4
     by_cases hg2:(j:Int)<yI (body,false)+1∧f2=false
     ·obtain⟨hlt2,rfl⟩:=hg2
      obtain⟨_,hb1,p,hp,rfl,hpj,rfl⟩:=j4.resolve_right (fun h=>by cases h.1)
      have hone2:=vN (body.drop (p+j),false)
      have hl1:(tkS (body.drop (p+j),false) 1).1.length≤91:=Nat.le_trans (vK _ _) j3
      refine RA hlt2 ?_
      refine hFy (j+1,vI body p j++[yI (body.drop (p+j),false)],tkS (body.drop (p+j),false) 1) _ _ _ ?_ ?_ (by simp only[go_sem,push_cast,qB,qA]) ((cant))
      ·show(yI (body,false)+1).toNat-(j+1)<(yI (body,false)+1).toNat-j
       omega
      ·refine⟨show((j+1:Nat):Int)≤_ by omega,(by simp;omega),hl1,?_⟩
       by_cases hq:p+j<body.length
       ·refine .inl ⟨by rw[tkS_ok (by rw[List.length_drop];omega)],hb1,p,hp,?_,hq,by rw[tkS_ok (by rw[List.length_drop];omega),List.drop_drop];rfl⟩
        show _=vI body p (j+1)
        rw[kidsB_succ hq,oneV_at hq]
        simp[List.getD_eq_getElem?_getD,List.getElem?_eq_getElem hq]
       ·have hcn:=oneV_cnt hb1
        refine .inr ⟨by rw[tkS_no (by rw[List.length_drop];omega)],prsN_bad hp fun⟨h1,h2⟩=> ?_⟩
        have hk:=((node_ok h2).kids rfl).2.2.1
        have hkl:=(prs_len hp).1
        simp only at hk
        omega
     ·have hpos2:(j:Int)<yI (body,false)+1→f2=true:=fun h=>by cases f2 <;>first|rfl|exact absurd ⟨h,rfl⟩ hg2
      have j5:(f2=false∧1≤body.length∧∃p,prs false body (body.getD 0 0).toNat=some (p,ks,vs)∧kids=kidsE false body p ((body.getD 0 0).toNat+1)∧rest2=body.drop (p+kids.length))∨(f2=true∧(prsN false body).2=false):=by
       rcases j4 with⟨g1,g2,p,g3,g4,g5,g6⟩|h
       ·refine .inl ⟨g1,g2,p,g3,?_,by rw[g6,g4,kidsB_len g5]⟩
        have hc:=oneV_cnt g2
        have:¬(j:Int)<yI (body,false)+1:=fun h=>by rw[hpos2 h]at g1;cases g1
        rw[g4,show j=(body.getD 0 0).toNat+1 by omega];rfl
       ·exact .inr h
      have hF:=rd_fin (.inr rfl) hdec j5
      by_cases hlt2:(j:Int)<yI (body,false)+1
      case' pos=>have hf2:=hpos2 hlt2
      case' neg=>have hf2:True:=trivial
      all_goals
       refine R (cj hlt2 hf2) ?_
       refine Tr.to hb (by omega) 0 [] rfl (fun Nl=>[(4, .pointer (some ⟨Bd,0,none⟩)),(5, .pointer (some ⟨Bd+1,0,none⟩)),(6, .pointer (some ⟨Bd+2,0,none⟩)),(0, .int .i64 2),(1,lst body)]) (fun Nl=>[(Bd,⟨[.int .i64 0, .bool false, .slice none 0 0, .slice none 0 0, .slice none 0 0],true⟩),(Bd+1,⟨[lst rest2, .bool f2],true⟩),(Bd+2,⟨[.bool false,lst ks,lst vs,lst kids],true⟩)]) (fun Nl hNl=>(cant)) ?_
       intro Nl hNl hbl
       simp only[mem_cons,jK]at hbl ⊢
       refine cv (by kernel_rfl) ?_
       have hsm:sm (⟨false,ks,vs,kids⟩:GNode):=⟨trivial,⟨show ks.length≤281474976710656 by omega,fun k hk=>⟨by have:=iK k hk;omega,fun _ _=>trivial⟩⟩,(yR _).2 (show vs.length≤281474976710656 by omega),(yR _).2 (show kids.length≤281474976710656 by omega)⟩
       have hxs:rest2.length≤1000000:=by omega
       by_cases hE:endV (rest2,f2)=true
       ·by_cases hZ:kO ⟨false,ks,vs,kids⟩=0
        ·obtain⟨g1,g2⟩:=hF.1 hE hZ
         exact R (cj hxs (cj hE (cj hZ (cj hsm (cj g1 g2))))) trivial
        ·have g2:rdN _ body=⟨5,⟨false,[],[],[]⟩⟩:=hF.2 (.inr hZ)
         exact R (cj hxs (cj hE (cj hZ (cj hsm g2)))) trivial
       ·have g2:rdN _ body=⟨5,⟨false,[],[],[]⟩⟩:=hF.2 (.inl (by simpa using hE))
        exact R (cj hxs (cj hE g2)) trivial
def W302:qJ:=fun args H Bd K=>∃(d:GDisk) (id:Int),args=[.agg (enc d).toArray, .int .i64 id]∧((sm d∧DiskOK d∧R64 id)∧K (.tuple #[.agg (enc ((jQ d id).1)).toArray, .int .i64 ((jQ d id).2)]) H Bd)
@[go_sem ↓] theorem W302_eq (d_sectors:List (List UInt8)) (d_pending:List GPut) (id:Int):W302 [.agg #[lst d_sectors,lst d_pending], .int .i64 id] H Bd K=((sm (GDisk.mk d_sectors d_pending)∧DiskOK (GDisk.mk d_sectors d_pending)∧R64 id)∧K (.tuple #[.agg (enc ((jQ (GDisk.mk d_sectors d_pending) id).1)).toArray, .int .i64 ((jQ (GDisk.mk d_sectors d_pending) id).2)]) H Bd):=ex2 (GDisk.mk d_sectors d_pending) id rfl
set_option maxHeartbeats 2000000 in
theorem W302_ok:OK 302 W302:=by
 rintro args H Bd K ⟨d,id,rfl,hpre,hK⟩
 refine yE pok (((Env.base _).add 122 _ W122_ok).add 332 _ W332_ok) [(5,[0,1,2,3,4,5],[⟨0,[],[]⟩,⟨1,[],[]⟩,⟨2,[],[]⟩,⟨3,[],[]⟩,⟨4,[],[3]⟩,⟨5,[],[]⟩], .nil)] _ hK Tryz.func302 rfl (rs:=[.cell 4 327, .tmp 5]) rfl Tryz.ntmps302 (by simp) Tryz.call302 (by kernel_rfl) (fun ha hb=>tup_nb ⟨agg_nb _ _, .int _ _,trivial⟩) (fun hb ha=> ?_)
 obtain⟨h1,h2,h3⟩:=hpre
 have hl:=h2.len
 by_cases hr:2≤id∧id≤(d.sectors.length:Int)-1
 case neg=>
  have e:jQ d id=(⟨false,[],[],[]⟩,3):=by unfold jQ;rw[if_pos hr];rfl
  have hp:pageD d id=(⟨0,0,[]⟩,3):=by unfold pageD;rw[if_pos hr];rfl
  exact R (cj h1 (cj h2 (cj h3 (cj hp e)))) trivial
 obtain⟨hr1,hr2⟩:=hr
 have hlen:=readD_len h2 (n:=id) (by omega) (by omega)
 have hlt:id<d.sectors.length:=by omega
 have hge0:0≤id:=by omega
 have h63:id≤63:=by omega
 have hr3:¬ ¬(2≤id∧id≤(d.sectors.length:Int)-1):=fun h=>h ⟨hr1,hr2⟩
 have hp:pageD d id=qV (yD d id) id:=by unfold pageD;rw[if_neg hr3]
 by_cases hc:(qV (yD d id) id).2=0
 case neg=>
  have e:jQ d id=(⟨false,[],[],[]⟩,(qV (yD d id) id).2):=by unfold jQ;rw[if_neg hr3,if_pos hc];rfl
  exact R (cj h1 (cj h2 (cj h3 (cj hp (cj hc e))))) trivial
 have e:jQ d id=((rdN (qV (yD d id) id).1.kind (qV (yD d id) id).1.body).node,(rdN (qV (yD d id) id).1.kind (qV (yD d id) id).1.body).code):=by unfold jQ;rw[if_neg hr3,if_neg (by simpa using hc)]
 have hbl:=(pageF_ok (readPg_ok hc).1).2.2
 exact RA (cj h1 (cj h2 (cj h3 (cj hp (cj hc (cj e hbl)))))) trivial
def W245:qJ:=fun args H Bd K=>∃(n:Nat) (id:Int) (depth:Int) (plow:Value) (phigh:Value),args=[.pointer (some ⟨n,0,none⟩), .int .i64 id, .int .i64 depth,plow,phigh]∧Yld (H n) fun b=>Yld (yG twB b) fun x=>Yld (H (x.2.2.1)) fun b0=>Yld (yG (flB (α:=Int)) b0) fun pages=>Yld (H (x.2.2.2.2.2.1)) fun b1=>Yld (yG (flB (α:=GRow)) b1) fun rows=>Yld (bvOf plow) fun low=>Yld (bvOf phigh) fun high=>(x.2.2.2.1=(pages).length∧x.2.2.2.2.1=x.2.2.2.1+1∧n≠x.2.2.1∧x.2.2.2.2.2.2.1=(rows).length∧x.2.2.2.2.2.2.2.1=x.2.2.2.2.2.2.1+1∧n≠x.2.2.2.2.2.1∧x.2.2.1≠x.2.2.2.2.2.1∧(sm (⟨x.1,x.2.1⟩:GDisk)∧DiskOK ⟨x.1,x.2.1⟩∧R64 id∧1≤depth∧depth≤5∧low.length≤16∧high.length≤16∧pages.length+6^(6-depth).toNat≤100000∧rows.length+4*6^(6-depth).toNat≤400000))∧K (.int .i64 ((vis (fun l n=>l++[n]) ⟨x.1,x.2.1⟩ (6-depth).toNat id low high depth ⟨pages,rows,x.2.2.2.2.2.2.2.2⟩)).1) (upd (upd (upd (upd (upd (upd H n none) (x.2.2.1) none) (x.2.2.2.2.2.1) none) n (some ⟨[lst x.1,lst x.2.1, .slice (some ⟨Bd,0,some 1⟩) (((vis (fun l n=>l++[n]) ⟨x.1,x.2.1⟩ (6-depth).toNat id low high depth ⟨pages,rows,x.2.2.2.2.2.2.2.2⟩)).2.pages).length ((((vis (fun l n=>l++[n]) ⟨x.1,x.2.1⟩ (6-depth).toNat id low high depth ⟨pages,rows,x.2.2.2.2.2.2.2.2⟩)).2.pages).length+1), .slice (some ⟨Bd+1,0,some 2⟩) (((vis (fun l n=>l++[n]) ⟨x.1,x.2.1⟩ (6-depth).toNat id low high depth ⟨pages,rows,x.2.2.2.2.2.2.2.2⟩)).2.rows).length ((((vis (fun l n=>l++[n]) ⟨x.1,x.2.1⟩ (6-depth).toNat id low high depth ⟨pages,rows,x.2.2.2.2.2.2.2.2⟩)).2.rows).length+1), .int .i64 ((vis (fun l n=>l++[n]) ⟨x.1,x.2.1⟩ (6-depth).toNat id low high depth ⟨pages,rows,x.2.2.2.2.2.2.2.2⟩)).2.deep],true⟩)) Bd (some ⟨qQ (((vis (fun l n=>l++[n]) ⟨x.1,x.2.1⟩ (6-depth).toNat id low high depth ⟨pages,rows,x.2.2.2.2.2.2.2.2⟩)).2.pages),true⟩)) (Bd+1) (some ⟨qQ (((vis (fun l n=>l++[n]) ⟨x.1,x.2.1⟩ (6-depth).toNat id low high depth ⟨pages,rows,x.2.2.2.2.2.2.2.2⟩)).2.rows),true⟩)) (Bd+2)
@[go_sem ↓] theorem W245_eq (n:Nat) (id:Int) (depth:Int) (plow:Value) (phigh:Value):W245 [.pointer (some ⟨n,0,none⟩), .int .i64 id, .int .i64 depth,plow,phigh] H Bd K=(Yld (H n) fun b=>Yld (yG twB b) fun x=>Yld (H (x.2.2.1)) fun b0=>Yld (yG (flB (α:=Int)) b0) fun pages=>Yld (H (x.2.2.2.2.2.1)) fun b1=>Yld (yG (flB (α:=GRow)) b1) fun rows=>Yld (bvOf plow) fun low=>Yld (bvOf phigh) fun high=>(x.2.2.2.1=(pages).length∧x.2.2.2.2.1=x.2.2.2.1+1∧n≠x.2.2.1∧x.2.2.2.2.2.2.1=(rows).length∧x.2.2.2.2.2.2.2.1=x.2.2.2.2.2.2.1+1∧n≠x.2.2.2.2.2.1∧x.2.2.1≠x.2.2.2.2.2.1∧(sm (⟨x.1,x.2.1⟩:GDisk)∧DiskOK ⟨x.1,x.2.1⟩∧R64 id∧1≤depth∧depth≤5∧low.length≤16∧high.length≤16∧pages.length+6^(6-depth).toNat≤100000∧rows.length+4*6^(6-depth).toNat≤400000))∧K (.int .i64 ((vis (fun l n=>l++[n]) ⟨x.1,x.2.1⟩ (6-depth).toNat id low high depth ⟨pages,rows,x.2.2.2.2.2.2.2.2⟩)).1) (upd (upd (upd (upd (upd (upd H n none) (x.2.2.1) none) (x.2.2.2.2.2.1) none) n (some ⟨[lst x.1,lst x.2.1, .slice (some ⟨Bd,0,some 1⟩) (((vis (fun l n=>l++[n]) ⟨x.1,x.2.1⟩ (6-depth).toNat id low high depth ⟨pages,rows,x.2.2.2.2.2.2.2.2⟩)).2.pages).length ((((vis (fun l n=>l++[n]) ⟨x.1,x.2.1⟩ (6-depth).toNat id low high depth ⟨pages,rows,x.2.2.2.2.2.2.2.2⟩)).2.pages).length+1), .slice (some ⟨Bd+1,0,some 2⟩) (((vis (fun l n=>l++[n]) ⟨x.1,x.2.1⟩ (6-depth).toNat id low high depth ⟨pages,rows,x.2.2.2.2.2.2.2.2⟩)).2.rows).length ((((vis (fun l n=>l++[n]) ⟨x.1,x.2.1⟩ (6-depth).toNat id low high depth ⟨pages,rows,x.2.2.2.2.2.2.2.2⟩)).2.rows).length+1), .int .i64 ((vis (fun l n=>l++[n]) ⟨x.1,x.2.1⟩ (6-depth).toNat id low high depth ⟨pages,rows,x.2.2.2.2.2.2.2.2⟩)).2.deep],true⟩)) Bd (some ⟨qQ (((vis (fun l n=>l++[n]) ⟨x.1,x.2.1⟩ (6-depth).toNat id low high depth ⟨pages,rows,x.2.2.2.2.2.2.2.2⟩)).2.pages),true⟩)) (Bd+1) (some ⟨qQ (((vis (fun l n=>l++[n]) ⟨x.1,x.2.1⟩ (6-depth).toNat id low high depth ⟨pages,rows,x.2.2.2.2.2.2.2.2⟩)).2.rows),true⟩)) (Bd+2)):=by
 refine propext ⟨fun h=> ?_,fun h=>⟨_,_,_,_,_,rfl,h⟩⟩
 obtain⟨n',id',depth',plow',phigh',e,h⟩:=h
 simp only[List.cons.injEq,Value.agg.injEq,jE,Value.int.injEq,Value.bool.injEq,Value.string.injEq,Value.pointer.injEq,Option.some.injEq,Addr.mk.injEq,lst_inj,true_and,and_true]at e
 obtain⟨rfl,rfl,rfl,rfl,rfl⟩:=e
 exact h
def R245(N:Nat):qJ:=fun args H Bd K=>∃(n:Nat) (id:Int) (depth:Int) (plow:Value) (phigh:Value),args=[.pointer (some ⟨n,0,none⟩), .int .i64 id, .int .i64 depth,plow,phigh]∧Yld (H n) fun b=>Yld (yG twB b) fun x=>Yld (H (x.2.2.1)) fun b0=>Yld (yG (flB (α:=Int)) b0) fun pages=>Yld (H (x.2.2.2.2.2.1)) fun b1=>Yld (yG (flB (α:=GRow)) b1) fun rows=>Yld (bvOf plow) fun low=>Yld (bvOf phigh) fun high=>(x.2.2.2.1=(pages).length∧x.2.2.2.2.1=x.2.2.2.1+1∧n≠x.2.2.1∧x.2.2.2.2.2.2.1=(rows).length∧x.2.2.2.2.2.2.2.1=x.2.2.2.2.2.2.1+1∧n≠x.2.2.2.2.2.1∧x.2.2.1≠x.2.2.2.2.2.1∧(sm (⟨x.1,x.2.1⟩:GDisk)∧DiskOK ⟨x.1,x.2.1⟩∧R64 id∧1≤depth∧depth≤5∧low.length≤16∧high.length≤16∧pages.length+6^(6-depth).toNat≤100000∧rows.length+4*6^(6-depth).toNat≤400000)∧(6-depth).toNat<N)∧K (.int .i64 ((vis (fun l n=>l++[n]) ⟨x.1,x.2.1⟩ (6-depth).toNat id low high depth ⟨pages,rows,x.2.2.2.2.2.2.2.2⟩)).1) (upd (upd (upd (upd (upd (upd H n none) (x.2.2.1) none) (x.2.2.2.2.2.1) none) n (some ⟨[lst x.1,lst x.2.1, .slice (some ⟨Bd,0,some 1⟩) (((vis (fun l n=>l++[n]) ⟨x.1,x.2.1⟩ (6-depth).toNat id low high depth ⟨pages,rows,x.2.2.2.2.2.2.2.2⟩)).2.pages).length ((((vis (fun l n=>l++[n]) ⟨x.1,x.2.1⟩ (6-depth).toNat id low high depth ⟨pages,rows,x.2.2.2.2.2.2.2.2⟩)).2.pages).length+1), .slice (some ⟨Bd+1,0,some 2⟩) (((vis (fun l n=>l++[n]) ⟨x.1,x.2.1⟩ (6-depth).toNat id low high depth ⟨pages,rows,x.2.2.2.2.2.2.2.2⟩)).2.rows).length ((((vis (fun l n=>l++[n]) ⟨x.1,x.2.1⟩ (6-depth).toNat id low high depth ⟨pages,rows,x.2.2.2.2.2.2.2.2⟩)).2.rows).length+1), .int .i64 ((vis (fun l n=>l++[n]) ⟨x.1,x.2.1⟩ (6-depth).toNat id low high depth ⟨pages,rows,x.2.2.2.2.2.2.2.2⟩)).2.deep],true⟩)) Bd (some ⟨qQ (((vis (fun l n=>l++[n]) ⟨x.1,x.2.1⟩ (6-depth).toNat id low high depth ⟨pages,rows,x.2.2.2.2.2.2.2.2⟩)).2.pages),true⟩)) (Bd+1) (some ⟨qQ (((vis (fun l n=>l++[n]) ⟨x.1,x.2.1⟩ (6-depth).toNat id low high depth ⟨pages,rows,x.2.2.2.2.2.2.2.2⟩)).2.rows),true⟩)) (Bd+2)
@[go_sem ↓] theorem R245_eq (N:Nat) (n:Nat) (id:Int) (depth:Int) (plow:Value) (phigh:Value):R245 N [.pointer (some ⟨n,0,none⟩), .int .i64 id, .int .i64 depth,plow,phigh] H Bd K=(Yld (H n) fun b=>Yld (yG twB b) fun x=>Yld (H (x.2.2.1)) fun b0=>Yld (yG (flB (α:=Int)) b0) fun pages=>Yld (H (x.2.2.2.2.2.1)) fun b1=>Yld (yG (flB (α:=GRow)) b1) fun rows=>Yld (bvOf plow) fun low=>Yld (bvOf phigh) fun high=>(x.2.2.2.1=(pages).length∧x.2.2.2.2.1=x.2.2.2.1+1∧n≠x.2.2.1∧x.2.2.2.2.2.2.1=(rows).length∧x.2.2.2.2.2.2.2.1=x.2.2.2.2.2.2.1+1∧n≠x.2.2.2.2.2.1∧x.2.2.1≠x.2.2.2.2.2.1∧(sm (⟨x.1,x.2.1⟩:GDisk)∧DiskOK ⟨x.1,x.2.1⟩∧R64 id∧1≤depth∧depth≤5∧low.length≤16∧high.length≤16∧pages.length+6^(6-depth).toNat≤100000∧rows.length+4*6^(6-depth).toNat≤400000)∧(6-depth).toNat<N)∧K (.int .i64 ((vis (fun l n=>l++[n]) ⟨x.1,x.2.1⟩ (6-depth).toNat id low high depth ⟨pages,rows,x.2.2.2.2.2.2.2.2⟩)).1) (upd (upd (upd (upd (upd (upd H n none) (x.2.2.1) none) (x.2.2.2.2.2.1) none) n (some ⟨[lst x.1,lst x.2.1, .slice (some ⟨Bd,0,some 1⟩) (((vis (fun l n=>l++[n]) ⟨x.1,x.2.1⟩ (6-depth).toNat id low high depth ⟨pages,rows,x.2.2.2.2.2.2.2.2⟩)).2.pages).length ((((vis (fun l n=>l++[n]) ⟨x.1,x.2.1⟩ (6-depth).toNat id low high depth ⟨pages,rows,x.2.2.2.2.2.2.2.2⟩)).2.pages).length+1), .slice (some ⟨Bd+1,0,some 2⟩) (((vis (fun l n=>l++[n]) ⟨x.1,x.2.1⟩ (6-depth).toNat id low high depth ⟨pages,rows,x.2.2.2.2.2.2.2.2⟩)).2.rows).length ((((vis (fun l n=>l++[n]) ⟨x.1,x.2.1⟩ (6-depth).toNat id low high depth ⟨pages,rows,x.2.2.2.2.2.2.2.2⟩)).2.rows).length+1), .int .i64 ((vis (fun l n=>l++[n]) ⟨x.1,x.2.1⟩ (6-depth).toNat id low high depth ⟨pages,rows,x.2.2.2.2.2.2.2.2⟩)).2.deep],true⟩)) Bd (some ⟨qQ (((vis (fun l n=>l++[n]) ⟨x.1,x.2.1⟩ (6-depth).toNat id low high depth ⟨pages,rows,x.2.2.2.2.2.2.2.2⟩)).2.pages),true⟩)) (Bd+1) (some ⟨qQ (((vis (fun l n=>l++[n]) ⟨x.1,x.2.1⟩ (6-depth).toNat id low high depth ⟨pages,rows,x.2.2.2.2.2.2.2.2⟩)).2.rows),true⟩)) (Bd+2)):=by
 refine propext ⟨fun h=> ?_,fun h=>⟨_,_,_,_,_,rfl,h⟩⟩
 obtain⟨n',id',depth',plow',phigh',e,h⟩:=h
 simp only[List.cons.injEq,Value.agg.injEq,jE,Value.int.injEq,Value.bool.injEq,Value.string.injEq,Value.pointer.injEq,Option.some.injEq,Addr.mk.injEq,lst_inj,true_and,and_true]at e
 obtain⟨rfl,rfl,rfl,rfl,rfl⟩:=e
 exact h
set_option maxHeartbeats 4000000 in
theorem R245_step(N:Nat)(ih:OK 245 (R245 N)):OK 245 (R245 (N+1)):=by
 rintro args H Bd K ⟨n,id,depth,plow,phigh,rfl,b,hb0,x,hx,b1,hb1,pages,hv0,b2,hb2,rows,hv1,low,wlow,high,whigh,⟨hl0,hc0,hd0,hl1,hc1,hd1,hm01,hpre,hmeas⟩,hK⟩
 obtain⟨sectors,pending,m1,l1,c1,m2,l2,c2,deep⟩:=x
 obtain rfl:=kV hx
 obtain rfl:=kV hv0
 obtain rfl:=kV hv1
 simp only[twB,flB]at hb0 hb1 hl0 hc0 hd0 hb2 hl1 hc1 hd1 hm01 hK hpre
 subst hl0;subst hc0
 subst hl1;subst hc1
 have hnB:HB H Bd→n<Bd∧m1<Bd∧m2<Bd:=fun h=>⟨hb_in h hb0,hb_in h hb1,hb_in h hb2⟩
 obtain⟨G,rfl,⟨gn,gm0,gm1⟩,gE,gH⟩:=out3 hb0 hb1 hb2 hd0 hd1 hm01
 rw[gE]at hK
 refine fn_can pok (((((Env.base _).add 121 _ L121_ok).add 302 _ W302_ok).add 154 _ W154_ok).add 245 (R245 N) ih) [(6,[],[],(.k 3 (.grp false 42 50 8 [43,44,45,46,47,48,49,50] 51 none (.k 3 (.grp true 45 49 4 [46,47,48,49] 50 (some (42,false)) (.k 4 .nil) .nil)) (.k 1 (.grp false 52 56 4 [53,54,55,56] 57 none (.k 4 .nil) .nil))))),(11,[],[],(.k 3 (.grp true 67 71 4 [68,69,70,71] 72 none (.k 4 .nil) (.k 1 (.grp false 73 81 8 [74,75,76,77,78,79,80,81] 82 none (.k 3 (.grp true 76 80 4 [77,78,79,80] 81 (some (73,false)) (.k 4 .nil) .nil)) .nil))))),(23,[0,1,2,3,4,5,6,7,8,9,10,11,12,13,14,15,16],[⟨0,[],[]⟩,⟨1,[],[]⟩,⟨2,[],[]⟩,⟨3,[],[]⟩,⟨4,[],[]⟩,⟨5,[],[]⟩,⟨6,[],[]⟩,⟨7,[],[]⟩,⟨8,[],[]⟩,⟨9,[],[]⟩,⟨10,[],[]⟩,⟨11,[],[]⟩,⟨12,[],[]⟩,⟨13,[12],[]⟩,⟨14,[],[]⟩,⟨15,[],[]⟩,⟨16,[12],[]⟩], .nil)] G [.m n 2, .m n 3] (.int .i64 ((vis (fun l n=>l++[n]) ⟨sectors,pending⟩ (6-depth).toNat id low high depth ⟨pages,rows,deep⟩)).1) [((Bd+1),⟨qQ (((vis (fun l n=>l++[n]) ⟨sectors,pending⟩ (6-depth).toNat id low high depth ⟨pages,rows,deep⟩)).2.rows),true⟩),(Bd,⟨qQ (((vis (fun l n=>l++[n]) ⟨sectors,pending⟩ (6-depth).toNat id low high depth ⟨pages,rows,deep⟩)).2.pages),true⟩),(n,⟨[lst sectors,lst pending, .slice (some ⟨Bd,0,some 1⟩) (((vis (fun l n=>l++[n]) ⟨sectors,pending⟩ (6-depth).toNat id low high depth ⟨pages,rows,deep⟩)).2.pages).length ((((vis (fun l n=>l++[n]) ⟨sectors,pending⟩ (6-depth).toNat id low high depth ⟨pages,rows,deep⟩)).2.pages).length+1), .slice (some ⟨Bd+1,0,some 2⟩) (((vis (fun l n=>l++[n]) ⟨sectors,pending⟩ (6-depth).toNat id low high depth ⟨pages,rows,deep⟩)).2.rows).length ((((vis (fun l n=>l++[n]) ⟨sectors,pending⟩ (6-depth).toNat id low high depth ⟨pages,rows,deep⟩)).2.rows).length+1), .int .i64 ((vis (fun l n=>l++[n]) ⟨sectors,pending⟩ (6-depth).toNat id low high depth ⟨pages,rows,deep⟩)).2.deep],true⟩)] hK (by simp) (gH Bd) Tryz.func245 rfl (rs:=[.tmp 10]) rfl Tryz.ntmps245 (by simp) Tryz.call245 (by kernel_rfl) (fun hh hb ha=> ?_)
 obtain⟨hn,hn0,hn1⟩:=hnB hh
 have Ylow:=jJ (ha plow (by simp))
 have Yhigh:=jJ (ha phigh (by simp))
 clear hK gE gH hnB hb0 hx hb1 hv0 hb2 hv1
 refine jH pok fun cv=> ?_
 obtain⟨h1,h2,h3,h4,h5,h6,h7,h8,h9⟩:=hpre
 generalize hD:(⟨sectors,pending⟩:GDisk)=d at*
 obtain⟨f,hf⟩:∃f,(6-depth).toNat=f+1:=⟨(5-depth).toNat,by omega⟩
 rw[hf]at h8 h9 ⊢
 have h6p:6^(f+1)=6*6^f:=by rw[Nat.pow_succ];omega
 have hsp:sm pages:=(yR _).2 (by omega)
 have hsl:sm low:=⟨by omega,fun _ _=>trivial⟩
 have hsh:sm high:=⟨by omega,fun _ _=>trivial⟩
 by_cases q1:hasI pages id=true
 ·have e:vis (fun l n=>l++[n]) d (f+1) id low high depth ⟨pages,rows,deep⟩=(8,⟨pages,rows,deep⟩):=vis_has q1
  rw[e]
  exact S (cj q1 (cj hsp kK)) trivial
 by_cases q2:(jQ d id).2=0
 case neg=>
  have e:vis (fun l n=>l++[n]) d (f+1) id low high depth ⟨pages,rows,deep⟩=((jQ d id).2,⟨pages,rows,deep⟩):=vis_code q1 q2
  rw[e]
  exact S (cj q1 (cj hsp (cj kK (cj hD (cj h1 (cj h2 (cj h3 q2))))))) trivial
 have hN:=node_ok (nodeD_ok q2)
 generalize hnd:(jQ d id).1=nd at*
 have hkl:=hN.kl
 have hkk:∀k∈nd.keys,sm k:=fun k hk=>⟨by have:=(hN.key k hk).2;omega,fun _ _=>trivial⟩
 by_cases b1:4<depth∨(1<depth∧nd.keys.length<2)∨nd.keys.length<1
 ·have hbad:badN nd depth low high=true:=by unfold badN;rcases b1 with h|⟨h,h'⟩|h <;>simp[*]
  have e:vis (fun l n=>l++[n]) d (f+1) id low high depth ⟨pages,rows,deep⟩=(8,⟨pages,rows,deep⟩):=vis_bad q1 q2 (by rw[hnd];exact hbad)
  rw[e]
  rcases b1 with h|⟨h,h'⟩|h
  ·exact S (cj q1 (cj hsp (cj kK (cj hD (cj h1 (cj h2 (cj h3 (cj q2 (cj hnd h))))))))) trivial
  ·by_cases h4':4<depth
   ·exact S (cj q1 (cj hsp (cj kK (cj hD (cj h1 (cj h2 (cj h3 (cj q2 (cj hnd h4'))))))))) trivial
   ·exact S (cj q1 (cj hsp (cj kK (cj hD (cj h1 (cj h2 (cj h3 (cj q2 (cj hnd (cj h4' (cj h h'))))))))))) trivial
  ·have h0:nd.keys.length=0:=by omega
   by_cases h4':4<depth
   ·exact S (cj q1 (cj hsp (cj kK (cj hD (cj h1 (cj h2 (cj h3 (cj q2 (cj hnd h4'))))))))) trivial
   ·by_cases h5':1<depth
    ·exact S (cj q1 (cj hsp (cj kK (cj hD (cj h1 (cj h2 (cj h3 (cj q2 (cj hnd (cj h4' (cj h5' h0))))))))))) trivial
    ·exact S (cj q1 (cj hsp (cj kK (cj hD (cj h1 (cj h2 (cj h3 (cj q2 (cj hnd (cj h4' (cj h5' h0))))))))))) trivial
 obtain⟨b2,b3,b4⟩:¬4<depth∧¬(1<depth∧nd.keys.length<2)∧¬nd.keys.length<1:=⟨fun h=>b1 (.inl h),fun h=>b1 (.inr (.inl h)),fun h=>b1 (.inr (.inr h))⟩
 have b5:1<depth→¬nd.keys.length<2:=fun h h'=>b3 ⟨h,h'⟩
 refine S (cj q1 (cj hsp (cj kK (cj hD (cj h1 (cj h2 (cj h3 (cj q2 (cj hnd (cj b2 b4)))))))))) ?_
 intro _
 refine jB (fun i=>∀j,j<i→∀x,nd.keys[j]? =some x→(!inB x low high)=false) (nd.keys.length) (fun i=>[(0, .pointer (some ⟨n,0,none⟩)),(1, .int .i64 id),(2, .int .i64 depth),(3,plow),(4,phigh),(11, .pointer (some ⟨Bd,0,none⟩)),(59,lst nd.keys),(60, .int .i64 nd.keys.length),(61, .int .i64 i)]) (by simp) (by simp only[go_sem,push_cast,qB,qA]) ?_
 intro i Bi hIi hii hBi
 refine cv (by kernel_rfl) ?_
 rcases Nat.lt_or_ge i (nd.keys.length)with hlti|hgei
 ·have e1:nd.keys[i]? =some nd.keys[i]:=List.getElem?_eq_getElem hlti
  have hk1:=hkk _ (List.getElem_mem hlti)
  have hbad:(!inB nd.keys[i] low high)=true→vis (fun l n=>l++[n]) d (f+1) id low high depth ⟨pages,rows,deep⟩=(8,⟨pages,rows,deep⟩):=fun hq=>vis_bad q1 q2 (by
   rw[hnd];unfold badN
   rw[any_hit hlti hq];simp)
  have hA:(low≠[]∧Lib.compareBytes nd.keys[i] low<0)∨low=[]∨(low≠[]∧¬Lib.compareBytes nd.keys[i] low<0):=by
   by_cases h:low=[]
   ·exact .inr (.inl h)
   ·by_cases h':Lib.compareBytes nd.keys[i] low<0
    ·exact .inl ⟨h,h'⟩
    ·exact .inr (.inr ⟨h,h'⟩)
  have hB:(high≠[]∧0≤Lib.compareBytes nd.keys[i] high)∨high=[]∨(high≠[]∧¬0≤Lib.compareBytes nd.keys[i] high):=by
   by_cases h:high=[]
   ·exact .inr (.inl h)
   ·by_cases h':0≤Lib.compareBytes nd.keys[i] high
    ·exact .inl ⟨h,h'⟩
    ·exact .inr (.inr ⟨h,h'⟩)
  have pl0:=bvOf_out wlow
  have ph0:=bvOf_out whigh
  rcases hA with⟨hl0,qa⟩|hA
  ·rw[hbad (inB_no1 hl0 qa)]
   rw[bvV_ne hl0]at pl0
   have la:=len_pos hl0
   exact S (cj e1 (cj hk1 (cj hsl (cj hsh (cj pl0 (cj la qa)))))) trivial
  rcases hA with hl0|⟨hl0,qa⟩
  case' inl=>
   have qa:True:=trivial
   have la:True:=trivial
   rw[hl0]at pl0
   have pl:plow= .slice none 0 0:=pl0
   have gA:low=[]∨¬Lib.compareBytes nd.keys[i] low<0:= .inl hl0
  case' inr=>
   have la:=len_pos hl0
   rw[bvV_ne hl0]at pl0
   have pl:=pl0
   have gA:low=[]∨¬Lib.compareBytes nd.keys[i] low<0:= .inr qa
  all_goals
   rcases hB with⟨hh0,qb⟩|hB
   ·rw[hbad (inB_no2 hh0 qb)]
    rw[bvV_ne hh0]at ph0
    have lb:=len_pos hh0
    exact S (cj e1 (cj hk1 (cj hsl (cj hsh (cj pl (cj ph0 (cj la (cj lb (cj qa qb))))))))) trivial
   rcases hB with hh0|⟨hh0,qb⟩
   case' inl=>
    have qb:True:=trivial
    have lb:True:=trivial
    rw[hh0]at ph0
    have ph:phigh= .slice none 0 0:=ph0
    have gB:high=[]∨¬0≤Lib.compareBytes nd.keys[i] high:= .inl hh0
   case' inr=>
    have lb:=len_pos hh0
    rw[bvV_ne hh0]at ph0
    have ph:=ph0
    have gB:high=[]∨¬0≤Lib.compareBytes nd.keys[i] high:= .inr qb
   all_goals
    refine S (cj e1 (cj hk1 (cj hsl (cj hsh (cj pl (cj ph (cj la (cj lb (cj qa qb))))))))) ?_
    intro j hj x hx
    by_cases e:j=i
    ·subst e;rw[e1]at hx;cases hx;exact inB_yes gA gB
    ·exact hIi j (by omega) x hx
 have hgood:¬badN nd depth low high=true:=by
  unfold badN
  rw[vG fun j hj x hx=>hIi j (by omega) x hx]
  simp only[Bool.or_false,Bool.or_eq_true,Bool.and_eq_true,decide_eq_true_eq]
  rintro((h|h)|h)
  ·exact b2 h
  ·exact b3 h
  ·exact b4 h
 refine SA0 ?_
 refine cv (by kernel_rfl) ?_
 by_cases hlf:nd.leaf=true
 ·have hv:=hN.vals hlf
  by_cases hdp:deep=0∨deep=depth
  ·have e:vis (fun l n=>l++[n]) d (f+1) id low high depth ⟨pages,rows,deep⟩=(0,⟨(pages++[id]),rows++rowsN nd nd.keys.length,depth⟩):=by
    have:=vis_leaf (ins:=(fun l n=>l++[n])) (f:=f) (low:=low) (high:=high) (w:=⟨pages,rows,deep⟩) q1 q2 (by rw[hnd];exact hgood) (by rw[hnd];exact hlf) hdp
    rw[hnd]at this;exact this
   rw[e]
   have hdn:deep≠0→deep=depth:=fun h=>hdp.resolve_left h
   by_cases hd0':deep=0
   case' pos=>have hd9:True:=trivial
   case' neg=>have hd9:=hdn hd0'
   all_goals
    refine SA (cj hlf (cj hd0' hd9)) ?_
    refine kB (X:=Nat) hb (by omega) 2 [.m n 2, .m n 3] rfl (fun x=>x≤nd.keys.length) (fun x=>nd.keys.length-x) (fun Nx x=>[(0, .pointer (some ⟨n,0,none⟩)),(11, .pointer (some ⟨Bd,0,none⟩)),(112,lst nd.keys),(113, .int .i64 nd.keys.length),(114, .int .i64 x)]) (fun Nx x=>[(n,⟨[lst sectors,lst pending, .slice (some ⟨Nx,0,some 1⟩) (pages++[id]).length ((pages++[id]).length+1), .slice (some ⟨Nx+1,0,some 2⟩) (rows++rowsN nd x).length ((rows++rowsN nd x).length+1), .int .i64 depth],true⟩),(Nx,⟨qQ (pages++[id]),true⟩),(Nx+1,⟨qQ (rows++rowsN nd x),true⟩),(Bd,⟨[.bool nd.leaf,lst nd.keys,lst nd.values,lst nd.kids],true⟩)]) 0 (Nat.zero_le _) (fun Nx hNx=>(by simp (disch:=first|assumption|omega|(simp (disch:=omega) only[qC,qE hb];done)|(simp (disch:=first|omega|(simp (disch:=omega) only[qC,qE hb];done)) only[go_sem,push_cast,qB,qA,qC,qE hb];done)|fail) only[go_sem,push_cast,qB,qA,qM,qG hb,qC,qE hb,jC,qL,qU,jS,jI,jD,jX,jL,List.append_assoc,List.length_append,List.length_cons,List.length_nil,Nat.zero_add,rq_nb (ha plow (by simp)),rq_nb (ha phigh (by simp)),rowsN_zero,List.append_nil];all_goals (try simp only[Value.int.injEq,Value.slice.injEq,true_and,and_true]) <;>all_goals (try(first|trivial|omega|grind)))) ?_
    intro Nx x hNx hIx hbx Fx hFx
    simp only[mem_cons,jK]at hbx ⊢
    refine cv (by kernel_rfl) ?_
    rcases Nat.lt_or_ge x nd.keys.length with hltx|hgex
    ·have e1:nd.keys[x]? =some nd.keys[x]:=List.getElem?_eq_getElem hltx
     have e2:nd.values[x]? =some (nd.values[x]'(by omega)):=List.getElem?_eq_getElem _
     have hrl:(rows++rowsN nd x).length=rows.length+x:=by rw[List.length_append,rowsN_len]
     refine SA (cj e1 e2) ?_
     refine hFx (x+1) _ _ _ ?_ ?_ (by simp only[go_sem,push_cast,qB,qA]) ((by simp (disch:=first|assumption|omega|(simp (disch:=omega) only[qC,qE hb];done)|(simp (disch:=first|omega|(simp (disch:=omega) only[qC,qE hb];done)) only[go_sem,push_cast,qB,qA,qC,qE hb];done)|fail) only[go_sem,push_cast,qB,qA,qM,qG hb,qC,qE hb,jC,qL,qU,jS,jI,jD,jX,jL,List.append_assoc,List.length_append,List.length_cons,List.length_nil,Nat.zero_add,rq_nb (ha plow (by simp)),rq_nb (ha phigh (by simp)),rowsN_succ,rowN,getD_some e1,getD_some e2,enc_GRow];all_goals (try simp only[Value.int.injEq,Value.slice.injEq,true_and,and_true]) <;>all_goals (try(first|trivial|omega|grind))))
     ·show nd.keys.length-(x+1)<nd.keys.length-x
      omega
     ·exact hltx
    ·obtain rfl:x=nd.keys.length:=Nat.le_antisymm hIx hgex
     refine S0 ?_
     refine cv (by kernel_rfl) ?_
     exact S0 trivial
  ·have e:vis (fun l n=>l++[n]) d (f+1) id low high depth ⟨pages,rows,deep⟩=(8,⟨(pages++[id]),rows,deep⟩):=by
    have:=vis_leafN (ins:=(fun l n=>l++[n])) (f:=f) (low:=low) (high:=high) (w:=⟨pages,rows,deep⟩) q1 q2 (by rw[hnd];exact hgood) (by rw[hnd];exact hlf) hdp
    exact this
   rw[e]
   have hd1:¬deep=0:=fun h=>hdp (.inl h)
   have hd2:¬deep=depth:=fun h=>hdp (.inr h)
   simp (maxSteps:=2000000) (disch:=first|assumption|(refine qI ?_;assumption)|exact Nat.le_add_right _ _|exact Nat.le_refl _|omega|(simp (disch:=first|assumption|exact Nat.le_add_right _ _|omega) only[qG hb,qR hb,qA,qM,qE hb,qC];done)|fail) only[go_sem,push_cast,qB,qA,qG hb,qE hb,hlf,hd1,hd2,appVal,yU,qL,qU,jS,jI,jD,List.append_assoc,List.length_append,List.length_cons,List.length_nil,Nat.zero_add]
 have hkd:=hN.kids (by simpa using hlf)
 have hkne:∀k∈nd.keys,k≠[]:=fun k hk e=>by have:=(hN.key k hk).1;rw[e]at this;exact absurd this (by decide)
 have hlf2:nd.leaf=false:=by simpa using hlf
 have e:vis (fun l n=>l++[n]) d (f+1) id low high depth ⟨pages,rows,deep⟩=visK (fun k a b w=>vis (fun l n=>l++[n]) d f k a b (depth+1) w) nd low high nd.kids.length 0 ⟨(pages++[id]),rows,deep⟩:=by
  have:=vis_kids (ins:=(fun l n=>l++[n])) (f:=f) (low:=low) (high:=high) (w:=⟨pages,rows,deep⟩) q1 q2 (by rw[hnd];exact hgood) (by rw[hnd];exact hlf)
  rw[hnd]at this;exact this
 rw[e]
 have hff:(6-(depth+1)).toNat=f:=by omega
 have hipl:∀(l:List Int) (z:Int),((fun l n=>l++[n]) l z).length≤l.length+1:=fun l z=>by simp
 refine SA hlf2 ?_
 refine kB (X:=Nat×GL17Walk) hb (by omega) 2 [.m n 2, .m n 3] rfl (fun x=>x.1≤nd.kids.length∧visK (fun k a b w=>vis (fun l n=>l++[n]) d f k a b (depth+1) w) nd low high nd.kids.length 0 ⟨(pages++[id]),rows,deep⟩=visK (fun k a b w=>vis (fun l n=>l++[n]) d f k a b (depth+1) w) nd low high (nd.kids.length-x.1) x.1 x.2∧Grow (x.1*6^f) ⟨(pages++[id]),rows,deep⟩ x.2) (fun x=>nd.kids.length-x.1) (fun Nx x=>[(0, .pointer (some ⟨n,0,none⟩)),(2, .int .i64 depth),(3,plow),(4,phigh),(11, .pointer (some ⟨Bd,0,none⟩)),(137,lst nd.kids),(138, .int .i64 nd.kids.length),(139, .int .i64 x.1)]) (fun Nx x=>[(n,⟨[lst sectors,lst pending, .slice (some ⟨Nx,0,some 1⟩) x.2.pages.length (x.2.pages.length+1), .slice (some ⟨Nx+1,0,some 2⟩) x.2.rows.length (x.2.rows.length+1), .int .i64 x.2.deep],true⟩),(Nx,⟨qQ x.2.pages,true⟩),(Nx+1,⟨qQ x.2.rows,true⟩),(Bd,⟨[.bool false,lst nd.keys,lst nd.values,lst nd.kids],true⟩)]) (0,⟨(pages++[id]),rows,deep⟩) (⟨Nat.zero_le _,rfl,Grow.refl _ _⟩) (fun Nx hNx=>(canf (cj Ylow Yhigh))) ?_
 intro Nx x hNx hIx hbx Fx hFx
 simp only[mem_cons,jK]at hbx ⊢
 refine cv (by kernel_rfl) ?_
 obtain⟨i,w⟩:=x
 obtain⟨i1,i2,i3⟩:=hIx
 simp only at i1 i2 i3
 have hp6:0<6^f:=Nat.pow_pos (by omega)
 have g1:=i3.pages
 have g2:=i3.rows
 simp only[List.length_append,List.length_cons,List.length_nil]at g1 g2
 rcases Nat.lt_or_ge i nd.kids.length with hlt|hge
 ·have e1:nd.kids[i]? =some nd.kids[i]:=List.getElem?_eq_getElem hlt
  have hkr:=hkd.2.2.2 _ (List.getElem_mem hlt)
  have hkR:R64 nd.kids[i]:=⟨by omega,by omega⟩
  have hmul:i*6^f≤4*6^f:=Nat.mul_le_mul_right _ (by omega)
  obtain⟨P,hP⟩:∃P,P=i*6^f:=⟨_,rfl⟩
  rw[←hP]at g1 g2 hmul
  have hq1:w.pages.length+6^f≤100000:=by omega
  have hq2:w.rows.length+4*6^f≤400000:=by omega
  have hlo:(loB nd low i).length≤16:=by
   unfold loB
   split
   ·rw[getD_some (List.getElem?_eq_getElem (show i-1<nd.keys.length by omega))]
    exact(hN.key _ (List.getElem_mem _)).2
   ·exact h6
  have hhi:(hiB nd high i).length≤16:=by
   unfold hiB
   split
   ·rename_i hq
    rw[getD_some (List.getElem?_eq_getElem hq)]
    exact(hN.key _ (List.getElem_mem _)).2
   ·exact h7
  have hst:nd.kids.length-i=(nd.kids.length-(i+1))+1:=by omega
  rw[hst]at i2
  have hgd:nd.kids.getD i 0=nd.kids[i]:=getD_some e1
  have hc1:((i:Int)-1).toNat=i-1:=by omega
  have h3':(0<i∧i<nd.keys.length)∨(0<i∧¬i<nd.keys.length)∨(¬0<i∧i<nd.keys.length):=by omega
  have hsv:= @visK_succ (fun k a b w=>vis (fun l n=>l++[n]) d f k a b (depth+1) w) nd low high (nd.kids.length-(i+1)) i w
  have hsw:= @visK_stop (fun k a b w=>vis (fun l n=>l++[n]) d f k a b (depth+1) w) nd low high (nd.kids.length-(i+1)) i w
  simp only[hgd]at hsv hsw
  have hgw:=vis_grow hipl d f nd.kids[i] (loB nd low i) (hiB nd high i) (depth+1) w
  rcases h3' with⟨hi0,hin⟩|⟨hi0,hin⟩|⟨hi0,hin⟩
  case' inl=>
   have e2:nd.keys[i-1]? =some (nd.keys[i-1]'(by omega)):=List.getElem?_eq_getElem _
   have n2:(nd.keys[i-1]'(by omega))≠[]:=hkne _ (List.getElem_mem _)
   have hlo2:loB nd low i=nd.keys[i-1]'(by omega):=by unfold loB;rw[if_pos hi0,getD_some e2]
   have e3:nd.keys[i]? =some nd.keys[i]:=List.getElem?_eq_getElem hin
   have n3:nd.keys[i]≠[]:=hkne _ (List.getElem_mem _)
   have hhi2:hiB nd high i=nd.keys[i]:=by unfold hiB;rw[if_pos hin,getD_some e3]
  case' inr.inl=>
   have e2:nd.keys[i-1]? =some (nd.keys[i-1]'(by omega)):=List.getElem?_eq_getElem _
   have n2:(nd.keys[i-1]'(by omega))≠[]:=hkne _ (List.getElem_mem _)
   have hlo2:loB nd low i=nd.keys[i-1]'(by omega):=by unfold loB;rw[if_pos hi0,getD_some e2]
   have e3:True:=trivial
   have hhi2:hiB nd high i=high:=if_neg hin
  case' inr.inr=>
   have e2:True:=trivial
   have hlo2:loB nd low i=low:=if_neg hi0
   have e3:nd.keys[i]? =some nd.keys[i]:=List.getElem?_eq_getElem hin
   have n3:nd.keys[i]≠[]:=hkne _ (List.getElem_mem _)
   have hhi2:hiB nd high i=nd.keys[i]:=by unfold hiB;rw[if_pos hin,getD_some e3]
  all_goals
   rw[hlo2]at hlo;rw[hhi2]at hhi
   by_cases hr:(vis (fun l n=>l++[n]) d f nd.kids[i] (loB nd low i) (hiB nd high i) (depth+1) w).1=0
   ·rw[hsv (by simpa using hr)]at i2
    have hr2:=hr
    rw[hlo2,hhi2]at hr2
    simp (maxSteps:=2000000) (disch:=first|assumption|(refine qI ?_;assumption)|exact Nat.le_add_right _ _|exact Nat.le_refl _|omega|(simp (disch:=first|assumption|exact Nat.le_add_right _ _|omega) only[qG hb,qR hb,qA,qM,qE hb,qC];done)|fail) only[go_sem,push_cast,qB,qA,qG hb,qE hb,e1,e2,e3,hi0,hin,hc1,hD,h1,h2,hkR,hff,wlow,whigh,hr2]
    refine hFx (i+1,(vis (fun l n=>l++[n]) d f nd.kids[i] (loB nd low i) (hiB nd high i) (depth+1) w).2) _ _ _ ?_ ?_ (by simp only[go_sem,push_cast,qB,qA]) ((canf (cj Ylow (cj Yhigh (cj hlo2 hhi2)))))
    ·show nd.kids.length-(i+1)<nd.kids.length-i
     omega
    ·exact⟨hlt,i2,(i3.trans hgw).up (by rw[Nat.succ_mul];exact Nat.le_refl _)⟩
   ·rw[hsw hr]at i2;rw[i2]
    have hr2:=hr
    rw[hlo2,hhi2]at hr2 ⊢
    simp (maxSteps:=2000000) (disch:=first|assumption|(refine qI ?_;assumption)|exact Nat.le_add_right _ _|exact Nat.le_refl _|omega|(simp (disch:=first|assumption|exact Nat.le_add_right _ _|omega) only[qG hb,qR hb,qA,qM,qE hb,qC];done)|fail) only[go_sem,push_cast,qB,qA,qG hb,qE hb,e1,e2,e3,hi0,hin,hc1,hD,h1,h2,hkR,hff,wlow,whigh,hr2]
 ·obtain rfl:i=nd.kids.length:=Nat.le_antisymm i1 hge
  rw[Nat.sub_self,visK]at i2
  rw[i2]
  refine S0 ?_
  refine cv (by kernel_rfl) ?_
  exact S0 trivial
theorem R245_zero:OK 245 (R245 0):=by
 rintro args H Bd K ⟨n,id,depth,plow,phigh,rfl,b,hb0,x,hx,b1,hb1,pages,hv0,b2,hb2,rows,hv1,low,wlow,high,whigh,⟨hl0,hc0,hd0,hl1,hc1,hd1,hm01,hpre,hmeas⟩,hK⟩
 exact absurd hmeas (Nat.not_lt_zero _)
theorem R245_ok:∀N,OK 245 (R245 N)
 |0=>R245_zero
 |N+1=>R245_step N (R245_ok N)
theorem W245_ok:OK 245 W245:=by
 rintro args H Bd K ⟨n,id,depth,plow,phigh,rfl,b,hb0,x,hx,b1,hb1,pages,hv0,b2,hb2,rows,hv1,low,wlow,high,whigh,⟨hl0,hc0,hd0,hl1,hc1,hd1,hm01,hpre⟩,hK⟩
 exact R245_ok (_+1) _ _ _ _ ⟨n,id,depth,plow,phigh,rfl,b,hb0,x,hx,b1,hb1,pages,hv0,b2,hb2,rows,hv1,low,wlow,high,whigh,⟨hl0,hc0,hd0,hl1,hc1,hd1,hm01,hpre,Nat.lt_succ_self _⟩,hK⟩
def T245:qJ:=ToC W245
theorem T245_ok:OK 245 T245:=ToC_ok W245_ok
def W174:qJ:=fun args H Bd K=>∃(d:GDisk) (root:Int),args=[.agg (enc d).toArray, .int .i64 root]∧((sm d∧DiskOK d∧R64 root)∧K (.tuple #[.pointer (some ⟨Bd,0,none⟩), .int .i64 (jU d root).1]) (upd (upd (upd H Bd (some ⟨twC d (jU d root).2 (Bd+1) (Bd+2),true⟩)) (Bd+1) (some ⟨qQ (jU d root).2.pages,true⟩)) (Bd+2) (some ⟨qQ (jU d root).2.rows,true⟩)) (Bd+3))
@[go_sem ↓] theorem W174_eq (d_sectors:List (List UInt8)) (d_pending:List GPut) (root:Int):W174 [.agg #[lst d_sectors,lst d_pending], .int .i64 root] H Bd K=((sm (GDisk.mk d_sectors d_pending)∧DiskOK (GDisk.mk d_sectors d_pending)∧R64 root)∧K (.tuple #[.pointer (some ⟨Bd,0,none⟩), .int .i64 (jU (GDisk.mk d_sectors d_pending) root).1]) (upd (upd (upd H Bd (some ⟨twC (GDisk.mk d_sectors d_pending) (jU (GDisk.mk d_sectors d_pending) root).2 (Bd+1) (Bd+2),true⟩)) (Bd+1) (some ⟨qQ (jU (GDisk.mk d_sectors d_pending) root).2.pages,true⟩)) (Bd+2) (some ⟨qQ (jU (GDisk.mk d_sectors d_pending) root).2.rows,true⟩)) (Bd+3)):=ex2 (GDisk.mk d_sectors d_pending) root rfl
set_option maxHeartbeats 4000000 in
theorem W174_ok:OK 174 W174:=by
 rintro args H Bd K ⟨d,root,rfl,hpre,hK⟩
 refine fn_can pok ((Env.base _).add 245 _ T245_ok) [] H [.s 4, .m (Bd+1) 2, .m (Bd+1) 3] (.tuple #[.pointer (some ⟨Bd,0,none⟩), .int .i64 (jU d root).1]) [((Bd+2),⟨qQ (jU d root).2.rows,true⟩),((Bd+1),⟨qQ (jU d root).2.pages,true⟩),(Bd,⟨twC d (jU d root).2 (Bd+1) (Bd+2),true⟩)] hK (by simp) id Tryz.func174 rfl (rs:=[.tmp 4, .tmp 5]) rfl Tryz.ntmps174 (by simp) Tryz.call174 (by kernel_rfl) (fun _ hb ha=> ?_)
 clear hK
 obtain⟨h1,h2,h3⟩:=hpre
 by_cases h0:root=0
 ·have e:jU d root=(0,⟨[],[],0⟩):=by unfold jU noWk;rw[if_pos h0]
  rw[e]
  simp (maxSteps:=2000000) (disch:=first|assumption|(refine qI ?_;assumption)|exact Nat.le_add_right _ _|exact Nat.le_refl _|omega|(simp (disch:=first|exact Nat.le_add_right _ _|omega) only[qG hb,qR hb,qM,qE hb,qC];done)|fail) only[go_sem,push_cast,qB,qA,qG hb,qE hb,h0,jC,List.length_nil,Nat.zero_add]
 have e:jU d root=vis (fun l n=>l++[n]) d 5 root [] [] 1 ⟨[],[],0⟩:=by unfold jU noWk;rw[if_neg h0]
 rw[e]
 refine R h0 ?_
 refine toC (args':=[.pointer (some ⟨Bd+1,0,none⟩), .int .i64 root, .int .i64 1, .slice none 0 0, .slice none 0 0]) hb (by omega) 2 [.m (Bd+1) 2, .m (Bd+1) 3] rfl [(Bd,⟨[lst d.sectors,lst d.pending],true⟩),(Bd+1,⟨[lst d.sectors,lst d.pending, .slice (some ⟨Bd+2,0,some 1⟩) 0 1, .slice (some ⟨Bd+2+1,0,some 2⟩) 0 1, .int .i64 0],true⟩),(Bd+2,⟨[],true⟩),(Bd+2+1,⟨[],true⟩)] (cant) ?_
 simp only[mem_cons,jK]
 have h5:(6-(1:Int)).toNat=5:=rfl
 exact R (cj h1 (cj h2 h3)) trivial
def W120:qJ:=fun args H Bd K=>∃(d:GDisk) (root:Int),args=[.agg (enc d).toArray, .int .i64 root]∧((sm d∧R64 root)∧K (.tuple #[.pointer (some ⟨Bd,0,none⟩), .int .i64 (kR d root).1]) (upd (upd (upd H Bd (some ⟨twC (kR d root).2.1 (kR d root).2.2 (Bd+1) (Bd+2),true⟩)) (Bd+1) (some ⟨qQ (kR d root).2.2.pages,true⟩)) (Bd+2) (some ⟨qQ (kR d root).2.2.rows,true⟩)) (Bd+3))
@[go_sem ↓] theorem W120_eq (d_sectors:List (List UInt8)) (d_pending:List GPut) (root:Int):W120 [.agg #[lst d_sectors,lst d_pending], .int .i64 root] H Bd K=((sm (GDisk.mk d_sectors d_pending)∧R64 root)∧K (.tuple #[.pointer (some ⟨Bd,0,none⟩), .int .i64 (kR (GDisk.mk d_sectors d_pending) root).1]) (upd (upd (upd H Bd (some ⟨twC (kR (GDisk.mk d_sectors d_pending) root).2.1 (kR (GDisk.mk d_sectors d_pending) root).2.2 (Bd+1) (Bd+2),true⟩)) (Bd+1) (some ⟨qQ (kR (GDisk.mk d_sectors d_pending) root).2.2.pages,true⟩)) (Bd+2) (some ⟨qQ (kR (GDisk.mk d_sectors d_pending) root).2.2.rows,true⟩)) (Bd+3)):=ex2 (GDisk.mk d_sectors d_pending) root rfl
set_option maxHeartbeats 4000000 in
theorem W120_ok:OK 120 W120:=by
 rintro args H Bd K ⟨d,root,rfl,hpre,hK⟩
 refine fn_can pok (((Env.base _).add 56 _ W56_ok).add 174 _ W174_ok) [] H [.s 4, .m (Bd+1) 2, .m (Bd+1) 3] (.tuple #[.pointer (some ⟨Bd,0,none⟩), .int .i64 (kR d root).1]) [((Bd+2),⟨qQ (kR d root).2.2.rows,true⟩),((Bd+1),⟨qQ (kR d root).2.2.pages,true⟩),(Bd,⟨twC (kR d root).2.1 (kR d root).2.2 (Bd+1) (Bd+2),true⟩)] hK (by simp) id Tryz.func120 rfl (rs:=[.tmp 4, .tmp 5]) rfl Tryz.ntmps120 (by simp) Tryz.call120 (by kernel_rfl) (fun _ hb ha=> ?_)
 clear hK
 obtain⟨h1,h3⟩:=hpre
 by_cases hd:yN d=0
 case neg=>
  have e:kR d root=(yN d,⟨[],[]⟩,⟨[],[],0⟩):=by unfold kR noWk;rw[if_pos hd]
  rw[e]
  simp (maxSteps:=2000000) (disch:=first|assumption|(refine qI ?_;assumption)|exact Nat.le_add_right _ _|exact Nat.le_refl _|omega|(simp (disch:=first|exact Nat.le_add_right _ _|omega) only[qG hb,qR hb,qM,qE hb,qC];done)|fail) only[go_sem,push_cast,qB,qA,qG hb,qE hb,h1,hd,jC,List.length_nil,Nat.zero_add]
 have h2:=disk_ok hd
 have e:kR d root=((jU d root).1,d,(jU d root).2):=by unfold kR;rw[if_neg (by simpa using hd)]
 rw[e]
 exact R (cj h1 (cj h2 (cj h3 hd))) trivial
def W58:qJ:=fun args H Bd K=>∃(d:GDisk) (root:Int),args=[.agg (enc d).toArray, .int .i64 root]∧((sm d∧R64 root)∧K (.agg (enc (pagesR d root)).toArray) H Bd)
@[go_sem ↓] theorem W58_eq (d_sectors:List (List UInt8)) (d_pending:List GPut) (root:Int):W58 [.agg #[lst d_sectors,lst d_pending], .int .i64 root] H Bd K=((sm (GDisk.mk d_sectors d_pending)∧R64 root)∧K (.agg (enc (pagesR (GDisk.mk d_sectors d_pending) root)).toArray) H Bd):=ex2 (GDisk.mk d_sectors d_pending) root rfl
theorem W58_ok:OK 58 W58:=by
 rintro args H Bd K ⟨d,root,rfl,hpre,hK⟩
 refine fnp pok (((Env.base _).add 120 _ W120_ok).add 60 _ W60_ok) [] hK Tryz.func58 Tryz.ntmps58 Tryz.call58 [.cell 4 36] fun hb ha=> ?_
 obtain⟨h1,h3⟩:=hpre
 by_cases hc:(kR d root).1=0
 case neg=>
  have e:pagesR d root=⟨(kR d root).1,[]⟩:=by unfold pagesR;rw[if_pos hc]
  rw[e]
  exact R (cj h1 (cj h3 hc)) trivial
 have hd:yN d=0:=by
  by_cases h:yN d=0
  ·exact h
  ·unfold kR at hc;rw[if_pos h]at hc;exact hc
 have et:(kR d root).2.2=(jU d root).2:=by unfold kR;rw[if_neg (by simpa using hd)]
 have e:pagesR d root=⟨0,vM (jU d root).2.pages⟩:=by unfold pagesR;rw[if_neg (by simpa using hc)]
 have hl:=(treeI_len d root).1
 rw[e]
 refine R (cj h1 (cj h3 (cj hc et))) ?_
 exact jA (by simp (disch:=first|assumption|omega) only[go_sem,push_cast,qB,qA]) (hb.fresh _ (by omega)) rfl (by first|rfl|exact(kI _).symm|simp|omega)
def W59:qJ:=fun args H Bd K=>∃(d:GDisk) (head:Int),args=[.agg (enc d).toArray, .int .i64 head]∧((sm d∧R64 head)∧K (.agg (enc (chainR d head)).toArray) H Bd)
@[go_sem ↓] theorem W59_eq (d_sectors:List (List UInt8)) (d_pending:List GPut) (head:Int):W59 [.agg #[lst d_sectors,lst d_pending], .int .i64 head] H Bd K=((sm (GDisk.mk d_sectors d_pending)∧R64 head)∧K (.agg (enc (chainR (GDisk.mk d_sectors d_pending) head)).toArray) H Bd):=ex2 (GDisk.mk d_sectors d_pending) head rfl
set_option maxHeartbeats 2000000 in
theorem W59_ok:OK 59 W59:=by
 rintro args H Bd K ⟨d,head,rfl,hpre,hK⟩
 refine fnp pok (((((Env.base _).add 56 _ W56_ok).add 116 _ W116_ok).add 121 _ L121_ok).add 122 _ W122_ok) [(6,[],[],(.k 3 (.grp false 20 24 4 [21,22,23,24] 25 none (.k 4 .nil) .nil))),(13,[],[],(.k 4 (.grp false 45 49 4 [46,47,48,49] 50 none (.k 4 .nil) .nil))),(15,[0,1,2,3,4,5,6,7],[⟨0,[],[]⟩,⟨1,[],[]⟩,⟨2,[],[]⟩,⟨3,[],[]⟩,⟨4,[],[]⟩,⟨5,[],[]⟩,⟨6,[],[]⟩,⟨7,[],[]⟩], .nil)] hK Tryz.func59 Tryz.ntmps59 Tryz.call59 [.cell 4 100] fun hb ha=> ?_
 refine jH pok fun cv=> ?_
 obtain⟨h1,h3⟩:=hpre
 by_cases hd:yN d=0
 case neg=>
  have e:chainR d head=⟨yN d,[],[]⟩:=by unfold chainR;rw[if_pos hd]
  rw[e]
  exact R (cj h1 hd) trivial
 have h2:=disk_ok hd
 have hsl:=h2.len
 have e:chainR d head=⟨(qT d head).2.2,(qT d head).1,(qT d head).2.1⟩:=by unfold chainR;rw[if_neg (by simpa using hd)]
 rw[e]
 refine R (cj h1 hd) ?_
 refine kB (X:=List UInt8×List Int×Int) hb (by omega) 2 [.m (Bd+2) 1, .m (Bd+2) 2] rfl (fun x=>x.1.length≤400∧x.2.1.length≤x.1.length∧R64 x.2.2∧qT d head=chn d (401-x.2.1.length) x.2.2 x.1 x.2.1) (fun x=>401-x.2.1.length) (fun Nx x=>[(2, .pointer (some ⟨Bd,0,none⟩)),(4, .pointer (some ⟨Bd+1,0,none⟩)),(6, .pointer (some ⟨Bd+2,0,none⟩)),(7, .int .i64 x.2.2)]) (fun Nx x=>[(Bd,⟨[lst d.sectors,lst d.pending],true⟩),(Bd+1,⟨[.int .i64 0, .slice none 0 0, .slice none 0 0],true⟩),(Bd+2,⟨[.int .i64 0, .slice (some ⟨Nx,0,some 1⟩) x.1.length (x.1.length+1), .slice (some ⟨Nx+1,0,some 1⟩) x.2.1.length (x.2.1.length+1)],true⟩),(Nx,⟨qQ x.1,true⟩),(Nx+1,⟨qQ x.2.1,true⟩)]) ([],[],head) (⟨Nat.zero_le _,Nat.zero_le _,h3,rfl⟩) (fun Nx hNx=>(cant)) ?_
 intro Nx x hNx hIx hbx Fx hFx
 simp only[mem_cons,jK]at hbx ⊢
 refine cv (by kernel_rfl) ?_
 obtain⟨data,pages,id⟩:=x
 obtain⟨i1,i2,i3,i4⟩:=hIx
 simp only at i1 i2 i3 i4
 have hsp:sm pages:=(yR _).2 (by omega)
 obtain⟨g,hg⟩:∃g,401-pages.length=g+1:=⟨400-pages.length,by omega⟩
 rw[hg,chn]at i4
 by_cases hr:2≤id∧id≤(d.sectors.length:Int)-1
 case neg=>
  rw[if_pos hr]at i4
  rw[i4]
  by_cases hr2:id<2
  ·exact R (cj h1 hr2) trivial
  ·have hr3:¬id≤(d.sectors.length:Int)-1:=fun h=>hr ⟨by omega,h⟩
   exact R (cj h1 (cj hr2 hr3)) trivial
 rw[if_neg (by simpa using hr)]at i4
 have hpd:pageD d id=qV (yD d id) id:=by unfold pageD;rw[if_neg (by simpa using hr)]
 obtain⟨hr1,hr2⟩:=hr
 by_cases hq:hasI pages id=true
 ·rw[if_pos hq]at i4
  rw[i4]
  exact R (cj h1 (cj h2 (cj hr1 (cj hr2 (cj i3 (cj hpd (cj kK hq))))))) trivial
 rw[if_neg hq]at i4
 have hlen:=readD_len h2 (n:=id) (by omega) (by omega)
 by_cases hc:(qV (yD d id) id).2=0
 case neg=>
  rw[if_pos hc]at i4
  rw[i4]
  exact R (cj h1 (cj h2 (cj hr1 (cj hr2 (cj i3 (cj hpd (cj kK (cj hq hc)))))))) trivial
 rw[if_neg (by simpa using hc)]at i4
 have hbl:=(pageF_ok (readPg_ok hc).1).2.2
 generalize hP:(qV (yD d id) id).1=P at*
 by_cases hk:P.kind=3
 case neg=>
  rw[if_pos (.inl hk)]at i4
  rw[i4]
  exact R (cj h1 (cj h2 (cj hr1 (cj hr2 (cj i3 (cj hpd (cj kK (cj hq (cj hc (cj hP hk)))))))))) trivial
 by_cases hl:P.body.length<2
 ·rw[if_pos (.inr hl)]at i4
  rw[i4]
  exact R (cj h1 (cj h2 (cj hr1 (cj hr2 (cj i3 (cj hpd (cj kK (cj hq (cj hc (cj hP (cj hk hl))))))))))) trivial
 rw[if_neg (by simp[hk];omega)]at i4
 have hdl:(data++P.body.drop 1).length=data.length+(P.body.length-1):=by rw[List.length_append,List.length_drop]
 have hdl2:(List.drop 1 P.body).length=P.body.length-1:=by rw[List.length_drop]
 have hok:=flat_ok (List.drop 1 P.body)
 by_cases h4:400<(data++P.body.drop 1).length
 ·rw[if_pos h4]at i4
  rw[i4]
  have h4':400<data.length+(P.body.length-1):=by omega
  exact RA (cj h1 (cj h2 (cj hr1 (cj hr2 (cj i3 (cj hpd (cj kK (cj hq (cj hc (cj hP (cj hk (cj hl (cj hok (cj hdl2 (cj h4' ((@List.take_length UInt8))))))))))))))))) trivial
 rw[if_neg h4]at i4
 have h4':¬400<data.length+(P.body.length-1):=by omega
 have e0:P.body[0]? =some (P.body[0]'(by omega)):=List.getElem?_eq_getElem _
 have b0:((P.body[0]'(by omega)).toNat:Int)≤255:=by have:=(P.body[0]'(by omega)).toNat_lt;omega
 rw[getD_some e0]at i4
 by_cases h0:(P.body[0]'(by omega)).toNat=0
 ·rw[if_pos h0]at i4
  rw[i4]
  have h0':((P.body[0]'(by omega)).toNat:Int)=0:=by omega
  refine RA (cj h1 (cj h2 (cj hr1 (cj hr2 (cj i3 (cj hpd (cj kK (cj hq (cj hc (cj hP (cj hk (cj hl (cj hok (cj hdl2 (cj h4' (cj e0 (cj h0 (cj h0' ((@List.take_length UInt8)))))))))))))))))))) ?_
  refine⟨?_,?_⟩ <;>exact jA (by simp (disch:=first|assumption|omega) only[go_sem,push_cast,qB,qA,qL,qU,jS,jI,jD,jX,jL,List.append_assoc]) (hb.fresh _ (by omega)) rfl (by simp <;>omega)
 rw[if_neg h0]at i4
 have h0':¬((P.body[0]'(by omega)).toNat:Int)=0:=by omega
 refine RA (cj h1 (cj h2 (cj hr1 (cj hr2 (cj i3 (cj hpd (cj kK (cj hq (cj hc (cj hP (cj hk (cj hl (cj hok (cj hdl2 (cj h4' (cj e0 (cj h0 (cj h0' ((@List.take_length UInt8)))))))))))))))))))) ?_
 refine hFx (data++P.body.drop 1,pages++[id],((P.body[0]'(by omega)).toNat:Int)) _ _ _ ?_ ?_ (by simp only[go_sem,push_cast,qB,qA]) ((canf hdl2))
 ·show 401-(pages++[id]).length<401-pages.length
  rw[List.length_append];simp only[List.length_cons,List.length_nil];omega
 ·refine⟨show(data++P.body.drop 1).length≤400 by omega,?_,show R64 ((P.body[0]'(by omega)).toNat:Int)from⟨by omega,by omega⟩,?_⟩
  ·show(pages++[id]).length≤(data++P.body.drop 1).length
   rw[List.length_append,hdl];simp only[List.length_cons,List.length_nil];omega
  ·show _=chn d (401-(pages++[id]).length) _ _ _
   rw[i4,List.length_append,show 401-(pages.length+[id].length)=g by simp only[List.length_cons,List.length_nil];omega]
def W61:qJ:=fun args H Bd K=>∃(l:List Int),args=[lst l]∧((sm l)∧K (.bool (incI l)) H Bd)
@[go_sem ↓] theorem W61_eq (l:List Int):W61 [lst l] H Bd K=((sm l)∧K (.bool (incI l)) H Bd):=ex1 l rfl
theorem W61_ok:OK 61 W61:=by
 rintro args H Bd K ⟨l,rfl,hpre,hK⟩
 refine fnp pok (Env.base _) [(4,[0,1,2,3,4,5,6,7,8,9],[⟨0,[],[]⟩,⟨1,[],[]⟩,⟨2,[],[]⟩,⟨3,[],[]⟩,⟨4,[],[]⟩,⟨5,[],[]⟩,⟨6,[],[]⟩,⟨7,[],[]⟩,⟨8,[],[]⟩,⟨9,[],[]⟩], .nil)] hK Tryz.func61 Tryz.ntmps61 Tryz.call61 [.tmp 2] fun hb ha=> ?_
 refine jH pok fun cv=> ?_
 have hlen:=qY hpre
 refine R0 ?_
 refine jB (fun k=>∀j,j<k→∀x y,l[j]? =some x→l[j+1]? =some y→x<y) (l.length-1) (fun k=>[(0,lst l),(3, .int .i64 ((k:Int)+1))]) (fun j hj=>absurd hj (Nat.not_lt_zero _)) (by simp only[go_sem,push_cast,qB,qA,Int.zero_add]) ?_
 intro k Bk hIk hik hBk
 refine cv (by kernel_rfl) ?_
 rcases Nat.lt_or_ge k (l.length-1)with hltk|hgek
 ·have e1:l[k]? =some (l[k]'(by omega)):=List.getElem?_eq_getElem _
  have e2:l[k+1]? =some (l[k+1]'(by omega)):=List.getElem?_eq_getElem _
  have c1:((k:Int)+1-1).toNat=k:=by omega
  have c2:((k:Int)+1).toNat=k+1:=by omega
  by_cases hq:l[k]'(by omega)<l[k+1]'(by omega)
  ·refine R (cj e1 (cj e2 (cj c1 (cj c2 hq)))) ?_
   intro j hj x y j1 j2
   by_cases e:j=k
   ·subst e;rw[e1]at j1;rw[e2]at j2;cases j1;cases j2;exact hq
   ·exact hIk j (by omega) x y j1 j2
  ·have e:incI l=false:=incI_no e1 e2 hq
   exact R (cj e1 (cj e2 (cj c1 (cj c2 (cj hq e))))) trivial
 ·refine R0 ?_
  refine cv (by kernel_rfl) ?_
  have e:incI l=true:=incI_yes fun j x y j1 j2=>hIk j (by have:=(List.getElem?_eq_some_iff.1 j2).1;omega) x y j1 j2
  exact R e trivial
theorem L61_pure:PureV W61:=by
 rintro args H Bd K ⟨x0,rfl,hpre,hK⟩
 exact⟨_,by first|exact .bool _|exact .int _ _|exact .string _|exact vc_enc _,hK,fun H' K' hs h=>⟨x0,rfl,hpre,h⟩⟩
def L61:qJ:=LendA W61
@[go_sem ↓] theorem L61_eq (v0:Value):L61 [v0] H Bd K=qS W61 (idS [giveA H v0]) H Bd K:=(rfl)
theorem L61_ok:OK 61 L61:=LendA_ok W61_ok L61_pure
def W14:qJ:=fun args H Bd K=>∃(d:GDisk) (p:GSuper),args=[.agg (enc d).toArray, .agg (enc p).toArray]∧((sm d∧sm p)∧K (.agg (enc (keptR d p)).toArray) H Bd)
@[go_sem ↓] theorem W14_eq (d_sectors:List (List UInt8)) (d_pending:List GPut) (p_gen:Int) (p_root:Int) (p_shadow:Int) (p_theory:Int) (p_next:Int) (p_version:Int) (p_moving:Bool) (p_cursor:List UInt8) (p_symbols_symbols:List GSymbol):W14 [.agg #[lst d_sectors,lst d_pending], .agg #[.int .i64 p_gen, .int .i64 p_root, .int .i64 p_shadow, .int .i64 p_theory, .int .i64 p_next, .int .i64 p_version, .bool p_moving,lst p_cursor,lst p_symbols_symbols]] H Bd K=((sm (GDisk.mk d_sectors d_pending)∧sm (GSuper.mk p_gen p_root p_shadow p_theory p_next p_version p_moving p_cursor (GSignature.mk p_symbols_symbols)))∧K (.agg (enc (keptR (GDisk.mk d_sectors d_pending) (GSuper.mk p_gen p_root p_shadow p_theory p_next p_version p_moving p_cursor (GSignature.mk p_symbols_symbols)))).toArray) H Bd):=ex2 (GDisk.mk d_sectors d_pending) (GSuper.mk p_gen p_root p_shadow p_theory p_next p_version p_moving p_cursor (GSignature.mk p_symbols_symbols)) rfl
set_option maxHeartbeats 2000000 in
theorem W14_ok:OK 14 W14:=by
 rintro args H Bd K ⟨d,p,rfl,hpre,hK⟩
 refine fnp pok ((((((((Env.base _).add 56 _ W56_ok).add 57 _ W57_ok).add 55 _ W55_ok).add 58 _ W58_ok).add 59 _ W59_ok).add 60 _ W60_ok).add 61 _ L61_ok) [(1,[0,2,1,3,4,5,6],[⟨0,[],[]⟩,⟨2,[],[]⟩,⟨1,[],[2]⟩,⟨3,[],[]⟩,⟨4,[],[]⟩,⟨5,[4],[]⟩,⟨6,[],[]⟩], .nil)] hK Tryz.func14 Tryz.ntmps14 Tryz.call14 [.cell 4 36] fun hb ha=> ?_
 refine jH pok fun cv=> ?_
 obtain⟨h1,hp⟩:=hpre
 have hff:sm [yN d,yO p]:=(yR _).2 (by simp)
 have hfs:vF id [yN d,yO p]=if yN d≠0 then yN d else yO p:=by by_cases g1:yN d=0 <;>by_cases g2:yO p=0 <;>simp[g1,g2,vF]
 by_cases hd:yN d=0
 case neg=>
  have e:keptR d p=⟨yN d,[]⟩:=by unfold keptR;rw[if_pos hd]
  rw[if_pos hd]at hfs
  rw[e]
  exact RA (cj h1 (cj hp (cj hff (cj hfs hd)))) trivial
 rw[if_neg (by simpa using hd)]at hfs
 by_cases hs:yO p=0
 case neg=>
  have e:keptR d p=⟨yO p,[]⟩:=by unfold keptR;rw[if_neg (by simpa using hd),if_pos hs]
  rw[e]
  exact RA (cj h1 (cj hp (cj hff (cj hfs hs)))) trivial
 have e:keptR d p=vO d p:=by unfold keptR;rw[if_neg (by simpa using hd),if_neg (by simpa using hs)]
 rw[e]
 have h2:=disk_ok hd
 have hS:=kH hs
 have hsp:=hS.root
 have hsh:=hS.shadow
 have hsn:=hS.next_
 have hst:=hS.theory
 have rr:R64 p.root:=⟨by omega,by omega⟩
 have rs:R64 p.shadow:=⟨by omega,by omega⟩
 have rn:R64 p.next_:=⟨by omega,by omega⟩
 have rt:R64 p.theory:=⟨by omega,by omega⟩
 have hl1:=(treeI_len d p.root).1
 have hl2:=(treeI_len d p.shadow).1
 have hsl:=kI (jU d p.root).2.pages
 have hsl2:=kI (jU d p.shadow).2.pages
 rw[hs]at hff hfs
 refine RA (cj h1 (cj hp (cj hff (cj hfs hs)))) ?_
 refine kB (X:=Nat×List Int) hb (by omega) 1 [.s 6] rfl (fun x=>x.1≤2∧x.2.length≤16000∧(x.1=0→x.2=[])∧(1≤x.1→(jU d p.root).1=0)∧(x.1=1→x.2=keptA d p)∧(x.1=2→(jU d p.shadow).1=0∧x.2=keptB d p)) (fun x=>2-x.1) (fun Nx x=>[(2, .pointer (some ⟨Bd,0,none⟩)),(3, .pointer (some ⟨Bd+1,0,none⟩)),(4, .pointer (some ⟨Bd+2,0,none⟩)),(6, .slice (some ⟨Nx,0,some 1⟩) x.2.length (x.2.length+1)),(28,lst [p.root,p.shadow]),(29, .int .i64 2),(30, .int .i64 x.1)]) (fun Nx x=>[(Bd,⟨[lst d.sectors,lst d.pending],true⟩),(Bd+1,⟨[.int .i64 p.gen, .int .i64 p.root, .int .i64 p.shadow, .int .i64 p.theory, .int .i64 p.next_, .int .i64 p.version, .bool p.moving,lst p.cursor,lst p.symbols.symbols],true⟩),(Bd+2,⟨[.int .i64 0, .slice none 0 0],true⟩),(Nx,⟨qQ x.2,true⟩)]) (0,[]) (⟨by omega,by simp,fun _=>rfl,fun h=>absurd h (by omega),fun h=>absurd h (by omega),fun h=>absurd h (by omega)⟩) (fun Nx hNx=>(cant)) ?_
 intro Nx x hNx hIx hbx Fx hFx
 simp only[mem_cons,jK]at hbx ⊢
 refine cv (by kernel_rfl) ?_
 obtain⟨i,out⟩:=x
 obtain⟨i1,i2,i3,i4,i5,i6⟩:=hIx
 simp only at i1 i2 i3 i4 i5 i6
 have hP1:=pagesR_ok (root:=p.root) hd
 have hP2:=pagesR_ok (root:=p.shadow) hd
 have e0:[p.root,p.shadow][0]? =some p.root:=rfl
 have e1:[p.root,p.shadow][1]? =some p.shadow:=rfl
 rcases(by omega:i=0∨i=1∨i=2)with rfl|rfl|rfl
 ·obtain rfl:=i3 rfl
  by_cases hc:(jU d p.root).1=0
  ·rw[if_neg (by simpa using hc)]at hP1
   refine RA (cj h1 (cj rr (cj hP1 e0))) ?_
   refine hFx (1,[]++vM (jU d p.root).2.pages) _ _ _ ?_ ?_ (by simp only[go_sem,push_cast,qB,qA]) ((by simp (disch:=first|assumption|omega|(simp (disch:=omega) only[qC,qE hb];done)|(simp (disch:=first|omega|(simp (disch:=omega) only[qC,qE hb];done)) only[go_sem,push_cast,qB,qA,qC,qE hb];done)|fail) only[go_sem,push_cast,qB,qA,qM,qG hb,qC,qE hb,jC,qL,qU,jS,jI,jD,jX,jL,List.append_assoc,List.length_append,List.length_cons,List.length_nil,Nat.zero_add,hsl,List.nil_append];all_goals (try simp only[Value.int.injEq,Value.slice.injEq,true_and,and_true]) <;>all_goals (try(first|trivial|omega|grind))))
   ·show 2-1<2-0
    omega
   ·refine⟨by omega,?_,fun h=>absurd h (by simp),fun _=>hc,fun _=>rfl,fun h=>absurd h (by simp)⟩
    show(vM (jU d p.root).2.pages).length≤16000
    omega
  ·rw[if_pos hc]at hP1
   have e:vO d p=⟨(jU d p.root).1,[]⟩:=by unfold vO;rw[if_pos hc]
   rw[e]
   exact RA (cj h1 (cj rr (cj hP1 (cj e0 hc)))) trivial
 ·obtain rfl:=i5 rfl
  have hc0:=i4 (Nat.le_refl _)
  have hla:(keptA d p).length≤7776:=by unfold keptA;omega
  by_cases hc:(jU d p.shadow).1=0
  ·rw[if_neg (by simpa using hc)]at hP2
   refine RA (cj h1 (cj rs (cj hP2 (cj e1 hsl2)))) ?_
   refine hFx (2,keptA d p++vM (jU d p.shadow).2.pages) _ _ _ ?_ ?_ (by simp only[go_sem,push_cast,qB,qA]) ((canf hsl2))
   ·show 2-2<2-1
    omega
   ·refine⟨by omega,?_,fun h=>absurd h (by simp),fun _=>hc0,fun h=>absurd h (by simp),fun _=>⟨hc,rfl⟩⟩
    show(keptA d p++vM (jU d p.shadow).2.pages).length≤16000
    rw[List.length_append];omega
  ·rw[if_pos hc]at hP2
   have e:vO d p=⟨(jU d p.shadow).1,[]⟩:=by unfold vO;rw[if_neg (by simpa using hc0),if_pos hc]
   rw[e]
   exact RA (cj h1 (cj rs (cj hP2 (cj e1 hc)))) trivial
 have hc1:=i4 (by omega)
 obtain⟨hc2,rfl⟩:=i6 rfl
 refine R0 ?_
 refine cv (by kernel_rfl) ?_
 refine RA0 ?_
 refine kB (X:=Nat×List Int) hb (by omega) 1 [.s 6] rfl (fun y=>y.1≤2∧y.2.length≤20000∧(y.1=0→y.2=keptB d p)∧(1≤y.1→(qT d p.theory).2.2=0)∧(y.1=1→y.2=keptB d p++(qT d p.theory).2.1)∧(y.1=2→(p.next_≠0→(qT d p.next_).2.2=0)∧y.2=keptL d p)) (fun y=>2-y.1) (fun Ny y=>[(2, .pointer (some ⟨Bd,0,none⟩)),(3, .pointer (some ⟨Bd+1,0,none⟩)),(4, .pointer (some ⟨Bd+2,0,none⟩)),(6, .slice (some ⟨Ny,0,some 1⟩) y.2.length (y.2.length+1)),(52,lst [p.theory,p.next_]),(53, .int .i64 2),(54, .int .i64 y.1)]) (fun Ny y=>[(Bd,⟨[lst d.sectors,lst d.pending],true⟩),(Bd+1,⟨[.int .i64 p.gen, .int .i64 p.root, .int .i64 p.shadow, .int .i64 p.theory, .int .i64 p.next_, .int .i64 p.version, .bool p.moving,lst p.cursor,lst p.symbols.symbols],true⟩),(Bd+2,⟨[.int .i64 0, .slice none 0 0],true⟩),(Ny,⟨qQ y.2,true⟩)]) (0,keptB d p) (⟨by omega,Nat.le_trans i2 (by omega),fun _=>rfl,fun h=>absurd h (by omega),fun h=>absurd h (by omega),fun h=>absurd h (by omega)⟩) (fun Ny hNy=>(cant)) ?_
 intro Ny y hNy hIy hby Fy hFy
 simp only[mem_cons,jK]at hby ⊢
 refine cv (by kernel_rfl) ?_
 obtain⟨j,out⟩:=y
 obtain⟨j1,j2,j3,j4,j5,j6⟩:=hIy
 simp only at j1 j2 j3 j4 j5 j6
 have hC1:=chainR_ok (h:=p.theory) hd
 have hC2:=chainR_ok (h:=p.next_) hd
 have f0:[p.theory,p.next_][0]? =some p.theory:=rfl
 have f1:[p.theory,p.next_][1]? =some p.next_:=rfl
 have hl3:=chainD_len d p.theory
 have hl4:=chainD_len d p.next_
 have hLL:=keptL_len d p
 have ht0:¬p.theory=0:=by omega
 rcases(by omega:j=0∨j=1∨j=2)with rfl|rfl|rfl
 ·obtain rfl:=j3 rfl
  by_cases hc:(qT d p.theory).2.2=0
  ·refine RA (cj h1 (cj rt (cj hC1 (cj f0 (cj ht0 hc))))) ?_
   refine hFy (1,keptB d p++(qT d p.theory).2.1) _ _ _ ?_ ?_ (by simp only[go_sem,push_cast,qB,qA]) ((cant))
   ·show 2-1<2-0
    omega
   ·refine⟨by omega,?_,fun h=>absurd h (by simp),fun _=>hc,fun _=>rfl,fun h=>absurd h (by simp)⟩
    show(keptB d p++(qT d p.theory).2.1).length≤20000
    rw[List.length_append];omega
  ·have e:vO d p=⟨(qT d p.theory).2.2,[]⟩:=by unfold vO;rw[if_neg (by simpa using hc1),if_neg (by simpa using hc2),if_pos hc]
   rw[e]
   exact RA (cj h1 (cj rt (cj hC1 (cj f0 (cj ht0 hc))))) trivial
 ·obtain rfl:=j5 rfl
  have hc0:=j4 (Nat.le_refl _)
  by_cases hn:p.next_=0
  ·have hk:keptL d p=keptB d p++(qT d p.theory).2.1:=by unfold keptL keptN;rw[if_pos hn,List.append_nil]
   refine R (cj f1 hn) ?_
   refine hFy (2,keptB d p++(qT d p.theory).2.1) _ _ _ ?_ ?_ (by simp only[go_sem,push_cast,qB,qA]) ((cant))
   ·show 2-2<2-1
    omega
   ·exact⟨by omega,j2,fun h=>absurd h (by simp),fun _=>hc0,fun h=>absurd h (by simp),fun _=>⟨fun h=>absurd hn h,hk.symm⟩⟩
  by_cases hc:(qT d p.next_).2.2=0
  ·have hk:keptL d p=keptB d p++(qT d p.theory).2.1++(qT d p.next_).2.1:=by unfold keptL keptN;rw[if_neg hn]
   refine RA (cj h1 (cj rn (cj hC2 (cj f1 (cj hn hc))))) ?_
   refine hFy (2,keptB d p++(qT d p.theory).2.1++(qT d p.next_).2.1) _ _ _ ?_ ?_ (by simp only[go_sem,push_cast,qB,qA]) ((cant))
   ·show 2-2<2-1
    omega
   ·refine⟨by omega,?_,fun h=>absurd h (by simp),fun _=>hc0,fun h=>absurd h (by simp),fun _=>⟨fun _=>hc,hk.symm⟩⟩
    show(keptB d p++(qT d p.theory).2.1++(qT d p.next_).2.1).length≤20000
    rw[←hk];exact hLL
  ·have e:vO d p=⟨(qT d p.next_).2.2,[]⟩:=by unfold vO;rw[if_neg (by simpa using hc1),if_neg (by simpa using hc2),if_neg (by simpa using hc0),if_pos ⟨hn,hc⟩]
   rw[e]
   exact RA (cj h1 (cj rn (cj hC2 (cj f1 (cj hn hc))))) trivial
 have hc3:=j4 (by omega)
 obtain⟨hc4,rfl⟩:=j6 rfl
 have hsk:=kI (keptL d p)
 have hsm:sm (vM (keptL d p)):=(yR _).2 (by omega)
 have e:vO d p=if incI (vM (keptL d p))=true then⟨0,vM (keptL d p)⟩else⟨6,[]⟩:=by
  unfold vO
  rw[if_neg (by simpa using hc1),if_neg (by simpa using hc2),if_neg (by simpa using hc3),if_neg (fun h=>h.2 (hc4 h.1))]
 rw[e]
 refine R0 ?_
 refine cv (by kernel_rfl) ?_
 by_cases hi:incI (vM (keptL d p))=true
 ·refine R (cj hi (cj hsm hsk)) ?_
  exact jA (by simp (disch:=first|assumption|omega) only[go_sem,push_cast,qB,qA]) (hb.fresh _ (by omega)) rfl (by first|rfl|exact(kI _).symm|simp|omega)
 ·exact R (cj hi (cj hsm hsk)) trivial
def W280:qJ:=fun args H Bd K=>∃(s:GSignature) (n:Int),args=[.agg (enc s).toArray, .int .i64 n]∧((sm s∧R64 n)∧K (.bool (isSym s n)) H Bd)
@[go_sem ↓] theorem W280_eq (s_symbols:List GSymbol) (n:Int):W280 [.agg #[lst s_symbols], .int .i64 n] H Bd K=((sm (GSignature.mk s_symbols)∧R64 n)∧K (.bool (isSym (GSignature.mk s_symbols) n)) H Bd):=ex2 (GSignature.mk s_symbols) n rfl
theorem W280_ok:OK 280 W280:=by
 rintro args H Bd K ⟨s,n,rfl,hpre,hK⟩
 refine fnp pok ((Env.base _).add 113 _ W113_ok) [] hK Tryz.func280 Tryz.ntmps280 Tryz.call280 [.tmp 4] fun hb ha=> ?_
 obtain⟨h1,h2⟩:=hpre
 simp only[yL]at h1
 have hlen:=qY h1
 refine R0 ?_
 unfold isSym
 all_goals first|done|trivial|((try simp only[Cnp,Imp]);grind)
def W272:qJ:=fun args H Bd K=>∃(s:GSignature) (n:Int),args=[.agg (enc s).toArray, .int .i64 n]∧((sm s∧R64 n)∧K (.bool (kF s n)) H Bd)
@[go_sem ↓] theorem W272_eq (s_symbols:List GSymbol) (n:Int):W272 [.agg #[lst s_symbols], .int .i64 n] H Bd K=((sm (GSignature.mk s_symbols)∧R64 n)∧K (.bool (kF (GSignature.mk s_symbols) n)) H Bd):=ex2 (GSignature.mk s_symbols) n rfl
theorem W272_ok:OK 272 W272:=by
 rintro args H Bd K ⟨s,n,rfl,hpre,hK⟩
 refine fnp pok (((Env.base _).add 280 _ W280_ok).add 113 _ W113_ok) [(1,[],[],(.k 4 (.grp false 8 10 2 [9,10] 11 none (.k 2 .nil) (.k 1 .nil))))] hK Tryz.func272 Tryz.ntmps272 Tryz.call272 [.tmp 4] fun hb ha=> ?_
 obtain⟨h1,h2⟩:=hpre
 refine R (cj h1 h2) ?_
 simp[kF]
end Go.Proofs.YthoahlghegcfnaaGreatDoor
