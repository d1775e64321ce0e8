/- YtogofkjpbpgneaaGreatDoorF4 -/
import Derived.Test.YtogofkjpbpgneaaGreatDoorF3
set_option linter.unusedSimpArgs false
set_option linter.unusedVariables false
set_option maxRecDepth 20000
set_option maxHeartbeats 4000000
namespace Go.Proofs.YtogofkjpbpgneaaGreatDoor
open Go Go.SC Tryz
variable {H:AH} {Bd:Nat} {K:Value->AH->Nat->Prop}
theorem G181(g:Nat)(caps:Array Value)(p:GPut->Bool)(xs:List GPut)(H:AH)(Bd:Nat)(K:Value->AH->Nat->Prop)(hsm:sm xs)(hg:∀x∈xs,∀B,Bd<=B->∀K':Value->AH->Nat->Prop,K' (.bool (p x)) H B->SCalls Tryz.prog g (idS ((.agg (enc (x)).toArray)::caps.toList)) H B K')(hK:K (iv (fidx p xs)) H Bd):SCalls Tryz.prog 181 [lst xs, .func (.func g) #[] caps] H Bd K:=by
 refine yF pok uA [] _ hK func181 rfl (rs:=[.tmp 4]) rfl ntmps181 (by simp) call181 (by kernel_rfl) (fun ha hb=> .int _ _) (fun hb ha=>?_)
 refine jF pok fun cv=>?_
 have hlen:=qS hsm
 refine R0 ?_
 refine jA (fun i=>∀j,j<i->∀x,xs[j]? =some x->p x=false) (xs.length) (fun i=>[(0,lst xs),(1, .func (.func g) #[] caps),(7,iv xs.length),(8,iv i)]) (by simp) (by simp only[go_sem,push_cast,qB,qA]) ?_
 intro i Bi hIi hii hBi
 refine cv (by kernel_rfl) ?_
 rcases xM i (xs.length)with hlti|hgei
 ·have e1:xs[i]? =some xs[i]:=xA hlti
  refine R e1 ?_
  refine hg _ (xH hlti) _ (by omega) _ ?_
  refine R e1 ?_
  exact⟨fun h=>by rw[zC hlti hIi h],fun h=>fun j hj x hx=>by
   by_cases e:j=i
   ·subst e;rw[e1]at hx;cases hx;simpa using h
   ·exact hIi j (by omega) x hx⟩
 ·refine R0 ?_
  refine cv (by kernel_rfl) ?_
  refine R0 ?_
  rw[vY fun j hj x hx=>hIi j (by omega) x hx]
def V182:qH:=fun g' H Bd K=>∃(x:GPut) (n:Int),g'=[.agg (enc x).toArray, .agg (enc n).toArray]/\(K (.bool (decide (x.sector=n))) H Bd)
def W182:qH:=fun g' H Bd K=>∃(vx pn:Value),g'=[vx,pn]/\Yld (qI H 1 pn) fun cn=>qQ V182 [vx, .agg cn.toArray] H Bd K
theorem W182_ok:OK 182 W182:=by
 rintro _ H Bd K ⟨vx,pn,rfl,cn,en,h⟩
 obtain⟨x,n,e,hK⟩:=h
 simp only[xG,and_true]at e
 obtain⟨rfl,En⟩:=e
 obtain rfl:=qR En
 refine fnp pok uA [] hK func182 ntmps182 call182 [.tmp 3] fun hb ha=>?_
 have Pn:=qM en (NB.vpok (ha pn (by simp)))
 simp only[jS,jT,jH,jK,jB]at Pn
 have Zn:=Pn.all 1 rfl
 have Yn:=jE (ha pn (by simp))
 exact R Zn trivial
def V181_182:qH:=fun g' H Bd K=>∃(xs:List GPut) (n:Int),g'=[lst xs, .agg (enc n).toArray]/\((sm xs)/\K (iv (fidx (fun x:GPut=>decide (x.sector=n)) xs)) H Bd)
@[go_sem ↓] theorem V181_182_eq (a:List GPut) (b:Int):V181_182 [lst a, .agg #[iv b]] H Bd K=((sm a)/\K (iv (fidx (fun x:GPut=>decide (x.sector=b)) a)) H Bd):=ex2 a b rfl
def W181_182:qH:=fun g' H Bd K=>∃(vxs pn:Value),g'=[vxs, .func (.func 182) #[] #[pn]]/\Yld (qI H 1 pn) fun cn=>qQ V181_182 [vxs, .agg cn.toArray] H Bd K
@[go_sem ↓] theorem W181_182_eq (a b:Value):W181_182 [a, .func (.func 182) #[] #[b]] H Bd K=(Yld (qI H 1 b) fun cn=>qQ V181_182 (idS [a, .agg cn.toArray]) H Bd K):=by
 refine propext ⟨fun h=>?_,fun h=>⟨_,_,rfl,h⟩⟩
 obtain⟨vxs',pn',e,h⟩:=h
 simp only[xG,Value.func.injEq,jD,xG,and_true,true_and]at e
 obtain⟨rfl,rfl⟩:=e
 exact h
theorem W181_182_ok:OK 181 W181_182:=by
 rintro _ H Bd K ⟨vxs,pn,rfl,cn,en,h⟩
 obtain⟨xs,n,e,hpre,hK⟩:=h
 simp only[xG,and_true]at e
 obtain⟨rfl,En⟩:=e
 obtain rfl:=qR En
 refine G181 182 #[pn] (fun x:GPut=>decide (x.sector=n)) xs H Bd K hpre (fun x hx B hB K' hk=>?_) hK
 exact W182_ok _ _ _ _ ⟨_,_,rfl,_,en,x,n,rfl,hk⟩
def W136:qH:=fun g' H Bd K=>∃(d:GDisk) (n:Int),g'=[.agg (enc d).toArray,iv n]/\((sm d)/\K (iv (waitD d n)) H Bd)
@[go_sem ↓] theorem W136_eq (a:List (List UInt8)) (b:List GPut) (c:Int):W136 [.agg #[lst a,lst b],iv c] H Bd K=((sm (GDisk.mk a b))/\K (iv (waitD (GDisk.mk a b) c)) H Bd):=ex2 (GDisk.mk a b) c rfl
theorem W136_ok:OK 136 W136:=by
 rintro _ H Bd K ⟨d,n,rfl,hpre,hK⟩
 refine fnp pok (uA.uB W181_182_ok) [] hK func136 ntmps136 call136 [.tmp 4] fun hb ha=>?_
 simp only[sm_GDisk]at hpre
 refine R hpre ?_
 try rfl
def W90:qH:=fun g' H Bd K=>∃(d:GDisk),g'=[.agg (enc d).toArray]/\((sm d)/\K (iv (yR d)) H Bd)
@[go_sem ↓] theorem W90_eq (a:List (List UInt8)) (b:List GPut):W90 [.agg #[lst a,lst b]] H Bd K=((sm (GDisk.mk a b))/\K (iv (yR (GDisk.mk a b))) H Bd):=ex1 (GDisk.mk a b) rfl
theorem W90_ok:OK 90 W90:=by
 rintro _ H Bd K ⟨d,rfl,hpre,hK⟩
 refine fnp pok ((((uA.uB W133_ok).uB W134_135_ok).uB W103_ok).uB W136_ok) [] hK func90 ntmps90 call90 [.tmp 2] fun hb ha=>?_
 refine jF pok fun cv=>?_
 have hd:=hpre
 simp only[sm_GDisk]at hpre
 have hlen:=qS hpre.1
 have hlen2:=qS hpre.2
 rcases Decidable.em (¬(8<=d.sectors.length/\d.sectors.length<=64))with h8|h8
 ·have hf:yR d=2:=by unfold yR;rw[if_pos h8]
  refine R (cj hd hf) ?_
  all_goals first|trivial|exact fun a b=>absurd (And.intro (by omega) (by omega)) h8
 have hf:yR d=diskG d:=by unfold yR;rw[if_neg h8]
 rw[hf]
 obtain⟨h81,h82⟩:=Decidable.not_not.1 h8
 have hall:∀x∈d.sectors,sm x:=fun x hx=>yP hpre.1 hx
 by_cases hany0:d.sectors.any (fun b=>decide (b.length≠96))=true
 ·have hg:diskG d=1:=by unfold diskG;rw[if_pos hany0]
  rw[hg]
  exact R (cj5 h81 h82 hpre hall hany0) trivial
 ·have hany:d.sectors.any (fun b=>decide (b.length≠96))=false:=by simpa using hany0
  by_cases hp:d.pending.length>d.sectors.length
  ·have hg:diskG d=2:=by unfold diskG;rw[if_neg (by rw[hany];exact Bool.false_ne_true),if_pos hp]
   rw[hg]
   exact R (cj6 h81 h82 hpre hall hany hp) trivial
  have hg:diskG d=if putF d.sectors.length d.pending≠0 then putF d.sectors.length d.pending else if(d.pending.map (·.sector)).Nodup then 0 else 6:=by unfold diskG;rw[if_neg (by rw[hany];exact Bool.false_ne_true),if_neg hp]
  refine R (cj6 h81 h82 hpre hall hany hp) ?_
  refine jA (fun i=>putF d.sectors.length (d.pending.drop i)=putF d.sectors.length d.pending) (d.pending.length) (fun i=>[(1,pt Bd),(23,lst d.pending),(24,iv d.pending.length),(25,iv i)]) (by simp) (by simp only[go_sem,push_cast,qB,qA]) ?_
  intro i Bi hIi hii hBi
  refine cv (by kernel_rfl) ?_
  rcases xM i (d.pending.length)with hlti|hgei
  ·have e1:d.pending[i]? =some d.pending[i]:=xA hlti
   have hd2:=wI hlti
   have hx:=yP hpre.2 (xH hlti)
   simp only[sm_GPut]at hx
   have hx2:=qS hx.2
   rw[hd2,putF]at hIi
   by_cases hr:0<=d.pending[i].sector/\d.pending[i].sector<=(d.sectors.length:Int)-1
   ·rw[if_neg (by simpa using hr)]at hIi
    by_cases hb9:d.pending[i].bytes.length=96
    ·rw[if_neg (by simpa using hb9)]at hIi
     obtain⟨hr1,hr2⟩:=hr
     exact R (cj6 e1 hd hr1 hr2 hb9 hIi) trivial
    ·rw[if_pos hb9]at hIi
     have hg2:diskG d=1:=by rw[hg,<-hIi];rfl
     obtain⟨hr1,hr2⟩:=hr
     rw[hg2]
     exact R (cj5 e1 hd hr1 hr2 hb9) trivial
   ·rw[if_pos hr]at hIi
    have hg2:diskG d=3:=by rw[hg,<-hIi];rfl
    rw[hg2]
    refine R (cj3 e1 hd hr) ?_
    all_goals (first|trivial|exact fun a b=>absurd (And.intro (by omega) (by omega)) hr|(intros;omega))
  ·refine R0 ?_
   have h0:putF d.sectors.length d.pending=0:=by rw[<-hIi,List.drop_of_length_le hgei];rfl
   rw[h0]at hg
   simp only[ne_eq,not_true_eq_false,if_false]at hg
   refine cv (by kernel_rfl) ?_
   refine R0 ?_
   refine jA (fun j=>∀a b x y,b<a->a<j->d.pending[a]? =some x->d.pending[b]? =some y->x.sector≠y.sector) (d.pending.length) (fun j=>[(1,pt Bd),(40,lst d.pending),(41,iv d.pending.length),(42,iv j)]) (by simp) (by simp only[go_sem,push_cast,qB,qA]) ?_
   intro j Bj hIj hij hBj
   refine cv (by kernel_rfl) ?_
   rcases xM j (d.pending.length)with hltj|hgej
   ·have e1:d.pending[j]? =some d.pending[j]:=xA hltj
    have hself:=waitD_self hltj
    by_cases hq:waitD d d.pending[j].sector=j
    ·refine R (cj3 e1 hd hq) ?_
     intro a b x y h1 h2 h3 h4
     by_cases e:a=j
     ·subst e
      rw[e1]at h3;cases h3
      have hb2:b<d.pending.length:=by omega
      rw[xA hb2]at h4;cases h4
      exact fun q=>((hself.1 hq) b h1) q.symm
     ·exact hIj a b x y h1 (by omega) h3 h4
    ·have hn:¬(d.pending.map (·.sector)).Nodup:=fun hn=>hq (hself.2 fun k hk e=>nodup_map_not (f:=(·.sector)) hk hltj e.symm hn)
     rw[if_neg hn]at hg
     rw[hg]
     exact R (cj3 e1 hd hq) trivial
   ·refine R0 ?_
    refine cv (by kernel_rfl) ?_
    have h7:(d.pending.map (·.sector)).Nodup:=nodup_map fun i j x y h1 h2 h3 h4=>hIj i j x y h1 (by omega) h3 h4
    rw[if_pos h7]at hg
    rw[hg]
    exact R0 trivial
def W102:qH:=fun g' H Bd K=>∃(xs:List UInt8) (ys:List UInt8),g'=[lst xs,lst ys]/\(K (.bool (decide (xs=ys))) H Bd)
@[go_sem ↓] theorem W102_eq (a b:List UInt8):W102 [lst a,lst b] H Bd K=(K (.bool (decide (a=b))) H Bd):=ex2 a b rfl
theorem W102_ok:OK 102 W102:=by
 rintro _ H Bd K ⟨xs,ys,rfl,hK⟩
 refine fnp pok uA [] hK func102 ntmps102 call102 [.tmp 4] fun hb ha=>?_
 simp (maxSteps:=2000000) (disch:=first|exact dq|fail) only[go_sem,push_cast,qB,qA,qL hb,qE hb]
 all_goals first|done|trivial|((try simp only[Cnp,Imp]);grind)
def W138:qH:=fun g' H Bd K=>∃(xs:List UInt8),g'=[lst xs]/\((xs.length<=2000)/\K (.agg (enc (GIntResult.mk 0 (sumB 29 xs))).toArray) H Bd)
@[go_sem ↓] theorem W138_eq (a:List UInt8):W138 [lst a] H Bd K=((a.length<=2000)/\K (.agg (enc (GIntResult.mk 0 (sumB 29 a))).toArray) H Bd):=ex1 a rfl
theorem W138_ok:OK 138 W138:=by
 rintro _ H Bd K ⟨xs,rfl,hpre,hK⟩
 refine fnp pok uA [] hK func138 ntmps138 call138 [.cell 2 222] fun hb ha=>?_
 refine jF pok fun cv=>?_
 have hlen:=hpre
 refine R0 ?_
 refine jA (fun i=>True) (xs.length) (fun i=>[(2,pt Bd),(3,iv (sumB 29 (xs.take i))),(10,lst xs),(11,iv xs.length),(12,iv i)]) (trivial) (by simp only[go_sem,push_cast,qB,qA,List.take_zero,sumB]) ?_
 intro i Bi hIi hii hBi
 refine cv (by kernel_rfl) ?_
 rcases xM i (xs.length)with hlti|hgei
 ·have e1:xs[i]? =some xs[i]:=xA hlti
  have hst:=sumB_take hlti
  have hr:=sum_rg (xs.take i)
  have hby:(xs[i].toNat:Int)<256:=by have:=xs[i].toNat_lt;omega
  have ht:(sumB 29 (xs.take i)*227+(xs[i].toNat:Int)+1).tmod 65521=(sumB 29 (xs.take i)*227+(xs[i].toNat:Int)+1)%65521:=Int.tmod_eq_emod_of_nonneg (by omega)
  have hcm:227*sumB 29 (xs.take i)=sumB 29 (xs.take i)*227:=Int.mul_comm _ _
  exact R (cj4 e1 hst hcm ht) trivial
 ·refine R0 ?_
  refine cv (by kernel_rfl) ?_
  rw[xO hgei]
  exact R0 trivial
def W137:qH:=fun g' H Bd K=>∃(n:Int),g'=[iv n]/\((0<=n/\n<=65535)/\K (lst (jX n)) H Bd)
@[go_sem ↓] theorem W137_eq (a:Int):W137 [iv a] H Bd K=((0<=a/\a<=65535)/\K (lst (jX a)) H Bd):=ex1 a rfl
theorem W137_ok:OK 137 W137:=by
 rintro _ H Bd K ⟨n,rfl,hpre,hK⟩
 refine fnp pok uA [] hK func137 ntmps137 call137 [.tmp 2] fun hb ha=>?_
 obtain⟨h1,h2⟩:=hpre
 have e1:n.fdiv (2^min 8 64)=n/256:=by rw[show(2:Int)^(min 8 64)=256 from rfl];exact Int.fdiv_eq_ediv_of_nonneg n (by decide)
 have hl:2=(jX n).length:=rfl
 simp (maxSteps:=2000000) (disch:=first|exact dq|fail) only[go_sem,push_cast,qB,qA,qL hb,qE hb,e1,<-pairB_flat n]
 exact qV (qJ _ _ _) (hb.fresh _ (by omega)) rfl rfl
def W140:qH:=RdTk
@[go_sem ↓] theorem W140_eq (a:Nat) (c:Int):W140 [pt a,iv c] H Bd K=(Yld (H a) fun b=>Yld (rdOf b) fun q=>(q.1.length<=1000000/\0<=c/\c<=1000000)/\K (lst (tkV q c.toNat)) (upd H a (some ⟨[lst (tkS q c.toNat).1, .bool (tkS q c.toNat).2],true⟩)) Bd):=RdTk_eq a c H Bd K
theorem W140_ok:OK 140 W140:=by
 rintro _ H Bd K ⟨n,k,rfl,b0,hb0,q,hq,⟨h1,h2,h3⟩,hK⟩
 obtain rfl:=rdOf_out hq
 refine fn_set pok uA [(1,[],[],(.k 5 (.grp false 10 17 7 [11,12,13,14,15,16,17] 18 none (.k 7 .nil) .nil)))] _ hK (fun hh=>hb_setR hh hb0 _) func140 rfl (rs:=[.tmp 4]) rfl ntmps140 (by simp) call140 (by kernel_rfl) (fun ha hb=>lst_nb _ _) (fun hb ha=>?_)
 obtain⟨xs,f⟩:=q
 obtain⟨k,rfl⟩:=Int.eq_ofNat_of_zero_le h2
 have hnB:=zI hb hb0
 have hLe:=le_own hb0
 simp only[rdB]at hb0 hLe
 simp only at h1
 simp only[Int.toNat_natCast]
 cases f with
 |true=>
  have e1:tkV (xs,true) k=List.replicate k 0:=by unfold tkV tkOK;simp
  have e2:tkS (xs,true) k=(xs,true):=by unfold tkS tkOK;simp
  have hzm:jU k [Value.int .u8 0]=qO (List.replicate k (0:UInt8)):=(zmake_one _ _).trans (flat_zeros _).symm
  rw[e1,e2]
  refine R (cj hb0 hzm) ?_
  refine qV (qJ _ _ _) ?_ rfl (by simp)
  show upd H n _ Bd=none
  rw[qD _ _ (by omega)]
  exact hb.fresh _ (xC _)
 |false=>
  by_cases hk:xs.length<k
  ·have e1:tkV (xs,false) k=List.replicate k 0:=by unfold tkV tkOK;rw[if_neg (by simp;omega)]
   have e2:tkS (xs,false) k=(xs,true):=by unfold tkS tkOK;rw[if_neg (by simp;omega)]
   have hzm:jU k [Value.int .u8 0]=qO (List.replicate k (0:UInt8)):=(zmake_one _ _).trans (flat_zeros _).symm
   rw[e1,e2]
   refine R (cj3 hb0 hk hzm) ?_
   refine qV (qJ _ _ _) ?_ rfl (by simp)
   show upd H n _ Bd=none
   rw[qD _ _ (by omega)]
   exact hb.fresh _ (xC _)
  ·have e1:tkV (xs,false) k=xs.take k:=by unfold tkV tkOK;rw[if_pos (by simp;omega)]
   have e2:tkS (xs,false) k=(xs.drop k,false):=by unfold tkS tkOK;rw[if_pos (by simp;omega)]
   rw[e1,e2]
   exact R (cj3 hb0 hk ((@List.take_length UInt8))) trivial
def W139:qH:=RdT (fun q=> iv (pairV q)) (fun q=>tkS q 2)
@[go_sem ↓] theorem W139_eq (a:Nat):W139 [pt a] H Bd K=(Yld (H a) fun b=>Yld (rdOf b) fun q=>(q.1.length<=1000000)/\K (iv (pairV q)) (upd H a (some ⟨[lst (tkS q 2).1, .bool (tkS q 2).2],true⟩)) Bd):=RdT_eq _ _ a H Bd K
theorem W139_ok:OK 139 W139:=by
 rintro _ H Bd K ⟨n,rfl,b0,hb0,q,hq,h1,hK⟩
 obtain rfl:=rdOf_out hq
 have hK:K (iv (pairV q)) (upd H n (some ⟨[lst (tkS q 2).1, .bool (tkS q 2).2],true⟩)) Bd:=hK
 refine fn_set pok (uA.uB W140_ok) [(2,[0,1,2,3,4,5,6,7,8,9,10],[z0 0,z0 1,z0 2,z0 3,z0 4,z0 5,z0 6,z0 7,z0 8,z0 9,z0 10], .nil)] _ hK (fun hh=>hb_setR hh hb0 _) func139 rfl (rs:=[.tmp 2]) rfl ntmps139 (by simp) call139 (by kernel_rfl) (fun ha hb=> .int _ _) (fun hb ha=>?_)
 obtain⟨xs,f⟩:=q
 have hnB:=zI hb hb0
 have hLe:=le_own hb0
 simp only[rdB]at hb0 hLe
 simp only at h1
 have e0:(tkV (xs,f) 2)[0]? =some ((tkV (xs,f) 2)[0]'(by rw[vB];omega)):=xA _
 have e2:(tkV (xs,f) 2)[1]? =some ((tkV (xs,f) 2)[1]'(by rw[vB];omega)):=xA _
 have e1:pairV (xs,f)=(((tkV (xs,f) 2)[0]'(by rw[vB];omega)).toNat:Int)*256+(((tkV (xs,f) 2)[1]'(by rw[vB];omega)).toNat:Int):=by unfold pairV;rw[xF,e0,xF,e2];rfl
 have e3:=vB (xs,f) 2
 have hA:=((tkV (xs,f) 2)[0]'(by rw[vB];omega)).toNat_lt
 have hC:=((tkV (xs,f) 2)[1]'(by rw[vB];omega)).toNat_lt
 have hor:=or_bytes hA hC
 have h256:(2:Int)^(min 8 64)=256:=rfl
 rw[e1]
 exact R (cj5 hb0 e0 e2 h256 hor) trivial
def W98:qH:=RdT (fun q=> iv (yJ q)) (fun q=>tkS q 1)
@[go_sem ↓] theorem W98_eq (a:Nat):W98 [pt a] H Bd K=(Yld (H a) fun b=>Yld (rdOf b) fun q=>(q.1.length<=1000000)/\K (iv (yJ q)) (upd H a (some ⟨[lst (tkS q 1).1, .bool (tkS q 1).2],true⟩)) Bd):=RdT_eq _ _ a H Bd K
theorem W98_ok:OK 98 W98:=by
 rintro _ H Bd K ⟨n,rfl,b0,hb0,q,hq,h1,hK⟩
 obtain rfl:=rdOf_out hq
 have hK:K (iv (yJ q)) (upd H n (some ⟨[lst (tkS q 1).1, .bool (tkS q 1).2],true⟩)) Bd:=hK
 refine fn_set pok (uA.uB W140_ok) [] _ hK (fun hh=>hb_setR hh hb0 _) func98 rfl (rs:=[.tmp 2]) rfl ntmps98 (by simp) call98 (by kernel_rfl) (fun ha hb=> .int _ _) (fun hb ha=>?_)
 obtain⟨xs,f⟩:=q
 have hnB:=zI hb hb0
 have hLe:=le_own hb0
 simp only[rdB]at hb0 hLe
 simp only at h1
 have e0:(tkV (xs,f) 1)[0]? =some ((tkV (xs,f) 1)[0]'(by rw[vB];omega)):=xA _
 have e1:yJ (xs,f)=(((tkV (xs,f) 1)[0]'(by rw[vB];omega)).toNat:Int):=by unfold yJ;rw[xF,e0];rfl
 have e3:=vB (xs,f) 1
 rw[e1]
 have b0:(((tkV (xs,f) 1)[0]'(by rw[vB];omega)).toNat:Int)<=9223372036854775807:=by have:=((tkV (xs,f) 1)[0]'(by rw[vB];omega)).toNat_lt;omega
 exact R (cj3 hb0 e0 b0) trivial
@[go_sem ↓] def BW141 (n:Nat):Tq:=fun H Bd K=>(Yld (H n) fun b=>Yld (kF rdB b) fun x=>((x.1.length<=1000000))/\K (.agg #[lst (sigR (x.1,x.2)).1]) (upd (upd H n none) n (some ⟨[lst (sigR (x.1,x.2)).2.1, .bool (sigR (x.1,x.2)).2.2],true⟩)) (Bd+0))
def W141:qH:=fun g' H Bd K=>∃(n:Nat),g'=[pt n]/\BW141 n H Bd K
@[go_sem ↓] theorem W141_eq (a:Nat):W141 [pt a] H Bd K=BW141 a H Bd K:=by
 refine propext ⟨fun h=>?_,fun h=>⟨_,rfl,h⟩⟩
 obtain⟨n',e,h⟩:=h
 simp only[xG,Value.agg.injEq,jD,xK,Value.bool.injEq,Value.string.injEq,Value.pointer.injEq,xE,Addr.mk.injEq,lst_inj,true_and,and_true]at e
 obtain rfl:=e
 exact h
theorem W141_ok:OK 141 W141:=by
 rintro _ H Bd K ⟨n,rfl,b,hb0,x,hx,hpre,hK⟩
 obtain⟨rest,fd⟩:=x
 obtain rfl:=kX hx
 simp only[rdB,flB]at hb0 hK hpre
 have hnB:HB H Bd->n<Bd:=fun h=>zI h hb0
 obtain⟨G,rfl,gn,gE,gH⟩:=out1 hb0
 rw[gE]at hK
 refine fn_can pok ((uA.uB W98_ok).uB W140_ok) [(6,[0,1,2,3,4,5,6,7,8,9],[z0 0,z0 1,z0 2,z0 3,⟨4,[],[1]⟩,z0 5,z0 6,⟨7,[6],[]⟩,z0 8,⟨9,[6],[]⟩], .nil)] G [] (.agg #[lst (sigR (rest,fd)).1]) [(n,⟨[lst (sigR (rest,fd)).2.1, .bool (sigR (rest,fd)).2.2],true⟩)] hK (by simp) (gH Bd) func141 rfl (rs:=[.cell 2 51]) rfl ntmps141 (by simp) call141 (by kernel_rfl) (fun hh hb ha=>?_)
 have hn:=hnB hh
 skip
 clear hK gE gH hnB hb0 hx
 refine jF pok fun cv=>?_
 have hone:=vV (rest,fd)
 have hcl:=vR (rest,fd) 1
 refine S hpre ?_
 refine yM (X:=Nat×List GSymbol×List UInt8×Bool) hb (by omega) 1 [.m (Bd+1) 0] rfl (fun x=>(x.1:Int)<=yJ (rest,fd)/\x.2.1.length<=x.1/\x.2.2.1.length<=1000000/\sigR (rest,fd)=symsR ((yJ (rest,fd)).toNat-x.1) x.2.2 x.2.1) (fun x=>(yJ (rest,fd)).toNat-x.1) (fun Nx x=>[(0,pt n),(2,pt Bd),(3,pt (Bd+1)),(7,iv (yJ (rest,fd))),(8,iv x.1)]) (fun Nx x=>[(n,⟨[lst x.2.2.1, .bool x.2.2.2],true⟩),(Bd,⟨[sn],true⟩),(Bd+1,⟨[sv Nx 2 x.2.1.length (x.2.1.length+1)],true⟩),(Nx,⟨qO x.2.1,true⟩)]) (0,[],tkS (rest,fd) 1) (⟨hone.1,xT _,wE hcl hpre,rfl⟩) (fun Nx hNx=>(cant)) ?_
 intro Nx x hNx hIx hbx Fx hFx
 simp only[mem_cons,jC]at hbx ⊢
 refine cv (by kernel_rfl) ?_
 obtain⟨i,out,rest2,f2⟩:=x
 obtain⟨i1,i2,i3,i4⟩:=hIx
 simp only at i1 i2 i3 i4
 by_cases hlt:(i:Int)<yJ (rest,fd)
 ·cases f2 with
  |true=>
   rw[symsR_fail]at i4
   rw[i4]
   refine S hlt ?_
   refine cv (by kernel_rfl) ?_
   refine S0 ?_
   exact rq_pubI (by simp (disch:=first|assumption|omega) only[go_sem,push_cast,qB,qA] <;>rfl) rfl (by simp (disch:=first|assumption|omega) only[go_sem,push_cast,qB,qA,qG,qE hb] <;>omega) rfl
  |false=>
   have hst:(yJ (rest,fd)).toNat-i=((yJ (rest,fd)).toNat-(i+1))+1:=by omega
   rw[hst,symsR,if_neg (by simp)]at i4
   have ho1:=vV (rest2,false)
   have ho2:=vV (rq2 (rest2,false))
   have hl1:(tkS (rest2,false) 1).1.length<=1000000:=wE (vR _ _) i3
   have hl2:(tkS (tkS (rest2,false) 1) (yJ (rest2,false)).toNat).1.length<=1000000:=wE (vR _ _) hl1
   refine SA hlt ?_
   refine hFx (i+1,out++[(symR (rest2,false)).1],(symR (rest2,false)).2) _ _ _ ?_ ?_ (by simp only[go_sem,push_cast,qB,qA]) ((by simp (disch:=first|assumption|omega|(simp (disch:=omega) only[qG,qE hb];done)|(simp (disch:=first|omega|(simp (disch:=omega) only[qG,qE hb];done)) only[go_sem,push_cast,qB,qA,qG,qE hb];done)|fail) only[go_sem,push_cast,qB,qA,qU,qL hb,qG,qE hb,qZ,qK,qT,jS,jH,jB,jT,jK,xL,xD,xJ,xZ,Nat.zero_add,symR,rky,rq2,enc_GSymbol]<;>exact cT))
   ·show(yJ (rest,fd)).toNat-(i+1)<(yJ (rest,fd)).toNat-i
    omega
   ·exact⟨show((i+1:Nat):Int)<=_ by omega,by simp;omega,wE (symR_le _) i3,i4⟩
 ·have hi:(yJ (rest,fd)).toNat-i=0:=by omega
  rw[hi,symsR]at i4
  rw[i4]
  refine S hlt ?_
  refine cv (by kernel_rfl) ?_
  refine S0 ?_
  exact rq_pubI (by simp (disch:=first|assumption|omega) only[go_sem,push_cast,qB,qA] <;>rfl) rfl (by simp (disch:=first|assumption|omega) only[go_sem,push_cast,qB,qA,qG,qE hb] <;>omega) rfl
def W144:qH:=fun g' H Bd K=>∃(n:Int),g'=[iv n]/\(K (.bool (isPg n)) H Bd)
@[go_sem ↓] theorem W144_eq (a:Int):W144 [iv a] H Bd K=(K (.bool (isPg a)) H Bd):=ex1 a rfl
theorem W144_ok:OK 144 W144:=by
 rintro _ H Bd K ⟨n,rfl,hK⟩
 refine fnp pok (uA.uB W133_ok) [] hK func144 ntmps144 call144 [.tmp 2] fun hb ha=>?_
 refine R0 ?_
 unfold isPg
 all_goals first|done|trivial|((try simp only[Cnp,Imp]);grind)
def W143:qH:=fun g' H Bd K=>∃(n:Int),g'=[iv n]/\(K (.bool (isRt n)) H Bd)
@[go_sem ↓] theorem W143_eq (a:Int):W143 [iv a] H Bd K=(K (.bool (isRt a)) H Bd):=ex1 a rfl
theorem W143_ok:OK 143 W143:=by
 rintro _ H Bd K ⟨n,rfl,hK⟩
 refine fnp pok (uA.uB W144_ok) [(1,[],[],(.k 3 (.grp false 5 7 2 [6,7] 8 none (.k 2 .nil) (.k 1 .nil))))] hK func143 ntmps143 call143 [.tmp 2] fun hb ha=>?_
 refine R0 ?_
 unfold isRt
 all_goals first|done|trivial|((try simp only[Cnp,Imp]);grind)
def W147:qH:=fun g' H Bd K=>∃(s:ByteArray),g'=[.string s]/\((s.size<=281474976710656)/\K (.bool (isNm s)) H Bd)
@[go_sem ↓] theorem W147_eq (a:ByteArray):W147 [.string a] H Bd K=((a.size<=281474976710656)/\K (.bool (isNm a)) H Bd):=ex1 a rfl
theorem W147_ok:OK 147 W147:=by
 rintro _ H Bd K ⟨s,rfl,hpre,hK⟩
 refine fnp pok (uA.uB W194_ok) [(1,[],[],(.k 4 (.grp true 6 9 3 [7,8,9] 10 none (.k 3 .nil) (.k 1 (.grp true 11 14 3 [12,13,14] 15 none (.k 3 .nil) (.k 1 .nil))))))] hK func147 ntmps147 call147 [.tmp 2] fun hb ha=>?_
 refine R hpre ?_
 exact⟨fun _ _=>⟨by decide,az_lt⟩,isNm_trim s⟩
theorem G195(g:Nat)(caps:Array Value)(p:GSymbol->Bool)(xs:List GSymbol)(H:AH)(Bd:Nat)(K:Value->AH->Nat->Prop)(hsm:sm xs)(hg:∀x∈xs,∀B,Bd<=B->∀K':Value->AH->Nat->Prop,K' (.bool (p x)) H B->SCalls Tryz.prog g (idS ((.agg (enc (x)).toArray)::caps.toList)) H B K')(hK:K (iv (fidx p xs)) H Bd):SCalls Tryz.prog 195 [lst xs, .func (.func g) #[] caps] H Bd K:=by
 refine yF pok uA [] _ hK func195 rfl (rs:=[.tmp 4]) rfl ntmps195 (by simp) call195 (by kernel_rfl) (fun ha hb=> .int _ _) (fun hb ha=>?_)
 refine jF pok fun cv=>?_
 have hlen:=qS hsm
 refine R0 ?_
 refine jA (fun i=>∀j,j<i->∀x,xs[j]? =some x->p x=false) (xs.length) (fun i=>[(0,lst xs),(1, .func (.func g) #[] caps),(7,iv xs.length),(8,iv i)]) (by simp) (by simp only[go_sem,push_cast,qB,qA]) ?_
 intro i Bi hIi hii hBi
 refine cv (by kernel_rfl) ?_
 rcases xM i (xs.length)with hlti|hgei
 ·have e1:xs[i]? =some xs[i]:=xA hlti
  refine R e1 ?_
  refine hg _ (xH hlti) _ (by omega) _ ?_
  refine R e1 ?_
  exact⟨fun h=>by rw[zC hlti hIi h],fun h=>fun j hj x hx=>by
   by_cases e:j=i
   ·subst e;rw[e1]at hx;cases hx;simpa using h
   ·exact hIi j (by omega) x hx⟩
 ·refine R0 ?_
  refine cv (by kernel_rfl) ?_
  refine R0 ?_
  rw[vY fun j hj x hx=>hIi j (by omega) x hx]
def V196:qH:=fun g' H Bd K=>∃(x:GSymbol) (name:ByteArray),g'=[.agg (enc x).toArray, .agg (enc name).toArray]/\(K (.bool (decide (x.name=name))) H Bd)
def W196:qH:=fun g' H Bd K=>∃(vx pname:Value),g'=[vx,pname]/\Yld (qI H 1 pname) fun cname=>qQ V196 [vx, .agg cname.toArray] H Bd K
theorem W196_ok:OK 196 W196:=by
 rintro _ H Bd K ⟨vx,pname,rfl,cname,ename,h⟩
 obtain⟨x,name,e,hK⟩:=h
 simp only[xG,and_true]at e
 obtain⟨rfl,Ename⟩:=e
 obtain rfl:=qR Ename
 refine fnp pok uA [] hK func196 ntmps196 call196 [.tmp 3] fun hb ha=>?_
 have Pname:=qM ename (NB.vpok (ha pname (by simp)))
 simp only[jS,jT,jH,jK,jB]at Pname
 have Zname:=Pname.all 1 rfl
 have Yname:=jE (ha pname (by simp))
 exact R Zname trivial
def V195_196:qH:=fun g' H Bd K=>∃(xs:List GSymbol) (name:ByteArray),g'=[lst xs, .agg (enc name).toArray]/\((sm xs)/\K (iv (fidx (fun x:GSymbol=>decide (x.name=name)) xs)) H Bd)
@[go_sem ↓] theorem V195_196_eq (a:List GSymbol) (b:ByteArray):V195_196 [lst a, .agg #[.string b]] H Bd K=((sm a)/\K (iv (fidx (fun x:GSymbol=>decide (x.name=b)) a)) H Bd):=ex2 a b rfl
def W195_196:qH:=fun g' H Bd K=>∃(vxs pname:Value),g'=[vxs, .func (.func 196) #[] #[pname]]/\Yld (qI H 1 pname) fun cname=>qQ V195_196 [vxs, .agg cname.toArray] H Bd K
@[go_sem ↓] theorem W195_196_eq (a b:Value):W195_196 [a, .func (.func 196) #[] #[b]] H Bd K=(Yld (qI H 1 b) fun cname=>qQ V195_196 (idS [a, .agg cname.toArray]) H Bd K):=by
 refine propext ⟨fun h=>?_,fun h=>⟨_,_,rfl,h⟩⟩
 obtain⟨vxs',pname',e,h⟩:=h
 simp only[xG,Value.func.injEq,jD,xG,and_true,true_and]at e
 obtain⟨rfl,rfl⟩:=e
 exact h
theorem W195_196_ok:OK 195 W195_196:=by
 rintro _ H Bd K ⟨vxs,pname,rfl,cname,ename,h⟩
 obtain⟨xs,name,e,hpre,hK⟩:=h
 simp only[xG,and_true]at e
 obtain⟨rfl,Ename⟩:=e
 obtain rfl:=qR Ename
 refine G195 196 #[pname] (fun x:GSymbol=>decide (x.name=name)) xs H Bd K hpre (fun x hx B hB K' hk=>?_) hK
 exact W196_ok _ _ _ _ ⟨_,_,rfl,_,ename,x,name,rfl,hk⟩
def W148:qH:=fun g' H Bd K=>∃(s:GSignature) (name:ByteArray),g'=[.agg (enc s).toArray, .string name]/\((sm s)/\K (iv (symIdx s name)) H Bd)
@[go_sem ↓] theorem W148_eq (a:List GSymbol) (b:ByteArray):W148 [.agg #[lst a], .string b] H Bd K=((sm (GSignature.mk a))/\K (iv (symIdx (GSignature.mk a) b)) H Bd):=ex2 (GSignature.mk a) b rfl
theorem W148_ok:OK 148 W148:=by
 rintro _ H Bd K ⟨s,name,rfl,hpre,hK⟩
 refine fnp pok (uA.uB W195_196_ok) [] hK func148 ntmps148 call148 [.tmp 4] fun hb ha=>?_
 simp only[yN]at hpre
 refine R hpre ?_
 try rfl
theorem G149(g:Nat)(caps:Array Value)(p:GSymbol->Bool)(xs:List GSymbol)(H:AH)(Bd:Nat)(K:Value->AH->Nat->Prop)(hsm:sm xs)(hg:∀x∈xs,∀B,Bd<=B->∀K':Value->AH->Nat->Prop,K' (.bool (p x)) H B->SCalls Tryz.prog g (idS ((.agg (enc (x)).toArray)::caps.toList)) H B K')(hK:K (.bool (xs.any p)) H Bd):SCalls Tryz.prog 149 [lst xs, .func (.func g) #[] caps] H Bd K:=by
 refine yF pok uA [] _ hK func149 rfl (rs:=[.tmp 4]) rfl ntmps149 (by simp) call149 (by kernel_rfl) (fun ha hb=> .bool _) (fun hb ha=>?_)
 refine R0 ?_
 refine G195 _ _ p xs _ _ _ hsm hg ?_
 refine R0 ?_
 exact fidx_ge p xs
def W150:qH:=fun g' H Bd K=>∃(x:GSymbol),g'=[.agg (enc x).toArray]/\(K (.bool (decide (x.arity=0))) H Bd)
theorem W150_ok:OK 150 W150:=by
 rintro _ H Bd K ⟨x,rfl,hK⟩
 refine fnp pok uA [] hK func150 ntmps150 call150 [.tmp 2] fun hb ha=>?_
 exact R0 trivial
def V149_150:qH:=fun g' H Bd K=>∃(xs:List GSymbol),g'=[lst xs]/\((sm xs)/\K (.bool (xs.any (fun x:GSymbol=>decide (x.arity=0)))) H Bd)
@[go_sem ↓] theorem V149_150_eq (a:List GSymbol):V149_150 [lst a] H Bd K=((sm a)/\K (.bool (a.any (fun x:GSymbol=>decide (x.arity=0)))) H Bd):=ex1 a rfl
def W149_150:qH:=fun g' H Bd K=>∃(vxs:Value),g'=[vxs, .func (.func 150) #[] #[]]/\qQ V149_150 [vxs] H Bd K
@[go_sem ↓] theorem W149_150_eq (a:Value):W149_150 [a, .func (.func 150) #[] #[]] H Bd K=(qQ V149_150 (idS [a]) H Bd K):=by
 refine propext ⟨fun h=>?_,fun h=>⟨_,rfl,h⟩⟩
 obtain⟨vxs',e,h⟩:=h
 simp only[xG,Value.func.injEq,jD,xG,and_true,true_and]at e
 obtain rfl:=e
 exact h
theorem W149_150_ok:OK 149 W149_150:=by
 rintro _ H Bd K ⟨vxs,rfl,h⟩
 obtain⟨xs,e,hpre,hK⟩:=h
 simp only[xG,and_true]at e
 obtain rfl:=e
 refine G149 150 #[] (fun x:GSymbol=>decide (x.arity=0)) xs H Bd K hpre (fun x hx B hB K' hk=>?_) hK
 exact W150_ok _ _ _ _ ⟨x,rfl,hk⟩
def W97:qH:=fun g' H Bd K=>∃(s:GSignature),g'=[.agg (enc s).toArray]/\((sm s)/\K (iv (kE s)) H Bd)
@[go_sem ↓] theorem W97_eq (a:List GSymbol):W97 [.agg #[lst a]] H Bd K=((sm (GSignature.mk a))/\K (iv (kE (GSignature.mk a))) H Bd):=ex1 (GSignature.mk a) rfl
theorem W97_ok:OK 97 W97:=by
 rintro _ H Bd K ⟨s,rfl,hpre,hK⟩
 refine fnp pok ((((uA.uB W147_ok).uB W133_ok).uB W148_ok).uB W149_150_ok) [(1,[],[],(.k 5 (.grp false 11 15 4 [12,13,14,15] 16 none (.k 4 .nil) .nil)))] hK func97 ntmps97 call97 [.tmp 2] fun hb ha=>?_
 refine jF pok fun cv=>?_
 simp only[yN]at hpre
 have hlen:=qS hpre
 have hss:sm s:=hpre
 refine R0 ?_
 refine⟨fun h=>by unfold kE;rw[if_pos (by omega)],fun h1 h2=>?_⟩
 have hs:kE s=sigG s:=by unfold kE;rw[if_neg (by omega)]
 rw[hs]
 refine jA (fun i=>symL (s.symbols.drop i)=symL s.symbols) (s.symbols.length) (fun i=>[(1,pt Bd),(18,lst s.symbols),(19,iv s.symbols.length),(20,iv i)]) (by simp) (by simp only[go_sem,push_cast,qB,qA]) ?_
 intro i Bi hIi hii hBi
 refine cv (by kernel_rfl) ?_
 rcases xM i (s.symbols.length)with hlti|hgei
 ·have e1:s.symbols[i]? =some s.symbols[i]:=xA hlti
  have hd:=wI hlti
  have hx:=yP hpre (xH hlti)
  simp only[sm_GSymbol,sm_str,sm_int,and_true]at hx
  rw[hd,symL]at hIi
  refine R (cj e1 hx) ?_
  generalize symL (List.drop (i+1) s.symbols)=q at*
  unfold sigG
  all_goals first|done|trivial|((try simp only[Cnp,Imp]);grind)
 ·refine R0 ?_
  refine cv (by kernel_rfl) ?_
  refine R0 ?_
  have h0:symL s.symbols=0:=by rw[<-hIi,List.drop_of_length_le hgei];rfl
  refine jA (fun j=>∀a b x y,b<a->a<j->s.symbols[a]? =some x->s.symbols[b]? =some y->x.name≠y.name) (s.symbols.length) (fun j=>[(1,pt Bd),(34,lst s.symbols),(35,iv s.symbols.length),(36,iv j)]) (by simp) (by simp only[go_sem,push_cast,qB,qA]) ?_
  intro j Bj hIj hij hBj
  refine cv (by kernel_rfl) ?_
  rcases xM j (s.symbols.length)with hltj|hgej
  ·have e1:s.symbols[j]? =some s.symbols[j]:=xA hltj
   refine R (cj e1 hss) ?_
   refine⟨fun h=>?_,fun h=>?_⟩
   ·intro a b x y h1 h2 h3 h4
    by_cases e:a=j
    ·subst e
     rw[e1]at h3;cases h3
     rw[xA (by omega)]at h4;cases h4
     exact(((symIdx_self hltj).1 h) b h1).symm
    ·exact hIj a b x y h1 (by omega) h3 h4
   ·have:¬(s.symbols.map (·.name)).Nodup:=fun hn=>h ((symIdx_self hltj).2 fun k hk e=>nodup_map_not (f:=(·.name)) hk hltj e.symm hn)
    unfold sigG
    rw[if_neg (by simp[h0]),if_pos this]
  ·refine R0 ?_
   refine cv (by kernel_rfl) ?_
   refine R hpre ?_
   have h7:(s.symbols.map (·.name)).Nodup:=nodup_map fun i j x y h1 h2 h3 h4=>hIj i j x y h1 (by omega) h3 h4
   unfold sigG
   rw[if_neg (by simp[h0]),if_neg (by simp[h7])]
   all_goals first|done|trivial|((try simp only[Cnp,Imp]);grind)
@[go_sem ↓] def BW93 (p:GSuper):Tq:=fun H Bd K=>((sm p)/\K (iv (yX p)) H Bd)
def W93:qH:=fun g' H Bd K=>∃(p:GSuper),g'=[.agg (enc p).toArray]/\BW93 p H Bd K
@[go_sem ↓] theorem W93_eq (a b c d e f:Int) (g:Bool) (h:List UInt8) (i:List GSymbol):W93 [.agg #[iv a,iv b,iv c,iv d,iv e,iv f, .bool g,lst h,lst i]] H Bd K=BW93 (GSuper.mk a b c d e f g h (GSignature.mk i)) H Bd K:=ex1 (GSuper.mk a b c d e f g h (GSignature.mk i)) rfl
theorem W93_ok:OK 93 W93:=by
 rintro _ H Bd K ⟨p,rfl,hpre,hK⟩
 refine fnp pok ((((uA.uB W133_ok).uB W143_ok).uB W144_ok).uB W97_ok) [(2,[],[],(.k 5 (.grp false 8 12 4 [9,10,11,12] 13 none (.k 4 .nil) (.k 1 (.grp false 14 19 5 [15,16,17,18,19] 20 none (.k 5 .nil) (.k 1 (.grp false 21 26 5 [22,23,24,25,26] 27 none (.k 5 .nil) (.k 1 (.grp false 28 33 5 [29,30,31,32,33] 34 none (.k 5 .nil) (.k 1 (.grp false 35 39 4 [36,37,38,39] 40 none (.k 4 .nil) .nil))))))))))),(6,[],[],(.k 3 (.grp true 47 50 3 [48,49,50] 51 none (.k 3 .nil) (.k 1 (.grp false 52 71 19 [53,54,55,56,57,58,59,60,61,62,63,64,65,66,67,68,69,70,71] 72 none (.k 4 (.grp true 56 70 14 [57,58,59,60,61,62,63,64,65,66,67,68,69,70] 71 (some (52,false)) (.k 4 (.grp false 60 63 3 [61,62,63] 64 (some (56,true)) (.k 3 .nil) (.k 1 (.grp false 65 69 4 [66,67,68,69] 70 (some (56,true)) (.k 4 .nil) .nil)))) .nil)) .nil)))))] hK func93 ntmps93 call93 [.tmp 2] fun hb ha=>?_
 have hss:=hpre
 simp only[sm_GSuper]at hpre
 obtain⟨_,_,_,_,_,_,_,hc,hs⟩:=hpre
 have hlc:=qS hc
 by_cases g:((1<=p.gen/\p.gen<=60000)/\(1<=p.version/\p.version<=60000))/\isRt p.root=true/\isRt p.shadow=true/\isRt p.next_=true/\isPg p.theory=true
 case neg=>
  have e:yX p=3:=by unfold yX;rw[if_neg g]
  by_cases g1:1<=p.gen/\p.gen<=60000
  case neg=>
   refine R (cj3 hs e g1) ?_
   all_goals first|done|trivial|((try simp only[Cnp,Imp]);grind)
  by_cases g2:1<=p.version/\p.version<=60000
  case neg=>
   refine R (cj4 hs e g1 g2) ?_
   all_goals first|done|trivial|((try simp only[Cnp,Imp]);grind)
  by_cases g3:isRt p.root=true
  case neg=>simp (maxSteps:=2000000) (disch:=first|exact dq|fail) only[go_sem,push_cast,qB,qA,qL hb,qE hb,hs,e,g1,g2,g3]
  by_cases g4:isRt p.shadow=true
  case neg=>simp (maxSteps:=2000000) (disch:=first|exact dq|fail) only[go_sem,push_cast,qB,qA,qL hb,qE hb,hs,e,g1,g2,g3,g4]
  by_cases g5:isRt p.next_=true
  case neg=>simp (maxSteps:=2000000) (disch:=first|exact dq|fail) only[go_sem,push_cast,qB,qA,qL hb,qE hb,hs,e,g1,g2,g3,g4,g5]
  have g6:¬isPg p.theory=true:=fun h=>g ⟨⟨g1,g2⟩,g3,g4,g5,h⟩
  exact R (cj8 hs e g1 g2 g3 g4 g5 g6) trivial
 have hg:yX p=if 16<p.cursor.length then 2 else if(p.moving=true/\p.next_=0)\/(p.moving=false/\(p.shadow≠0\/p.next_≠0\/0<p.cursor.length))then 8 else kE p.symbols:=by unfold yX;rw[if_pos g]
 obtain⟨⟨g1,g2⟩,g3,g4,g5,g6⟩:=g
 by_cases g7:16<p.cursor.length
 ·rw[if_pos g7]at hg
  exact R (cj9 hs hg g1 g2 g3 g4 g5 g6 g7) trivial
 rw[if_neg g7]at hg
 have hz0:isRt 0=true:=rfl
 by_cases gm:p.moving=true
 ·have gm2:¬p.moving=false:=by simp[gm]
  by_cases g8:p.next_=0
  ·rw[if_pos (.inl ⟨gm,g8⟩)]at hg
   exact R (cj12 hs hg g1 g2 g3 g4 g5 g6 g7 hz0 gm g8) trivial
  ·rw[if_neg (fun h=>h.elim (fun h=>g8 h.2) fun h=>gm2 h.1)]at hg
   exact R (cj12 hs hg g1 g2 g3 g4 g5 g6 g7 hz0 gm g8) trivial
 ·have gm2:p.moving=false:=by simpa using gm
  by_cases g8:p.shadow=0
  case neg=>
   rw[if_pos (.inr ⟨gm2, .inl g8⟩)]at hg
   exact R (cj12 hs hg g1 g2 g3 g4 g5 g6 g7 hz0 gm2 g8) trivial
  by_cases g9:p.next_=0
  case neg=>
   rw[if_pos (.inr ⟨gm2, .inr (.inl g9)⟩)]at hg
   exact R (cj13 hs hg g1 g2 g3 g4 g5 g6 g7 hz0 gm2 g8 g9) trivial
  by_cases g10:0<p.cursor.length
  ·rw[if_pos (.inr ⟨gm2, .inr (.inr g10)⟩)]at hg
   exact R (cj14 hs hg g1 g2 g3 g4 g5 g6 g7 hz0 gm2 g8 g9 g10) trivial
  ·rw[if_neg (fun h=>h.elim (fun h=>gm h.1) fun h=>h.2.elim (fun h=>h g8) fun h=>h.elim (fun h=>h g9) g10)]at hg
   exact R (cj14 hs hg g1 g2 g3 g4 g5 g6 g7 hz0 gm2 g8 g9 g10) trivial
@[go_sem ↓] def BU137 (n:Int):Tq:=fun H Bd K=>((0<=n/\n<=65535)/\K (sv Bd 1 (jX n).length ((jX n).length+1)) (upd H Bd (some ⟨qO (jX n),true⟩)) (Bd+1))
def U137:qH:=fun g' H Bd K=>∃(n:Int),g'=[iv n]/\BU137 n H Bd K
@[go_sem ↓] theorem U137_eq (a:Int):U137 [iv a] H Bd K=BU137 a H Bd K:=ex1 a rfl
theorem U137_ok:OK 137 U137:=by
 rintro _ H Bd K ⟨n,rfl,hpre,hK⟩
 refine fn_own pok uA [] (sv Bd 1 (jX n).length ((jX n).length+1)) [qO (jX n)] hK func137 rfl (rs:=[.tmp 2]) rfl ntmps137 (by simp) call137 (by kernel_rfl) (fun cells hc v hv=>by simp only[wG,List.not_mem_nil,or_false]at hc;rcases hc with rfl <;>exact flat_nb _ _ _ hv) (fun hb ha=>?_)
 obtain⟨h1,h2⟩:=hpre
 have e1:n.fdiv (2^min 8 64)=n/256:=by rw[show(2:Int)^(min 8 64)=256 from rfl];exact Int.fdiv_eq_ediv_of_nonneg n (by decide)
 have hl:2=(jX n).length:=rfl
 simp (maxSteps:=2000000) (disch:=first|exact dq|fail) only[go_sem,push_cast,qB,qA,qL hb,qE hb,e1,<-pairB_flat n]
 all_goals (first|done|trivial|omega|simp)
def W158:qH:=fun g' H Bd K=>∃(s:GSignature),g'=[.agg (enc s).toArray]/\((sm s)/\K (.agg (enc (packGR s)).toArray) H Bd)
@[go_sem ↓] theorem W158_eq (a:List GSymbol):W158 [.agg #[lst a]] H Bd K=((sm (GSignature.mk a))/\K (.agg (enc (packGR (GSignature.mk a))).toArray) H Bd):=ex1 (GSignature.mk a) rfl
theorem W158_ok:OK 158 W158:=by
 rintro _ H Bd K ⟨s,rfl,hpre,hK⟩
 refine fnp pok (uA.uB W97_ok) [(8,[0,1,2,3,4,5,7,8,10,11,12,13,6,9,14,15],[z0 0,z0 1,z0 2,z0 3,z0 4,z0 5,z0 7,z0 8,z0 10,z0 11,z0 12,z0 13,⟨6,[5],[12,11,8]⟩,⟨9,[5],[12,11]⟩,⟨14,[13,5],[]⟩,z0 15], .nil)] hK func158 ntmps158 call158 [.cell 2 181] fun hb ha=>?_
 refine jF pok fun cv=>?_
 by_cases hf:kE s=0
 case neg=>
  have e:packGR s=⟨kE s,[]⟩:=by unfold packGR;rw[if_pos hf]
  rw[e]
  exact R (cj hpre hf) trivial
 have e:packGR s=⟨0,sigB s⟩:=by unfold packGR;rw[if_neg (by simpa using hf)]
 rw[e]
 have hs:=yT hf
 have hlen:=hs.len
 refine RA (cj hpre hf) ?_
 refine yM (X:=Nat) hb (by omega) 1 [.s 4] rfl (fun x=>x<=s.symbols.length) (fun x=>s.symbols.length-x) (fun Nx x=>[(1,pt Bd),(2,pt (Bd+1)),(4,sv Nx 1 (sigA s x).length ((sigA s x).length+1)),(19,lst s.symbols),(20,iv s.symbols.length),(21,iv x)]) (fun Nx x=>[(Bd,⟨[lst s.symbols],true⟩),(Bd+1,⟨[iv 0,sn],true⟩),(Nx,⟨qO (sigA s x),true⟩)]) 0 (xT _) (fun Nx hNx=>(by simp (disch:=first|assumption|omega|(simp (disch:=omega) only[qG,qE hb];done)|(simp (disch:=first|omega|(simp (disch:=omega) only[qG,qE hb];done)) only[go_sem,push_cast,qB,qA,qG,qE hb];done)|fail) only[go_sem,push_cast,qB,qA,qU,qL hb,qG,qE hb,qZ,qK,qT,jS,jH,jB,jT,jK,xL,xD,xJ,xZ,Nat.zero_add,sigA_zero,jB,kZ]<;>exact cT)) ?_
 intro Nx x hNx hIx hbx Fx hFx
 simp only[mem_cons,jC]at hbx ⊢
 refine cv (by kernel_rfl) ?_
 rcases xM x s.symbols.length with hlt|hge
 ·have e1:s.symbols[x]? =some s.symbols[x]:=xA hlt
  have hl:=sigA_len (fun y hy=>(hs.nm y hy).1) x hIx
  have hnm:=zQ (hs.nm _ (xH hlt)).1
  have hst:=sigA_succ e1
  have hsl:(sigA s (x+1)).length=(sigA s x).length+1+s.symbols[x].name.size+1:=by
   rw[hst,xD];unfold symB
   simp only[xJ,xD,xZ,zA];omega
  simp (maxSteps:=2000000) (disch:=first|exact dq|fail) only[go_sem,push_cast,qB,qA,qL hb,qE hb,e1,zB,yK,HB.no hb,zA,take_lo,len_lo]
  refine hFx (x+1) _ _ _ ?_ ?_ (by simp only[go_sem,push_cast,qB,qA]) ((by simp (disch:=first|assumption|omega|(simp (disch:=omega) only[qG,qE hb];done)|(simp (disch:=first|omega|(simp (disch:=omega) only[qG,qE hb];done)) only[go_sem,push_cast,qB,qA,qG,qE hb];done)|fail) only[go_sem,push_cast,qB,qA,qU,qL hb,qG,qE hb,qZ,qK,qT,jS,jH,jB,jT,jK,xL,xD,xJ,xZ,Nat.zero_add,hst,hsl,zA,symB,kZ,jO,List.cons_append,List.nil_append,Nat.add_assoc]<;>exact cT))
  ·show s.symbols.length-(x+1)<s.symbols.length-x
   omega
  ·exact hlt
 ·obtain rfl:x=s.symbols.length:=Nat.le_antisymm hIx hge
  have hall:=sigA_all s
  refine R0 ?_
  refine cv (by kernel_rfl) ?_
  refine R hall.symm ?_
  exact qV (by simp (disch:=first|assumption|omega) only[go_sem,push_cast,qB,qA]) (hb.fresh _ (by omega)) rfl (by first|rfl|exact(yS _).symm|simp|omega)
theorem L138_pure:PureV W138:=by
 rintro _ H Bd K ⟨x0,rfl,hpre,hK⟩
 exact⟨_,by first|exact .bool _|exact .int _ _|exact .string _|exact vc_enc _,hK,fun H' K' hs h=>⟨x0,rfl,hpre,h⟩⟩
def L138:qH:=LendA W138
@[go_sem ↓] theorem L138_eq (a:Value):L138 [a] H Bd K=qQ W138 (idS [giveA H a]) H Bd K:=(rfl)
theorem L138_ok:OK 138 L138:=LendA_ok W138_ok L138_pure
@[go_sem ↓] def BW107 (p:GSuper):Tq:=fun H Bd K=>((sm p/\SuperOK p)/\K (lst (kW p)) H Bd)
def W107:qH:=fun g' H Bd K=>∃(p:GSuper),g'=[.agg (enc p).toArray]/\BW107 p H Bd K
@[go_sem ↓] theorem W107_eq (a b c d e f:Int) (g:Bool) (h:List UInt8) (i:List GSymbol):W107 [.agg #[iv a,iv b,iv c,iv d,iv e,iv f, .bool g,lst h,lst i]] H Bd K=BW107 (GSuper.mk a b c d e f g h (GSignature.mk i)) H Bd K:=ex1 (GSuper.mk a b c d e f g h (GSignature.mk i)) rfl
theorem W107_ok:OK 107 W107:=by
 rintro _ H Bd K ⟨p,rfl,hpre,hK⟩
 refine fnp pok (((uA.uB U137_ok).uB W158_ok).uB L138_ok) [(1,[0,1,3,4,5,6,7,8,9,10,11,12,13,14,15,2,16,17],[z0 0,z0 1,z0 3,z0 4,z0 5,z0 6,z0 7,z0 8,z0 9,z0 10,z0 11,z0 12,z0 13,z0 14,z0 15,⟨2,[],[14,13,11,10,8,7,5,4]⟩,⟨16,[15],[]⟩,z0 17], .nil),(5,[0,1,2,5,6,7,8,9,10,3,4,11,12],[z0 0,z0 1,z0 2,z0 5,z0 6,z0 7,z0 8,z0 9,z0 10,⟨3,[],[9,7]⟩,⟨4,[],[9,7]⟩,⟨11,[10],[]⟩,z0 12], .nil),(6,[0,1,2,4,5,3,6,7,8,9],[z0 0,z0 1,z0 2,z0 4,z0 5,⟨3,[],[5]⟩,z0 6,z0 7,z0 8,z0 9], .nil),(8,[0,1,6,7,2,3,4,5,8,9,10],[z0 0,z0 1,z0 6,z0 7,⟨2,[],[7]⟩,z0 3,⟨4,[],[7]⟩,⟨5,[],[7]⟩,z0 8,z0 9,z0 10], .nil)] hK func107 ntmps107 call107 [.tmp 2] fun hb ha=>?_
 obtain⟨h1,hS⟩:=hpre
 simp only[sm_GSuper]at h1
 obtain⟨_,_,_,_,_,_,_,hc,hs⟩:=h1
 have hg:=hS.gen
 have hv:=hS.ver
 have hcl:=hS.cur
 have hpk:packGR p.symbols=⟨0,sigB p.symbols⟩:=by unfold packGR;rw[if_neg (by simpa using hS.sig)]
 have hsl:=sigB_len (yT hS.sig)
 have hHl:=supH_len (p:=p)
 have hPl:=supP_len hS
 have pg:=jQ p.gen
 have pv:=jQ p.version
 have pq:=jQ (sumB 29 (supP p))
 have hsr:=sum_rg (supP p)
 have hn:(92-(10+(p.cursor.length:Int)+((sigB p.symbols).length:Int))).toNat=92-(10+p.cursor.length+(sigB p.symbols).length):=by omega
 have hPx:∀m:Int,m=((movB p).toNat:Int)->qO (jX p.gen)++[Value.int .u8 (p.root%256),Value.int .u8 (p.shadow%256),Value.int .u8 (p.theory%256),Value.int .u8 (p.next_%256)]++qO (jX p.version)++[Value.int .u8 m,Value.int .u8 ((p.cursor.length:Int)%256)]++qO p.cursor++qO (sigB p.symbols)++qO (List.replicate (92-(10+p.cursor.length+(sigB p.symbols).length)) (0:UInt8))=qO (supP p):=fun m hm=>by
  subst hm
  unfold supP padS
  rw[hHl]
  unfold supH
  simp only[qK,jO,qZ,jB,kZ,xL,List.cons_append,List.nil_append]
 by_cases hm:p.moving=true
 case' pos=>have hP:=hPx 1 (by unfold movB;rw[if_pos hm];rfl)
 case' neg=>have hP:=hPx 0 (by unfold movB;rw[if_neg hm];rfl)
 all_goals
  simp (maxSteps:=2000000) (disch:=first|exact dq|fail) only[go_sem,push_cast,qB,qA,qL hb,qE hb,hs,hpk,hm,zB,yK,HB.no hb,jQ,zeros_flat,hn,hP,hPl,take_lo,len_lo]
  unfold kW
  exact qV (by simp (disch:=first|assumption|omega) only[go_sem,push_cast,qB,qA,qK,qT,jS,jH,jB,jT,jK,xL,List.cons_append,List.nil_append]) (hb.fresh _ (by omega)) rfl ((by omega:_=96).trans (lenS hPl))
def W91:qH:=fun g' H Bd K=>∃(data:List UInt8),g'=[lst data]/\((sm data)/\K (.agg (enc (rdSR data)).toArray) H Bd)
@[go_sem ↓] theorem W91_eq (a:List UInt8):W91 [lst a] H Bd K=((sm a)/\K (.agg (enc (rdSR a)).toArray) H Bd):=ex1 a rfl
theorem W91_ok:OK 91 W91:=by
 rintro _ H Bd K ⟨data,rfl,hpre,hK⟩
 refine fnp pok ((((((((((uA.uB W102_ok).uB W138_ok).uB W137_ok).uB W139_ok).uB W98_ok).uB W140_ok).uB W109_ok).uB W141_ok).uB W93_ok).uB W107_ok) [(3,[0,1,2,3,4,5],[z0 0,z0 1,z0 2,z0 3,z0 4,z0 5], .nil),(5,[0,1,5,6,2,3,4,7,8],[z0 0,z0 1,z0 5,z0 6,z0 2,z0 3,z0 4,z0 7,z0 8], .nil),(13,[],[],(.k 5 (.grp false 60 63 3 [61,62,63] 64 none (.k 3 .nil) (.k 1 (.grp false 65 70 5 [66,67,68,69,70] 71 none (.k 5 .nil) .nil)))))] hK func91 ntmps91 call91 [.cell 2 108] fun hb ha=>?_
 by_cases hl:data.length=96
 case neg=>
  have e:rdSR data=⟨1,yD⟩:=by unfold rdSR;rw[if_pos hl]
  rw[e];unfold yD
  exact R hl trivial
 have hR0:rdSR data=⟨(rdS data).2,(rdS data).1⟩:=by unfold rdSR;rw[if_neg (by simpa using hl)]
 have hz:∀i (h:i<data.length),data.getD i 0=data[i]:=fun i h=>getD_some (xA h)
 have hsm92:(List.take 92 data).length<=2000:=by rw[xQ];omega
 have hsr:=sum_rg (List.take 92 data)
 have hd92:List.drop 92 (List.take 94 data)=List.take 2 (List.drop 92 data):=by rw[List.drop_take]
 have hd94:List.take 96 data=data:=xO (by omega)
 have hen:=ends_eq hl
 by_cases h1:data.take 2=data.drop 94
 case neg=>
  have e:rdS data=(yD,8):=by unfold rdS;rw[if_pos (fun h=>h1 (hen.2 h))]
  rw[hR0,e];unfold yD
  exact R (cj3 hl hd94 h1) trivial
 have hR1:rdS data=if jX (sumB 29 (data.take 92))≠(data.drop 92).take 2 then(yD,11)else rdS5 data:=by unfold rdS;rw[if_neg (fun h=>h (hen.1 h1))]
 by_cases h4:jX (sumB 29 (List.take 92 data))=List.take 2 (List.drop 92 data)
 case neg=>
  rw[if_pos h4]at hR1
  rw[hR0,hR1];unfold yD
  exact R (cj6 hl hd94 h1 hsm92 hd92 h4) trivial
 rw[if_neg (by simpa using h4)]at hR1
 rw[hR0,hR1]
 have ht:∀i k,i+k<=96->tkS (data.drop i,false) k=(data.drop (i+k),false):=fun i k h=>by rw[tkS_ok (by rw[xI];omega),List.drop_drop]
 have t0:tkS (data,false) 2=(data.drop 2,false):=ht 0 2 (by omega)
 have t2:=ht 2 1 (by omega)
 have t3:=ht 3 1 (by omega)
 have t4:=ht 4 1 (by omega)
 have t5:=ht 5 1 (by omega)
 have t6:=ht 6 2 (by omega)
 have t8:=ht 8 1 (by omega)
 have t9:=ht 9 1 (by omega)
 have p0:pairV (data,false)=((data.getD 0 0).toNat:Int)*256+((data.getD 1 0).toNat:Int):=pairV_at (p:=0) (by omega)
 have p6:=pairV_at (body:=data) (p:=6) (by omega)
 have o2:=oneV_at (body:=data) (p:=2) (by omega)
 have o3:=oneV_at (body:=data) (p:=3) (by omega)
 have o4:=oneV_at (body:=data) (p:=4) (by omega)
 have o5:=oneV_at (body:=data) (p:=5) (by omega)
 have o8:=oneV_at (body:=data) (p:=8) (by omega)
 have o9:=oneV_at (body:=data) (p:=9) (by omega)
 have hdl:∀i,(List.drop i data).length<=1000000:=fun i=>by rw[xI];omega
 have hc9:(data.getD 9 0).toNat<=255:=by have:=(data.getD 9 0).toNat_lt;omega
 have hF:=fun p hp=>supI_fin (data:=data) (p:=p) hp
 have hcl:(tkV (data.drop 10,false) (data.getD 9 0).toNat).length<=255:=by rw[vB];exact hc9
 have hql:(tkS (data.drop 10,false) (data.getD 9 0).toNat).1.length<=1000000:=wE (vR _ _) (hdl 10)
 have hsg:=sigR_sm (tkS (data.drop 10,false) (data.getD 9 0).toNat)
 have hC:=candS_eq2 data (tkV (data.drop 10,false) (data.getD 9 0).toNat) ⟨(sigR (tkS (data.drop 10,false) (data.getD 9 0).toNat)).1⟩
 have hL:=supI_last rfl hF
 have hsmC:sm (candS data (tkV (data.drop 10,false) (data.getD 9 0).toNat) ⟨(sigR (tkS (data.drop 10,false) (data.getD 9 0).toNat)).1⟩):=
  ⟨trivial,trivial,trivial,trivial,trivial,trivial,trivial,⟨by show(tkV _ _).length<=281474976710656;omega,fun _ _=>trivial⟩,hsg⟩
 generalize hK:candS data (tkV (data.drop 10,false) (data.getD 9 0).toNat) ⟨(sigR (tkS (data.drop 10,false) (data.getD 9 0).toNat)).1⟩=C at*
 by_cases hf:(sigR (tkS (data.drop 10,false) (data.getD 9 0).toNat)).2.2=true
 ·rw[hL.2 (.inl hf)];unfold yD
  exact R (cj20 hl hd94 h1 hsm92 hd92 h4 t0 t2 t3 t4 t5 t6 t8 t9 p0 p6 o2 o3 o4 (cj10 o5 o8 o9 hdl hcl hql hsg hC.symm hsmC hf)) trivial
 have hf2:(sigR (tkS (data.drop 10,false) (data.getD 9 0).toNat)).2.2=false:=by simpa using hf
 by_cases h7:yX C=0
 case neg=>
  rw[hL.2 (.inr (.inl h7))];unfold yD
  exact R (cj20 hl hd94 h1 hsm92 hd92 h4 t0 t2 t3 t4 t5 t6 t8 t9 p0 p6 o2 o3 o4 (cj11 o5 o8 o9 hdl hcl hql hsg hC.symm hsmC hf2 h7)) trivial
 have hSC:=kJ h7
 by_cases h8:kW C=data
 ·rw[hL.1 hf2 h7 h8]
  refine R (cj20 hl hd94 h1 hsm92 hd92 h4 t0 t2 t3 t4 t5 t6 t8 t9 p0 p6 o2 o3 o4 (cj13 o5 o8 o9 hdl hcl hql hsg hC.symm hsmC hf2 hSC h7 h8)) ?_
  subst hC
  exact R0 trivial
 ·rw[hL.2 (.inr (.inr h8))];unfold yD
  exact R (cj20 hl hd94 h1 hsm92 hd92 h4 t0 t2 t3 t4 t5 t6 t8 t9 p0 p6 o2 o3 o4 (cj13 o5 o8 o9 hdl hcl hql hsg hC.symm hsmC hf2 hSC h7 h8)) trivial
def W57:qH:=fun g' H Bd K=>∃(d:GDisk),g'=[.agg (enc d).toArray]/\((sm d)/\K (.agg (enc (opnR d)).toArray) H Bd)
@[go_sem ↓] theorem W57_eq (a:List (List UInt8)) (b:List GPut):W57 [.agg #[lst a,lst b]] H Bd K=((sm (GDisk.mk a b))/\K (.agg (enc (opnR (GDisk.mk a b))).toArray) H Bd):=ex1 (GDisk.mk a b) rfl
theorem W57_ok:OK 57 W57:=by
 rintro _ H Bd K ⟨d,rfl,hpre,hK⟩
 refine fnp pok ((uA.uB W90_ok).uB W91_ok) [(11,[],[],(.k 4 (.grp true 31 37 6 [32,33,34,35,36,37] 38 none (.k 6 .nil) (.k 1 (.grp true 39 46 7 [40,41,42,43,44,45,46] 47 none (.k 7 .nil) .nil)))))] hK func57 ntmps57 call57 [.cell 2 108] fun hb ha=>?_
 refine jF pok fun cv=>?_
 by_cases hd:yR d=0
 case neg=>
  have e:opnR d=⟨yR d,yD⟩:=by unfold opnR;rw[if_pos hd]
  rw[e];unfold yD
  exact R (cj hpre hd) trivial
 have h2:=disk_ok hd
 have hsl:=h2.len
 have e0:opnR d=⟨(jL d).2,(jL d).1⟩:=by unfold opnR;rw[if_neg (by simpa using hd)]
 rw[e0]
 by_cases hp:0<d.pending.length
 ·have e:jL d=(yD,8):=by unfold jL;rw[if_pos hp]
  rw[e];unfold yD
  exact R (cj3 hpre hd hp) trivial
 refine R (cj3 hpre hd hp) ?_
 refine yM (X:=Nat) hb (by omega) 0 [] rfl (fun x=>x<=2) (fun x=>2-x) (fun Nx x=>[(1,pt Bd),(2,pt (Bd+1)),(4,pt (Bd+2)),(19,iv x)]) (fun Nx x=>[(Bd,⟨[lst d.sectors,lst d.pending],true⟩),(Bd+1,⟨[iv 0,iv 0,iv 0,iv 0,iv 0,iv 0,iv 0, .bool false,sn,sn],true⟩),(Bd+2,⟨[iv (if(opB d x).gen=0 then 4 else 0),iv (opB d x).gen,iv (opB d x).root,iv (opB d x).shadow,iv (opB d x).theory,iv (opB d x).next_,iv (opB d x).version, .bool (opB d x).moving,lst (opB d x).cursor,lst (opB d x).symbols.symbols],true⟩)]) 0 (xT _) (fun Nx hNx=>(by simp (disch:=first|assumption|omega|(simp (disch:=omega) only[qG,qE hb];done)|(simp (disch:=first|omega|(simp (disch:=omega) only[qG,qE hb];done)) only[go_sem,push_cast,qB,qA,qG,qE hb];done)|fail) only[go_sem,push_cast,qB,qA,qU,qL hb,qG,qE hb,qZ,qK,qT,jS,jH,jB,jT,jK,xL,xD,xJ,xZ,Nat.zero_add,opB_zero,yD,↓reduceIte]<;>exact cT)) ?_
 intro Nx x hNx hIx hbx Fx hFx
 simp only[mem_cons,jC]at hbx ⊢
 refine cv (by kernel_rfl) ?_
 have hlt:x<2->x<d.sectors.length:=fun h=>by omega
 by_cases hx:x<2
 ·have e1:d.sectors[x]? =some (d.sectors[x]'(hlt hx)):=xA _
  have f1:d.sectors.getD x []=d.sectors[x]'(hlt hx):=getD_some e1
  have hsec:(d.sectors[x]'(hlt hx)).length=96:=h2.sec _ (xH _)
  have hst:opB d (x+1)=if(rdS (d.sectors.getD x [])).2=0/\(rdS (d.sectors.getD x [])).1.gen%2=(x:Int)/\(opB d x).gen<(rdS (d.sectors.getD x [])).1.gen then(rdS (d.sectors.getD x [])).1 else opB d x:=rfl
  rw[f1]at hst
  generalize hD:(d.sectors[x]'(hlt hx))=D at*
  have hsD:sm D:=⟨by omega,fun _ _=>trivial⟩
  have hRD:rdSR D=⟨(rdS D).2,(rdS D).1⟩:=by unfold rdSR;rw[if_neg (by simpa using hsec)]
  generalize hQ:(rdS D).1=Q at*
  have hx':(x:Int)<2:=by omega
  by_cases hc:(rdS D).2=0
  case neg=>
   rw[if_neg (fun h=>hc h.1)]at hst
   refine R (cj8 hpre e1 hsec hsD hRD hQ hx' hc) ?_
   refine hFx (x+1) _ _ _ ?_ ?_ (by simp only[go_sem,push_cast,qB,qA]) ((canf hst))
   ·show 2-(x+1)<2-x
    omega
   ·show x+1<=2
    omega
  have hg:=(kJ (by rw[<-hQ];exact rdS_ok hc:yX Q=0)).gen
  have htm:Q.gen.tmod 2=Q.gen%2:=Int.tmod_eq_emod_of_nonneg (by omega)
  by_cases hm:Q.gen%2=(x:Int)
  case neg=>
   rw[if_neg (fun h=>hm h.2.1)]at hst
   refine R (cj10 hpre e1 hsec hsD hRD hQ hx' hc htm hm) ?_
   refine hFx (x+1) _ _ _ ?_ ?_ (by simp only[go_sem,push_cast,qB,qA]) ((canf hst))
   ·show 2-(x+1)<2-x
    omega
   ·show x+1<=2
    omega
  by_cases hgt:(opB d x).gen<Q.gen
  case neg=>
   rw[if_neg (fun h=>hgt h.2.2)]at hst
   refine R (cj11 hpre e1 hsec hsD hRD hQ hx' hc htm hm hgt) ?_
   refine hFx (x+1) _ _ _ ?_ ?_ (by simp only[go_sem,push_cast,qB,qA]) ((canf hst))
   ·show 2-(x+1)<2-x
    omega
   ·show x+1<=2
    omega
  rw[if_pos ⟨hc,hm,hgt⟩]at hst
  refine R (cj11 hpre e1 hsec hsD hRD hQ hx' hc htm hm hgt) ?_
  refine hFx (x+1) _ _ _ ?_ ?_ (by simp only[go_sem,push_cast,qB,qA]) ((canf hst))
  ·show 2-(x+1)<2-x
   omega
  ·show x+1<=2
   omega
 obtain rfl:x=2:=by omega
 have e0:jL d=if(opB d 2).gen=0 then(yD,4)else(opB d 2,0):=by unfold jL;rw[if_neg hp]
 refine R0 ?_
 refine cv (by kernel_rfl) ?_
 by_cases hg:(opB d 2).gen=0
 ·rw[if_pos hg]at e0
  have hn:=(opB_gen d 2).2 hg
  rw[e0,hn];unfold yD
  exact R hg trivial
 ·rw[if_neg hg]at e0
  rw[e0]
  exact R hg trivial
end Go.Proofs.YtogofkjpbpgneaaGreatDoor
