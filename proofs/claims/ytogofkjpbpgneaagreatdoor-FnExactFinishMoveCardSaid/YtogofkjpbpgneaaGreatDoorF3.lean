/- YtogofkjpbpgneaaGreatDoorF3 -/
import Derived.Test.YtogofkjpbpgneaaGreatDoorF2
set_option linter.unusedSimpArgs false
set_option linter.unusedVariables false
set_option maxRecDepth 20000
set_option maxHeartbeats 2000000
namespace Go.Proofs.YtogofkjpbpgneaaGreatDoor
open Go Go.SC Tryz
variable {H:AH} {Bd:Nat} {K:Value->AH->Nat->Prop}
def W218:qH:=fun g' H Bd K=>∃(t:List Int) (n:Int),g'=[lst t,iv n]/\((sm t)/\K (iv ((t.count n:Int))) H Bd)
@[go_sem ↓] theorem W218_eq (a:List Int) (b:Int):W218 [lst a,iv b] H Bd K=((sm a)/\K (iv ((a.count b:Int))) H Bd):=ex2 a b rfl
theorem W218_ok:OK 218 W218:=by
 rintro _ H Bd K ⟨t,n,rfl,hpre,hK⟩
 refine fnp pok uA [] hK func218 ntmps218 call218 [.tmp 4] fun hb ha=>?_
 refine jF pok fun cv=>?_
 have hlt2:=qS hpre
 refine R0 ?_
 refine jA (fun i=>True) (t.length) (fun i=>[(0,lst t),(1,iv n),(5,iv ((t.take i).count n:Nat)),(6,iv i)]) (trivial) (by simp only[go_sem,push_cast,qB,qA,List.take_zero,List.count_nil]) ?_
 intro i Bi hIi hii hBi
 refine cv (by kernel_rfl) ?_
 rcases xM i (t.length)with hlti|hgei
 ·have e1:t[i]? =some t[i]:=xA hlti
  have hst:(t.take (i+1)).count n=(t.take i).count n+if t[i]=n then 1 else 0:=by
   rw[xP hlti,List.count_append,List.count_singleton]
   simp
  have hle:(t.take i).count n<=i:=by have:=List.count_le_length (a:=n) (l:=t.take i);rw[xQ]at this;omega
  refine R e1 ?_
  refine⟨fun h=>?_,fun h=>?_⟩
  ·rw[if_pos h]at hst;rw[hst];omega
  ·rw[if_neg h]at hst;rw[hst];rfl
 ·refine R0 ?_
  refine cv (by kernel_rfl) ?_
  refine R0 ?_
  rw[xO hgei]
def V178:qH:=fun g' H Bd K=>∃(s:GSignature) (l:List GEquation),g'=[.agg (enc s).toArray,lst l]/\((sm s/\sm l/\rg l/\kE s=0)/\K (iv (vS s l)) H Bd)
@[go_sem ↓] theorem V178_eq (a:List GSymbol) (b:List GEquation):V178 [.agg #[lst a],lst b] H Bd K=((sm (GSignature.mk a)/\sm b/\rg b/\kE (GSignature.mk a)=0)/\K (iv (vS (GSignature.mk a) b)) H Bd):=ex2 (GSignature.mk a) b rfl
def W178:qH:=fun g' H Bd K=>∃(ps vl:Value),g'=[ps,vl]/\Yld (qI H 1 ps) fun cs=>qQ V178 [.agg cs.toArray,vl] H Bd K
@[go_sem ↓] theorem W178_eq (a b:Value):W178 [a,b] H Bd K=(Yld (qI H 1 a) fun cs=>qQ V178 (idS [.agg cs.toArray,b]) H Bd K):=px2 a b
theorem W178_ok:OK 178 W178:=by
 rintro _ H Bd K ⟨ps,vl,rfl,cs,es,h⟩
 obtain⟨s,l,e,hpre,hK⟩:=h
 simp only[xG,and_true]at e
 obtain⟨Es,rfl⟩:=e
 obtain rfl:=qR Es
 refine fnp pok ((uA.uB W177_ok).uB W218_ok) [(13,[],[],(.k 3 (.grp true 49 57 8 [50,51,52,53,54,55,56,57] 58 none (.k 8 .nil) .nil)))] hK func178 ntmps178 call178 [.tmp 4] fun hb ha=>?_
 have Ps:=qM es (NB.vpok (ha ps (by simp)))
 simp only[qN]at Ps
 have Zs:=Ps.all 1 rfl
 have Ys:=jE (ha ps (by simp))
 refine jF pok fun cv=>?_
 obtain⟨h1,h2,h3,h4⟩:=hpre
 have hlt2:=qS h2
 refine R (cj5 Zs h1 h2 h3 h4) ?_
 refine⟨fun hq=>?_,fun hq=>?_⟩
 ·have hv:vS s l=if l.all ruleOK=true then 0 else 1:=by unfold vS;rw[if_neg (by simp[hq])]
  have hall:=(eqsG_zero hq).2
  rw[hv]
  refine jA (fun i=>∀j,j<i->∀y,l[j]? =some y->ruleOK y=true) (l.length) (fun i=>[(0,ps),(1,lst l),(6,iv i)]) (fun j hj=>absurd hj (Nat.not_lt_zero _)) (by simp only[go_sem,push_cast,qB,qA]) ?_
  intro i Bi hIi hii hBi
  refine cv (by kernel_rfl) ?_
  rcases xM i (l.length)with hlti|hgei
  ·have e1:l[i]? =some l[i]:=xA hlti
   have h5:=yP h2 (xH hlti)
   simp only[zG]at h5
   have h51:=h5.1
   have hlr:=qS h5.2
   have hok:=zS (hall _ (xH hlti))
   have hl0:=hok.1.len.1
   have e2:l[i].left[0]? =some l[i].left[0]:=xA (by omega)
   have e3:l[i].left.headD 0=l[i].left[0]:=headD_get hl0
   refine R (cj3 Zs e1 e2) ?_
   refine⟨fun h=>?_,fun h=>?_⟩
   ·rw[if_neg]
    intro hc
    have:=List.all_eq_true.1 hc _ (xH hlti)
    unfold ruleOK at this
    rw[e3]at this
    simp only[Bool.and_eq_true,decide_eq_true_eq]at this
    omega
   ·refine jA (fun j=>∀k,k<j->∀y,l[i].right[k]? =some y->varOK l[i] y=true) (l[i].right.length) (fun j=>[(0,ps),(1,lst l),(6,iv i),(7,iv j)]) (fun k hk=>absurd hk (Nat.not_lt_zero _)) (by simp only[go_sem,push_cast,qB,qA]) ?_
    intro j Bj hIj hij hBj
    refine cv (by kernel_rfl) ?_
    rcases xM j (l[i].right.length)with hltj|hgej
    ·have e4:l[i].right[j]? =some l[i].right[j]:=xA hltj
     refine R (cj4 Zs e1 e4 h51) ?_
     refine⟨fun a1 a2=>?_,fun a1 k hk y hy=>?_⟩
     ·rw[if_neg]
      intro hc
      have h9:=List.all_eq_true.1 hc _ (xH hlti)
      unfold ruleOK at h9
      simp only[Bool.and_eq_true]at h9
      have h10:=List.all_eq_true.1 h9.2 _ (xH hltj)
      unfold varOK at h10
      simp only[decide_eq_true_eq]at h10
      omega
     ·by_cases e:k=j
      ·subst e;rw[e4]at hy;cases hy
       unfold varOK
       rw[decide_eq_true_eq]
       omega
      ·exact hIj k (by omega) y hy
    ·refine R (cj Zs e1) ?_
     intro k hk y hy
     by_cases e:k=i
     ·subst e;rw[e1]at hy;cases hy
      unfold ruleOK
      rw[e3,Bool.and_eq_true,decide_eq_true_eq]
      refine⟨by omega,all_yes fun x hx=>?_⟩
      obtain⟨m,hm,rfl⟩:=wO hx
      exact hIj m (by omega) _ (xA hm)
     ·exact hIi k (by omega) y hy
  ·refine R Zs ?_
   refine cv (by kernel_rfl) ?_
   refine R Zs ?_
   rw[if_pos (all_yes fun x hx=>by
    obtain⟨j,hj,rfl⟩:=wO hx
    exact hIi j (by omega) _ (xA hj))]
 ·unfold vS;rw[if_pos hq]
@[go_sem ↓] def BV267 (s:GSignature) (t:List Int) (a:Int):Tq:=fun H Bd K=>((sm s/\sm t/\kE s=0/\nodes s t/\0<=a/\a<t.length/\0<=ep s t 1 a.toNat/\0<=t.getD a.toNat 0)/\K (lst (argsP s t a.toNat (arN s (t.getD a.toNat 0)))) H Bd)
def V267:qH:=fun g' H Bd K=>∃(s:GSignature) (t:List Int) (a:Int),g'=[.agg (enc s).toArray,lst t,iv a]/\BV267 s t a H Bd K
@[go_sem ↓] theorem V267_eq (a:List GSymbol) (b:List Int) (c:Int):V267 [.agg #[lst a],lst b,iv c] H Bd K=BV267 (GSignature.mk a) b c H Bd K:=ex3 (GSignature.mk a) b c rfl
def W267:qH:=fun g' H Bd K=>∃(ps vt va:Value),g'=[ps,vt,va]/\Yld (qI H 1 ps) fun cs=>qQ V267 [.agg cs.toArray,vt,va] H Bd K
@[go_sem ↓] theorem W267_eq (a b c:Value):W267 [a,b,c] H Bd K=(Yld (qI H 1 a) fun cs=>qQ V267 (idS [.agg cs.toArray,b,c]) H Bd K):=px3 a b c
theorem W267_ok:OK 267 W267:=by
 rintro _ H Bd K ⟨ps,vt,va,rfl,cs,es,h⟩
 obtain⟨s,t,a,e,hpre,hK⟩:=h
 simp only[xG,and_true]at e
 obtain⟨Es,rfl,rfl⟩:=e
 obtain rfl:=qR Es
 refine fnp pok (uA.uB W206_ok) [(4,[0,1,2,3,4,5,6,7,8,9,10,11,12],[z0 0,z0 1,z0 2,z0 3,z0 4,z0 5,z0 6,z0 7,z0 8,z0 9,z0 10,z0 11,z0 12], .nil)] hK func267 ntmps267 call267 [.tmp 6] fun hb ha=>?_
 have Ps:=qM es (NB.vpok (ha ps (by simp)))
 simp only[qN]at Ps
 have Zs:=Ps.all 1 rfl
 have Ys:=jE (ha ps (by simp))
 refine jF pok fun cv=>?_
 obtain⟨h1,h2,h3,h4,h5,h6,h8,h9⟩:=hpre
 have hss:sm s:=h1
 have hlt2:=qS h2
 have hs:=yT h3
 obtain⟨a,rfl⟩:=Int.eq_ofNat_of_zero_le h5
 simp only[Int.toNat_natCast]at h8 h9
 have hlt:a<t.length:=by omega
 have e1:t[a]? =some t[a]:=xA hlt
 have e3:t.getD a 0=t[a]:=by rw[xF,e1];rfl
 rw[e3]at h9
 have hn:=h4 _ (xH hlt)
 have e4:t[a].toNat<s.symbols.length:=by omega
 have e2:s.symbols[t[a].toNat]? =some s.symbols[t[a].toNat]:=xA e4
 have ha:=hs.nm _ (xH e4)
 have har:=arN_sym (s:=s) h9 e2
 rw[ep_node 0 e1,Nat.zero_add,har]at h8
 have e5:argsP s t a (arN s (t.getD a 0))=argsP s t a s.symbols[t[a].toNat].arity.toNat:=by rw[e3,har]
 refine R (cj Zs e5) ?_
 refine tr_acc (α:=Int) (H0:=H) (B0:=Bd) (n0:=Bd) (s.symbols[t[a].toNat].arity.toNat) (fun i=>argsP s t a i) (fun i out=>[(0,ps),(1,lst t),(2,iv a),(7,out),(8,iv (ep s t i (a+1))),(9,iv i)]) (xC 1) ⟨by omega,by omega⟩ (by simp only[go_sem,push_cast,qB,qA,argsP_zero,ep_zero (show a+1<=t.length by omega)]) (by simp (disch:=first|assumption|omega) only[go_sem,push_cast,qB,qA,qZ,argsP_zero,ep_zero (show a+1<=t.length by omega)]) ?_
 intro i ni ci Bi hii hci hni hmi hBi hbi
 refine cv (by kernel_rfl) ?_
 have hzi:(ci=0)=False:=eq_false (by omega)
 rcases xM i (s.symbols[t[a].toNat].arity.toNat)with hlti|hgei
 ·obtain⟨m,q1,q2,q3,q4,q5⟩:=arg_at hlt h8 hlti
  have hcv:((a:Int)+1+m).toNat=a+1+m:=by omega
  have hst:=argsP_succ s t a i
  rw[q3]at hst
  have hl3:=argsP_len s t a i
  have hc:(i:Int)<s.symbols[t[a].toNat].arity:=by omega
  simp (maxSteps:=2000000) (disch:=first|exact dq|fail) only[go_sem,push_cast,qB,qA,qL hb,qE hb,Zs,e1,e2,h9,hc,q3,q4,hcv,hss,h2,h3,h4,hzi,hst,qK,qT]
  exact acc_end (by omega) (by omega) (by simp) rfl (by simp (disch:=first|assumption|omega|(simp (disch:=omega) only[qG,qE hb];done)) only[jP,qA,qU,qG,qE hb])
 ·have hc:¬(i:Int)<s.symbols[t[a].toNat].arity:=by omega
  refine R (cj5 Zs e1 e2 h9 hc) ?_
  refine Tr.fin2 7 (by simp (disch:=first|assumption|omega) only[qG,qE hb]) (by simp only[go_sem,push_cast,qB,qA];rfl) rfl ?_
  refine cv (by kernel_rfl) ?_
  rw[<-show i=s.symbols[t[a].toNat].arity.toNat by omega]
  exact R Zs trivial
def W277:qH:=fun g' H Bd K=>∃(xs:List Int) (ys:List Int),g'=[lst xs,lst ys]/\((sm xs)/\K (.bool (decide (xs=ys))) H Bd)
@[go_sem ↓] theorem W277_eq (a b:List Int):W277 [lst a,lst b] H Bd K=((sm a)/\K (.bool (decide (a=b))) H Bd):=ex2 a b rfl
theorem W277_ok:OK 277 W277:=by
 rintro _ H Bd K ⟨xs,ys,rfl,hpre,hK⟩
 refine fnp pok uA [(6,[0,1,2,3,4,5,6,7,8],[z0 0,z0 1,z0 2,z0 3,z0 4,z0 5,z0 6,z0 7,z0 8], .nil)] hK func277 ntmps277 call277 [.tmp 4] fun hb ha=>?_
 refine jF pok fun cv=>?_
 have hlen:=qS hpre
 simp (maxSteps:=2000000) (disch:=first|exact dq|fail) only[go_sem,push_cast,qB,qA,qL hb,qE hb]
 refine Cnp.of (fun hl=>?_) (fun hl=>cmp_len (by omega))
 have hl':xs.length=ys.length:=by omega
 refine jA (fun i=>∀j,j<i->xs[j]? =ys[j]?) xs.length (fun i=>[(0,lst xs),(1,lst ys),(5,iv i)]) (fun j h=>by omega) (by simp only[go_sem,push_cast,qB,qA]) ?_
 intro i B0 hI hi hB
 refine cv (by kernel_rfl) ?_
 rcases xM i xs.length with hlt|hge
 ·have e1:xs[i]? =some xs[i]:=xA hlt
  have e2:ys[i]? =some (ys[i]'(by omega)):=xA _
  have hx:=yP hpre (xH hlt)
  simp (maxSteps:=2000000) (disch:=first|exact dq|fail) only[go_sem,push_cast,qB,qA,qL hb,qE hb,e1,e2,hx]
  exact cmp_step hl' hI hlt (by omega) rfl fun h=>h
 ·simp (maxSteps:=2000000) (disch:=first|exact dq|fail) only[go_sem,push_cast,qB,qA,qL hb,qE hb]
  refine cv (by kernel_rfl) ?_
  simp (maxSteps:=2000000) (disch:=first|exact dq|fail) only[go_sem,push_cast,qB,qA,qL hb,qE hb]
  exact cmp_end hl' hI hge
@[go_sem ↓] def BV268 (s:GSignature) (t:List Int) (a:Int) (u:List Int) (b:Int):Tq:=fun H Bd K=>((sm s/\sm t/\sm u/\kE s=0/\nodes s t/\nodes s u/\0<=a/\a<=t.length/\0<=b/\b<=u.length/\0<=ep s t 1 a.toNat/\0<=ep s u 1 b.toNat)/\K (.bool (decide (subT s t a.toNat=subT s u b.toNat))) H Bd)
def V268:qH:=fun g' H Bd K=>∃(s:GSignature) (t:List Int) (a:Int) (u:List Int) (b:Int),g'=[.agg (enc s).toArray,lst t,iv a,lst u,iv b]/\BV268 s t a u b H Bd K
@[go_sem ↓] theorem V268_eq (a:List GSymbol) (b:List Int) (c:Int) (d:List Int) (e:Int):V268 [.agg #[lst a],lst b,iv c,lst d,iv e] H Bd K=BV268 (GSignature.mk a) b c d e H Bd K:=ex5 (GSignature.mk a) b c d e rfl
def W268:qH:=fun g' H Bd K=>∃(ps vt va vu vb:Value),g'=[ps,vt,va,vu,vb]/\Yld (qI H 1 ps) fun cs=>qQ V268 [.agg cs.toArray,vt,va,vu,vb] H Bd K
@[go_sem ↓] theorem W268_eq (a b c d e:Value):W268 [a,b,c,d,e] H Bd K=(Yld (qI H 1 a) fun cs=>qQ V268 (idS [.agg cs.toArray,b,c,d,e]) H Bd K):=px5 a b c d e
theorem W268_ok:OK 268 W268:=by
 rintro _ H Bd K ⟨ps,vt,va,vu,vb,rfl,cs,es,h⟩
 obtain⟨s,t,a,u,b,e,hpre,hK⟩:=h
 simp only[xG,and_true]at e
 obtain⟨Es,rfl,rfl,rfl,rfl⟩:=e
 obtain rfl:=qR Es
 refine fnp pok ((uA.uB W206_ok).uB W277_ok) [(1,[0,1,2,3,4,7,8,9,10,11,5,6,12,13,14,15],[z0 0,z0 1,z0 2,z0 3,z0 4,z0 7,z0 8,z0 9,z0 10,z0 11,z0 5,z0 6,z0 12,z0 13,z0 14,z0 15], .nil)] hK func268 ntmps268 call268 [.tmp 10] fun hb ha=>?_
 have Ps:=qM es (NB.vpok (ha ps (by simp)))
 simp only[qN]at Ps
 have Zs:=Ps.all 1 rfl
 have Ys:=jE (ha ps (by simp))
 obtain⟨h1,h2,h3,h4,h5,h6,h7,h8,h9,h10,h11,h12⟩:=hpre
 obtain⟨a,rfl⟩:=Int.eq_ofNat_of_zero_le h7
 obtain⟨b,rfl⟩:=Int.eq_ofNat_of_zero_le h9
 simp only[Int.toNat_natCast]at h11 h12
 rcases ep_cases (s:=s) (t:=t) 1 (show a<=t.length by omega)with⟨q1,_⟩|⟨m,q1,q2,q3,_⟩
 ·omega
 rcases ep_cases (s:=s) (t:=u) 1 (show b<=u.length by omega)with⟨r1,_⟩|⟨n,r1,r2,r3,_⟩
 ·omega
 have hst:=sm_drop h2 a
 have hsu:=sm_drop h3 b
 refine R (cj9 Zs h1 h2 h3 h4 h5 h6 q3 r3) ?_
 have c1:((a:Int)+m).toNat=a+m:=by omega
 have c2:((b:Int)+n).toNat=b+n:=by omega
 have d1:subT s t a=(t.take (a+m)).drop a:=by unfold subT;rw[q3,Int.toNat_natCast,List.drop_take]
 have d2:subT s u b=(u.take (b+n)).drop b:=by unfold subT;rw[r3,Int.toNat_natCast,List.drop_take]
 rw[c1,c2]
 refine⟨sm_drop (sm_take h2 _) _,?_⟩
 simp only[d1,d2]
def W269:qH:=fun g' H Bd K=>∃(order:List Int) (n:Int),g'=[lst order,iv n]/\((sm order)/\K (iv (rk order n)) H Bd)
@[go_sem ↓] theorem W269_eq (a:List Int) (b:Int):W269 [lst a,iv b] H Bd K=((sm a)/\K (iv (rk a b)) H Bd):=ex2 a b rfl
theorem W269_ok:OK 269 W269:=by
 rintro _ H Bd K ⟨order,n,rfl,hpre,hK⟩
 refine fnp pok uA [] hK func269 ntmps269 call269 [.tmp 4] fun hb ha=>?_
 refine jF pok fun cv=>?_
 have hlen:=qS hpre
 refine R0 ?_
 refine jA (fun i=>∀j,j<i->∀x,order[j]? =some x->decide (n=x)=false) (order.length) (fun i=>[(0,lst order),(1,iv n),(5,iv i)]) (by simp) (by simp only[go_sem,push_cast,qB,qA]) ?_
 intro i Bi hIi hii hBi
 refine cv (by kernel_rfl) ?_
 rcases xM i (order.length)with hlti|hgei
 ·have e1:order[i]? =some order[i]:=xA hlti
  refine R e1 ?_
  unfold rk
  exact⟨fun h=>by rw[zC hlti hIi (by simpa using h.symm)],fun h=>fun j hj x hx=>by
   by_cases e:j=i
   ·subst e;rw[e1]at hx;cases hx;simpa using fun e=>h e.symm
   ·simpa using hIi j (by omega) x hx⟩
 ·refine R0 ?_
  refine cv (by kernel_rfl) ?_
  refine R0 ?_
  unfold rk
  rw[vY fun j hj x hx=>hIi j (by omega) x hx]
def V259:qH:=fun g' H Bd K=>∃(s:GSignature) (order:List Int) (a:List Int) (b:List Int) (i:Int) (j:Int) (above:Own),g'=[.agg (enc s).toArray,lst order,lst a,lst b,iv i,iv j,sv ((above).n) 1 (above).len (above).cap]/\(Yld (H above.n) fun b0=>((sm s/\sm order/\sm a/\sm b/\kE s=0)/\(nodes s a/\nodes s b/\places s a/\places s b)/\(0<=i/\i<a.length/\0<=j/\j<b.length)/\(a.length<=24/\b.length<=24)/\tabOK s order a b i.toNat j.toNat b0.cells/\above.len=a.length*b.length)/\K (.bool (gt s order a b i.toNat j.toNat)) H Bd)
@[go_sem ↓] theorem V259_eq (s_symbols:List GSymbol) (order:List Int) (a:List Int) (b:List Int) (i:Int) (j:Int) (above_n:Nat) (above_l:Nat) (above_c:Nat):V259 [.agg #[lst s_symbols],lst order,lst a,lst b,iv i,iv j,sv above_n 1 above_l above_c] H Bd K=(Yld (H above_n) fun b0=>((sm (GSignature.mk s_symbols)/\sm order/\sm a/\sm b/\kE (GSignature.mk s_symbols)=0)/\(nodes (GSignature.mk s_symbols) a/\nodes (GSignature.mk s_symbols) b/\places (GSignature.mk s_symbols) a/\places (GSignature.mk s_symbols) b)/\(0<=i/\i<a.length/\0<=j/\j<b.length)/\(a.length<=24/\b.length<=24)/\tabOK (GSignature.mk s_symbols) order a b i.toNat j.toNat b0.cells/\above_l=a.length*b.length)/\K (.bool (gt (GSignature.mk s_symbols) order a b i.toNat j.toNat)) H Bd):=by
 refine propext ⟨fun h=>?_,fun h=>⟨_,_,_,_,_,_,(Own.mk above_n above_l above_c),rfl,h⟩⟩
 obtain⟨s',order',a',b',i',j',above',e,h⟩:=h
 obtain⟨ssymbols'⟩:=s'
 skip
 skip
 skip
 skip
 skip
 obtain⟨aboven',abovel',abovec'⟩:=above'
 simp only[qN,jS,jT,jH,jK,jB,xG,Value.agg.injEq,jD,xK,Value.bool.injEq,Value.string.injEq,xY,Value.func.injEq,Value.pointer.injEq,xE,Addr.mk.injEq,lst_inj,true_and,and_true]at e
 obtain⟨rfl,rfl,rfl,rfl,rfl,rfl,⟨rfl,rfl,rfl⟩⟩:=e
 exact h
def W259:qH:=fun g' H Bd K=>∃(ps vorder va vb vi vj vabove:Value),g'=[ps,vorder,va,vb,vi,vj,vabove]/\Yld (qI H 1 ps) fun cs=>qQ V259 [.agg cs.toArray,vorder,va,vb,vi,vj,vabove] H Bd K
@[go_sem ↓] theorem W259_eq (a b c d e f g:Value):W259 [a,b,c,d,e,f,g] H Bd K=(Yld (qI H 1 a) fun cs=>qQ V259 (idS [.agg cs.toArray,b,c,d,e,f,g]) H Bd K):=by
 refine propext ⟨fun h=>?_,fun h=>⟨_,_,_,_,_,_,_,rfl,h⟩⟩
 obtain⟨ps',vorder',va',vb',vi',vj',vabove',e,h⟩:=h
 simp only[xG,and_true]at e
 obtain⟨rfl,rfl,rfl,rfl,rfl,rfl,rfl⟩:=e
 exact h
theorem W259_ok:OK 259 W259:=by
 rintro _ H Bd K ⟨ps,vorder,va,vb,vi,vj,vabove,rfl,cs,es,h⟩
 obtain⟨s,order,a,b,i,j,above,e,b0,hb0,hpre,hK⟩:=h
 simp only[xG,and_true]at e
 obtain⟨Es,rfl,rfl,rfl,rfl,rfl,rfl⟩:=e
 obtain rfl:=qR Es
 refine fnp pok (((((uA.uB W206_ok).uB W218_ok).uB W267_ok).uB W268_ok).uB W269_ok) [(3,[0,1,2,3,4,5,6,7,8,9,10,13,14,15,16,11,12,17,18,19,20],[z0 0,z0 1,z0 2,z0 3,z0 4,z0 5,z0 6,z0 7,z0 8,z0 9,z0 10,z0 13,z0 14,z0 15,z0 16,⟨11,[],[16]⟩,z0 12,z0 17,z0 18,z0 19,z0 20], .nil),(10,[],[],(.k 12 (.grp false 74 83 9 [75,76,77,78,79,80,81,82,83] 84 none (.k 9 .nil) .nil))),(12,[0,1,2,3,4,6,7,8,9,10,5,11,12],[z0 0,z0 1,z0 2,z0 3,z0 4,z0 6,z0 7,z0 8,z0 9,z0 10,⟨5,[],[10]⟩,z0 11,z0 12], .nil),(20,[0,1,2,3,4,5,6,7,8],[z0 0,z0 1,z0 2,z0 3,z0 4,z0 5,z0 6,z0 7,z0 8], .nil),(23,[],[],(.k 5 (.grp true 133 137 4 [134,135,136,137] 138 none (.k 4 .nil) .nil))),(25,[0,1,2,3,4,5,6,7,8,9,10,11,12],[z0 0,z0 1,z0 2,z0 3,z0 4,z0 5,z0 6,z0 7,z0 8,z0 9,z0 10,z0 11,z0 12], .nil),(26,[0,1,2,3,4,5,6,7,8,9,10,11,12,13,14],[z0 0,z0 1,z0 2,z0 3,z0 4,z0 5,z0 6,z0 7,z0 8,z0 9,z0 10,z0 11,z0 12,z0 13,z0 14], .nil)] hK func259 ntmps259 call259 [.tmp 14] fun hb ha=>?_
 have Ps:=qM es (NB.vpok (ha ps (by simp)))
 simp only[qN]at Ps
 have Zs:=Ps.all 1 rfl
 have Ys:=jE (ha ps (by simp))
 refine jF pok fun cv=>?_
 obtain⟨⟨h1,h2,h3,h4,h5⟩,⟨n1,n2,p1,p2⟩,⟨i1,i2,j1,j2⟩,⟨l1,l2⟩,ht,hl⟩:=hpre
 obtain⟨i,rfl⟩:=Int.eq_ofNat_of_zero_le i1
 obtain⟨j,rfl⟩:=Int.eq_ofNat_of_zero_le j1
 simp only[Int.toNat_natCast]at ht ⊢
 have hs:=yT h5
 have hal:(args s a i).length<=2:=by rw[args_len];exact arN_le hs _
 have hbl:(args s b j).length<=2:=by rw[args_len];exact arN_le hs _
 have hia:i<a.length:=by omega
 have hjb:j<b.length:=by omega
 have ea:a[i]? =some a[i]:=xA hia
 have eb:b[j]? =some b[j]:=xA hjb
 have hpa:=p1 i hia
 have hpb:=p2 j hjb
 by_cases hy:b[j]<0
 ·have hv:=gt_var (order:=order) p1 p2 hia hjb hy
  rcases ep_cases (s:=s) (t:=a) 1 (show i<=a.length by omega)with⟨q1,_⟩|⟨m,q1,q2,q3,_⟩
  ·omega
  have d1:subT s a i=(a.take (i+m)).drop i:=by unfold subT;rw[q3,Int.toNat_natCast,List.drop_take]
  have c1:((i:Int)+m).toNat=i+m:=by omega
  refine R (cj10 Zs ea eb hy h1 h3 h5 n1 q3 c1) ?_
  rw[hv,d1,<-count_any]
  exact⟨fun h=>⟨sm_drop (sm_take h3 _) _,by simp[h]⟩,fun h=>by simp[h]⟩
 by_cases hx:a[i]<0
 ·have hv:=gt_low (order:=order) p1 p2 hia hjb hy hx
  exact R (cj6 Zs ea eb hy hx hv) trivial
 ·have hrest:=gt_rest (order:=order) p1 p2 hia hjb hy hx
  have ga:a.getD i 0=a[i]:=getD_at hia
  have gb:b.getD j 0=b[j]:=getD_at hjb
  have ha1:argsP s a i (arN s a[i])=args s a i:=by unfold args;rw[ga]
  have hb1:argsP s b j (arN s b[j])=args s b j:=by unfold args;rw[gb]
  have hx0:0<=a[i]:=by omega
  have hy0:0<=b[j]:=by omega
  refine R (cj14 Zs ea eb hy hx h1 h3 h5 n1 n2 hpa ga ha1 hx0) ?_
  refine jA (fun x=>∀m,m<x->∀p,(args s a i)[m]? =some p->gt s order a b p.toNat j=false/\subT s a p.toNat≠subT s b j) ((args s a i).length) (fun x=>[(0,ps),(1,lst order),(2,lst a),(3,lst b),(4,iv i),(5,iv j),(6,sv (above.n) 1 above.len above.cap),(15,iv b.length),(16,lst (args s a i)),(17,iv x)]) (by simp) (by simp only[go_sem,push_cast,qB,qA]) ?_
  intro x Bx hIx hix hBx
  refine cv (by kernel_rfl) ?_
  rcases xM x ((args s a i).length)with hltx|hgex
  ·obtain⟨p,e1,g1,g2⟩:=args_get p1 hia hltx
   have e2:=ht p j g2 hjb (.inl g1)
   have m1:=mul_at g2 hjb
   have m2:=mul_sm l1 l2
   have c3:((p:Int)*b.length+j).toNat=p*b.length+j:=by omega
   refine R (cj12 Zs e1 e2 hb0 c3 h1 h3 h4 h5 n1 n2 hpb) ?_
   refine⟨fun _=>p1 p g2,fun h=>?_,fun h m hm q hq=>?_⟩
   ·rw[gt_arg p1 p2 hia hjb hy hx (p:=(p:Int)) (wC e1) (by simpa using h)]
   ·by_cases e:m=x
    ·subst e;rw[e1]at hq;cases hq;simpa using h
    ·exact hIx m (by omega) q hq
  ·have hr:=hrest fun p hp=>by
    obtain⟨m,hm,rfl⟩:=wO hp
    exact hIx m (by omega) _ (xA hm)
   refine R Zs ?_
   refine cv (by kernel_rfl) ?_
   refine R (cj12 Zs ea eb h1 h2 h4 h5 n2 hpb gb hb1 hy0) ?_
   refine⟨fun hlt=>by rw[hr,if_pos hlt],fun hge=>?_⟩
   rw[if_neg hge]at hr
   refine jA (fun y=>∀m,m<y->∀q,(args s b j)[m]? =some q->gt s order a b i q.toNat=true) ((args s b j).length) (fun y=>[(0,ps),(2,lst a),(3,lst b),(4,iv i),(5,iv j),(6,sv (above.n) 1 above.len above.cap),(15,iv b.length),(16,lst (args s a i)),(18,lst (args s b j)),(19,iv y)]) (by simp) (by simp only[go_sem,push_cast,qB,qA]) ?_
   intro y By hIy hiy hBy
   refine cv (by kernel_rfl) ?_
   rcases xM y ((args s b j).length)with hlty|hgey
   ·obtain⟨q,e1,g1,g2⟩:=args_get p2 hjb hlty
    have e2:=ht i q hia g2 (.inr ⟨rfl,g1⟩)
    have m1:=mul_at hia g2
    have m2:=mul_sm l1 l2
    have c3:((i:Int)*b.length+q).toNat=i*b.length+q:=by omega
    refine R (cj5 Zs e1 e2 hb0 c3) ?_
    refine⟨fun h m hm q' hq=>?_,fun h=>?_⟩
    ·by_cases e:m=y
     ·subst e;rw[e1]at hq;cases hq;simpa using h
     ·exact hIy m (by omega) q' hq
    ·rw[hr,if_pos (List.any_eq_true.2 ⟨_,wC e1,by simpa using h⟩)]
   ·have hany:¬((args s b j).any fun q=> !gt s order a b i q.toNat)=true:=fun hc=>by
     obtain⟨q,hq,h⟩:=List.any_eq_true.1 hc
     obtain⟨m,hm,rfl⟩:=wO hq
     rw[hIy m (by omega) _ (xA hm)]at h
     cases h
    rw[if_neg hany]at hr
    refine R Zs ?_
    refine cv (by kernel_rfl) ?_
    refine R (cj3 Zs ea eb) ?_
    refine⟨fun heq=>?_,fun hne=>by rw[hr,if_pos hne]⟩
    rw[if_neg (by simpa using heq)]at hr
    refine jA (fun z=>∀m,m<z->∀p q:Int,(args s a i)[m]? =some p->(args s b j)[m]? =some q->subT s a p.toNat=subT s b q.toNat) (min (args s a i).length (args s b j).length) (fun z=>[(0,ps),(2,lst a),(3,lst b),(4,iv i),(5,iv j),(6,sv (above.n) 1 above.len above.cap),(15,iv b.length),(16,lst (args s a i)),(18,lst (args s b j)),(20,iv z)]) (by simp) (by simp only[go_sem,push_cast,qB,qA]) ?_
    intro z Bz hIz hiz hBz
    refine cv (by kernel_rfl) ?_
    rcases xM z (min (args s a i).length (args s b j).length)with hltz|hgez
    ·obtain⟨p,e1,g1,g2⟩:=args_get p1 hia (show z<(args s a i).length by omega)
     obtain⟨q,e2,g3,g4⟩:=args_get p2 hjb (show z<(args s b j).length by omega)
     have e3:=ht p q g2 g4 (.inl g1)
     have m1:=mul_at g2 g4
     have m2:=mul_sm l1 l2
     have c3:((p:Int)*b.length+q).toNat=p*b.length+q:=by omega
     have g5:=p1 p g2
     have g6:=p2 q g4
     refine R (cj14 Zs e1 e2 e3 hb0 c3 h1 h3 h4 h5 n1 n2 g5 g6) ?_
     refine⟨fun h m hm p' q' hp hq=>?_,fun h=>?_⟩
     ·by_cases e:m=z
      ·subst e;rw[e1]at hp;rw[e2]at hq;cases hp;cases hq;simpa using h
      ·exact hIz m (by omega) p' q' hp hq
     ·rw[hr,lexG_go hIz _ _ e1 e2 (by simpa using h)];simp
    ·refine R Zs ?_
     refine⟨fun a1 a2=>absurd (show z<min (args s a i).length (args s b j).length by omega) (by omega),fun _=>?_⟩
     refine cv (by kernel_rfl) ?_
     refine R Zs ?_
     rw[hr,lexG_end fun m p q hp hq=>hIz m (by have:=(xR.1 hp).1;have:=(xR.1 hq).1;omega) p q hp hq]
@[go_sem ↓] def BV246 (s:GSignature) (order:List Int) (a:List Int) (b:List Int):Tq:=fun H Bd K=>(((sm s/\sm order/\sm a/\sm b/\kE s=0)/\(nodes s a/\nodes s b/\places s a/\places s b)/\(1<=a.length/\a.length<=24/\1<=b.length/\b.length<=24))/\K (lst (tabG s order a b)) H Bd)
def V246:qH:=fun g' H Bd K=>∃(s:GSignature) (order:List Int) (a:List Int) (b:List Int),g'=[.agg (enc s).toArray,lst order,lst a,lst b]/\BV246 s order a b H Bd K
@[go_sem ↓] theorem V246_eq (a:List GSymbol) (b c d:List Int):V246 [.agg #[lst a],lst b,lst c,lst d] H Bd K=BV246 (GSignature.mk a) b c d H Bd K:=ex4 (GSignature.mk a) b c d rfl
def W246:qH:=fun g' H Bd K=>∃(ps vorder va vb:Value),g'=[ps,vorder,va,vb]/\Yld (qI H 1 ps) fun cs=>qQ V246 [.agg cs.toArray,vorder,va,vb] H Bd K
@[go_sem ↓] theorem W246_eq (a b c d:Value):W246 [a,b,c,d] H Bd K=(Yld (qI H 1 a) fun cs=>qQ V246 (idS [.agg cs.toArray,b,c,d]) H Bd K):=px4 a b c d
theorem W246_ok:OK 246 W246:=by
 rintro _ H Bd K ⟨ps,vorder,va,vb,rfl,cs,es,h⟩
 obtain⟨s,order,a,b,e,hpre,hK⟩:=h
 simp only[xG,and_true]at e
 obtain⟨Es,rfl,rfl,rfl⟩:=e
 obtain rfl:=qR Es
 refine fnp pok (uA.uB W259_ok) [] hK func246 ntmps246 call246 [.tmp 8] fun hb ha=>?_
 have Ps:=qM es (NB.vpok (ha ps (by simp)))
 simp only[qN]at Ps
 have Zs:=Ps.all 1 rfl
 have Ys:=jE (ha ps (by simp))
 refine jF pok fun cv=>?_
 obtain⟨⟨h1,h2,h3,h4,h5⟩,⟨n1,n2,p1,p2⟩,⟨l1,l2,l3,l4⟩⟩:=hpre
 have m2:=mul_sm l2 l4
 have c0:((a.length:Int)*b.length).toNat=a.length*b.length:=by omega
 refine R (cj Zs c0) ?_
 refine tr_st (X:=Nat×List Value) (fun x=>x.1<=a.length/\x.2.length=a.length*b.length/\∀p q:Nat,p<a.length->q<b.length->x.1<=p->x.2[p*b.length+q]? =some (.bool (gt s order a b p q))) (fun x=>x.1) (fun x=>[(0,ps),(1,lst order),(2,lst a),(3,lst b),(9,iv b.length),(10,sv Bd 1 (a.length*b.length) (a.length*b.length+1)),(11,iv ((x.1:Int)-1))]) (fun x=>upd H Bd (some ⟨x.2,true⟩)) (a.length,jU (a.length*b.length) [.bool false]) (⟨xC _,by rw[zmake_len];simp,fun p q h1 _ h2=>absurd h1 (by omega)⟩) (by simp only[go_sem,push_cast,qB,qA]<;>exact cT) (by first|exact Le.refl _|simp (disch:=first|assumption|omega) only[go_sem,push_cast,qB,qA,qU,jP]) ?_
 intro x Bx hIx hBx hbx Fx hFx
 refine cv (by kernel_rfl) ?_
 obtain⟨r,L⟩:=x
 obtain⟨i1,i2,i3⟩:=hIx
 simp only at i1 i2 i3 hbx
 cases r with
 |zero=>
  refine R Zs ?_
  have hfl:=tab_flat (s:=s) (order:=order) (a:=a) (b:=b) (by omega) i2 fun p q g1 g2=>i3 p q g1 g2 (xT _)
  subst hfl
  refine Tr.fin2 10 (by simp (disch:=first|assumption|omega) only[qG,qE hb]) (by simp only[go_sem,push_cast,qB,qA];rfl) (tabG_len _ _ _ _).symm ?_
  refine cv (by kernel_rfl) ?_
  exact R Zs trivial
 |succ i=>
  have ci:(i:Int)+1-1=i:=by omega
  refine R (cj Zs ci) ?_
  refine tr_st (X:=Nat×List Value) (fun y=>y.1<=b.length/\y.2.length=a.length*b.length/\∀p q:Nat,p<a.length->q<b.length->(i<p\/(p=i/\y.1<=q))->y.2[p*b.length+q]? =some (.bool (gt s order a b p q))) (fun y=>y.1) (fun y=>[(0,ps),(1,lst order),(2,lst a),(3,lst b),(9,iv b.length),(10,sv Bd 1 (a.length*b.length) (a.length*b.length+1)),(11,iv i),(12,iv ((y.1:Int)-1))]) (fun y=>upd H Bd (some ⟨y.2,true⟩)) (b.length,L) (⟨xC _,i2,fun p q g1 g2 g3=>i3 p q g1 g2 (by omega)⟩) (by simp only[go_sem,push_cast,qB,qA,ci]<;>exact cT) (by first|exact Le.refl _|simp (disch:=first|assumption|omega) only[go_sem,push_cast,qB,qA,qU,jP,ci]) ?_
  intro y By hIy hBy hby Fy hFy
  refine cv (by kernel_rfl) ?_
  obtain⟨c,L2⟩:=y
  obtain⟨k1,k2,k3⟩:=hIy
  simp only at k1 k2 k3 hby
  cases c with
  |zero=>
   refine R Zs ?_
   refine hFx (i,L2) _ _ _ ?_ ?_ (by first|exact Le.refl _|simp (disch:=first|assumption|omega|(simp (disch:=omega) only[qG,qE hb];done)) only[go_sem,push_cast,qB,qA,qU,jP,qG,qE hb]) (by simp only[go_sem,push_cast,qB,qA]) (by simp only[go_sem,push_cast,qB,qA]<;>exact cT)
   ·show i<i+1
    omega
   ·exact⟨by omega,k2,fun p q g1 g2 g3=>k3 p q g1 g2 (by omega)⟩
  |succ j=>
   have ck:(j:Int)+1-1=j:=by omega
   have m1:=mul_at (show i<a.length by omega) (show j<b.length by omega)
   have c3:((i:Int)*b.length+j).toNat=i*b.length+j:=by omega
   have ht:tabOK s order a b i j L2:=fun p q g1 g2 g3=>k3 p q g1 g2 (by omega)
   refine R (cj15 Zs ci ck c3 h1 h2 h3 h4 h5 n1 n2 p1 p2 ht k2) ?_
   refine hFy (j,L2.set (i*b.length+j) (.bool (gt s order a b i j))) _ _ _ ?_ ?_ (by first|exact Le.refl _|simp (disch:=first|assumption|omega|(simp (disch:=omega) only[qG,qE hb];done)) only[go_sem,push_cast,qB,qA,qU,jP,qG,qE hb]) (by simp only[go_sem,push_cast,qB,qA]) (by simp only[go_sem,push_cast,qB,qA]<;>exact cT)
   ·show j<j+1
    omega
   ·exact⟨by omega,by simpa using k2,fun p q g1 g2 g3=>tab_set (by omega) (by omega) k2 ht p q g1 g2 g3⟩
@[go_sem ↓] def BV219 (s:GSignature) (order:List Int) (a:List Int) (b:List Int):Tq:=fun H Bd K=>(((sm s/\sm order/\sm a/\sm b/\kE s=0)/\(nodes s a/\nodes s b/\places s a/\places s b)/\(1<=a.length/\a.length<=24/\1<=b.length/\b.length<=24))/\K (.bool (gt s order a b 0 0)) H Bd)
def V219:qH:=fun g' H Bd K=>∃(s:GSignature) (order:List Int) (a:List Int) (b:List Int),g'=[.agg (enc s).toArray,lst order,lst a,lst b]/\BV219 s order a b H Bd K
@[go_sem ↓] theorem V219_eq (a:List GSymbol) (b c d:List Int):V219 [.agg #[lst a],lst b,lst c,lst d] H Bd K=BV219 (GSignature.mk a) b c d H Bd K:=ex4 (GSignature.mk a) b c d rfl
def W219:qH:=fun g' H Bd K=>∃(ps vorder va vb:Value),g'=[ps,vorder,va,vb]/\Yld (qI H 1 ps) fun cs=>qQ V219 [.agg cs.toArray,vorder,va,vb] H Bd K
@[go_sem ↓] theorem W219_eq (a b c d:Value):W219 [a,b,c,d] H Bd K=(Yld (qI H 1 a) fun cs=>qQ V219 (idS [.agg cs.toArray,b,c,d]) H Bd K):=px4 a b c d
theorem W219_ok:OK 219 W219:=by
 rintro _ H Bd K ⟨ps,vorder,va,vb,rfl,cs,es,h⟩
 obtain⟨s,order,a,b,e,hpre,hK⟩:=h
 simp only[xG,and_true]at e
 obtain⟨Es,rfl,rfl,rfl⟩:=e
 obtain rfl:=qR Es
 refine fnp pok (uA.uB W246_ok) [] hK func219 ntmps219 call219 [.tmp 8] fun hb ha=>?_
 have Ps:=qM es (NB.vpok (ha ps (by simp)))
 simp only[qN]at Ps
 have Zs:=Ps.all 1 rfl
 have Ys:=jE (ha ps (by simp))
 obtain⟨⟨h1,h2,h3,h4,h5⟩,⟨n1,n2,p1,p2⟩,⟨l1,l2,l3,l4⟩⟩:=hpre
 have m1:=mul_at (show 0<a.length by omega) (show 0<b.length by omega)
 have e1:(tabG s order a b)[0]? =some (gt s order a b 0 0):=by
  unfold tabG
  rw[wN,List.getElem?_range (by omega)]
  simp
 have hl:=tabG_len s order a b
 exact R (cj11 Zs h1 h2 h3 h4 h5 n1 n2 p1 p2 e1) trivial
@[go_sem ↓] def BV179 (s:GSignature) (order:List Int) (l:List GEquation):Tq:=fun H Bd K=>((sm s/\sm order/\sm l/\kE s=0/\vS s l=0)/\K (.bool (fallsB s order l)) H Bd)
def V179:qH:=fun g' H Bd K=>∃(s:GSignature) (order:List Int) (l:List GEquation),g'=[.agg (enc s).toArray,lst order,lst l]/\BV179 s order l H Bd K
@[go_sem ↓] theorem V179_eq (a:List GSymbol) (b:List Int) (c:List GEquation):V179 [.agg #[lst a],lst b,lst c] H Bd K=BV179 (GSignature.mk a) b c H Bd K:=ex3 (GSignature.mk a) b c rfl
def W179:qH:=fun g' H Bd K=>∃(ps vorder vl:Value),g'=[ps,vorder,vl]/\Yld (qI H 1 ps) fun cs=>qQ V179 [.agg cs.toArray,vorder,vl] H Bd K
@[go_sem ↓] theorem W179_eq (a b c:Value):W179 [a,b,c] H Bd K=(Yld (qI H 1 a) fun cs=>qQ V179 (idS [.agg cs.toArray,b,c]) H Bd K):=px3 a b c
theorem W179_ok:OK 179 W179:=by
 rintro _ H Bd K ⟨ps,vorder,vl,rfl,cs,es,h⟩
 obtain⟨s,order,l,e,hpre,hK⟩:=h
 simp only[xG,and_true]at e
 obtain⟨Es,rfl,rfl⟩:=e
 obtain rfl:=qR Es
 refine fnp pok (uA.uB W219_ok) [(4,[0,1,2,3,4,5,6,7,8,9,10,11,12,13],[z0 0,z0 1,z0 2,z0 3,z0 4,z0 5,z0 6,z0 7,z0 8,z0 9,z0 10,z0 11,z0 12,z0 13], .nil)] hK func179 ntmps179 call179 [.tmp 6] fun hb ha=>?_
 have Ps:=qM es (NB.vpok (ha ps (by simp)))
 simp only[qN]at Ps
 have Zs:=Ps.all 1 rfl
 have Ys:=jE (ha ps (by simp))
 refine jF pok fun cv=>?_
 obtain⟨h1,h2,h3,h4,h5⟩:=hpre
 have hok:=(rulesG_zero h5).2
 have hlt2:=qS h3
 refine R Zs ?_
 refine jA (fun i=>∀j,j<i->∀x,l[j]? =some x->gt s order x.left x.right 0 0=true) (l.length) (fun i=>[(0,ps),(1,lst order),(2,lst l),(7,iv i)]) (fun j hj=>absurd hj (Nat.not_lt_zero _)) (by simp only[go_sem,push_cast,qB,qA]) ?_
 intro i Bi hIi hii hBi
 refine cv (by kernel_rfl) ?_
 rcases xM i (l.length)with hlti|hgei
 ·have e1:l[i]? =some l[i]:=xA hlti
  have h6:=yP h3 (xH hlti)
  simp only[zG]at h6
  have g1:=h6.1
  have g2:=h6.2
  have h7:=hok _ (xH hlti)
  have n1:=h7.1.nodes
  have n2:=h7.2.1.nodes
  have p1:=vE h7.1
  have p2:=vE h7.2.1
  have l1:=h7.1.len
  have l2:=h7.2.1.len
  refine R (cj11 Zs e1 h1 h2 g1 g2 h4 n1 n2 p1 p2) ?_
  refine⟨fun h j hj x hx=>?_,fun h=>?_⟩
  ·by_cases e:j=i
   ·subst e;rw[e1]at hx;cases hx;simpa using h
   ·exact hIi j (by omega) x hx
  ·exact(all_no (xH hlti) (by simpa using h)).symm
 ·refine R Zs ?_
  refine cv (by kernel_rfl) ?_
  refine R Zs ?_
  exact(all_yes fun x hx=>by
   obtain⟨j,hj,rfl⟩:=wO hx
   exact hIi j (by omega) _ (xA hj)).symm
@[go_sem ↓] def BV128 (s:GSignature) (x:GTheory):Tq:=fun H Bd K=>((sm s/\sm x/\rg x/\kE s=0)/\K (iv (thG s x)) H Bd)
def V128:qH:=fun g' H Bd K=>∃(s:GSignature) (x:GTheory),g'=[.agg (enc s).toArray, .agg (enc x).toArray]/\BV128 s x H Bd K
@[go_sem ↓] theorem V128_eq (a:List GSymbol) (b:List Int) (c d:List GEquation):V128 [.agg #[lst a], .agg #[lst b,lst c,lst d]] H Bd K=BV128 (GSignature.mk a) (GTheory.mk b c d) H Bd K:=ex2 (GSignature.mk a) (GTheory.mk b c d) rfl
def W128:qH:=fun g' H Bd K=>∃(ps px:Value),g'=[ps,px]/\Yld (qI H 1 ps) fun cs=>Yld (qI H 3 px) fun cx=>qQ V128 [.agg cs.toArray, .agg cx.toArray] H Bd K
@[go_sem ↓] theorem W128_eq (a b:Value):W128 [a,b] H Bd K=(Yld (qI H 1 a) fun cs=>Yld (qI H 3 b) fun cx=>qQ V128 (idS [.agg cs.toArray, .agg cx.toArray]) H Bd K):=px2 a b
theorem W128_ok:OK 128 W128:=by
 rintro _ H Bd K ⟨ps,px,rfl,cs,es,cx,ex,h⟩
 obtain⟨s,x,e,hpre,hK⟩:=h
 simp only[xG,and_true]at e
 obtain⟨Es,Ex⟩:=e
 obtain rfl:=qR Es
 obtain rfl:=qR Ex
 refine fnp pok ((((uA.uB W176_ok).uB W177_ok).uB W178_ok).uB W179_ok) [(10,[0,1,2,3,4,5,6,7,8,9,10],[z0 0,z0 1,z0 2,z0 3,z0 4,z0 5,z0 6,z0 7,z0 8,z0 9,z0 10], .nil)] hK func128 ntmps128 call128 [.tmp 4] fun hb ha=>?_
 have Ps:=qM es (NB.vpok (ha ps (by simp)))
 simp only[qN]at Ps
 have Zs:=Ps.all 1 rfl
 have Ys:=jE (ha ps (by simp))
 have Px:=qM ex (NB.vpok (ha px (by simp)))
 simp only[qN,enc_GTheory]at Px
 have Zx:=Px.all 3 rfl
 have Yx:=jE (ha px (by simp))
 obtain⟨h1,h2,h3,h4⟩:=hpre
 simp only[sm_GTheory]at h2
 have h5:rg x.order:=h3.1
 have h6:rg x.equations:=h3.2.1
 have h7:rg x.rules:=h3.2.2
 refine R (cj8 Zs Zx h1 h2 h5 h6 h7 h4) ?_
 unfold thG
 all_goals first|done|trivial|((try simp only[Cnp,Imp]);grind)
@[go_sem ↓] def BV85 (s:GSignature) (data:List UInt8):Tq:=fun H Bd K=>((sm s/\kE s=0/\data.length<=1000000)/\K (.tuple #[.agg (enc ((thS s data).1)).toArray, .bool ((thS s data).2)]) H Bd)
def V85:qH:=fun g' H Bd K=>∃(s:GSignature) (data:List UInt8),g'=[.agg (enc s).toArray,lst data]/\BV85 s data H Bd K
@[go_sem ↓] theorem V85_eq (a:List GSymbol) (b:List UInt8):V85 [.agg #[lst a],lst b] H Bd K=BV85 (GSignature.mk a) b H Bd K:=ex2 (GSignature.mk a) b rfl
def W85:qH:=fun g' H Bd K=>∃(ps vdata:Value),g'=[ps,vdata]/\Yld (qI H 1 ps) fun cs=>qQ V85 [.agg cs.toArray,vdata] H Bd K
@[go_sem ↓] theorem W85_eq (a b:Value):W85 [a,b] H Bd K=(Yld (qI H 1 a) fun cs=>qQ V85 (idS [.agg cs.toArray,b]) H Bd K):=px2 a b
theorem W85_ok:OK 85 W85:=by
 rintro _ H Bd K ⟨ps,vdata,rfl,cs,es,h⟩
 obtain⟨s,data,e,hpre,hK⟩:=h
 simp only[xG,and_true]at e
 obtain⟨Es,rfl⟩:=e
 obtain rfl:=qR Es
 refine yF pok ((uA.uB W127_ok).uB W128_ok) [(2,[],[],(.k 5 (.grp false 22 25 3 [23,24,25] 26 none (.k 3 .nil) .nil))),(8,[0,1,2,3,4,5,6,7,8,9,10],[z0 0,z0 1,z0 2,z0 3,z0 4,z0 5,z0 6,z0 7,⟨8,[7],[]⟩,z0 9,⟨10,[7],[]⟩], .nil),(13,[],[],(.k 3 (.grp false 67 75 8 [68,69,70,71,72,73,74,75] 76 none (.k 8 .nil) .nil))),(17,[0,1,2,3,4,5],[z0 0,z0 1,⟨2,[],[0]⟩,z0 3,z0 4,z0 5], .nil)] _ hK func85 rfl (rs:=[.cell 4 57, .tmp 5]) rfl ntmps85 (by simp) call85 (by kernel_rfl) (fun ha hb=>tup_nb ⟨agg_nb _ _, .bool _,trivial⟩) (fun hb ha=>?_)
 have Ps:=qM es (NB.vpok (ha ps (by simp)))
 simp only[qN]at Ps
 have Zs:=Ps.all 1 rfl
 have Ys:=jE (ha ps (by simp))
 refine jF pok fun cv=>?_
 obtain⟨h1,h2,h3⟩:=hpre
 have hs:=yT h2
 have hsl:=hs.len
 by_cases g1:data.length<s.symbols.length
 ·have e:thS s data=(noTh,false):=by unfold thS;rw[if_pos (.inl g1)]
  rw[e];unfold noTh
  exact R (cj Zs g1) trivial
 by_cases g2:300<data.length
 ·have e:thS s data=(noTh,false):=by unfold thS;rw[if_pos (.inr g2)]
  rw[e];unfold noTh
  exact R (cj3 Zs g1 g2) trivial
 have hT:thS s data=if(thE s data).2=0 then(noTh,false)
   else if(thL s data).2=0\/(s.symbols.length:Int)+(thE s data).2+(thL s data).2≠data.length then(noTh,false)
   else(thX s data,decide (thG s (thX s data)=0)):=by unfold thS;rw[if_neg (by omega)]
 refine R (cj3 Zs g1 g2) ?_
 refine yM (X:=Nat) hb (by omega) 1 [.m (Bd+1) 0] rfl (fun x=>x<=s.symbols.length) (fun x=>s.symbols.length-x) (fun Nx x=>[(0,ps),(1,lst data),(4,pt Bd),(6,iv (s.symbols.length:Int)),(7,pt (Bd+1)),(8,iv x)]) (fun Nx x=>[(Bd,⟨[sn,sn,sn],true⟩),(Bd+1,⟨[sv Nx 1 ((data.take x).map bI).length (((data.take x).map bI).length+1),sn,sn],true⟩),(Nx,⟨qO ((data.take x).map bI),true⟩)]) 0 (xT _) (fun Nx hNx=>(canf Ys)) ?_
 intro Nx x hNx hIx hbx Fx hFx
 simp only[mem_cons,jC]at hbx ⊢
 refine cv (by kernel_rfl) ?_
 have hxl:((data.take x).map bI).length=x:=by rw[List.length_map,xQ];omega
 by_cases hlt:x<s.symbols.length
 ·have e1:data[x]? =some (data[x]'(by omega)):=xA _
  have hst:=bIs_succ (show x<data.length by omega)
  have hb6:((data[x]'(by omega)).toNat:Int)<=9223372036854775807:=by have:=(data[x]'(by omega)).toNat_lt;omega
  refine RA (cj4 Zs e1 hlt hb6) ?_
  refine hFx (x+1) _ _ _ ?_ ?_ (by simp only[go_sem,push_cast,qB,qA]) ((canf (cj Ys hst)))
  ·show s.symbols.length-(x+1)<s.symbols.length-x
   omega
  ·exact hlt
 ·obtain rfl:x=s.symbols.length:=by omega
  refine R Zs ?_
  refine Tr.to hb (by omega) 0 [] rfl (fun Nk=>[(0,ps),(1,lst data),(4,pt Bd),(6,iv (s.symbols.length:Int)),(7,pt (Bd+1))]) (fun Nk=>[(Bd,⟨[sn,sn,sn],true⟩),(Bd+1,⟨[lst ((data.take s.symbols.length).map bI),sn,sn],true⟩)]) (fun Nk hNk=>(canf Ys)) ?_
  intro Nk hNk hbk
  simp only[mem_cons,jC]at hbk ⊢
  refine cv (by kernel_rfl) ?_
  have hd1:(data.drop s.symbols.length).length<=1000000:=by rw[xI];omega
  have hE:raD s (data.drop s.symbols.length)=thE s data:=rfl
  by_cases q1:(thE s data).2=0
  ·rw[if_pos q1]at hT
   rw[hT];unfold noTh
   exact R (cj7 Zs h1 h2 hd1 hE q1 ((@List.take_length UInt8))) trivial
  rw[if_neg q1]at hT
  obtain⟨a0,a1,a2,a3⟩:eqsG s (thE s data).1=0/\1<=(thE s data).2/\(thE s data).2.toNat<=(data.drop s.symbols.length).length/\_:=raD_ok q1
  rw[xI]at a2
  have hcd:((s.symbols.length:Int)+(thE s data).2).toNat=s.symbols.length+(thE s data).2.toNat:=by omega
  have hL:raD s (data.drop (s.symbols.length+(thE s data).2.toNat))=thL s data:=rfl
  have hd2:(data.drop (s.symbols.length+(thE s data).2.toNat)).length<=1000000:=by rw[xI];omega
  by_cases q2:(thL s data).2=0
  ·rw[if_pos (.inl q2)]at hT
   rw[hT];unfold noTh
   exact R (cj11 Zs h1 h2 hd1 hE q1 hcd hd2 hL q2 ((@List.take_length UInt8))) trivial
  obtain⟨b0,b1,b2,b3⟩:eqsG s (thL s data).1=0/\1<=(thL s data).2/\(thL s data).2.toNat<=(data.drop (s.symbols.length+(thE s data).2.toNat)).length/\_:=raD_ok q2
  rw[xI]at b2
  by_cases q3:(s.symbols.length:Int)+(thE s data).2+(thL s data).2=data.length
  case neg=>
   rw[if_pos (.inr q3)]at hT
   rw[hT];unfold noTh
   exact R (cj12 Zs h1 h2 hd1 hE q1 hcd hd2 hL q2 q3 ((@List.take_length UInt8))) trivial
  rw[if_neg (fun h=>h.elim q2 (fun h=>h q3))]at hT
  rw[hT]
  obtain⟨_,s1,s2⟩:=eqs_sm hs a0
  obtain⟨_,s3,s4⟩:=eqs_sm hs b0
  have hsmX:sm (⟨(data.take s.symbols.length).map bI,(thE s data).1,(thL s data).1⟩:GTheory):=⟨(yU _).2 (by rw[List.length_map,xQ];omega),s1,s3⟩
  have hrgX:rg (⟨(data.take s.symbols.length).map bI,(thE s data).1,(thL s data).1⟩:GTheory):=⟨bIs_rg _,s2,s4⟩
  unfold thX
  exact R (cj14 Zs h1 h2 hd1 hE q1 hcd hd2 hL q2 q3 (@List.take_length UInt8) hsmX hrgX) trivial
@[go_sem ↓] def BV52 (d:GDisk):Tq:=fun H Bd K=>((sm d/\DiskOK d)/\K (.tuple #[.agg (enc ((scrD d).1)).toArray,iv ((scrD d).2)]) H Bd)
def V52:qH:=fun g' H Bd K=>∃(d:GDisk),g'=[.agg (enc d).toArray]/\BV52 d H Bd K
@[go_sem ↓] theorem V52_eq (a:List (List UInt8)) (b:List GPut):V52 [.agg #[lst a,lst b]] H Bd K=BV52 (GDisk.mk a b) H Bd K:=ex1 (GDisk.mk a b) rfl
def W52:qH:=fun g' H Bd K=>∃(pd:Value),g'=[pd]/\Yld (qI H 2 pd) fun cd=>qQ V52 [.agg cd.toArray] H Bd K
@[go_sem ↓] theorem W52_eq (a:Value):W52 [a] H Bd K=(Yld (qI H 2 a) fun cd=>qQ V52 (idS [.agg cd.toArray]) H Bd K):=px1 a
theorem W52_ok:OK 52 W52:=by
 rintro _ H Bd K ⟨pd,rfl,cd,ed,h⟩
 obtain⟨d,e,hpre,hK⟩:=h
 simp only[xG,and_true]at e
 have Ed:=e
 obtain rfl:=qR Ed
 refine yF pok ((((uA.uB W82_ok).uB W83_ok).uB W84_ok).uB W85_ok) [] _ hK func52 rfl (rs:=[.cell 2 59, .tmp 3]) rfl ntmps52 (by simp) call52 (by kernel_rfl) (fun ha hb=>tup_nb ⟨agg_nb _ _, .int _ _,trivial⟩) (fun hb ha=>?_)
 have Pd:=qM ed (NB.vpok (ha pd (by simp)))
 simp only[jR]at Pd
 have Zd:=Pd.all 2 rfl
 have Yd:=jE (ha pd (by simp))
 obtain⟨h1,h2⟩:=hpre
 have hR:scrD d=if(jL d).2≠0 then(noSt,(jL d).2)
   else if(vW d (jL d).1).code≠0 then(noSt,(vW d (jL d).1).code)
   else if(thAt d (jL d).1 (jL d).1.theory).2=false then(noSt,5)
   else if(jL d).1.moving=true/\(thAt d (jL d).1 (jL d).1.next_).2=false then(noSt,5)
   else(⟨(jL d).1,(vW d (jL d).1).list,(thAt d (jL d).1 (jL d).1.theory).1,if(jL d).1.moving=true then(thAt d (jL d).1 (jL d).1.next_).1 else noTh⟩,0):=rfl
 by_cases q1:(jL d).2=0
 case neg=>
  rw[if_pos q1]at hR
  rw[hR];unfold noSt yD noTh
  exact R (cj4 Zd h1 h2 q1) trivial
 rw[if_neg (by simpa using q1)]at hR
 have hS:=kJ (openD_ok q1)
 generalize hQ:(jL d).1=Q at*
 by_cases q2:(vW d Q).code=0
 case neg=>
  rw[if_pos q2]at hR
  rw[hR];unfold noSt yD noTh
  exact R (cj7 Zd h1 h2 q1 hQ hS q2) trivial
 rw[if_neg (by simpa using q2)]at hR
 have hth:=hS.theory
 have hnx:=hS.next_
 have hsg:=hS.sig
 have hsl:=(yT hsg).len
 have hss:sm Q.symbols:=⟨show Q.symbols.symbols.length<=281474976710656 by omega,fun x hx=>⟨show x.name.size<=281474976710656 by have:=zQ ((yT hsg).nm x hx).1;omega,trivial⟩⟩
 have hf1:∀a b,H (Bd+a+b)=none:=fun a b=>hb.fresh _ (by omega)
 have hf2:∀a b c,H (Bd+a+b+c)=none:=fun a b c=>hb.fresh _ (by omega)
 have r1:R64 Q.theory:=⟨by omega,by omega⟩
 have r2:R64 Q.next_:=⟨by omega,by omega⟩
 have hc1:=chainD_dlen d Q.theory
 have hc2:=chainD_dlen d Q.next_
 have e1:thS Q.symbols (qW d Q.theory).1=thAt d Q Q.theory:=rfl
 have e2:thS Q.symbols (qW d Q.next_).1=thAt d Q Q.next_:=rfl
 by_cases q3:(thAt d Q Q.theory).2=true
 case neg=>
  have q3:(thAt d Q Q.theory).2=false:=by simpa using q3
  rw[if_pos q3]at hR
  rw[hR];unfold noSt yD noTh
  exact R (cj16 Zd h1 h2 q1 hQ hS q2 r1 r2 hc1 hc2 hss hsg e1 e2 q3) trivial
 rw[if_neg (by rw[q3];decide)]at hR
 by_cases q4:Q.moving=true
 ·by_cases q5:(thAt d Q Q.next_).2=true
  ·rw[if_neg (by rw[q5];simp),if_pos q4]at hR
   rw[hR]
   exact R (cj17 Zd h1 h2 q1 hQ hS q2 r1 r2 hc1 hc2 hss hsg e1 e2 q3 q5) trivial
  ·have q5:(thAt d Q Q.next_).2=false:=by simpa using q5
   rw[if_pos ⟨q4,q5⟩]at hR
   rw[hR];unfold noSt yD noTh
   exact R (cj17 Zd h1 h2 q1 hQ hS q2 r1 r2 hc1 hc2 hss hsg e1 e2 q3 q5) trivial
 ·rw[if_neg (fun h=>q4 h.1),if_neg q4]at hR
  rw[hR];unfold noTh
  exact R (cj16 Zd h1 h2 q1 hQ hS q2 r1 r2 hc1 hc2 hss hsg e1 e2 q3) trivial
@[go_sem ↓] def BV24 (d:GDisk):Tq:=fun H Bd K=>((sm d)/\K (.tuple #[.agg (enc ((openS d).1)).toArray,iv ((openS d).2)]) H Bd)
def V24:qH:=fun g' H Bd K=>∃(d:GDisk),g'=[.agg (enc d).toArray]/\BV24 d H Bd K
@[go_sem ↓] theorem V24_eq (a:List (List UInt8)) (b:List GPut):V24 [.agg #[lst a,lst b]] H Bd K=BV24 (GDisk.mk a b) H Bd K:=ex1 (GDisk.mk a b) rfl
def W24:qH:=fun g' H Bd K=>∃(pd:Value),g'=[pd]/\Yld (qI H 2 pd) fun cd=>qQ V24 [.agg cd.toArray] H Bd K
@[go_sem ↓] theorem W24_eq (a:Value):W24 [a] H Bd K=(Yld (qI H 2 a) fun cd=>qQ V24 (idS [.agg cd.toArray]) H Bd K):=px1 a
theorem W24_ok:OK 24 W24:=by
 rintro _ H Bd K ⟨pd,rfl,cd,ed,h⟩
 obtain⟨d,e,hpre,hK⟩:=h
 simp only[xG,and_true]at e
 have Ed:=e
 obtain rfl:=qR Ed
 refine yF pok ((uA.uB W51_ok).uB W52_ok) [] _ hK func24 rfl (rs:=[.cell 2 59, .tmp 3]) rfl ntmps24 (by simp) call24 (by kernel_rfl) (fun ha hb=>tup_nb ⟨agg_nb _ _, .int _ _,trivial⟩) (fun hb ha=>?_)
 have Pd:=qM ed (NB.vpok (ha pd (by simp)))
 simp only[jR]at Pd
 have Zd:=Pd.all 2 rfl
 have Yd:=jE (ha pd (by simp))
 by_cases hd:yR d=0
 ·have e:openS d=scrD d:=by unfold openS;rw[if_neg (by simpa using hd)]
  have h2:=disk_ok hd
  rw[e]
  exact R (cj4 Zd hpre hd h2) trivial
 ·have e:openS d=(noSt,yR d):=by unfold openS;rw[if_pos hd]
  rw[e];unfold noSt yD noTh
  exact R (cj3 Zd hpre hd) trivial
def W25:qH:=fun g' H Bd K=>∃(c:Int),g'=[iv c]/\(K (.agg (enc ((⟨c,[]⟩:GActsResult))).toArray) H Bd)
@[go_sem ↓] theorem W25_eq (a:Int):W25 [iv a] H Bd K=(K (.agg (enc ((⟨a,[]⟩:GActsResult))).toArray) H Bd):=ex1 a rfl
theorem W25_ok:OK 25 W25:=by
 rintro _ H Bd K ⟨c,rfl,hK⟩
 refine fnp pok uA [] hK func25 ntmps25 call25 [.cell 2 29] fun hb ha=>?_
 exact R0 trivial
@[go_sem ↓] def BV86 (d:GDisk):Tq:=fun H Bd K=>((sm d/\DiskOK d)/\K (.agg (enc d).toArray) H Bd)
def V86:qH:=fun g' H Bd K=>∃(d:GDisk),g'=[.agg (enc d).toArray]/\BV86 d H Bd K
@[go_sem ↓] theorem V86_eq (a:List (List UInt8)) (b:List GPut):V86 [.agg #[lst a,lst b]] H Bd K=BV86 (GDisk.mk a b) H Bd K:=ex1 (GDisk.mk a b) rfl
def W86:qH:=fun g' H Bd K=>∃(pd:Value),g'=[pd]/\Yld (qI H 2 pd) fun cd=>qQ V86 [.agg cd.toArray] H Bd K
@[go_sem ↓] theorem W86_eq (a:Value):W86 [a] H Bd K=(Yld (qI H 2 a) fun cd=>qQ V86 (idS [.agg cd.toArray]) H Bd K):=px1 a
theorem W86_ok:OK 86 W86:=by
 rintro _ H Bd K ⟨pd,rfl,cd,ed,h⟩
 obtain⟨d,e,hpre,hK⟩:=h
 simp only[xG,and_true]at e
 have Ed:=e
 obtain rfl:=qR Ed
 refine fnp pok (uA.uB W129_ok) [(5,[0,1,2,3,4,5,6,7,8,9,10,11,12,13],[z0 0,z0 1,z0 2,z0 3,z0 4,z0 5,z0 6,z0 7,z0 8,⟨9,[],[1]⟩,z0 10,⟨11,[10],[]⟩,z0 12,⟨13,[10],[]⟩], .nil),(9,[0,1,2,3,4,5,6,7,8,9,10,11,12,13,14,15,16,17,18,19,20,21,22,23],[z0 0,z0 1,z0 2,z0 3,z0 4,z0 5,z0 6,z0 7,z0 8,z0 9,z0 10,z0 11,z0 12,z0 13,z0 14,z0 15,z0 16,z0 17,⟨18,[],[9,5,1]⟩,z0 19,z0 20,⟨21,[20],[]⟩,z0 22,⟨23,[20],[]⟩], .nil)] hK func86 ntmps86 call86 [.cell 2 33] fun hb ha=>?_
 have Pd:=qM ed (NB.vpok (ha pd (by simp)))
 simp only[jR]at Pd
 have Zd:=Pd.all 2 rfl
 have Yd:=jE (ha pd (by simp))
 refine jF pok fun cv=>?_
 obtain⟨h1,h2⟩:=hpre
 refine R Zd ?_
 refine yM (X:=Nat) hb (by omega) 1 [.m (Bd+1) 0] rfl (fun x=>x<=d.sectors.length) (fun x=>d.sectors.length-x) (fun Nx x=>[(0,pd),(2,pt Bd),(3,pt (Bd+1)),(4,iv (x:Nat))]) (fun Nx x=>[(Bd,⟨[sn,sn],true⟩),(Bd+1,⟨[sv Nx 1 (d.sectors.take x).length ((d.sectors.take x).length+1),sn],true⟩),(Nx,⟨qO (d.sectors.take x),true⟩)]) 0 (xT _) (fun Nx hNx=>(canf Yd)) ?_
 intro Nx x hNx hIx hbx Fx hFx
 simp only[mem_cons,jC]at hbx ⊢
 refine cv (by kernel_rfl) ?_
 by_cases hlt:x<d.sectors.length
 ·have e1:d.sectors[x]? =some (d.sectors[x]'hlt):=xA hlt
  have hst:d.sectors.take (x+1)=d.sectors.take x++[d.sectors[x]'hlt]:=xP hlt
  have hk2:(d.sectors[x]'hlt).length<=1000000:=by have:=h2.sec _ (xH hlt);omega
  have hlx:(d.sectors.take x).length=x:=by rw[xQ];omega
  generalize hE:(d.sectors[x]'hlt)=E at*
  refine RA (cj5 Zd e1 hE hlt hk2) ?_
  refine⟨by have:=h2.len;omega,by have:=h2.len;omega,?_⟩
  refine hFx (x+1) _ _ _ ?_ ?_ (by simp only[go_sem,push_cast,qB,qA]) ((canf (cj3 Yd hst hlx)))
  ·show d.sectors.length-(x+1)<d.sectors.length-x
   omega
  ·exact hlt
 obtain rfl:x=d.sectors.length:=by omega
 have et:List.take d.sectors.length d.sectors=d.sectors:=wH
 refine R (cj3 Zd hlt et) ?_
 refine cv (by kernel_rfl) ?_
 refine R (cj Zd et) ?_
 refine yM (X:=Nat) hb (by omega) 1 [.m (Bd+1) 1] rfl (fun y=>y<=d.pending.length) (fun y=>d.pending.length-y) (fun Ny y=>[(0,pd),(2,pt Bd),(3,pt (Bd+1)),(5,iv (y:Nat))]) (fun Ny y=>[(Bd,⟨[sn,sn],true⟩),(Bd+1,⟨[lst d.sectors,sv Ny 2 (d.pending.take y).length ((d.pending.take y).length+1)],true⟩),(Ny,⟨qO (d.pending.take y),true⟩)]) 0 (xT _) (fun Ny hNy=>(canf Yd)) ?_
 intro Ny y hNy hIy hby Fy hFy
 simp only[mem_cons,jC]at hby ⊢
 refine cv (by kernel_rfl) ?_
 by_cases hlt2:y<d.pending.length
 ·have e1:d.pending[y]? =some (d.pending[y]'hlt2):=xA hlt2
  have hst:d.pending.take (y+1)=d.pending.take y++[d.pending[y]'hlt2]:=xP hlt2
  have hk2:(d.pending[y]'hlt2).bytes.length<=1000000:=by have:=(h2.put _ (xH hlt2)).2;omega
  have hlx:(d.pending.take y).length=y:=by rw[xQ];omega
  generalize hE:(d.pending[y]'hlt2)=E at*
  obtain⟨sector,bytes⟩:=E
  refine RA (cj5 Zd e1 hE hlt2 hk2) ?_
  refine⟨by have:=h2.len;have:=h2.pl;omega,by have:=h2.len;have:=h2.pl;omega,?_⟩
  refine hFy (y+1) _ _ _ ?_ ?_ (by simp only[go_sem,push_cast,qB,qA]) ((canf (cj4 Yd hst hlx enc_GPut)))
  ·show d.pending.length-(y+1)<d.pending.length-y
   omega
  ·exact hlt2
 obtain rfl:y=d.pending.length:=by omega
 have et2:List.take d.pending.length d.pending=d.pending:=wH
 refine R (cj Zd et2) ?_
 refine cv (by kernel_rfl) ?_
 refine R (cj Zd et2) ?_
 exact qV (by simp (disch:=first|assumption|omega) only[go_sem,push_cast,qB,qA]) (hb.fresh _ (by omega)) rfl (by first|rfl|exact(yS _).symm|simp|omega)
def W87:qH:=fun g' H Bd K=>∃(xs:List Int),g'=[lst xs]/\((xs.length<=1000000)/\K (lst xs) H Bd)
@[go_sem ↓] theorem W87_eq (a:List Int):W87 [lst a] H Bd K=((a.length<=1000000)/\K (lst a) H Bd):=ex1 a rfl
theorem W87_ok:OK 87 W87:=by
 rintro _ H Bd K ⟨xs,rfl,hpre,hK⟩
 refine fnp pok uA [] hK func87 ntmps87 call87 [.tmp 2] fun hb ha=>?_
 refine RA hpre ?_
 exact qV (by simp (disch:=first|assumption|omega) only[go_sem,push_cast,qB,qA]) (hb.fresh _ (by omega)) rfl (by first|rfl|exact(yS _).symm|simp|omega)
@[go_sem ↓] def BV53 (d:GDisk) (st:GL18State):Tq:=fun H Bd K=>((sm d/\DiskOK d/\st.kept.length<=1000000)/\K (.agg (enc ((⟨d,st.kept,[]⟩:GDraft))).toArray) H Bd)
def V53:qH:=fun g' H Bd K=>∃(d:GDisk) (st:GL18State),g'=[.agg (enc d).toArray, .agg (enc st).toArray]/\BV53 d st H Bd K
@[go_sem ↓] theorem V53_eq (a:List (List UInt8)) (b:List GPut) (c d e f g h:Int) (i:Bool) (j:List UInt8) (k:List GSymbol) (l m:List Int) (n o:List GEquation) (p:List Int) (q r:List GEquation):V53 [.agg #[lst a,lst b], .agg #[iv c,iv d,iv e,iv f,iv g,iv h, .bool i,lst j,lst k,lst l,lst m,lst n,lst o,lst p,lst q,lst r]] H Bd K=BV53 (GDisk.mk a b) (GL18State.mk (GSuper.mk c d e f g h i j (GSignature.mk k)) l (GTheory.mk m n o) (GTheory.mk p q r)) H Bd K:=ex2 (GDisk.mk a b) (GL18State.mk (GSuper.mk c d e f g h i j (GSignature.mk k)) l (GTheory.mk m n o) (GTheory.mk p q r)) rfl
def W53:qH:=fun g' H Bd K=>∃(pd pst:Value),g'=[pd,pst]/\Yld (qI H 2 pd) fun cd=>Yld (qI H 16 pst) fun cst=>qQ V53 [.agg cd.toArray, .agg cst.toArray] H Bd K
@[go_sem ↓] theorem W53_eq (a b:Value):W53 [a,b] H Bd K=(Yld (qI H 2 a) fun cd=>Yld (qI H 16 b) fun cst=>qQ V53 (idS [.agg cd.toArray, .agg cst.toArray]) H Bd K):=px2 a b
theorem W53_ok:OK 53 W53:=by
 rintro _ H Bd K ⟨pd,pst,rfl,cd,ed,cst,est,h⟩
 obtain⟨d,st,e,hpre,hK⟩:=h
 simp only[xG,and_true]at e
 obtain⟨Ed,Est⟩:=e
 obtain rfl:=qR Ed
 obtain rfl:=qR Est
 refine fnp pok ((uA.uB W86_ok).uB W87_ok) [(1,[0,2,3,4,5,1,6,7,8],[z0 0,z0 2,z0 3,z0 4,z0 5,⟨1,[],[5]⟩,z0 6,z0 7,z0 8], .nil)] hK func53 ntmps53 call53 [.cell 4 99] fun hb ha=>?_
 have Pd:=qM ed (NB.vpok (ha pd (by simp)))
 simp only[jR]at Pd
 have Zd:=Pd.all 2 rfl
 have Yd:=jE (ha pd (by simp))
 have Pst:=qM est (NB.vpok (ha pst (by simp)))
 simp only[jR,enc_GL18State,qN,vQ,enc_GTheory]at Pst
 have Zst:=Pst.all 16 rfl
 have Yst:=jE (ha pst (by simp))
 obtain⟨h1,h2,h3⟩:=hpre
 exact R (cj5 Zd Zst h1 h2 h3) trivial
@[go_sem ↓] def BV88 (g:GDraft):Tq:=fun H Bd K=>((g.disk.pending=[])/\K (sv Bd 3 ([(⟨2,⟨0,[]⟩⟩:GAct)]).length (([(⟨2,⟨0,[]⟩⟩:GAct)]).length+1)) (oput H Bd (OEnc.oc ([(⟨2,⟨0,[]⟩⟩:GAct)]))) (Bd+OV.numL (OEnc.oc ([(⟨2,⟨0,[]⟩⟩:GAct)]))))
def V88:qH:=fun g' H Bd K=>∃(g:GDraft),g'=[.agg (enc g).toArray]/\BV88 g H Bd K
@[go_sem ↓] theorem V88_eq (a:List (List UInt8)) (b:List GPut) (c d:List Int):V88 [.agg #[lst a,lst b,lst c,lst d]] H Bd K=BV88 (GDraft.mk (GDisk.mk a b) c d) H Bd K:=ex1 (GDraft.mk (GDisk.mk a b) c d) rfl
def U88:qH:=fun g' H Bd K=>∃(pg:Value),g'=[pg]/\Yld (qI H 4 pg) fun cg=>qQ V88 [.agg cg.toArray] H Bd K
@[go_sem ↓] theorem U88_eq (a:Value):U88 [a] H Bd K=(Yld (qI H 4 a) fun cg=>qQ V88 (idS [.agg cg.toArray]) H Bd K):=px1 a
theorem U88_ok:OK 88 U88:=by
 rintro _ H Bd K ⟨pg,rfl,cg,eg,h⟩
 obtain⟨g,e,hpre,hK⟩:=h
 simp only[xG,and_true]at e
 have Eg:=e
 obtain rfl:=qR Eg
 refine fn_ownN pok (uA.uB W129_ok) [(6,[0,1,2,3,4,5,6,7,8,9,10],[z0 0,z0 1,z0 2,z0 3,z0 4,⟨5,[],[2]⟩,z0 6,z0 7,z0 8,⟨9,[8],[]⟩,z0 10], .nil)] (.one (ols ([(⟨2,⟨0,[]⟩⟩:GAct)]))) (⟨ols_ok _,trivial⟩) hK func88 rfl (rs:=[.tmp 2]) rfl ntmps88 (by simp) call88 (by kernel_rfl) (fun hb ha=>?_)
 clear hK
 have Pg:=qM eg (NB.vpok (ha pg (by simp)))
 simp only[jR,enc_GDraft]at Pg
 have Zg:=Pg.all 4 rfl
 have Yg:=jE (ha pg (by simp))
 refine jF pok fun cv=>?_
 have h0:g.disk.pending.length=0:=by rw[hpre];rfl
 refine R Zg ?_
 refine yM (X:=Nat) hb (by omega) 1 [.s 3] rfl (fun x=>x=0) (fun x=>0) (fun Nx x=>[(0,pg),(3,sv Nx 3 0 1),(4,iv 0)]) (fun Nx x=>[(Nx,⟨[],true⟩)]) 0 (rfl) (fun Nx hNx=>(canf Yg)) ?_
 intro Nx x hNx hIx hbx Fx hFx
 simp only[mem_cons,jC]at hbx ⊢
 refine cv (by kernel_rfl) ?_
 refine R (cj Zg h0) ?_
 refine cv (by kernel_rfl) ?_
 refine RA (cj Zg h0) ?_
 exact own_act0 (by omega) (qJ _ _ _) (by simp (disch:=omega) only[go_sem,push_cast,qB,qA,qL hb,qU])
@[go_sem ↓] def BV54 (g:GDraft) (p:GSuper):Tq:=fun H Bd K=>((g.disk.pending=[]/\sm p/\SuperOK p)/\K (lst (actsD (Int.tmod p.gen 2) (kW p))) H Bd)
def V54:qH:=fun g' H Bd K=>∃(g:GDraft) (p:GSuper),g'=[.agg (enc g).toArray, .agg (enc p).toArray]/\BV54 g p H Bd K
@[go_sem ↓] theorem V54_eq (a:List (List UInt8)) (b:List GPut) (c d:List Int) (e f g h i j:Int) (k:Bool) (l:List UInt8) (m:List GSymbol):V54 [.agg #[lst a,lst b,lst c,lst d], .agg #[iv e,iv f,iv g,iv h,iv i,iv j, .bool k,lst l,lst m]] H Bd K=BV54 (GDraft.mk (GDisk.mk a b) c d) (GSuper.mk e f g h i j k l (GSignature.mk m)) H Bd K:=ex2 (GDraft.mk (GDisk.mk a b) c d) (GSuper.mk e f g h i j k l (GSignature.mk m)) rfl
def W54:qH:=fun g' H Bd K=>∃(pg pp:Value),g'=[pg,pp]/\Yld (qI H 4 pg) fun cg=>Yld (qI H 9 pp) fun cp=>qQ V54 [.agg cg.toArray, .agg cp.toArray] H Bd K
@[go_sem ↓] theorem W54_eq (a b:Value):W54 [a,b] H Bd K=(Yld (qI H 4 a) fun cg=>Yld (qI H 9 b) fun cp=>qQ V54 (idS [.agg cg.toArray, .agg cp.toArray]) H Bd K):=px2 a b
theorem W54_ok:OK 54 W54:=by
 rintro _ H Bd K ⟨pg,pp,rfl,cg,eg,cp,ep,h⟩
 obtain⟨g,p,e,hpre,hK⟩:=h
 simp only[xG,and_true]at e
 obtain⟨Eg,Ep⟩:=e
 obtain rfl:=qR Eg
 obtain rfl:=qR Ep
 refine fnp pok ((uA.uB U88_ok).uB W89_ok) [(2,[0,1,2,3,4,5,6,7,8,9,10,11,12],[z0 0,z0 1,z0 2,z0 3,z0 4,z0 5,z0 6,⟨7,[],[4]⟩,z0 8,z0 9,z0 10,⟨11,[10],[]⟩,z0 12], .nil)] hK func54 ntmps54 call54 [.tmp 4] fun hb ha=>?_
 have Pg:=qM eg (NB.vpok (ha pg (by simp)))
 simp only[jR,enc_GDraft]at Pg
 have Zg:=Pg.all 4 rfl
 have Yg:=jE (ha pg (by simp))
 have Pp:=qM ep (NB.vpok (ha pp (by simp)))
 simp only[jR,enc_GDraft,qN,vQ]at Pp
 have Zp:=Pp.all 9 rfl
 have Yp:=jE (ha pp (by simp))
 obtain⟨h0,h1,hS⟩:=hpre
 simp (maxSteps:=2000000) (disch:=first|exact dq|fail) only[go_sem,push_cast,qB,qA,qL hb,qE hb,Zg,Zp,h0,h1,hS,oput_act0,num_act0,zB,yK,HB.no hb]
 refine pub_cells (qJ _ _ _) ?_ (hb.fresh _ (by omega)) rfl rfl
 show PubC _ _ _ [iv 2,iv 0,lst ([]:List UInt8),iv 1,iv (Int.tmod p.gen 2),lst (kW p),iv 2,iv 0,lst ([]:List UInt8)]
 exact⟨.same _, .same _, .empty, .same _, .same _, .same _, .same _, .same _, .empty,trivial⟩
def T54:qH:=ToC W54
theorem T54_ok:OK 54 T54:=ToC_ok W54_ok
@[go_sem ↓] def BV26 (d:GDisk) (st:GL18State) (p:GSuper):Tq:=fun H Bd K=>((sm d/\DiskOK d/\d.pending=[]/\st.kept.length<=1000000/\sm p/\SuperOK (nextS p)/\R64 (p.gen+1))/\K (.agg (enc ((⟨0,actsD (Int.tmod (p.gen+1) 2) (kW (nextS p))⟩:GActsResult))).toArray) H Bd)
def V26:qH:=fun g' H Bd K=>∃(d:GDisk) (st:GL18State) (p:GSuper),g'=[.agg (enc d).toArray, .agg (enc st).toArray, .agg (enc p).toArray]/\BV26 d st p H Bd K
@[go_sem ↓] theorem V26_eq (a:List (List UInt8)) (b:List GPut) (c d e f g h:Int) (i:Bool) (j:List UInt8) (k:List GSymbol) (l m:List Int) (n o:List GEquation) (p:List Int) (q r:List GEquation) (s t u v w x:Int) (y:Bool) (z:List UInt8) (a0:List GSymbol):V26 [.agg #[lst a,lst b], .agg #[iv c,iv d,iv e,iv f,iv g,iv h, .bool i,lst j,lst k,lst l,lst m,lst n,lst o,lst p,lst q,lst r], .agg #[iv s,iv t,iv u,iv v,iv w,iv x, .bool y,lst z,lst a0]] H Bd K=BV26 (GDisk.mk a b) (GL18State.mk (GSuper.mk c d e f g h i j (GSignature.mk k)) l (GTheory.mk m n o) (GTheory.mk p q r)) (GSuper.mk s t u v w x y z (GSignature.mk a0)) H Bd K:=ex3 (GDisk.mk a b) (GL18State.mk (GSuper.mk c d e f g h i j (GSignature.mk k)) l (GTheory.mk m n o) (GTheory.mk p q r)) (GSuper.mk s t u v w x y z (GSignature.mk a0)) rfl
def W26:qH:=fun g' H Bd K=>∃(pd pst vp:Value),g'=[pd,pst,vp]/\Yld (qI H 2 pd) fun cd=>Yld (qI H 16 pst) fun cst=>qQ V26 [.agg cd.toArray, .agg cst.toArray,vp] H Bd K
@[go_sem ↓] theorem W26_eq (a b c:Value):W26 [a,b,c] H Bd K=(Yld (qI H 2 a) fun cd=>Yld (qI H 16 b) fun cst=>qQ V26 (idS [.agg cd.toArray, .agg cst.toArray,c]) H Bd K):=px3 a b c
theorem W26_ok:OK 26 W26:=by
 rintro _ H Bd K ⟨pd,pst,vp,rfl,cd,ed,cst,est,h⟩
 obtain⟨d,st,p,e,hpre,hK⟩:=h
 simp only[xG,and_true]at e
 obtain⟨Ed,Est,rfl⟩:=e
 obtain rfl:=qR Ed
 obtain rfl:=qR Est
 refine fnp pok ((uA.uB W53_ok).uB T54_ok) [] hK func26 ntmps26 call26 [.cell 6 29] fun hb ha=>?_
 have Pd:=qM ed (NB.vpok (ha pd (by simp)))
 simp only[jR]at Pd
 have Zd:=Pd.all 2 rfl
 have Yd:=jE (ha pd (by simp))
 have Pst:=qM est (NB.vpok (ha pst (by simp)))
 simp only[jR,enc_GL18State,qN,vQ,enc_GTheory]at Pst
 have Zst:=Pst.all 16 rfl
 have Yst:=jE (ha pst (by simp))
 obtain⟨h1,h2,h3,h4,h5,h6,h7⟩:=hpre
 have h3t:=eq_true h3
 clear h3
 have h8:sm (nextS p):=nextS_sm h5
 unfold nextS at h6 h8 ⊢
 obtain⟨h71,h72⟩:=h7
 refine R (cj7 Zd Zst h1 h2 h4 h71 h72) ?_
 refine toC (args':=[pt (Bd+2),pt Bd]) hb (by omega) 0 [] rfl [(Bd,⟨[iv (p.gen+1),iv p.root,iv 0,iv p.theory,iv 0,iv p.version, .bool false,lst ([]:List UInt8),lst p.symbols.symbols],true⟩),(Bd+1,⟨[iv 0,sn],true⟩),(Bd+2,⟨[lst d.sectors,lst d.pending,lst st.kept,lst ([]:List Int)],true⟩)] (canf (cj Yd Yst)) ?_
 simp only[mem_cons,jC]
 simp (maxSteps:=2000000) (disch:=first|exact dq|fail) only[go_sem,push_cast,qB,qA,qL hb,qE hb,Zd,Zst,h1,h2,h3t,h4,h6,h8]
def W133:qH:=fun g' H Bd K=>∃(n:Int) (low:Int) (high:Int),g'=[iv n,iv low,iv high]/\(K (.bool (decide (low<=n/\n<=high))) H Bd)
@[go_sem ↓] theorem W133_eq (a b c:Int):W133 [iv a,iv b,iv c] H Bd K=(K (.bool (decide (b<=a/\a<=c))) H Bd):=ex3 a b c rfl
theorem W133_ok:OK 133 W133:=by
 rintro _ H Bd K ⟨n,low,high,rfl,hK⟩
 refine fnp pok uA [(1,[],[],(.k 4 (.grp true 10 13 3 [11,12,13] 14 none (.k 3 .nil) (.k 1 .nil))))] hK func133 ntmps133 call133 [.tmp 6] fun hb ha=>?_
 simp (maxSteps:=2000000) (disch:=first|exact dq|fail) only[go_sem,push_cast,qB,qA,qL hb,qE hb]
 all_goals first|done|trivial|((try simp only[Cnp,Imp]);grind)
theorem G180(g:Nat)(caps:Array Value)(p:List UInt8->Bool)(xs:List (List UInt8))(H:AH)(Bd:Nat)(K:Value->AH->Nat->Prop)(hsm:sm xs)(hg:∀x∈xs,∀B,Bd<=B->∀K':Value->AH->Nat->Prop,K' (.bool (p x)) H B->SCalls Tryz.prog g (idS ((lst (x))::caps.toList)) H B K')(hK:K (iv (fidx p xs)) H Bd):SCalls Tryz.prog 180 [lst xs, .func (.func g) #[] caps] H Bd K:=by
 refine yF pok uA [] _ hK func180 rfl (rs:=[.tmp 4]) rfl ntmps180 (by simp) call180 (by kernel_rfl) (fun ha hb=> .int _ _) (fun hb ha=>?_)
 refine jF pok fun cv=>?_
 have hlen:=qS hsm
 refine R0 ?_
 refine jA (fun i=>∀j,j<i->∀x,xs[j]? =some x->p x=false) (xs.length) (fun i=>[(0,lst xs),(1, .func (.func g) #[] caps),(7,iv xs.length),(8,iv i)]) (by simp) (by simp only[go_sem,push_cast,qB,qA]) ?_
 intro i Bi hIi hii hBi
 refine cv (by kernel_rfl) ?_
 rcases xM i (xs.length)with hlti|hgei
 ·have e1:xs[i]? =some xs[i]:=xA hlti
  refine R e1 ?_
  refine hg _ (xH hlti) _ (by omega) _ ?_
  refine R e1 ?_
  exact⟨fun h=>by rw[zC hlti hIi h],fun h=>fun j hj x hx=>by
   by_cases e:j=i
   ·subst e;rw[e1]at hx;cases hx;simpa using h
   ·exact hIi j (by omega) x hx⟩
 ·refine R0 ?_
  refine cv (by kernel_rfl) ?_
  refine R0 ?_
  rw[vY fun j hj x hx=>hIi j (by omega) x hx]
theorem G134(g:Nat)(caps:Array Value)(p:List UInt8->Bool)(xs:List (List UInt8))(H:AH)(Bd:Nat)(K:Value->AH->Nat->Prop)(hsm:sm xs)(hg:∀x∈xs,∀B,Bd<=B->∀K':Value->AH->Nat->Prop,K' (.bool (p x)) H B->SCalls Tryz.prog g (idS ((lst (x))::caps.toList)) H B K')(hK:K (.bool (xs.any p)) H Bd):SCalls Tryz.prog 134 [lst xs, .func (.func g) #[] caps] H Bd K:=by
 refine yF pok uA [] _ hK func134 rfl (rs:=[.tmp 4]) rfl ntmps134 (by simp) call134 (by kernel_rfl) (fun ha hb=> .bool _) (fun hb ha=>?_)
 refine R0 ?_
 refine G180 _ _ p xs _ _ _ hsm hg ?_
 refine R0 ?_
 exact fidx_ge p xs
def W135:qH:=fun g' H Bd K=>∃(x:List UInt8),g'=[lst x]/\((sm x)/\K (.bool (decide (x.length≠96))) H Bd)
theorem W135_ok:OK 135 W135:=by
 rintro _ H Bd K ⟨x,rfl,hpre,hK⟩
 refine fnp pok uA [] hK func135 ntmps135 call135 [.tmp 2] fun hb ha=>?_
 have hlen:=qS hpre
 refine R0 ?_
 all_goals first|done|trivial|((try simp only[Cnp,Imp]);grind)
def V134_135:qH:=fun g' H Bd K=>∃(xs:List (List UInt8)),g'=[lst xs]/\((sm xs/\∀x∈xs,sm x)/\K (.bool (xs.any (fun x:List UInt8=>decide (x.length≠96)))) H Bd)
@[go_sem ↓] theorem V134_135_eq (a:List (List UInt8)):V134_135 [lst a] H Bd K=((sm a/\∀x∈a,sm x)/\K (.bool (a.any (fun x:List UInt8=>decide (x.length≠96)))) H Bd):=ex1 a rfl
def W134_135:qH:=fun g' H Bd K=>∃(vxs:Value),g'=[vxs, .func (.func 135) #[] #[]]/\qQ V134_135 [vxs] H Bd K
@[go_sem ↓] theorem W134_135_eq (a:Value):W134_135 [a, .func (.func 135) #[] #[]] H Bd K=(qQ V134_135 (idS [a]) H Bd K):=by
 refine propext ⟨fun h=>?_,fun h=>⟨_,rfl,h⟩⟩
 obtain⟨vxs',e,h⟩:=h
 simp only[xG,Value.func.injEq,jD,xG,and_true,true_and]at e
 obtain rfl:=e
 exact h
theorem W134_135_ok:OK 134 W134_135:=by
 rintro _ H Bd K ⟨vxs,rfl,h⟩
 obtain⟨xs,e,hpre,hK⟩:=h
 simp only[xG,and_true]at e
 obtain rfl:=e
 refine G134 135 #[] (fun x:List UInt8=>decide (x.length≠96)) xs H Bd K hpre.1 (fun x hx B hB K' hk=>?_) hK
 exact W135_ok _ _ _ _ ⟨x,rfl,hpre.2 x hx,hk⟩
def W103:qH:=fun g' H Bd K=>∃(d:GDisk) (n:Int),g'=[.agg (enc d).toArray,iv n]/\((sm d)/\K (.bool (decide (0<=n/\n<=(d.sectors.length:Int)-1))) H Bd)
@[go_sem ↓] theorem W103_eq (a:List (List UInt8)) (b:List GPut) (c:Int):W103 [.agg #[lst a,lst b],iv c] H Bd K=((sm (GDisk.mk a b))/\K (.bool (decide (0<=c/\c<=((GDisk.mk a b).sectors.length:Int)-1))) H Bd):=ex2 (GDisk.mk a b) c rfl
theorem W103_ok:OK 103 W103:=by
 rintro _ H Bd K ⟨d,n,rfl,hpre,hK⟩
 refine fnp pok (uA.uB W133_ok) [] hK func103 ntmps103 call103 [.tmp 4] fun hb ha=>?_
 have h1:=hpre
 simp only[sm_GDisk]at h1
 have hlen:=qS h1.1
 refine R0 ?_
 all_goals first|done|trivial|((try simp only[Cnp,Imp]);grind)
end Go.Proofs.YtogofkjpbpgneaaGreatDoor
