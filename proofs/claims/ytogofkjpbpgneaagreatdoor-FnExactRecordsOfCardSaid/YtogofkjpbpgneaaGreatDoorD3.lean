/- YtogofkjpbpgneaaGreatDoorD3 -/
import Derived.Test.YtogofkjpbpgneaaGreatDoorD2
set_option linter.unusedSimpArgs false
set_option linter.unusedVariables false
set_option maxRecDepth 20000
set_option maxHeartbeats 2000000
namespace Go.Proofs.YtogofkjpbpgneaaGreatDoor
open Go Go.SC Tryz
variable {H:AH} {Bd:Nat} {K:Value->AH->Nat->Prop}
def W218:qH:=fun args H Bd K=>∃(t:List Int) (n:Int),args=[lst t, .int .i64 n]/\((sm t)/\K (.int .i64 ((t.count n:Int))) H Bd)
@[go_sem ↓] theorem W218_eq (a:List Int) (b:Int):W218 [lst a, .int .i64 b] H Bd K=((sm a)/\K (.int .i64 ((a.count b:Int))) H Bd):=ex2 a b rfl
theorem W218_ok:OK 218 W218:=by
 rintro args H Bd K ⟨t,n,rfl,hpre,hK⟩
 refine fnp pok (Env.base _) [] hK func218 ntmps218 call218 [.tmp 4] fun hb ha=> ?_
 refine jD pok fun cv=> ?_
 have hlt2:=qR hpre
 refine R0 ?_
 refine qY (fun i=>True) (t.length) (fun i=>[(0,lst t),(1, .int .i64 n),(5, .int .i64 ((t.take i).count n:Nat)),(6, .int .i64 i)]) (trivial) (by simp only[go_sem,push_cast,qB,qA,List.take_zero,List.count_nil]) ?_
 intro i Bi hIi hii hBi
 refine cv (by kernel_rfl) ?_
 rcases xM i (t.length)with hlti|hgei
 ·have e1:t[i]? =some t[i]:=xA hlti
  have hst:(t.take (i+1)).count n=(t.take i).count n+if t[i]=n then 1 else 0:=by
   rw[xP hlti,List.count_append,List.count_singleton]
   simp
  have hle:(t.take i).count n<=i:=by have:=List.count_le_length (a:=n) (l:=t.take i);rw[xQ]at this;omega
  refine R e1 ?_
  refine⟨fun h=> ?_,fun h=> ?_⟩
  ·rw[if_pos h]at hst;rw[hst];omega
  ·rw[if_neg h]at hst;rw[hst];rfl
 ·refine R0 ?_
  refine cv (by kernel_rfl) ?_
  refine R0 ?_
  rw[xO hgei]
def V178:qH:=fun args H Bd K=>∃(s:GSignature) (l:List GEquation),args=[.agg (enc s).toArray,lst l]/\((sm s/\sm l/\rg l/\yS s=0)/\K (.int .i64 (vP s l)) H Bd)
@[go_sem ↓] theorem V178_eq (a:List GSymbol) (b:List GEquation):V178 [.agg #[lst a],lst b] H Bd K=((sm (GSignature.mk a)/\sm b/\rg b/\yS (GSignature.mk a)=0)/\K (.int .i64 (vP (GSignature.mk a) b)) H Bd):=ex2 (GSignature.mk a) b rfl
def W178:qH:=fun args H Bd K=>∃(ps vl:Value),args=[ps,vl]/\Yld (qI H 1 ps) fun cs=>qP V178 [.agg cs.toArray,vl] H Bd K
@[go_sem ↓] theorem W178_eq (a b:Value):W178 [a,b] H Bd K=(Yld (qI H 1 a) fun cs=>qP V178 (idS [.agg cs.toArray,b]) H Bd K):=px2 a b
theorem W178_ok:OK 178 W178:=by
 rintro args H Bd K ⟨ps,vl,rfl,cs,es,h⟩
 obtain⟨s,l,e,hpre,hK⟩:=h
 simp only[xG,and_true]at e
 obtain⟨Es,rfl⟩:=e
 obtain rfl:=qX Es
 refine fnp pok (((Env.base _).add 177 _ W177_ok).add 218 _ W218_ok) [(13,[],[],(.k 3 (.grp true 49 57 8 [50,51,52,53,54,55,56,57] 58 none (.k 8 .nil) .nil)))] hK func178 ntmps178 call178 [.tmp 4] fun hb ha=> ?_
 have Ps:=qM es (NB.vpok (ha ps (by simp)))
 simp only[qN]at Ps
 have Zs:=Ps.all 1 rfl
 have Ys:=jJ (ha ps (by simp))
 refine jD pok fun cv=> ?_
 obtain⟨h1,h2,h3,h4⟩:=hpre
 have hlt2:=qR h2
 refine R (cj Zs (cj h1 (cj h2 (cj h3 h4)))) ?_
 refine⟨fun hq=> ?_,fun hq=> ?_⟩
 ·have hv:vP s l=if l.all ruleOK=true then 0 else 1:=by unfold vP;rw[if_neg (by simp[hq])]
  have hall:=(eqsG_zero hq).2
  rw[hv]
  refine qY (fun i=>∀j,j<i->∀y,l[j]? =some y->ruleOK y=true) (l.length) (fun i=>[(0,ps),(1,lst l),(6, .int .i64 i)]) (fun j hj=>absurd hj (Nat.not_lt_zero _)) (by simp only[go_sem,push_cast,qB,qA]) ?_
  intro i Bi hIi hii hBi
  refine cv (by kernel_rfl) ?_
  rcases xM i (l.length)with hlti|hgei
  ·have e1:l[i]? =some l[i]:=xA hlti
   have h5:=yQ h2 (xH hlti)
   simp only[zA]at h5
   have h51:=h5.1
   have hlr:=qR h5.2
   have hok:=zN (hall _ (xH hlti))
   have hl0:=hok.1.len.1
   have e2:l[i].left[0]? =some l[i].left[0]:=xA (by omega)
   have e3:l[i].left.headD 0=l[i].left[0]:=headD_get hl0
   refine R (cj Zs (cj e1 e2)) ?_
   refine⟨fun h=> ?_,fun h=> ?_⟩
   ·rw[if_neg]
    intro hc
    have:=List.all_eq_true.1 hc _ (xH hlti)
    unfold ruleOK at this
    rw[e3]at this
    simp only[Bool.and_eq_true,decide_eq_true_eq]at this
    omega
   ·refine qY (fun j=>∀k,k<j->∀y,l[i].right[k]? =some y->varOK l[i] y=true) (l[i].right.length) (fun j=>[(0,ps),(1,lst l),(6, .int .i64 i),(7, .int .i64 j)]) (fun k hk=>absurd hk (Nat.not_lt_zero _)) (by simp only[go_sem,push_cast,qB,qA]) ?_
    intro j Bj hIj hij hBj
    refine cv (by kernel_rfl) ?_
    rcases xM j (l[i].right.length)with hltj|hgej
    ·have e4:l[i].right[j]? =some l[i].right[j]:=xA hltj
     refine R (cj Zs (cj e1 (cj e4 h51))) ?_
     refine⟨fun a1 a2=> ?_,fun a1 k hk y hy=> ?_⟩
     ·rw[if_neg]
      intro hc
      have h9:=List.all_eq_true.1 hc _ (xH hlti)
      unfold ruleOK at h9
      simp only[Bool.and_eq_true]at h9
      have h10:=List.all_eq_true.1 h9.2 _ (xH hltj)
      unfold varOK at h10
      simp only[decide_eq_true_eq]at h10
      omega
     ·by_cases e:k=j
      ·subst e;rw[e4]at hy;cases hy
       unfold varOK
       rw[decide_eq_true_eq]
       omega
      ·exact hIj k (by omega) y hy
    ·refine R (cj Zs e1) ?_
     intro k hk y hy
     by_cases e:k=i
     ·subst e;rw[e1]at hy;cases hy
      unfold ruleOK
      rw[e3,Bool.and_eq_true,decide_eq_true_eq]
      refine⟨by omega,all_yes fun x hx=> ?_⟩
      obtain⟨m,hm,rfl⟩:=List.getElem_of_mem hx
      exact hIj m (by omega) _ (xA hm)
     ·exact hIi k (by omega) y hy
  ·refine R Zs ?_
   refine cv (by kernel_rfl) ?_
   refine R Zs ?_
   rw[if_pos (all_yes fun x hx=>by
    obtain⟨j,hj,rfl⟩:=List.getElem_of_mem hx
    exact hIi j (by omega) _ (xA hj))]
 ·unfold vP;rw[if_pos hq]
@[go_sem ↓] def BV267 (s:GSignature) (t:List Int) (a:Int):Tq:=fun H Bd K=>((sm s/\sm t/\yS s=0/\nodes s t/\0<=a/\a<t.length/\0<=ep s t 1 a.toNat/\0<=t.getD a.toNat 0)/\K (lst (argsP s t a.toNat (arN s (t.getD a.toNat 0)))) H Bd)
def V267:qH:=fun args H Bd K=>∃(s:GSignature) (t:List Int) (a:Int),args=[.agg (enc s).toArray,lst t, .int .i64 a]/\BV267 s t a H Bd K
@[go_sem ↓] theorem V267_eq (a:List GSymbol) (b:List Int) (c:Int):V267 [.agg #[lst a],lst b, .int .i64 c] H Bd K=BV267 (GSignature.mk a) b c H Bd K:=ex3 (GSignature.mk a) b c rfl
def W267:qH:=fun args H Bd K=>∃(ps vt va:Value),args=[ps,vt,va]/\Yld (qI H 1 ps) fun cs=>qP V267 [.agg cs.toArray,vt,va] H Bd K
@[go_sem ↓] theorem W267_eq (a b c:Value):W267 [a,b,c] H Bd K=(Yld (qI H 1 a) fun cs=>qP V267 (idS [.agg cs.toArray,b,c]) H Bd K):=px3 a b c
theorem W267_ok:OK 267 W267:=by
 rintro args H Bd K ⟨ps,vt,va,rfl,cs,es,h⟩
 obtain⟨s,t,a,e,hpre,hK⟩:=h
 simp only[xG,and_true]at e
 obtain⟨Es,rfl,rfl⟩:=e
 obtain rfl:=qX Es
 refine fnp pok ((Env.base _).add 206 _ W206_ok) [(4,[0,1,2,3,4,5,6,7,8,9,10,11,12],[z0 0,z0 1,z0 2,z0 3,z0 4,z0 5,z0 6,z0 7,z0 8,z0 9,z0 10,z0 11,z0 12], .nil)] hK func267 ntmps267 call267 [.tmp 6] fun hb ha=> ?_
 have Ps:=qM es (NB.vpok (ha ps (by simp)))
 simp only[qN]at Ps
 have Zs:=Ps.all 1 rfl
 have Ys:=jJ (ha ps (by simp))
 refine jD pok fun cv=> ?_
 obtain⟨h1,h2,h3,h4,h5,h6,h8,h9⟩:=hpre
 have hss:sm s:=h1
 have hlt2:=qR h2
 have hs:=yO h3
 obtain⟨a,rfl⟩:=Int.eq_ofNat_of_zero_le h5
 simp only[Int.toNat_natCast]at h8 h9
 have hlt:a<t.length:=by omega
 have e1:t[a]? =some t[a]:=xA hlt
 have e3:t.getD a 0=t[a]:=by rw[xF,e1];rfl
 rw[e3]at h9
 have hn:=h4 _ (xH hlt)
 have e4:t[a].toNat<s.symbols.length:=by omega
 have e2:s.symbols[t[a].toNat]? =some s.symbols[t[a].toNat]:=xA e4
 have ha:=hs.nm _ (xH e4)
 have har:=arN_sym (s:=s) h9 e2
 rw[ep_node 0 e1,Nat.zero_add,har]at h8
 have e5:argsP s t a (arN s (t.getD a 0))=argsP s t a s.symbols[t[a].toNat].arity.toNat:=by rw[e3,har]
 refine R (cj Zs e5) ?_
 refine tr_acc (α:=Int) (H0:=H) (B0:=Bd) (n0:=Bd) (s.symbols[t[a].toNat].arity.toNat) (fun i=>argsP s t a i) (fun i out=>[(0,ps),(1,lst t),(2, .int .i64 a),(7,out),(8, .int .i64 (ep s t i (a+1))),(9, .int .i64 i)]) (xC 1) ⟨by omega,by omega⟩ (by simp only[go_sem,push_cast,qB,qA,argsP_zero,ep_zero (show a+1<=t.length by omega)]) (by simp (disch:=first|assumption|omega) only[go_sem,push_cast,qB,qA,jA,argsP_zero,ep_zero (show a+1<=t.length by omega)]) ?_
 intro i ni ci Bi hii hci hni hmi hBi hbi
 refine cv (by kernel_rfl) ?_
 have hzi:(ci=0)=False:=eq_false (by omega)
 rcases xM i (s.symbols[t[a].toNat].arity.toNat)with hlti|hgei
 ·obtain⟨m,q1,q2,q3,q4,q5⟩:=arg_at hlt h8 hlti
  have hcv:((a:Int)+1+m).toNat=a+1+m:=by omega
  have hst:=argsP_succ s t a i
  rw[q3]at hst
  have hl3:=argsP_len s t a i
  have hc:(i:Int)<s.symbols[t[a].toNat].arity:=by omega
  simp (maxSteps:=2000000) (disch:=first|exact dq|fail) only[go_sem,push_cast,qB,qA,qK hb,qE hb,Zs,e1,e2,h9,hc,q3,q4,hcv,hss,h2,h3,h4,hzi,hst,qL,qS]
  exact acc_end (by omega) (by omega) (by simp) rfl (by simp (disch:=first|assumption|omega|(simp (disch:=omega) only[qF,qE hb];done)) only[jK,qA,qT,qF,qE hb])
 ·have hc:¬(i:Int)<s.symbols[t[a].toNat].arity:=by omega
  refine R (cj Zs (cj e1 (cj e2 (cj h9 hc)))) ?_
  refine Tr.fin2 7 (by simp (disch:=first|assumption|omega) only[qF,qE hb]) (by simp only[go_sem,push_cast,qB,qA];rfl) rfl ?_
  refine cv (by kernel_rfl) ?_
  rw[<-show i=s.symbols[t[a].toNat].arity.toNat by omega]
  exact R Zs trivial
def W277:qH:=fun args H Bd K=>∃(xs:List Int) (ys:List Int),args=[lst xs,lst ys]/\((sm xs)/\K (.bool (decide (xs=ys))) H Bd)
@[go_sem ↓] theorem W277_eq (a b:List Int):W277 [lst a,lst b] H Bd K=((sm a)/\K (.bool (decide (a=b))) H Bd):=ex2 a b rfl
theorem W277_ok:OK 277 W277:=by
 rintro args H Bd K ⟨xs,ys,rfl,hpre,hK⟩
 refine fnp pok (Env.base _) [(6,[0,1,2,3,4,5,6,7,8],[z0 0,z0 1,z0 2,z0 3,z0 4,z0 5,z0 6,z0 7,z0 8], .nil)] hK func277 ntmps277 call277 [.tmp 4] fun hb ha=> ?_
 refine jD pok fun cv=> ?_
 have hlen:=qR hpre
 simp (maxSteps:=2000000) (disch:=first|exact dq|fail) only[go_sem,push_cast,qB,qA,qK hb,qE hb]
 refine Cnp.of (fun hl=> ?_) (fun hl=>cmp_len (by omega))
 have hl':xs.length=ys.length:=by omega
 refine qY (fun i=>∀j,j<i->xs[j]? =ys[j]?) xs.length (fun i=>[(0,lst xs),(1,lst ys),(5, .int .i64 i)]) (fun j h=>by omega) (by simp only[go_sem,push_cast,qB,qA]) ?_
 intro i B0 hI hi hB
 refine cv (by kernel_rfl) ?_
 rcases xM i xs.length with hlt|hge
 ·have e1:xs[i]? =some xs[i]:=xA hlt
  have e2:ys[i]? =some (ys[i]'(by omega)):=xA _
  have hx:=yQ hpre (xH hlt)
  simp (maxSteps:=2000000) (disch:=first|exact dq|fail) only[go_sem,push_cast,qB,qA,qK hb,qE hb,e1,e2,hx]
  exact cmp_step hl' hI hlt (by omega) rfl fun h=>h
 ·simp (maxSteps:=2000000) (disch:=first|exact dq|fail) only[go_sem,push_cast,qB,qA,qK hb,qE hb]
  refine cv (by kernel_rfl) ?_
  simp (maxSteps:=2000000) (disch:=first|exact dq|fail) only[go_sem,push_cast,qB,qA,qK hb,qE hb]
  exact cmp_end hl' hI hge
@[go_sem ↓] def BV268 (s:GSignature) (t:List Int) (a:Int) (u:List Int) (b:Int):Tq:=fun H Bd K=>((sm s/\sm t/\sm u/\yS s=0/\nodes s t/\nodes s u/\0<=a/\a<=t.length/\0<=b/\b<=u.length/\0<=ep s t 1 a.toNat/\0<=ep s u 1 b.toNat)/\K (.bool (decide (subT s t a.toNat=subT s u b.toNat))) H Bd)
def V268:qH:=fun args H Bd K=>∃(s:GSignature) (t:List Int) (a:Int) (u:List Int) (b:Int),args=[.agg (enc s).toArray,lst t, .int .i64 a,lst u, .int .i64 b]/\BV268 s t a u b H Bd K
@[go_sem ↓] theorem V268_eq (a:List GSymbol) (b:List Int) (c:Int) (d:List Int) (e:Int):V268 [.agg #[lst a],lst b, .int .i64 c,lst d, .int .i64 e] H Bd K=BV268 (GSignature.mk a) b c d e H Bd K:=ex5 (GSignature.mk a) b c d e rfl
def W268:qH:=fun args H Bd K=>∃(ps vt va vu vb:Value),args=[ps,vt,va,vu,vb]/\Yld (qI H 1 ps) fun cs=>qP V268 [.agg cs.toArray,vt,va,vu,vb] H Bd K
@[go_sem ↓] theorem W268_eq (a b c d e:Value):W268 [a,b,c,d,e] H Bd K=(Yld (qI H 1 a) fun cs=>qP V268 (idS [.agg cs.toArray,b,c,d,e]) H Bd K):=px5 a b c d e
theorem W268_ok:OK 268 W268:=by
 rintro args H Bd K ⟨ps,vt,va,vu,vb,rfl,cs,es,h⟩
 obtain⟨s,t,a,u,b,e,hpre,hK⟩:=h
 simp only[xG,and_true]at e
 obtain⟨Es,rfl,rfl,rfl,rfl⟩:=e
 obtain rfl:=qX Es
 refine fnp pok (((Env.base _).add 206 _ W206_ok).add 277 _ W277_ok) [(1,[0,1,2,3,4,7,8,9,10,11,5,6,12,13,14,15],[z0 0,z0 1,z0 2,z0 3,z0 4,z0 7,z0 8,z0 9,z0 10,z0 11,z0 5,z0 6,z0 12,z0 13,z0 14,z0 15], .nil)] hK func268 ntmps268 call268 [.tmp 10] fun hb ha=> ?_
 have Ps:=qM es (NB.vpok (ha ps (by simp)))
 simp only[qN]at Ps
 have Zs:=Ps.all 1 rfl
 have Ys:=jJ (ha ps (by simp))
 obtain⟨h1,h2,h3,h4,h5,h6,h7,h8,h9,h10,h11,h12⟩:=hpre
 obtain⟨a,rfl⟩:=Int.eq_ofNat_of_zero_le h7
 obtain⟨b,rfl⟩:=Int.eq_ofNat_of_zero_le h9
 simp only[Int.toNat_natCast]at h11 h12
 rcases ep_cases (s:=s) (t:=t) 1 (show a<=t.length by omega)with⟨q1,_⟩|⟨m,q1,q2,q3,_⟩
 ·omega
 rcases ep_cases (s:=s) (t:=u) 1 (show b<=u.length by omega)with⟨r1,_⟩|⟨n,r1,r2,r3,_⟩
 ·omega
 have hst:=sm_drop h2 a
 have hsu:=sm_drop h3 b
 refine R (cj Zs (cj h1 (cj h2 (cj h3 (cj h4 (cj h5 (cj h6 (cj q3 r3)))))))) ?_
 have c1:((a:Int)+m).toNat=a+m:=by omega
 have c2:((b:Int)+n).toNat=b+n:=by omega
 have d1:subT s t a=(t.take (a+m)).drop a:=by unfold subT;rw[q3,Int.toNat_natCast,List.drop_take]
 have d2:subT s u b=(u.take (b+n)).drop b:=by unfold subT;rw[r3,Int.toNat_natCast,List.drop_take]
 rw[c1,c2]
 refine⟨sm_drop (sm_take h2 _) _,?_⟩
 simp only[d1,d2]
def W269:qH:=fun args H Bd K=>∃(order:List Int) (n:Int),args=[lst order, .int .i64 n]/\((sm order)/\K (.int .i64 (rk order n)) H Bd)
@[go_sem ↓] theorem W269_eq (a:List Int) (b:Int):W269 [lst a, .int .i64 b] H Bd K=((sm a)/\K (.int .i64 (rk a b)) H Bd):=ex2 a b rfl
theorem W269_ok:OK 269 W269:=by
 rintro args H Bd K ⟨order,n,rfl,hpre,hK⟩
 refine fnp pok (Env.base _) [] hK func269 ntmps269 call269 [.tmp 4] fun hb ha=> ?_
 refine jD pok fun cv=> ?_
 have hlen:=qR hpre
 refine R0 ?_
 refine qY (fun i=>∀j,j<i->∀x,order[j]? =some x->decide (n=x)=false) (order.length) (fun i=>[(0,lst order),(1, .int .i64 n),(5, .int .i64 i)]) (by simp) (by simp only[go_sem,push_cast,qB,qA]) ?_
 intro i Bi hIi hii hBi
 refine cv (by kernel_rfl) ?_
 rcases xM i (order.length)with hlti|hgei
 ·have e1:order[i]? =some order[i]:=xA hlti
  refine R e1 ?_
  unfold rk
  exact⟨fun h=>by rw[zM hlti hIi (by simpa using h.symm)],fun h=>fun j hj x hx=>by
   by_cases e:j=i
   ·subst e;rw[e1]at hx;cases hx;simpa using fun e=>h e.symm
   ·simpa using hIi j (by omega) x hx⟩
 ·refine R0 ?_
  refine cv (by kernel_rfl) ?_
  refine R0 ?_
  unfold rk
  rw[zL fun j hj x hx=>hIi j (by omega) x hx]
def V259:qH:=fun args H Bd K=>∃(s:GSignature) (order:List Int) (a:List Int) (b:List Int) (i:Int) (j:Int) (above:Own),args=[.agg (enc s).toArray,lst order,lst a,lst b, .int .i64 i, .int .i64 j, .slice (some ⟨(above).n,0,some 1⟩) (above).len (above).cap]/\(Yld (H above.n) fun b0=>((sm s/\sm order/\sm a/\sm b/\yS s=0)/\(nodes s a/\nodes s b/\places s a/\places s b)/\(0<=i/\i<a.length/\0<=j/\j<b.length)/\(a.length<=24/\b.length<=24)/\tabOK s order a b i.toNat j.toNat b0.cells/\above.len=a.length*b.length)/\K (.bool (gt s order a b i.toNat j.toNat)) H Bd)
@[go_sem ↓] theorem V259_eq (s_symbols:List GSymbol) (order:List Int) (a:List Int) (b:List Int) (i:Int) (j:Int) (above_n:Nat) (above_l:Nat) (above_c:Nat):V259 [.agg #[lst s_symbols],lst order,lst a,lst b, .int .i64 i, .int .i64 j, .slice (some ⟨above_n,0,some 1⟩) above_l above_c] H Bd K=(Yld (H above_n) fun b0=>((sm (GSignature.mk s_symbols)/\sm order/\sm a/\sm b/\yS (GSignature.mk s_symbols)=0)/\(nodes (GSignature.mk s_symbols) a/\nodes (GSignature.mk s_symbols) b/\places (GSignature.mk s_symbols) a/\places (GSignature.mk s_symbols) b)/\(0<=i/\i<a.length/\0<=j/\j<b.length)/\(a.length<=24/\b.length<=24)/\tabOK (GSignature.mk s_symbols) order a b i.toNat j.toNat b0.cells/\above_l=a.length*b.length)/\K (.bool (gt (GSignature.mk s_symbols) order a b i.toNat j.toNat)) H Bd):=by
 refine propext ⟨fun h=> ?_,fun h=>⟨_,_,_,_,_,_,(Own.mk above_n above_l above_c),rfl,h⟩⟩
 obtain⟨s',order',a',b',i',j',above',e,h⟩:=h
 obtain⟨ssymbols'⟩:=s'
 skip
 skip
 skip
 skip
 skip
 obtain⟨aboven',abovel',abovec'⟩:=above'
 simp only[qN,jN,jP,jF,jH,jC,xG,Value.agg.injEq,jB,xK,Value.bool.injEq,Value.string.injEq,xY,Value.func.injEq,Value.pointer.injEq,xE,Addr.mk.injEq,lst_inj,true_and,and_true]at e
 obtain⟨rfl,rfl,rfl,rfl,rfl,rfl,⟨rfl,rfl,rfl⟩⟩:=e
 exact h
def W259:qH:=fun args H Bd K=>∃(ps vorder va vb vi vj vabove:Value),args=[ps,vorder,va,vb,vi,vj,vabove]/\Yld (qI H 1 ps) fun cs=>qP V259 [.agg cs.toArray,vorder,va,vb,vi,vj,vabove] H Bd K
@[go_sem ↓] theorem W259_eq (a b c d e f g:Value):W259 [a,b,c,d,e,f,g] H Bd K=(Yld (qI H 1 a) fun cs=>qP V259 (idS [.agg cs.toArray,b,c,d,e,f,g]) H Bd K):=by
 refine propext ⟨fun h=> ?_,fun h=>⟨_,_,_,_,_,_,_,rfl,h⟩⟩
 obtain⟨ps',vorder',va',vb',vi',vj',vabove',e,h⟩:=h
 simp only[xG,and_true]at e
 obtain⟨rfl,rfl,rfl,rfl,rfl,rfl,rfl⟩:=e
 exact h
theorem W259_ok:OK 259 W259:=by
 rintro args H Bd K ⟨ps,vorder,va,vb,vi,vj,vabove,rfl,cs,es,h⟩
 obtain⟨s,order,a,b,i,j,above,e,b0,hb0,hpre,hK⟩:=h
 simp only[xG,and_true]at e
 obtain⟨Es,rfl,rfl,rfl,rfl,rfl,rfl⟩:=e
 obtain rfl:=qX Es
 refine fnp pok ((((((Env.base _).add 206 _ W206_ok).add 218 _ W218_ok).add 267 _ W267_ok).add 268 _ W268_ok).add 269 _ W269_ok) [(3,[0,1,2,3,4,5,6,7,8,9,10,13,14,15,16,11,12,17,18,19,20],[z0 0,z0 1,z0 2,z0 3,z0 4,z0 5,z0 6,z0 7,z0 8,z0 9,z0 10,z0 13,z0 14,z0 15,z0 16,⟨11,[],[16]⟩,z0 12,z0 17,z0 18,z0 19,z0 20], .nil),(10,[],[],(.k 12 (.grp false 74 83 9 [75,76,77,78,79,80,81,82,83] 84 none (.k 9 .nil) .nil))),(12,[0,1,2,3,4,6,7,8,9,10,5,11,12],[z0 0,z0 1,z0 2,z0 3,z0 4,z0 6,z0 7,z0 8,z0 9,z0 10,⟨5,[],[10]⟩,z0 11,z0 12], .nil),(20,[0,1,2,3,4,5,6,7,8],[z0 0,z0 1,z0 2,z0 3,z0 4,z0 5,z0 6,z0 7,z0 8], .nil),(23,[],[],(.k 5 (.grp true 133 137 4 [134,135,136,137] 138 none (.k 4 .nil) .nil))),(25,[0,1,2,3,4,5,6,7,8,9,10,11,12],[z0 0,z0 1,z0 2,z0 3,z0 4,z0 5,z0 6,z0 7,z0 8,z0 9,z0 10,z0 11,z0 12], .nil),(26,[0,1,2,3,4,5,6,7,8,9,10,11,12,13,14],[z0 0,z0 1,z0 2,z0 3,z0 4,z0 5,z0 6,z0 7,z0 8,z0 9,z0 10,z0 11,z0 12,z0 13,z0 14], .nil)] hK func259 ntmps259 call259 [.tmp 14] fun hb ha=> ?_
 have Ps:=qM es (NB.vpok (ha ps (by simp)))
 simp only[qN]at Ps
 have Zs:=Ps.all 1 rfl
 have Ys:=jJ (ha ps (by simp))
 refine jD pok fun cv=> ?_
 obtain⟨⟨h1,h2,h3,h4,h5⟩,⟨n1,n2,p1,p2⟩,⟨i1,i2,j1,j2⟩,⟨l1,l2⟩,ht,hl⟩:=hpre
 obtain⟨i,rfl⟩:=Int.eq_ofNat_of_zero_le i1
 obtain⟨j,rfl⟩:=Int.eq_ofNat_of_zero_le j1
 simp only[Int.toNat_natCast]at ht ⊢
 have hs:=yO h5
 have hal:(args s a i).length<=2:=by rw[args_len];exact arN_le hs _
 have hbl:(args s b j).length<=2:=by rw[args_len];exact arN_le hs _
 have hia:i<a.length:=by omega
 have hjb:j<b.length:=by omega
 have ea:a[i]? =some a[i]:=xA hia
 have eb:b[j]? =some b[j]:=xA hjb
 have hpa:=p1 i hia
 have hpb:=p2 j hjb
 by_cases hy:b[j]<0
 ·have hv:=gt_var (order:=order) p1 p2 hia hjb hy
  rcases ep_cases (s:=s) (t:=a) 1 (show i<=a.length by omega)with⟨q1,_⟩|⟨m,q1,q2,q3,_⟩
  ·omega
  have d1:subT s a i=(a.take (i+m)).drop i:=by unfold subT;rw[q3,Int.toNat_natCast,List.drop_take]
  have c1:((i:Int)+m).toNat=i+m:=by omega
  refine R (cj Zs (cj ea (cj eb (cj hy (cj h1 (cj h3 (cj h5 (cj n1 (cj q3 c1))))))))) ?_
  rw[hv,d1,<-count_any]
  exact⟨fun h=>⟨sm_drop (sm_take h3 _) _,by simp[h]⟩,fun h=>by simp[h]⟩
 by_cases hx:a[i]<0
 ·have hv:=gt_low (order:=order) p1 p2 hia hjb hy hx
  exact R (cj Zs (cj ea (cj eb (cj hy (cj hx hv))))) trivial
 ·have hrest:=gt_rest (order:=order) p1 p2 hia hjb hy hx
  have ga:a.getD i 0=a[i]:=getD_at hia
  have gb:b.getD j 0=b[j]:=getD_at hjb
  have ha1:argsP s a i (arN s a[i])=args s a i:=by unfold args;rw[ga]
  have hb1:argsP s b j (arN s b[j])=args s b j:=by unfold args;rw[gb]
  have hx0:0<=a[i]:=by omega
  have hy0:0<=b[j]:=by omega
  refine R (cj Zs (cj ea (cj eb (cj hy (cj hx (cj h1 (cj h3 (cj h5 (cj n1 (cj n2 (cj hpa (cj ga (cj ha1 hx0))))))))))))) ?_
  refine qY (fun x=>∀m,m<x->∀p,(args s a i)[m]? =some p->gt s order a b p.toNat j=false/\subT s a p.toNat≠subT s b j) ((args s a i).length) (fun x=>[(0,ps),(1,lst order),(2,lst a),(3,lst b),(4, .int .i64 i),(5, .int .i64 j),(6, .slice (some ⟨above.n,0,some 1⟩) above.len above.cap),(15, .int .i64 b.length),(16,lst (args s a i)),(17, .int .i64 x)]) (by simp) (by simp only[go_sem,push_cast,qB,qA]) ?_
  intro x Bx hIx hix hBx
  refine cv (by kernel_rfl) ?_
  rcases xM x ((args s a i).length)with hltx|hgex
  ·obtain⟨p,e1,g1,g2⟩:=args_get p1 hia hltx
   have e2:=ht p j g2 hjb (.inl g1)
   have m1:=mul_at g2 hjb
   have m2:=mul_sm l1 l2
   have c3:((p:Int)*b.length+j).toNat=p*b.length+j:=by omega
   refine R (cj Zs (cj e1 (cj e2 (cj hb0 (cj c3 (cj h1 (cj h3 (cj h4 (cj h5 (cj n1 (cj n2 hpb))))))))))) ?_
   refine⟨fun _=>p1 p g2,fun h=> ?_,fun h m hm q hq=> ?_⟩
   ·rw[gt_arg p1 p2 hia hjb hy hx (p:=(p:Int)) (wC e1) (by simpa using h)]
   ·by_cases e:m=x
    ·subst e;rw[e1]at hq;cases hq;simpa using h
    ·exact hIx m (by omega) q hq
  ·have hr:=hrest fun p hp=>by
    obtain⟨m,hm,rfl⟩:=List.getElem_of_mem hp
    exact hIx m (by omega) _ (xA hm)
   refine R Zs ?_
   refine cv (by kernel_rfl) ?_
   refine R (cj Zs (cj ea (cj eb (cj h1 (cj h2 (cj h4 (cj h5 (cj n2 (cj hpb (cj gb (cj hb1 hy0))))))))))) ?_
   refine⟨fun hlt=>by rw[hr,if_pos hlt],fun hge=> ?_⟩
   rw[if_neg hge]at hr
   refine qY (fun y=>∀m,m<y->∀q,(args s b j)[m]? =some q->gt s order a b i q.toNat=true) ((args s b j).length) (fun y=>[(0,ps),(2,lst a),(3,lst b),(4, .int .i64 i),(5, .int .i64 j),(6, .slice (some ⟨above.n,0,some 1⟩) above.len above.cap),(15, .int .i64 b.length),(16,lst (args s a i)),(18,lst (args s b j)),(19, .int .i64 y)]) (by simp) (by simp only[go_sem,push_cast,qB,qA]) ?_
   intro y By hIy hiy hBy
   refine cv (by kernel_rfl) ?_
   rcases xM y ((args s b j).length)with hlty|hgey
   ·obtain⟨q,e1,g1,g2⟩:=args_get p2 hjb hlty
    have e2:=ht i q hia g2 (.inr ⟨rfl,g1⟩)
    have m1:=mul_at hia g2
    have m2:=mul_sm l1 l2
    have c3:((i:Int)*b.length+q).toNat=i*b.length+q:=by omega
    refine R (cj Zs (cj e1 (cj e2 (cj hb0 c3)))) ?_
    refine⟨fun h m hm q' hq=> ?_,fun h=> ?_⟩
    ·by_cases e:m=y
     ·subst e;rw[e1]at hq;cases hq;simpa using h
     ·exact hIy m (by omega) q' hq
    ·rw[hr,if_pos (List.any_eq_true.2 ⟨_,wC e1,by simpa using h⟩)]
   ·have hany:¬((args s b j).any fun q=> !gt s order a b i q.toNat)=true:=fun hc=>by
     obtain⟨q,hq,h⟩:=List.any_eq_true.1 hc
     obtain⟨m,hm,rfl⟩:=List.getElem_of_mem hq
     rw[hIy m (by omega) _ (xA hm)]at h
     cases h
    rw[if_neg hany]at hr
    refine R Zs ?_
    refine cv (by kernel_rfl) ?_
    refine R (cj Zs (cj ea eb)) ?_
    refine⟨fun heq=> ?_,fun hne=>by rw[hr,if_pos hne]⟩
    rw[if_neg (by simpa using heq)]at hr
    refine qY (fun z=>∀m,m<z->∀p q:Int,(args s a i)[m]? =some p->(args s b j)[m]? =some q->subT s a p.toNat=subT s b q.toNat) (min (args s a i).length (args s b j).length) (fun z=>[(0,ps),(2,lst a),(3,lst b),(4, .int .i64 i),(5, .int .i64 j),(6, .slice (some ⟨above.n,0,some 1⟩) above.len above.cap),(15, .int .i64 b.length),(16,lst (args s a i)),(18,lst (args s b j)),(20, .int .i64 z)]) (by simp) (by simp only[go_sem,push_cast,qB,qA]) ?_
    intro z Bz hIz hiz hBz
    refine cv (by kernel_rfl) ?_
    rcases xM z (min (args s a i).length (args s b j).length)with hltz|hgez
    ·obtain⟨p,e1,g1,g2⟩:=args_get p1 hia (show z<(args s a i).length by omega)
     obtain⟨q,e2,g3,g4⟩:=args_get p2 hjb (show z<(args s b j).length by omega)
     have e3:=ht p q g2 g4 (.inl g1)
     have m1:=mul_at g2 g4
     have m2:=mul_sm l1 l2
     have c3:((p:Int)*b.length+q).toNat=p*b.length+q:=by omega
     have g5:=p1 p g2
     have g6:=p2 q g4
     refine R (cj Zs (cj e1 (cj e2 (cj e3 (cj hb0 (cj c3 (cj h1 (cj h3 (cj h4 (cj h5 (cj n1 (cj n2 (cj g5 g6))))))))))))) ?_
     refine⟨fun h m hm p' q' hp hq=> ?_,fun h=> ?_⟩
     ·by_cases e:m=z
      ·subst e;rw[e1]at hp;rw[e2]at hq;cases hp;cases hq;simpa using h
      ·exact hIz m (by omega) p' q' hp hq
     ·rw[hr,lexG_go hIz _ _ e1 e2 (by simpa using h)];simp
    ·refine R Zs ?_
     refine⟨fun a1 a2=>absurd (show z<min (args s a i).length (args s b j).length by omega) (by omega),fun _=> ?_⟩
     refine cv (by kernel_rfl) ?_
     refine R Zs ?_
     rw[hr,lexG_end fun m p q hp hq=>hIz m (by have:=(xR.1 hp).1;have:=(xR.1 hq).1;omega) p q hp hq]
@[go_sem ↓] def BV246 (s:GSignature) (order:List Int) (a:List Int) (b:List Int):Tq:=fun H Bd K=>(((sm s/\sm order/\sm a/\sm b/\yS s=0)/\(nodes s a/\nodes s b/\places s a/\places s b)/\(1<=a.length/\a.length<=24/\1<=b.length/\b.length<=24))/\K (lst (tabG s order a b)) H Bd)
def V246:qH:=fun args H Bd K=>∃(s:GSignature) (order:List Int) (a:List Int) (b:List Int),args=[.agg (enc s).toArray,lst order,lst a,lst b]/\BV246 s order a b H Bd K
@[go_sem ↓] theorem V246_eq (a:List GSymbol) (b c d:List Int):V246 [.agg #[lst a],lst b,lst c,lst d] H Bd K=BV246 (GSignature.mk a) b c d H Bd K:=ex4 (GSignature.mk a) b c d rfl
def W246:qH:=fun args H Bd K=>∃(ps vorder va vb:Value),args=[ps,vorder,va,vb]/\Yld (qI H 1 ps) fun cs=>qP V246 [.agg cs.toArray,vorder,va,vb] H Bd K
@[go_sem ↓] theorem W246_eq (a b c d:Value):W246 [a,b,c,d] H Bd K=(Yld (qI H 1 a) fun cs=>qP V246 (idS [.agg cs.toArray,b,c,d]) H Bd K):=px4 a b c d
theorem W246_ok:OK 246 W246:=by
 rintro args H Bd K ⟨ps,vorder,va,vb,rfl,cs,es,h⟩
 obtain⟨s,order,a,b,e,hpre,hK⟩:=h
 simp only[xG,and_true]at e
 obtain⟨Es,rfl,rfl,rfl⟩:=e
 obtain rfl:=qX Es
 refine fnp pok ((Env.base _).add 259 _ W259_ok) [] hK func246 ntmps246 call246 [.tmp 8] fun hb ha=> ?_
 have Ps:=qM es (NB.vpok (ha ps (by simp)))
 simp only[qN]at Ps
 have Zs:=Ps.all 1 rfl
 have Ys:=jJ (ha ps (by simp))
 refine jD pok fun cv=> ?_
 obtain⟨⟨h1,h2,h3,h4,h5⟩,⟨n1,n2,p1,p2⟩,⟨l1,l2,l3,l4⟩⟩:=hpre
 have m2:=mul_sm l2 l4
 have c0:((a.length:Int)*b.length).toNat=a.length*b.length:=by omega
 refine R (cj Zs c0) ?_
 refine tr_st (X:=Nat×List Value) (fun x=>x.1<=a.length/\x.2.length=a.length*b.length/\∀p q:Nat,p<a.length->q<b.length->x.1<=p->x.2[p*b.length+q]? =some (.bool (gt s order a b p q))) (fun x=>x.1) (fun x=>[(0,ps),(1,lst order),(2,lst a),(3,lst b),(9, .int .i64 b.length),(10, .slice (some ⟨Bd,0,some 1⟩) (a.length*b.length) (a.length*b.length+1)),(11, .int .i64 ((x.1:Int)-1))]) (fun x=>upd H Bd (some ⟨x.2,true⟩)) (a.length,yN (a.length*b.length) [.bool false]) (⟨xC _,by rw[zmake_len];simp,fun p q h1 _ h2=>absurd h1 (by omega)⟩) (by simp only[go_sem,push_cast,qB,qA]<;>exact cT) (by first|exact Le.refl _|simp (disch:=first|assumption|omega) only[go_sem,push_cast,qB,qA,qT,jK]) ?_
 intro x Bx hIx hBx hbx Fx hFx
 refine cv (by kernel_rfl) ?_
 obtain⟨r,L⟩:=x
 obtain⟨i1,i2,i3⟩:=hIx
 simp only at i1 i2 i3 hbx
 cases r with
 |zero=>
  refine R Zs ?_
  have hfl:=tab_flat (s:=s) (order:=order) (a:=a) (b:=b) (by omega) i2 fun p q g1 g2=>i3 p q g1 g2 (xT _)
  subst hfl
  refine Tr.fin2 10 (by simp (disch:=first|assumption|omega) only[qF,qE hb]) (by simp only[go_sem,push_cast,qB,qA];rfl) (tabG_len _ _ _ _).symm ?_
  refine cv (by kernel_rfl) ?_
  exact R Zs trivial
 |succ i=>
  have ci:(i:Int)+1-1=i:=by omega
  refine R (cj Zs ci) ?_
  refine tr_st (X:=Nat×List Value) (fun y=>y.1<=b.length/\y.2.length=a.length*b.length/\∀p q:Nat,p<a.length->q<b.length->(i<p\/(p=i/\y.1<=q))->y.2[p*b.length+q]? =some (.bool (gt s order a b p q))) (fun y=>y.1) (fun y=>[(0,ps),(1,lst order),(2,lst a),(3,lst b),(9, .int .i64 b.length),(10, .slice (some ⟨Bd,0,some 1⟩) (a.length*b.length) (a.length*b.length+1)),(11, .int .i64 i),(12, .int .i64 ((y.1:Int)-1))]) (fun y=>upd H Bd (some ⟨y.2,true⟩)) (b.length,L) (⟨xC _,i2,fun p q g1 g2 g3=>i3 p q g1 g2 (by omega)⟩) (by simp only[go_sem,push_cast,qB,qA,ci]<;>exact cT) (by first|exact Le.refl _|simp (disch:=first|assumption|omega) only[go_sem,push_cast,qB,qA,qT,jK,ci]) ?_
  intro y By hIy hBy hby Fy hFy
  refine cv (by kernel_rfl) ?_
  obtain⟨c,L2⟩:=y
  obtain⟨k1,k2,k3⟩:=hIy
  simp only at k1 k2 k3 hby
  cases c with
  |zero=>
   refine R Zs ?_
   refine hFx (i,L2) _ _ _ ?_ ?_ (by first|exact Le.refl _|simp (disch:=first|assumption|omega|(simp (disch:=omega) only[qF,qE hb];done)) only[go_sem,push_cast,qB,qA,qT,jK,qF,qE hb]) (by simp only[go_sem,push_cast,qB,qA]) (by simp only[go_sem,push_cast,qB,qA]<;>exact cT)
   ·show i<i+1
    omega
   ·exact⟨by omega,k2,fun p q g1 g2 g3=>k3 p q g1 g2 (by omega)⟩
  |succ j=>
   have ck:(j:Int)+1-1=j:=by omega
   have m1:=mul_at (show i<a.length by omega) (show j<b.length by omega)
   have c3:((i:Int)*b.length+j).toNat=i*b.length+j:=by omega
   have ht:tabOK s order a b i j L2:=fun p q g1 g2 g3=>k3 p q g1 g2 (by omega)
   refine R (cj Zs (cj ci (cj ck (cj c3 (cj h1 (cj h2 (cj h3 (cj h4 (cj h5 (cj n1 (cj n2 (cj p1 (cj p2 (cj ht k2)))))))))))))) ?_
   refine hFy (j,L2.set (i*b.length+j) (.bool (gt s order a b i j))) _ _ _ ?_ ?_ (by first|exact Le.refl _|simp (disch:=first|assumption|omega|(simp (disch:=omega) only[qF,qE hb];done)) only[go_sem,push_cast,qB,qA,qT,jK,qF,qE hb]) (by simp only[go_sem,push_cast,qB,qA]) (by simp only[go_sem,push_cast,qB,qA]<;>exact cT)
   ·show j<j+1
    omega
   ·exact⟨by omega,by simpa using k2,fun p q g1 g2 g3=>tab_set (by omega) (by omega) k2 ht p q g1 g2 g3⟩
@[go_sem ↓] def BV219 (s:GSignature) (order:List Int) (a:List Int) (b:List Int):Tq:=fun H Bd K=>(((sm s/\sm order/\sm a/\sm b/\yS s=0)/\(nodes s a/\nodes s b/\places s a/\places s b)/\(1<=a.length/\a.length<=24/\1<=b.length/\b.length<=24))/\K (.bool (gt s order a b 0 0)) H Bd)
def V219:qH:=fun args H Bd K=>∃(s:GSignature) (order:List Int) (a:List Int) (b:List Int),args=[.agg (enc s).toArray,lst order,lst a,lst b]/\BV219 s order a b H Bd K
@[go_sem ↓] theorem V219_eq (a:List GSymbol) (b c d:List Int):V219 [.agg #[lst a],lst b,lst c,lst d] H Bd K=BV219 (GSignature.mk a) b c d H Bd K:=ex4 (GSignature.mk a) b c d rfl
def W219:qH:=fun args H Bd K=>∃(ps vorder va vb:Value),args=[ps,vorder,va,vb]/\Yld (qI H 1 ps) fun cs=>qP V219 [.agg cs.toArray,vorder,va,vb] H Bd K
@[go_sem ↓] theorem W219_eq (a b c d:Value):W219 [a,b,c,d] H Bd K=(Yld (qI H 1 a) fun cs=>qP V219 (idS [.agg cs.toArray,b,c,d]) H Bd K):=px4 a b c d
theorem W219_ok:OK 219 W219:=by
 rintro args H Bd K ⟨ps,vorder,va,vb,rfl,cs,es,h⟩
 obtain⟨s,order,a,b,e,hpre,hK⟩:=h
 simp only[xG,and_true]at e
 obtain⟨Es,rfl,rfl,rfl⟩:=e
 obtain rfl:=qX Es
 refine fnp pok ((Env.base _).add 246 _ W246_ok) [] hK func219 ntmps219 call219 [.tmp 8] fun hb ha=> ?_
 have Ps:=qM es (NB.vpok (ha ps (by simp)))
 simp only[qN]at Ps
 have Zs:=Ps.all 1 rfl
 have Ys:=jJ (ha ps (by simp))
 obtain⟨⟨h1,h2,h3,h4,h5⟩,⟨n1,n2,p1,p2⟩,⟨l1,l2,l3,l4⟩⟩:=hpre
 have m1:=mul_at (show 0<a.length by omega) (show 0<b.length by omega)
 have e1:(tabG s order a b)[0]? =some (gt s order a b 0 0):=by
  unfold tabG
  rw[List.getElem?_map,List.getElem?_range (by omega)]
  simp
 have hl:=tabG_len s order a b
 exact R (cj Zs (cj h1 (cj h2 (cj h3 (cj h4 (cj h5 (cj n1 (cj n2 (cj p1 (cj p2 e1)))))))))) trivial
@[go_sem ↓] def BV179 (s:GSignature) (order:List Int) (l:List GEquation):Tq:=fun H Bd K=>((sm s/\sm order/\sm l/\yS s=0/\vP s l=0)/\K (.bool (fallsB s order l)) H Bd)
def V179:qH:=fun args H Bd K=>∃(s:GSignature) (order:List Int) (l:List GEquation),args=[.agg (enc s).toArray,lst order,lst l]/\BV179 s order l H Bd K
@[go_sem ↓] theorem V179_eq (a:List GSymbol) (b:List Int) (c:List GEquation):V179 [.agg #[lst a],lst b,lst c] H Bd K=BV179 (GSignature.mk a) b c H Bd K:=ex3 (GSignature.mk a) b c rfl
def W179:qH:=fun args H Bd K=>∃(ps vorder vl:Value),args=[ps,vorder,vl]/\Yld (qI H 1 ps) fun cs=>qP V179 [.agg cs.toArray,vorder,vl] H Bd K
@[go_sem ↓] theorem W179_eq (a b c:Value):W179 [a,b,c] H Bd K=(Yld (qI H 1 a) fun cs=>qP V179 (idS [.agg cs.toArray,b,c]) H Bd K):=px3 a b c
theorem W179_ok:OK 179 W179:=by
 rintro args H Bd K ⟨ps,vorder,vl,rfl,cs,es,h⟩
 obtain⟨s,order,l,e,hpre,hK⟩:=h
 simp only[xG,and_true]at e
 obtain⟨Es,rfl,rfl⟩:=e
 obtain rfl:=qX Es
 refine fnp pok ((Env.base _).add 219 _ W219_ok) [(4,[0,1,2,3,4,5,6,7,8,9,10,11,12,13],[z0 0,z0 1,z0 2,z0 3,z0 4,z0 5,z0 6,z0 7,z0 8,z0 9,z0 10,z0 11,z0 12,z0 13], .nil)] hK func179 ntmps179 call179 [.tmp 6] fun hb ha=> ?_
 have Ps:=qM es (NB.vpok (ha ps (by simp)))
 simp only[qN]at Ps
 have Zs:=Ps.all 1 rfl
 have Ys:=jJ (ha ps (by simp))
 refine jD pok fun cv=> ?_
 obtain⟨h1,h2,h3,h4,h5⟩:=hpre
 have hok:=(rulesG_zero h5).2
 have hlt2:=qR h3
 refine R Zs ?_
 refine qY (fun i=>∀j,j<i->∀x,l[j]? =some x->gt s order x.left x.right 0 0=true) (l.length) (fun i=>[(0,ps),(1,lst order),(2,lst l),(7, .int .i64 i)]) (fun j hj=>absurd hj (Nat.not_lt_zero _)) (by simp only[go_sem,push_cast,qB,qA]) ?_
 intro i Bi hIi hii hBi
 refine cv (by kernel_rfl) ?_
 rcases xM i (l.length)with hlti|hgei
 ·have e1:l[i]? =some l[i]:=xA hlti
  have h6:=yQ h3 (xH hlti)
  simp only[zA]at h6
  have g1:=h6.1
  have g2:=h6.2
  have h7:=hok _ (xH hlti)
  have n1:=h7.1.nodes
  have n2:=h7.2.1.nodes
  have p1:=vC h7.1
  have p2:=vC h7.2.1
  have l1:=h7.1.len
  have l2:=h7.2.1.len
  refine R (cj Zs (cj e1 (cj h1 (cj h2 (cj g1 (cj g2 (cj h4 (cj n1 (cj n2 (cj p1 p2)))))))))) ?_
  refine⟨fun h j hj x hx=> ?_,fun h=> ?_⟩
  ·by_cases e:j=i
   ·subst e;rw[e1]at hx;cases hx;simpa using h
   ·exact hIi j (by omega) x hx
  ·exact(all_no (xH hlti) (by simpa using h)).symm
 ·refine R Zs ?_
  refine cv (by kernel_rfl) ?_
  refine R Zs ?_
  exact(all_yes fun x hx=>by
   obtain⟨j,hj,rfl⟩:=List.getElem_of_mem hx
   exact hIi j (by omega) _ (xA hj)).symm
@[go_sem ↓] def BV128 (s:GSignature) (x:GTheory):Tq:=fun H Bd K=>((sm s/\sm x/\rg x/\yS s=0)/\K (.int .i64 (thG s x)) H Bd)
def V128:qH:=fun args H Bd K=>∃(s:GSignature) (x:GTheory),args=[.agg (enc s).toArray, .agg (enc x).toArray]/\BV128 s x H Bd K
@[go_sem ↓] theorem V128_eq (a:List GSymbol) (b:List Int) (c d:List GEquation):V128 [.agg #[lst a], .agg #[lst b,lst c,lst d]] H Bd K=BV128 (GSignature.mk a) (GTheory.mk b c d) H Bd K:=ex2 (GSignature.mk a) (GTheory.mk b c d) rfl
def W128:qH:=fun args H Bd K=>∃(ps px:Value),args=[ps,px]/\Yld (qI H 1 ps) fun cs=>Yld (qI H 3 px) fun cx=>qP V128 [.agg cs.toArray, .agg cx.toArray] H Bd K
@[go_sem ↓] theorem W128_eq (a b:Value):W128 [a,b] H Bd K=(Yld (qI H 1 a) fun cs=>Yld (qI H 3 b) fun cx=>qP V128 (idS [.agg cs.toArray, .agg cx.toArray]) H Bd K):=px2 a b
theorem W128_ok:OK 128 W128:=by
 rintro args H Bd K ⟨ps,px,rfl,cs,es,cx,ex,h⟩
 obtain⟨s,x,e,hpre,hK⟩:=h
 simp only[xG,and_true]at e
 obtain⟨Es,Ex⟩:=e
 obtain rfl:=qX Es
 obtain rfl:=qX Ex
 refine fnp pok (((((Env.base _).add 176 _ W176_ok).add 177 _ W177_ok).add 178 _ W178_ok).add 179 _ W179_ok) [(10,[0,1,2,3,4,5,6,7,8,9,10],[z0 0,z0 1,z0 2,z0 3,z0 4,z0 5,z0 6,z0 7,z0 8,z0 9,z0 10], .nil)] hK func128 ntmps128 call128 [.tmp 4] fun hb ha=> ?_
 have Ps:=qM es (NB.vpok (ha ps (by simp)))
 simp only[qN]at Ps
 have Zs:=Ps.all 1 rfl
 have Ys:=jJ (ha ps (by simp))
 have Px:=qM ex (NB.vpok (ha px (by simp)))
 simp only[qN,enc_GTheory]at Px
 have Zx:=Px.all 3 rfl
 have Yx:=jJ (ha px (by simp))
 obtain⟨h1,h2,h3,h4⟩:=hpre
 simp only[sm_GTheory]at h2
 have h5:rg x.order:=h3.1
 have h6:rg x.equations:=h3.2.1
 have h7:rg x.rules:=h3.2.2
 refine R (cj Zs (cj Zx (cj h1 (cj h2 (cj h5 (cj h6 (cj h7 h4))))))) ?_
 unfold thG
 all_goals first|done|trivial|((try simp only[Cnp,Imp]);grind)
@[go_sem ↓] def BV85 (s:GSignature) (data:List UInt8):Tq:=fun H Bd K=>((sm s/\yS s=0/\data.length<=1000000)/\K (.tuple #[.agg (enc ((thS s data).1)).toArray, .bool ((thS s data).2)]) H Bd)
def V85:qH:=fun args H Bd K=>∃(s:GSignature) (data:List UInt8),args=[.agg (enc s).toArray,lst data]/\BV85 s data H Bd K
@[go_sem ↓] theorem V85_eq (a:List GSymbol) (b:List UInt8):V85 [.agg #[lst a],lst b] H Bd K=BV85 (GSignature.mk a) b H Bd K:=ex2 (GSignature.mk a) b rfl
def W85:qH:=fun args H Bd K=>∃(ps vdata:Value),args=[ps,vdata]/\Yld (qI H 1 ps) fun cs=>qP V85 [.agg cs.toArray,vdata] H Bd K
@[go_sem ↓] theorem W85_eq (a b:Value):W85 [a,b] H Bd K=(Yld (qI H 1 a) fun cs=>qP V85 (idS [.agg cs.toArray,b]) H Bd K):=px2 a b
theorem W85_ok:OK 85 W85:=by
 rintro args H Bd K ⟨ps,vdata,rfl,cs,es,h⟩
 obtain⟨s,data,e,hpre,hK⟩:=h
 simp only[xG,and_true]at e
 obtain⟨Es,rfl⟩:=e
 obtain rfl:=qX Es
 refine yC pok (((Env.base _).add 127 _ W127_ok).add 128 _ W128_ok) [(2,[],[],(.k 5 (.grp false 22 25 3 [23,24,25] 26 none (.k 3 .nil) .nil))),(8,[0,1,2,3,4,5,6,7,8,9,10],[z0 0,z0 1,z0 2,z0 3,z0 4,z0 5,z0 6,z0 7,⟨8,[7],[]⟩,z0 9,⟨10,[7],[]⟩], .nil),(13,[],[],(.k 3 (.grp false 67 75 8 [68,69,70,71,72,73,74,75] 76 none (.k 8 .nil) .nil))),(17,[0,1,2,3,4,5],[z0 0,z0 1,⟨2,[],[0]⟩,z0 3,z0 4,z0 5], .nil)] _ hK func85 rfl (rs:=[.cell 4 57, .tmp 5]) rfl ntmps85 (by simp) call85 (by kernel_rfl) (fun ha hb=>zE ⟨agg_nb _ _, .bool _,trivial⟩) (fun hb ha=> ?_)
 have Ps:=qM es (NB.vpok (ha ps (by simp)))
 simp only[qN]at Ps
 have Zs:=Ps.all 1 rfl
 have Ys:=jJ (ha ps (by simp))
 refine jD pok fun cv=> ?_
 obtain⟨h1,h2,h3⟩:=hpre
 have hs:=yO h2
 have hsl:=hs.len
 by_cases g1:data.length<s.symbols.length
 ·have e:thS s data=(noTh,false):=by unfold thS;rw[if_pos (.inl g1)]
  rw[e];unfold noTh
  exact R (cj Zs g1) trivial
 by_cases g2:300<data.length
 ·have e:thS s data=(noTh,false):=by unfold thS;rw[if_pos (.inr g2)]
  rw[e];unfold noTh
  exact R (cj Zs (cj g1 g2)) trivial
 have hT:thS s data=if(thE s data).2=0 then(noTh,false)
   else if(thL s data).2=0\/(s.symbols.length:Int)+(thE s data).2+(thL s data).2≠data.length then(noTh,false)
   else(thX s data,decide (thG s (thX s data)=0)):=by unfold thS;rw[if_neg (by omega)]
 refine R (cj Zs (cj g1 g2)) ?_
 refine kD (X:=Nat) hb (by omega) 1 [.m (Bd+1) 0] rfl (fun x=>x<=s.symbols.length) (fun x=>s.symbols.length-x) (fun Nx x=>[(0,ps),(1,lst data),(4, .pointer (some ⟨Bd,0,none⟩)),(6, .int .i64 (s.symbols.length:Int)),(7, .pointer (some ⟨Bd+1,0,none⟩)),(8, .int .i64 x)]) (fun Nx x=>[(Bd,⟨[.slice none 0 0, .slice none 0 0, .slice none 0 0],true⟩),(Bd+1,⟨[.slice (some ⟨Nx,0,some 1⟩) ((data.take x).map bI).length (((data.take x).map bI).length+1), .slice none 0 0, .slice none 0 0],true⟩),(Nx,⟨qO ((data.take x).map bI),true⟩)]) 0 (xT _) (fun Nx hNx=>(canf Ys)) ?_
 intro Nx x hNx hIx hbx Fx hFx
 simp only[mem_cons,jI]at hbx ⊢
 refine cv (by kernel_rfl) ?_
 have hxl:((data.take x).map bI).length=x:=by rw[List.length_map,xQ];omega
 by_cases hlt:x<s.symbols.length
 ·have e1:data[x]? =some (data[x]'(by omega)):=xA _
  have hst:=bIs_succ (show x<data.length by omega)
  have hb6:((data[x]'(by omega)).toNat:Int)<=9223372036854775807:=by have:=(data[x]'(by omega)).toNat_lt;omega
  refine RA (cj Zs (cj e1 (cj hlt hb6))) ?_
  refine hFx (x+1) _ _ _ ?_ ?_ (by simp only[go_sem,push_cast,qB,qA]) ((canf (cj Ys hst)))
  ·show s.symbols.length-(x+1)<s.symbols.length-x
   omega
  ·exact hlt
 ·obtain rfl:x=s.symbols.length:=by omega
  refine R Zs ?_
  refine Tr.to hb (by omega) 0 [] rfl (fun Nk=>[(0,ps),(1,lst data),(4, .pointer (some ⟨Bd,0,none⟩)),(6, .int .i64 (s.symbols.length:Int)),(7, .pointer (some ⟨Bd+1,0,none⟩))]) (fun Nk=>[(Bd,⟨[.slice none 0 0, .slice none 0 0, .slice none 0 0],true⟩),(Bd+1,⟨[lst ((data.take s.symbols.length).map bI), .slice none 0 0, .slice none 0 0],true⟩)]) (fun Nk hNk=>(canf Ys)) ?_
  intro Nk hNk hbk
  simp only[mem_cons,jI]at hbk ⊢
  refine cv (by kernel_rfl) ?_
  have hd1:(data.drop s.symbols.length).length<=1000000:=by rw[xI];omega
  have hE:raD s (data.drop s.symbols.length)=thE s data:=rfl
  by_cases q1:(thE s data).2=0
  ·rw[if_pos q1]at hT
   rw[hT];unfold noTh
   exact R (cj Zs (cj h1 (cj h2 (cj hd1 (cj hE (cj q1 ((@List.take_length UInt8)))))))) trivial
  rw[if_neg q1]at hT
  obtain⟨a0,a1,a2,a3⟩:eqsG s (thE s data).1=0/\1<=(thE s data).2/\(thE s data).2.toNat<=(data.drop s.symbols.length).length/\_:=raD_ok q1
  rw[xI]at a2
  have hcd:((s.symbols.length:Int)+(thE s data).2).toNat=s.symbols.length+(thE s data).2.toNat:=by omega
  have hL:raD s (data.drop (s.symbols.length+(thE s data).2.toNat))=thL s data:=rfl
  have hd2:(data.drop (s.symbols.length+(thE s data).2.toNat)).length<=1000000:=by rw[xI];omega
  by_cases q2:(thL s data).2=0
  ·rw[if_pos (.inl q2)]at hT
   rw[hT];unfold noTh
   exact R (cj Zs (cj h1 (cj h2 (cj hd1 (cj hE (cj q1 (cj hcd (cj hd2 (cj hL (cj q2 ((@List.take_length UInt8)))))))))))) trivial
  obtain⟨b0,b1,b2,b3⟩:eqsG s (thL s data).1=0/\1<=(thL s data).2/\(thL s data).2.toNat<=(data.drop (s.symbols.length+(thE s data).2.toNat)).length/\_:=raD_ok q2
  rw[xI]at b2
  by_cases q3:(s.symbols.length:Int)+(thE s data).2+(thL s data).2=data.length
  case neg=>
   rw[if_pos (.inr q3)]at hT
   rw[hT];unfold noTh
   exact R (cj Zs (cj h1 (cj h2 (cj hd1 (cj hE (cj q1 (cj hcd (cj hd2 (cj hL (cj q2 (cj q3 ((@List.take_length UInt8))))))))))))) trivial
  rw[if_neg (fun h=>h.elim q2 (fun h=>h q3))]at hT
  rw[hT]
  obtain⟨_,s1,s2⟩:=eqs_sm hs a0
  obtain⟨_,s3,s4⟩:=eqs_sm hs b0
  have hsmX:sm (⟨(data.take s.symbols.length).map bI,(thE s data).1,(thL s data).1⟩:GTheory):=⟨(jY _).2 (by rw[List.length_map,xQ];omega),s1,s3⟩
  have hrgX:rg (⟨(data.take s.symbols.length).map bI,(thE s data).1,(thL s data).1⟩:GTheory):=⟨bIs_rg _,s2,s4⟩
  unfold thX
  exact R (cj Zs (cj h1 (cj h2 (cj hd1 (cj hE (cj q1 (cj hcd (cj hd2 (cj hL (cj q2 (cj q3 (cj (@List.take_length UInt8) (cj hsmX hrgX))))))))))))) trivial
@[go_sem ↓] def BV52 (d:GDisk):Tq:=fun H Bd K=>((sm d/\DiskOK d)/\K (.tuple #[.agg (enc ((scrD d).1)).toArray, .int .i64 ((scrD d).2)]) H Bd)
def V52:qH:=fun args H Bd K=>∃(d:GDisk),args=[.agg (enc d).toArray]/\BV52 d H Bd K
@[go_sem ↓] theorem V52_eq (a:List (List UInt8)) (b:List GPut):V52 [.agg #[lst a,lst b]] H Bd K=BV52 (GDisk.mk a b) H Bd K:=ex1 (GDisk.mk a b) rfl
def W52:qH:=fun args H Bd K=>∃(pd:Value),args=[pd]/\Yld (qI H 2 pd) fun cd=>qP V52 [.agg cd.toArray] H Bd K
@[go_sem ↓] theorem W52_eq (a:Value):W52 [a] H Bd K=(Yld (qI H 2 a) fun cd=>qP V52 (idS [.agg cd.toArray]) H Bd K):=px1 a
theorem W52_ok:OK 52 W52:=by
 rintro args H Bd K ⟨pd,rfl,cd,ed,h⟩
 obtain⟨d,e,hpre,hK⟩:=h
 simp only[xG,and_true]at e
 have Ed:=e
 obtain rfl:=qX Ed
 refine yC pok (((((Env.base _).add 82 _ W82_ok).add 83 _ W83_ok).add 84 _ W84_ok).add 85 _ W85_ok) [] _ hK func52 rfl (rs:=[.cell 2 59, .tmp 3]) rfl ntmps52 (by simp) call52 (by kernel_rfl) (fun ha hb=>zE ⟨agg_nb _ _, .int _ _,trivial⟩) (fun hb ha=> ?_)
 have Pd:=qM ed (NB.vpok (ha pd (by simp)))
 simp only[kM]at Pd
 have Zd:=Pd.all 2 rfl
 have Yd:=jJ (ha pd (by simp))
 obtain⟨h1,h2⟩:=hpre
 have hR:scrD d=if(jM d).2≠0 then(noSt,(jM d).2)
   else if(vY d (jM d).1).code≠0 then(noSt,(vY d (jM d).1).code)
   else if(thAt d (jM d).1 (jM d).1.theory).2=false then(noSt,5)
   else if(jM d).1.moving=true/\(thAt d (jM d).1 (jM d).1.next_).2=false then(noSt,5)
   else(⟨(jM d).1,(vY d (jM d).1).list,(thAt d (jM d).1 (jM d).1.theory).1,if(jM d).1.moving=true then(thAt d (jM d).1 (jM d).1.next_).1 else noTh⟩,0):=rfl
 by_cases q1:(jM d).2=0
 case neg=>
  rw[if_pos q1]at hR
  rw[hR];unfold noSt yB noTh
  exact R (cj Zd (cj h1 (cj h2 q1))) trivial
 rw[if_neg (by simpa using q1)]at hR
 have hS:=kG (openD_ok q1)
 generalize hQ:(jM d).1=Q at*
 by_cases q2:(vY d Q).code=0
 case neg=>
  rw[if_pos q2]at hR
  rw[hR];unfold noSt yB noTh
  exact R (cj Zd (cj h1 (cj h2 (cj q1 (cj hQ (cj hS q2)))))) trivial
 rw[if_neg (by simpa using q2)]at hR
 have hth:=hS.theory
 have hnx:=hS.next_
 have hsg:=hS.sig
 have hsl:=(yO hsg).len
 have hss:sm Q.symbols:=⟨show Q.symbols.symbols.length<=281474976710656 by omega,fun x hx=>⟨show x.name.size<=281474976710656 by have:=zK ((yO hsg).nm x hx).1;omega,trivial⟩⟩
 have hf1:∀a b,H (Bd+a+b)=none:=fun a b=>hb.fresh _ (by omega)
 have hf2:∀a b c,H (Bd+a+b+c)=none:=fun a b c=>hb.fresh _ (by omega)
 have r1:R64 Q.theory:=⟨by omega,by omega⟩
 have r2:R64 Q.next_:=⟨by omega,by omega⟩
 have hc1:=chainD_dlen d Q.theory
 have hc2:=chainD_dlen d Q.next_
 have e1:thS Q.symbols (qU d Q.theory).1=thAt d Q Q.theory:=rfl
 have e2:thS Q.symbols (qU d Q.next_).1=thAt d Q Q.next_:=rfl
 by_cases q3:(thAt d Q Q.theory).2=true
 case neg=>
  have q3:(thAt d Q Q.theory).2=false:=by simpa using q3
  rw[if_pos q3]at hR
  rw[hR];unfold noSt yB noTh
  exact R (cj Zd (cj h1 (cj h2 (cj q1 (cj hQ (cj hS (cj q2 (cj r1 (cj r2 (cj hc1 (cj hc2 (cj hss (cj hsg (cj e1 (cj e2 q3))))))))))))))) trivial
 rw[if_neg (by rw[q3];decide)]at hR
 by_cases q4:Q.moving=true
 ·by_cases q5:(thAt d Q Q.next_).2=true
  ·rw[if_neg (by rw[q5];simp),if_pos q4]at hR
   rw[hR]
   exact R (cj Zd (cj h1 (cj h2 (cj q1 (cj hQ (cj hS (cj q2 (cj r1 (cj r2 (cj hc1 (cj hc2 (cj hss (cj hsg (cj e1 (cj e2 (cj q3 q5)))))))))))))))) trivial
  ·have q5:(thAt d Q Q.next_).2=false:=by simpa using q5
   rw[if_pos ⟨q4,q5⟩]at hR
   rw[hR];unfold noSt yB noTh
   exact R (cj Zd (cj h1 (cj h2 (cj q1 (cj hQ (cj hS (cj q2 (cj r1 (cj r2 (cj hc1 (cj hc2 (cj hss (cj hsg (cj e1 (cj e2 (cj q3 q5)))))))))))))))) trivial
 ·rw[if_neg (fun h=>q4 h.1),if_neg q4]at hR
  rw[hR];unfold noTh
  exact R (cj Zd (cj h1 (cj h2 (cj q1 (cj hQ (cj hS (cj q2 (cj r1 (cj r2 (cj hc1 (cj hc2 (cj hss (cj hsg (cj e1 (cj e2 q3))))))))))))))) trivial
@[go_sem ↓] def BV24 (d:GDisk):Tq:=fun H Bd K=>((sm d)/\K (.tuple #[.agg (enc ((openS d).1)).toArray, .int .i64 ((openS d).2)]) H Bd)
def V24:qH:=fun args H Bd K=>∃(d:GDisk),args=[.agg (enc d).toArray]/\BV24 d H Bd K
@[go_sem ↓] theorem V24_eq (a:List (List UInt8)) (b:List GPut):V24 [.agg #[lst a,lst b]] H Bd K=BV24 (GDisk.mk a b) H Bd K:=ex1 (GDisk.mk a b) rfl
def W24:qH:=fun args H Bd K=>∃(pd:Value),args=[pd]/\Yld (qI H 2 pd) fun cd=>qP V24 [.agg cd.toArray] H Bd K
@[go_sem ↓] theorem W24_eq (a:Value):W24 [a] H Bd K=(Yld (qI H 2 a) fun cd=>qP V24 (idS [.agg cd.toArray]) H Bd K):=px1 a
theorem W24_ok:OK 24 W24:=by
 rintro args H Bd K ⟨pd,rfl,cd,ed,h⟩
 obtain⟨d,e,hpre,hK⟩:=h
 simp only[xG,and_true]at e
 have Ed:=e
 obtain rfl:=qX Ed
 refine yC pok (((Env.base _).add 51 _ W51_ok).add 52 _ W52_ok) [] _ hK func24 rfl (rs:=[.cell 2 59, .tmp 3]) rfl ntmps24 (by simp) call24 (by kernel_rfl) (fun ha hb=>zE ⟨agg_nb _ _, .int _ _,trivial⟩) (fun hb ha=> ?_)
 have Pd:=qM ed (NB.vpok (ha pd (by simp)))
 simp only[kM]at Pd
 have Zd:=Pd.all 2 rfl
 have Yd:=jJ (ha pd (by simp))
 by_cases hd:yR d=0
 ·have e:openS d=scrD d:=by unfold openS;rw[if_neg (by simpa using hd)]
  have h2:=disk_ok hd
  rw[e]
  exact R (cj Zd (cj hpre (cj hd h2))) trivial
 ·have e:openS d=(noSt,yR d):=by unfold openS;rw[if_pos hd]
  rw[e];unfold noSt yB noTh
  exact R (cj Zd (cj hpre hd)) trivial
@[go_sem ↓] def BV41 (d:GDisk) (st:GL18State):Tq:=fun H Bd K=>((sm d/\DiskOK d/\R64 st.super.root)/\K (lst (rowsI d st.super.root)) H Bd)
def V41:qH:=fun args H Bd K=>∃(d:GDisk) (st:GL18State),args=[.agg (enc d).toArray, .agg (enc st).toArray]/\BV41 d st H Bd K
@[go_sem ↓] theorem V41_eq (a:List (List UInt8)) (b:List GPut) (c d e f g h:Int) (i:Bool) (j:List UInt8) (k:List GSymbol) (l m:List Int) (n o:List GEquation) (p:List Int) (q r:List GEquation):V41 [.agg #[lst a,lst b], .agg #[.int .i64 c, .int .i64 d, .int .i64 e, .int .i64 f, .int .i64 g, .int .i64 h, .bool i,lst j,lst k,lst l,lst m,lst n,lst o,lst p,lst q,lst r]] H Bd K=BV41 (GDisk.mk a b) (GL18State.mk (GSuper.mk c d e f g h i j (GSignature.mk k)) l (GTheory.mk m n o) (GTheory.mk p q r)) H Bd K:=ex2 (GDisk.mk a b) (GL18State.mk (GSuper.mk c d e f g h i j (GSignature.mk k)) l (GTheory.mk m n o) (GTheory.mk p q r)) rfl
def W41:qH:=fun args H Bd K=>∃(pd pst:Value),args=[pd,pst]/\Yld (qI H 2 pd) fun cd=>Yld (qI H 16 pst) fun cst=>qP V41 [.agg cd.toArray, .agg cst.toArray] H Bd K
@[go_sem ↓] theorem W41_eq (a b:Value):W41 [a,b] H Bd K=(Yld (qI H 2 a) fun cd=>Yld (qI H 16 b) fun cst=>qP V41 (idS [.agg cd.toArray, .agg cst.toArray]) H Bd K):=px2 a b
theorem W41_ok:OK 41 W41:=by
 rintro args H Bd K ⟨pd,pst,rfl,cd,ed,cst,est,h⟩
 obtain⟨d,st,e,hpre,hK⟩:=h
 simp only[xG,and_true]at e
 obtain⟨Ed,Est⟩:=e
 obtain rfl:=qX Ed
 obtain rfl:=qX Est
 refine fnp pok ((Env.base _).add 71 _ W71_ok) [] hK func41 ntmps41 call41 [.tmp 4] fun hb ha=> ?_
 have Pd:=qM ed (NB.vpok (ha pd (by simp)))
 simp only[kM]at Pd
 have Zd:=Pd.all 2 rfl
 have Yd:=jJ (ha pd (by simp))
 have Pst:=qM est (NB.vpok (ha pst (by simp)))
 simp only[kM,enc_GL18State,qN,enc_GSuper,enc_GTheory]at Pst
 have Zst:=Pst.all 16 rfl
 have Yst:=jJ (ha pst (by simp))
 obtain⟨h1,h2,h3⟩:=hpre
 have e:=treeS_rows d st.super.root
 exact R (cj Zd (cj Zst (cj h1 (cj h2 (cj h3 e))))) trivial
def W69c:qH:=fun args H Bd K=>∃(a:List UInt8) (b:List UInt8),args=[lst a,lst b]/\((b=[])/\K (.bool true) H Bd)
@[go_sem ↓] theorem W69c_eq (a b:List UInt8) (c:AH) (d:Nat) (e:Value->AH->Nat->Prop):W69c [lst a,lst b] c d e=((b=[])/\e (.bool true) c d):=ex2 a b rfl
theorem W69c_ok:OK 69 W69c:=by
 rintro args H Bd K ⟨a,b,rfl,hpre,hK⟩
 refine fnp pok (Env.base _) [(6,[0,1,2,3,4,5,6,7,8],[z0 0,z0 1,z0 2,z0 3,z0 4,z0 5,z0 6,z0 7,z0 8], .nil)] hK func69 ntmps69 call69 [.tmp 4] fun hb ha=> ?_
 refine jD pok fun cv=> ?_
 subst hpre
 refine R0 ?_
 refine qY (fun i=>True) (0) (fun i=>[(0,lst a),(1,lst ([]:List UInt8)),(4, .bool false),(5, .int .i64 i)]) (by simp) (by simp only[go_sem,push_cast,qB,qA]) ?_
 intro i Bi hIi hii hBi
 refine cv (by kernel_rfl) ?_
 rcases xM i (0)with hlti|hgei
 ·omega
 ·have hi:¬((i:Int)<0):=by omega
  refine R hi ?_
  refine cv (by kernel_rfl) ?_
  exact R0 trivial
def W69:qH:=NilV 1 1 W69c
@[go_sem ↓] theorem W69_eq (a b:Value):W69 [a,b] H Bd K=qP W69c (idS [a,nilV 1 b]) H Bd K:=(rfl)
theorem W69_ok:OK 69 W69:=NilV_ok 1 1 W69c_ok
def W161:qH:=fun args H Bd K=>∃(t:List Int),args=[lst t]/\((sm t)/\K (.bool (t.all (fun n=>decide (0<=n)))) H Bd)
@[go_sem ↓] theorem W161_eq (a:List Int):W161 [lst a] H Bd K=((sm a)/\K (.bool (a.all (fun n=>decide (0<=n)))) H Bd):=ex1 a rfl
theorem W161_ok:OK 161 W161:=by
 rintro args H Bd K ⟨t,rfl,hpre,hK⟩
 refine fnp pok (Env.base _) [] hK func161 ntmps161 call161 [.tmp 2] fun hb ha=> ?_
 refine jD pok fun cv=> ?_
 have hlt2:=qR hpre
 refine R0 ?_
 refine qY (fun i=>∀j,j<i->∀n,t[j]? =some n->0<=n) (t.length) (fun i=>[(0,lst t),(3, .int .i64 i)]) (fun j hj=>absurd hj (Nat.not_lt_zero _)) (by simp only[go_sem,push_cast,qB,qA]) ?_
 intro i Bi hIi hii hBi
 refine cv (by kernel_rfl) ?_
 rcases xM i (t.length)with hlti|hgei
 ·have e1:t[i]? =some t[i]:=xA hlti
  refine R e1 ?_
  refine⟨fun h=> ?_,fun h j hj n hn=> ?_⟩
  ·exact(all_no (xH hlti) (by simpa using h)).symm
  ·by_cases e:j=i
   ·subst e;rw[e1]at hn;cases hn;omega
   ·exact hIi j (by omega) n hn
 ·refine R0 ?_
  refine cv (by kernel_rfl) ?_
  refine R0 ?_
  exact(all_yes fun x hx=>by
   obtain⟨j,hj,rfl⟩:=List.getElem_of_mem hx
   have:=hIi j (by omega) _ (xA hj)
   simpa using this).symm
def W112:qH:=fun args H Bd K=>∃(a:List Int) (b:List Int),args=[lst a,lst b]/\((sm a/\sm b)/\K (.int .i64 (shortG a b)) H Bd)
@[go_sem ↓] theorem W112_eq (a b:List Int):W112 [lst a,lst b] H Bd K=((sm a/\sm b)/\K (.int .i64 (shortG a b)) H Bd):=ex2 a b rfl
theorem W112_ok:OK 112 W112:=by
 rintro args H Bd K ⟨a,b,rfl,hpre,hK⟩
 refine fnp pok ((Env.base _).add 161 _ W161_ok) [(1,[],[],(.k 4 (.grp false 9 12 3 [10,11,12] 13 none (.k 3 .nil) (.k 1 .nil)))),(3,[],[],(.k 4 (.grp false 18 21 3 [19,20,21] 22 none (.k 3 .nil) (.k 1 .nil))))] hK func112 ntmps112 call112 [.tmp 4] fun hb ha=> ?_
 obtain⟨h1,h2⟩:=hpre
 refine R (cj h1 h2) ?_
 unfold shortG
 all_goals first|done|trivial|((try simp only[Cnp,Imp]);grind)
@[go_sem ↓] def BV70 (s:GSignature) (key:List UInt8):Tq:=fun H Bd K=>((sm s/\yS s=0/\key.length<=1000000)/\K (.tuple #[lst ((kcR s key).normal),lst ((kcR s key).term), .bool (decide ((kcR s key).code=0))]) H Bd)
def V70:qH:=fun args H Bd K=>∃(s:GSignature) (key:List UInt8),args=[.agg (enc s).toArray,lst key]/\BV70 s key H Bd K
@[go_sem ↓] theorem V70_eq (a:List GSymbol) (b:List UInt8):V70 [.agg #[lst a],lst b] H Bd K=BV70 (GSignature.mk a) b H Bd K:=ex2 (GSignature.mk a) b rfl
def W70:qH:=fun args H Bd K=>∃(ps vkey:Value),args=[ps,vkey]/\Yld (qI H 1 ps) fun cs=>qP V70 [.agg cs.toArray,vkey] H Bd K
@[go_sem ↓] theorem W70_eq (a b:Value):W70 [a,b] H Bd K=(Yld (qI H 1 a) fun cs=>qP V70 (idS [.agg cs.toArray,b]) H Bd K):=px2 a b
theorem W70_ok:OK 70 W70:=by
 rintro args H Bd K ⟨ps,vkey,rfl,cs,es,h⟩
 obtain⟨s,key,e,hpre,hK⟩:=h
 simp only[xG,and_true]at e
 obtain⟨Es,rfl⟩:=e
 obtain rfl:=qX Es
 refine yC pok (((Env.base _).add 111 _ W111_ok).add 112 _ W112_ok) [(5,[],[],(.k 4 (.grp false 24 32 8 [25,26,27,28,29,30,31,32] 33 none (.k 8 .nil) (.k 1 (.grp false 34 38 4 [35,36,37,38] 39 none (.k 4 .nil) .nil)))))] _ hK func70 rfl (rs:=[.tmp 4, .tmp 5, .tmp 6]) rfl ntmps70 (by simp) call70 (by kernel_rfl) (fun ha hb=>zE ⟨lst_nb _ _,lst_nb _ _, .bool _,trivial⟩) (fun hb ha=> ?_)
 have Ps:=qM es (NB.vpok (ha ps (by simp)))
 simp only[qN]at Ps
 have Zs:=Ps.all 1 rfl
 have Ys:=jJ (ha ps (by simp))
 obtain⟨h1,h2,h3⟩:=hpre
 have g1:=rt_sm s key
 have g2:=rt_sm s (key.drop (rt s key).length)
 have g3:=rt_le s key
 have g4:(key.drop (rt s key).length).length<=1000000:=by rw[xI];omega
 by_cases q1:rt s key=[]
 ·have e:kcR s key=⟨5,[],[]⟩:=by unfold kcR kcS;rw[if_pos q1]
  have d5:decide ((5:Int)=0)=false:=rfl
  rw[e]
  exact R (cj Zs (cj h1 (cj h2 (cj h3 (cj q1 d5))))) trivial
 have q1':(rt s key).length≠0:=rt_len0 q1
 have tk:List.take key.length key=key:=List.take_length
 have d0:decide ((0:Int)=0)=true:=rfl
 by_cases q2:rt s (key.drop (rt s key).length)=[]\/(rt s key).length+(rt s (key.drop (rt s key).length)).length≠key.length\/shortG (rt s key) (rt s (key.drop (rt s key).length))≠0
 ·have e:kcR s key=⟨5,[],[]⟩:=by unfold kcR kcS;rw[if_neg q1,if_pos q2]
  have d5:decide ((5:Int)=0)=false:=rfl
  rw[e]
  by_cases p1:rt s (key.drop (rt s key).length)=[]
  ·exact R (cj Zs (cj h1 (cj h2 (cj h3 (cj q1' (cj g1 (cj g3 (cj g4 (cj d5 (cj tk p1)))))))))) trivial
  have p1':(rt s (key.drop (rt s key).length)).length≠0:=rt_len0 p1
  by_cases p2:(rt s key).length+(rt s (key.drop (rt s key).length)).length=key.length
  ·have p3:shortG (rt s key) (rt s (key.drop (rt s key).length))≠0:=by
    rcases q2 with h|h|h
    ·exact absurd h p1
    ·exact absurd p2 h
    ·exact h
   have p2':((rt s key).length:Int)+((rt s (key.drop (rt s key).length)).length:Int)=key.length:=by omega
   exact R (cj Zs (cj h1 (cj h2 (cj h3 (cj q1' (cj g1 (cj g2 (cj g3 (cj g4 (cj d5 (cj tk (cj p1' (cj p2' p3))))))))))))) trivial
  ·have p2':¬((rt s key).length:Int)+((rt s (key.drop (rt s key).length)).length:Int)=key.length:=by omega
   exact R (cj Zs (cj h1 (cj h2 (cj h3 (cj q1' (cj g1 (cj g2 (cj g3 (cj g4 (cj d5 (cj tk (cj p1' p2')))))))))))) trivial
 ·have e:kcR s key=⟨0,rt s key,rt s (key.drop (rt s key).length)⟩:=by unfold kcR kcS;rw[if_neg q1,if_neg q2]
  rw[e]
  have p1':(rt s (key.drop (rt s key).length)).length≠0:=rt_len0 fun h=>q2 (.inl h)
  have p2':((rt s key).length:Int)+((rt s (key.drop (rt s key).length)).length:Int)=key.length:=by
   by_cases h:(rt s key).length+(rt s (key.drop (rt s key).length)).length=key.length
   ·omega
   ·exact absurd (.inr (.inl h)) q2
  have p3:shortG (rt s key) (rt s (key.drop (rt s key).length))=0:=by
   by_cases h:shortG (rt s key) (rt s (key.drop (rt s key).length))=0
   ·exact h
   ·exact absurd (.inr (.inr h)) q2
  exact R (cj Zs (cj h1 (cj h2 (cj h3 (cj q1' (cj g1 (cj g2 (cj g3 (cj g4 (cj tk (cj p1' (cj p2' (cj p3 d0))))))))))))) trivial
@[go_sem ↓] def BV40 (s:GSignature) (l:List GRow) (pre:List UInt8):Tq:=fun H Bd K=>((sm s/\yS s=0/\KeyOK l/\l.length<=31104/\pre=[])/\K (.tuple #[lst ((recsG s l).getD []), .int .i64 (if recsG s l=none then 5 else 0)]) H Bd)
def V40:qH:=fun args H Bd K=>∃(s:GSignature) (l:List GRow) (pre:List UInt8),args=[.agg (enc s).toArray,lst l,lst pre]/\BV40 s l pre H Bd K
@[go_sem ↓] theorem V40_eq (a:List GSymbol) (b:List GRow) (c:List UInt8):V40 [.agg #[lst a],lst b,lst c] H Bd K=BV40 (GSignature.mk a) b c H Bd K:=ex3 (GSignature.mk a) b c rfl
def W40d:qH:=fun args H Bd K=>∃(ps vl vpre:Value),args=[ps,vl,vpre]/\Yld (qI H 1 ps) fun cs=>qP V40 [.agg cs.toArray,vl,vpre] H Bd K
@[go_sem ↓] theorem W40d_eq (a b c:Value) (d:AH) (e:Nat) (f:Value->AH->Nat->Prop):W40d [a,b,c] d e f=(Yld (qI d 1 a) fun cs=>qP V40 (idS [.agg cs.toArray,b,c]) d e f):=px3 a b c
theorem W40d_ok:OK 40 W40d:=by
 rintro args H Bd K ⟨ps,vl,vpre,rfl,cs,es,h⟩
 obtain⟨s,l,pre,e,hpre,hK⟩:=h
 simp only[xG,and_true]at e
 obtain⟨Es,rfl,rfl⟩:=e
 obtain rfl:=qX Es
 refine yC pok (((Env.base _).add 69 _ W69_ok).add 70 _ W70_ok) [] _ hK func40 rfl (rs:=[.tmp 6, .tmp 7]) rfl ntmps40 (by simp) call40 (by kernel_rfl) (fun ha hb=>zE ⟨lst_nb _ _, .int _ _,trivial⟩) (fun hb ha=> ?_)
 have Ps:=qM es (NB.vpok (ha ps (by simp)))
 simp only[qN]at Ps
 have Zs:=Ps.all 1 rfl
 have Ys:=jJ (ha ps (by simp))
 refine jD pok fun cv=> ?_
 obtain⟨h1,h2,h3,h4,rfl⟩:=hpre
 refine R Zs ?_
 refine kD (X:=Nat×List GRecord) hb (by omega) 1 [.s 8] rfl (fun x=>x.1<=l.length/\recsA s l x.1=some x.2) (fun x=>l.length-x.1) (fun Nx x=>[(0,ps),(1,lst l),(2,lst ([]:List UInt8)),(8, .slice (some ⟨Nx,0,some 2⟩) x.2.length (x.2.length+1)),(9, .int .i64 x.1)]) (fun Nx x=>[(Nx,⟨qO x.2,true⟩)]) (0,[]) (⟨xT _,rfl⟩) (fun Nx hNx=>(canf Ys)) ?_
 intro Nx x hNx hIx hbx Fx hFx
 simp only[mem_cons,jI]at hbx ⊢
 refine cv (by kernel_rfl) ?_
 obtain⟨i,out⟩:=x
 obtain⟨i1,i2⟩:=hIx
 simp only at i1 i2
 have hol:out.length<=31104:=by
  have:=(recsG_len i2).1
  rw[xQ]at this;omega
 by_cases hlt:i<l.length
 ·have e1:l[i]? =some (l[i]'hlt):=xA _
  have hst:=recsA_succ e1 i2
  have hkl:=h3 _ (xH hlt)
  have hk2:(l[i]'hlt).key.length<=1000000:=by omega
  generalize hE:(l[i]'hlt)=E at*
  obtain⟨key,value⟩:=E
  simp only at hk2 hst
  cases hc:kcS s key with
  |none=>
   have ek:kcR s key=⟨5,[],[]⟩:=by unfold kcR;rw[hc]
   rw[hc]at hst
   have hn:recsG s l=none:=recs_bad hst
   have d5:decide ((5:Int)=0)=false:=rfl
   rw[hn]
   simp (maxSteps:=2000000) (disch:=first|exact dq|fail) only[go_sem,push_cast,qB,qA,qK hb,qE hb,Zs,e1,hE,hlt,h1,h2,hk2,ek,d5,Option.getD_none]
  |some p=>
   obtain⟨a,b⟩:=p
   have ek:kcR s key=⟨0,a,b⟩:=by unfold kcR;rw[hc]
   have d0:decide ((0:Int)=0)=true:=rfl
   rw[hc]at hst
   refine RA (cj Zs (cj e1 (cj hE (cj hlt (cj h1 (cj h2 (cj hk2 (cj ek d0)))))))) ?_
   refine hFx (i+1,out++[⟨b,value⟩]) _ _ _ ?_ ?_ (by simp only[go_sem,push_cast,qB,qA]) ((canf (cj Ys enc_GRecord)))
   ·show l.length-(i+1)<l.length-i
    omega
   ·exact⟨hlt,hst⟩
 ·obtain rfl:i=l.length:=by omega
  unfold recsA at i2
  rw[List.take_length]at i2
  rw[i2]
  refine R (cj Zs hlt) ?_
  refine cv (by kernel_rfl) ?_
  simp (maxSteps:=2000000) (disch:=first|exact dq|fail) only[go_sem,push_cast,qB,qA,qK hb,qE hb,Zs,Option.getD_some]
  exact qZ (by simp (disch:=first|assumption|omega) only[go_sem,push_cast,qB,qA]) (hb.fresh _ (by omega)) rfl (by first|rfl|exact(kH _).symm|simp|omega)
def W40:qH:=NilV 2 1 W40d
@[go_sem ↓] theorem W40_eq (a b c:Value):W40 [a,b,c] H Bd K=qP W40d (idS [a,b,nilV 1 c]) H Bd K:=(rfl)
theorem W40_ok:OK 40 W40:=NilV_ok 2 1 W40d_ok
def W15:qH:=fun args H Bd K=>∃(d:GDisk),args=[.agg (enc d).toArray]/\((sm d)/\K (.agg (enc (rcsR d)).toArray) H Bd)
@[go_sem ↓] theorem W15_eq (a:List (List UInt8)) (b:List GPut):W15 [.agg #[lst a,lst b]] H Bd K=((sm (GDisk.mk a b))/\K (.agg (enc (rcsR (GDisk.mk a b))).toArray) H Bd):=ex1 (GDisk.mk a b) rfl
theorem W15_ok:OK 15 W15:=by
 rintro args H Bd K ⟨d,rfl,hpre,hK⟩
 refine fnp pok ((((Env.base _).add 24 _ W24_ok).add 41 _ W41_ok).add 40 _ W40_ok) [] hK func15 ntmps15 call15 [.cell 2 42] fun hb ha=> ?_
 have hc:=openS_code d
 by_cases q:(openS d).2=0
 case neg=>
  have e:rcsR d=⟨(openS d).2,[]⟩:=by unfold rcsR;rw[<-hc,if_pos q]
  rw[e]
  exact R (cj hpre q) trivial
 obtain⟨hd,hs,hS⟩:=openS_ok q
 have h2:=disk_ok hd
 have hR:rcsR d=⟨if recsG (openS d).1.super.symbols (rowsI d (openS d).1.super.root)=none then 5 else 0,(recsG (openS d).1.super.symbols (rowsI d (openS d).1.super.root)).getD []⟩:=by
  unfold rcsR;rw[<-hc,if_neg (by simpa using q),<-hs]
  cases recsG (openS d).1.super.symbols (rowsI d (openS d).1.super.root) <;>rfl
 have hrt:=hS.root
 have hsg:=hS.sig
 have hsl:=(yO hsg).len
 generalize hQ:(openS d).1.super=Q at*
 have r1:R64 Q.root:=⟨by omega,by omega⟩
 have hss:sm Q.symbols:=⟨show Q.symbols.symbols.length<=281474976710656 by omega,fun x hx=>⟨show x.name.size<=281474976710656 by have:=zK ((yO hsg).nm x hx).1;omega,trivial⟩⟩
 obtain⟨k1,k2⟩:=rowsI_ok d Q.root
 rw[hR]
 exact R (cj hpre (cj q (cj hQ (cj h2 (cj r1 (cj hss (cj hsg (cj k1 k2)))))))) trivial
def K15:qH:=GiveN W15
@[go_sem ↓] theorem K15_eq (a:Value):K15 [a] H Bd K=Held (K15 [a] H Bd K) ⟨⟩:=(rfl)
theorem K15_ok:OK 15 K15:=GiveN_ok W15_ok
def W133:qH:=fun args H Bd K=>∃(n:Int) (low:Int) (high:Int),args=[.int .i64 n, .int .i64 low, .int .i64 high]/\(K (.bool (decide (low<=n/\n<=high))) H Bd)
@[go_sem ↓] theorem W133_eq (a b c:Int):W133 [.int .i64 a, .int .i64 b, .int .i64 c] H Bd K=(K (.bool (decide (b<=a/\a<=c))) H Bd):=ex3 a b c rfl
theorem W133_ok:OK 133 W133:=by
 rintro args H Bd K ⟨n,low,high,rfl,hK⟩
 refine fnp pok (Env.base _) [(1,[],[],(.k 4 (.grp true 10 13 3 [11,12,13] 14 none (.k 3 .nil) (.k 1 .nil))))] hK func133 ntmps133 call133 [.tmp 6] fun hb ha=> ?_
 simp (maxSteps:=2000000) (disch:=first|exact dq|fail) only[go_sem,push_cast,qB,qA,qK hb,qE hb]
 all_goals first|done|trivial|((try simp only[Cnp,Imp]);grind)
theorem G180(g:Nat)(caps:Array Value)(p:List UInt8->Bool)(xs:List (List UInt8))(H:AH)(Bd:Nat)(K:Value->AH->Nat->Prop)(hsm:sm xs)(hg:∀x∈xs,∀B,Bd<=B->∀K':Value->AH->Nat->Prop,K' (.bool (p x)) H B->SCalls Tryz.prog g (idS ((lst (x))::caps.toList)) H B K')(hK:K (.int .i64 (fidx p xs)) H Bd):SCalls Tryz.prog 180 [lst xs, .func (.func g) #[] caps] H Bd K:=by
 refine yC pok (Env.base _) [] _ hK func180 rfl (rs:=[.tmp 4]) rfl ntmps180 (by simp) call180 (by kernel_rfl) (fun ha hb=> .int _ _) (fun hb ha=> ?_)
 refine jD pok fun cv=> ?_
 have hlen:=qR hsm
 refine R0 ?_
 refine qY (fun i=>∀j,j<i->∀x,xs[j]? =some x->p x=false) (xs.length) (fun i=>[(0,lst xs),(1, .func (.func g) #[] caps),(7, .int .i64 xs.length),(8, .int .i64 i)]) (by simp) (by simp only[go_sem,push_cast,qB,qA]) ?_
 intro i Bi hIi hii hBi
 refine cv (by kernel_rfl) ?_
 rcases xM i (xs.length)with hlti|hgei
 ·have e1:xs[i]? =some xs[i]:=xA hlti
  refine R e1 ?_
  refine hg _ (xH hlti) _ (by omega) _ ?_
  refine R e1 ?_
  exact⟨fun h=>by rw[zM hlti hIi h],fun h=>fun j hj x hx=>by
   by_cases e:j=i
   ·subst e;rw[e1]at hx;cases hx;simpa using h
   ·exact hIi j (by omega) x hx⟩
 ·refine R0 ?_
  refine cv (by kernel_rfl) ?_
  refine R0 ?_
  rw[zL fun j hj x hx=>hIi j (by omega) x hx]
theorem G134(g:Nat)(caps:Array Value)(p:List UInt8->Bool)(xs:List (List UInt8))(H:AH)(Bd:Nat)(K:Value->AH->Nat->Prop)(hsm:sm xs)(hg:∀x∈xs,∀B,Bd<=B->∀K':Value->AH->Nat->Prop,K' (.bool (p x)) H B->SCalls Tryz.prog g (idS ((lst (x))::caps.toList)) H B K')(hK:K (.bool (xs.any p)) H Bd):SCalls Tryz.prog 134 [lst xs, .func (.func g) #[] caps] H Bd K:=by
 refine yC pok (Env.base _) [] _ hK func134 rfl (rs:=[.tmp 4]) rfl ntmps134 (by simp) call134 (by kernel_rfl) (fun ha hb=> .bool _) (fun hb ha=> ?_)
 refine R0 ?_
 refine G180 _ _ p xs _ _ _ hsm hg ?_
 refine R0 ?_
 exact fidx_ge p xs
def W135:qH:=fun args H Bd K=>∃(x:List UInt8),args=[lst x]/\((sm x)/\K (.bool (decide (x.length≠96))) H Bd)
theorem W135_ok:OK 135 W135:=by
 rintro args H Bd K ⟨x,rfl,hpre,hK⟩
 refine fnp pok (Env.base _) [] hK func135 ntmps135 call135 [.tmp 2] fun hb ha=> ?_
 have hlen:=qR hpre
 refine R0 ?_
 all_goals first|done|trivial|((try simp only[Cnp,Imp]);grind)
def V134_135:qH:=fun args H Bd K=>∃(xs:List (List UInt8)),args=[lst xs]/\((sm xs/\∀x∈xs,sm x)/\K (.bool (xs.any (fun x:List UInt8=>decide (x.length≠96)))) H Bd)
@[go_sem ↓] theorem V134_135_eq (a:List (List UInt8)):V134_135 [lst a] H Bd K=((sm a/\∀x∈a,sm x)/\K (.bool (a.any (fun x:List UInt8=>decide (x.length≠96)))) H Bd):=ex1 a rfl
def W134_135:qH:=fun args H Bd K=>∃(vxs:Value),args=[vxs, .func (.func 135) #[] #[]]/\qP V134_135 [vxs] H Bd K
@[go_sem ↓] theorem W134_135_eq (a:Value):W134_135 [a, .func (.func 135) #[] #[]] H Bd K=(qP V134_135 (idS [a]) H Bd K):=by
 refine propext ⟨fun h=> ?_,fun h=>⟨_,rfl,h⟩⟩
 obtain⟨vxs',e,h⟩:=h
 simp only[xG,Value.func.injEq,jB,xG,and_true,true_and]at e
 obtain rfl:=e
 exact h
theorem W134_135_ok:OK 134 W134_135:=by
 rintro args H Bd K ⟨vxs,rfl,h⟩
 obtain⟨xs,e,hpre,hK⟩:=h
 simp only[xG,and_true]at e
 obtain rfl:=e
 refine G134 135 #[] (fun x:List UInt8=>decide (x.length≠96)) xs H Bd K hpre.1 (fun x hx B hB K' hk=> ?_) hK
 exact W135_ok _ _ _ _ ⟨x,rfl,hpre.2 x hx,hk⟩
def W103:qH:=fun args H Bd K=>∃(d:GDisk) (n:Int),args=[.agg (enc d).toArray, .int .i64 n]/\((sm d)/\K (.bool (decide (0<=n/\n<=(d.sectors.length:Int)-1))) H Bd)
@[go_sem ↓] theorem W103_eq (a:List (List UInt8)) (b:List GPut) (c:Int):W103 [.agg #[lst a,lst b], .int .i64 c] H Bd K=((sm (GDisk.mk a b))/\K (.bool (decide (0<=c/\c<=((GDisk.mk a b).sectors.length:Int)-1))) H Bd):=ex2 (GDisk.mk a b) c rfl
theorem W103_ok:OK 103 W103:=by
 rintro args H Bd K ⟨d,n,rfl,hpre,hK⟩
 refine fnp pok ((Env.base _).add 133 _ W133_ok) [] hK func103 ntmps103 call103 [.tmp 4] fun hb ha=> ?_
 have h1:=hpre
 simp only[sm_GDisk]at h1
 have hlen:=qR h1.1
 refine R0 ?_
 all_goals first|done|trivial|((try simp only[Cnp,Imp]);grind)
theorem G181(g:Nat)(caps:Array Value)(p:GPut->Bool)(xs:List GPut)(H:AH)(Bd:Nat)(K:Value->AH->Nat->Prop)(hsm:sm xs)(hg:∀x∈xs,∀B,Bd<=B->∀K':Value->AH->Nat->Prop,K' (.bool (p x)) H B->SCalls Tryz.prog g (idS ((.agg (enc (x)).toArray)::caps.toList)) H B K')(hK:K (.int .i64 (fidx p xs)) H Bd):SCalls Tryz.prog 181 [lst xs, .func (.func g) #[] caps] H Bd K:=by
 refine yC pok (Env.base _) [] _ hK func181 rfl (rs:=[.tmp 4]) rfl ntmps181 (by simp) call181 (by kernel_rfl) (fun ha hb=> .int _ _) (fun hb ha=> ?_)
 refine jD pok fun cv=> ?_
 have hlen:=qR hsm
 refine R0 ?_
 refine qY (fun i=>∀j,j<i->∀x,xs[j]? =some x->p x=false) (xs.length) (fun i=>[(0,lst xs),(1, .func (.func g) #[] caps),(7, .int .i64 xs.length),(8, .int .i64 i)]) (by simp) (by simp only[go_sem,push_cast,qB,qA]) ?_
 intro i Bi hIi hii hBi
 refine cv (by kernel_rfl) ?_
 rcases xM i (xs.length)with hlti|hgei
 ·have e1:xs[i]? =some xs[i]:=xA hlti
  refine R e1 ?_
  refine hg _ (xH hlti) _ (by omega) _ ?_
  refine R e1 ?_
  exact⟨fun h=>by rw[zM hlti hIi h],fun h=>fun j hj x hx=>by
   by_cases e:j=i
   ·subst e;rw[e1]at hx;cases hx;simpa using h
   ·exact hIi j (by omega) x hx⟩
 ·refine R0 ?_
  refine cv (by kernel_rfl) ?_
  refine R0 ?_
  rw[zL fun j hj x hx=>hIi j (by omega) x hx]
def V182:qH:=fun args H Bd K=>∃(x:GPut) (n:Int),args=[.agg (enc x).toArray, .agg (enc n).toArray]/\(K (.bool (decide (x.sector=n))) H Bd)
def W182:qH:=fun args H Bd K=>∃(vx pn:Value),args=[vx,pn]/\Yld (qI H 1 pn) fun cn=>qP V182 [vx, .agg cn.toArray] H Bd K
theorem W182_ok:OK 182 W182:=by
 rintro args H Bd K ⟨vx,pn,rfl,cn,en,h⟩
 obtain⟨x,n,e,hK⟩:=h
 simp only[xG,and_true]at e
 obtain⟨rfl,En⟩:=e
 obtain rfl:=qX En
 refine fnp pok (Env.base _) [] hK func182 ntmps182 call182 [.tmp 3] fun hb ha=> ?_
 have Pn:=qM en (NB.vpok (ha pn (by simp)))
 simp only[jN,jP,jF,jH,jC]at Pn
 have Zn:=Pn.all 1 rfl
 have Yn:=jJ (ha pn (by simp))
 exact R Zn trivial
end Go.Proofs.YtogofkjpbpgneaaGreatDoor
