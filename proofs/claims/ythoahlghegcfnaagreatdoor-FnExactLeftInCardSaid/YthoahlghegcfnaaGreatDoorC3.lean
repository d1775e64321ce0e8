/- YthoahlghegcfnaaGreatDoorC3 -/
import Derived.Test.YthoahlghegcfnaaGreatDoorC2
set_option linter.unusedSimpArgs false
set_option linter.unusedVariables false
set_option maxRecDepth 20000
namespace Go.Proofs.YthoahlghegcfnaaGreatDoor
open Go Go.SC
variable {H:AH} {Bd:Nat} {K:Value→AH→Nat→Prop}
def W325:qJ:=fun args H Bd K=>∃(t:List Int) (n:Int),args=[lst t, .int .i64 n]∧((sm t)∧K (.int .i64 ((t.count n:Int))) H Bd)
@[go_sem ↓] theorem W325_eq (t:List Int) (n:Int):W325 [lst t, .int .i64 n] H Bd K=((sm t)∧K (.int .i64 ((t.count n:Int))) H Bd):=ex2 t n rfl
theorem W325_ok:OK 325 W325:=by
 rintro args H Bd K ⟨t,n,rfl,hpre,hK⟩
 refine fnp pok (Env.base _) [] hK Tryz.func325 Tryz.ntmps325 Tryz.call325 [.tmp 4] fun hb ha=> ?_
 refine jH pok fun cv=> ?_
 have hlt2:=qY hpre
 refine R0 ?_
 refine jB (fun i=>True) (t.length) (fun i=>[(0,lst t),(1, .int .i64 n),(5, .int .i64 ((t.take i).count n:Nat)),(6, .int .i64 i)]) (trivial) (by simp only[go_sem,push_cast,qB,qA,List.take_zero,List.count_nil]) ?_
 intro i Bi hIi hii hBi
 refine cv (by kernel_rfl) ?_
 rcases Nat.lt_or_ge i (t.length)with hlti|hgei
 ·have e1:t[i]? =some t[i]:=List.getElem?_eq_getElem hlti
  have hst:(t.take (i+1)).count n=(t.take i).count n+if t[i]=n then 1 else 0:=by
   rw[List.take_succ_eq_append_getElem hlti,List.count_append,List.count_singleton]
   simp
  have hle:(t.take i).count n≤i:=by have:=List.count_le_length (a:=n) (l:=t.take i);rw[List.length_take]at this;omega
  refine R e1 ?_
  refine⟨fun h=> ?_,fun h=> ?_⟩
  ·rw[if_pos h]at hst;rw[hst];omega
  ·rw[if_neg h]at hst;rw[hst];rfl
 ·refine R0 ?_
  refine cv (by kernel_rfl) ?_
  refine R0 ?_
  rw[List.take_of_length_le hgei]
def V286:qJ:=fun args H Bd K=>∃(s:GSignature) (l:List GEquation),args=[.agg (enc s).toArray,lst l]∧((sm s∧sm l∧rg l∧yK s=0)∧K (.int .i64 (vC s l)) H Bd)
@[go_sem ↓] theorem V286_eq (s_symbols:List GSymbol) (l:List GEquation):V286 [.agg #[lst s_symbols],lst l] H Bd K=((sm (GSignature.mk s_symbols)∧sm l∧rg l∧yK (GSignature.mk s_symbols)=0)∧K (.int .i64 (vC (GSignature.mk s_symbols) l)) H Bd):=ex2 (GSignature.mk s_symbols) l rfl
def W286:qJ:=fun args H Bd K=>∃(ps vl:Value),args=[ps,vl]∧Yld (qK H 1 ps) fun cs=>qS V286 [.agg cs.toArray,vl] H Bd K
@[go_sem ↓] theorem W286_eq (ps vl:Value):W286 [ps,vl] H Bd K=(Yld (qK H 1 ps) fun cs=>qS V286 (idS [.agg cs.toArray,vl]) H Bd K):=by
 refine propext ⟨fun h=> ?_,fun h=>⟨_,_,rfl,h⟩⟩
 obtain⟨ps',vl',e,h⟩:=h
 simp only[List.cons.injEq,and_true]at e
 obtain⟨rfl,rfl⟩:=e
 exact h
set_option maxHeartbeats 2000000 in
theorem W286_ok:OK 286 W286:=by
 rintro args H Bd K ⟨ps,vl,rfl,cs,es,h⟩
 obtain⟨s,l,e,hpre,hK⟩:=h
 simp only[List.cons.injEq,and_true]at e
 obtain⟨Es,rfl⟩:=e
 obtain rfl:=qZ Es
 refine fnp pok (((Env.base _).add 285 _ W285_ok).add 325 _ W325_ok) [(13,[],[],(.k 3 (.grp true 49 57 8 [50,51,52,53,54,55,56,57] 58 none (.k 8 .nil) .nil)))] hK Tryz.func286 Tryz.ntmps286 Tryz.call286 [.tmp 4] fun hb ha=> ?_
 have Ps:=qO es (NB.vpok (ha ps (by simp)))
 simp only[qP]at Ps
 have Zs:=Ps.all 1 rfl
 have Ys:=jJ (ha ps (by simp))
 refine jH pok fun cv=> ?_
 obtain⟨h1,h2,h3,h4⟩:=hpre
 have hlt2:=qY h2
 refine R (cj Zs (cj h1 (cj h2 (cj h3 h4)))) ?_
 refine⟨fun hq=> ?_,fun hq=> ?_⟩
 ·have hv:vC s l=if l.all ruleOK=true then 0 else 1:=by unfold vC;rw[if_neg (by simp[hq])]
  have hall:=(eqsG_zero hq).2
  rw[hv]
  refine jB (fun i=>∀j,j<i→∀y,l[j]? =some y→ruleOK y=true) (l.length) (fun i=>[(0,ps),(1,lst l),(6, .int .i64 i)]) (fun j hj=>absurd hj (Nat.not_lt_zero _)) (by simp only[go_sem,push_cast,qB,qA]) ?_
  intro i Bi hIi hii hBi
  refine cv (by kernel_rfl) ?_
  rcases Nat.lt_or_ge i (l.length)with hlti|hgei
  ·have e1:l[i]? =some l[i]:=List.getElem?_eq_getElem hlti
   have h5:=kC h2 (List.getElem_mem hlti)
   simp only[vY]at h5
   have h51:=h5.1
   have hlr:=qY h5.2
   have hok:=zG (hall _ (List.getElem_mem hlti))
   have hl0:=hok.1.len.1
   have e2:l[i].left[0]? =some l[i].left[0]:=List.getElem?_eq_getElem (by omega)
   have e3:l[i].left.headD 0=l[i].left[0]:=headD_get hl0
   refine R (cj Zs (cj e1 e2)) ?_
   refine⟨fun h=> ?_,fun h=> ?_⟩
   ·rw[if_neg]
    intro hc
    have:=List.all_eq_true.1 hc _ (List.getElem_mem hlti)
    unfold ruleOK at this
    rw[e3]at this
    simp only[Bool.and_eq_true,decide_eq_true_eq]at this
    omega
   ·refine jB (fun j=>∀k,k<j→∀y,l[i].right[k]? =some y→varOK l[i] y=true) (l[i].right.length) (fun j=>[(0,ps),(1,lst l),(6, .int .i64 i),(7, .int .i64 j)]) (fun k hk=>absurd hk (Nat.not_lt_zero _)) (by simp only[go_sem,push_cast,qB,qA]) ?_
    intro j Bj hIj hij hBj
    refine cv (by kernel_rfl) ?_
    rcases Nat.lt_or_ge j (l[i].right.length)with hltj|hgej
    ·have e4:l[i].right[j]? =some l[i].right[j]:=List.getElem?_eq_getElem hltj
     refine R (cj Zs (cj e1 (cj e4 h51))) ?_
     refine⟨fun a1 a2=> ?_,fun a1 k hk y hy=> ?_⟩
     ·rw[if_neg]
      intro hc
      have h9:=List.all_eq_true.1 hc _ (List.getElem_mem hlti)
      unfold ruleOK at h9
      simp only[Bool.and_eq_true]at h9
      have h10:=List.all_eq_true.1 h9.2 _ (List.getElem_mem hltj)
      unfold varOK at h10
      simp only[decide_eq_true_eq]at h10
      omega
     ·by_cases e:k=j
      ·subst e;rw[e4]at hy;cases hy
       unfold varOK
       rw[decide_eq_true_eq]
       omega
      ·exact hIj k (by omega) y hy
    ·refine R (cj Zs e1) ?_
     intro k hk y hy
     by_cases e:k=i
     ·subst e;rw[e1]at hy;cases hy
      unfold ruleOK
      rw[e3,Bool.and_eq_true,decide_eq_true_eq]
      refine⟨by omega,all_yes fun x hx=> ?_⟩
      obtain⟨m,hm,rfl⟩:=List.getElem_of_mem hx
      exact hIj m (by omega) _ (List.getElem?_eq_getElem hm)
     ·exact hIi k (by omega) y hy
  ·refine R Zs ?_
   refine cv (by kernel_rfl) ?_
   refine R Zs ?_
   rw[if_pos (all_yes fun x hx=>by
    obtain⟨j,hj,rfl⟩:=List.getElem_of_mem hx
    exact hIi j (by omega) _ (List.getElem?_eq_getElem hj))]
 ·unfold vC;rw[if_pos hq]
def V383:qJ:=fun args H Bd K=>∃(s:GSignature) (t:List Int) (a:Int),args=[.agg (enc s).toArray,lst t, .int .i64 a]∧((sm s∧sm t∧yK s=0∧nodes s t∧0≤a∧a<t.length∧0≤ep s t 1 a.toNat∧0≤t.getD a.toNat 0)∧K (lst (argsP s t a.toNat (arN s (t.getD a.toNat 0)))) H Bd)
@[go_sem ↓] theorem V383_eq (s_symbols:List GSymbol) (t:List Int) (a:Int):V383 [.agg #[lst s_symbols],lst t, .int .i64 a] H Bd K=((sm (GSignature.mk s_symbols)∧sm t∧yK (GSignature.mk s_symbols)=0∧nodes (GSignature.mk s_symbols) t∧0≤a∧a<t.length∧0≤ep (GSignature.mk s_symbols) t 1 a.toNat∧0≤t.getD a.toNat 0)∧K (lst (argsP (GSignature.mk s_symbols) t a.toNat (arN (GSignature.mk s_symbols) (t.getD a.toNat 0)))) H Bd):=ex3 (GSignature.mk s_symbols) t a rfl
def W383:qJ:=fun args H Bd K=>∃(ps vt va:Value),args=[ps,vt,va]∧Yld (qK H 1 ps) fun cs=>qS V383 [.agg cs.toArray,vt,va] H Bd K
@[go_sem ↓] theorem W383_eq (ps vt va:Value):W383 [ps,vt,va] H Bd K=(Yld (qK H 1 ps) fun cs=>qS V383 (idS [.agg cs.toArray,vt,va]) H Bd K):=by
 refine propext ⟨fun h=> ?_,fun h=>⟨_,_,_,rfl,h⟩⟩
 obtain⟨ps',vt',va',e,h⟩:=h
 simp only[List.cons.injEq,and_true]at e
 obtain⟨rfl,rfl,rfl⟩:=e
 exact h
set_option maxHeartbeats 2000000 in
theorem W383_ok:OK 383 W383:=by
 rintro args H Bd K ⟨ps,vt,va,rfl,cs,es,h⟩
 obtain⟨s,t,a,e,hpre,hK⟩:=h
 simp only[List.cons.injEq,and_true]at e
 obtain⟨Es,rfl,rfl⟩:=e
 obtain rfl:=qZ Es
 refine fnp pok ((Env.base _).add 258 _ W258_ok) [(4,[0,1,2,3,4,5,6,7,8,9,10,11,12],[⟨0,[],[]⟩,⟨1,[],[]⟩,⟨2,[],[]⟩,⟨3,[],[]⟩,⟨4,[],[]⟩,⟨5,[],[]⟩,⟨6,[],[]⟩,⟨7,[],[]⟩,⟨8,[],[]⟩,⟨9,[],[]⟩,⟨10,[],[]⟩,⟨11,[],[]⟩,⟨12,[],[]⟩], .nil)] hK Tryz.func383 Tryz.ntmps383 Tryz.call383 [.tmp 6] fun hb ha=> ?_
 have Ps:=qO es (NB.vpok (ha ps (by simp)))
 simp only[qP]at Ps
 have Zs:=Ps.all 1 rfl
 have Ys:=jJ (ha ps (by simp))
 refine jH pok fun cv=> ?_
 obtain⟨h1,h2,h3,h4,h5,h6,h8,h9⟩:=hpre
 have hss:sm s:=h1
 have hlt2:=qY h2
 have hs:=yW h3
 obtain⟨a,rfl⟩:=Int.eq_ofNat_of_zero_le h5
 simp only[Int.toNat_natCast]at h8 h9
 have hlt:a<t.length:=by omega
 have e1:t[a]? =some t[a]:=List.getElem?_eq_getElem hlt
 have e3:t.getD a 0=t[a]:=by rw[List.getD_eq_getElem?_getD,e1];rfl
 rw[e3]at h9
 have hn:=h4 _ (List.getElem_mem hlt)
 have e4:t[a].toNat<s.symbols.length:=by omega
 have e2:s.symbols[t[a].toNat]? =some s.symbols[t[a].toNat]:=List.getElem?_eq_getElem e4
 have ha:=hs.nm _ (List.getElem_mem e4)
 have har:=arN_sym (s:=s) h9 e2
 rw[ep_node 0 e1,Nat.zero_add,har]at h8
 have e5:argsP s t a (arN s (t.getD a 0))=argsP s t a s.symbols[t[a].toNat].arity.toNat:=by rw[e3,har]
 refine R (cj Zs e5) ?_
 refine tr_acc (α:=Int) (H0:=H) (B0:=Bd) (n0:=Bd) (s.symbols[t[a].toNat].arity.toNat) (fun i=>argsP s t a i) (fun i out=>[(0,ps),(1,lst t),(2, .int .i64 a),(7,out),(8, .int .i64 (ep s t i (a+1))),(9, .int .i64 i)]) (Nat.le_refl 1) ⟨by omega,by omega⟩ (by simp only[go_sem,push_cast,qB,qA,argsP_zero,ep_zero (show a+1≤t.length by omega)]) (by simp (disch:=first|assumption|omega) only[go_sem,push_cast,qB,qA,jC,argsP_zero,ep_zero (show a+1≤t.length by omega)]) ?_
 intro i ni ci Bi hii hci hni hmi hBi hbi
 refine cv (by kernel_rfl) ?_
 have hzi:(ci=0)=False:=eq_false (by omega)
 rcases Nat.lt_or_ge i (s.symbols[t[a].toNat].arity.toNat)with hlti|hgei
 ·obtain⟨m,q1,q2,q3,q4,q5⟩:=arg_at hlt h8 hlti
  have hcv:((a:Int)+1+m).toNat=a+1+m:=by omega
  have hst:=argsP_succ s t a i
  rw[q3]at hst
  have hl3:=argsP_len s t a i
  have hc:(i:Int)<s.symbols[t[a].toNat].arity:=by omega
  simp (maxSteps:=2000000) (disch:=first|assumption|(refine qI ?_;assumption)|exact Nat.le_add_right _ _|exact Nat.le_refl _|omega|(simp (disch:=first|exact Nat.le_add_right _ _|omega) only[qG hb,qR hb,qM,qE hb,qC];done)|fail) only[go_sem,push_cast,qB,qA,qG hb,qE hb,Zs,e1,e2,h9,hc,q3,q4,hcv,hss,h2,h3,h4,hzi,hst,qL,qU]
  exact acc_end (by omega) (by omega) (by simp) rfl (by simp (disch:=first|assumption|omega|(simp (disch:=omega) only[qC,qE hb];done)) only[yF,qA,qM,qC,qE hb])
 ·have hc:¬(i:Int)<s.symbols[t[a].toNat].arity:=by omega
  refine R (cj Zs (cj e1 (cj e2 (cj h9 hc)))) ?_
  refine Tr.fin2 7 (by simp (disch:=first|assumption|omega) only[qC,qE hb]) (by simp only[go_sem,push_cast,qB,qA];rfl) rfl ?_
  refine cv (by kernel_rfl) ?_
  rw[←show i=s.symbols[t[a].toNat].arity.toNat by omega]
  exact R Zs trivial
def W387:qJ:=fun args H Bd K=>∃(xs:List Int) (ys:List Int),args=[lst xs,lst ys]∧((sm xs)∧K (.bool (decide (xs=ys))) H Bd)
@[go_sem ↓] theorem W387_eq (xs:List Int) (ys:List Int):W387 [lst xs,lst ys] H Bd K=((sm xs)∧K (.bool (decide (xs=ys))) H Bd):=ex2 xs ys rfl
theorem W387_ok:OK 387 W387:=by
 rintro args H Bd K ⟨xs,ys,rfl,hpre,hK⟩
 refine fnp pok (Env.base _) [(6,[0,1,2,3,4,5,6,7,8],[⟨0,[],[]⟩,⟨1,[],[]⟩,⟨2,[],[]⟩,⟨3,[],[]⟩,⟨4,[],[]⟩,⟨5,[],[]⟩,⟨6,[],[]⟩,⟨7,[],[]⟩,⟨8,[],[]⟩], .nil)] hK Tryz.func387 Tryz.ntmps387 Tryz.call387 [.tmp 4] fun hb ha=> ?_
 refine jH pok fun cv=> ?_
 have hlen:=qY hpre
 simp (maxSteps:=2000000) (disch:=first|assumption|(refine qI ?_;assumption)|exact Nat.le_add_right _ _|exact Nat.le_refl _|omega|(simp (disch:=first|exact Nat.le_add_right _ _|omega) only[qG hb,qR hb,qM,qE hb,qC];done)|fail) only[go_sem,push_cast,qB,qA,qG hb,qE hb]
 refine Cnp.of (fun hl=> ?_) (fun hl=>cmp_len (by omega))
 have hl':xs.length=ys.length:=by omega
 refine jB (fun i=>∀j,j<i→xs[j]? =ys[j]?) xs.length (fun i=>[(0,lst xs),(1,lst ys),(5, .int .i64 i)]) (fun j h=>by omega) (by simp only[go_sem,push_cast,qB,qA]) ?_
 intro i B0 hI hi hB
 refine cv (by kernel_rfl) ?_
 rcases Nat.lt_or_ge i xs.length with hlt|hge
 ·have e1:xs[i]? =some xs[i]:=List.getElem?_eq_getElem hlt
  have e2:ys[i]? =some (ys[i]'(by omega)):=List.getElem?_eq_getElem _
  have hx:=kC hpre (List.getElem_mem hlt)
  simp (maxSteps:=2000000) (disch:=first|assumption|(refine qI ?_;assumption)|exact Nat.le_add_right _ _|exact Nat.le_refl _|omega|(simp (disch:=first|exact Nat.le_add_right _ _|omega) only[qG hb,qR hb,qM,qE hb,qC];done)|fail) only[go_sem,push_cast,qB,qA,qG hb,qE hb,e1,e2,hx]
  exact cmp_step hl' hI hlt (by omega) rfl fun h=>h
 ·simp (maxSteps:=2000000) (disch:=first|assumption|(refine qI ?_;assumption)|exact Nat.le_add_right _ _|exact Nat.le_refl _|omega|(simp (disch:=first|exact Nat.le_add_right _ _|omega) only[qG hb,qR hb,qM,qE hb,qC];done)|fail) only[go_sem,push_cast,qB,qA,qG hb,qE hb]
  refine cv (by kernel_rfl) ?_
  simp (maxSteps:=2000000) (disch:=first|assumption|(refine qI ?_;assumption)|exact Nat.le_add_right _ _|exact Nat.le_refl _|omega|(simp (disch:=first|exact Nat.le_add_right _ _|omega) only[qG hb,qR hb,qM,qE hb,qC];done)|fail) only[go_sem,push_cast,qB,qA,qG hb,qE hb]
  exact cmp_end hl' hI hge
def V384:qJ:=fun args H Bd K=>∃(s:GSignature) (t:List Int) (a:Int) (u:List Int) (b:Int),args=[.agg (enc s).toArray,lst t, .int .i64 a,lst u, .int .i64 b]∧((sm s∧sm t∧sm u∧yK s=0∧nodes s t∧nodes s u∧0≤a∧a≤t.length∧0≤b∧b≤u.length∧0≤ep s t 1 a.toNat∧0≤ep s u 1 b.toNat)∧K (.bool (decide (subT s t a.toNat=subT s u b.toNat))) H Bd)
@[go_sem ↓] theorem V384_eq (s_symbols:List GSymbol) (t:List Int) (a:Int) (u:List Int) (b:Int):V384 [.agg #[lst s_symbols],lst t, .int .i64 a,lst u, .int .i64 b] H Bd K=((sm (GSignature.mk s_symbols)∧sm t∧sm u∧yK (GSignature.mk s_symbols)=0∧nodes (GSignature.mk s_symbols) t∧nodes (GSignature.mk s_symbols) u∧0≤a∧a≤t.length∧0≤b∧b≤u.length∧0≤ep (GSignature.mk s_symbols) t 1 a.toNat∧0≤ep (GSignature.mk s_symbols) u 1 b.toNat)∧K (.bool (decide (subT (GSignature.mk s_symbols) t a.toNat=subT (GSignature.mk s_symbols) u b.toNat))) H Bd):=ex5 (GSignature.mk s_symbols) t a u b rfl
def W384:qJ:=fun args H Bd K=>∃(ps vt va vu vb:Value),args=[ps,vt,va,vu,vb]∧Yld (qK H 1 ps) fun cs=>qS V384 [.agg cs.toArray,vt,va,vu,vb] H Bd K
@[go_sem ↓] theorem W384_eq (ps vt va vu vb:Value):W384 [ps,vt,va,vu,vb] H Bd K=(Yld (qK H 1 ps) fun cs=>qS V384 (idS [.agg cs.toArray,vt,va,vu,vb]) H Bd K):=by
 refine propext ⟨fun h=> ?_,fun h=>⟨_,_,_,_,_,rfl,h⟩⟩
 obtain⟨ps',vt',va',vu',vb',e,h⟩:=h
 simp only[List.cons.injEq,and_true]at e
 obtain⟨rfl,rfl,rfl,rfl,rfl⟩:=e
 exact h
theorem W384_ok:OK 384 W384:=by
 rintro args H Bd K ⟨ps,vt,va,vu,vb,rfl,cs,es,h⟩
 obtain⟨s,t,a,u,b,e,hpre,hK⟩:=h
 simp only[List.cons.injEq,and_true]at e
 obtain⟨Es,rfl,rfl,rfl,rfl⟩:=e
 obtain rfl:=qZ Es
 refine fnp pok (((Env.base _).add 258 _ W258_ok).add 387 _ W387_ok) [(1,[0,1,2,3,4,7,8,9,10,11,5,6,12,13,14,15],[⟨0,[],[]⟩,⟨1,[],[]⟩,⟨2,[],[]⟩,⟨3,[],[]⟩,⟨4,[],[]⟩,⟨7,[],[]⟩,⟨8,[],[]⟩,⟨9,[],[]⟩,⟨10,[],[]⟩,⟨11,[],[]⟩,⟨5,[],[]⟩,⟨6,[],[]⟩,⟨12,[],[]⟩,⟨13,[],[]⟩,⟨14,[],[]⟩,⟨15,[],[]⟩], .nil)] hK Tryz.func384 Tryz.ntmps384 Tryz.call384 [.tmp 10] fun hb ha=> ?_
 have Ps:=qO es (NB.vpok (ha ps (by simp)))
 simp only[qP]at Ps
 have Zs:=Ps.all 1 rfl
 have Ys:=jJ (ha ps (by simp))
 obtain⟨h1,h2,h3,h4,h5,h6,h7,h8,h9,h10,h11,h12⟩:=hpre
 obtain⟨a,rfl⟩:=Int.eq_ofNat_of_zero_le h7
 obtain⟨b,rfl⟩:=Int.eq_ofNat_of_zero_le h9
 simp only[Int.toNat_natCast]at h11 h12
 rcases ep_cases (s:=s) (t:=t) 1 (show a≤t.length by omega)with⟨q1,_⟩|⟨m,q1,q2,q3,_⟩
 ·omega
 rcases ep_cases (s:=s) (t:=u) 1 (show b≤u.length by omega)with⟨r1,_⟩|⟨n,r1,r2,r3,_⟩
 ·omega
 have hst:=sm_drop h2 a
 have hsu:=sm_drop h3 b
 refine R (cj Zs (cj h1 (cj h2 (cj h3 (cj h4 (cj h5 (cj h6 (cj q3 r3)))))))) ?_
 have c1:((a:Int)+m).toNat=a+m:=by omega
 have c2:((b:Int)+n).toNat=b+n:=by omega
 have d1:subT s t a=(t.take (a+m)).drop a:=by unfold subT;rw[q3,Int.toNat_natCast,List.drop_take]
 have d2:subT s u b=(u.take (b+n)).drop b:=by unfold subT;rw[r3,Int.toNat_natCast,List.drop_take]
 rw[c1,c2]
 refine⟨sm_drop (sm_take h2 _) _,?_⟩
 simp only[d1,d2]
def W385:qJ:=fun args H Bd K=>∃(order:List Int) (n:Int),args=[lst order, .int .i64 n]∧((sm order)∧K (.int .i64 (rk order n)) H Bd)
@[go_sem ↓] theorem W385_eq (order:List Int) (n:Int):W385 [lst order, .int .i64 n] H Bd K=((sm order)∧K (.int .i64 (rk order n)) H Bd):=ex2 order n rfl
theorem W385_ok:OK 385 W385:=by
 rintro args H Bd K ⟨order,n,rfl,hpre,hK⟩
 refine fnp pok (Env.base _) [] hK Tryz.func385 Tryz.ntmps385 Tryz.call385 [.tmp 4] fun hb ha=> ?_
 refine jH pok fun cv=> ?_
 have hlen:=qY hpre
 refine R0 ?_
 refine jB (fun i=>∀j,j<i→∀x,order[j]? =some x→decide (n=x)=false) (order.length) (fun i=>[(0,lst order),(1, .int .i64 n),(5, .int .i64 i)]) (by simp) (by simp only[go_sem,push_cast,qB,qA]) ?_
 intro i Bi hIi hii hBi
 refine cv (by kernel_rfl) ?_
 rcases Nat.lt_or_ge i (order.length)with hlti|hgei
 ·have e1:order[i]? =some order[i]:=List.getElem?_eq_getElem hlti
  refine R e1 ?_
  unfold rk
  exact⟨fun h=>by rw[vU hlti hIi (by simpa using h.symm)],fun h=>fun j hj x hx=>by
   by_cases e:j=i
   ·subst e;rw[e1]at hx;cases hx;simpa using fun e=>h e.symm
   ·simpa using hIi j (by omega) x hx⟩
 ·refine R0 ?_
  refine cv (by kernel_rfl) ?_
  refine R0 ?_
  unfold rk
  rw[vR fun j hj x hx=>hIi j (by omega) x hx]
def V374:qJ:=fun args H Bd K=>∃(s:GSignature) (order:List Int) (a:List Int) (b:List Int) (i:Int) (j:Int) (above:Own),args=[.agg (enc s).toArray,lst order,lst a,lst b, .int .i64 i, .int .i64 j, .slice (some ⟨(above).n,0,some 1⟩) (above).len (above).cap]∧(Yld (H above.n) fun b0=>((sm s∧sm order∧sm a∧sm b∧yK s=0)∧(nodes s a∧nodes s b∧zE s a∧zE s b)∧(0≤i∧i<a.length∧0≤j∧j<b.length)∧(a.length≤24∧b.length≤24)∧tabOK s order a b i.toNat j.toNat b0.cells∧above.len=a.length*b.length)∧K (.bool (gt s order a b i.toNat j.toNat)) H Bd)
@[go_sem ↓] theorem V374_eq (s_symbols:List GSymbol) (order:List Int) (a:List Int) (b:List Int) (i:Int) (j:Int) (above_n:Nat) (above_l:Nat) (above_c:Nat):V374 [.agg #[lst s_symbols],lst order,lst a,lst b, .int .i64 i, .int .i64 j, .slice (some ⟨above_n,0,some 1⟩) above_l above_c] H Bd K=(Yld (H above_n) fun b0=>((sm (GSignature.mk s_symbols)∧sm order∧sm a∧sm b∧yK (GSignature.mk s_symbols)=0)∧(nodes (GSignature.mk s_symbols) a∧nodes (GSignature.mk s_symbols) b∧zE (GSignature.mk s_symbols) a∧zE (GSignature.mk s_symbols) b)∧(0≤i∧i<a.length∧0≤j∧j<b.length)∧(a.length≤24∧b.length≤24)∧tabOK (GSignature.mk s_symbols) order a b i.toNat j.toNat b0.cells∧above_l=a.length*b.length)∧K (.bool (gt (GSignature.mk s_symbols) order a b i.toNat j.toNat)) H Bd):=by
 refine propext ⟨fun h=> ?_,fun h=>⟨_,_,_,_,_,_,(Own.mk above_n above_l above_c),rfl,h⟩⟩
 obtain⟨s',order',a',b',i',j',above',e,h⟩:=h
 obtain⟨ssymbols'⟩:=s'
 skip
 skip
 skip
 skip
 skip
 obtain⟨aboven',abovel',abovec'⟩:=above'
 simp only[qP,jS,jX,jI,jL,jD,List.cons.injEq,Value.agg.injEq,jE,Value.int.injEq,Value.bool.injEq,Value.string.injEq,Value.slice.injEq,Value.func.injEq,Value.pointer.injEq,Option.some.injEq,Addr.mk.injEq,lst_inj,true_and,and_true]at e
 obtain⟨rfl,rfl,rfl,rfl,rfl,rfl,⟨rfl,rfl,rfl⟩⟩:=e
 exact h
def W374:qJ:=fun args H Bd K=>∃(ps vorder va vb vi vj vabove:Value),args=[ps,vorder,va,vb,vi,vj,vabove]∧Yld (qK H 1 ps) fun cs=>qS V374 [.agg cs.toArray,vorder,va,vb,vi,vj,vabove] H Bd K
@[go_sem ↓] theorem W374_eq (ps vorder va vb vi vj vabove:Value):W374 [ps,vorder,va,vb,vi,vj,vabove] H Bd K=(Yld (qK H 1 ps) fun cs=>qS V374 (idS [.agg cs.toArray,vorder,va,vb,vi,vj,vabove]) H Bd K):=by
 refine propext ⟨fun h=> ?_,fun h=>⟨_,_,_,_,_,_,_,rfl,h⟩⟩
 obtain⟨ps',vorder',va',vb',vi',vj',vabove',e,h⟩:=h
 simp only[List.cons.injEq,and_true]at e
 obtain⟨rfl,rfl,rfl,rfl,rfl,rfl,rfl⟩:=e
 exact h
set_option maxHeartbeats 2000000 in
theorem W374_ok:OK 374 W374:=by
 rintro args H Bd K ⟨ps,vorder,va,vb,vi,vj,vabove,rfl,cs,es,h⟩
 obtain⟨s,order,a,b,i,j,above,e,b0,hb0,hpre,hK⟩:=h
 simp only[List.cons.injEq,and_true]at e
 obtain⟨Es,rfl,rfl,rfl,rfl,rfl,rfl⟩:=e
 obtain rfl:=qZ Es
 refine fnp pok ((((((Env.base _).add 258 _ W258_ok).add 325 _ W325_ok).add 383 _ W383_ok).add 384 _ W384_ok).add 385 _ W385_ok) [(3,[0,1,2,3,4,5,6,7,8,9,10,13,14,15,16,11,12,17,18,19,20],[⟨0,[],[]⟩,⟨1,[],[]⟩,⟨2,[],[]⟩,⟨3,[],[]⟩,⟨4,[],[]⟩,⟨5,[],[]⟩,⟨6,[],[]⟩,⟨7,[],[]⟩,⟨8,[],[]⟩,⟨9,[],[]⟩,⟨10,[],[]⟩,⟨13,[],[]⟩,⟨14,[],[]⟩,⟨15,[],[]⟩,⟨16,[],[]⟩,⟨11,[],[16]⟩,⟨12,[],[]⟩,⟨17,[],[]⟩,⟨18,[],[]⟩,⟨19,[],[]⟩,⟨20,[],[]⟩], .nil),(10,[],[],(.k 12 (.grp false 74 83 9 [75,76,77,78,79,80,81,82,83] 84 none (.k 9 .nil) .nil))),(12,[0,1,2,3,4,6,7,8,9,10,5,11,12],[⟨0,[],[]⟩,⟨1,[],[]⟩,⟨2,[],[]⟩,⟨3,[],[]⟩,⟨4,[],[]⟩,⟨6,[],[]⟩,⟨7,[],[]⟩,⟨8,[],[]⟩,⟨9,[],[]⟩,⟨10,[],[]⟩,⟨5,[],[10]⟩,⟨11,[],[]⟩,⟨12,[],[]⟩], .nil),(20,[0,1,2,3,4,5,6,7,8],[⟨0,[],[]⟩,⟨1,[],[]⟩,⟨2,[],[]⟩,⟨3,[],[]⟩,⟨4,[],[]⟩,⟨5,[],[]⟩,⟨6,[],[]⟩,⟨7,[],[]⟩,⟨8,[],[]⟩], .nil),(23,[],[],(.k 5 (.grp true 133 137 4 [134,135,136,137] 138 none (.k 4 .nil) .nil))),(25,[0,1,2,3,4,5,6,7,8,9,10,11,12],[⟨0,[],[]⟩,⟨1,[],[]⟩,⟨2,[],[]⟩,⟨3,[],[]⟩,⟨4,[],[]⟩,⟨5,[],[]⟩,⟨6,[],[]⟩,⟨7,[],[]⟩,⟨8,[],[]⟩,⟨9,[],[]⟩,⟨10,[],[]⟩,⟨11,[],[]⟩,⟨12,[],[]⟩], .nil),(26,[0,1,2,3,4,5,6,7,8,9,10,11,12,13,14],[⟨0,[],[]⟩,⟨1,[],[]⟩,⟨2,[],[]⟩,⟨3,[],[]⟩,⟨4,[],[]⟩,⟨5,[],[]⟩,⟨6,[],[]⟩,⟨7,[],[]⟩,⟨8,[],[]⟩,⟨9,[],[]⟩,⟨10,[],[]⟩,⟨11,[],[]⟩,⟨12,[],[]⟩,⟨13,[],[]⟩,⟨14,[],[]⟩], .nil)] hK Tryz.func374 Tryz.ntmps374 Tryz.call374 [.tmp 14] fun hb ha=> ?_
 have Ps:=qO es (NB.vpok (ha ps (by simp)))
 simp only[qP]at Ps
 have Zs:=Ps.all 1 rfl
 have Ys:=jJ (ha ps (by simp))
 refine jH pok fun cv=> ?_
 obtain⟨⟨h1,h2,h3,h4,h5⟩,⟨n1,n2,p1,p2⟩,⟨i1,i2,j1,j2⟩,⟨l1,l2⟩,ht,hl⟩:=hpre
 obtain⟨i,rfl⟩:=Int.eq_ofNat_of_zero_le i1
 obtain⟨j,rfl⟩:=Int.eq_ofNat_of_zero_le j1
 simp only[Int.toNat_natCast]at ht ⊢
 have hs:=yW h5
 have hal:(args s a i).length≤2:=by rw[args_len];exact arN_le hs _
 have hbl:(args s b j).length≤2:=by rw[args_len];exact arN_le hs _
 have hia:i<a.length:=by omega
 have hjb:j<b.length:=by omega
 have ea:a[i]? =some a[i]:=List.getElem?_eq_getElem hia
 have eb:b[j]? =some b[j]:=List.getElem?_eq_getElem hjb
 have hpa:=p1 i hia
 have hpb:=p2 j hjb
 by_cases hy:b[j]<0
 ·have hv:=gt_var (order:=order) p1 p2 hia hjb hy
  rcases ep_cases (s:=s) (t:=a) 1 (show i≤a.length by omega)with⟨q1,_⟩|⟨m,q1,q2,q3,_⟩
  ·omega
  have d1:subT s a i=(a.take (i+m)).drop i:=by unfold subT;rw[q3,Int.toNat_natCast,List.drop_take]
  have c1:((i:Int)+m).toNat=i+m:=by omega
  refine R (cj Zs (cj ea (cj eb (cj hy (cj h1 (cj h3 (cj h5 (cj n1 (cj q3 c1))))))))) ?_
  rw[hv,d1,←count_any]
  exact⟨fun h=>⟨sm_drop (sm_take h3 _) _,by simp[h]⟩,fun h=>by simp[h]⟩
 by_cases hx:a[i]<0
 ·have hv:=gt_low (order:=order) p1 p2 hia hjb hy hx
  exact R (cj Zs (cj ea (cj eb (cj hy (cj hx hv))))) trivial
 ·have hrest:=gt_rest (order:=order) p1 p2 hia hjb hy hx
  have ga:a.getD i 0=a[i]:=getD_at hia
  have gb:b.getD j 0=b[j]:=getD_at hjb
  have ha1:argsP s a i (arN s a[i])=args s a i:=by unfold args;rw[ga]
  have hb1:argsP s b j (arN s b[j])=args s b j:=by unfold args;rw[gb]
  have hx0:0≤a[i]:=by omega
  have hy0:0≤b[j]:=by omega
  refine R (cj Zs (cj ea (cj eb (cj hy (cj hx (cj h1 (cj h3 (cj h5 (cj n1 (cj n2 (cj hpa (cj ga (cj ha1 hx0))))))))))))) ?_
  refine jB (fun x=>∀m,m<x→∀p,(args s a i)[m]? =some p→gt s order a b p.toNat j=false∧subT s a p.toNat≠subT s b j) ((args s a i).length) (fun x=>[(0,ps),(1,lst order),(2,lst a),(3,lst b),(4, .int .i64 i),(5, .int .i64 j),(6, .slice (some ⟨above.n,0,some 1⟩) above.len above.cap),(15, .int .i64 b.length),(16,lst (args s a i)),(17, .int .i64 x)]) (by simp) (by simp only[go_sem,push_cast,qB,qA]) ?_
  intro x Bx hIx hix hBx
  refine cv (by kernel_rfl) ?_
  rcases Nat.lt_or_ge x ((args s a i).length)with hltx|hgex
  ·obtain⟨p,e1,g1,g2⟩:=args_get p1 hia hltx
   have e2:=ht p j g2 hjb (.inl g1)
   have m1:=mul_at g2 hjb
   have m2:=mul_sm l1 l2
   have c3:((p:Int)*b.length+j).toNat=p*b.length+j:=by omega
   refine R (cj Zs (cj e1 (cj e2 (cj hb0 (cj c3 (cj h1 (cj h3 (cj h4 (cj h5 (cj n1 (cj n2 hpb))))))))))) ?_
   refine⟨fun _=>p1 p g2,fun h=> ?_,fun h m hm q hq=> ?_⟩
   ·rw[gt_arg p1 p2 hia hjb hy hx (p:=(p:Int)) (List.mem_of_getElem? e1) (by simpa using h)]
   ·by_cases e:m=x
    ·subst e;rw[e1]at hq;cases hq;simpa using h
    ·exact hIx m (by omega) q hq
  ·have hr:=hrest fun p hp=>by
    obtain⟨m,hm,rfl⟩:=List.getElem_of_mem hp
    exact hIx m (by omega) _ (List.getElem?_eq_getElem hm)
   refine R Zs ?_
   refine cv (by kernel_rfl) ?_
   refine R (cj Zs (cj ea (cj eb (cj h1 (cj h2 (cj h4 (cj h5 (cj n2 (cj hpb (cj gb (cj hb1 hy0))))))))))) ?_
   refine⟨fun hlt=>by rw[hr,if_pos hlt],fun hge=> ?_⟩
   rw[if_neg hge]at hr
   refine jB (fun y=>∀m,m<y→∀q,(args s b j)[m]? =some q→gt s order a b i q.toNat=true) ((args s b j).length) (fun y=>[(0,ps),(2,lst a),(3,lst b),(4, .int .i64 i),(5, .int .i64 j),(6, .slice (some ⟨above.n,0,some 1⟩) above.len above.cap),(15, .int .i64 b.length),(16,lst (args s a i)),(18,lst (args s b j)),(19, .int .i64 y)]) (by simp) (by simp only[go_sem,push_cast,qB,qA]) ?_
   intro y By hIy hiy hBy
   refine cv (by kernel_rfl) ?_
   rcases Nat.lt_or_ge y ((args s b j).length)with hlty|hgey
   ·obtain⟨q,e1,g1,g2⟩:=args_get p2 hjb hlty
    have e2:=ht i q hia g2 (.inr ⟨rfl,g1⟩)
    have m1:=mul_at hia g2
    have m2:=mul_sm l1 l2
    have c3:((i:Int)*b.length+q).toNat=i*b.length+q:=by omega
    refine R (cj Zs (cj e1 (cj e2 (cj hb0 c3)))) ?_
    refine⟨fun h m hm q' hq=> ?_,fun h=> ?_⟩
    ·by_cases e:m=y
     ·subst e;rw[e1]at hq;cases hq;simpa using h
     ·exact hIy m (by omega) q' hq
    ·rw[hr,if_pos (List.any_eq_true.2 ⟨_,List.mem_of_getElem? e1,by simpa using h⟩)]
   ·have hany:¬((args s b j).any fun q=> !gt s order a b i q.toNat)=true:=fun hc=>by
     obtain⟨q,hq,h⟩:=List.any_eq_true.1 hc
     obtain⟨m,hm,rfl⟩:=List.getElem_of_mem hq
     rw[hIy m (by omega) _ (List.getElem?_eq_getElem hm)]at h
     cases h
    rw[if_neg hany]at hr
    refine R Zs ?_
    refine cv (by kernel_rfl) ?_
    refine R (cj Zs (cj ea eb)) ?_
    refine⟨fun heq=> ?_,fun hne=>by rw[hr,if_pos hne]⟩
    rw[if_neg (by simpa using heq)]at hr
    refine jB (fun z=>∀m,m<z→∀p q:Int,(args s a i)[m]? =some p→(args s b j)[m]? =some q→subT s a p.toNat=subT s b q.toNat) (min (args s a i).length (args s b j).length) (fun z=>[(0,ps),(2,lst a),(3,lst b),(4, .int .i64 i),(5, .int .i64 j),(6, .slice (some ⟨above.n,0,some 1⟩) above.len above.cap),(15, .int .i64 b.length),(16,lst (args s a i)),(18,lst (args s b j)),(20, .int .i64 z)]) (by simp) (by simp only[go_sem,push_cast,qB,qA]) ?_
    intro z Bz hIz hiz hBz
    refine cv (by kernel_rfl) ?_
    rcases Nat.lt_or_ge z (min (args s a i).length (args s b j).length)with hltz|hgez
    ·obtain⟨p,e1,g1,g2⟩:=args_get p1 hia (show z<(args s a i).length by omega)
     obtain⟨q,e2,g3,g4⟩:=args_get p2 hjb (show z<(args s b j).length by omega)
     have e3:=ht p q g2 g4 (.inl g1)
     have m1:=mul_at g2 g4
     have m2:=mul_sm l1 l2
     have c3:((p:Int)*b.length+q).toNat=p*b.length+q:=by omega
     have g5:=p1 p g2
     have g6:=p2 q g4
     refine R (cj Zs (cj e1 (cj e2 (cj e3 (cj hb0 (cj c3 (cj h1 (cj h3 (cj h4 (cj h5 (cj n1 (cj n2 (cj g5 g6))))))))))))) ?_
     refine⟨fun h m hm p' q' hp hq=> ?_,fun h=> ?_⟩
     ·by_cases e:m=z
      ·subst e;rw[e1]at hp;rw[e2]at hq;cases hp;cases hq;simpa using h
      ·exact hIz m (by omega) p' q' hp hq
     ·rw[hr,lexG_go hIz _ _ e1 e2 (by simpa using h)];simp
    ·refine R Zs ?_
     refine⟨fun a1 a2=>absurd (show z<min (args s a i).length (args s b j).length by omega) (by omega),fun _=> ?_⟩
     refine cv (by kernel_rfl) ?_
     refine R Zs ?_
     rw[hr,lexG_end fun m p q hp hq=>hIz m (by have:=(List.getElem?_eq_some_iff.1 hp).1;have:=(List.getElem?_eq_some_iff.1 hq).1;omega) p q hp hq]
def V353:qJ:=fun args H Bd K=>∃(s:GSignature) (order:List Int) (a:List Int) (b:List Int),args=[.agg (enc s).toArray,lst order,lst a,lst b]∧(((sm s∧sm order∧sm a∧sm b∧yK s=0)∧(nodes s a∧nodes s b∧zE s a∧zE s b)∧(1≤a.length∧a.length≤24∧1≤b.length∧b.length≤24))∧K (lst (tabG s order a b)) H Bd)
@[go_sem ↓] theorem V353_eq (s_symbols:List GSymbol) (order:List Int) (a:List Int) (b:List Int):V353 [.agg #[lst s_symbols],lst order,lst a,lst b] H Bd K=(((sm (GSignature.mk s_symbols)∧sm order∧sm a∧sm b∧yK (GSignature.mk s_symbols)=0)∧(nodes (GSignature.mk s_symbols) a∧nodes (GSignature.mk s_symbols) b∧zE (GSignature.mk s_symbols) a∧zE (GSignature.mk s_symbols) b)∧(1≤a.length∧a.length≤24∧1≤b.length∧b.length≤24))∧K (lst (tabG (GSignature.mk s_symbols) order a b)) H Bd):=ex4 (GSignature.mk s_symbols) order a b rfl
def W353:qJ:=fun args H Bd K=>∃(ps vorder va vb:Value),args=[ps,vorder,va,vb]∧Yld (qK H 1 ps) fun cs=>qS V353 [.agg cs.toArray,vorder,va,vb] H Bd K
@[go_sem ↓] theorem W353_eq (ps vorder va vb:Value):W353 [ps,vorder,va,vb] H Bd K=(Yld (qK H 1 ps) fun cs=>qS V353 (idS [.agg cs.toArray,vorder,va,vb]) H Bd K):=by
 refine propext ⟨fun h=> ?_,fun h=>⟨_,_,_,_,rfl,h⟩⟩
 obtain⟨ps',vorder',va',vb',e,h⟩:=h
 simp only[List.cons.injEq,and_true]at e
 obtain⟨rfl,rfl,rfl,rfl⟩:=e
 exact h
set_option maxHeartbeats 2000000 in
theorem W353_ok:OK 353 W353:=by
 rintro args H Bd K ⟨ps,vorder,va,vb,rfl,cs,es,h⟩
 obtain⟨s,order,a,b,e,hpre,hK⟩:=h
 simp only[List.cons.injEq,and_true]at e
 obtain⟨Es,rfl,rfl,rfl⟩:=e
 obtain rfl:=qZ Es
 refine fnp pok ((Env.base _).add 374 _ W374_ok) [] hK Tryz.func353 Tryz.ntmps353 Tryz.call353 [.tmp 8] fun hb ha=> ?_
 have Ps:=qO es (NB.vpok (ha ps (by simp)))
 simp only[qP]at Ps
 have Zs:=Ps.all 1 rfl
 have Ys:=jJ (ha ps (by simp))
 refine jH pok fun cv=> ?_
 obtain⟨⟨h1,h2,h3,h4,h5⟩,⟨n1,n2,p1,p2⟩,⟨l1,l2,l3,l4⟩⟩:=hpre
 have m2:=mul_sm l2 l4
 have c0:((a.length:Int)*b.length).toNat=a.length*b.length:=by omega
 refine R (cj Zs c0) ?_
 refine tr_st (X:=Nat×List Value) (fun x=>x.1≤a.length∧x.2.length=a.length*b.length∧∀p q:Nat,p<a.length→q<b.length→x.1≤p→x.2[p*b.length+q]? =some (.bool (gt s order a b p q))) (fun x=>x.1) (fun x=>[(0,ps),(1,lst order),(2,lst a),(3,lst b),(9, .int .i64 b.length),(10, .slice (some ⟨Bd,0,some 1⟩) (a.length*b.length) (a.length*b.length+1)),(11, .int .i64 ((x.1:Int)-1))]) (fun x=>upd H Bd (some ⟨x.2,true⟩)) (a.length,yZ (a.length*b.length) [.bool false]) (⟨Nat.le_refl _,by rw[zmake_len];simp,fun p q h1 _ h2=>absurd h1 (by omega)⟩) (by simp only[go_sem,push_cast,qB,qA];all_goals (try simp only[Value.int.injEq,Value.slice.injEq,true_and,and_true]) <;>all_goals (try(first|trivial|omega|grind))) (by first|exact Le.refl _|simp (disch:=first|assumption|omega) only[go_sem,push_cast,qB,qA,qM,yF]) ?_
 intro x Bx hIx hBx hbx Fx hFx
 refine cv (by kernel_rfl) ?_
 obtain⟨r,L⟩:=x
 obtain⟨i1,i2,i3⟩:=hIx
 simp only at i1 i2 i3 hbx
 cases r with
 |zero=>
  refine R Zs ?_
  have hfl:=tab_flat (s:=s) (order:=order) (a:=a) (b:=b) (by omega) i2 fun p q g1 g2=>i3 p q g1 g2 (Nat.zero_le _)
  subst hfl
  refine Tr.fin2 10 (by simp (disch:=first|assumption|omega) only[qC,qE hb]) (by simp only[go_sem,push_cast,qB,qA];rfl) (tabG_len _ _ _ _).symm ?_
  refine cv (by kernel_rfl) ?_
  exact R Zs trivial
 |succ i=>
  have ci:(i:Int)+1-1=i:=by omega
  refine R (cj Zs ci) ?_
  refine tr_st (X:=Nat×List Value) (fun y=>y.1≤b.length∧y.2.length=a.length*b.length∧∀p q:Nat,p<a.length→q<b.length→(i<p∨(p=i∧y.1≤q))→y.2[p*b.length+q]? =some (.bool (gt s order a b p q))) (fun y=>y.1) (fun y=>[(0,ps),(1,lst order),(2,lst a),(3,lst b),(9, .int .i64 b.length),(10, .slice (some ⟨Bd,0,some 1⟩) (a.length*b.length) (a.length*b.length+1)),(11, .int .i64 i),(12, .int .i64 ((y.1:Int)-1))]) (fun y=>upd H Bd (some ⟨y.2,true⟩)) (b.length,L) (⟨Nat.le_refl _,i2,fun p q g1 g2 g3=>i3 p q g1 g2 (by omega)⟩) (by simp only[go_sem,push_cast,qB,qA,ci];all_goals (try simp only[Value.int.injEq,Value.slice.injEq,true_and,and_true]) <;>all_goals (try(first|trivial|omega|grind))) (by first|exact Le.refl _|simp (disch:=first|assumption|omega) only[go_sem,push_cast,qB,qA,qM,yF,ci]) ?_
  intro y By hIy hBy hby Fy hFy
  refine cv (by kernel_rfl) ?_
  obtain⟨c,L2⟩:=y
  obtain⟨k1,k2,k3⟩:=hIy
  simp only at k1 k2 k3 hby
  cases c with
  |zero=>
   refine R Zs ?_
   refine hFx (i,L2) _ _ _ ?_ ?_ (by first|exact Le.refl _|simp (disch:=first|assumption|omega|(simp (disch:=omega) only[qC,qE hb];done)) only[go_sem,push_cast,qB,qA,qM,yF,qC,qE hb]) (by simp only[go_sem,push_cast,qB,qA]) (by simp only[go_sem,push_cast,qB,qA];all_goals (try simp only[Value.int.injEq,Value.slice.injEq,true_and,and_true]) <;>all_goals (try(first|trivial|omega|grind)))
   ·show i<i+1
    omega
   ·exact⟨by omega,k2,fun p q g1 g2 g3=>k3 p q g1 g2 (by omega)⟩
  |succ j=>
   have ck:(j:Int)+1-1=j:=by omega
   have m1:=mul_at (show i<a.length by omega) (show j<b.length by omega)
   have c3:((i:Int)*b.length+j).toNat=i*b.length+j:=by omega
   have ht:tabOK s order a b i j L2:=fun p q g1 g2 g3=>k3 p q g1 g2 (by omega)
   refine R (cj Zs (cj ci (cj ck (cj c3 (cj h1 (cj h2 (cj h3 (cj h4 (cj h5 (cj n1 (cj n2 (cj p1 (cj p2 (cj ht k2)))))))))))))) ?_
   refine hFy (j,L2.set (i*b.length+j) (.bool (gt s order a b i j))) _ _ _ ?_ ?_ (by first|exact Le.refl _|simp (disch:=first|assumption|omega|(simp (disch:=omega) only[qC,qE hb];done)) only[go_sem,push_cast,qB,qA,qM,yF,qC,qE hb]) (by simp only[go_sem,push_cast,qB,qA]) (by simp only[go_sem,push_cast,qB,qA];all_goals (try simp only[Value.int.injEq,Value.slice.injEq,true_and,and_true]) <;>all_goals (try(first|trivial|omega|grind)))
   ·show j<j+1
    omega
   ·exact⟨by omega,by simpa using k2,fun p q g1 g2 g3=>tab_set (by omega) (by omega) k2 ht p q g1 g2 g3⟩
def V326:qJ:=fun args H Bd K=>∃(s:GSignature) (order:List Int) (a:List Int) (b:List Int),args=[.agg (enc s).toArray,lst order,lst a,lst b]∧(((sm s∧sm order∧sm a∧sm b∧yK s=0)∧(nodes s a∧nodes s b∧zE s a∧zE s b)∧(1≤a.length∧a.length≤24∧1≤b.length∧b.length≤24))∧K (.bool (gt s order a b 0 0)) H Bd)
@[go_sem ↓] theorem V326_eq (s_symbols:List GSymbol) (order:List Int) (a:List Int) (b:List Int):V326 [.agg #[lst s_symbols],lst order,lst a,lst b] H Bd K=(((sm (GSignature.mk s_symbols)∧sm order∧sm a∧sm b∧yK (GSignature.mk s_symbols)=0)∧(nodes (GSignature.mk s_symbols) a∧nodes (GSignature.mk s_symbols) b∧zE (GSignature.mk s_symbols) a∧zE (GSignature.mk s_symbols) b)∧(1≤a.length∧a.length≤24∧1≤b.length∧b.length≤24))∧K (.bool (gt (GSignature.mk s_symbols) order a b 0 0)) H Bd):=ex4 (GSignature.mk s_symbols) order a b rfl
def W326:qJ:=fun args H Bd K=>∃(ps vorder va vb:Value),args=[ps,vorder,va,vb]∧Yld (qK H 1 ps) fun cs=>qS V326 [.agg cs.toArray,vorder,va,vb] H Bd K
@[go_sem ↓] theorem W326_eq (ps vorder va vb:Value):W326 [ps,vorder,va,vb] H Bd K=(Yld (qK H 1 ps) fun cs=>qS V326 (idS [.agg cs.toArray,vorder,va,vb]) H Bd K):=by
 refine propext ⟨fun h=> ?_,fun h=>⟨_,_,_,_,rfl,h⟩⟩
 obtain⟨ps',vorder',va',vb',e,h⟩:=h
 simp only[List.cons.injEq,and_true]at e
 obtain⟨rfl,rfl,rfl,rfl⟩:=e
 exact h
theorem W326_ok:OK 326 W326:=by
 rintro args H Bd K ⟨ps,vorder,va,vb,rfl,cs,es,h⟩
 obtain⟨s,order,a,b,e,hpre,hK⟩:=h
 simp only[List.cons.injEq,and_true]at e
 obtain⟨Es,rfl,rfl,rfl⟩:=e
 obtain rfl:=qZ Es
 refine fnp pok ((Env.base _).add 353 _ W353_ok) [] hK Tryz.func326 Tryz.ntmps326 Tryz.call326 [.tmp 8] fun hb ha=> ?_
 have Ps:=qO es (NB.vpok (ha ps (by simp)))
 simp only[qP]at Ps
 have Zs:=Ps.all 1 rfl
 have Ys:=jJ (ha ps (by simp))
 obtain⟨⟨h1,h2,h3,h4,h5⟩,⟨n1,n2,p1,p2⟩,⟨l1,l2,l3,l4⟩⟩:=hpre
 have m1:=mul_at (show 0<a.length by omega) (show 0<b.length by omega)
 have e1:(tabG s order a b)[0]? =some (gt s order a b 0 0):=by
  unfold tabG
  rw[List.getElem?_map,List.getElem?_range (by omega)]
  simp
 have hl:=tabG_len s order a b
 exact R (cj Zs (cj h1 (cj h2 (cj h3 (cj h4 (cj h5 (cj n1 (cj n2 (cj p1 (cj p2 e1)))))))))) trivial
def V287:qJ:=fun args H Bd K=>∃(s:GSignature) (order:List Int) (l:List GEquation),args=[.agg (enc s).toArray,lst order,lst l]∧((sm s∧sm order∧sm l∧yK s=0∧vC s l=0)∧K (.bool (fallsB s order l)) H Bd)
@[go_sem ↓] theorem V287_eq (s_symbols:List GSymbol) (order:List Int) (l:List GEquation):V287 [.agg #[lst s_symbols],lst order,lst l] H Bd K=((sm (GSignature.mk s_symbols)∧sm order∧sm l∧yK (GSignature.mk s_symbols)=0∧vC (GSignature.mk s_symbols) l=0)∧K (.bool (fallsB (GSignature.mk s_symbols) order l)) H Bd):=ex3 (GSignature.mk s_symbols) order l rfl
def W287:qJ:=fun args H Bd K=>∃(ps vorder vl:Value),args=[ps,vorder,vl]∧Yld (qK H 1 ps) fun cs=>qS V287 [.agg cs.toArray,vorder,vl] H Bd K
@[go_sem ↓] theorem W287_eq (ps vorder vl:Value):W287 [ps,vorder,vl] H Bd K=(Yld (qK H 1 ps) fun cs=>qS V287 (idS [.agg cs.toArray,vorder,vl]) H Bd K):=by
 refine propext ⟨fun h=> ?_,fun h=>⟨_,_,_,rfl,h⟩⟩
 obtain⟨ps',vorder',vl',e,h⟩:=h
 simp only[List.cons.injEq,and_true]at e
 obtain⟨rfl,rfl,rfl⟩:=e
 exact h
set_option maxHeartbeats 2000000 in
theorem W287_ok:OK 287 W287:=by
 rintro args H Bd K ⟨ps,vorder,vl,rfl,cs,es,h⟩
 obtain⟨s,order,l,e,hpre,hK⟩:=h
 simp only[List.cons.injEq,and_true]at e
 obtain⟨Es,rfl,rfl⟩:=e
 obtain rfl:=qZ Es
 refine fnp pok ((Env.base _).add 326 _ W326_ok) [(4,[0,1,2,3,4,5,6,7,8,9,10,11,12,13],[⟨0,[],[]⟩,⟨1,[],[]⟩,⟨2,[],[]⟩,⟨3,[],[]⟩,⟨4,[],[]⟩,⟨5,[],[]⟩,⟨6,[],[]⟩,⟨7,[],[]⟩,⟨8,[],[]⟩,⟨9,[],[]⟩,⟨10,[],[]⟩,⟨11,[],[]⟩,⟨12,[],[]⟩,⟨13,[],[]⟩], .nil)] hK Tryz.func287 Tryz.ntmps287 Tryz.call287 [.tmp 6] fun hb ha=> ?_
 have Ps:=qO es (NB.vpok (ha ps (by simp)))
 simp only[qP]at Ps
 have Zs:=Ps.all 1 rfl
 have Ys:=jJ (ha ps (by simp))
 refine jH pok fun cv=> ?_
 obtain⟨h1,h2,h3,h4,h5⟩:=hpre
 have hok:=(rulesG_zero h5).2
 have hlt2:=qY h3
 refine R Zs ?_
 refine jB (fun i=>∀j,j<i→∀x,l[j]? =some x→gt s order x.left x.right 0 0=true) (l.length) (fun i=>[(0,ps),(1,lst order),(2,lst l),(7, .int .i64 i)]) (fun j hj=>absurd hj (Nat.not_lt_zero _)) (by simp only[go_sem,push_cast,qB,qA]) ?_
 intro i Bi hIi hii hBi
 refine cv (by kernel_rfl) ?_
 rcases Nat.lt_or_ge i (l.length)with hlti|hgei
 ·have e1:l[i]? =some l[i]:=List.getElem?_eq_getElem hlti
  have h6:=kC h3 (List.getElem_mem hlti)
  simp only[vY]at h6
  have g1:=h6.1
  have g2:=h6.2
  have h7:=hok _ (List.getElem_mem hlti)
  have n1:=h7.1.nodes
  have n2:=h7.2.1.nodes
  have p1:=vB h7.1
  have p2:=vB h7.2.1
  have l1:=h7.1.len
  have l2:=h7.2.1.len
  refine R (cj Zs (cj e1 (cj h1 (cj h2 (cj g1 (cj g2 (cj h4 (cj n1 (cj n2 (cj p1 p2)))))))))) ?_
  refine⟨fun h j hj x hx=> ?_,fun h=> ?_⟩
  ·by_cases e:j=i
   ·subst e;rw[e1]at hx;cases hx;simpa using h
   ·exact hIi j (by omega) x hx
  ·exact(all_no (List.getElem_mem hlti) (by simpa using h)).symm
 ·refine R Zs ?_
  refine cv (by kernel_rfl) ?_
  refine R Zs ?_
  exact(all_yes fun x hx=>by
   obtain⟨j,hj,rfl⟩:=List.getElem_of_mem hx
   exact hIi j (by omega) _ (List.getElem?_eq_getElem hj)).symm
def V213:qJ:=fun args H Bd K=>∃(s:GSignature) (x:GTheory),args=[.agg (enc s).toArray, .agg (enc x).toArray]∧((sm s∧sm x∧rg x∧yK s=0)∧K (.int .i64 (thG s x)) H Bd)
@[go_sem ↓] theorem V213_eq (s_symbols:List GSymbol) (x_order:List Int) (x_equations:List GEquation) (x_rules:List GEquation):V213 [.agg #[lst s_symbols], .agg #[lst x_order,lst x_equations,lst x_rules]] H Bd K=((sm (GSignature.mk s_symbols)∧sm (GTheory.mk x_order x_equations x_rules)∧rg (GTheory.mk x_order x_equations x_rules)∧yK (GSignature.mk s_symbols)=0)∧K (.int .i64 (thG (GSignature.mk s_symbols) (GTheory.mk x_order x_equations x_rules))) H Bd):=ex2 (GSignature.mk s_symbols) (GTheory.mk x_order x_equations x_rules) rfl
def W213:qJ:=fun args H Bd K=>∃(ps px:Value),args=[ps,px]∧Yld (qK H 1 ps) fun cs=>Yld (qK H 3 px) fun cx=>qS V213 [.agg cs.toArray, .agg cx.toArray] H Bd K
@[go_sem ↓] theorem W213_eq (ps px:Value):W213 [ps,px] H Bd K=(Yld (qK H 1 ps) fun cs=>Yld (qK H 3 px) fun cx=>qS V213 (idS [.agg cs.toArray, .agg cx.toArray]) H Bd K):=by
 refine propext ⟨fun h=> ?_,fun h=>⟨_,_,rfl,h⟩⟩
 obtain⟨ps',px',e,h⟩:=h
 simp only[List.cons.injEq,and_true]at e
 obtain⟨rfl,rfl⟩:=e
 exact h
set_option maxHeartbeats 2000000 in
theorem W213_ok:OK 213 W213:=by
 rintro args H Bd K ⟨ps,px,rfl,cs,es,cx,ex,h⟩
 obtain⟨s,x,e,hpre,hK⟩:=h
 simp only[List.cons.injEq,and_true]at e
 obtain⟨Es,Ex⟩:=e
 obtain rfl:=qZ Es
 obtain rfl:=qZ Ex
 refine fnp pok (((((Env.base _).add 259 _ W259_ok).add 285 _ W285_ok).add 286 _ W286_ok).add 287 _ W287_ok) [(10,[0,1,2,3,4,5,6,7,8,9,10],[⟨0,[],[]⟩,⟨1,[],[]⟩,⟨2,[],[]⟩,⟨3,[],[]⟩,⟨4,[],[]⟩,⟨5,[],[]⟩,⟨6,[],[]⟩,⟨7,[],[]⟩,⟨8,[],[]⟩,⟨9,[],[]⟩,⟨10,[],[]⟩], .nil)] hK Tryz.func213 Tryz.ntmps213 Tryz.call213 [.tmp 4] fun hb ha=> ?_
 have Ps:=qO es (NB.vpok (ha ps (by simp)))
 simp only[qP]at Ps
 have Zs:=Ps.all 1 rfl
 have Ys:=jJ (ha ps (by simp))
 have Px:=qO ex (NB.vpok (ha px (by simp)))
 simp only[qP,enc_GTheory]at Px
 have Zx:=Px.all 3 rfl
 have Yx:=jJ (ha px (by simp))
 obtain⟨h1,h2,h3,h4⟩:=hpre
 simp only[sm_GTheory]at h2
 have h5:rg x.order:=h3.1
 have h6:rg x.equations:=h3.2.1
 have h7:rg x.rules:=h3.2.2
 refine R (cj Zs (cj Zx (cj h1 (cj h2 (cj h5 (cj h6 (cj h7 h4))))))) ?_
 unfold thG
 all_goals first|done|trivial|((try simp only[Cnp,Imp]);grind)
def V148:qJ:=fun args H Bd K=>∃(s:GSignature) (data:List UInt8),args=[.agg (enc s).toArray,lst data]∧((sm s∧yK s=0∧data.length≤1000000)∧K (.tuple #[.agg (enc ((thS s data).1)).toArray, .bool ((thS s data).2)]) H Bd)
@[go_sem ↓] theorem V148_eq (s_symbols:List GSymbol) (data:List UInt8):V148 [.agg #[lst s_symbols],lst data] H Bd K=((sm (GSignature.mk s_symbols)∧yK (GSignature.mk s_symbols)=0∧data.length≤1000000)∧K (.tuple #[.agg (enc ((thS (GSignature.mk s_symbols) data).1)).toArray, .bool ((thS (GSignature.mk s_symbols) data).2)]) H Bd):=ex2 (GSignature.mk s_symbols) data rfl
def W148:qJ:=fun args H Bd K=>∃(ps vdata:Value),args=[ps,vdata]∧Yld (qK H 1 ps) fun cs=>qS V148 [.agg cs.toArray,vdata] H Bd K
@[go_sem ↓] theorem W148_eq (ps vdata:Value):W148 [ps,vdata] H Bd K=(Yld (qK H 1 ps) fun cs=>qS V148 (idS [.agg cs.toArray,vdata]) H Bd K):=by
 refine propext ⟨fun h=> ?_,fun h=>⟨_,_,rfl,h⟩⟩
 obtain⟨ps',vdata',e,h⟩:=h
 simp only[List.cons.injEq,and_true]at e
 obtain⟨rfl,rfl⟩:=e
 exact h
set_option maxHeartbeats 2000000 in
theorem W148_ok:OK 148 W148:=by
 rintro args H Bd K ⟨ps,vdata,rfl,cs,es,h⟩
 obtain⟨s,data,e,hpre,hK⟩:=h
 simp only[List.cons.injEq,and_true]at e
 obtain⟨Es,rfl⟩:=e
 obtain rfl:=qZ Es
 refine yE pok (((Env.base _).add 212 _ W212_ok).add 213 _ W213_ok) [(2,[],[],(.k 5 (.grp false 22 25 3 [23,24,25] 26 none (.k 3 .nil) .nil))),(8,[0,1,2,3,4,5,6,7,8,9,10],[⟨0,[],[]⟩,⟨1,[],[]⟩,⟨2,[],[]⟩,⟨3,[],[]⟩,⟨4,[],[]⟩,⟨5,[],[]⟩,⟨6,[],[]⟩,⟨7,[],[]⟩,⟨8,[7],[]⟩,⟨9,[],[]⟩,⟨10,[7],[]⟩], .nil),(13,[],[],(.k 3 (.grp false 67 75 8 [68,69,70,71,72,73,74,75] 76 none (.k 8 .nil) .nil))),(17,[0,1,2,3,4,5],[⟨0,[],[]⟩,⟨1,[],[]⟩,⟨2,[],[0]⟩,⟨3,[],[]⟩,⟨4,[],[]⟩,⟨5,[],[]⟩], .nil)] _ hK Tryz.func148 rfl (rs:=[.cell 4 127, .tmp 5]) rfl Tryz.ntmps148 (by simp) Tryz.call148 (by kernel_rfl) (fun ha hb=>tup_nb ⟨agg_nb _ _, .bool _,trivial⟩) (fun hb ha=> ?_)
 have Ps:=qO es (NB.vpok (ha ps (by simp)))
 simp only[qP]at Ps
 have Zs:=Ps.all 1 rfl
 have Ys:=jJ (ha ps (by simp))
 refine jH pok fun cv=> ?_
 obtain⟨h1,h2,h3⟩:=hpre
 have hs:=yW h2
 have hsl:=hs.len
 by_cases g1:data.length<s.symbols.length
 ·have e:thS s data=(noTh,false):=by unfold thS;rw[if_pos (.inl g1)]
  rw[e];unfold noTh
  exact R (cj Zs g1) trivial
 by_cases g2:300<data.length
 ·have e:thS s data=(noTh,false):=by unfold thS;rw[if_pos (.inr g2)]
  rw[e];unfold noTh
  exact R (cj Zs (cj g1 g2)) trivial
 have hT:thS s data=if(thE s data).2=0 then(noTh,false)
   else if(thL s data).2=0∨(s.symbols.length:Int)+(thE s data).2+(thL s data).2≠data.length then(noTh,false)
   else(thX s data,decide (thG s (thX s data)=0)):=by unfold thS;rw[if_neg (by omega)]
 refine R (cj Zs (cj g1 g2)) ?_
 refine kB (X:=Nat) hb (by omega) 1 [.m (Bd+1) 0] rfl (fun x=>x≤s.symbols.length) (fun x=>s.symbols.length-x) (fun Nx x=>[(0,ps),(1,lst data),(4, .pointer (some ⟨Bd,0,none⟩)),(6, .int .i64 (s.symbols.length:Int)),(7, .pointer (some ⟨Bd+1,0,none⟩)),(8, .int .i64 x)]) (fun Nx x=>[(Bd,⟨[.slice none 0 0, .slice none 0 0, .slice none 0 0],true⟩),(Bd+1,⟨[.slice (some ⟨Nx,0,some 1⟩) ((data.take x).map bI).length (((data.take x).map bI).length+1), .slice none 0 0, .slice none 0 0],true⟩),(Nx,⟨qQ ((data.take x).map bI),true⟩)]) 0 (Nat.zero_le _) (fun Nx hNx=>(canf Ys)) ?_
 intro Nx x hNx hIx hbx Fx hFx
 simp only[mem_cons,jK]at hbx ⊢
 refine cv (by kernel_rfl) ?_
 have hxl:((data.take x).map bI).length=x:=by rw[List.length_map,List.length_take];omega
 by_cases hlt:x<s.symbols.length
 ·have e1:data[x]? =some (data[x]'(by omega)):=List.getElem?_eq_getElem _
  have hst:=bIs_succ (show x<data.length by omega)
  have hb6:((data[x]'(by omega)).toNat:Int)≤9223372036854775807:=by have:=(data[x]'(by omega)).toNat_lt;omega
  refine RA (cj Zs (cj e1 (cj hlt hb6))) ?_
  refine hFx (x+1) _ _ _ ?_ ?_ (by simp only[go_sem,push_cast,qB,qA]) ((canf (cj Ys hst)))
  ·show s.symbols.length-(x+1)<s.symbols.length-x
   omega
  ·exact hlt
 ·obtain rfl:x=s.symbols.length:=by omega
  refine R Zs ?_
  refine Tr.to hb (by omega) 0 [] rfl (fun Nk=>[(0,ps),(1,lst data),(4, .pointer (some ⟨Bd,0,none⟩)),(6, .int .i64 (s.symbols.length:Int)),(7, .pointer (some ⟨Bd+1,0,none⟩))]) (fun Nk=>[(Bd,⟨[.slice none 0 0, .slice none 0 0, .slice none 0 0],true⟩),(Bd+1,⟨[lst ((data.take s.symbols.length).map bI), .slice none 0 0, .slice none 0 0],true⟩)]) (fun Nk hNk=>(canf Ys)) ?_
  intro Nk hNk hbk
  simp only[mem_cons,jK]at hbk ⊢
  refine cv (by kernel_rfl) ?_
  have hd1:(data.drop s.symbols.length).length≤1000000:=by rw[List.length_drop];omega
  have hE:raD s (data.drop s.symbols.length)=thE s data:=rfl
  by_cases q1:(thE s data).2=0
  ·rw[if_pos q1]at hT
   rw[hT];unfold noTh
   exact R (cj Zs (cj h1 (cj h2 (cj hd1 (cj hE (cj q1 ((@List.take_length UInt8)))))))) trivial
  rw[if_neg q1]at hT
  obtain⟨a0,a1,a2,a3⟩:eqsG s (thE s data).1=0∧1≤(thE s data).2∧(thE s data).2.toNat≤(data.drop s.symbols.length).length∧_:=raD_ok q1
  rw[List.length_drop]at a2
  have hcd:((s.symbols.length:Int)+(thE s data).2).toNat=s.symbols.length+(thE s data).2.toNat:=by omega
  have hL:raD s (data.drop (s.symbols.length+(thE s data).2.toNat))=thL s data:=rfl
  have hd2:(data.drop (s.symbols.length+(thE s data).2.toNat)).length≤1000000:=by rw[List.length_drop];omega
  by_cases q2:(thL s data).2=0
  ·rw[if_pos (.inl q2)]at hT
   rw[hT];unfold noTh
   exact R (cj Zs (cj h1 (cj h2 (cj hd1 (cj hE (cj q1 (cj hcd (cj hd2 (cj hL (cj q2 ((@List.take_length UInt8)))))))))))) trivial
  obtain⟨b0,b1,b2,b3⟩:eqsG s (thL s data).1=0∧1≤(thL s data).2∧(thL s data).2.toNat≤(data.drop (s.symbols.length+(thE s data).2.toNat)).length∧_:=raD_ok q2
  rw[List.length_drop]at b2
  by_cases q3:(s.symbols.length:Int)+(thE s data).2+(thL s data).2=data.length
  case neg=>
   rw[if_pos (.inr q3)]at hT
   rw[hT];unfold noTh
   exact R (cj Zs (cj h1 (cj h2 (cj hd1 (cj hE (cj q1 (cj hcd (cj hd2 (cj hL (cj q2 (cj q3 ((@List.take_length UInt8))))))))))))) trivial
  rw[if_neg (fun h=>h.elim q2 (fun h=>h q3))]at hT
  rw[hT]
  obtain⟨_,s1,s2⟩:=eqs_sm hs a0
  obtain⟨_,s3,s4⟩:=eqs_sm hs b0
  have hsmX:sm (⟨(data.take s.symbols.length).map bI,(thE s data).1,(thL s data).1⟩:GTheory):=⟨(yR _).2 (by rw[List.length_map,List.length_take];omega),s1,s3⟩
  have hrgX:rg (⟨(data.take s.symbols.length).map bI,(thE s data).1,(thL s data).1⟩:GTheory):=⟨bIs_rg _,s2,s4⟩
  unfold thX
  exact R (cj Zs (cj h1 (cj h2 (cj hd1 (cj hE (cj q1 (cj hcd (cj hd2 (cj hL (cj q2 (cj q3 (cj (@List.take_length UInt8) (cj hsmX hrgX))))))))))))) trivial
def V84:qJ:=fun args H Bd K=>∃(d:GDisk),args=[.agg (enc d).toArray]∧((sm d∧DiskOK d)∧K (.tuple #[.agg (enc ((scrD d).1)).toArray, .int .i64 ((scrD d).2)]) H Bd)
@[go_sem ↓] theorem V84_eq (d_sectors:List (List UInt8)) (d_pending:List GPut):V84 [.agg #[lst d_sectors,lst d_pending]] H Bd K=((sm (GDisk.mk d_sectors d_pending)∧DiskOK (GDisk.mk d_sectors d_pending))∧K (.tuple #[.agg (enc ((scrD (GDisk.mk d_sectors d_pending)).1)).toArray, .int .i64 ((scrD (GDisk.mk d_sectors d_pending)).2)]) H Bd):=ex1 (GDisk.mk d_sectors d_pending) rfl
def W84:qJ:=fun args H Bd K=>∃(pd:Value),args=[pd]∧Yld (qK H 2 pd) fun cd=>qS V84 [.agg cd.toArray] H Bd K
@[go_sem ↓] theorem W84_eq (pd:Value):W84 [pd] H Bd K=(Yld (qK H 2 pd) fun cd=>qS V84 (idS [.agg cd.toArray]) H Bd K):=by
 refine propext ⟨fun h=> ?_,fun h=>⟨_,rfl,h⟩⟩
 obtain⟨pd',e,h⟩:=h
 simp only[List.cons.injEq,and_true]at e
 obtain rfl:=e
 exact h
set_option maxHeartbeats 2000000 in
theorem W84_ok:OK 84 W84:=by
 rintro args H Bd K ⟨pd,rfl,cd,ed,h⟩
 obtain⟨d,e,hpre,hK⟩:=h
 simp only[List.cons.injEq,and_true]at e
 have Ed:=e
 obtain rfl:=qZ Ed
 refine yE pok (((((Env.base _).add 147 _ W147_ok).add 51 _ W51_ok).add 109 _ W109_ok).add 148 _ W148_ok) [] _ hK Tryz.func84 rfl (rs:=[.cell 2 129, .tmp 3]) rfl Tryz.ntmps84 (by simp) Tryz.call84 (by kernel_rfl) (fun ha hb=>tup_nb ⟨agg_nb _ _, .int _ _,trivial⟩) (fun hb ha=> ?_)
 have Pd:=qO ed (NB.vpok (ha pd (by simp)))
 simp only[kM]at Pd
 have Zd:=Pd.all 2 rfl
 have Yd:=jJ (ha pd (by simp))
 obtain⟨h1,h2⟩:=hpre
 have hR:scrD d=if(jM d).2≠0 then(noSt,(jM d).2)
   else if(vO d (jM d).1).code≠0 then(noSt,(vO d (jM d).1).code)
   else if(thAt d (jM d).1 (jM d).1.theory).2=false then(noSt,5)
   else if(jM d).1.moving=true∧(thAt d (jM d).1 (jM d).1.next_).2=false then(noSt,5)
   else(⟨(jM d).1,(vO d (jM d).1).list,(thAt d (jM d).1 (jM d).1.theory).1,if(jM d).1.moving=true then(thAt d (jM d).1 (jM d).1.next_).1 else noTh⟩,0):=rfl
 by_cases q1:(jM d).2=0
 case neg=>
  rw[if_pos q1]at hR
  rw[hR];unfold noSt yB noTh
  exact R (cj Zd (cj h1 (cj h2 q1))) trivial
 rw[if_neg (by simpa using q1)]at hR
 have hS:=kH (openD_ok q1)
 generalize hQ:(jM d).1=Q at*
 by_cases q2:(vO d Q).code=0
 case neg=>
  rw[if_pos q2]at hR
  rw[hR];unfold noSt yB noTh
  exact R (cj Zd (cj h1 (cj h2 (cj q1 (cj hQ (cj hS q2)))))) trivial
 rw[if_neg (by simpa using q2)]at hR
 have hth:=hS.theory
 have hnx:=hS.next_
 have hsg:=hS.sig
 have hsl:=(yW hsg).len
 have hss:sm Q.symbols:=⟨show Q.symbols.symbols.length≤281474976710656 by omega,fun x hx=>⟨show x.name.size≤281474976710656 by have:=isNm_size ((yW hsg).nm x hx).1;omega,trivial⟩⟩
 have hf1:∀a b,H (Bd+a+b)=none:=fun a b=>hb.fresh _ (by omega)
 have hf2:∀a b c,H (Bd+a+b+c)=none:=fun a b c=>hb.fresh _ (by omega)
 have r1:R64 Q.theory:=⟨by omega,by omega⟩
 have r2:R64 Q.next_:=⟨by omega,by omega⟩
 have hc1:=chainD_dlen d Q.theory
 have hc2:=chainD_dlen d Q.next_
 have e1:thS Q.symbols (qT d Q.theory).1=thAt d Q Q.theory:=rfl
 have e2:thS Q.symbols (qT d Q.next_).1=thAt d Q Q.next_:=rfl
 by_cases q3:(thAt d Q Q.theory).2=true
 case neg=>
  have q3:(thAt d Q Q.theory).2=false:=by simpa using q3
  rw[if_pos q3]at hR
  rw[hR];unfold noSt yB noTh
  exact R (cj Zd (cj h1 (cj h2 (cj q1 (cj hQ (cj hS (cj q2 (cj r1 (cj r2 (cj hc1 (cj hc2 (cj hss (cj hsg (cj e1 (cj e2 q3))))))))))))))) trivial
 rw[if_neg (by rw[q3];decide)]at hR
 by_cases q4:Q.moving=true
 ·by_cases q5:(thAt d Q Q.next_).2=true
  ·rw[if_neg (by rw[q5];simp),if_pos q4]at hR
   rw[hR]
   exact R (cj Zd (cj h1 (cj h2 (cj q1 (cj hQ (cj hS (cj q2 (cj r1 (cj r2 (cj hc1 (cj hc2 (cj hss (cj hsg (cj e1 (cj e2 (cj q3 q5)))))))))))))))) trivial
  ·have q5:(thAt d Q Q.next_).2=false:=by simpa using q5
   rw[if_pos ⟨q4,q5⟩]at hR
   rw[hR];unfold noSt yB noTh
   exact R (cj Zd (cj h1 (cj h2 (cj q1 (cj hQ (cj hS (cj q2 (cj r1 (cj r2 (cj hc1 (cj hc2 (cj hss (cj hsg (cj e1 (cj e2 (cj q3 q5)))))))))))))))) trivial
 ·rw[if_neg (fun h=>q4 h.1),if_neg q4]at hR
  rw[hR];unfold noTh
  exact R (cj Zd (cj h1 (cj h2 (cj q1 (cj hQ (cj hS (cj q2 (cj r1 (cj r2 (cj hc1 (cj hc2 (cj hss (cj hsg (cj e1 (cj e2 q3))))))))))))))) trivial
def V86:qJ:=fun args H Bd K=>∃(d:GDisk),args=[.agg (enc d).toArray]∧((sm d)∧K (.tuple #[.agg (enc ((openS d).1)).toArray, .int .i64 ((openS d).2)]) H Bd)
@[go_sem ↓] theorem V86_eq (d_sectors:List (List UInt8)) (d_pending:List GPut):V86 [.agg #[lst d_sectors,lst d_pending]] H Bd K=((sm (GDisk.mk d_sectors d_pending))∧K (.tuple #[.agg (enc ((openS (GDisk.mk d_sectors d_pending)).1)).toArray, .int .i64 ((openS (GDisk.mk d_sectors d_pending)).2)]) H Bd):=ex1 (GDisk.mk d_sectors d_pending) rfl
def W86:qJ:=fun args H Bd K=>∃(pd:Value),args=[pd]∧Yld (qK H 2 pd) fun cd=>qS V86 [.agg cd.toArray] H Bd K
@[go_sem ↓] theorem W86_eq (pd:Value):W86 [pd] H Bd K=(Yld (qK H 2 pd) fun cd=>qS V86 (idS [.agg cd.toArray]) H Bd K):=by
 refine propext ⟨fun h=> ?_,fun h=>⟨_,rfl,h⟩⟩
 obtain⟨pd',e,h⟩:=h
 simp only[List.cons.injEq,and_true]at e
 obtain rfl:=e
 exact h
theorem W86_ok:OK 86 W86:=by
 rintro args H Bd K ⟨pd,rfl,cd,ed,h⟩
 obtain⟨d,e,hpre,hK⟩:=h
 simp only[List.cons.injEq,and_true]at e
 have Ed:=e
 obtain rfl:=qZ Ed
 refine yE pok (((Env.base _).add 49 _ W49_ok).add 84 _ W84_ok) [] _ hK Tryz.func86 rfl (rs:=[.cell 2 129, .tmp 3]) rfl Tryz.ntmps86 (by simp) Tryz.call86 (by kernel_rfl) (fun ha hb=>tup_nb ⟨agg_nb _ _, .int _ _,trivial⟩) (fun hb ha=> ?_)
 have Pd:=qO ed (NB.vpok (ha pd (by simp)))
 simp only[kM]at Pd
 have Zd:=Pd.all 2 rfl
 have Yd:=jJ (ha pd (by simp))
 by_cases hd:yN d=0
 ·have e:openS d=scrD d:=by unfold openS;rw[if_neg (by simpa using hd)]
  have h2:=disk_ok hd
  rw[e]
  exact R (cj Zd (cj hpre (cj hd h2))) trivial
 ·have e:openS d=(noSt,yN d):=by unfold openS;rw[if_pos hd]
  rw[e];unfold noSt yB noTh
  exact R (cj Zd (cj hpre hd)) trivial
def V88:qJ:=fun args H Bd K=>∃(d:GDisk) (st:GL18State),args=[.agg (enc d).toArray, .agg (enc st).toArray]∧((sm d∧DiskOK d∧R64 st.super.root)∧K (lst (rowsI d st.super.root)) H Bd)
@[go_sem ↓] theorem V88_eq (d_sectors:List (List UInt8)) (d_pending:List GPut) (st_super_gen:Int) (st_super_root:Int) (st_super_shadow:Int) (st_super_theory:Int) (st_super_next:Int) (st_super_version:Int) (st_super_moving:Bool) (st_super_cursor:List UInt8) (st_super_symbols_symbols:List GSymbol) (st_kept:List Int) (st_theory_order:List Int) (st_theory_equations:List GEquation) (st_theory_rules:List GEquation) (st_next_order:List Int) (st_next_equations:List GEquation) (st_next_rules:List GEquation):V88 [.agg #[lst d_sectors,lst d_pending], .agg #[.int .i64 st_super_gen, .int .i64 st_super_root, .int .i64 st_super_shadow, .int .i64 st_super_theory, .int .i64 st_super_next, .int .i64 st_super_version, .bool st_super_moving,lst st_super_cursor,lst st_super_symbols_symbols,lst st_kept,lst st_theory_order,lst st_theory_equations,lst st_theory_rules,lst st_next_order,lst st_next_equations,lst st_next_rules]] H Bd K=((sm (GDisk.mk d_sectors d_pending)∧DiskOK (GDisk.mk d_sectors d_pending)∧R64 (GL18State.mk (GSuper.mk st_super_gen st_super_root st_super_shadow st_super_theory st_super_next st_super_version st_super_moving st_super_cursor (GSignature.mk st_super_symbols_symbols)) st_kept (GTheory.mk st_theory_order st_theory_equations st_theory_rules) (GTheory.mk st_next_order st_next_equations st_next_rules)).super.root)∧K (lst (rowsI (GDisk.mk d_sectors d_pending) (GL18State.mk (GSuper.mk st_super_gen st_super_root st_super_shadow st_super_theory st_super_next st_super_version st_super_moving st_super_cursor (GSignature.mk st_super_symbols_symbols)) st_kept (GTheory.mk st_theory_order st_theory_equations st_theory_rules) (GTheory.mk st_next_order st_next_equations st_next_rules)).super.root)) H Bd):=ex2 (GDisk.mk d_sectors d_pending) (GL18State.mk (GSuper.mk st_super_gen st_super_root st_super_shadow st_super_theory st_super_next st_super_version st_super_moving st_super_cursor (GSignature.mk st_super_symbols_symbols)) st_kept (GTheory.mk st_theory_order st_theory_equations st_theory_rules) (GTheory.mk st_next_order st_next_equations st_next_rules)) rfl
def W88:qJ:=fun args H Bd K=>∃(pd pst:Value),args=[pd,pst]∧Yld (qK H 2 pd) fun cd=>Yld (qK H 16 pst) fun cst=>qS V88 [.agg cd.toArray, .agg cst.toArray] H Bd K
@[go_sem ↓] theorem W88_eq (pd pst:Value):W88 [pd,pst] H Bd K=(Yld (qK H 2 pd) fun cd=>Yld (qK H 16 pst) fun cst=>qS V88 (idS [.agg cd.toArray, .agg cst.toArray]) H Bd K):=by
 refine propext ⟨fun h=> ?_,fun h=>⟨_,_,rfl,h⟩⟩
 obtain⟨pd',pst',e,h⟩:=h
 simp only[List.cons.injEq,and_true]at e
 obtain⟨rfl,rfl⟩:=e
 exact h
theorem W88_ok:OK 88 W88:=by
 rintro args H Bd K ⟨pd,pst,rfl,cd,ed,cst,est,h⟩
 obtain⟨d,st,e,hpre,hK⟩:=h
 simp only[List.cons.injEq,and_true]at e
 obtain⟨Ed,Est⟩:=e
 obtain rfl:=qZ Ed
 obtain rfl:=qZ Est
 refine fnp pok ((Env.base _).add 108 _ W108_ok) [] hK Tryz.func88 Tryz.ntmps88 Tryz.call88 [.tmp 4] fun hb ha=> ?_
 have Pd:=qO ed (NB.vpok (ha pd (by simp)))
 simp only[kM]at Pd
 have Zd:=Pd.all 2 rfl
 have Yd:=jJ (ha pd (by simp))
 have Pst:=qO est (NB.vpok (ha pst (by simp)))
 simp only[kM,enc_GL18State,qP,enc_GSuper,enc_GTheory]at Pst
 have Zst:=Pst.all 16 rfl
 have Yst:=jJ (ha pst (by simp))
 obtain⟨h1,h2,h3⟩:=hpre
 have e:=treeS_rows d st.super.root
 exact R (cj Zd (cj Zst (cj h1 (cj h2 (cj h3 e))))) trivial
def W221:qJ:=fun args H Bd K=>∃(l:List GRow),args=[lst l]∧((KeyOK l∧l.length≤31104)∧K (lst l) H Bd)
@[go_sem ↓] theorem W221_eq (l:List GRow):W221 [lst l] H Bd K=((KeyOK l∧l.length≤31104)∧K (lst l) H Bd):=ex1 l rfl
set_option maxHeartbeats 2000000 in
theorem W221_ok:OK 221 W221:=by
 rintro args H Bd K ⟨l,rfl,hpre,hK⟩
 refine fnp pok ((Env.base _).add 241 _ W241_ok) [(5,[0,1,2,3,4,5,7,8,9,10,11,6,12,13,14,15],[⟨0,[],[]⟩,⟨1,[],[]⟩,⟨2,[],[]⟩,⟨3,[],[]⟩,⟨4,[],[]⟩,⟨5,[],[]⟩,⟨7,[],[]⟩,⟨8,[],[]⟩,⟨9,[],[]⟩,⟨10,[],[]⟩,⟨11,[],[]⟩,⟨6,[],[11]⟩,⟨12,[],[]⟩,⟨13,[],[]⟩,⟨14,[13],[]⟩,⟨15,[],[]⟩], .nil)] hK Tryz.func221 Tryz.ntmps221 Tryz.call221 [.tmp 2] fun hb ha=> ?_
 refine jH pok fun cv=> ?_
 obtain⟨h1,h2⟩:=hpre
 refine R0 ?_
 refine kB (X:=Nat) hb (by omega) 1 [.s 3] rfl (fun x=>x≤l.length) (fun x=>l.length-x) (fun Nx x=>[(0,lst l),(3, .slice (some ⟨Nx,0,some 2⟩) (l.take x).length ((l.take x).length+1)),(4, .int .i64 x)]) (fun Nx x=>[(Nx,⟨qQ (l.take x),true⟩)]) 0 (Nat.zero_le _) (fun Nx hNx=>(cant)) ?_
 intro Nx x hNx hIx hbx Fx hFx
 simp only[mem_cons,jK]at hbx ⊢
 refine cv (by kernel_rfl) ?_
 by_cases hlt:x<l.length
 ·have e1:l[x]? =some (l[x]'hlt):=List.getElem?_eq_getElem _
  have hst:l.take (x+1)=l.take x++[l[x]'hlt]:=List.take_succ_eq_append_getElem hlt
  have hkl:=h1 _ (List.getElem_mem hlt)
  have hk2:(l[x]'hlt).key.length≤1000000:=by omega
  have hlx:(l.take x).length=x:=by rw[List.length_take];omega
  generalize hE:(l[x]'hlt)=E at*
  obtain⟨key,value⟩:=E
  refine RA (cj e1 (cj hE (cj hlt hk2))) ?_
  refine hFx (x+1) _ _ _ ?_ ?_ (by simp only[go_sem,push_cast,qB,qA]) ((canf (cj hst enc_GRow)))
  ·show l.length-(x+1)<l.length-x
   omega
  ·exact hlt
 ·obtain rfl:x=l.length:=by omega
  refine R hlt ?_
  refine cv (by kernel_rfl) ?_
  rw[List.take_length]
  refine R0 ?_
  exact jA (by simp (disch:=first|assumption|omega) only[go_sem,push_cast,qB,qA]) (hb.fresh _ (by omega)) rfl (by first|rfl|exact(kI _).symm|simp|omega)
def J221:qJ:=GiveA W221
@[go_sem ↓] theorem J221_eq (v0:Value):J221 [v0] H Bd K=qS W221 (idS [giveA H v0]) (killAll H [v0]) Bd K:=(rfl)
theorem J221_ok:OK 221 J221:=GiveA_ok W221_ok
def W151:qJ:=fun args H Bd K=>∃(l:List GRow) (k:List UInt8) (n:Int),args=[lst l,lst k, .int .i64 n]∧((KeyOK l∧l.length≤31104∧sm k∧n=(l.length:Int))∧K (lst (kG l k)) H Bd)
@[go_sem ↓] theorem W151_eq (l:List GRow) (k:List UInt8) (n:Int):W151 [lst l,lst k, .int .i64 n] H Bd K=((KeyOK l∧l.length≤31104∧sm k∧n=(l.length:Int))∧K (lst (kG l k)) H Bd):=ex3 l k n rfl
set_option maxHeartbeats 2000000 in
theorem W151_ok:OK 151 W151:=by
 rintro args H Bd K ⟨l,k,n,rfl,hpre,hK⟩
 refine fnp pok (((Env.base _).add 220 _ W220_ok).add 221 _ J221_ok) [(3,[],[],(.k 5 (.grp true 14 18 4 [15,16,17,18] 19 none (.k 4 .nil) .nil)))] hK Tryz.func151 Tryz.ntmps151 Tryz.call151 [.tmp 6] fun hb ha=> ?_
 refine jH pok fun cv=> ?_
 obtain⟨h1,h2,h3,hn⟩:=hpre
 refine R0 ?_
 refine kB (X:=Nat) hb (by omega) 1 [.s 7] rfl (fun x=>x≤l.length) (fun x=>l.length-x) (fun Nx x=>[(0,lst l),(1,lst k),(2, .int .i64 n),(7, .slice (some ⟨Nx,0,some 2⟩) (kG (l.take x) k).length ((kG (l.take x) k).length+1)),(8, .int .i64 x)]) (fun Nx x=>[(Nx,⟨qQ (kG (l.take x) k),true⟩)]) 0 (Nat.zero_le _) (fun Nx hNx=>(canf (show kG [] k=[]from rfl))) ?_
 intro Nx x hNx hIx hbx Fx hFx
 simp only[mem_cons,jK]at hbx ⊢
 refine cv (by kernel_rfl) ?_
 have hbl:(kG (l.take x) k).length≤x:=Nat.le_trans (behind_len _ _) (by rw[List.length_take];omega)
 by_cases hlt:x<l.length
 ·have e1:l[x]? =some (l[x]'hlt):=List.getElem?_eq_getElem _
  have hst:kG (l.take (x+1)) k=kG (l.take x) k++kG [l[x]'hlt] k:=by rw[List.take_succ_eq_append_getElem hlt];exact List.filter_append ..
  have hkl:=h1 _ (List.getElem_mem hlt)
  have hks:sm (l[x]'hlt).key:=⟨by omega,fun _ _=>trivial⟩
  have hgo:((kG (l.take x) k).length:Int)<(l.length:Int):=by omega
  generalize hE:(l[x]'hlt)=E at*
  obtain⟨key,value⟩:=E
  by_cases hc:0<Lib.compareBytes key k
  ·have hs2:kG [(⟨key,value⟩:GRow)] k=[⟨key,value⟩]:=by unfold kG;rw[List.filter_cons_of_pos (by simpa using hc)];rfl
   rw[hs2]at hst
   refine RA (cj e1 (cj hE (cj hn (cj hgo (cj hlt (cj hks (cj h3 hc))))))) ?_
   refine hFx (x+1) _ _ _ ?_ ?_ (by simp only[go_sem,push_cast,qB,qA]) ((canf (cj hst enc_GRow)))
   ·show l.length-(x+1)<l.length-x
    omega
   ·exact hlt
  ·have hs2:kG [(⟨key,value⟩:GRow)] k=[]:=by unfold kG;rw[List.filter_cons_of_neg (by simpa using hc)];rfl
   rw[hs2,List.append_nil]at hst
   refine RA (cj e1 (cj hE (cj hn (cj hgo (cj hlt (cj hks (cj h3 hc))))))) ?_
   refine hFx (x+1) _ _ _ ?_ ?_ (by simp only[go_sem,push_cast,qB,qA]) ((canf hst))
   ·show l.length-(x+1)<l.length-x
    omega
   ·exact hlt
 ·obtain rfl:x=l.length:=by omega
  have hk:=behind_ok h1 k
  have hl3:(kG l k).length≤31104:=Nat.le_trans (behind_len _ _) h2
  rw[List.take_length]at hbl ⊢
  refine R hlt ?_
  refine cv (by kernel_rfl) ?_
  exact R (cj hk hl3) trivial
def W87:qJ:=fun args H Bd K=>∃(l:List GRow) (k:List UInt8),args=[lst l,lst k]∧((KeyOK l∧l.length≤31104∧sm k)∧K (lst (kG l k)) H Bd)
@[go_sem ↓] theorem W87_eq (l:List GRow) (k:List UInt8):W87 [lst l,lst k] H Bd K=((KeyOK l∧l.length≤31104∧sm k)∧K (lst (kG l k)) H Bd):=ex2 l k rfl
theorem W87_ok:OK 87 W87:=by
 rintro args H Bd K ⟨l,k,rfl,hpre,hK⟩
 refine fnp pok ((Env.base _).add 151 _ W151_ok) [] hK Tryz.func87 Tryz.ntmps87 Tryz.call87 [.tmp 4] fun hb ha=> ?_
 obtain⟨h1,h2,h3⟩:=hpre
 exact R (cj h1 (cj h2 h3)) trivial
def W33:qJ:=fun args H Bd K=>∃(d:GDisk),args=[.agg (enc d).toArray]∧((sm d)∧K (.agg (enc (leftR d)).toArray) H Bd)
@[go_sem ↓] theorem W33_eq (d_sectors:List (List UInt8)) (d_pending:List GPut):W33 [.agg #[lst d_sectors,lst d_pending]] H Bd K=((sm (GDisk.mk d_sectors d_pending))∧K (.agg (enc (leftR (GDisk.mk d_sectors d_pending))).toArray) H Bd):=ex1 (GDisk.mk d_sectors d_pending) rfl
theorem W33_ok:OK 33 W33:=by
 rintro args H Bd K ⟨d,rfl,hpre,hK⟩
 refine fnp pok ((((Env.base _).add 86 _ W86_ok).add 88 _ W88_ok).add 87 _ W87_ok) [(6,[1,2,3,0,4,5,6,7],[⟨1,[],[]⟩,⟨2,[],[]⟩,⟨3,[],[]⟩,⟨0,[],[3]⟩,⟨4,[],[]⟩,⟨5,[],[]⟩,⟨6,[],[]⟩,⟨7,[],[]⟩], .nil)] hK Tryz.func33 Tryz.ntmps33 Tryz.call33 [.cell 2 71] fun hb ha=> ?_
 have hc:=openS_code d
 by_cases q:(openS d).2=0
 case neg=>
  have e:leftR d=⟨(openS d).2,0⟩:=by unfold leftR;rw[←hc,if_pos q]
  rw[e]
  exact R (cj hpre q) trivial
 obtain⟨hd,hs,hS⟩:=openS_ok q
 have h2:=disk_ok hd
 have hR:leftR d=if(openS d).1.super.moving=false then⟨8,0⟩else⟨0,((kG (rowsI d (openS d).1.super.root) (openS d).1.super.cursor).length:Int)⟩:=by
  unfold leftR;rw[←hc,if_neg (by simpa using q),←hs]
 have hrt:=hS.root
 have hcur:=hS.cur
 generalize hQ:(openS d).1.super=Q at*
 have r1:R64 Q.root:=⟨by omega,by omega⟩
 have hcs:sm Q.cursor:=⟨by omega,fun _ _=>trivial⟩
 obtain⟨k1,k2⟩:=rowsI_ok d Q.root
 by_cases q2:Q.moving=true
 ·rw[if_neg (by rw[q2];decide)]at hR
  rw[hR]
  exact R (cj hpre (cj q (cj hQ (cj q2 (cj h2 (cj r1 (cj hcs (cj k1 k2)))))))) trivial
 ·have q2:Q.moving=false:=by simpa using q2
  rw[if_pos q2]at hR
  rw[hR]
  exact R (cj hpre (cj q (cj hQ q2))) trivial
def W113:qJ:=fun args H Bd K=>∃(n:Int) (low:Int) (high:Int),args=[.int .i64 n, .int .i64 low, .int .i64 high]∧(K (.bool (decide (low≤n∧n≤high))) H Bd)
@[go_sem ↓] theorem W113_eq (n:Int) (low:Int) (high:Int):W113 [.int .i64 n, .int .i64 low, .int .i64 high] H Bd K=(K (.bool (decide (low≤n∧n≤high))) H Bd):=ex3 n low high rfl
theorem W113_ok:OK 113 W113:=by
 rintro args H Bd K ⟨n,low,high,rfl,hK⟩
 refine fnp pok (Env.base _) [(1,[],[],(.k 4 (.grp true 10 13 3 [11,12,13] 14 none (.k 3 .nil) (.k 1 .nil))))] hK Tryz.func113 Tryz.ntmps113 Tryz.call113 [.tmp 6] fun hb ha=> ?_
 simp (maxSteps:=2000000) (disch:=first|assumption|(refine qI ?_;assumption)|exact Nat.le_add_right _ _|exact Nat.le_refl _|omega|(simp (disch:=first|exact Nat.le_add_right _ _|omega) only[qG hb,qR hb,qM,qE hb,qC];done)|fail) only[go_sem,push_cast,qB,qA,qG hb,qE hb]
 all_goals first|done|trivial|((try simp only[Cnp,Imp]);grind)
theorem G171(g:Nat)(caps:Array Value)(p:List UInt8→Bool)(xs:List (List UInt8))(H:AH)(Bd:Nat)(K:Value→AH→Nat→Prop)(hsm:sm xs)(hg:∀x∈xs,∀B,Bd≤B→∀K':Value→AH→Nat→Prop,K' (.bool (p x)) H B→SCalls Tryz.prog g (idS ((lst (x))::caps.toList)) H B K')(hK:K (.int .i64 (fidx p xs)) H Bd):SCalls Tryz.prog 171 [lst xs, .func (.func g) #[] caps] H Bd K:=by
 refine yE pok (Env.base _) [] _ hK Tryz.func171 rfl (rs:=[.tmp 4]) rfl Tryz.ntmps171 (by simp) Tryz.call171 (by kernel_rfl) (fun ha hb=> .int _ _) (fun hb ha=> ?_)
 refine jH pok fun cv=> ?_
 have hlen:=qY hsm
 refine R0 ?_
 refine jB (fun i=>∀j,j<i→∀x,xs[j]? =some x→p x=false) (xs.length) (fun i=>[(0,lst xs),(1, .func (.func g) #[] caps),(7, .int .i64 xs.length),(8, .int .i64 i)]) (by simp) (by simp only[go_sem,push_cast,qB,qA]) ?_
 intro i Bi hIi hii hBi
 refine cv (by kernel_rfl) ?_
 rcases Nat.lt_or_ge i (xs.length)with hlti|hgei
 ·have e1:xs[i]? =some xs[i]:=List.getElem?_eq_getElem hlti
  refine R e1 ?_
  refine hg _ (List.getElem_mem hlti) _ (by omega) _ ?_
  refine R e1 ?_
  exact⟨fun h=>by rw[vU hlti hIi h],fun h=>fun j hj x hx=>by
   by_cases e:j=i
   ·subst e;rw[e1]at hx;cases hx;simpa using h
   ·exact hIi j (by omega) x hx⟩
 ·refine R0 ?_
  refine cv (by kernel_rfl) ?_
  refine R0 ?_
  rw[vR fun j hj x hx=>hIi j (by omega) x hx]
theorem G114(g:Nat)(caps:Array Value)(p:List UInt8→Bool)(xs:List (List UInt8))(H:AH)(Bd:Nat)(K:Value→AH→Nat→Prop)(hsm:sm xs)(hg:∀x∈xs,∀B,Bd≤B→∀K':Value→AH→Nat→Prop,K' (.bool (p x)) H B→SCalls Tryz.prog g (idS ((lst (x))::caps.toList)) H B K')(hK:K (.bool (xs.any p)) H Bd):SCalls Tryz.prog 114 [lst xs, .func (.func g) #[] caps] H Bd K:=by
 refine yE pok (Env.base _) [] _ hK Tryz.func114 rfl (rs:=[.tmp 4]) rfl Tryz.ntmps114 (by simp) Tryz.call114 (by kernel_rfl) (fun ha hb=> .bool _) (fun hb ha=> ?_)
 refine R0 ?_
 refine G171 _ _ p xs _ _ _ hsm hg ?_
 refine R0 ?_
 exact fidx_ge p xs
def W115:qJ:=fun args H Bd K=>∃(x:List UInt8),args=[lst x]∧((sm x)∧K (.bool (decide (x.length≠96))) H Bd)
theorem W115_ok:OK 115 W115:=by
 rintro args H Bd K ⟨x,rfl,hpre,hK⟩
 refine fnp pok (Env.base _) [] hK Tryz.func115 Tryz.ntmps115 Tryz.call115 [.tmp 2] fun hb ha=> ?_
 have hlen:=qY hpre
 refine R0 ?_
 all_goals first|done|trivial|((try simp only[Cnp,Imp]);grind)
def V114_115:qJ:=fun args H Bd K=>∃(xs:List (List UInt8)),args=[lst xs]∧((sm xs∧∀x∈xs,sm x)∧K (.bool (xs.any (fun x:List UInt8=>decide (x.length≠96)))) H Bd)
@[go_sem ↓] theorem V114_115_eq (xs:List (List UInt8)):V114_115 [lst xs] H Bd K=((sm xs∧∀x∈xs,sm x)∧K (.bool (xs.any (fun x:List UInt8=>decide (x.length≠96)))) H Bd):=ex1 xs rfl
def W114_115:qJ:=fun args H Bd K=>∃(vxs:Value),args=[vxs, .func (.func 115) #[] #[]]∧qS V114_115 [vxs] H Bd K
@[go_sem ↓] theorem W114_115_eq (vxs:Value):W114_115 [vxs, .func (.func 115) #[] #[]] H Bd K=(qS V114_115 (idS [vxs]) H Bd K):=by
 refine propext ⟨fun h=> ?_,fun h=>⟨_,rfl,h⟩⟩
 obtain⟨vxs',e,h⟩:=h
 simp only[List.cons.injEq,Value.func.injEq,jE,List.cons.injEq,and_true,true_and]at e
 obtain rfl:=e
 exact h
theorem W114_115_ok:OK 114 W114_115:=by
 rintro args H Bd K ⟨vxs,rfl,h⟩
 obtain⟨xs,e,hpre,hK⟩:=h
 simp only[List.cons.injEq,and_true]at e
 obtain rfl:=e
 refine G114 115 #[] (fun x:List UInt8=>decide (x.length≠96)) xs H Bd K hpre.1 (fun x hx B hB K' hk=> ?_) hK
 exact W115_ok _ _ _ _ ⟨x,rfl,hpre.2 x hx,hk⟩
def W116:qJ:=fun args H Bd K=>∃(d:GDisk) (n:Int),args=[.agg (enc d).toArray, .int .i64 n]∧((sm d)∧K (.bool (decide (0≤n∧n≤(d.sectors.length:Int)-1))) H Bd)
@[go_sem ↓] theorem W116_eq (d_sectors:List (List UInt8)) (d_pending:List GPut) (n:Int):W116 [.agg #[lst d_sectors,lst d_pending], .int .i64 n] H Bd K=((sm (GDisk.mk d_sectors d_pending))∧K (.bool (decide (0≤n∧n≤((GDisk.mk d_sectors d_pending).sectors.length:Int)-1))) H Bd):=ex2 (GDisk.mk d_sectors d_pending) n rfl
theorem W116_ok:OK 116 W116:=by
 rintro args H Bd K ⟨d,n,rfl,hpre,hK⟩
 refine fnp pok ((Env.base _).add 113 _ W113_ok) [] hK Tryz.func116 Tryz.ntmps116 Tryz.call116 [.tmp 4] fun hb ha=> ?_
 have h1:=hpre
 simp only[sm_GDisk]at h1
 have hlen:=qY h1.1
 refine R0 ?_
 all_goals first|done|trivial|((try simp only[Cnp,Imp]);grind)
theorem G172(g:Nat)(caps:Array Value)(p:GPut→Bool)(xs:List GPut)(H:AH)(Bd:Nat)(K:Value→AH→Nat→Prop)(hsm:sm xs)(hg:∀x∈xs,∀B,Bd≤B→∀K':Value→AH→Nat→Prop,K' (.bool (p x)) H B→SCalls Tryz.prog g (idS ((.agg (enc (x)).toArray)::caps.toList)) H B K')(hK:K (.int .i64 (fidx p xs)) H Bd):SCalls Tryz.prog 172 [lst xs, .func (.func g) #[] caps] H Bd K:=by
 refine yE pok (Env.base _) [] _ hK Tryz.func172 rfl (rs:=[.tmp 4]) rfl Tryz.ntmps172 (by simp) Tryz.call172 (by kernel_rfl) (fun ha hb=> .int _ _) (fun hb ha=> ?_)
 refine jH pok fun cv=> ?_
 have hlen:=qY hsm
 refine R0 ?_
 refine jB (fun i=>∀j,j<i→∀x,xs[j]? =some x→p x=false) (xs.length) (fun i=>[(0,lst xs),(1, .func (.func g) #[] caps),(7, .int .i64 xs.length),(8, .int .i64 i)]) (by simp) (by simp only[go_sem,push_cast,qB,qA]) ?_
 intro i Bi hIi hii hBi
 refine cv (by kernel_rfl) ?_
 rcases Nat.lt_or_ge i (xs.length)with hlti|hgei
 ·have e1:xs[i]? =some xs[i]:=List.getElem?_eq_getElem hlti
  refine R e1 ?_
  refine hg _ (List.getElem_mem hlti) _ (by omega) _ ?_
  refine R e1 ?_
  exact⟨fun h=>by rw[vU hlti hIi h],fun h=>fun j hj x hx=>by
   by_cases e:j=i
   ·subst e;rw[e1]at hx;cases hx;simpa using h
   ·exact hIi j (by omega) x hx⟩
 ·refine R0 ?_
  refine cv (by kernel_rfl) ?_
  refine R0 ?_
  rw[vR fun j hj x hx=>hIi j (by omega) x hx]
def V173:qJ:=fun args H Bd K=>∃(x:GPut) (n:Int),args=[.agg (enc x).toArray, .agg (enc n).toArray]∧(K (.bool (decide (x.sector=n))) H Bd)
def W173:qJ:=fun args H Bd K=>∃(vx pn:Value),args=[vx,pn]∧Yld (qK H 1 pn) fun cn=>qS V173 [vx, .agg cn.toArray] H Bd K
theorem W173_ok:OK 173 W173:=by
 rintro args H Bd K ⟨vx,pn,rfl,cn,en,h⟩
 obtain⟨x,n,e,hK⟩:=h
 simp only[List.cons.injEq,and_true]at e
 obtain⟨rfl,En⟩:=e
 obtain rfl:=qZ En
 refine fnp pok (Env.base _) [] hK Tryz.func173 Tryz.ntmps173 Tryz.call173 [.tmp 3] fun hb ha=> ?_
 have Pn:=qO en (NB.vpok (ha pn (by simp)))
 simp only[jS,jX,jI,jL,jD]at Pn
 have Zn:=Pn.all 1 rfl
 have Yn:=jJ (ha pn (by simp))
 exact R Zn trivial
def V172_173:qJ:=fun args H Bd K=>∃(xs:List GPut) (n:Int),args=[lst xs, .agg (enc n).toArray]∧((sm xs)∧K (.int .i64 (fidx (fun x:GPut=>decide (x.sector=n)) xs)) H Bd)
@[go_sem ↓] theorem V172_173_eq (xs:List GPut) (n:Int):V172_173 [lst xs, .agg #[.int .i64 n]] H Bd K=((sm xs)∧K (.int .i64 (fidx (fun x:GPut=>decide (x.sector=n)) xs)) H Bd):=ex2 xs n rfl
def W172_173:qJ:=fun args H Bd K=>∃(vxs pn:Value),args=[vxs, .func (.func 173) #[] #[pn]]∧Yld (qK H 1 pn) fun cn=>qS V172_173 [vxs, .agg cn.toArray] H Bd K
@[go_sem ↓] theorem W172_173_eq (vxs pn:Value):W172_173 [vxs, .func (.func 173) #[] #[pn]] H Bd K=(Yld (qK H 1 pn) fun cn=>qS V172_173 (idS [vxs, .agg cn.toArray]) H Bd K):=by
 refine propext ⟨fun h=> ?_,fun h=>⟨_,_,rfl,h⟩⟩
 obtain⟨vxs',pn',e,h⟩:=h
 simp only[List.cons.injEq,Value.func.injEq,jE,List.cons.injEq,and_true,true_and]at e
 obtain⟨rfl,rfl⟩:=e
 exact h
theorem W172_173_ok:OK 172 W172_173:=by
 rintro args H Bd K ⟨vxs,pn,rfl,cn,en,h⟩
 obtain⟨xs,n,e,hpre,hK⟩:=h
 simp only[List.cons.injEq,and_true]at e
 obtain⟨rfl,En⟩:=e
 obtain rfl:=qZ En
 refine G172 173 #[pn] (fun x:GPut=>decide (x.sector=n)) xs H Bd K hpre (fun x hx B hB K' hk=> ?_) hK
 exact W173_ok _ _ _ _ ⟨_,_,rfl,_,en,x,n,rfl,hk⟩
def W117:qJ:=fun args H Bd K=>∃(d:GDisk) (n:Int),args=[.agg (enc d).toArray, .int .i64 n]∧((sm d)∧K (.int .i64 (waitD d n)) H Bd)
@[go_sem ↓] theorem W117_eq (d_sectors:List (List UInt8)) (d_pending:List GPut) (n:Int):W117 [.agg #[lst d_sectors,lst d_pending], .int .i64 n] H Bd K=((sm (GDisk.mk d_sectors d_pending))∧K (.int .i64 (waitD (GDisk.mk d_sectors d_pending) n)) H Bd):=ex2 (GDisk.mk d_sectors d_pending) n rfl
theorem W117_ok:OK 117 W117:=by
 rintro args H Bd K ⟨d,n,rfl,hpre,hK⟩
 refine fnp pok ((Env.base _).add 172 _ W172_173_ok) [] hK Tryz.func117 Tryz.ntmps117 Tryz.call117 [.tmp 4] fun hb ha=> ?_
 simp only[sm_GDisk]at hpre
 refine R hpre ?_
 try rfl
end Go.Proofs.YthoahlghegcfnaaGreatDoor
