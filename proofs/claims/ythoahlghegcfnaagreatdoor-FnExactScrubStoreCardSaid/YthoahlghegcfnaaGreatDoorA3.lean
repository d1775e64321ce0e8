/- YthoahlghegcfnaaGreatDoorA3 -/
import Derived.Test.YthoahlghegcfnaaGreatDoorA2
set_option linter.unusedSimpArgs false
set_option linter.unusedVariables false
set_option maxRecDepth 20000
namespace Go.Proofs.YthoahlghegcfnaaGreatDoor
open Go Go.SC
variable {H:AH} {Bd:Nat} {K:Value→AH→Nat→Prop}
def W325:Trans:=fun args H Bd K=>∃(t:List Int) (n:Int),args=[lst t, .int .i64 n]∧((sm t)∧K (.int .i64 ((t.count n:Int))) H Bd)
@[go_sem ↓] theorem W325_eq (t:List Int) (n:Int):W325 [lst t, .int .i64 n] H Bd K=((sm t)∧K (.int .i64 ((t.count n:Int))) H Bd):=ex2 t n rfl
theorem W325_ok:OK 325 W325:=by
 rintro args H Bd K ⟨t,n,rfl,hpre,hK⟩
 refine fnp pok (Env.base _) [] hK Tryz.func325 Tryz.ntmps325 Tryz.call325 [.tmp 4] fun hb ha=> ?_
 refine withC pok fun cv=> ?_
 have hlt2:=sm_len hpre
 refine R0 ?_
 refine tr_for (fun i=>True) (t.length) (fun i=>[(0,lst t),(1, .int .i64 n),(5, .int .i64 ((t.take i).count n:Nat)),(6, .int .i64 i)]) (trivial) (by simp only[go_sem,push_cast,and_pos,Le_updF,List.take_zero,List.count_nil]) ?_
 intro i Bi hIi hii hBi
 refine cv (by kernel_rfl) ?_
 rcases Nat.lt_or_ge i (t.length)with hlti|hgei
 ·have e1:t[i]? =some t[i]:=List.getElem?_eq_getElem hlti
  have hst:(t.take (i+1)).count n=(t.take i).count n+if t[i]=n then 1 else 0:=by
   rw[List.take_succ_eq_append_getElem hlti,List.count_append,List.count_singleton]
   simp
  have hle:(t.take i).count n≤i:=by have:=List.count_le_length (a:=n) (l:=t.take i);rw[List.length_take]at this;omega
  refine R e1 ?_
  refine⟨fun h=> ?_,fun h=> ?_⟩
  ·rw[if_pos h]at hst;rw[hst];omega
  ·rw[if_neg h]at hst;rw[hst];rfl
 ·refine R0 ?_
  refine cv (by kernel_rfl) ?_
  refine R0 ?_
  rw[List.take_of_length_le hgei]
def V286:Trans:=fun args H Bd K=>∃(s:GSignature) (l:List GEquation),args=[.agg (enc s).toArray,lst l]∧((sm s∧sm l∧rg l∧sigF s=0)∧K (.int .i64 (rulesG s l)) H Bd)
@[go_sem ↓] theorem V286_eq (s_symbols:List GSymbol) (l:List GEquation):V286 [.agg #[lst s_symbols],lst l] H Bd K=((sm (GSignature.mk s_symbols)∧sm l∧rg l∧sigF (GSignature.mk s_symbols)=0)∧K (.int .i64 (rulesG (GSignature.mk s_symbols) l)) H Bd):=ex2 (GSignature.mk s_symbols) l rfl
def W286:Trans:=fun args H Bd K=>∃(ps vl:Value),args=[ps,vl]∧Yld (cellsAt H 1 ps) fun cs=>callW V286 [.agg cs.toArray,vl] H Bd K
@[go_sem ↓] theorem W286_eq (ps vl:Value):W286 [ps,vl] H Bd K=(Yld (cellsAt H 1 ps) fun cs=>callW V286 (idS [.agg cs.toArray,vl]) H Bd K):=by
 refine propext ⟨fun h=> ?_,fun h=>⟨_,_,rfl,h⟩⟩
 obtain⟨ps',vl',e,h⟩:=h
 simp only[List.cons.injEq,and_true]at e
 obtain⟨rfl,rfl⟩:=e
 exact h
set_option maxHeartbeats 2000000 in
theorem W286_ok:OK 286 W286:=by
 rintro args H Bd K ⟨ps,vl,rfl,cs,es,h⟩
 obtain⟨s,l,e,hpre,hK⟩:=h
 simp only[List.cons.injEq,and_true]at e
 obtain⟨Es,rfl⟩:=e
 obtain rfl:=agg_inj Es
 refine fnp pok (((Env.base _).add 285 _ W285_ok).add 325 _ W325_ok) [(13,[],[],(.k 3 (.grp true 49 57 8 [50,51,52,53,54,55,56,57] 58 none (.k 8 .nil) .nil)))] hK Tryz.func286 Tryz.ntmps286 Tryz.call286 [.tmp 4] fun hb ha=> ?_
 have Ps:=cellsAt_out es (NB.vpok (ha ps (by simp)))
 simp only[enc_GSignature]at Ps
 have Zs:=Ps.all 1 rfl
 have Ys:=rq_all (ha ps (by simp))
 refine withC pok fun cv=> ?_
 obtain⟨h1,h2,h3,h4⟩:=hpre
 have hlt2:=sm_len h2
 refine R (cj Zs (cj h1 (cj h2 (cj h3 h4)))) ?_
 refine⟨fun hq=> ?_,fun hq=> ?_⟩
 ·have hv:rulesG s l=if l.all ruleOK=true then 0 else 1:=by unfold rulesG;rw[if_neg (by simp[hq])]
  have hall:=(eqsG_zero hq).2
  rw[hv]
  refine tr_for (fun i=>∀j,j<i→∀y,l[j]? =some y→ruleOK y=true) (l.length) (fun i=>[(0,ps),(1,lst l),(6, .int .i64 i)]) (fun j hj=>absurd hj (Nat.not_lt_zero _)) (by simp only[go_sem,push_cast,and_pos,Le_updF]) ?_
  intro i Bi hIi hii hBi
  refine cv (by kernel_rfl) ?_
  rcases Nat.lt_or_ge i (l.length)with hlti|hgei
  ·have e1:l[i]? =some l[i]:=List.getElem?_eq_getElem hlti
   have h5:=sm_mem h2 (List.getElem_mem hlti)
   simp only[sm_GEquation]at h5
   have h51:=h5.1
   have hlr:=sm_len h5.2
   have hok:=eqnG_zero (hall _ (List.getElem_mem hlti))
   have hl0:=hok.1.len.1
   have e2:l[i].left[0]? =some l[i].left[0]:=List.getElem?_eq_getElem (by omega)
   have e3:l[i].left.headD 0=l[i].left[0]:=headD_get hl0
   refine R (cj Zs (cj e1 e2)) ?_
   refine⟨fun h=> ?_,fun h=> ?_⟩
   ·rw[if_neg]
    intro hc
    have:=List.all_eq_true.1 hc _ (List.getElem_mem hlti)
    unfold ruleOK at this
    rw[e3]at this
    simp only[Bool.and_eq_true,decide_eq_true_eq]at this
    omega
   ·refine tr_for (fun j=>∀k,k<j→∀y,l[i].right[k]? =some y→varOK l[i] y=true) (l[i].right.length) (fun j=>[(0,ps),(1,lst l),(6, .int .i64 i),(7, .int .i64 j)]) (fun k hk=>absurd hk (Nat.not_lt_zero _)) (by simp only[go_sem,push_cast,and_pos,Le_updF]) ?_
    intro j Bj hIj hij hBj
    refine cv (by kernel_rfl) ?_
    rcases Nat.lt_or_ge j (l[i].right.length)with hltj|hgej
    ·have e4:l[i].right[j]? =some l[i].right[j]:=List.getElem?_eq_getElem hltj
     refine R (cj Zs (cj e1 (cj e4 h51))) ?_
     refine⟨fun a1 a2=> ?_,fun a1 k hk y hy=> ?_⟩
     ·rw[if_neg]
      intro hc
      have h9:=List.all_eq_true.1 hc _ (List.getElem_mem hlti)
      unfold ruleOK at h9
      simp only[Bool.and_eq_true]at h9
      have h10:=List.all_eq_true.1 h9.2 _ (List.getElem_mem hltj)
      unfold varOK at h10
      simp only[decide_eq_true_eq]at h10
      omega
     ·by_cases e:k=j
      ·subst e;rw[e4]at hy;cases hy
       unfold varOK
       rw[decide_eq_true_eq]
       omega
      ·exact hIj k (by omega) y hy
    ·refine R (cj Zs e1) ?_
     intro k hk y hy
     by_cases e:k=i
     ·subst e;rw[e1]at hy;cases hy
      unfold ruleOK
      rw[e3,Bool.and_eq_true,decide_eq_true_eq]
      refine⟨by omega,all_yes fun x hx=> ?_⟩
      obtain⟨m,hm,rfl⟩:=List.getElem_of_mem hx
      exact hIj m (by omega) _ (List.getElem?_eq_getElem hm)
     ·exact hIi k (by omega) y hy
  ·refine R Zs ?_
   refine cv (by kernel_rfl) ?_
   refine R Zs ?_
   rw[if_pos (all_yes fun x hx=>by
    obtain⟨j,hj,rfl⟩:=List.getElem_of_mem hx
    exact hIi j (by omega) _ (List.getElem?_eq_getElem hj))]
 ·unfold rulesG;rw[if_pos hq]
def V383:Trans:=fun args H Bd K=>∃(s:GSignature) (t:List Int) (a:Int),args=[.agg (enc s).toArray,lst t, .int .i64 a]∧((sm s∧sm t∧sigF s=0∧nodes s t∧0≤a∧a<t.length∧0≤ep s t 1 a.toNat∧0≤t.getD a.toNat 0)∧K (lst (argsP s t a.toNat (arN s (t.getD a.toNat 0)))) H Bd)
@[go_sem ↓] theorem V383_eq (s_symbols:List GSymbol) (t:List Int) (a:Int):V383 [.agg #[lst s_symbols],lst t, .int .i64 a] H Bd K=((sm (GSignature.mk s_symbols)∧sm t∧sigF (GSignature.mk s_symbols)=0∧nodes (GSignature.mk s_symbols) t∧0≤a∧a<t.length∧0≤ep (GSignature.mk s_symbols) t 1 a.toNat∧0≤t.getD a.toNat 0)∧K (lst (argsP (GSignature.mk s_symbols) t a.toNat (arN (GSignature.mk s_symbols) (t.getD a.toNat 0)))) H Bd):=ex3 (GSignature.mk s_symbols) t a rfl
def W383:Trans:=fun args H Bd K=>∃(ps vt va:Value),args=[ps,vt,va]∧Yld (cellsAt H 1 ps) fun cs=>callW V383 [.agg cs.toArray,vt,va] H Bd K
@[go_sem ↓] theorem W383_eq (ps vt va:Value):W383 [ps,vt,va] H Bd K=(Yld (cellsAt H 1 ps) fun cs=>callW V383 (idS [.agg cs.toArray,vt,va]) H Bd K):=by
 refine propext ⟨fun h=> ?_,fun h=>⟨_,_,_,rfl,h⟩⟩
 obtain⟨ps',vt',va',e,h⟩:=h
 simp only[List.cons.injEq,and_true]at e
 obtain⟨rfl,rfl,rfl⟩:=e
 exact h
set_option maxHeartbeats 2000000 in
theorem W383_ok:OK 383 W383:=by
 rintro args H Bd K ⟨ps,vt,va,rfl,cs,es,h⟩
 obtain⟨s,t,a,e,hpre,hK⟩:=h
 simp only[List.cons.injEq,and_true]at e
 obtain⟨Es,rfl,rfl⟩:=e
 obtain rfl:=agg_inj Es
 refine fnp pok ((Env.base _).add 258 _ W258_ok) [(4,[0,1,2,3,4,5,6,7,8,9,10,11,12],[⟨0,[],[]⟩,⟨1,[],[]⟩,⟨2,[],[]⟩,⟨3,[],[]⟩,⟨4,[],[]⟩,⟨5,[],[]⟩,⟨6,[],[]⟩,⟨7,[],[]⟩,⟨8,[],[]⟩,⟨9,[],[]⟩,⟨10,[],[]⟩,⟨11,[],[]⟩,⟨12,[],[]⟩], .nil)] hK Tryz.func383 Tryz.ntmps383 Tryz.call383 [.tmp 6] fun hb ha=> ?_
 have Ps:=cellsAt_out es (NB.vpok (ha ps (by simp)))
 simp only[enc_GSignature]at Ps
 have Zs:=Ps.all 1 rfl
 have Ys:=rq_all (ha ps (by simp))
 refine withC pok fun cv=> ?_
 obtain⟨h1,h2,h3,h4,h5,h6,h8,h9⟩:=hpre
 have hss:sm s:=h1
 have hlt2:=sm_len h2
 have hs:=sig_ok h3
 obtain⟨a,rfl⟩:=Int.eq_ofNat_of_zero_le h5
 simp only[Int.toNat_natCast]at h8 h9
 have hlt:a<t.length:=by omega
 have e1:t[a]? =some t[a]:=List.getElem?_eq_getElem hlt
 have e3:t.getD a 0=t[a]:=by rw[List.getD_eq_getElem?_getD,e1];rfl
 rw[e3]at h9
 have hn:=h4 _ (List.getElem_mem hlt)
 have e4:t[a].toNat<s.symbols.length:=by omega
 have e2:s.symbols[t[a].toNat]? =some s.symbols[t[a].toNat]:=List.getElem?_eq_getElem e4
 have ha:=hs.nm _ (List.getElem_mem e4)
 have har:=arN_sym (s:=s) h9 e2
 rw[ep_node 0 e1,Nat.zero_add,har]at h8
 have e5:argsP s t a (arN s (t.getD a 0))=argsP s t a s.symbols[t[a].toNat].arity.toNat:=by rw[e3,har]
 refine R (cj Zs e5) ?_
 refine tr_acc (α:=Int) (H0:=H) (B0:=Bd) (n0:=Bd) (s.symbols[t[a].toNat].arity.toNat) (fun i=>argsP s t a i) (fun i out=>[(0,ps),(1,lst t),(2, .int .i64 a),(7,out),(8, .int .i64 (ep s t i (a+1))),(9, .int .i64 i)]) (Nat.le_refl 1) ⟨by omega,by omega⟩ (by simp only[go_sem,push_cast,and_pos,Le_updF,argsP_zero,ep_zero (show a+1≤t.length by omega)]) (by simp (disch:=first|assumption|omega) only[go_sem,push_cast,and_pos,Le_updF,flat_nil,argsP_zero,ep_zero (show a+1≤t.length by omega)]) ?_
 intro i ni ci Bi hii hci hni hmi hBi hbi
 refine cv (by kernel_rfl) ?_
 have hzi:(ci=0)=False:=eq_false (by omega)
 rcases Nat.lt_or_ge i (s.symbols[t[a].toNat].arity.toNat)with hlti|hgei
 ·obtain⟨m,q1,q2,q3,q4,q5⟩:=arg_at hlt h8 hlti
  have hcv:((a:Int)+1+m).toNat=a+1+m:=by omega
  have hst:=argsP_succ s t a i
  rw[q3]at hst
  have hl3:=argsP_len s t a i
  have hc:(i:Int)<s.symbols[t[a].toNat].arity:=by omega
  simp (maxSteps:=2000000) (disch:=first|assumption|(refine asm_intro ?_;assumption)|exact Nat.le_add_right _ _|exact Nat.le_refl _|omega|(simp (disch:=first|exact Nat.le_add_right _ _|omega) only[Le_upd hb,Le_app hb,Le_rfl,free_T hb,free_upd];done)|fail) only[go_sem,push_cast,and_pos,Le_updF,Le_upd hb,free_T hb,Zs,e1,e2,h9,hc,q3,q4,hcv,hss,h2,h3,h4,hzi,hst,flat_append,flat_one]
  exact acc_end (by omega) (by omega) (by simp) rfl (by simp (disch:=first|assumption|omega|(simp (disch:=omega) only[free_upd,free_T hb];done)) only[Le_upd2,Le_updF,Le_rfl,free_upd,free_T hb])
 ·have hc:¬(i:Int)<s.symbols[t[a].toNat].arity:=by omega
  refine R (cj Zs (cj e1 (cj e2 (cj h9 hc)))) ?_
  refine Tr.fin2 7 (by simp (disch:=first|assumption|omega) only[free_upd,free_T hb]) (by simp only[go_sem,push_cast,and_pos,Le_updF];rfl) rfl ?_
  refine cv (by kernel_rfl) ?_
  rw[←show i=s.symbols[t[a].toNat].arity.toNat by omega]
  exact R Zs trivial
def W387:Trans:=fun args H Bd K=>∃(xs:List Int) (ys:List Int),args=[lst xs,lst ys]∧((sm xs)∧K (.bool (decide (xs=ys))) H Bd)
@[go_sem ↓] theorem W387_eq (xs:List Int) (ys:List Int):W387 [lst xs,lst ys] H Bd K=((sm xs)∧K (.bool (decide (xs=ys))) H Bd):=ex2 xs ys rfl
theorem W387_ok:OK 387 W387:=by
 rintro args H Bd K ⟨xs,ys,rfl,hpre,hK⟩
 refine fnp pok (Env.base _) [(6,[0,1,2,3,4,5,6,7,8],[⟨0,[],[]⟩,⟨1,[],[]⟩,⟨2,[],[]⟩,⟨3,[],[]⟩,⟨4,[],[]⟩,⟨5,[],[]⟩,⟨6,[],[]⟩,⟨7,[],[]⟩,⟨8,[],[]⟩], .nil)] hK Tryz.func387 Tryz.ntmps387 Tryz.call387 [.tmp 4] fun hb ha=> ?_
 refine withC pok fun cv=> ?_
 have hlen:=sm_len hpre
 simp (maxSteps:=2000000) (disch:=first|assumption|(refine asm_intro ?_;assumption)|exact Nat.le_add_right _ _|exact Nat.le_refl _|omega|(simp (disch:=first|exact Nat.le_add_right _ _|omega) only[Le_upd hb,Le_app hb,Le_rfl,free_T hb,free_upd];done)|fail) only[go_sem,push_cast,and_pos,Le_updF,Le_upd hb,free_T hb]
 refine Cnp.of (fun hl=> ?_) (fun hl=>cmp_len (by omega))
 have hl':xs.length=ys.length:=by omega
 refine tr_for (fun i=>∀j,j<i→xs[j]? =ys[j]?) xs.length (fun i=>[(0,lst xs),(1,lst ys),(5, .int .i64 i)]) (fun j h=>by omega) (by simp only[go_sem,push_cast,and_pos,Le_updF]) ?_
 intro i B0 hI hi hB
 refine cv (by kernel_rfl) ?_
 rcases Nat.lt_or_ge i xs.length with hlt|hge
 ·have e1:xs[i]? =some xs[i]:=List.getElem?_eq_getElem hlt
  have e2:ys[i]? =some (ys[i]'(by omega)):=List.getElem?_eq_getElem _
  have hx:=sm_mem hpre (List.getElem_mem hlt)
  simp (maxSteps:=2000000) (disch:=first|assumption|(refine asm_intro ?_;assumption)|exact Nat.le_add_right _ _|exact Nat.le_refl _|omega|(simp (disch:=first|exact Nat.le_add_right _ _|omega) only[Le_upd hb,Le_app hb,Le_rfl,free_T hb,free_upd];done)|fail) only[go_sem,push_cast,and_pos,Le_updF,Le_upd hb,free_T hb,e1,e2,hx]
  exact cmp_step hl' hI hlt (by omega) rfl fun h=>h
 ·simp (maxSteps:=2000000) (disch:=first|assumption|(refine asm_intro ?_;assumption)|exact Nat.le_add_right _ _|exact Nat.le_refl _|omega|(simp (disch:=first|exact Nat.le_add_right _ _|omega) only[Le_upd hb,Le_app hb,Le_rfl,free_T hb,free_upd];done)|fail) only[go_sem,push_cast,and_pos,Le_updF,Le_upd hb,free_T hb]
  refine cv (by kernel_rfl) ?_
  simp (maxSteps:=2000000) (disch:=first|assumption|(refine asm_intro ?_;assumption)|exact Nat.le_add_right _ _|exact Nat.le_refl _|omega|(simp (disch:=first|exact Nat.le_add_right _ _|omega) only[Le_upd hb,Le_app hb,Le_rfl,free_T hb,free_upd];done)|fail) only[go_sem,push_cast,and_pos,Le_updF,Le_upd hb,free_T hb]
  exact cmp_end hl' hI hge
def V384:Trans:=fun args H Bd K=>∃(s:GSignature) (t:List Int) (a:Int) (u:List Int) (b:Int),args=[.agg (enc s).toArray,lst t, .int .i64 a,lst u, .int .i64 b]∧((sm s∧sm t∧sm u∧sigF s=0∧nodes s t∧nodes s u∧0≤a∧a≤t.length∧0≤b∧b≤u.length∧0≤ep s t 1 a.toNat∧0≤ep s u 1 b.toNat)∧K (.bool (decide (subT s t a.toNat=subT s u b.toNat))) H Bd)
@[go_sem ↓] theorem V384_eq (s_symbols:List GSymbol) (t:List Int) (a:Int) (u:List Int) (b:Int):V384 [.agg #[lst s_symbols],lst t, .int .i64 a,lst u, .int .i64 b] H Bd K=((sm (GSignature.mk s_symbols)∧sm t∧sm u∧sigF (GSignature.mk s_symbols)=0∧nodes (GSignature.mk s_symbols) t∧nodes (GSignature.mk s_symbols) u∧0≤a∧a≤t.length∧0≤b∧b≤u.length∧0≤ep (GSignature.mk s_symbols) t 1 a.toNat∧0≤ep (GSignature.mk s_symbols) u 1 b.toNat)∧K (.bool (decide (subT (GSignature.mk s_symbols) t a.toNat=subT (GSignature.mk s_symbols) u b.toNat))) H Bd):=ex5 (GSignature.mk s_symbols) t a u b rfl
def W384:Trans:=fun args H Bd K=>∃(ps vt va vu vb:Value),args=[ps,vt,va,vu,vb]∧Yld (cellsAt H 1 ps) fun cs=>callW V384 [.agg cs.toArray,vt,va,vu,vb] H Bd K
@[go_sem ↓] theorem W384_eq (ps vt va vu vb:Value):W384 [ps,vt,va,vu,vb] H Bd K=(Yld (cellsAt H 1 ps) fun cs=>callW V384 (idS [.agg cs.toArray,vt,va,vu,vb]) H Bd K):=by
 refine propext ⟨fun h=> ?_,fun h=>⟨_,_,_,_,_,rfl,h⟩⟩
 obtain⟨ps',vt',va',vu',vb',e,h⟩:=h
 simp only[List.cons.injEq,and_true]at e
 obtain⟨rfl,rfl,rfl,rfl,rfl⟩:=e
 exact h
theorem W384_ok:OK 384 W384:=by
 rintro args H Bd K ⟨ps,vt,va,vu,vb,rfl,cs,es,h⟩
 obtain⟨s,t,a,u,b,e,hpre,hK⟩:=h
 simp only[List.cons.injEq,and_true]at e
 obtain⟨Es,rfl,rfl,rfl,rfl⟩:=e
 obtain rfl:=agg_inj Es
 refine fnp pok (((Env.base _).add 258 _ W258_ok).add 387 _ W387_ok) [(1,[0,1,2,3,4,7,8,9,10,11,5,6,12,13,14,15],[⟨0,[],[]⟩,⟨1,[],[]⟩,⟨2,[],[]⟩,⟨3,[],[]⟩,⟨4,[],[]⟩,⟨7,[],[]⟩,⟨8,[],[]⟩,⟨9,[],[]⟩,⟨10,[],[]⟩,⟨11,[],[]⟩,⟨5,[],[]⟩,⟨6,[],[]⟩,⟨12,[],[]⟩,⟨13,[],[]⟩,⟨14,[],[]⟩,⟨15,[],[]⟩], .nil)] hK Tryz.func384 Tryz.ntmps384 Tryz.call384 [.tmp 10] fun hb ha=> ?_
 have Ps:=cellsAt_out es (NB.vpok (ha ps (by simp)))
 simp only[enc_GSignature]at Ps
 have Zs:=Ps.all 1 rfl
 have Ys:=rq_all (ha ps (by simp))
 obtain⟨h1,h2,h3,h4,h5,h6,h7,h8,h9,h10,h11,h12⟩:=hpre
 obtain⟨a,rfl⟩:=Int.eq_ofNat_of_zero_le h7
 obtain⟨b,rfl⟩:=Int.eq_ofNat_of_zero_le h9
 simp only[Int.toNat_natCast]at h11 h12
 rcases ep_cases (s:=s) (t:=t) 1 (show a≤t.length by omega)with⟨q1,_⟩|⟨m,q1,q2,q3,_⟩
 ·omega
 rcases ep_cases (s:=s) (t:=u) 1 (show b≤u.length by omega)with⟨r1,_⟩|⟨n,r1,r2,r3,_⟩
 ·omega
 have hst:=sm_drop h2 a
 have hsu:=sm_drop h3 b
 refine R (cj Zs (cj h1 (cj h2 (cj h3 (cj h4 (cj h5 (cj h6 (cj q3 r3)))))))) ?_
 have c1:((a:Int)+m).toNat=a+m:=by omega
 have c2:((b:Int)+n).toNat=b+n:=by omega
 have d1:subT s t a=(t.take (a+m)).drop a:=by unfold subT;rw[q3,Int.toNat_natCast,List.drop_take]
 have d2:subT s u b=(u.take (b+n)).drop b:=by unfold subT;rw[r3,Int.toNat_natCast,List.drop_take]
 rw[c1,c2]
 refine⟨sm_drop (sm_take h2 _) _,?_⟩
 simp only[d1,d2]
def W385:Trans:=fun args H Bd K=>∃(order:List Int) (n:Int),args=[lst order, .int .i64 n]∧((sm order)∧K (.int .i64 (rk order n)) H Bd)
@[go_sem ↓] theorem W385_eq (order:List Int) (n:Int):W385 [lst order, .int .i64 n] H Bd K=((sm order)∧K (.int .i64 (rk order n)) H Bd):=ex2 order n rfl
theorem W385_ok:OK 385 W385:=by
 rintro args H Bd K ⟨order,n,rfl,hpre,hK⟩
 refine fnp pok (Env.base _) [] hK Tryz.func385 Tryz.ntmps385 Tryz.call385 [.tmp 4] fun hb ha=> ?_
 refine withC pok fun cv=> ?_
 have hlen:=sm_len hpre
 refine R0 ?_
 refine tr_for (fun i=>∀j,j<i→∀x,order[j]? =some x→decide (n=x)=false) (order.length) (fun i=>[(0,lst order),(1, .int .i64 n),(5, .int .i64 i)]) (by simp) (by simp only[go_sem,push_cast,and_pos,Le_updF]) ?_
 intro i Bi hIi hii hBi
 refine cv (by kernel_rfl) ?_
 rcases Nat.lt_or_ge i (order.length)with hlti|hgei
 ·have e1:order[i]? =some order[i]:=List.getElem?_eq_getElem hlti
  refine R e1 ?_
  unfold rk
  exact⟨fun h=>by rw[fidx_hit hlti hIi (by simpa using h.symm)],fun h=>fun j hj x hx=>by
   by_cases e:j=i
   ·subst e;rw[e1]at hx;cases hx;simpa using fun e=>h e.symm
   ·simpa using hIi j (by omega) x hx⟩
 ·refine R0 ?_
  refine cv (by kernel_rfl) ?_
  refine R0 ?_
  unfold rk
  rw[fidx_none fun j hj x hx=>hIi j (by omega) x hx]
def V374:Trans:=fun args H Bd K=>∃(s:GSignature) (order:List Int) (a:List Int) (b:List Int) (i:Int) (j:Int) (above:Own),args=[.agg (enc s).toArray,lst order,lst a,lst b, .int .i64 i, .int .i64 j, .slice (some ⟨(above).n,0,some 1⟩) (above).len (above).cap]∧(Yld (H above.n) fun b0=>((sm s∧sm order∧sm a∧sm b∧sigF s=0)∧(nodes s a∧nodes s b∧places s a∧places s b)∧(0≤i∧i<a.length∧0≤j∧j<b.length)∧(a.length≤24∧b.length≤24)∧tabOK s order a b i.toNat j.toNat b0.cells∧above.len=a.length*b.length)∧K (.bool (gt s order a b i.toNat j.toNat)) H Bd)
@[go_sem ↓] theorem V374_eq (s_symbols:List GSymbol) (order:List Int) (a:List Int) (b:List Int) (i:Int) (j:Int) (above_n:Nat) (above_l:Nat) (above_c:Nat):V374 [.agg #[lst s_symbols],lst order,lst a,lst b, .int .i64 i, .int .i64 j, .slice (some ⟨above_n,0,some 1⟩) above_l above_c] H Bd K=(Yld (H above_n) fun b0=>((sm (GSignature.mk s_symbols)∧sm order∧sm a∧sm b∧sigF (GSignature.mk s_symbols)=0)∧(nodes (GSignature.mk s_symbols) a∧nodes (GSignature.mk s_symbols) b∧places (GSignature.mk s_symbols) a∧places (GSignature.mk s_symbols) b)∧(0≤i∧i<a.length∧0≤j∧j<b.length)∧(a.length≤24∧b.length≤24)∧tabOK (GSignature.mk s_symbols) order a b i.toNat j.toNat b0.cells∧above_l=a.length*b.length)∧K (.bool (gt (GSignature.mk s_symbols) order a b i.toNat j.toNat)) H Bd):=by
 refine propext ⟨fun h=> ?_,fun h=>⟨_,_,_,_,_,_,(Own.mk above_n above_l above_c),rfl,h⟩⟩
 obtain⟨s',order',a',b',i',j',above',e,h⟩:=h
 obtain⟨ssymbols'⟩:=s'
 skip
 skip
 skip
 skip
 skip
 obtain⟨aboven',abovel',abovec'⟩:=above'
 simp only[enc_GSignature,enc_int,enc_str,enc_list,enc_bool,enc_byte,List.cons.injEq,Value.agg.injEq,toArr_inj,Value.int.injEq,Value.bool.injEq,Value.string.injEq,Value.slice.injEq,Value.func.injEq,Value.pointer.injEq,Option.some.injEq,Addr.mk.injEq,lst_inj,true_and,and_true]at e
 obtain⟨rfl,rfl,rfl,rfl,rfl,rfl,⟨rfl,rfl,rfl⟩⟩:=e
 exact h
def W374:Trans:=fun args H Bd K=>∃(ps vorder va vb vi vj vabove:Value),args=[ps,vorder,va,vb,vi,vj,vabove]∧Yld (cellsAt H 1 ps) fun cs=>callW V374 [.agg cs.toArray,vorder,va,vb,vi,vj,vabove] H Bd K
@[go_sem ↓] theorem W374_eq (ps vorder va vb vi vj vabove:Value):W374 [ps,vorder,va,vb,vi,vj,vabove] H Bd K=(Yld (cellsAt H 1 ps) fun cs=>callW V374 (idS [.agg cs.toArray,vorder,va,vb,vi,vj,vabove]) H Bd K):=by
 refine propext ⟨fun h=> ?_,fun h=>⟨_,_,_,_,_,_,_,rfl,h⟩⟩
 obtain⟨ps',vorder',va',vb',vi',vj',vabove',e,h⟩:=h
 simp only[List.cons.injEq,and_true]at e
 obtain⟨rfl,rfl,rfl,rfl,rfl,rfl,rfl⟩:=e
 exact h
set_option maxHeartbeats 2000000 in
theorem W374_ok:OK 374 W374:=by
 rintro args H Bd K ⟨ps,vorder,va,vb,vi,vj,vabove,rfl,cs,es,h⟩
 obtain⟨s,order,a,b,i,j,above,e,b0,hb0,hpre,hK⟩:=h
 simp only[List.cons.injEq,and_true]at e
 obtain⟨Es,rfl,rfl,rfl,rfl,rfl,rfl⟩:=e
 obtain rfl:=agg_inj Es
 refine fnp pok ((((((Env.base _).add 258 _ W258_ok).add 325 _ W325_ok).add 383 _ W383_ok).add 384 _ W384_ok).add 385 _ W385_ok) [(3,[0,1,2,3,4,5,6,7,8,9,10,13,14,15,16,11,12,17,18,19,20],[⟨0,[],[]⟩,⟨1,[],[]⟩,⟨2,[],[]⟩,⟨3,[],[]⟩,⟨4,[],[]⟩,⟨5,[],[]⟩,⟨6,[],[]⟩,⟨7,[],[]⟩,⟨8,[],[]⟩,⟨9,[],[]⟩,⟨10,[],[]⟩,⟨13,[],[]⟩,⟨14,[],[]⟩,⟨15,[],[]⟩,⟨16,[],[]⟩,⟨11,[],[16]⟩,⟨12,[],[]⟩,⟨17,[],[]⟩,⟨18,[],[]⟩,⟨19,[],[]⟩,⟨20,[],[]⟩], .nil),(10,[],[],(.k 12 (.grp false 74 83 9 [75,76,77,78,79,80,81,82,83] 84 none (.k 9 .nil) .nil))),(12,[0,1,2,3,4,6,7,8,9,10,5,11,12],[⟨0,[],[]⟩,⟨1,[],[]⟩,⟨2,[],[]⟩,⟨3,[],[]⟩,⟨4,[],[]⟩,⟨6,[],[]⟩,⟨7,[],[]⟩,⟨8,[],[]⟩,⟨9,[],[]⟩,⟨10,[],[]⟩,⟨5,[],[10]⟩,⟨11,[],[]⟩,⟨12,[],[]⟩], .nil),(20,[0,1,2,3,4,5,6,7,8],[⟨0,[],[]⟩,⟨1,[],[]⟩,⟨2,[],[]⟩,⟨3,[],[]⟩,⟨4,[],[]⟩,⟨5,[],[]⟩,⟨6,[],[]⟩,⟨7,[],[]⟩,⟨8,[],[]⟩], .nil),(23,[],[],(.k 5 (.grp true 133 137 4 [134,135,136,137] 138 none (.k 4 .nil) .nil))),(25,[0,1,2,3,4,5,6,7,8,9,10,11,12],[⟨0,[],[]⟩,⟨1,[],[]⟩,⟨2,[],[]⟩,⟨3,[],[]⟩,⟨4,[],[]⟩,⟨5,[],[]⟩,⟨6,[],[]⟩,⟨7,[],[]⟩,⟨8,[],[]⟩,⟨9,[],[]⟩,⟨10,[],[]⟩,⟨11,[],[]⟩,⟨12,[],[]⟩], .nil),(26,[0,1,2,3,4,5,6,7,8,9,10,11,12,13,14],[⟨0,[],[]⟩,⟨1,[],[]⟩,⟨2,[],[]⟩,⟨3,[],[]⟩,⟨4,[],[]⟩,⟨5,[],[]⟩,⟨6,[],[]⟩,⟨7,[],[]⟩,⟨8,[],[]⟩,⟨9,[],[]⟩,⟨10,[],[]⟩,⟨11,[],[]⟩,⟨12,[],[]⟩,⟨13,[],[]⟩,⟨14,[],[]⟩], .nil)] hK Tryz.func374 Tryz.ntmps374 Tryz.call374 [.tmp 14] fun hb ha=> ?_
 have Ps:=cellsAt_out es (NB.vpok (ha ps (by simp)))
 simp only[enc_GSignature]at Ps
 have Zs:=Ps.all 1 rfl
 have Ys:=rq_all (ha ps (by simp))
 refine withC pok fun cv=> ?_
 obtain⟨⟨h1,h2,h3,h4,h5⟩,⟨n1,n2,p1,p2⟩,⟨i1,i2,j1,j2⟩,⟨l1,l2⟩,ht,hl⟩:=hpre
 obtain⟨i,rfl⟩:=Int.eq_ofNat_of_zero_le i1
 obtain⟨j,rfl⟩:=Int.eq_ofNat_of_zero_le j1
 simp only[Int.toNat_natCast]at ht ⊢
 have hs:=sig_ok h5
 have hal:(args s a i).length≤2:=by rw[args_len];exact arN_le hs _
 have hbl:(args s b j).length≤2:=by rw[args_len];exact arN_le hs _
 have hia:i<a.length:=by omega
 have hjb:j<b.length:=by omega
 have ea:a[i]? =some a[i]:=List.getElem?_eq_getElem hia
 have eb:b[j]? =some b[j]:=List.getElem?_eq_getElem hjb
 have hpa:=p1 i hia
 have hpb:=p2 j hjb
 by_cases hy:b[j]<0
 ·have hv:=gt_var (order:=order) p1 p2 hia hjb hy
  rcases ep_cases (s:=s) (t:=a) 1 (show i≤a.length by omega)with⟨q1,_⟩|⟨m,q1,q2,q3,_⟩
  ·omega
  have d1:subT s a i=(a.take (i+m)).drop i:=by unfold subT;rw[q3,Int.toNat_natCast,List.drop_take]
  have c1:((i:Int)+m).toNat=i+m:=by omega
  refine R (cj Zs (cj ea (cj eb (cj hy (cj h1 (cj h3 (cj h5 (cj n1 (cj q3 c1))))))))) ?_
  rw[hv,d1,←count_any]
  exact⟨fun h=>⟨sm_drop (sm_take h3 _) _,by simp[h]⟩,fun h=>by simp[h]⟩
 by_cases hx:a[i]<0
 ·have hv:=gt_low (order:=order) p1 p2 hia hjb hy hx
  exact R (cj Zs (cj ea (cj eb (cj hy (cj hx hv))))) trivial
 ·have hrest:=gt_rest (order:=order) p1 p2 hia hjb hy hx
  have ga:a.getD i 0=a[i]:=getD_at hia
  have gb:b.getD j 0=b[j]:=getD_at hjb
  have ha1:argsP s a i (arN s a[i])=args s a i:=by unfold args;rw[ga]
  have hb1:argsP s b j (arN s b[j])=args s b j:=by unfold args;rw[gb]
  have hx0:0≤a[i]:=by omega
  have hy0:0≤b[j]:=by omega
  refine R (cj Zs (cj ea (cj eb (cj hy (cj hx (cj h1 (cj h3 (cj h5 (cj n1 (cj n2 (cj hpa (cj ga (cj ha1 hx0))))))))))))) ?_
  refine tr_for (fun x=>∀m,m<x→∀p,(args s a i)[m]? =some p→gt s order a b p.toNat j=false∧subT s a p.toNat≠subT s b j) ((args s a i).length) (fun x=>[(0,ps),(1,lst order),(2,lst a),(3,lst b),(4, .int .i64 i),(5, .int .i64 j),(6, .slice (some ⟨above.n,0,some 1⟩) above.len above.cap),(15, .int .i64 b.length),(16,lst (args s a i)),(17, .int .i64 x)]) (by simp) (by simp only[go_sem,push_cast,and_pos,Le_updF]) ?_
  intro x Bx hIx hix hBx
  refine cv (by kernel_rfl) ?_
  rcases Nat.lt_or_ge x ((args s a i).length)with hltx|hgex
  ·obtain⟨p,e1,g1,g2⟩:=args_get p1 hia hltx
   have e2:=ht p j g2 hjb (.inl g1)
   have m1:=mul_at g2 hjb
   have m2:=mul_sm l1 l2
   have c3:((p:Int)*b.length+j).toNat=p*b.length+j:=by omega
   refine R (cj Zs (cj e1 (cj e2 (cj hb0 (cj c3 (cj h1 (cj h3 (cj h4 (cj h5 (cj n1 (cj n2 hpb))))))))))) ?_
   refine⟨fun _=>p1 p g2,fun h=> ?_,fun h m hm q hq=> ?_⟩
   ·rw[gt_arg p1 p2 hia hjb hy hx (p:=(p:Int)) (List.mem_of_getElem? e1) (by simpa using h)]
   ·by_cases e:m=x
    ·subst e;rw[e1]at hq;cases hq;simpa using h
    ·exact hIx m (by omega) q hq
  ·have hr:=hrest fun p hp=>by
    obtain⟨m,hm,rfl⟩:=List.getElem_of_mem hp
    exact hIx m (by omega) _ (List.getElem?_eq_getElem hm)
   refine R Zs ?_
   refine cv (by kernel_rfl) ?_
   refine R (cj Zs (cj ea (cj eb (cj h1 (cj h2 (cj h4 (cj h5 (cj n2 (cj hpb (cj gb (cj hb1 hy0))))))))))) ?_
   refine⟨fun hlt=>by rw[hr,if_pos hlt],fun hge=> ?_⟩
   rw[if_neg hge]at hr
   refine tr_for (fun y=>∀m,m<y→∀q,(args s b j)[m]? =some q→gt s order a b i q.toNat=true) ((args s b j).length) (fun y=>[(0,ps),(2,lst a),(3,lst b),(4, .int .i64 i),(5, .int .i64 j),(6, .slice (some ⟨above.n,0,some 1⟩) above.len above.cap),(15, .int .i64 b.length),(16,lst (args s a i)),(18,lst (args s b j)),(19, .int .i64 y)]) (by simp) (by simp only[go_sem,push_cast,and_pos,Le_updF]) ?_
   intro y By hIy hiy hBy
   refine cv (by kernel_rfl) ?_
   rcases Nat.lt_or_ge y ((args s b j).length)with hlty|hgey
   ·obtain⟨q,e1,g1,g2⟩:=args_get p2 hjb hlty
    have e2:=ht i q hia g2 (.inr ⟨rfl,g1⟩)
    have m1:=mul_at hia g2
    have m2:=mul_sm l1 l2
    have c3:((i:Int)*b.length+q).toNat=i*b.length+q:=by omega
    refine R (cj Zs (cj e1 (cj e2 (cj hb0 c3)))) ?_
    refine⟨fun h m hm q' hq=> ?_,fun h=> ?_⟩
    ·by_cases e:m=y
     ·subst e;rw[e1]at hq;cases hq;simpa using h
     ·exact hIy m (by omega) q' hq
    ·rw[hr,if_pos (List.any_eq_true.2 ⟨_,List.mem_of_getElem? e1,by simpa using h⟩)]
   ·have hany:¬((args s b j).any fun q=> !gt s order a b i q.toNat)=true:=fun hc=>by
     obtain⟨q,hq,h⟩:=List.any_eq_true.1 hc
     obtain⟨m,hm,rfl⟩:=List.getElem_of_mem hq
     rw[hIy m (by omega) _ (List.getElem?_eq_getElem hm)]at h
     cases h
    rw[if_neg hany]at hr
    refine R Zs ?_
    refine cv (by kernel_rfl) ?_
    refine R (cj Zs (cj ea eb)) ?_
    refine⟨fun heq=> ?_,fun hne=>by rw[hr,if_pos hne]⟩
    rw[if_neg (by simpa using heq)]at hr
    refine tr_for (fun z=>∀m,m<z→∀p q:Int,(args s a i)[m]? =some p→(args s b j)[m]? =some q→subT s a p.toNat=subT s b q.toNat) (min (args s a i).length (args s b j).length) (fun z=>[(0,ps),(2,lst a),(3,lst b),(4, .int .i64 i),(5, .int .i64 j),(6, .slice (some ⟨above.n,0,some 1⟩) above.len above.cap),(15, .int .i64 b.length),(16,lst (args s a i)),(18,lst (args s b j)),(20, .int .i64 z)]) (by simp) (by simp only[go_sem,push_cast,and_pos,Le_updF]) ?_
    intro z Bz hIz hiz hBz
    refine cv (by kernel_rfl) ?_
    rcases Nat.lt_or_ge z (min (args s a i).length (args s b j).length)with hltz|hgez
    ·obtain⟨p,e1,g1,g2⟩:=args_get p1 hia (show z<(args s a i).length by omega)
     obtain⟨q,e2,g3,g4⟩:=args_get p2 hjb (show z<(args s b j).length by omega)
     have e3:=ht p q g2 g4 (.inl g1)
     have m1:=mul_at g2 g4
     have m2:=mul_sm l1 l2
     have c3:((p:Int)*b.length+q).toNat=p*b.length+q:=by omega
     have g5:=p1 p g2
     have g6:=p2 q g4
     refine R (cj Zs (cj e1 (cj e2 (cj e3 (cj hb0 (cj c3 (cj h1 (cj h3 (cj h4 (cj h5 (cj n1 (cj n2 (cj g5 g6))))))))))))) ?_
     refine⟨fun h m hm p' q' hp hq=> ?_,fun h=> ?_⟩
     ·by_cases e:m=z
      ·subst e;rw[e1]at hp;rw[e2]at hq;cases hp;cases hq;simpa using h
      ·exact hIz m (by omega) p' q' hp hq
     ·rw[hr,lexG_go hIz _ _ e1 e2 (by simpa using h)];simp
    ·refine R Zs ?_
     refine⟨fun a1 a2=>absurd (show z<min (args s a i).length (args s b j).length by omega) (by omega),fun _=> ?_⟩
     refine cv (by kernel_rfl) ?_
     refine R Zs ?_
     rw[hr,lexG_end fun m p q hp hq=>hIz m (by have:=(List.getElem?_eq_some_iff.1 hp).1;have:=(List.getElem?_eq_some_iff.1 hq).1;omega) p q hp hq]
def V353:Trans:=fun args H Bd K=>∃(s:GSignature) (order:List Int) (a:List Int) (b:List Int),args=[.agg (enc s).toArray,lst order,lst a,lst b]∧(((sm s∧sm order∧sm a∧sm b∧sigF s=0)∧(nodes s a∧nodes s b∧places s a∧places s b)∧(1≤a.length∧a.length≤24∧1≤b.length∧b.length≤24))∧K (lst (tabG s order a b)) H Bd)
@[go_sem ↓] theorem V353_eq (s_symbols:List GSymbol) (order:List Int) (a:List Int) (b:List Int):V353 [.agg #[lst s_symbols],lst order,lst a,lst b] H Bd K=(((sm (GSignature.mk s_symbols)∧sm order∧sm a∧sm b∧sigF (GSignature.mk s_symbols)=0)∧(nodes (GSignature.mk s_symbols) a∧nodes (GSignature.mk s_symbols) b∧places (GSignature.mk s_symbols) a∧places (GSignature.mk s_symbols) b)∧(1≤a.length∧a.length≤24∧1≤b.length∧b.length≤24))∧K (lst (tabG (GSignature.mk s_symbols) order a b)) H Bd):=ex4 (GSignature.mk s_symbols) order a b rfl
def W353:Trans:=fun args H Bd K=>∃(ps vorder va vb:Value),args=[ps,vorder,va,vb]∧Yld (cellsAt H 1 ps) fun cs=>callW V353 [.agg cs.toArray,vorder,va,vb] H Bd K
@[go_sem ↓] theorem W353_eq (ps vorder va vb:Value):W353 [ps,vorder,va,vb] H Bd K=(Yld (cellsAt H 1 ps) fun cs=>callW V353 (idS [.agg cs.toArray,vorder,va,vb]) H Bd K):=by
 refine propext ⟨fun h=> ?_,fun h=>⟨_,_,_,_,rfl,h⟩⟩
 obtain⟨ps',vorder',va',vb',e,h⟩:=h
 simp only[List.cons.injEq,and_true]at e
 obtain⟨rfl,rfl,rfl,rfl⟩:=e
 exact h
set_option maxHeartbeats 2000000 in
theorem W353_ok:OK 353 W353:=by
 rintro args H Bd K ⟨ps,vorder,va,vb,rfl,cs,es,h⟩
 obtain⟨s,order,a,b,e,hpre,hK⟩:=h
 simp only[List.cons.injEq,and_true]at e
 obtain⟨Es,rfl,rfl,rfl⟩:=e
 obtain rfl:=agg_inj Es
 refine fnp pok ((Env.base _).add 374 _ W374_ok) [] hK Tryz.func353 Tryz.ntmps353 Tryz.call353 [.tmp 8] fun hb ha=> ?_
 have Ps:=cellsAt_out es (NB.vpok (ha ps (by simp)))
 simp only[enc_GSignature]at Ps
 have Zs:=Ps.all 1 rfl
 have Ys:=rq_all (ha ps (by simp))
 refine withC pok fun cv=> ?_
 obtain⟨⟨h1,h2,h3,h4,h5⟩,⟨n1,n2,p1,p2⟩,⟨l1,l2,l3,l4⟩⟩:=hpre
 have m2:=mul_sm l2 l4
 have c0:((a.length:Int)*b.length).toNat=a.length*b.length:=by omega
 refine R (cj Zs c0) ?_
 refine tr_st (X:=Nat×List Value) (fun x=>x.1≤a.length∧x.2.length=a.length*b.length∧∀p q:Nat,p<a.length→q<b.length→x.1≤p→x.2[p*b.length+q]? =some (.bool (gt s order a b p q))) (fun x=>x.1) (fun x=>[(0,ps),(1,lst order),(2,lst a),(3,lst b),(9, .int .i64 b.length),(10, .slice (some ⟨Bd,0,some 1⟩) (a.length*b.length) (a.length*b.length+1)),(11, .int .i64 ((x.1:Int)-1))]) (fun x=>upd H Bd (some ⟨x.2,true⟩)) (a.length,zmake (a.length*b.length) [.bool false]) (⟨Nat.le_refl _,by rw[zmake_len];simp,fun p q h1 _ h2=>absurd h1 (by omega)⟩) (by simp only[go_sem,push_cast,and_pos,Le_updF];all_goals (try simp only[Value.int.injEq,Value.slice.injEq,true_and,and_true]) <;>all_goals (try(first|trivial|omega|grind))) (by first|exact Le.refl _|simp (disch:=first|assumption|omega) only[go_sem,push_cast,and_pos,Le_updF,Le_rfl,Le_upd2]) ?_
 intro x Bx hIx hBx hbx Fx hFx
 refine cv (by kernel_rfl) ?_
 obtain⟨r,L⟩:=x
 obtain⟨i1,i2,i3⟩:=hIx
 simp only at i1 i2 i3 hbx
 cases r with
 |zero=>
  refine R Zs ?_
  have hfl:=tab_flat (s:=s) (order:=order) (a:=a) (b:=b) (by omega) i2 fun p q g1 g2=>i3 p q g1 g2 (Nat.zero_le _)
  subst hfl
  refine Tr.fin2 10 (by simp (disch:=first|assumption|omega) only[free_upd,free_T hb]) (by simp only[go_sem,push_cast,and_pos,Le_updF];rfl) (tabG_len _ _ _ _).symm ?_
  refine cv (by kernel_rfl) ?_
  exact R Zs trivial
 |succ i=>
  have ci:(i:Int)+1-1=i:=by omega
  refine R (cj Zs ci) ?_
  refine tr_st (X:=Nat×List Value) (fun y=>y.1≤b.length∧y.2.length=a.length*b.length∧∀p q:Nat,p<a.length→q<b.length→(i<p∨(p=i∧y.1≤q))→y.2[p*b.length+q]? =some (.bool (gt s order a b p q))) (fun y=>y.1) (fun y=>[(0,ps),(1,lst order),(2,lst a),(3,lst b),(9, .int .i64 b.length),(10, .slice (some ⟨Bd,0,some 1⟩) (a.length*b.length) (a.length*b.length+1)),(11, .int .i64 i),(12, .int .i64 ((y.1:Int)-1))]) (fun y=>upd H Bd (some ⟨y.2,true⟩)) (b.length,L) (⟨Nat.le_refl _,i2,fun p q g1 g2 g3=>i3 p q g1 g2 (by omega)⟩) (by simp only[go_sem,push_cast,and_pos,Le_updF,ci];all_goals (try simp only[Value.int.injEq,Value.slice.injEq,true_and,and_true]) <;>all_goals (try(first|trivial|omega|grind))) (by first|exact Le.refl _|simp (disch:=first|assumption|omega) only[go_sem,push_cast,and_pos,Le_updF,Le_rfl,Le_upd2,ci]) ?_
  intro y By hIy hBy hby Fy hFy
  refine cv (by kernel_rfl) ?_
  obtain⟨c,L2⟩:=y
  obtain⟨k1,k2,k3⟩:=hIy
  simp only at k1 k2 k3 hby
  cases c with
  |zero=>
   refine R Zs ?_
   refine hFx (i,L2) _ _ _ ?_ ?_ (by first|exact Le.refl _|simp (disch:=first|assumption|omega|(simp (disch:=omega) only[free_upd,free_T hb];done)) only[go_sem,push_cast,and_pos,Le_updF,Le_rfl,Le_upd2,free_upd,free_T hb]) (by simp only[go_sem,push_cast,and_pos,Le_updF]) (by simp only[go_sem,push_cast,and_pos,Le_updF];all_goals (try simp only[Value.int.injEq,Value.slice.injEq,true_and,and_true]) <;>all_goals (try(first|trivial|omega|grind)))
   ·show i<i+1
    omega
   ·exact⟨by omega,k2,fun p q g1 g2 g3=>k3 p q g1 g2 (by omega)⟩
  |succ j=>
   have ck:(j:Int)+1-1=j:=by omega
   have m1:=mul_at (show i<a.length by omega) (show j<b.length by omega)
   have c3:((i:Int)*b.length+j).toNat=i*b.length+j:=by omega
   have ht:tabOK s order a b i j L2:=fun p q g1 g2 g3=>k3 p q g1 g2 (by omega)
   refine R (cj Zs (cj ci (cj ck (cj c3 (cj h1 (cj h2 (cj h3 (cj h4 (cj h5 (cj n1 (cj n2 (cj p1 (cj p2 (cj ht k2)))))))))))))) ?_
   refine hFy (j,L2.set (i*b.length+j) (.bool (gt s order a b i j))) _ _ _ ?_ ?_ (by first|exact Le.refl _|simp (disch:=first|assumption|omega|(simp (disch:=omega) only[free_upd,free_T hb];done)) only[go_sem,push_cast,and_pos,Le_updF,Le_rfl,Le_upd2,free_upd,free_T hb]) (by simp only[go_sem,push_cast,and_pos,Le_updF]) (by simp only[go_sem,push_cast,and_pos,Le_updF];all_goals (try simp only[Value.int.injEq,Value.slice.injEq,true_and,and_true]) <;>all_goals (try(first|trivial|omega|grind)))
   ·show j<j+1
    omega
   ·exact⟨by omega,by simpa using k2,fun p q g1 g2 g3=>tab_set (by omega) (by omega) k2 ht p q g1 g2 g3⟩
def V326:Trans:=fun args H Bd K=>∃(s:GSignature) (order:List Int) (a:List Int) (b:List Int),args=[.agg (enc s).toArray,lst order,lst a,lst b]∧(((sm s∧sm order∧sm a∧sm b∧sigF s=0)∧(nodes s a∧nodes s b∧places s a∧places s b)∧(1≤a.length∧a.length≤24∧1≤b.length∧b.length≤24))∧K (.bool (gt s order a b 0 0)) H Bd)
@[go_sem ↓] theorem V326_eq (s_symbols:List GSymbol) (order:List Int) (a:List Int) (b:List Int):V326 [.agg #[lst s_symbols],lst order,lst a,lst b] H Bd K=(((sm (GSignature.mk s_symbols)∧sm order∧sm a∧sm b∧sigF (GSignature.mk s_symbols)=0)∧(nodes (GSignature.mk s_symbols) a∧nodes (GSignature.mk s_symbols) b∧places (GSignature.mk s_symbols) a∧places (GSignature.mk s_symbols) b)∧(1≤a.length∧a.length≤24∧1≤b.length∧b.length≤24))∧K (.bool (gt (GSignature.mk s_symbols) order a b 0 0)) H Bd):=ex4 (GSignature.mk s_symbols) order a b rfl
def W326:Trans:=fun args H Bd K=>∃(ps vorder va vb:Value),args=[ps,vorder,va,vb]∧Yld (cellsAt H 1 ps) fun cs=>callW V326 [.agg cs.toArray,vorder,va,vb] H Bd K
@[go_sem ↓] theorem W326_eq (ps vorder va vb:Value):W326 [ps,vorder,va,vb] H Bd K=(Yld (cellsAt H 1 ps) fun cs=>callW V326 (idS [.agg cs.toArray,vorder,va,vb]) H Bd K):=by
 refine propext ⟨fun h=> ?_,fun h=>⟨_,_,_,_,rfl,h⟩⟩
 obtain⟨ps',vorder',va',vb',e,h⟩:=h
 simp only[List.cons.injEq,and_true]at e
 obtain⟨rfl,rfl,rfl,rfl⟩:=e
 exact h
theorem W326_ok:OK 326 W326:=by
 rintro args H Bd K ⟨ps,vorder,va,vb,rfl,cs,es,h⟩
 obtain⟨s,order,a,b,e,hpre,hK⟩:=h
 simp only[List.cons.injEq,and_true]at e
 obtain⟨Es,rfl,rfl,rfl⟩:=e
 obtain rfl:=agg_inj Es
 refine fnp pok ((Env.base _).add 353 _ W353_ok) [] hK Tryz.func326 Tryz.ntmps326 Tryz.call326 [.tmp 8] fun hb ha=> ?_
 have Ps:=cellsAt_out es (NB.vpok (ha ps (by simp)))
 simp only[enc_GSignature]at Ps
 have Zs:=Ps.all 1 rfl
 have Ys:=rq_all (ha ps (by simp))
 obtain⟨⟨h1,h2,h3,h4,h5⟩,⟨n1,n2,p1,p2⟩,⟨l1,l2,l3,l4⟩⟩:=hpre
 have m1:=mul_at (show 0<a.length by omega) (show 0<b.length by omega)
 have e1:(tabG s order a b)[0]? =some (gt s order a b 0 0):=by
  unfold tabG
  rw[List.getElem?_map,List.getElem?_range (by omega)]
  simp
 have hl:=tabG_len s order a b
 exact R (cj Zs (cj h1 (cj h2 (cj h3 (cj h4 (cj h5 (cj n1 (cj n2 (cj p1 (cj p2 e1)))))))))) trivial
def V287:Trans:=fun args H Bd K=>∃(s:GSignature) (order:List Int) (l:List GEquation),args=[.agg (enc s).toArray,lst order,lst l]∧((sm s∧sm order∧sm l∧sigF s=0∧rulesG s l=0)∧K (.bool (fallsB s order l)) H Bd)
@[go_sem ↓] theorem V287_eq (s_symbols:List GSymbol) (order:List Int) (l:List GEquation):V287 [.agg #[lst s_symbols],lst order,lst l] H Bd K=((sm (GSignature.mk s_symbols)∧sm order∧sm l∧sigF (GSignature.mk s_symbols)=0∧rulesG (GSignature.mk s_symbols) l=0)∧K (.bool (fallsB (GSignature.mk s_symbols) order l)) H Bd):=ex3 (GSignature.mk s_symbols) order l rfl
def W287:Trans:=fun args H Bd K=>∃(ps vorder vl:Value),args=[ps,vorder,vl]∧Yld (cellsAt H 1 ps) fun cs=>callW V287 [.agg cs.toArray,vorder,vl] H Bd K
@[go_sem ↓] theorem W287_eq (ps vorder vl:Value):W287 [ps,vorder,vl] H Bd K=(Yld (cellsAt H 1 ps) fun cs=>callW V287 (idS [.agg cs.toArray,vorder,vl]) H Bd K):=by
 refine propext ⟨fun h=> ?_,fun h=>⟨_,_,_,rfl,h⟩⟩
 obtain⟨ps',vorder',vl',e,h⟩:=h
 simp only[List.cons.injEq,and_true]at e
 obtain⟨rfl,rfl,rfl⟩:=e
 exact h
set_option maxHeartbeats 2000000 in
theorem W287_ok:OK 287 W287:=by
 rintro args H Bd K ⟨ps,vorder,vl,rfl,cs,es,h⟩
 obtain⟨s,order,l,e,hpre,hK⟩:=h
 simp only[List.cons.injEq,and_true]at e
 obtain⟨Es,rfl,rfl⟩:=e
 obtain rfl:=agg_inj Es
 refine fnp pok ((Env.base _).add 326 _ W326_ok) [(4,[0,1,2,3,4,5,6,7,8,9,10,11,12,13],[⟨0,[],[]⟩,⟨1,[],[]⟩,⟨2,[],[]⟩,⟨3,[],[]⟩,⟨4,[],[]⟩,⟨5,[],[]⟩,⟨6,[],[]⟩,⟨7,[],[]⟩,⟨8,[],[]⟩,⟨9,[],[]⟩,⟨10,[],[]⟩,⟨11,[],[]⟩,⟨12,[],[]⟩,⟨13,[],[]⟩], .nil)] hK Tryz.func287 Tryz.ntmps287 Tryz.call287 [.tmp 6] fun hb ha=> ?_
 have Ps:=cellsAt_out es (NB.vpok (ha ps (by simp)))
 simp only[enc_GSignature]at Ps
 have Zs:=Ps.all 1 rfl
 have Ys:=rq_all (ha ps (by simp))
 refine withC pok fun cv=> ?_
 obtain⟨h1,h2,h3,h4,h5⟩:=hpre
 have hok:=(rulesG_zero h5).2
 have hlt2:=sm_len h3
 refine R Zs ?_
 refine tr_for (fun i=>∀j,j<i→∀x,l[j]? =some x→gt s order x.left x.right 0 0=true) (l.length) (fun i=>[(0,ps),(1,lst order),(2,lst l),(7, .int .i64 i)]) (fun j hj=>absurd hj (Nat.not_lt_zero _)) (by simp only[go_sem,push_cast,and_pos,Le_updF]) ?_
 intro i Bi hIi hii hBi
 refine cv (by kernel_rfl) ?_
 rcases Nat.lt_or_ge i (l.length)with hlti|hgei
 ·have e1:l[i]? =some l[i]:=List.getElem?_eq_getElem hlti
  have h6:=sm_mem h3 (List.getElem_mem hlti)
  simp only[sm_GEquation]at h6
  have g1:=h6.1
  have g2:=h6.2
  have h7:=hok _ (List.getElem_mem hlti)
  have n1:=h7.1.nodes
  have n2:=h7.2.1.nodes
  have p1:=term_places h7.1
  have p2:=term_places h7.2.1
  have l1:=h7.1.len
  have l2:=h7.2.1.len
  refine R (cj Zs (cj e1 (cj h1 (cj h2 (cj g1 (cj g2 (cj h4 (cj n1 (cj n2 (cj p1 p2)))))))))) ?_
  refine⟨fun h j hj x hx=> ?_,fun h=> ?_⟩
  ·by_cases e:j=i
   ·subst e;rw[e1]at hx;cases hx;simpa using h
   ·exact hIi j (by omega) x hx
  ·exact(all_no (List.getElem_mem hlti) (by simpa using h)).symm
 ·refine R Zs ?_
  refine cv (by kernel_rfl) ?_
  refine R Zs ?_
  exact(all_yes fun x hx=>by
   obtain⟨j,hj,rfl⟩:=List.getElem_of_mem hx
   exact hIi j (by omega) _ (List.getElem?_eq_getElem hj)).symm
def V213:Trans:=fun args H Bd K=>∃(s:GSignature) (x:GTheory),args=[.agg (enc s).toArray, .agg (enc x).toArray]∧((sm s∧sm x∧rg x∧sigF s=0)∧K (.int .i64 (thG s x)) H Bd)
@[go_sem ↓] theorem V213_eq (s_symbols:List GSymbol) (x_order:List Int) (x_equations:List GEquation) (x_rules:List GEquation):V213 [.agg #[lst s_symbols], .agg #[lst x_order,lst x_equations,lst x_rules]] H Bd K=((sm (GSignature.mk s_symbols)∧sm (GTheory.mk x_order x_equations x_rules)∧rg (GTheory.mk x_order x_equations x_rules)∧sigF (GSignature.mk s_symbols)=0)∧K (.int .i64 (thG (GSignature.mk s_symbols) (GTheory.mk x_order x_equations x_rules))) H Bd):=ex2 (GSignature.mk s_symbols) (GTheory.mk x_order x_equations x_rules) rfl
def W213:Trans:=fun args H Bd K=>∃(ps px:Value),args=[ps,px]∧Yld (cellsAt H 1 ps) fun cs=>Yld (cellsAt H 3 px) fun cx=>callW V213 [.agg cs.toArray, .agg cx.toArray] H Bd K
@[go_sem ↓] theorem W213_eq (ps px:Value):W213 [ps,px] H Bd K=(Yld (cellsAt H 1 ps) fun cs=>Yld (cellsAt H 3 px) fun cx=>callW V213 (idS [.agg cs.toArray, .agg cx.toArray]) H Bd K):=by
 refine propext ⟨fun h=> ?_,fun h=>⟨_,_,rfl,h⟩⟩
 obtain⟨ps',px',e,h⟩:=h
 simp only[List.cons.injEq,and_true]at e
 obtain⟨rfl,rfl⟩:=e
 exact h
set_option maxHeartbeats 2000000 in
theorem W213_ok:OK 213 W213:=by
 rintro args H Bd K ⟨ps,px,rfl,cs,es,cx,ex,h⟩
 obtain⟨s,x,e,hpre,hK⟩:=h
 simp only[List.cons.injEq,and_true]at e
 obtain⟨Es,Ex⟩:=e
 obtain rfl:=agg_inj Es
 obtain rfl:=agg_inj Ex
 refine fnp pok (((((Env.base _).add 259 _ W259_ok).add 285 _ W285_ok).add 286 _ W286_ok).add 287 _ W287_ok) [(10,[0,1,2,3,4,5,6,7,8,9,10],[⟨0,[],[]⟩,⟨1,[],[]⟩,⟨2,[],[]⟩,⟨3,[],[]⟩,⟨4,[],[]⟩,⟨5,[],[]⟩,⟨6,[],[]⟩,⟨7,[],[]⟩,⟨8,[],[]⟩,⟨9,[],[]⟩,⟨10,[],[]⟩], .nil)] hK Tryz.func213 Tryz.ntmps213 Tryz.call213 [.tmp 4] fun hb ha=> ?_
 have Ps:=cellsAt_out es (NB.vpok (ha ps (by simp)))
 simp only[enc_GSignature]at Ps
 have Zs:=Ps.all 1 rfl
 have Ys:=rq_all (ha ps (by simp))
 have Px:=cellsAt_out ex (NB.vpok (ha px (by simp)))
 simp only[enc_GSignature,enc_GTheory]at Px
 have Zx:=Px.all 3 rfl
 have Yx:=rq_all (ha px (by simp))
 obtain⟨h1,h2,h3,h4⟩:=hpre
 simp only[sm_GTheory]at h2
 have h5:rg x.order:=h3.1
 have h6:rg x.equations:=h3.2.1
 have h7:rg x.rules:=h3.2.2
 refine R (cj Zs (cj Zx (cj h1 (cj h2 (cj h5 (cj h6 (cj h7 h4))))))) ?_
 unfold thG
 all_goals first|done|trivial|((try simp only[Cnp,Imp]);grind)
def V148:Trans:=fun args H Bd K=>∃(s:GSignature) (data:List UInt8),args=[.agg (enc s).toArray,lst data]∧((sm s∧sigF s=0∧data.length≤1000000)∧K (.tuple #[.agg (enc ((thS s data).1)).toArray, .bool ((thS s data).2)]) H Bd)
@[go_sem ↓] theorem V148_eq (s_symbols:List GSymbol) (data:List UInt8):V148 [.agg #[lst s_symbols],lst data] H Bd K=((sm (GSignature.mk s_symbols)∧sigF (GSignature.mk s_symbols)=0∧data.length≤1000000)∧K (.tuple #[.agg (enc ((thS (GSignature.mk s_symbols) data).1)).toArray, .bool ((thS (GSignature.mk s_symbols) data).2)]) H Bd):=ex2 (GSignature.mk s_symbols) data rfl
def W148:Trans:=fun args H Bd K=>∃(ps vdata:Value),args=[ps,vdata]∧Yld (cellsAt H 1 ps) fun cs=>callW V148 [.agg cs.toArray,vdata] H Bd K
@[go_sem ↓] theorem W148_eq (ps vdata:Value):W148 [ps,vdata] H Bd K=(Yld (cellsAt H 1 ps) fun cs=>callW V148 (idS [.agg cs.toArray,vdata]) H Bd K):=by
 refine propext ⟨fun h=> ?_,fun h=>⟨_,_,rfl,h⟩⟩
 obtain⟨ps',vdata',e,h⟩:=h
 simp only[List.cons.injEq,and_true]at e
 obtain⟨rfl,rfl⟩:=e
 exact h
set_option maxHeartbeats 2000000 in
theorem W148_ok:OK 148 W148:=by
 rintro args H Bd K ⟨ps,vdata,rfl,cs,es,h⟩
 obtain⟨s,data,e,hpre,hK⟩:=h
 simp only[List.cons.injEq,and_true]at e
 obtain⟨Es,rfl⟩:=e
 obtain rfl:=agg_inj Es
 refine fn_pure pok (((Env.base _).add 212 _ W212_ok).add 213 _ W213_ok) [(2,[],[],(.k 5 (.grp false 22 25 3 [23,24,25] 26 none (.k 3 .nil) .nil))),(8,[0,1,2,3,4,5,6,7,8,9,10],[⟨0,[],[]⟩,⟨1,[],[]⟩,⟨2,[],[]⟩,⟨3,[],[]⟩,⟨4,[],[]⟩,⟨5,[],[]⟩,⟨6,[],[]⟩,⟨7,[],[]⟩,⟨8,[7],[]⟩,⟨9,[],[]⟩,⟨10,[7],[]⟩], .nil),(13,[],[],(.k 3 (.grp false 67 75 8 [68,69,70,71,72,73,74,75] 76 none (.k 8 .nil) .nil))),(17,[0,1,2,3,4,5],[⟨0,[],[]⟩,⟨1,[],[]⟩,⟨2,[],[0]⟩,⟨3,[],[]⟩,⟨4,[],[]⟩,⟨5,[],[]⟩], .nil)] _ hK Tryz.func148 rfl (rs:=[.cell 4 127, .tmp 5]) rfl Tryz.ntmps148 (by simp) Tryz.call148 (by kernel_rfl) (fun ha hb=>tup_nb ⟨agg_nb _ _, .bool _,trivial⟩) (fun hb ha=> ?_)
 have Ps:=cellsAt_out es (NB.vpok (ha ps (by simp)))
 simp only[enc_GSignature]at Ps
 have Zs:=Ps.all 1 rfl
 have Ys:=rq_all (ha ps (by simp))
 refine withC pok fun cv=> ?_
 obtain⟨h1,h2,h3⟩:=hpre
 have hs:=sig_ok h2
 have hsl:=hs.len
 by_cases g1:data.length<s.symbols.length
 ·have e:thS s data=(noTh,false):=by unfold thS;rw[if_pos (.inl g1)]
  rw[e];unfold noTh
  exact R (cj Zs g1) trivial
 by_cases g2:300<data.length
 ·have e:thS s data=(noTh,false):=by unfold thS;rw[if_pos (.inr g2)]
  rw[e];unfold noTh
  exact R (cj Zs (cj g1 g2)) trivial
 have hT:thS s data=if(thE s data).2=0 then(noTh,false)
   else if(thL s data).2=0∨(s.symbols.length:Int)+(thE s data).2+(thL s data).2≠data.length then(noTh,false)
   else(thX s data,decide (thG s (thX s data)=0)):=by unfold thS;rw[if_neg (by omega)]
 refine R (cj Zs (cj g1 g2)) ?_
 refine tr_own (X:=Nat) hb (by omega) 1 [.m (Bd+1) 0] rfl (fun x=>x≤s.symbols.length) (fun x=>s.symbols.length-x) (fun Nx x=>[(0,ps),(1,lst data),(4, .pointer (some ⟨Bd,0,none⟩)),(6, .int .i64 (s.symbols.length:Int)),(7, .pointer (some ⟨Bd+1,0,none⟩)),(8, .int .i64 x)]) (fun Nx x=>[(Bd,⟨[.slice none 0 0, .slice none 0 0, .slice none 0 0],true⟩),(Bd+1,⟨[.slice (some ⟨Nx,0,some 1⟩) ((data.take x).map bI).length (((data.take x).map bI).length+1), .slice none 0 0, .slice none 0 0],true⟩),(Nx,⟨flat ((data.take x).map bI),true⟩)]) 0 (Nat.zero_le _) (fun Nx hNx=>(canf Ys)) ?_
 intro Nx x hNx hIx hbx Fx hFx
 simp only[mem_cons,mem_nil]at hbx ⊢
 refine cv (by kernel_rfl) ?_
 have hxl:((data.take x).map bI).length=x:=by rw[List.length_map,List.length_take];omega
 by_cases hlt:x<s.symbols.length
 ·have e1:data[x]? =some (data[x]'(by omega)):=List.getElem?_eq_getElem _
  have hst:=bIs_succ (show x<data.length by omega)
  have hb6:((data[x]'(by omega)).toNat:Int)≤9223372036854775807:=by have:=(data[x]'(by omega)).toNat_lt;omega
  refine RA (cj Zs (cj e1 (cj hlt hb6))) ?_
  refine hFx (x+1) _ _ _ ?_ ?_ (by simp only[go_sem,push_cast,and_pos,Le_updF]) ((canf (cj Ys hst)))
  ·show s.symbols.length-(x+1)<s.symbols.length-x
   omega
  ·exact hlt
 ·obtain rfl:x=s.symbols.length:=by omega
  refine R Zs ?_
  refine Tr.to hb (by omega) 0 [] rfl (fun Nk=>[(0,ps),(1,lst data),(4, .pointer (some ⟨Bd,0,none⟩)),(6, .int .i64 (s.symbols.length:Int)),(7, .pointer (some ⟨Bd+1,0,none⟩))]) (fun Nk=>[(Bd,⟨[.slice none 0 0, .slice none 0 0, .slice none 0 0],true⟩),(Bd+1,⟨[lst ((data.take s.symbols.length).map bI), .slice none 0 0, .slice none 0 0],true⟩)]) (fun Nk hNk=>(canf Ys)) ?_
  intro Nk hNk hbk
  simp only[mem_cons,mem_nil]at hbk ⊢
  refine cv (by kernel_rfl) ?_
  have hd1:(data.drop s.symbols.length).length≤1000000:=by rw[List.length_drop];omega
  have hE:raD s (data.drop s.symbols.length)=thE s data:=rfl
  by_cases q1:(thE s data).2=0
  ·rw[if_pos q1]at hT
   rw[hT];unfold noTh
   exact R (cj Zs (cj h1 (cj h2 (cj hd1 (cj hE (cj q1 ((@List.take_length UInt8)))))))) trivial
  rw[if_neg q1]at hT
  obtain⟨a0,a1,a2,a3⟩:eqsG s (thE s data).1=0∧1≤(thE s data).2∧(thE s data).2.toNat≤(data.drop s.symbols.length).length∧_:=raD_ok q1
  rw[List.length_drop]at a2
  have hcd:((s.symbols.length:Int)+(thE s data).2).toNat=s.symbols.length+(thE s data).2.toNat:=by omega
  have hL:raD s (data.drop (s.symbols.length+(thE s data).2.toNat))=thL s data:=rfl
  have hd2:(data.drop (s.symbols.length+(thE s data).2.toNat)).length≤1000000:=by rw[List.length_drop];omega
  by_cases q2:(thL s data).2=0
  ·rw[if_pos (.inl q2)]at hT
   rw[hT];unfold noTh
   exact R (cj Zs (cj h1 (cj h2 (cj hd1 (cj hE (cj q1 (cj hcd (cj hd2 (cj hL (cj q2 ((@List.take_length UInt8)))))))))))) trivial
  obtain⟨b0,b1,b2,b3⟩:eqsG s (thL s data).1=0∧1≤(thL s data).2∧(thL s data).2.toNat≤(data.drop (s.symbols.length+(thE s data).2.toNat)).length∧_:=raD_ok q2
  rw[List.length_drop]at b2
  by_cases q3:(s.symbols.length:Int)+(thE s data).2+(thL s data).2=data.length
  case neg=>
   rw[if_pos (.inr q3)]at hT
   rw[hT];unfold noTh
   exact R (cj Zs (cj h1 (cj h2 (cj hd1 (cj hE (cj q1 (cj hcd (cj hd2 (cj hL (cj q2 (cj q3 ((@List.take_length UInt8))))))))))))) trivial
  rw[if_neg (fun h=>h.elim q2 (fun h=>h q3))]at hT
  rw[hT]
  obtain⟨_,s1,s2⟩:=eqs_sm hs a0
  obtain⟨_,s3,s4⟩:=eqs_sm hs b0
  have hsmX:sm (⟨(data.take s.symbols.length).map bI,(thE s data).1,(thL s data).1⟩:GTheory):=⟨(sm_ints _).2 (by rw[List.length_map,List.length_take];omega),s1,s3⟩
  have hrgX:rg (⟨(data.take s.symbols.length).map bI,(thE s data).1,(thL s data).1⟩:GTheory):=⟨bIs_rg _,s2,s4⟩
  unfold thX
  exact R (cj Zs (cj h1 (cj h2 (cj hd1 (cj hE (cj q1 (cj hcd (cj hd2 (cj hL (cj q2 (cj q3 (cj (@List.take_length UInt8) (cj hsmX hrgX))))))))))))) trivial
def V84:Trans:=fun args H Bd K=>∃(d:GDisk),args=[.agg (enc d).toArray]∧((sm d∧DiskOK d)∧K (.tuple #[.agg (enc ((scrD d).1)).toArray, .int .i64 ((scrD d).2)]) H Bd)
@[go_sem ↓] theorem V84_eq (d_sectors:List (List UInt8)) (d_pending:List GPut):V84 [.agg #[lst d_sectors,lst d_pending]] H Bd K=((sm (GDisk.mk d_sectors d_pending)∧DiskOK (GDisk.mk d_sectors d_pending))∧K (.tuple #[.agg (enc ((scrD (GDisk.mk d_sectors d_pending)).1)).toArray, .int .i64 ((scrD (GDisk.mk d_sectors d_pending)).2)]) H Bd):=ex1 (GDisk.mk d_sectors d_pending) rfl
def W84:Trans:=fun args H Bd K=>∃(pd:Value),args=[pd]∧Yld (cellsAt H 2 pd) fun cd=>callW V84 [.agg cd.toArray] H Bd K
@[go_sem ↓] theorem W84_eq (pd:Value):W84 [pd] H Bd K=(Yld (cellsAt H 2 pd) fun cd=>callW V84 (idS [.agg cd.toArray]) H Bd K):=by
 refine propext ⟨fun h=> ?_,fun h=>⟨_,rfl,h⟩⟩
 obtain⟨pd',e,h⟩:=h
 simp only[List.cons.injEq,and_true]at e
 obtain rfl:=e
 exact h
set_option maxHeartbeats 2000000 in
theorem W84_ok:OK 84 W84:=by
 rintro args H Bd K ⟨pd,rfl,cd,ed,h⟩
 obtain⟨d,e,hpre,hK⟩:=h
 simp only[List.cons.injEq,and_true]at e
 have Ed:=e
 obtain rfl:=agg_inj Ed
 refine fn_pure pok (((((Env.base _).add 147 _ W147_ok).add 51 _ W51_ok).add 109 _ W109_ok).add 148 _ W148_ok) [] _ hK Tryz.func84 rfl (rs:=[.cell 2 129, .tmp 3]) rfl Tryz.ntmps84 (by simp) Tryz.call84 (by kernel_rfl) (fun ha hb=>tup_nb ⟨agg_nb _ _, .int _ _,trivial⟩) (fun hb ha=> ?_)
 have Pd:=cellsAt_out ed (NB.vpok (ha pd (by simp)))
 simp only[enc_GDisk]at Pd
 have Zd:=Pd.all 2 rfl
 have Yd:=rq_all (ha pd (by simp))
 obtain⟨h1,h2⟩:=hpre
 have hR:scrD d=if(openD d).2≠0 then(noSt,(openD d).2)
   else if(keptP d (openD d).1).code≠0 then(noSt,(keptP d (openD d).1).code)
   else if(thAt d (openD d).1 (openD d).1.theory).2=false then(noSt,5)
   else if(openD d).1.moving=true∧(thAt d (openD d).1 (openD d).1.next_).2=false then(noSt,5)
   else(⟨(openD d).1,(keptP d (openD d).1).list,(thAt d (openD d).1 (openD d).1.theory).1,if(openD d).1.moving=true then(thAt d (openD d).1 (openD d).1.next_).1 else noTh⟩,0):=rfl
 by_cases q1:(openD d).2=0
 case neg=>
  rw[if_pos q1]at hR
  rw[hR];unfold noSt noSup noTh
  exact R (cj Zd (cj h1 (cj h2 q1))) trivial
 rw[if_neg (by simpa using q1)]at hR
 have hS:=super_ok (openD_ok q1)
 generalize hQ:(openD d).1=Q at*
 by_cases q2:(keptP d Q).code=0
 case neg=>
  rw[if_pos q2]at hR
  rw[hR];unfold noSt noSup noTh
  exact R (cj Zd (cj h1 (cj h2 (cj q1 (cj hQ (cj hS q2)))))) trivial
 rw[if_neg (by simpa using q2)]at hR
 have hth:=hS.theory
 have hnx:=hS.next_
 have hsg:=hS.sig
 have hsl:=(sig_ok hsg).len
 have hss:sm Q.symbols:=⟨show Q.symbols.symbols.length≤281474976710656 by omega,fun x hx=>⟨show x.name.size≤281474976710656 by have:=isNm_size ((sig_ok hsg).nm x hx).1;omega,trivial⟩⟩
 have hf1:∀a b,H (Bd+a+b)=none:=fun a b=>hb.fresh _ (by omega)
 have hf2:∀a b c,H (Bd+a+b+c)=none:=fun a b c=>hb.fresh _ (by omega)
 have r1:R64 Q.theory:=⟨by omega,by omega⟩
 have r2:R64 Q.next_:=⟨by omega,by omega⟩
 have hc1:=chainD_dlen d Q.theory
 have hc2:=chainD_dlen d Q.next_
 have e1:thS Q.symbols (chainD d Q.theory).1=thAt d Q Q.theory:=rfl
 have e2:thS Q.symbols (chainD d Q.next_).1=thAt d Q Q.next_:=rfl
 by_cases q3:(thAt d Q Q.theory).2=true
 case neg=>
  have q3:(thAt d Q Q.theory).2=false:=by simpa using q3
  rw[if_pos q3]at hR
  rw[hR];unfold noSt noSup noTh
  exact R (cj Zd (cj h1 (cj h2 (cj q1 (cj hQ (cj hS (cj q2 (cj r1 (cj r2 (cj hc1 (cj hc2 (cj hss (cj hsg (cj e1 (cj e2 q3))))))))))))))) trivial
 rw[if_neg (by rw[q3];decide)]at hR
 by_cases q4:Q.moving=true
 ·by_cases q5:(thAt d Q Q.next_).2=true
  ·rw[if_neg (by rw[q5];simp),if_pos q4]at hR
   rw[hR]
   exact R (cj Zd (cj h1 (cj h2 (cj q1 (cj hQ (cj hS (cj q2 (cj r1 (cj r2 (cj hc1 (cj hc2 (cj hss (cj hsg (cj e1 (cj e2 (cj q3 q5)))))))))))))))) trivial
  ·have q5:(thAt d Q Q.next_).2=false:=by simpa using q5
   rw[if_pos ⟨q4,q5⟩]at hR
   rw[hR];unfold noSt noSup noTh
   exact R (cj Zd (cj h1 (cj h2 (cj q1 (cj hQ (cj hS (cj q2 (cj r1 (cj r2 (cj hc1 (cj hc2 (cj hss (cj hsg (cj e1 (cj e2 (cj q3 q5)))))))))))))))) trivial
 ·rw[if_neg (fun h=>q4 h.1),if_neg q4]at hR
  rw[hR];unfold noTh
  exact R (cj Zd (cj h1 (cj h2 (cj q1 (cj hQ (cj hS (cj q2 (cj r1 (cj r2 (cj hc1 (cj hc2 (cj hss (cj hsg (cj e1 (cj e2 q3))))))))))))))) trivial
def W31:Trans:=fun args H Bd K=>∃(d:GDisk),args=[.agg (enc d).toArray]∧((sm d)∧K (.int .i64 (scrubF d)) H Bd)
@[go_sem ↓] theorem W31_eq (d_sectors:List (List UInt8)) (d_pending:List GPut):W31 [.agg #[lst d_sectors,lst d_pending]] H Bd K=((sm (GDisk.mk d_sectors d_pending))∧K (.int .i64 (scrubF (GDisk.mk d_sectors d_pending))) H Bd):=ex1 (GDisk.mk d_sectors d_pending) rfl
theorem W31_ok:OK 31 W31:=by
 rintro args H Bd K ⟨d,rfl,hpre,hK⟩
 refine fnp pok (((Env.base _).add 49 _ W49_ok).add 84 _ W84_ok) [] hK Tryz.func31 Tryz.ntmps31 Tryz.call31 [.tmp 2] fun hb ha=> ?_
 by_cases hd:diskF d=0
 ·have e:scrubF d=(scrD d).2:=by unfold scrubF;rw[if_neg (by simpa using hd)]
  have h2:=disk_ok hd
  rw[e]
  exact R (cj hpre (cj hd h2)) trivial
 ·have e:scrubF d=diskF d:=by unfold scrubF;rw[if_pos hd]
  rw[e]
  exact R (cj hpre hd) trivial
def W113:Trans:=fun args H Bd K=>∃(n:Int) (low:Int) (high:Int),args=[.int .i64 n, .int .i64 low, .int .i64 high]∧(K (.bool (decide (low≤n∧n≤high))) H Bd)
@[go_sem ↓] theorem W113_eq (n:Int) (low:Int) (high:Int):W113 [.int .i64 n, .int .i64 low, .int .i64 high] H Bd K=(K (.bool (decide (low≤n∧n≤high))) H Bd):=ex3 n low high rfl
theorem W113_ok:OK 113 W113:=by
 rintro args H Bd K ⟨n,low,high,rfl,hK⟩
 refine fnp pok (Env.base _) [(1,[],[],(.k 4 (.grp true 10 13 3 [11,12,13] 14 none (.k 3 .nil) (.k 1 .nil))))] hK Tryz.func113 Tryz.ntmps113 Tryz.call113 [.tmp 6] fun hb ha=> ?_
 simp (maxSteps:=2000000) (disch:=first|assumption|(refine asm_intro ?_;assumption)|exact Nat.le_add_right _ _|exact Nat.le_refl _|omega|(simp (disch:=first|exact Nat.le_add_right _ _|omega) only[Le_upd hb,Le_app hb,Le_rfl,free_T hb,free_upd];done)|fail) only[go_sem,push_cast,and_pos,Le_updF,Le_upd hb,free_T hb]
 all_goals first|done|trivial|((try simp only[Cnp,Imp]);grind)
theorem G171(g:Nat)(caps:Array Value)(p:List UInt8→Bool)(xs:List (List UInt8))(H:AH)(Bd:Nat)(K:Value→AH→Nat→Prop)(hsm:sm xs)(hg:∀x∈xs,∀B,Bd≤B→∀K':Value→AH→Nat→Prop,K' (.bool (p x)) H B→SCalls Tryz.prog g (idS ((lst (x))::caps.toList)) H B K')(hK:K (.int .i64 (fidx p xs)) H Bd):SCalls Tryz.prog 171 [lst xs, .func (.func g) #[] caps] H Bd K:=by
 refine fn_pure pok (Env.base _) [] _ hK Tryz.func171 rfl (rs:=[.tmp 4]) rfl Tryz.ntmps171 (by simp) Tryz.call171 (by kernel_rfl) (fun ha hb=> .int _ _) (fun hb ha=> ?_)
 refine withC pok fun cv=> ?_
 have hlen:=sm_len hsm
 refine R0 ?_
 refine tr_for (fun i=>∀j,j<i→∀x,xs[j]? =some x→p x=false) (xs.length) (fun i=>[(0,lst xs),(1, .func (.func g) #[] caps),(7, .int .i64 xs.length),(8, .int .i64 i)]) (by simp) (by simp only[go_sem,push_cast,and_pos,Le_updF]) ?_
 intro i Bi hIi hii hBi
 refine cv (by kernel_rfl) ?_
 rcases Nat.lt_or_ge i (xs.length)with hlti|hgei
 ·have e1:xs[i]? =some xs[i]:=List.getElem?_eq_getElem hlti
  refine R e1 ?_
  refine hg _ (List.getElem_mem hlti) _ (by omega) _ ?_
  refine R e1 ?_
  exact⟨fun h=>by rw[fidx_hit hlti hIi h],fun h=>fun j hj x hx=>by
   by_cases e:j=i
   ·subst e;rw[e1]at hx;cases hx;simpa using h
   ·exact hIi j (by omega) x hx⟩
 ·refine R0 ?_
  refine cv (by kernel_rfl) ?_
  refine R0 ?_
  rw[fidx_none fun j hj x hx=>hIi j (by omega) x hx]
theorem G114(g:Nat)(caps:Array Value)(p:List UInt8→Bool)(xs:List (List UInt8))(H:AH)(Bd:Nat)(K:Value→AH→Nat→Prop)(hsm:sm xs)(hg:∀x∈xs,∀B,Bd≤B→∀K':Value→AH→Nat→Prop,K' (.bool (p x)) H B→SCalls Tryz.prog g (idS ((lst (x))::caps.toList)) H B K')(hK:K (.bool (xs.any p)) H Bd):SCalls Tryz.prog 114 [lst xs, .func (.func g) #[] caps] H Bd K:=by
 refine fn_pure pok (Env.base _) [] _ hK Tryz.func114 rfl (rs:=[.tmp 4]) rfl Tryz.ntmps114 (by simp) Tryz.call114 (by kernel_rfl) (fun ha hb=> .bool _) (fun hb ha=> ?_)
 refine R0 ?_
 refine G171 _ _ p xs _ _ _ hsm hg ?_
 refine R0 ?_
 exact fidx_ge p xs
def W115:Trans:=fun args H Bd K=>∃(x:List UInt8),args=[lst x]∧((sm x)∧K (.bool (decide (x.length≠96))) H Bd)
theorem W115_ok:OK 115 W115:=by
 rintro args H Bd K ⟨x,rfl,hpre,hK⟩
 refine fnp pok (Env.base _) [] hK Tryz.func115 Tryz.ntmps115 Tryz.call115 [.tmp 2] fun hb ha=> ?_
 have hlen:=sm_len hpre
 refine R0 ?_
 all_goals first|done|trivial|((try simp only[Cnp,Imp]);grind)
def V114_115:Trans:=fun args H Bd K=>∃(xs:List (List UInt8)),args=[lst xs]∧((sm xs∧∀x∈xs,sm x)∧K (.bool (xs.any (fun x:List UInt8=>decide (x.length≠96)))) H Bd)
@[go_sem ↓] theorem V114_115_eq (xs:List (List UInt8)):V114_115 [lst xs] H Bd K=((sm xs∧∀x∈xs,sm x)∧K (.bool (xs.any (fun x:List UInt8=>decide (x.length≠96)))) H Bd):=ex1 xs rfl
def W114_115:Trans:=fun args H Bd K=>∃(vxs:Value),args=[vxs, .func (.func 115) #[] #[]]∧callW V114_115 [vxs] H Bd K
@[go_sem ↓] theorem W114_115_eq (vxs:Value):W114_115 [vxs, .func (.func 115) #[] #[]] H Bd K=(callW V114_115 (idS [vxs]) H Bd K):=by
 refine propext ⟨fun h=> ?_,fun h=>⟨_,rfl,h⟩⟩
 obtain⟨vxs',e,h⟩:=h
 simp only[List.cons.injEq,Value.func.injEq,toArr_inj,List.cons.injEq,and_true,true_and]at e
 obtain rfl:=e
 exact h
theorem W114_115_ok:OK 114 W114_115:=by
 rintro args H Bd K ⟨vxs,rfl,h⟩
 obtain⟨xs,e,hpre,hK⟩:=h
 simp only[List.cons.injEq,and_true]at e
 obtain rfl:=e
 refine G114 115 #[] (fun x:List UInt8=>decide (x.length≠96)) xs H Bd K hpre.1 (fun x hx B hB K' hk=> ?_) hK
 exact W115_ok _ _ _ _ ⟨x,rfl,hpre.2 x hx,hk⟩
def W116:Trans:=fun args H Bd K=>∃(d:GDisk) (n:Int),args=[.agg (enc d).toArray, .int .i64 n]∧((sm d)∧K (.bool (decide (0≤n∧n≤(d.sectors.length:Int)-1))) H Bd)
@[go_sem ↓] theorem W116_eq (d_sectors:List (List UInt8)) (d_pending:List GPut) (n:Int):W116 [.agg #[lst d_sectors,lst d_pending], .int .i64 n] H Bd K=((sm (GDisk.mk d_sectors d_pending))∧K (.bool (decide (0≤n∧n≤((GDisk.mk d_sectors d_pending).sectors.length:Int)-1))) H Bd):=ex2 (GDisk.mk d_sectors d_pending) n rfl
theorem W116_ok:OK 116 W116:=by
 rintro args H Bd K ⟨d,n,rfl,hpre,hK⟩
 refine fnp pok ((Env.base _).add 113 _ W113_ok) [] hK Tryz.func116 Tryz.ntmps116 Tryz.call116 [.tmp 4] fun hb ha=> ?_
 have h1:=hpre
 simp only[sm_GDisk]at h1
 have hlen:=sm_len h1.1
 refine R0 ?_
 all_goals first|done|trivial|((try simp only[Cnp,Imp]);grind)
theorem G172(g:Nat)(caps:Array Value)(p:GPut→Bool)(xs:List GPut)(H:AH)(Bd:Nat)(K:Value→AH→Nat→Prop)(hsm:sm xs)(hg:∀x∈xs,∀B,Bd≤B→∀K':Value→AH→Nat→Prop,K' (.bool (p x)) H B→SCalls Tryz.prog g (idS ((.agg (enc (x)).toArray)::caps.toList)) H B K')(hK:K (.int .i64 (fidx p xs)) H Bd):SCalls Tryz.prog 172 [lst xs, .func (.func g) #[] caps] H Bd K:=by
 refine fn_pure pok (Env.base _) [] _ hK Tryz.func172 rfl (rs:=[.tmp 4]) rfl Tryz.ntmps172 (by simp) Tryz.call172 (by kernel_rfl) (fun ha hb=> .int _ _) (fun hb ha=> ?_)
 refine withC pok fun cv=> ?_
 have hlen:=sm_len hsm
 refine R0 ?_
 refine tr_for (fun i=>∀j,j<i→∀x,xs[j]? =some x→p x=false) (xs.length) (fun i=>[(0,lst xs),(1, .func (.func g) #[] caps),(7, .int .i64 xs.length),(8, .int .i64 i)]) (by simp) (by simp only[go_sem,push_cast,and_pos,Le_updF]) ?_
 intro i Bi hIi hii hBi
 refine cv (by kernel_rfl) ?_
 rcases Nat.lt_or_ge i (xs.length)with hlti|hgei
 ·have e1:xs[i]? =some xs[i]:=List.getElem?_eq_getElem hlti
  refine R e1 ?_
  refine hg _ (List.getElem_mem hlti) _ (by omega) _ ?_
  refine R e1 ?_
  exact⟨fun h=>by rw[fidx_hit hlti hIi h],fun h=>fun j hj x hx=>by
   by_cases e:j=i
   ·subst e;rw[e1]at hx;cases hx;simpa using h
   ·exact hIi j (by omega) x hx⟩
 ·refine R0 ?_
  refine cv (by kernel_rfl) ?_
  refine R0 ?_
  rw[fidx_none fun j hj x hx=>hIi j (by omega) x hx]
def V173:Trans:=fun args H Bd K=>∃(x:GPut) (n:Int),args=[.agg (enc x).toArray, .agg (enc n).toArray]∧(K (.bool (decide (x.sector=n))) H Bd)
def W173:Trans:=fun args H Bd K=>∃(vx pn:Value),args=[vx,pn]∧Yld (cellsAt H 1 pn) fun cn=>callW V173 [vx, .agg cn.toArray] H Bd K
theorem W173_ok:OK 173 W173:=by
 rintro args H Bd K ⟨vx,pn,rfl,cn,en,h⟩
 obtain⟨x,n,e,hK⟩:=h
 simp only[List.cons.injEq,and_true]at e
 obtain⟨rfl,En⟩:=e
 obtain rfl:=agg_inj En
 refine fnp pok (Env.base _) [] hK Tryz.func173 Tryz.ntmps173 Tryz.call173 [.tmp 3] fun hb ha=> ?_
 have Pn:=cellsAt_out en (NB.vpok (ha pn (by simp)))
 simp only[enc_int,enc_str,enc_list,enc_bool,enc_byte]at Pn
 have Zn:=Pn.all 1 rfl
 have Yn:=rq_all (ha pn (by simp))
 exact R Zn trivial
def V172_173:Trans:=fun args H Bd K=>∃(xs:List GPut) (n:Int),args=[lst xs, .agg (enc n).toArray]∧((sm xs)∧K (.int .i64 (fidx (fun x:GPut=>decide (x.sector=n)) xs)) H Bd)
@[go_sem ↓] theorem V172_173_eq (xs:List GPut) (n:Int):V172_173 [lst xs, .agg #[.int .i64 n]] H Bd K=((sm xs)∧K (.int .i64 (fidx (fun x:GPut=>decide (x.sector=n)) xs)) H Bd):=ex2 xs n rfl
def W172_173:Trans:=fun args H Bd K=>∃(vxs pn:Value),args=[vxs, .func (.func 173) #[] #[pn]]∧Yld (cellsAt H 1 pn) fun cn=>callW V172_173 [vxs, .agg cn.toArray] H Bd K
@[go_sem ↓] theorem W172_173_eq (vxs pn:Value):W172_173 [vxs, .func (.func 173) #[] #[pn]] H Bd K=(Yld (cellsAt H 1 pn) fun cn=>callW V172_173 (idS [vxs, .agg cn.toArray]) H Bd K):=by
 refine propext ⟨fun h=> ?_,fun h=>⟨_,_,rfl,h⟩⟩
 obtain⟨vxs',pn',e,h⟩:=h
 simp only[List.cons.injEq,Value.func.injEq,toArr_inj,List.cons.injEq,and_true,true_and]at e
 obtain⟨rfl,rfl⟩:=e
 exact h
theorem W172_173_ok:OK 172 W172_173:=by
 rintro args H Bd K ⟨vxs,pn,rfl,cn,en,h⟩
 obtain⟨xs,n,e,hpre,hK⟩:=h
 simp only[List.cons.injEq,and_true]at e
 obtain⟨rfl,En⟩:=e
 obtain rfl:=agg_inj En
 refine G172 173 #[pn] (fun x:GPut=>decide (x.sector=n)) xs H Bd K hpre (fun x hx B hB K' hk=> ?_) hK
 exact W173_ok _ _ _ _ ⟨_,_,rfl,_,en,x,n,rfl,hk⟩
def W117:Trans:=fun args H Bd K=>∃(d:GDisk) (n:Int),args=[.agg (enc d).toArray, .int .i64 n]∧((sm d)∧K (.int .i64 (waitD d n)) H Bd)
@[go_sem ↓] theorem W117_eq (d_sectors:List (List UInt8)) (d_pending:List GPut) (n:Int):W117 [.agg #[lst d_sectors,lst d_pending], .int .i64 n] H Bd K=((sm (GDisk.mk d_sectors d_pending))∧K (.int .i64 (waitD (GDisk.mk d_sectors d_pending) n)) H Bd):=ex2 (GDisk.mk d_sectors d_pending) n rfl
theorem W117_ok:OK 117 W117:=by
 rintro args H Bd K ⟨d,n,rfl,hpre,hK⟩
 refine fnp pok ((Env.base _).add 172 _ W172_173_ok) [] hK Tryz.func117 Tryz.ntmps117 Tryz.call117 [.tmp 4] fun hb ha=> ?_
 simp only[sm_GDisk]at hpre
 refine R hpre ?_
 try rfl
def W56:Trans:=fun args H Bd K=>∃(d:GDisk),args=[.agg (enc d).toArray]∧((sm d)∧K (.int .i64 (diskF d)) H Bd)
@[go_sem ↓] theorem W56_eq (d_sectors:List (List UInt8)) (d_pending:List GPut):W56 [.agg #[lst d_sectors,lst d_pending]] H Bd K=((sm (GDisk.mk d_sectors d_pending))∧K (.int .i64 (diskF (GDisk.mk d_sectors d_pending))) H Bd):=ex1 (GDisk.mk d_sectors d_pending) rfl
set_option maxHeartbeats 2000000 in
theorem W56_ok:OK 56 W56:=by
 rintro args H Bd K ⟨d,rfl,hpre,hK⟩
 refine fnp pok (((((Env.base _).add 113 _ W113_ok).add 114 _ W114_115_ok).add 116 _ W116_ok).add 117 _ W117_ok) [] hK Tryz.func56 Tryz.ntmps56 Tryz.call56 [.tmp 2] fun hb ha=> ?_
 refine withC pok fun cv=> ?_
 have hd:=hpre
 simp only[sm_GDisk]at hpre
 have hlen:=sm_len hpre.1
 have hlen2:=sm_len hpre.2
 rcases Decidable.em (¬(8≤d.sectors.length∧d.sectors.length≤64))with h8|h8
 ·have hf:diskF d=2:=by unfold diskF;rw[if_pos h8]
  refine R (cj hd hf) ?_
  all_goals first|trivial|exact fun a b=>absurd (And.intro (by omega) (by omega)) h8
 have hf:diskF d=diskG d:=by unfold diskF;rw[if_neg h8]
 rw[hf]
 obtain⟨h81,h82⟩:=Decidable.not_not.1 h8
 have hall:∀x∈d.sectors,sm x:=fun x hx=>sm_mem hpre.1 hx
 by_cases hany0:d.sectors.any (fun b=>decide (b.length≠96))=true
 ·have hg:diskG d=1:=by unfold diskG;rw[if_pos hany0]
  rw[hg]
  exact R (cj h81 (cj h82 (cj hpre (cj hall hany0)))) trivial
 ·have hany:d.sectors.any (fun b=>decide (b.length≠96))=false:=by simpa using hany0
  by_cases hp:d.pending.length>d.sectors.length
  ·have hg:diskG d=2:=by unfold diskG;rw[if_neg (by rw[hany];exact Bool.false_ne_true),if_pos hp]
   rw[hg]
   exact R (cj h81 (cj h82 (cj hpre (cj hall (cj hany hp))))) trivial
  have hg:diskG d=if putF d.sectors.length d.pending≠0 then putF d.sectors.length d.pending else if(d.pending.map (·.sector)).Nodup then 0 else 6:=by unfold diskG;rw[if_neg (by rw[hany];exact Bool.false_ne_true),if_neg hp]
  refine R (cj h81 (cj h82 (cj hpre (cj hall (cj hany hp))))) ?_
  refine tr_for (fun i=>putF d.sectors.length (d.pending.drop i)=putF d.sectors.length d.pending) (d.pending.length) (fun i=>[(1, .pointer (some ⟨Bd,0,none⟩)),(23,lst d.pending),(24, .int .i64 d.pending.length),(25, .int .i64 i)]) (by simp) (by simp only[go_sem,push_cast,and_pos,Le_updF]) ?_
  intro i Bi hIi hii hBi
  refine cv (by kernel_rfl) ?_
  rcases Nat.lt_or_ge i (d.pending.length)with hlti|hgei
  ·have e1:d.pending[i]? =some d.pending[i]:=List.getElem?_eq_getElem hlti
   have hd2:=List.drop_eq_getElem_cons hlti
   have hx:=sm_mem hpre.2 (List.getElem_mem hlti)
   simp only[sm_GPut]at hx
   have hx2:=sm_len hx.2
   rw[hd2,putF]at hIi
   by_cases hr:0≤d.pending[i].sector∧d.pending[i].sector≤(d.sectors.length:Int)-1
   ·rw[if_neg (by simpa using hr)]at hIi
    by_cases hb9:d.pending[i].bytes.length=96
    ·rw[if_neg (by simpa using hb9)]at hIi
     obtain⟨hr1,hr2⟩:=hr
     exact R (cj e1 (cj hd (cj hr1 (cj hr2 (cj hb9 hIi))))) trivial
    ·rw[if_pos hb9]at hIi
     have hg2:diskG d=1:=by rw[hg,←hIi];rfl
     obtain⟨hr1,hr2⟩:=hr
     rw[hg2]
     exact R (cj e1 (cj hd (cj hr1 (cj hr2 hb9)))) trivial
   ·rw[if_pos hr]at hIi
    have hg2:diskG d=3:=by rw[hg,←hIi];rfl
    rw[hg2]
    refine R (cj e1 (cj hd hr)) ?_
    all_goals (first|trivial|exact fun a b=>absurd (And.intro (by omega) (by omega)) hr|(intros;omega))
  ·refine R0 ?_
   have h0:putF d.sectors.length d.pending=0:=by rw[←hIi,List.drop_of_length_le hgei];rfl
   rw[h0]at hg
   simp only[ne_eq,not_true_eq_false,if_false]at hg
   refine cv (by kernel_rfl) ?_
   refine R0 ?_
   refine tr_for (fun j=>∀a b x y,b<a→a<j→d.pending[a]? =some x→d.pending[b]? =some y→x.sector≠y.sector) (d.pending.length) (fun j=>[(1, .pointer (some ⟨Bd,0,none⟩)),(40,lst d.pending),(41, .int .i64 d.pending.length),(42, .int .i64 j)]) (by simp) (by simp only[go_sem,push_cast,and_pos,Le_updF]) ?_
   intro j Bj hIj hij hBj
   refine cv (by kernel_rfl) ?_
   rcases Nat.lt_or_ge j (d.pending.length)with hltj|hgej
   ·have e1:d.pending[j]? =some d.pending[j]:=List.getElem?_eq_getElem hltj
    have hself:=waitD_self hltj
    by_cases hq:waitD d d.pending[j].sector=j
    ·refine R (cj e1 (cj hd hq)) ?_
     intro a b x y h1 h2 h3 h4
     by_cases e:a=j
     ·subst e
      rw[e1]at h3;cases h3
      have hb2:b<d.pending.length:=by omega
      rw[List.getElem?_eq_getElem hb2]at h4;cases h4
      exact fun q=>((hself.1 hq) b h1) q.symm
     ·exact hIj a b x y h1 (by omega) h3 h4
    ·have hn:¬(d.pending.map (·.sector)).Nodup:=fun hn=>hq (hself.2 fun k hk e=>nodup_map_not (f:=(·.sector)) hk hltj e.symm hn)
     rw[if_neg hn]at hg
     rw[hg]
     exact R (cj e1 (cj hd hq)) trivial
   ·refine R0 ?_
    refine cv (by kernel_rfl) ?_
    have h7:(d.pending.map (·.sector)).Nodup:=nodup_map fun i j x y h1 h2 h3 h4=>hIj i j x y h1 (by omega) h3 h4
    rw[if_pos h7]at hg
    rw[hg]
    exact R0 trivial
def W219:Trans:=fun args H Bd K=>∃(xs:List UInt8) (ys:List UInt8),args=[lst xs,lst ys]∧(K (.bool (decide (xs=ys))) H Bd)
@[go_sem ↓] theorem W219_eq (xs:List UInt8) (ys:List UInt8):W219 [lst xs,lst ys] H Bd K=(K (.bool (decide (xs=ys))) H Bd):=ex2 xs ys rfl
theorem W219_ok:OK 219 W219:=by
 rintro args H Bd K ⟨xs,ys,rfl,hK⟩
 refine fnp pok (Env.base _) [] hK Tryz.func219 Tryz.ntmps219 Tryz.call219 [.tmp 4] fun hb ha=> ?_
 simp (maxSteps:=2000000) (disch:=first|assumption|(refine asm_intro ?_;assumption)|exact Nat.le_add_right _ _|exact Nat.le_refl _|omega|(simp (disch:=first|exact Nat.le_add_right _ _|omega) only[Le_upd hb,Le_app hb,Le_rfl,free_T hb,free_upd];done)|fail) only[go_sem,push_cast,and_pos,Le_updF,Le_upd hb,free_T hb]
 all_goals first|done|trivial|((try simp only[Cnp,Imp]);grind)
def W247:Trans:=fun args H Bd K=>∃(xs:List UInt8),args=[lst xs]∧((xs.length≤2000)∧K (.agg (enc (GIntResult.mk 0 (sumB 29 xs))).toArray) H Bd)
@[go_sem ↓] theorem W247_eq (xs:List UInt8):W247 [lst xs] H Bd K=((xs.length≤2000)∧K (.agg (enc (GIntResult.mk 0 (sumB 29 xs))).toArray) H Bd):=ex1 xs rfl
theorem W247_ok:OK 247 W247:=by
 rintro args H Bd K ⟨xs,rfl,hpre,hK⟩
 refine fnp pok (Env.base _) [] hK Tryz.func247 Tryz.ntmps247 Tryz.call247 [.cell 2 71] fun hb ha=> ?_
 refine withC pok fun cv=> ?_
 have hlen:=hpre
 refine R0 ?_
 refine tr_for (fun i=>True) (xs.length) (fun i=>[(2, .pointer (some ⟨Bd,0,none⟩)),(3, .int .i64 (sumB 29 (xs.take i))),(10,lst xs),(11, .int .i64 xs.length),(12, .int .i64 i)]) (trivial) (by simp only[go_sem,push_cast,and_pos,Le_updF,List.take_zero,sumB]) ?_
 intro i Bi hIi hii hBi
 refine cv (by kernel_rfl) ?_
 rcases Nat.lt_or_ge i (xs.length)with hlti|hgei
 ·have e1:xs[i]? =some xs[i]:=List.getElem?_eq_getElem hlti
  have hst:=sumB_take hlti
  have hr:=sum_rg (xs.take i)
  have hby:(xs[i].toNat:Int)<256:=by have:=xs[i].toNat_lt;omega
  have ht:(sumB 29 (xs.take i)*227+(xs[i].toNat:Int)+1).tmod 65521=(sumB 29 (xs.take i)*227+(xs[i].toNat:Int)+1)%65521:=Int.tmod_eq_emod_of_nonneg (by omega)
  have hcm:227*sumB 29 (xs.take i)=sumB 29 (xs.take i)*227:=Int.mul_comm _ _
  exact R (cj e1 (cj hst (cj hcm ht))) trivial
 ·refine R0 ?_
  refine cv (by kernel_rfl) ?_
  rw[List.take_of_length_le hgei]
  exact R0 trivial
def W246:Trans:=fun args H Bd K=>∃(n:Int),args=[.int .i64 n]∧((0≤n∧n≤65535)∧K (lst (pairB n)) H Bd)
@[go_sem ↓] theorem W246_eq (n:Int):W246 [.int .i64 n] H Bd K=((0≤n∧n≤65535)∧K (lst (pairB n)) H Bd):=ex1 n rfl
theorem W246_ok:OK 246 W246:=by
 rintro args H Bd K ⟨n,rfl,hpre,hK⟩
 refine fnp pok (Env.base _) [] hK Tryz.func246 Tryz.ntmps246 Tryz.call246 [.tmp 2] fun hb ha=> ?_
 obtain⟨h1,h2⟩:=hpre
 have e1:n.fdiv (2^min 8 64)=n/256:=by rw[show(2:Int)^(min 8 64)=256 from rfl];exact Int.fdiv_eq_ediv_of_nonneg n (by decide)
 have hl:2=(pairB n).length:=rfl
 simp (maxSteps:=2000000) (disch:=first|assumption|(refine asm_intro ?_;assumption)|exact Nat.le_add_right _ _|exact Nat.le_refl _|omega|(simp (disch:=first|exact Nat.le_add_right _ _|omega) only[Le_upd hb,Le_app hb,Le_rfl,free_T hb,free_upd];done)|fail) only[go_sem,push_cast,and_pos,Le_updF,Le_upd hb,free_T hb,e1,←pairB_flat n]
 exact pub_whole (upd_same _ _ _) (hb.fresh _ (by omega)) rfl rfl
def W289:Trans:=RdTk
@[go_sem ↓] theorem W289_eq (n:Nat) (k:Int):W289 [.pointer (some ⟨n,0,none⟩), .int .i64 k] H Bd K=(Yld (H n) fun b=>Yld (rdOf b) fun q=>(q.1.length≤1000000∧0≤k∧k≤1000000)∧K (lst (tkV q k.toNat)) (upd H n (some ⟨[lst (tkS q k.toNat).1, .bool (tkS q k.toNat).2],true⟩)) Bd):=RdTk_eq n k H Bd K
set_option maxHeartbeats 2000000 in
theorem W289_ok:OK 289 W289:=by
 rintro args H Bd K ⟨n,k,rfl,b0,hb0,q,hq,⟨h1,h2,h3⟩,hK⟩
 obtain rfl:=rdOf_out hq
 refine fn_set pok (Env.base _) [(1,[],[],(.k 5 (.grp false 10 17 7 [11,12,13,14,15,16,17] 18 none (.k 7 .nil) .nil)))] _ hK (fun hh=>hb_setR hh hb0 _) Tryz.func289 rfl (rs:=[.tmp 4]) rfl Tryz.ntmps289 (by simp) Tryz.call289 (by kernel_rfl) (fun ha hb=>lst_nb _ _) (fun hb ha=> ?_)
 obtain⟨xs,f⟩:=q
 obtain⟨k,rfl⟩:=Int.eq_ofNat_of_zero_le h2
 have hnB:=hb_in hb hb0
 have hLe:=le_own hb0
 simp only[rdB]at hb0 hLe
 simp only at h1
 simp only[Int.toNat_natCast]
 cases f with
 |true=>
  have e1:tkV (xs,true) k=List.replicate k 0:=by unfold tkV tkOK;simp
  have e2:tkS (xs,true) k=(xs,true):=by unfold tkS tkOK;simp
  have hzm:zmake k [Value.int .u8 0]=flat (List.replicate k (0:UInt8)):=(zmake_one _ _).trans (flat_zeros _).symm
  rw[e1,e2]
  refine R (cj hb0 hzm) ?_
  refine pub_whole (upd_same _ _ _) ?_ rfl (by simp)
  show upd H n _ Bd=none
  rw[upd_other _ _ (by omega)]
  exact hb.fresh _ (Nat.le_refl _)
 |false=>
  by_cases hk:xs.length<k
  ·have e1:tkV (xs,false) k=List.replicate k 0:=by unfold tkV tkOK;rw[if_neg (by simp;omega)]
   have e2:tkS (xs,false) k=(xs,true):=by unfold tkS tkOK;rw[if_neg (by simp;omega)]
   have hzm:zmake k [Value.int .u8 0]=flat (List.replicate k (0:UInt8)):=(zmake_one _ _).trans (flat_zeros _).symm
   rw[e1,e2]
   refine R (cj hb0 (cj hk hzm)) ?_
   refine pub_whole (upd_same _ _ _) ?_ rfl (by simp)
   show upd H n _ Bd=none
   rw[upd_other _ _ (by omega)]
   exact hb.fresh _ (Nat.le_refl _)
  ·have e1:tkV (xs,false) k=xs.take k:=by unfold tkV tkOK;rw[if_pos (by simp;omega)]
   have e2:tkS (xs,false) k=(xs.drop k,false):=by unfold tkS tkOK;rw[if_pos (by simp;omega)]
   rw[e1,e2]
   exact R (cj hb0 (cj hk ((@List.take_length UInt8)))) trivial
def W288:Trans:=RdT (fun q=> .int .i64 (pairV q)) (fun q=>tkS q 2)
@[go_sem ↓] theorem W288_eq (n:Nat):W288 [.pointer (some ⟨n,0,none⟩)] H Bd K=(Yld (H n) fun b=>Yld (rdOf b) fun q=>(q.1.length≤1000000)∧K (.int .i64 (pairV q)) (upd H n (some ⟨[lst (tkS q 2).1, .bool (tkS q 2).2],true⟩)) Bd):=RdT_eq _ _ n H Bd K
theorem W288_ok:OK 288 W288:=by
 rintro args H Bd K ⟨n,rfl,b0,hb0,q,hq,h1,hK⟩
 obtain rfl:=rdOf_out hq
 have hK:K (.int .i64 (pairV q)) (upd H n (some ⟨[lst (tkS q 2).1, .bool (tkS q 2).2],true⟩)) Bd:=hK
 refine fn_set pok ((Env.base _).add 289 _ W289_ok) [(2,[0,1,2,3,4,5,6,7,8,9,10],[⟨0,[],[]⟩,⟨1,[],[]⟩,⟨2,[],[]⟩,⟨3,[],[]⟩,⟨4,[],[]⟩,⟨5,[],[]⟩,⟨6,[],[]⟩,⟨7,[],[]⟩,⟨8,[],[]⟩,⟨9,[],[]⟩,⟨10,[],[]⟩], .nil)] _ hK (fun hh=>hb_setR hh hb0 _) Tryz.func288 rfl (rs:=[.tmp 2]) rfl Tryz.ntmps288 (by simp) Tryz.call288 (by kernel_rfl) (fun ha hb=> .int _ _) (fun hb ha=> ?_)
 obtain⟨xs,f⟩:=q
 have hnB:=hb_in hb hb0
 have hLe:=le_own hb0
 simp only[rdB]at hb0 hLe
 simp only at h1
 have e0:(tkV (xs,f) 2)[0]? =some ((tkV (xs,f) 2)[0]'(by rw[tkV_len];omega)):=List.getElem?_eq_getElem _
 have e2:(tkV (xs,f) 2)[1]? =some ((tkV (xs,f) 2)[1]'(by rw[tkV_len];omega)):=List.getElem?_eq_getElem _
 have e1:pairV (xs,f)=(((tkV (xs,f) 2)[0]'(by rw[tkV_len];omega)).toNat:Int)*256+(((tkV (xs,f) 2)[1]'(by rw[tkV_len];omega)).toNat:Int):=by unfold pairV;rw[List.getD_eq_getElem?_getD,e0,List.getD_eq_getElem?_getD,e2];rfl
 have e3:=tkV_len (xs,f) 2
 have hA:=((tkV (xs,f) 2)[0]'(by rw[tkV_len];omega)).toNat_lt
 have hC:=((tkV (xs,f) 2)[1]'(by rw[tkV_len];omega)).toNat_lt
 have hor:=or_bytes hA hC
 have h256:(2:Int)^(min 8 64)=256:=rfl
 rw[e1]
 exact R (cj hb0 (cj e0 (cj e2 (cj h256 hor)))) trivial
end Go.Proofs.YthoahlghegcfnaaGreatDoor
