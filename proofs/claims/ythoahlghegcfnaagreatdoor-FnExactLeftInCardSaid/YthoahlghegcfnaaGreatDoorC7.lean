/- YthoahlghegcfnaaGreatDoorC7 -/
import Derived.Test.YthoahlghegcfnaaGreatDoorC6
set_option linter.unusedSimpArgs false
set_option linter.unusedVariables false
set_option maxRecDepth 20000
namespace Go.Proofs.YthoahlghegcfnaaGreatDoor
open Go Go.SC
variable {H:AH} {Bd:Nat} {K:Value→AH→Nat→Prop}
def W358:qJ:=fun args H Bd K=>∃(s:GSignature) (order:List Int) (a:List Int) (b:List Int),args=[.agg (enc s).toArray,lst order,lst a,lst b]∧((sm s∧sm order∧sm a∧sm b∧yK s=0∧ordG s order=0∧TermOK s a∧TermOK s b)∧K (.bool (gt s order a b 0 0)) H Bd)
@[go_sem ↓] theorem W358_eq (s_symbols:List GSymbol) (order:List Int) (a:List Int) (b:List Int):W358 [.agg #[lst s_symbols],lst order,lst a,lst b] H Bd K=((sm (GSignature.mk s_symbols)∧sm order∧sm a∧sm b∧yK (GSignature.mk s_symbols)=0∧ordG (GSignature.mk s_symbols) order=0∧TermOK (GSignature.mk s_symbols) a∧TermOK (GSignature.mk s_symbols) b)∧K (.bool (gt (GSignature.mk s_symbols) order a b 0 0)) H Bd):=ex4 (GSignature.mk s_symbols) order a b rfl
theorem W358_ok:OK 358 W358:=by
 rintro args H Bd K ⟨s,order,a,b,rfl,hpre,hK⟩
 refine fnp pok ((Env.base _).add 377 _ W377_ok) [] hK Tryz.func358 Tryz.ntmps358 Tryz.call358 [.tmp 8] fun hb ha=> ?_
 obtain⟨h1,h2,h3,h4,h5,h6,h7,h8⟩:=hpre
 have l1:=h7.len
 have l2:=h8.len
 refine R0 ?_
 refine MkMap.use (gtRows s order a b) ?_
 have hc2:CmpOK (GComparer.mk s order a b (Memo.mk (gtRows s order a b))):=⟨h1,h2,h3,h4,h5,h6,h7,h8,rfl⟩
 exact R hc2 trivial
def V357:qJ:=fun args H Bd K=>∃(e:GEquation) (s:GSignature) (order:List Int),args=[.agg (enc e).toArray, .agg (enc s).toArray, .agg (enc order).toArray]∧((sm e∧sm s∧sm order∧yK s=0∧ordG s order=0∧TermOK s e.left∧TermOK s e.right)∧K (.bool (!gt s order e.left e.right 0 0)) H Bd)
def W357:qJ:=fun args H Bd K=>∃(ve ps porder:Value),args=[ve,ps,porder]∧Yld (qK H 1 ps) fun cs=>Yld (qK H 1 porder) fun corder=>qS V357 [ve, .agg cs.toArray, .agg corder.toArray] H Bd K
theorem W357_ok:OK 357 W357:=by
 rintro args H Bd K ⟨ve,ps,porder,rfl,cs,es,corder,eorder,h⟩
 obtain⟨e,s,order,e,hpre,hK⟩:=h
 simp only[List.cons.injEq,and_true]at e
 obtain⟨rfl,Es,Eorder⟩:=e
 obtain rfl:=qZ Es
 obtain rfl:=qZ Eorder
 refine fnp pok ((Env.base _).add 358 _ W358_ok) [] hK Tryz.func357 Tryz.ntmps357 Tryz.call357 [.tmp 4] fun hb ha=> ?_
 have Ps:=qO es (NB.vpok (ha ps (by simp)))
 simp only[qP]at Ps
 have Zs:=Ps.all 1 rfl
 have Ys:=jJ (ha ps (by simp))
 have Porder:=qO eorder (NB.vpok (ha porder (by simp)))
 simp only[jS,jX,jI,jL,jD]at Porder
 have Zorder:=Porder.all 1 rfl
 have Yorder:=jJ (ha porder (by simp))
 obtain⟨h0,h1,h2,h5,h6,h7,h8⟩:=hpre
 simp only[vY]at h0
 have h9:=h0.1
 have h10:=h0.2
 exact R (cj Zs (cj Zorder (cj h9 (cj h10 (cj h1 (cj h2 (cj h5 (cj h6 (cj h7 h8))))))))) trivial
def V354_357:qJ:=fun args H Bd K=>∃(xs:List GEquation) (s:GSignature) (order:List Int),args=[lst xs, .agg (enc s).toArray, .agg (enc order).toArray]∧((sm xs∧∀e∈xs,sm e∧sm s∧sm order∧yK s=0∧ordG s order=0∧TermOK s e.left∧TermOK s e.right)∧K (.bool (xs.any (fun e:GEquation=> !gt s order e.left e.right 0 0))) H Bd)
@[go_sem ↓] theorem V354_357_eq (xs:List GEquation) (s_symbols:List GSymbol) (order:List Int):V354_357 [lst xs, .agg #[lst s_symbols], .agg #[lst order]] H Bd K=((sm xs∧∀e∈xs,sm e∧sm (GSignature.mk s_symbols)∧sm order∧yK (GSignature.mk s_symbols)=0∧ordG (GSignature.mk s_symbols) order=0∧TermOK (GSignature.mk s_symbols) e.left∧TermOK (GSignature.mk s_symbols) e.right)∧K (.bool (xs.any (fun e:GEquation=> !gt (GSignature.mk s_symbols) order e.left e.right 0 0))) H Bd):=ex3 xs (GSignature.mk s_symbols) order rfl
def W354_357:qJ:=fun args H Bd K=>∃(vxs ps porder:Value),args=[vxs, .func (.func 357) #[] #[ps,porder]]∧Yld (qK H 1 ps) fun cs=>Yld (qK H 1 porder) fun corder=>qS V354_357 [vxs, .agg cs.toArray, .agg corder.toArray] H Bd K
@[go_sem ↓] theorem W354_357_eq (vxs ps porder:Value):W354_357 [vxs, .func (.func 357) #[] #[ps,porder]] H Bd K=(Yld (qK H 1 ps) fun cs=>Yld (qK H 1 porder) fun corder=>qS V354_357 (idS [vxs, .agg cs.toArray, .agg corder.toArray]) H Bd K):=by
 refine propext ⟨fun h=> ?_,fun h=>⟨_,_,_,rfl,h⟩⟩
 obtain⟨vxs',ps',porder',e,h⟩:=h
 simp only[List.cons.injEq,Value.func.injEq,jE,List.cons.injEq,and_true,true_and]at e
 obtain⟨rfl,rfl,rfl⟩:=e
 exact h
theorem W354_357_ok:OK 354 W354_357:=by
 rintro args H Bd K ⟨vxs,ps,porder,rfl,cs,es,corder,eorder,h⟩
 obtain⟨xs,s,order,e,hpre,hK⟩:=h
 simp only[List.cons.injEq,and_true]at e
 obtain⟨rfl,Es,Eorder⟩:=e
 obtain rfl:=qZ Es
 obtain rfl:=qZ Eorder
 refine G354 357 #[ps,porder] (fun e:GEquation=> !gt s order e.left e.right 0 0) xs H Bd K hpre.1 (fun x hx B hB K' hk=> ?_) hK
 exact W357_ok _ _ _ _ ⟨_,_,_,rfl,_,es,_,eorder,x,s,order,rfl,hpre.2 x hx,hk⟩
def W328:qJ:=fun args H Bd K=>∃(s:GSignature) (order:List Int) (l:List GEquation),args=[.agg (enc s).toArray,lst order,lst l]∧((sm s∧sm order∧rg order∧sm l∧rg l)∧K (.bool (decide (ordF s order=0∧eqsF s l=0)&&fallsB s order l)) H Bd)
@[go_sem ↓] theorem W328_eq (s_symbols:List GSymbol) (order:List Int) (l:List GEquation):W328 [.agg #[lst s_symbols],lst order,lst l] H Bd K=((sm (GSignature.mk s_symbols)∧sm order∧rg order∧sm l∧rg l)∧K (.bool (decide (ordF (GSignature.mk s_symbols) order=0∧eqsF (GSignature.mk s_symbols) l=0)&&fallsB (GSignature.mk s_symbols) order l)) H Bd):=ex3 (GSignature.mk s_symbols) order l rfl
theorem W328_ok:OK 328 W328:=by
 rintro args H Bd K ⟨s,order,l,rfl,hpre,hK⟩
 refine fnp pok ((((Env.base _).add 207 _ W207_ok).add 291 _ W291_ok).add 354 _ W354_357_ok) [(1,[],[],(.k 5 (.grp false 11 15 4 [12,13,14,15] 16 none (.k 4 .nil) .nil)))] hK Tryz.func328 Tryz.ntmps328 Tryz.call328 [.tmp 6] fun hb ha=> ?_
 obtain⟨h1,h2,h3,h4,h5⟩:=hpre
 refine R (cj h1 (cj h2 (cj h3 (cj h4 h5)))) ?_
 refine⟨fun h=> ?_,fun a1 a2=>⟨fun e he=> ?_,?_⟩⟩
 ·rcases h with h|h <;>simp[h]
 ·have o:=ordF_zero a1
  have v1:eqsF s l=eqsG s l:=by unfold eqsF;rw[if_neg (by simp[o.1])]
  rw[v1]at a2
  have h6:=zG ((eqsG_zero a2).2 e he)
  exact⟨kC h4 he,o.1,o.2,h6.1,h6.2.1⟩
 ·rw[any_not,decide_eq_true a2];rfl
def W292:qJ:=fun args H Bd K=>∃(s:GSignature) (x:GTheory),args=[.agg (enc s).toArray, .agg (enc x).toArray]∧((sm s∧sm x∧rg x)∧K (.int .i64 (thF s x)) H Bd)
@[go_sem ↓] theorem W292_eq (s_symbols:List GSymbol) (x_order:List Int) (x_equations:List GEquation) (x_rules:List GEquation):W292 [.agg #[lst s_symbols], .agg #[lst x_order,lst x_equations,lst x_rules]] H Bd K=((sm (GSignature.mk s_symbols)∧sm (GTheory.mk x_order x_equations x_rules)∧rg (GTheory.mk x_order x_equations x_rules))∧K (.int .i64 (thF (GSignature.mk s_symbols) (GTheory.mk x_order x_equations x_rules))) H Bd):=ex2 (GSignature.mk s_symbols) (GTheory.mk x_order x_equations x_rules) rfl
set_option maxHeartbeats 2000000 in
theorem W292_ok:OK 292 W292:=by
 rintro args H Bd K ⟨s,x,rfl,hpre,hK⟩
 refine fnp pok ((((((Env.base _).add 207 _ W207_ok).add 291 _ W291_ok).add 327 _ W327_ok).add 55 _ W55_ok).add 328 _ W328_ok) [(1,[0,1,2,4,5,6,8,9,10,3,7,11,12,13,14],[⟨0,[],[]⟩,⟨1,[],[]⟩,⟨2,[],[]⟩,⟨4,[],[]⟩,⟨5,[],[]⟩,⟨6,[],[]⟩,⟨8,[],[]⟩,⟨9,[],[]⟩,⟨10,[],[]⟩,⟨3,[],[10,8,6,4]⟩,⟨7,[],[10,8]⟩,⟨11,[],[]⟩,⟨12,[],[]⟩,⟨13,[12],[]⟩,⟨14,[],[]⟩], .nil)] hK Tryz.func292 Tryz.ntmps292 Tryz.call292 [.tmp 4] fun hb ha=> ?_
 obtain⟨h1,h2,h3⟩:=hpre
 simp only[sm_GTheory]at h2
 have h5:rg x.order:=h3.1
 have h6:rg x.equations:=h3.2.1
 have h7:rg x.rules:=h3.2.2
 refine R (cj h1 (cj h2 (cj h5 (cj h6 h7)))) ?_
 refine⟨(yR _).2 (by simp),?_⟩
 rw[firstF3]
 by_cases g0:yK s=0
 ·have v0:ordF s x.order=ordG s x.order:=by unfold ordF;rw[if_neg (by simp[g0])]
  have v1:∀l,eqsF s l=eqsG s l:=fun l=>by unfold eqsF;rw[if_neg (by simp[g0])]
  have v2:rulesF s x.rules=vC s x.rules:=by unfold rulesF;rw[if_neg (by simp[g0])]
  have v3:thF s x=thG s x:=by unfold thF;rw[if_neg (by simp[g0])]
  rw[v0,v1,v1,v2,v3]
  unfold thG
  by_cases c0:ordG s x.order=0
  ·by_cases c1:eqsG s x.equations=0
   ·by_cases c2:vC s x.rules=0
    ·have c3:=rules_eqs c2
     simp only[Cnp,Imp,c0,c1,c2,c3]
     cases q:fallsB s x.order x.rules <;>simp
    ·simp[Cnp,Imp,c0,c1,c2]
   ·simp[Cnp,Imp,c0,c1]
  ·simp[Cnp,Imp,c0]
 ·have v0:ordF s x.order=yK s:=by unfold ordF;rw[if_pos g0]
  have v3:thF s x=yK s:=by unfold thF;rw[if_pos g0]
  rw[v0,if_pos g0,v3]
  exact⟨fun h=>absurd h g0,fun _=>rfl⟩
def W359:qJ:=fun args H Bd K=>∃(t:List Int),args=[lst t]∧((sm t∧t.length≤1000000∧vQ t)∧K (lst (kN t)) H Bd)
@[go_sem ↓] theorem W359_eq (t:List Int):W359 [lst t] H Bd K=((sm t∧t.length≤1000000∧vQ t)∧K (lst (kN t)) H Bd):=ex1 t rfl
set_option maxHeartbeats 2000000 in
theorem W359_ok:OK 359 W359:=by
 rintro args H Bd K ⟨t,rfl,hpre,hK⟩
 refine fnp pok (Env.base _) [] hK Tryz.func359 Tryz.ntmps359 Tryz.call359 [.tmp 2] fun hb ha=> ?_
 refine jH pok fun cv=> ?_
 obtain⟨h1,h2,h3⟩:=hpre
 refine R0 ?_
 refine tr_acc (α:=UInt8) (H0:=H) (B0:=Bd) (n0:=Bd) (t.length) (fun i=>kN (t.take i)) (fun i out=>[(3,out),(7,lst t),(8, .int .i64 t.length),(9, .int .i64 i)]) (Nat.le_refl 1) ⟨by omega,by omega⟩ (by simp only[go_sem,push_cast,qB,qA,List.take_zero,packT_nil]) (by simp (disch:=first|assumption|omega) only[go_sem,push_cast,qB,qA,jC,List.take_zero,packT_nil]) ?_
 intro i ni ci Bi hii hci hni hmi hBi hbi
 refine cv (by kernel_rfl) ?_
 have hzi:(ci=0)=False:=eq_false (by omega)
 rcases Nat.lt_or_ge i (t.length)with hlti|hgei
 ·have e1:t[i]? =some t[i]:=List.getElem?_eq_getElem hlti
  have hst:kN (t.take (i+1))=kN (t.take i)++[packN t[i]]:=packT_take hlti
  have hl3:(kN (t.take i)).length=i:=by simp[kN];omega
  have hr:=h3 _ (List.getElem_mem hlti)
  by_cases hn:t[i]<0
  ·have hp:=packN_neg hr.1 hn
   have hq:(31-t[i])%256=((packN t[i]).toNat:Int):=by omega
   simp (maxSteps:=2000000) (disch:=first|assumption|(refine qI ?_;assumption)|exact Nat.le_add_right _ _|exact Nat.le_refl _|omega|(simp (disch:=first|exact Nat.le_add_right _ _|omega) only[qG hb,qR hb,qM,qE hb,qC];done)|fail) only[go_sem,push_cast,qB,qA,qG hb,qE hb,e1,hq,hn,hzi,hst,qL,qU]
   exact acc_end (by omega) (by omega) (by simp) rfl (by simp (disch:=first|assumption|omega|(simp (disch:=omega) only[qC,qE hb];done)) only[yF,qA,qM,qC,qE hb])
  ·have hp:=packN_pos (by omega) hr.2
   have hq:(t[i]+1)%256=((packN t[i]).toNat:Int):=by omega
   simp (maxSteps:=2000000) (disch:=first|assumption|(refine qI ?_;assumption)|exact Nat.le_add_right _ _|exact Nat.le_refl _|omega|(simp (disch:=first|exact Nat.le_add_right _ _|omega) only[qG hb,qR hb,qM,qE hb,qC];done)|fail) only[go_sem,push_cast,qB,qA,qG hb,qE hb,e1,hq,hn,hzi,hst,qL,qU]
   exact acc_end (by omega) (by omega) (by simp) rfl (by simp (disch:=first|assumption|omega|(simp (disch:=omega) only[qC,qE hb];done)) only[yF,qA,qM,qC,qE hb])
 ·refine R0 ?_
  refine Tr.fin2 3 (by simp (disch:=first|assumption|omega) only[qC,qE hb]) (by simp only[go_sem,push_cast,qB,qA];rfl) rfl ?_
  refine cv (by kernel_rfl) ?_
  rw[List.take_of_length_le hgei]
  exact R0 trivial
def W329:qJ:=fun args H Bd K=>∃(l:List GEquation),args=[lst l]∧((PkE l)∧K (lst (kE l)) H Bd)
@[go_sem ↓] theorem W329_eq (l:List GEquation):W329 [lst l] H Bd K=((PkE l)∧K (lst (kE l)) H Bd):=ex1 l rfl
theorem W329_ok:OK 329 W329:=by
 rintro args H Bd K ⟨l,rfl,hpre,hK⟩
 refine fnp pok ((Env.base _).add 359 _ W359_ok) [(5,[0,1,2,5,6,3,4,7,8,9],[⟨0,[],[]⟩,⟨1,[],[]⟩,⟨2,[],[]⟩,⟨5,[],[]⟩,⟨6,[],[]⟩,⟨3,[],[6]⟩,⟨4,[],[6]⟩,⟨7,[],[]⟩,⟨8,[],[]⟩,⟨9,[],[]⟩], .nil)] hK Tryz.func329 Tryz.ntmps329 Tryz.call329 [.tmp 2] fun hb ha=> ?_
 refine jH pok fun cv=> ?_
 have hl:=hpre.1
 refine RA0 ?_
 refine kB (X:=Nat) hb (by omega) 1 [.s 3] rfl (fun x=>x≤l.length) (fun x=>l.length-x) (fun Nx x=>[(3, .slice (some ⟨Nx,0,some 1⟩) (accE l x).length ((accE l x).length+1)),(10,lst l),(11, .int .i64 (l.length:Int)),(12, .int .i64 x)]) (fun Nx x=>[(Nx,⟨qQ (accE l x),true⟩)]) 0 (Nat.zero_le _) (fun Nx hNx=>(by simp (disch:=first|assumption|omega|(simp (disch:=omega) only[qC,qE hb];done)|(simp (disch:=first|omega|(simp (disch:=omega) only[qC,qE hb];done)) only[go_sem,push_cast,qB,qA,qC,qE hb];done)|fail) only[go_sem,push_cast,qB,qA,qM,qG hb,qC,qE hb,jC,qL,qU,jS,jI,jD,jX,jL,List.append_assoc,List.length_append,List.length_cons,List.length_nil,Nat.zero_add,accE_zero,u8_flat,List.length_singleton];all_goals (try simp only[Value.int.injEq,Value.slice.injEq,true_and,and_true]) <;>all_goals (try(first|trivial|omega|grind)))) ?_
 intro Nx x hNx hIx hbx Fx hFx
 simp only[mem_cons,jK]at hbx ⊢
 refine cv (by kernel_rfl) ?_
 by_cases hlt:x<l.length
 ·have e1:l[x]? =some (l[x]'hlt):=List.getElem?_eq_getElem _
  have hal:=accE_len hpre x hIx
  obtain⟨h1,h2⟩:=hpre.2 _ (List.getElem_mem hlt)
  have hst:accE l (x+1)=accE l x++kN (l[x]'hlt).left++kN (l[x]'hlt).right:=by rw[accE_succ e1,List.append_assoc];rfl
  generalize hE:(l[x]'hlt)=E at*
  obtain⟨h3,h4,h5⟩:=h1.sm
  obtain⟨h6,h7,h8⟩:=h2.sm
  have h9:=h1.1
  have h10:=h2.1
  have htk:List.take ((accE l x).length+E.left.length) (qQ (accE l x)++qQ (kN E.left))=qQ (accE l x)++qQ (kN E.left):=List.take_of_length_le (by rw[List.length_append,jT,jT,vD];show _*1+_*1≤_;omega)
  refine RL (cj htk (cj e1 (cj hE (cj hlt (cj h3 (cj h4 (cj h5 (cj h6 (cj h7 (cj h8 vD)))))))))) ?_
  refine hFx (x+1) _ _ _ ?_ ?_ (by simp only[go_sem,push_cast,qB,qA]) ((by simp (disch:=first|assumption|omega|(simp (disch:=omega) only[qC,qE hb];done)|(simp (disch:=first|omega|(simp (disch:=omega) only[qC,qE hb];done)) only[go_sem,push_cast,qB,qA,qC,qE hb];done)|fail) only[go_sem,push_cast,qB,qA,qM,qG hb,qC,qE hb,jC,qL,qU,jS,jI,jD,jX,jL,List.append_assoc,List.length_append,List.length_cons,List.length_nil,Nat.zero_add,hst,vD];all_goals (try simp only[Value.int.injEq,Value.slice.injEq,true_and,and_true]) <;>all_goals (try(first|trivial|omega|grind))))
  ·show l.length-(x+1)<l.length-x
   omega
  ·exact hlt
 ·obtain rfl:x=l.length:=by omega
  have hal:=accE_len hpre l.length (Nat.le_refl _)
  refine R0 ?_
  refine cv (by kernel_rfl) ?_
  refine R0 ?_
  rw[←accE_all]
  exact jA (by simp (disch:=first|assumption|omega) only[go_sem,push_cast,qB,qA]) (hb.fresh _ (by omega)) rfl (by first|rfl|exact(kI _).symm|simp|omega)
def W293:qJ:=fun args H Bd K=>∃(t:GTheory),args=[.agg (enc t).toArray]∧((PkTh t)∧K (lst (yT t)) H Bd)
@[go_sem ↓] theorem W293_eq (t_order:List Int) (t_equations:List GEquation) (t_rules:List GEquation):W293 [.agg #[lst t_order,lst t_equations,lst t_rules]] H Bd K=((PkTh (GTheory.mk t_order t_equations t_rules))∧K (lst (yT (GTheory.mk t_order t_equations t_rules))) H Bd):=ex1 (GTheory.mk t_order t_equations t_rules) rfl
set_option maxHeartbeats 2000000 in
theorem W293_ok:OK 293 W293:=by
 rintro args H Bd K ⟨t,rfl,hpre,hK⟩
 refine fnp pok ((Env.base _).add 329 _ W329_ok) [(7,[0,1,2,5,6,3,4,7,8,9],[⟨0,[],[]⟩,⟨1,[],[]⟩,⟨2,[],[]⟩,⟨5,[],[]⟩,⟨6,[],[]⟩,⟨3,[],[6]⟩,⟨4,[],[6]⟩,⟨7,[],[]⟩,⟨8,[],[]⟩,⟨9,[],[]⟩], .nil)] hK Tryz.func293 Tryz.ntmps293 Tryz.call293 [.tmp 2] fun hb ha=> ?_
 refine jH pok fun cv=> ?_
 obtain⟨hl,hE,hR⟩:=hpre
 have lE:=packE_le hE
 have lR:=packE_le hR
 refine RA0 ?_
 refine kB (X:=Nat) hb (by omega) 1 [.s 3] rfl (fun x=>x≤t.order.length) (fun x=>t.order.length-x) (fun Nx x=>[(1, .pointer (some ⟨Bd,0,none⟩)),(3, .slice (some ⟨Nx,0,some 1⟩) (packO (t.order.take x)).length ((packO (t.order.take x)).length+1)),(8,lst t.order),(9, .int .i64 (t.order.length:Int)),(10, .int .i64 x)]) (fun Nx x=>[(Bd,⟨[lst t.order,lst t.equations,lst t.rules],true⟩),(Nx,⟨qQ (packO (t.order.take x)),true⟩)]) 0 (Nat.zero_le _) (fun Nx hNx=>(canf (show packO []=[]from rfl))) ?_
 intro Nx x hNx hIx hbx Fx hFx
 simp only[mem_cons,jK]at hbx ⊢
 refine cv (by kernel_rfl) ?_
 by_cases hlt:x<t.order.length
 ·have e1:t.order[x]? =some (t.order[x]'hlt):=List.getElem?_eq_getElem _
  have hst:=packO_succ hlt
  have hxl:(packO (t.order.take x)).length=x:=by rw[packO_len,List.length_take];omega
  refine RA (cj e1 hlt) ?_
  refine hFx (x+1) _ _ _ ?_ ?_ (by simp only[go_sem,push_cast,qB,qA]) ((by simp (disch:=first|assumption|omega|(simp (disch:=omega) only[qC,qE hb];done)|(simp (disch:=first|omega|(simp (disch:=omega) only[qC,qE hb];done)) only[go_sem,push_cast,qB,qA,qC,qE hb];done)|fail) only[go_sem,push_cast,qB,qA,qM,qG hb,qC,qE hb,jC,qL,qU,jS,jI,jD,jX,jL,List.append_assoc,List.length_append,List.length_cons,List.length_nil,Nat.zero_add,hst,vA];all_goals (try simp only[Value.int.injEq,Value.slice.injEq,true_and,and_true]) <;>all_goals (try(first|trivial|omega|grind))))
  ·show t.order.length-(x+1)<t.order.length-x
   omega
  ·exact hlt
 ·obtain rfl:x=t.order.length:=by omega
  rw[packO_take]
  have hxl:=packO_len t.order
  have htk:List.take (t.order.length+(kE t.equations).length) (qQ (packO t.order)++qQ (kE t.equations))=qQ (packO t.order)++qQ (kE t.equations):=List.take_of_length_le (by rw[List.length_append,jT,jT,hxl];show _*1+_*1≤_;omega)
  have hP:qQ (packO t.order)++qQ (kE t.equations)++qQ (kE t.rules)=qQ (yT t):=by
   unfold yT
   simp only[qL,List.append_assoc]
  have hPL:t.order.length+(kE t.equations).length+(kE t.rules).length=(yT t).length:=by unfold yT;rw[List.length_append,List.length_append,hxl];omega
  refine R0 ?_
  refine cv (by kernel_rfl) ?_
  refine RL (cj hE (cj hR (cj hxl (cj htk hP)))) ?_
  exact jA (by simp (disch:=first|assumption|omega) only[go_sem,push_cast,qB,qA,qL,qU,jS,jI,jD,jX,jL,List.append_assoc,List.cons_append,List.nil_append]) (hb.fresh _ (by omega)) rfl (hPL)
def W217:qJ:=fun args H Bd K=>∃(s:GSignature) (t:GTheory),args=[.agg (enc s).toArray, .agg (enc t).toArray]∧((sm s∧sm t∧rg t)∧K (.agg (enc (packR s t)).toArray) H Bd)
@[go_sem ↓] theorem W217_eq (s_symbols:List GSymbol) (t_order:List Int) (t_equations:List GEquation) (t_rules:List GEquation):W217 [.agg #[lst s_symbols], .agg #[lst t_order,lst t_equations,lst t_rules]] H Bd K=((sm (GSignature.mk s_symbols)∧sm (GTheory.mk t_order t_equations t_rules)∧rg (GTheory.mk t_order t_equations t_rules))∧K (.agg (enc (packR (GSignature.mk s_symbols) (GTheory.mk t_order t_equations t_rules))).toArray) H Bd):=ex2 (GSignature.mk s_symbols) (GTheory.mk t_order t_equations t_rules) rfl
theorem W217_ok:OK 217 W217:=by
 rintro args H Bd K ⟨s,t,rfl,hpre,hK⟩
 refine fnp pok (((Env.base _).add 292 _ W292_ok).add 293 _ W293_ok) [] hK Tryz.func217 Tryz.ntmps217 Tryz.call217 [.cell 4 308] fun hb ha=> ?_
 obtain⟨h1,h2,h3⟩:=hpre
 by_cases hf:thF s t=0
 case neg=>
  have e:packR s t=⟨thF s t,[]⟩:=by unfold packR;rw[if_pos hf]
  rw[e]
  exact R (cj h1 (cj h2 (cj h3 hf))) trivial
 obtain⟨hs,hg⟩:=thF_zero hf
 have hp:=th_pk (yW hs) hg
 by_cases hl:300<(yT t).length
 ·have e:packR s t=⟨2,[]⟩:=by unfold packR;rw[if_neg (by simpa using hf),if_pos hl]
  rw[e]
  exact R (cj h1 (cj h2 (cj h3 (cj hf (cj hp hl))))) trivial
 ·have e:packR s t=⟨0,yT t⟩:=by unfold packR;rw[if_neg (by simpa using hf),if_neg hl]
  rw[e]
  exact R (cj h1 (cj h2 (cj h3 (cj hf (cj hp hl))))) trivial
def W150:qJ:=fun args H Bd K=>∃(s:GSignature) (data:List UInt8),args=[.agg (enc s).toArray,lst data]∧((sm s∧data.length≤1000000)∧K (.agg (enc (unpR s data)).toArray) H Bd)
@[go_sem ↓] theorem W150_eq (s_symbols:List GSymbol) (data:List UInt8):W150 [.agg #[lst s_symbols],lst data] H Bd K=((sm (GSignature.mk s_symbols)∧data.length≤1000000)∧K (.agg (enc (unpR (GSignature.mk s_symbols) data)).toArray) H Bd):=ex2 (GSignature.mk s_symbols) data rfl
set_option maxHeartbeats 2000000 in
theorem W150_ok:OK 150 W150:=by
 rintro args H Bd K ⟨s,data,rfl,hpre,hK⟩
 refine fnp pok (((((((Env.base _).add 76 _ W76_ok).add 215 _ W215_ok).add 216 _ W216_ok).add 218 _ W218_ok).add 217 _ W217_ok).add 219 _ W219_ok) [(8,[0,1,2,3,4,5,6,7],[⟨0,[],[]⟩,⟨1,[],[]⟩,⟨2,[],[]⟩,⟨3,[],[1]⟩,⟨4,[],[]⟩,⟨5,[4],[]⟩,⟨6,[],[]⟩,⟨7,[4],[]⟩], .nil),(13,[],[],(.k 4 (.grp false 46 49 3 [47,48,49] 50 none (.k 3 .nil) (.k 1 (.grp false 51 56 5 [52,53,54,55,56] 57 none (.k 5 .nil) .nil)))))] hK Tryz.func150 Tryz.ntmps150 Tryz.call150 [.cell 4 219] fun hb ha=> ?_
 refine jH pok fun cv=> ?_
 obtain⟨h1,h3⟩:=hpre
 by_cases h2:yK s=0
 case neg=>
  have e:unpR s data=⟨yK s,noTh⟩:=by unfold unpR;rw[if_pos h2]
  rw[e];unfold noTh
  exact R (cj h1 h2) trivial
 have hs:=yW h2
 have hsl:=hs.len
 refine R (cj h1 h2) ?_
 refine kB (X:=Nat×List Int×List UInt8×Bool) hb (by omega) 1 [.m (Bd+3) 0] rfl (fun x=>x.1≤s.symbols.length∧ordQ x.1 (data,false)=(x.2.1,x.2.2)) (fun x=>s.symbols.length-x.1) (fun Nx x=>[(1,lst data),(2, .pointer (some ⟨Bd,0,none⟩)),(4, .pointer (some ⟨Bd+1,0,none⟩)),(6, .pointer (some ⟨Bd+2,0,none⟩)),(7, .pointer (some ⟨Bd+3,0,none⟩)),(21, .int .i64 (s.symbols.length:Int)),(22, .int .i64 x.1)]) (fun Nx x=>[(Bd,⟨[lst s.symbols],true⟩),(Bd+1,⟨[.int .i64 0, .slice none 0 0, .slice none 0 0, .slice none 0 0],true⟩),(Bd+2,⟨[lst x.2.2.1, .bool x.2.2.2],true⟩),(Bd+3,⟨[.slice (some ⟨Nx,0,some 1⟩) x.2.1.length (x.2.1.length+1), .slice none 0 0, .slice none 0 0],true⟩),(Nx,⟨qQ x.2.1,true⟩)]) (0,[],data,false) (⟨Nat.zero_le _,rfl⟩) (fun Nx hNx=>(cant)) ?_
 intro Nx x hNx hIx hbx Fx hFx
 simp only[mem_cons,jK]at hbx ⊢
 refine cv (by kernel_rfl) ?_
 obtain⟨i,out,rest,f⟩:=x
 obtain⟨i1,i2⟩:=hIx
 simp only at i1 i2
 obtain⟨l1,l2,l3⟩:=ordQ_le i (data,false)
 rw[i2]at l1 l2 l3
 simp only at l1 l2 l3
 have hrl:rest.length≤1000000:=Nat.le_trans l2 h3
 by_cases hlt:i<s.symbols.length
 ·have ho:=vN (rest,f)
  have hst:=ordQ_succ i (data,false)
  rw[i2]at hst
  refine RA (cj hlt hrl) ?_
  refine hFx (i+1,out++[yI (rest,f)],tkS (rest,f) 1) _ _ _ ?_ ?_ (by simp only[go_sem,push_cast,qB,qA]) ((cant))
  ·show s.symbols.length-(i+1)<s.symbols.length-i
   omega
  ·exact⟨hlt,hst⟩
 ·obtain rfl:i=s.symbols.length:=by omega
  refine R0 ?_
  refine Tr.to hb (by omega) 0 [] rfl (fun Nk=>[(1,lst data),(2, .pointer (some ⟨Bd,0,none⟩)),(4, .pointer (some ⟨Bd+1,0,none⟩)),(6, .pointer (some ⟨Bd+2,0,none⟩)),(7, .pointer (some ⟨Bd+3,0,none⟩))]) (fun Nk=>[(Bd,⟨[lst s.symbols],true⟩),(Bd+1,⟨[.int .i64 0, .slice none 0 0, .slice none 0 0, .slice none 0 0],true⟩),(Bd+2,⟨[lst rest, .bool f],true⟩),(Bd+3,⟨[lst out, .slice none 0 0, .slice none 0 0],true⟩)]) (fun Nk hNk=>(cant)) ?_
  intro Nk hNk hbk
  simp only[mem_cons,jK]at hbk ⊢
  refine cv (by kernel_rfl) ?_
  have hQ:uqO s data=(out,(rest,f)):=i2
  obtain⟨a1,a2,a3⟩:=eqR_sm s (rest,f)
  rcases hE:eqR s (rest,f)with⟨E,r1,f1⟩
  rw[hE]at a1 a2 a3
  simp only at a1 a2 a3
  have hr1:r1.length≤1000000:=Nat.le_trans a3 hrl
  obtain⟨b1,b2,b3⟩:=eqR_sm s (r1,f1)
  rcases hL:eqR s (r1,f1)with⟨L,r2,f2⟩
  rw[hL]at b1 b2 b3
  simp only at b1 b2 b3
  have hr2:r2.length≤1000000:=Nat.le_trans b3 hr1
  have hUE:uqE s data=(E,(r1,f1)):=by unfold uqE;rw[hQ];exact hE
  have hUL:uqR s data=(L,(r2,f2)):=by unfold uqR;rw[hUE];exact hL
  have hX:rTh s data=⟨out,E,L⟩:=by unfold rTh;rw[hQ,hUE,hUL]
  obtain⟨c1,c2⟩:=smE_sm a1 (by omega)
  obtain⟨d1,d2⟩:=smE_sm b1 (by omega)
  have hsX:sm (⟨out,E,L⟩:GTheory):=⟨(yR _).2 (by rw[l1];omega),c1,d1⟩
  have hro:rg out:=fun n hn=>by
   have h9:=l3 n hn
   exact⟨by omega,by omega⟩
  have hrX:rg (⟨out,E,L⟩:GTheory):=⟨hro,c2,d2⟩
  rcases unp_cases h2 hX (by rw[hUL])with⟨u1,u2,u3⟩|⟨u1,u2⟩
  ·rw[u1]
   exact R (cj h1 (cj h2 (cj hrl (cj hE (cj hr1 (cj hL (cj hr2 (cj hsX (cj hrX (cj u2 u3)))))))))) trivial
  ·rw[u1];unfold noTh
   rcases u2 with u2|⟨u2,u3⟩|⟨u2,l,u3,u4⟩
   ·exact R (cj h1 (cj h2 (cj hrl (cj hE (cj hr1 (cj hL (cj hr2 (cj hsX (cj hrX u2))))))))) trivial
   ·exact R (cj h1 (cj h2 (cj hrl (cj hE (cj hr1 (cj hL (cj hr2 (cj hsX (cj hrX (cj u2 u3)))))))))) trivial
   ·exact R (cj h1 (cj h2 (cj hrl (cj hE (cj hr1 (cj hL (cj hr2 (cj hsX (cj hrX (cj u2 (cj u3 u4))))))))))) trivial
def W85:qJ:=fun args H Bd K=>∃(d:GDisk),args=[.agg (enc d).toArray]∧((sm d)∧K (.agg (enc (baseR d)).toArray) H Bd)
@[go_sem ↓] theorem W85_eq (d_sectors:List (List UInt8)) (d_pending:List GPut):W85 [.agg #[lst d_sectors,lst d_pending]] H Bd K=((sm (GDisk.mk d_sectors d_pending))∧K (.agg (enc (baseR (GDisk.mk d_sectors d_pending))).toArray) H Bd):=ex1 (GDisk.mk d_sectors d_pending) rfl
set_option maxHeartbeats 2000000 in
theorem W85_ok:OK 85 W85:=by
 rintro args H Bd K ⟨d,rfl,hpre,hK⟩
 refine fnp pok (((((Env.base _).add 149 _ W149_ok).add 14 _ W14_ok).add 59 _ W59_ok).add 150 _ W150_ok) [(9,[0,1,2,3,4,8,5,6,7,9],[⟨0,[],[]⟩,⟨1,[],[]⟩,⟨2,[],[]⟩,⟨3,[],[]⟩,⟨4,[],[]⟩,⟨8,[],[]⟩,⟨5,[],[1]⟩,⟨6,[],[]⟩,⟨7,[],[]⟩,⟨9,[8],[]⟩], .nil),(14,[0,1,2,3,4,8,5,6,7,9],[⟨0,[],[]⟩,⟨1,[],[]⟩,⟨2,[],[]⟩,⟨3,[],[]⟩,⟨4,[],[]⟩,⟨8,[],[]⟩,⟨5,[],[1]⟩,⟨6,[],[]⟩,⟨7,[],[]⟩,⟨9,[8],[]⟩], .nil)] hK Tryz.func85 Tryz.ntmps85 Tryz.call85 [.cell 2 133] fun hb ha=> ?_
 by_cases hd:yN d=0
 case neg=>
  have e:baseR d=⟨yN d,yB,noTh,noTh⟩:=by unfold baseR;rw[if_pos hd]
  have e2:opnR d=⟨yN d,yB⟩:=by unfold opnR;rw[if_pos hd]
  rw[e];unfold yB noTh
  exact R (cj hpre (cj e2 hd)) trivial
 have hB:baseR d=⟨(scrD d).2,(scrD d).1.super,(scrD d).1.theory,(scrD d).1.next_⟩:=by unfold baseR;rw[if_neg (by simpa using hd)]
 have hO:opnR d=⟨(jM d).2,(jM d).1⟩:=by unfold opnR;rw[if_neg (by simpa using hd)]
 have hR:scrD d=if(jM d).2≠0 then(noSt,(jM d).2)
   else if(vO d (jM d).1).code≠0 then(noSt,(vO d (jM d).1).code)
   else if(thAt d (jM d).1 (jM d).1.theory).2=false then(noSt,5)
   else if(jM d).1.moving=true∧(thAt d (jM d).1 (jM d).1.next_).2=false then(noSt,5)
   else(⟨(jM d).1,(vO d (jM d).1).list,(thAt d (jM d).1 (jM d).1.theory).1,if(jM d).1.moving=true then(thAt d (jM d).1 (jM d).1.next_).1 else noTh⟩,0):=rfl
 by_cases q1:(jM d).2=0
 case neg=>
  rw[if_pos q1]at hR
  rw[hB,hR];unfold noSt yB noTh
  exact R (cj hpre (cj hO q1)) trivial
 rw[if_neg (by simpa using q1)]at hR
 have hsf:=openD_ok q1
 have hS:=kH hsf
 generalize hQ:(jM d).1=Q at*
 have hth:=hS.theory
 have hnx:=hS.next_
 have hsg:=hS.sig
 have hsl:=(yW hsg).len
 have hcur:=hS.cur
 have hss:sm Q.symbols:=⟨show Q.symbols.symbols.length≤281474976710656 by omega,fun x hx=>⟨show x.name.size≤281474976710656 by have:=isNm_size ((yW hsg).nm x hx).1;omega,trivial⟩⟩
 have hsQ:sm Q:=⟨trivial,trivial,trivial,trivial,trivial,trivial,trivial,⟨show Q.cursor.length≤281474976710656 by omega,fun _ _=>trivial⟩,hss⟩
 have hK:keptR d Q=vO d Q:=by unfold keptR;rw[if_neg (by simpa using hd),if_neg (by simpa using hsf)]
 by_cases q2:(vO d Q).code=0
 case neg=>
  rw[if_pos q2]at hR
  rw[hB,hR];unfold noSt yB noTh
  exact R (cj hpre (cj hO (cj q1 (cj hQ (cj hsQ (cj hK q2)))))) trivial
 rw[if_neg (by simpa using q2)]at hR
 have hf1:∀a b,H (Bd+a+b)=none:=fun a b=>hb.fresh _ (by omega)
 have hf2:∀a b c,H (Bd+a+b+c)=none:=fun a b c=>hb.fresh _ (by omega)
 have r1:R64 Q.theory:=⟨by omega,by omega⟩
 have r2:R64 Q.next_:=⟨by omega,by omega⟩
 have hc1:=chainD_dlen d Q.theory
 have hc2:=chainD_dlen d Q.next_
 have x1:=chainR_ok (h:=Q.theory) hd
 have x2:=chainR_ok (h:=Q.next_) hd
 by_cases q3:(thAt d Q Q.theory).2=true
 case neg=>
  have q3:(thAt d Q Q.theory).2=false:=by simpa using q3
  have e1:=unpR_no hsg q3
  rw[if_pos q3]at hR
  rw[hB,hR];unfold noSt yB
  unfold noTh at e1 ⊢
  exact R (cj hpre (cj hO (cj q1 (cj hQ (cj hsQ (cj hK (cj q2 (cj r1 (cj r2 (cj hc1 (cj hc2 (cj x1 (cj x2 (cj hss (cj hsg (cj e1 (cj hf1 hf2))))))))))))))))) trivial
 have e1:unpR Q.symbols (qT d Q.theory).1=⟨0,(thAt d Q Q.theory).1⟩:=unpR_yes hsg q3
 rw[if_neg (by rw[q3];decide)]at hR
 by_cases q4:Q.moving=true
 ·by_cases q5:(thAt d Q Q.next_).2=true
  ·have e2:unpR Q.symbols (qT d Q.next_).1=⟨0,(thAt d Q Q.next_).1⟩:=unpR_yes hsg q5
   rw[if_neg (by rw[q5];simp),if_pos q4]at hR
   rw[hB,hR]
   exact R (cj hpre (cj hO (cj q1 (cj hQ (cj hsQ (cj hK (cj q2 (cj r1 (cj r2 (cj hc1 (cj hc2 (cj x1 (cj x2 (cj hss (cj hsg (cj e1 (cj e2 (cj hf1 hf2)))))))))))))))))) trivial
  ·have q5:(thAt d Q Q.next_).2=false:=by simpa using q5
   have e2:=unpR_no hsg q5
   rw[if_pos ⟨q4,q5⟩]at hR
   rw[hB,hR];unfold noSt yB
   unfold noTh at e2 ⊢
   exact R (cj hpre (cj hO (cj q1 (cj hQ (cj hsQ (cj hK (cj q2 (cj r1 (cj r2 (cj hc1 (cj hc2 (cj x1 (cj x2 (cj hss (cj hsg (cj e1 (cj e2 (cj hf1 hf2)))))))))))))))))) trivial
 ·rw[if_neg (fun h=>q4 h.1),if_neg q4]at hR
  rw[hB,hR];unfold noTh
  exact R (cj hpre (cj hO (cj q1 (cj hQ (cj hsQ (cj hK (cj q2 (cj r1 (cj r2 (cj hc1 (cj hc2 (cj x1 (cj x2 (cj hss (cj hsg (cj e1 (cj hf1 hf2))))))))))))))))) trivial
def W92:qJ:=fun args H Bd K=>∃(d:GDisk) (root:Int),args=[.agg (enc d).toArray, .int .i64 root]∧((sm d∧R64 root)∧K (.agg #[.int .i64 (kR d root).1, .slice (some ⟨Bd,0,some 2⟩) (rowsO d root).length ((rowsO d root).length+1)]) (upd H Bd (some ⟨qQ (rowsO d root),true⟩)) (Bd+1))
@[go_sem ↓] theorem W92_eq (d_sectors:List (List UInt8)) (d_pending:List GPut) (root:Int):W92 [.agg #[lst d_sectors,lst d_pending], .int .i64 root] H Bd K=((sm (GDisk.mk d_sectors d_pending)∧R64 root)∧K (.agg #[.int .i64 (kR (GDisk.mk d_sectors d_pending) root).1, .slice (some ⟨Bd,0,some 2⟩) (rowsO (GDisk.mk d_sectors d_pending) root).length ((rowsO (GDisk.mk d_sectors d_pending) root).length+1)]) (upd H Bd (some ⟨qQ (rowsO (GDisk.mk d_sectors d_pending) root),true⟩)) (Bd+1)):=ex2 (GDisk.mk d_sectors d_pending) root rfl
set_option maxHeartbeats 4000000 in
theorem W92_ok:OK 92 W92:=by
 rintro args H Bd K ⟨d,root,rfl,hpre,hK⟩
 refine fn_can pok ((Env.base _).add 120 _ W120_ok) [] H [.m (Bd+1) 1] (.agg #[.int .i64 (kR d root).1, .slice (some ⟨Bd,0,some 2⟩) (rowsO d root).length ((rowsO d root).length+1)]) [(Bd,⟨qQ (rowsO d root),true⟩)] hK (by simp) id Tryz.func92 rfl (rs:=[.cell 4 144]) rfl Tryz.ntmps92 (by simp) Tryz.call92 (by kernel_rfl) (fun _ hb ha=> ?_)
 clear hK
 obtain⟨h1,h2⟩:=hpre
 by_cases q:(kR d root).1=0
 ·have e:rowsO d root=(kR d root).2.2.rows:=by unfold rowsO;rw[if_neg (by simpa using q)]
  rw[e,q]
  exact R (cj h1 (cj h2 q)) trivial
 ·have e:rowsO d root=[]:=by unfold rowsO;rw[if_pos q]
  rw[e]
  simp (maxSteps:=2000000) (disch:=first|assumption|(refine qI ?_;assumption)|exact Nat.le_add_right _ _|exact Nat.le_refl _|omega|(simp (disch:=first|exact Nat.le_add_right _ _|omega) only[qG hb,qR hb,qM,qE hb,qC];done)|fail) only[go_sem,push_cast,qB,qA,qG hb,qE hb,h1,h2,q,jC,List.length_nil]
def V153:qJ:=fun args H Bd K=>∃(r:GRow) (p:GSuper),args=[.agg (enc r).toArray, .agg (enc p).toArray]∧((sm r∧sm p)∧K (.bool (decide (Lib.compareBytes r.key p.cursor≤0))) H Bd)
@[go_sem ↓] theorem V153_eq (r_key:List UInt8) (r_value:Int) (p_gen:Int) (p_root:Int) (p_shadow:Int) (p_theory:Int) (p_next:Int) (p_version:Int) (p_moving:Bool) (p_cursor:List UInt8) (p_symbols_symbols:List GSymbol):V153 [.agg #[lst r_key, .int .i64 r_value], .agg #[.int .i64 p_gen, .int .i64 p_root, .int .i64 p_shadow, .int .i64 p_theory, .int .i64 p_next, .int .i64 p_version, .bool p_moving,lst p_cursor,lst p_symbols_symbols]] H Bd K=((sm (GRow.mk r_key r_value)∧sm (GSuper.mk p_gen p_root p_shadow p_theory p_next p_version p_moving p_cursor (GSignature.mk p_symbols_symbols)))∧K (.bool (decide (Lib.compareBytes (GRow.mk r_key r_value).key (GSuper.mk p_gen p_root p_shadow p_theory p_next p_version p_moving p_cursor (GSignature.mk p_symbols_symbols)).cursor≤0))) H Bd):=ex2 (GRow.mk r_key r_value) (GSuper.mk p_gen p_root p_shadow p_theory p_next p_version p_moving p_cursor (GSignature.mk p_symbols_symbols)) rfl
def W153:qJ:=fun args H Bd K=>∃(vr pp:Value),args=[vr,pp]∧Yld (qK H 9 pp) fun cp=>qS V153 [vr, .agg cp.toArray] H Bd K
@[go_sem ↓] theorem W153_eq (vr pp:Value):W153 [vr,pp] H Bd K=(Yld (qK H 9 pp) fun cp=>qS V153 (idS [vr, .agg cp.toArray]) H Bd K):=by
 refine propext ⟨fun h=> ?_,fun h=>⟨_,_,rfl,h⟩⟩
 obtain⟨vr',pp',e,h⟩:=h
 simp only[List.cons.injEq,and_true]at e
 obtain⟨rfl,rfl⟩:=e
 exact h
theorem W153_ok:OK 153 W153:=by
 rintro args H Bd K ⟨vr,pp,rfl,cp,ep,h⟩
 obtain⟨r,p,e,hpre,hK⟩:=h
 simp only[List.cons.injEq,and_true]at e
 obtain⟨rfl,Ep⟩:=e
 obtain rfl:=qZ Ep
 refine fnp pok ((Env.base _).add 154 _ W154_ok) [] hK Tryz.func153 Tryz.ntmps153 Tryz.call153 [.tmp 3] fun hb ha=> ?_
 have Pp:=qO ep (NB.vpok (ha pp (by simp)))
 simp only[qP,enc_GSuper]at Pp
 have Zp:=Pp.all 9 rfl
 have Yp:=jJ (ha pp (by simp))
 obtain⟨h1,h2⟩:=hpre
 have h3:=h1.1
 have h4:sm p.cursor:=h2.2.2.2.2.2.2.2.1
 exact R (cj Zp (cj h3 h4)) trivial
def W222:qJ:=DfT 153 (fun xs p n l c H Bd K=>K (.int .i64 (fidx (fun r=>decide (Lib.compareBytes r.key p.cursor≤0)) xs)) H Bd)
@[go_sem ↓] theorem W222_eq (n l c m:Nat):W222 [.slice (some ⟨n,0,some 2⟩) l c, .func (.func 153) #[] #[.pointer (some ⟨m,0,none⟩)]] H Bd K=DfB (fun xs p n l c H Bd K=>K (.int .i64 (fidx (fun r=>decide (Lib.compareBytes r.key p.cursor≤0)) xs)) H Bd) n l c m H Bd K:=DfT_eq _ _ n l c m H Bd K
set_option maxHeartbeats 4000000 in
theorem W222_ok:OK 222 W222:=by
 rintro args H Bd K ⟨n,l,c,m,rfl,b0,hb0,xs,hx,b2,hb2,p,hp,⟨hd,hl,hc,hs,hsp⟩,hK⟩
 obtain rfl:=kV hx
 obtain⟨pc,po⟩:=b2
 obtain rfl:pc=enc p:=dataOf_out hp
 simp only[flB]at hb0 hK
 subst hl
 have hlen:=qY hs
 refine yE pok ((Env.base _).add 153 _ W153_ok) [] _ hK Tryz.func222 rfl (rs:=[.tmp 4]) rfl Tryz.ntmps222 (by simp) Tryz.call222 (by kernel_rfl) (fun ha hb=> .int _ _) (fun hb ha=> ?_)
 refine jH pok fun cv=> ?_
 simp only[enc_GSuper]at hb2
 refine R0 ?_
 refine jB (fun i=>∀j,j<i→∀x,xs[j]? =some x→(fun r=>decide (Lib.compareBytes r.key p.cursor≤0)) x=false) (xs.length) (fun i=>[(0, .slice (some ⟨n,0,some 2⟩) xs.length c),(1, .func (.func 153) #[] #[.pointer (some ⟨m,0,none⟩)]),(7, .int .i64 xs.length),(8, .int .i64 i)]) (by simp) (by simp only[go_sem,push_cast,qB,qA]) ?_
 intro i Bi hIi hii hBi
 refine cv (by kernel_rfl) ?_
 rcases Nat.lt_or_ge i (xs.length)with hlti|hgei
 ·have e1:xs[i]? =some xs[i]:=List.getElem?_eq_getElem hlti
  have hr:=kC hs (List.getElem_mem hlti)
  have e2:=row_cells e1
  refine R (cj hb0 (cj hb2 (cj e1 (cj e2 (cj hr hsp))))) ?_
  exact⟨fun h=>by rw[vU hlti hIi (by simpa using h)],fun h=>fun j hj x hx=>by
   by_cases e:j=i
   ·subst e;rw[e1]at hx;cases hx;simpa using h
   ·have:=hIi j (by omega) x hx;simpa using this⟩
 ·refine R0 ?_
  refine cv (by kernel_rfl) ?_
  refine R0 ?_
  rw[vR fun j hj x hx=>hIi j (by omega) x hx]
def W152:qJ:=DfT 153 (fun xs p n l c H Bd K=>K (.slice (some ⟨n,0,some 2⟩) (keep xs (fun r=>decide (Lib.compareBytes r.key p.cursor≤0)) xs.length).length c) (upd H n (some ⟨qQ (keep xs (fun r=>decide (Lib.compareBytes r.key p.cursor≤0)) xs.length)++yZ (xs.length-(keep xs (fun r=>decide (Lib.compareBytes r.key p.cursor≤0)) xs.length).length) [.slice none 0 0, .int .i64 0],true⟩)) Bd)
@[go_sem ↓] theorem W152_eq (n l c m:Nat):W152 [.slice (some ⟨n,0,some 2⟩) l c, .func (.func 153) #[] #[.pointer (some ⟨m,0,none⟩)]] H Bd K=DfB (fun xs p n l c H Bd K=>K (.slice (some ⟨n,0,some 2⟩) (keep xs (fun r=>decide (Lib.compareBytes r.key p.cursor≤0)) xs.length).length c) (upd H n (some ⟨qQ (keep xs (fun r=>decide (Lib.compareBytes r.key p.cursor≤0)) xs.length)++yZ (xs.length-(keep xs (fun r=>decide (Lib.compareBytes r.key p.cursor≤0)) xs.length).length) [.slice none 0 0, .int .i64 0],true⟩)) Bd) n l c m H Bd K:=DfT_eq _ _ n l c m H Bd K
set_option maxHeartbeats 4000000 in
set_option maxHeartbeats 2000000 in
theorem W152_ok:OK 152 W152:=by
 rintro args H Bd K ⟨n,l,c,m,rfl,b0,hb0,xs,hx,b2,hb2,p,hp,⟨hd,hl,hc,hs,hsp⟩,hK⟩
 obtain rfl:=kV hx
 obtain⟨pc,po⟩:=b2
 obtain rfl:pc=enc p:=dataOf_out hp
 simp only[flB]at hb0 hK
 subst hl
 have hlen:=qY hs
 obtain⟨G,rfl,⟨gn,gm⟩,gE,gH⟩:=out2 hb0 hb2 hd
 have hd2:m≠n:=fun e=>hd e.symm
 rw[upd_swap hd]at hK
 refine fn_set pok (((Env.base _).add 153 _ W153_ok).add 222 _ W222_ok) [] _ hK (fun hh=>by rw[←upd_swap (a:=some ⟨qQ xs,true⟩) hd];exact hb_setZ hh hb0 _ nb_row) Tryz.func152 rfl (rs:=[.tmp 4]) rfl Tryz.ntmps152 (by simp) Tryz.call152 (by kernel_rfl) (fun ha hb=> .sl (hb_in hb hb0)) (fun hh ha=> ?_)
 refine jH pok fun cv=> ?_
 simp only[enc_GSuper]at hb2
 have hnB:=hb_in hh hb0
 have hmB:=hb_in hh hb2
 have hb:=gH Bd hh
 clear hK gE gH hb0 hb2
 have hf:∀x,(keep xs (fun r=>decide (Lib.compareBytes r.key p.cursor≤0)) x).length≤x∧(keep xs (fun r=>decide (Lib.compareBytes r.key p.cursor≤0)) x).length≤xs.length:=fun x=>keep_le _ _ _
 rcases fidx_spec3 (fun r=>decide (Lib.compareBytes r.key p.cursor≤0)) xs with⟨f1,f2⟩|⟨i,hi,f1,f2,f3⟩
 ·have e:keep xs (fun r=>decide (Lib.compareBytes r.key p.cursor≤0)) xs.length=xs:=(keep_all fun i hi x hx=>f2 x (List.mem_of_getElem? hx)).trans List.take_length
  have hz0:qQ xs++yZ (xs.length-xs.length) [.slice none 0 0, .int .i64 0]=qQ xs:=by rw[Nat.sub_self];exact List.append_nil _
  rw[e,hz0]
  exact R (cj hs (cj hsp (cj hd (cj hd2 (cj hc f1))))) trivial
 have k1:keep xs (fun r=>decide (Lib.compareBytes r.key p.cursor≤0)) (i+1)=xs.take i:=(keep_yes hi f2).trans (keep_all fun j hj x hx=>by rw[List.getElem?_eq_getElem (by omega)]at hx;have hx:=Option.some.inj hx;rw[←hx];exact f3 j hj)
 have k2:kept xs (fun r=>decide (Lib.compareBytes r.key p.cursor≤0)) (i+1)=xs:=(kpt_same hi f2).trans (kpt_all (by omega) fun j hj x hx=>by rw[List.getElem?_eq_getElem (by omega)]at hx;have hx:=Option.some.inj hx;rw[←hx];exact f3 j hj)
 have k3:(keep xs (fun r=>decide (Lib.compareBytes r.key p.cursor≤0)) (i+1)).length=i:=by rw[k1,List.length_take];omega
 have f4:¬(i:Int)= -1:=by omega
 have yc:=jJ (ha (.func (.func 153) #[] #[.pointer (some ⟨m,0,none⟩)]) (by simp))
 refine R (cj hs (cj hsp (cj hd (cj hd2 (cj hc (cj f1 f4)))))) ?_
 refine kB (X:=Nat) hb (by omega) 0 [] rfl (fun x=>i<x∧x≤xs.length∧(keep xs (fun r=>decide (Lib.compareBytes r.key p.cursor≤0)) x).length<x) (fun x=>xs.length-x) (fun Nx x=>[(0, .slice (some ⟨n,0,some 2⟩) xs.length c),(1, .func (.func 153) #[] #[.pointer (some ⟨m,0,none⟩)]),(5, .int .i64 ((keep xs (fun r=>decide (Lib.compareBytes r.key p.cursor≤0)) x).length:Nat)),(6, .int .i64 (x:Nat))]) (fun Nx x=>[(n,⟨qQ (kept xs (fun r=>decide (Lib.compareBytes r.key p.cursor≤0)) x),true⟩),(m,⟨[.int .i64 p.gen, .int .i64 p.root, .int .i64 p.shadow, .int .i64 p.theory, .int .i64 p.next_, .int .i64 p.version, .bool p.moving,lst p.cursor,lst p.symbols.symbols],po⟩)]) (i+1) (⟨Nat.lt_succ_self _,hi,by rw[k3];exact Nat.lt_succ_self _⟩) (fun Nx hNx=>(canf (cj hd (cj hd2 (cj k2 (cj k3 yc)))))) ?_
 intro Nx x hNx hIx hbx Fx hFx
 simp only[mem_cons,jK]at hbx ⊢
 refine cv (by kernel_rfl) ?_
 obtain⟨i1,i2,i3⟩:=hIx
 have hkl:=kpt_len xs (fun r=>decide (Lib.compareBytes r.key p.cursor≤0)) x
 have hfl:(qQ (kept xs (fun r=>decide (Lib.compareBytes r.key p.cursor≤0)) x)).length=xs.length*2:=by rw[jT,hkl];rfl
 have hfx:=hf x
 by_cases hlt:x<xs.length
 ·have e1:=kpt_get xs (fun r=>decide (Lib.compareBytes r.key p.cursor≤0)) hlt
  have e2:=row_cells e1
  have hr:=kC hs (List.getElem_mem hlt)
  by_cases hq:Lib.compareBytes (xs[x]'hlt).key p.cursor≤0
  ·have k4:keep xs (fun r=>decide (Lib.compareBytes r.key p.cursor≤0)) (x+1)=keep xs (fun r=>decide (Lib.compareBytes r.key p.cursor≤0)) x:=keep_yes hlt (decide_eq_true hq)
   have k5:kept xs (fun r=>decide (Lib.compareBytes r.key p.cursor≤0)) (x+1)=kept xs (fun r=>decide (Lib.compareBytes r.key p.cursor≤0)) x:=kpt_same hlt (decide_eq_true hq)
   refine R (cj hd (cj hd2 (cj hlt (cj hkl (cj e1 (cj e2 (cj hr (cj hsp hq)))))))) ?_
   refine hFx (x+1) _ _ _ ?_ ?_ (by simp only[go_sem,push_cast,qB,qA]) ((canf (cj hd (cj hd2 (cj k4 (cj k5 yc))))))
   ·show xs.length-(x+1)<xs.length-x
    omega
   ·exact⟨by omega,hlt,by rw[k4];omega⟩
  ·have hl2:(keep xs (fun r=>decide (Lib.compareBytes r.key p.cursor≤0)) x).length<xs.length:=by omega
   have k4:(keep xs (fun r=>decide (Lib.compareBytes r.key p.cursor≤0)) (x+1)).length=(keep xs (fun r=>decide (Lib.compareBytes r.key p.cursor≤0)) x).length+1:=by rw[keep_no (q:=(fun r=>decide (Lib.compareBytes r.key p.cursor≤0))) hlt (decide_eq_false hq),List.length_append];rfl
   have k5:=set_two (by rw[hkl];exact hl2) (kpt_set (q:=(fun r=>decide (Lib.compareBytes r.key p.cursor≤0))) hlt (decide_eq_false hq) hl2)
   refine R (cj hd (cj hd2 (cj hlt (cj hkl (cj e1 (cj e2 (cj hr (cj hsp (cj hq (cj hl2 k5)))))))))) ?_
   refine hFx (x+1) _ _ _ ?_ ?_ (by simp only[go_sem,push_cast,qB,qA]) ((canf (cj hd (cj hd2 (cj k4 (cj k5 yc))))))
   ·show xs.length-(x+1)<xs.length-x
    omega
   ·exact⟨by omega,hlt,by rw[k4];omega⟩
 ·obtain rfl:x=xs.length:=by omega
  have c1:(xs.length:Int)≤((c-1:Nat):Int):=by omega
  have c2:((keep xs (fun r=>decide (Lib.compareBytes r.key p.cursor≤0)) xs.length).length:Int)≤((c-1:Nat):Int):=by omega
  have c3:((xs.length:Int)-((keep xs (fun r=>decide (Lib.compareBytes r.key p.cursor≤0)) xs.length).length:Int)).toNat=xs.length-(keep xs (fun r=>decide (Lib.compareBytes r.key p.cursor≤0)) xs.length).length:=by omega
  have c4:((keep xs (fun r=>decide (Lib.compareBytes r.key p.cursor≤0)) xs.length).length:Int)≤(xs.length:Int):=by omega
  have c5:(keep xs (fun r=>decide (Lib.compareBytes r.key p.cursor≤0)) xs.length).length*2+(xs.length-(keep xs (fun r=>decide (Lib.compareBytes r.key p.cursor≤0)) xs.length).length)*2≤(qQ (kept xs (fun r=>decide (Lib.compareBytes r.key p.cursor≤0)) xs.length)).length:=by omega
  have hzf:lset (qQ (kept xs (fun r=>decide (Lib.compareBytes r.key p.cursor≤0)) xs.length)) ((keep xs (fun r=>decide (Lib.compareBytes r.key p.cursor≤0)) xs.length).length*2) (yZ (xs.length-(keep xs (fun r=>decide (Lib.compareBytes r.key p.cursor≤0)) xs.length).length) [.slice none 0 0, .int .i64 0])=qQ (keep xs (fun r=>decide (Lib.compareBytes r.key p.cursor≤0)) xs.length)++yZ (xs.length-(keep xs (fun r=>decide (Lib.compareBytes r.key p.cursor≤0)) xs.length).length) [.slice none 0 0, .int .i64 0]:=clear_tail (keep_le xs (fun r=>decide (Lib.compareBytes r.key p.cursor≤0)) xs.length).2
  have hsw:∀x y,upd (upd G m y) n x=upd (upd G n x) m y:=fun x y=>upd_comm hd2
  refine R (cj hd (cj hd2 hlt)) ?_
  refine cv (by kernel_rfl) ?_
  have hsv:∀a b c,upd (upd (upd G n a) m b) n c=upd (upd G n c) m b:=fun a b c=>upd_swap hd
  refine R (cj hd (cj hd2 (cj c1 (cj c2 (cj c3 (cj c4 (cj c5 (cj hzf (cj hsw hsv))))))))) ?_
  exact .same _
def W89:qJ:=fun args H Bd K=>∃(d:GDisk) (p:GSuper),args=[.agg (enc d).toArray, .agg (enc p).toArray]∧((sm d∧sm p∧R64 p.root)∧K (lst (kG (rowsO d p.root) p.cursor)) H Bd)
@[go_sem ↓] theorem W89_eq (d_sectors:List (List UInt8)) (d_pending:List GPut) (p_gen:Int) (p_root:Int) (p_shadow:Int) (p_theory:Int) (p_next:Int) (p_version:Int) (p_moving:Bool) (p_cursor:List UInt8) (p_symbols_symbols:List GSymbol):W89 [.agg #[lst d_sectors,lst d_pending], .agg #[.int .i64 p_gen, .int .i64 p_root, .int .i64 p_shadow, .int .i64 p_theory, .int .i64 p_next, .int .i64 p_version, .bool p_moving,lst p_cursor,lst p_symbols_symbols]] H Bd K=((sm (GDisk.mk d_sectors d_pending)∧sm (GSuper.mk p_gen p_root p_shadow p_theory p_next p_version p_moving p_cursor (GSignature.mk p_symbols_symbols))∧R64 (GSuper.mk p_gen p_root p_shadow p_theory p_next p_version p_moving p_cursor (GSignature.mk p_symbols_symbols)).root)∧K (lst (kG (rowsO (GDisk.mk d_sectors d_pending) (GSuper.mk p_gen p_root p_shadow p_theory p_next p_version p_moving p_cursor (GSignature.mk p_symbols_symbols)).root) (GSuper.mk p_gen p_root p_shadow p_theory p_next p_version p_moving p_cursor (GSignature.mk p_symbols_symbols)).cursor)) H Bd):=ex2 (GDisk.mk d_sectors d_pending) (GSuper.mk p_gen p_root p_shadow p_theory p_next p_version p_moving p_cursor (GSignature.mk p_symbols_symbols)) rfl
theorem W89_ok:OK 89 W89:=by
 rintro args H Bd K ⟨d,p,rfl,hpre,hK⟩
 refine fnp pok (((Env.base _).add 92 _ W92_ok).add 152 _ W152_ok) [] hK Tryz.func89 Tryz.ntmps89 Tryz.call89 [.tmp 4] fun hb ha=> ?_
 obtain⟨h1,h2,h3⟩:=hpre
 obtain⟨k1,k2⟩:=rowsO_sm d p.root
 have k3:=rows_sm k1 k2
 have k4:keep (rowsO d p.root) (fun r=>decide (Lib.compareBytes r.key p.cursor≤0)) (rowsO d p.root).length=kG (rowsO d p.root) p.cursor:=by unfold keep;rw[List.take_length];exact behind_not _ _
 refine R (cj h1 (cj h2 (cj h3 (cj k3 k4)))) ?_
 exact pub_front (qN _ _ _) (hb.fresh _ (by omega)) rfl rfl
def W34:qJ:=fun args H Bd K=>∃(d:GDisk),args=[.agg (enc d).toArray]∧((sm d)∧K (.agg (enc (leftR d)).toArray) H Bd)
@[go_sem ↓] theorem W34_eq (d_sectors:List (List UInt8)) (d_pending:List GPut):W34 [.agg #[lst d_sectors,lst d_pending]] H Bd K=((sm (GDisk.mk d_sectors d_pending))∧K (.agg (enc (leftR (GDisk.mk d_sectors d_pending))).toArray) H Bd):=ex1 (GDisk.mk d_sectors d_pending) rfl
theorem W34_ok:OK 34 W34:=by
 rintro args H Bd K ⟨d,rfl,hpre,hK⟩
 refine fnp pok (((Env.base _).add 85 _ W85_ok).add 89 _ W89_ok) [] hK Tryz.func34 Tryz.ntmps34 Tryz.call34 [.cell 2 71] fun hb ha=> ?_
 have hc:=openS_code d
 by_cases q:(openS d).2=0
 case neg=>
  rw[hc]at q
  have e:leftR d=⟨(baseR d).code,0⟩:=by unfold leftR;rw[if_pos q]
  rw[e]
  exact R (cj hpre q) trivial
 obtain⟨hd,hs,hS⟩:=openS_ok q
 rw[hc]at q
 rw[hs]at hS
 have hR:leftR d=if(baseR d).super.moving=false then⟨8,0⟩else⟨0,((kG (rowsI d (baseR d).super.root) (baseR d).super.cursor).length:Int)⟩:=by
  unfold leftR;rw[if_neg (by simpa using q)]
 have hrt:=hS.root
 have hcur:=hS.cur
 have hsg:=hS.sig
 have hsl:=(yW hsg).len
 generalize hQ:(baseR d).super=Q at*
 have r1:R64 Q.root:=⟨by omega,by omega⟩
 have hss:sm Q.symbols:=⟨show Q.symbols.symbols.length≤281474976710656 by omega,fun x hx=>⟨show x.name.size≤281474976710656 by have:=isNm_size ((yW hsg).nm x hx).1;omega,trivial⟩⟩
 have hsQ:sm Q:=⟨trivial,trivial,trivial,trivial,trivial,trivial,trivial,⟨show Q.cursor.length≤281474976710656 by omega,fun _ _=>trivial⟩,hss⟩
 have ro:=rowsO_ok (root:=Q.root) hd
 by_cases q2:Q.moving=true
 ·rw[if_neg (by rw[q2];decide)]at hR
  rw[hR]
  have hsR:sm (⟨Q.gen,Q.root,Q.shadow,Q.theory,Q.next_,Q.version,true,Q.cursor,Q.symbols⟩:GSuper):=hsQ
  exact R (cj hpre (cj q (cj hQ (cj q2 (cj r1 (cj hsR ro)))))) trivial
 ·have q2:Q.moving=false:=by simpa using q2
  rw[if_pos q2]at hR
  rw[hR]
  exact R (cj hpre (cj q (cj hQ q2))) trivial
def W35:qJ:=fun args H Bd K=>∃(x:GIntResult) (y:GIntResult),args=[.agg (enc x).toArray, .agg (enc y).toArray]∧((sm x)∧K (.bool (decide (x=y))) H Bd)
@[go_sem ↓] theorem W35_eq (x_code:Int) (x_value:Int) (y_code:Int) (y_value:Int):W35 [.agg #[.int .i64 x_code, .int .i64 x_value], .agg #[.int .i64 y_code, .int .i64 y_value]] H Bd K=((sm (GIntResult.mk x_code x_value))∧K (.bool (decide ((GIntResult.mk x_code x_value)=(GIntResult.mk y_code y_value)))) H Bd):=ex2 (GIntResult.mk x_code x_value) (GIntResult.mk y_code y_value) rfl
theorem W35_ok:OK 35 W35:=by
 rintro args H Bd K ⟨x,y,rfl,hpre,hK⟩
 refine fnp pok (Env.base _) [] hK Tryz.func35 Tryz.ntmps35 Tryz.call35 [.tmp 4] fun hb ha=> ?_
 simp only[sm_GIntResult]at hpre
 simp (maxSteps:=2000000) (disch:=first|assumption|(refine qI ?_;assumption)|exact Nat.le_add_right _ _|exact Nat.le_refl _|omega|(simp (disch:=first|exact Nat.le_add_right _ _|omega) only[qG hb,qR hb,qM,qE hb,qC];done)|fail) only[go_sem,push_cast,qB,qA,qG hb,qE hb,hpre]
 cases x;cases y
 simp only[Cnp,GIntResult.mk.injEq]
 constructor <;>intros <;>simp_all
def W65:qJ:=fun args H Bd K=>∃(xs:List UInt8) (ys:List UInt8),args=[lst xs,lst ys]∧((sm xs)∧K (.bool (decide (xs=ys))) H Bd)
@[go_sem ↓] theorem W65_eq (xs:List UInt8) (ys:List UInt8):W65 [lst xs,lst ys] H Bd K=((sm xs)∧K (.bool (decide (xs=ys))) H Bd):=ex2 xs ys rfl
theorem W65_ok:OK 65 W65:=by
 rintro args H Bd K ⟨xs,ys,rfl,hpre,hK⟩
 refine fnp pok (Env.base _) [(6,[0,1,2,3,4,5,6,7,8],[⟨0,[],[]⟩,⟨1,[],[]⟩,⟨2,[],[]⟩,⟨3,[],[]⟩,⟨4,[],[]⟩,⟨5,[],[]⟩,⟨6,[],[]⟩,⟨7,[],[]⟩,⟨8,[],[]⟩], .nil)] hK Tryz.func65 Tryz.ntmps65 Tryz.call65 [.tmp 4] fun hb ha=> ?_
 refine jH pok fun cv=> ?_
 have hlen:=qY hpre
 simp (maxSteps:=2000000) (disch:=first|assumption|(refine qI ?_;assumption)|exact Nat.le_add_right _ _|exact Nat.le_refl _|omega|(simp (disch:=first|exact Nat.le_add_right _ _|omega) only[qG hb,qR hb,qM,qE hb,qC];done)|fail) only[go_sem,push_cast,qB,qA,qG hb,qE hb]
 refine Cnp.of (fun hl=> ?_) (fun hl=>cmp_len (by omega))
 have hl':xs.length=ys.length:=by omega
 refine jB (fun i=>∀j,j<i→xs[j]? =ys[j]?) xs.length (fun i=>[(0,lst xs),(1,lst ys),(5, .int .i64 i)]) (fun j h=>by omega) (by simp only[go_sem,push_cast,qB,qA]) ?_
 intro i B0 hI hi hB
 refine cv (by kernel_rfl) ?_
 rcases Nat.lt_or_ge i xs.length with hlt|hge
 ·have e1:xs[i]? =some xs[i]:=List.getElem?_eq_getElem hlt
  have e2:ys[i]? =some (ys[i]'(by omega)):=List.getElem?_eq_getElem _
  have hx:=kC hpre (List.getElem_mem hlt)
  simp (maxSteps:=2000000) (disch:=first|assumption|(refine qI ?_;assumption)|exact Nat.le_add_right _ _|exact Nat.le_refl _|omega|(simp (disch:=first|exact Nat.le_add_right _ _|omega) only[qG hb,qR hb,qM,qE hb,qC];done)|fail) only[go_sem,push_cast,qB,qA,qG hb,qE hb,e1,e2,hx]
  exact cmp_step hl' hI hlt (by omega) rfl fun h=>h
 ·simp (maxSteps:=2000000) (disch:=first|assumption|(refine qI ?_;assumption)|exact Nat.le_add_right _ _|exact Nat.le_refl _|omega|(simp (disch:=first|exact Nat.le_add_right _ _|omega) only[qG hb,qR hb,qM,qE hb,qC];done)|fail) only[go_sem,push_cast,qB,qA,qG hb,qE hb]
  refine cv (by kernel_rfl) ?_
  simp (maxSteps:=2000000) (disch:=first|assumption|(refine qI ?_;assumption)|exact Nat.le_add_right _ _|exact Nat.le_refl _|omega|(simp (disch:=first|exact Nat.le_add_right _ _|omega) only[qG hb,qR hb,qM,qE hb,qC];done)|fail) only[go_sem,push_cast,qB,qA,qG hb,qE hb]
  exact cmp_end hl' hI hge
def W63:qJ:=fun args H Bd K=>∃(xs:List (List UInt8)) (ys:List (List UInt8)),args=[lst xs,lst ys]∧((sm xs)∧K (.bool (decide (xs=ys))) H Bd)
@[go_sem ↓] theorem W63_eq (xs:List (List UInt8)) (ys:List (List UInt8)):W63 [lst xs,lst ys] H Bd K=((sm xs)∧K (.bool (decide (xs=ys))) H Bd):=ex2 xs ys rfl
theorem W63_ok:OK 63 W63:=by
 rintro args H Bd K ⟨xs,ys,rfl,hpre,hK⟩
 refine fnp pok ((Env.base _).add 65 _ W65_ok) [(6,[0,1,2,3,4,5,6,7,8,9],[⟨0,[],[]⟩,⟨1,[],[]⟩,⟨2,[],[]⟩,⟨3,[],[]⟩,⟨4,[],[]⟩,⟨5,[],[]⟩,⟨6,[],[]⟩,⟨7,[],[]⟩,⟨8,[],[]⟩,⟨9,[],[]⟩], .nil)] hK Tryz.func63 Tryz.ntmps63 Tryz.call63 [.tmp 4] fun hb ha=> ?_
 refine jH pok fun cv=> ?_
 have hlen:=qY hpre
 simp (maxSteps:=2000000) (disch:=first|assumption|(refine qI ?_;assumption)|exact Nat.le_add_right _ _|exact Nat.le_refl _|omega|(simp (disch:=first|exact Nat.le_add_right _ _|omega) only[qG hb,qR hb,qM,qE hb,qC];done)|fail) only[go_sem,push_cast,qB,qA,qG hb,qE hb]
 refine Cnp.of (fun hl=> ?_) (fun hl=>cmp_len (by omega))
 have hl':xs.length=ys.length:=by omega
 refine jB (fun i=>∀j,j<i→xs[j]? =ys[j]?) xs.length (fun i=>[(0,lst xs),(1,lst ys),(5, .int .i64 i)]) (fun j h=>by omega) (by simp only[go_sem,push_cast,qB,qA]) ?_
 intro i B0 hI hi hB
 refine cv (by kernel_rfl) ?_
 rcases Nat.lt_or_ge i xs.length with hlt|hge
 ·have e1:xs[i]? =some xs[i]:=List.getElem?_eq_getElem hlt
  have e2:ys[i]? =some (ys[i]'(by omega)):=List.getElem?_eq_getElem _
  have hx:=kC hpre (List.getElem_mem hlt)
  simp (maxSteps:=2000000) (disch:=first|assumption|(refine qI ?_;assumption)|exact Nat.le_add_right _ _|exact Nat.le_refl _|omega|(simp (disch:=first|exact Nat.le_add_right _ _|omega) only[qG hb,qR hb,qM,qE hb,qC];done)|fail) only[go_sem,push_cast,qB,qA,qG hb,qE hb,e1,e2,hx]
  exact cmp_step hl' hI hlt (by omega) rfl fun h=>h
 ·simp (maxSteps:=2000000) (disch:=first|assumption|(refine qI ?_;assumption)|exact Nat.le_add_right _ _|exact Nat.le_refl _|omega|(simp (disch:=first|exact Nat.le_add_right _ _|omega) only[qG hb,qR hb,qM,qE hb,qC];done)|fail) only[go_sem,push_cast,qB,qA,qG hb,qE hb]
  refine cv (by kernel_rfl) ?_
  simp (maxSteps:=2000000) (disch:=first|assumption|(refine qI ?_;assumption)|exact Nat.le_add_right _ _|exact Nat.le_refl _|omega|(simp (disch:=first|exact Nat.le_add_right _ _|omega) only[qG hb,qR hb,qM,qE hb,qC];done)|fail) only[go_sem,push_cast,qB,qA,qG hb,qE hb]
  exact cmp_end hl' hI hge
def W125:qJ:=fun args H Bd K=>∃(x:GPut) (y:GPut),args=[.agg (enc x).toArray, .agg (enc y).toArray]∧((sm x)∧K (.bool (decide (x=y))) H Bd)
@[go_sem ↓] theorem W125_eq (x_sector:Int) (x_bytes:List UInt8) (y_sector:Int) (y_bytes:List UInt8):W125 [.agg #[.int .i64 x_sector,lst x_bytes], .agg #[.int .i64 y_sector,lst y_bytes]] H Bd K=((sm (GPut.mk x_sector x_bytes))∧K (.bool (decide ((GPut.mk x_sector x_bytes)=(GPut.mk y_sector y_bytes)))) H Bd):=ex2 (GPut.mk x_sector x_bytes) (GPut.mk y_sector y_bytes) rfl
theorem W125_ok:OK 125 W125:=by
 rintro args H Bd K ⟨x,y,rfl,hpre,hK⟩
 refine fnp pok ((Env.base _).add 65 _ W65_ok) [] hK Tryz.func125 Tryz.ntmps125 Tryz.call125 [.tmp 4] fun hb ha=> ?_
 simp only[sm_GPut]at hpre
 simp (maxSteps:=2000000) (disch:=first|assumption|(refine qI ?_;assumption)|exact Nat.le_add_right _ _|exact Nat.le_refl _|omega|(simp (disch:=first|exact Nat.le_add_right _ _|omega) only[qG hb,qR hb,qM,qE hb,qC];done)|fail) only[go_sem,push_cast,qB,qA,qG hb,qE hb,hpre]
 cases x;cases y
 simp only[Cnp,GPut.mk.injEq]
 constructor <;>intros <;>simp_all
def W64:qJ:=fun args H Bd K=>∃(xs:List GPut) (ys:List GPut),args=[lst xs,lst ys]∧((sm xs)∧K (.bool (decide (xs=ys))) H Bd)
@[go_sem ↓] theorem W64_eq (xs:List GPut) (ys:List GPut):W64 [lst xs,lst ys] H Bd K=((sm xs)∧K (.bool (decide (xs=ys))) H Bd):=ex2 xs ys rfl
theorem W64_ok:OK 64 W64:=by
 rintro args H Bd K ⟨xs,ys,rfl,hpre,hK⟩
 refine fnp pok ((Env.base _).add 125 _ W125_ok) [(6,[0,1,2,3,4,5,6,7,8,9],[⟨0,[],[]⟩,⟨1,[],[]⟩,⟨2,[],[]⟩,⟨3,[],[]⟩,⟨4,[],[]⟩,⟨5,[],[]⟩,⟨6,[],[]⟩,⟨7,[],[]⟩,⟨8,[],[]⟩,⟨9,[],[]⟩], .nil)] hK Tryz.func64 Tryz.ntmps64 Tryz.call64 [.tmp 4] fun hb ha=> ?_
 refine jH pok fun cv=> ?_
 have hlen:=qY hpre
 simp (maxSteps:=2000000) (disch:=first|assumption|(refine qI ?_;assumption)|exact Nat.le_add_right _ _|exact Nat.le_refl _|omega|(simp (disch:=first|exact Nat.le_add_right _ _|omega) only[qG hb,qR hb,qM,qE hb,qC];done)|fail) only[go_sem,push_cast,qB,qA,qG hb,qE hb]
 refine Cnp.of (fun hl=> ?_) (fun hl=>cmp_len (by omega))
 have hl':xs.length=ys.length:=by omega
 refine jB (fun i=>∀j,j<i→xs[j]? =ys[j]?) xs.length (fun i=>[(0,lst xs),(1,lst ys),(5, .int .i64 i)]) (fun j h=>by omega) (by simp only[go_sem,push_cast,qB,qA]) ?_
 intro i B0 hI hi hB
 refine cv (by kernel_rfl) ?_
 rcases Nat.lt_or_ge i xs.length with hlt|hge
 ·have e1:xs[i]? =some xs[i]:=List.getElem?_eq_getElem hlt
  have e2:ys[i]? =some (ys[i]'(by omega)):=List.getElem?_eq_getElem _
  have hx:=kC hpre (List.getElem_mem hlt)
  simp (maxSteps:=2000000) (disch:=first|assumption|(refine qI ?_;assumption)|exact Nat.le_add_right _ _|exact Nat.le_refl _|omega|(simp (disch:=first|exact Nat.le_add_right _ _|omega) only[qG hb,qR hb,qM,qE hb,qC];done)|fail) only[go_sem,push_cast,qB,qA,qG hb,qE hb,e1,e2,hx]
  exact cmp_step hl' hI hlt (by omega) rfl fun h=>h
 ·simp (maxSteps:=2000000) (disch:=first|assumption|(refine qI ?_;assumption)|exact Nat.le_add_right _ _|exact Nat.le_refl _|omega|(simp (disch:=first|exact Nat.le_add_right _ _|omega) only[qG hb,qR hb,qM,qE hb,qC];done)|fail) only[go_sem,push_cast,qB,qA,qG hb,qE hb]
  refine cv (by kernel_rfl) ?_
  simp (maxSteps:=2000000) (disch:=first|assumption|(refine qI ?_;assumption)|exact Nat.le_add_right _ _|exact Nat.le_refl _|omega|(simp (disch:=first|exact Nat.le_add_right _ _|omega) only[qG hb,qR hb,qM,qE hb,qC];done)|fail) only[go_sem,push_cast,qB,qA,qG hb,qE hb]
  exact cmp_end hl' hI hge
def W16:qJ:=fun args H Bd K=>∃(x:GDisk) (y:GDisk),args=[.agg (enc x).toArray, .agg (enc y).toArray]∧((sm x)∧K (.bool (decide (x=y))) H Bd)
@[go_sem ↓] theorem W16_eq (x_sectors:List (List UInt8)) (x_pending:List GPut) (y_sectors:List (List UInt8)) (y_pending:List GPut):W16 [.agg #[lst x_sectors,lst x_pending], .agg #[lst y_sectors,lst y_pending]] H Bd K=((sm (GDisk.mk x_sectors x_pending))∧K (.bool (decide ((GDisk.mk x_sectors x_pending)=(GDisk.mk y_sectors y_pending)))) H Bd):=ex2 (GDisk.mk x_sectors x_pending) (GDisk.mk y_sectors y_pending) rfl
theorem W16_ok:OK 16 W16:=by
 rintro args H Bd K ⟨x,y,rfl,hpre,hK⟩
 refine fnp pok (((Env.base _).add 63 _ W63_ok).add 64 _ W64_ok) [] hK Tryz.func16 Tryz.ntmps16 Tryz.call16 [.tmp 4] fun hb ha=> ?_
 simp only[sm_GDisk]at hpre
 simp (maxSteps:=2000000) (disch:=first|assumption|(refine qI ?_;assumption)|exact Nat.le_add_right _ _|exact Nat.le_refl _|omega|(simp (disch:=first|exact Nat.le_add_right _ _|omega) only[qG hb,qR hb,qM,qE hb,qC];done)|fail) only[go_sem,push_cast,qB,qA,qG hb,qE hb,hpre]
 cases x;cases y
 simp only[Cnp,GDisk.mk.injEq]
 constructor <;>intros <;>simp_all
def W6:qJ:=fun args H Bd K=>∃(d:GDisk),args=[.agg (enc d).toArray]∧((sm d)∧K (.bool true) H Bd)
set_option maxHeartbeats 2000000 in
theorem W6_ok:OK 6 W6:=by
 rintro args H Bd K ⟨d,rfl,hpre,hK⟩
 refine fnp pok (((((((Env.base _).add 9 _ W9_ok).add 12 _ W12_ok).add 33 _ W33_ok).add 34 _ W34_ok).add 35 _ W35_ok).add 16 _ W16_ok) [(10,[0,1,2,3,4],[⟨0,[],[]⟩,⟨1,[],[]⟩,⟨2,[],[0]⟩,⟨3,[],[]⟩,⟨4,[],[]⟩], .nil)] hK Tryz.func6 Tryz.ntmps6 Tryz.call6 [.tmp 2] fun hb ha=> ?_
 have hpre2:=hpre
 have h0:=hpre
 have z0:=szP_or (tot d) (1048576)
 have y0:=szP_ub (tot d) (left:=1048576) (by omega)
 refine R h0 ?_
 all_goals first|trivial|(simp only[Cnp,Imp];(repeat' (first|apply And.intro|intro _)) <;>first|trivial|omega)
end Go.Proofs.YthoahlghegcfnaaGreatDoor
