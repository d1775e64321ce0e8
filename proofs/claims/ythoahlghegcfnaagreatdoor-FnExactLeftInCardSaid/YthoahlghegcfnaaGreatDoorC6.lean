/- YthoahlghegcfnaaGreatDoorC6 -/
import Derived.Test.YthoahlghegcfnaaGreatDoorC5
set_option linter.unusedSimpArgs false
set_option linter.unusedVariables false
set_option maxRecDepth 20000
namespace Go.Proofs.YthoahlghegcfnaaGreatDoor
open Go Go.SC
variable {H:AH} {Bd:Nat} {K:Value→AH→Nat→Prop}
def W296:qJ:=fun args H Bd K=>∃(s:GSignature) (n:Int),args=[.agg (enc s).toArray, .int .i64 n]∧((sm s∧yK s=0∧n<s.symbols.length)∧K (.int .i64 ((arN s n:Int))) H Bd)
@[go_sem ↓] theorem W296_eq (s_symbols:List GSymbol) (n:Int):W296 [.agg #[lst s_symbols], .int .i64 n] H Bd K=((sm (GSignature.mk s_symbols)∧yK (GSignature.mk s_symbols)=0∧n<(GSignature.mk s_symbols).symbols.length)∧K (.int .i64 ((arN (GSignature.mk s_symbols) n:Int))) H Bd):=ex2 (GSignature.mk s_symbols) n rfl
theorem W296_ok:OK 296 W296:=by
 rintro args H Bd K ⟨s,n,rfl,hpre,hK⟩
 refine fnp pok (Env.base _) [] hK Tryz.func296 Tryz.ntmps296 Tryz.call296 [.tmp 4] fun hb ha=> ?_
 obtain⟨h1,h2,h3⟩:=hpre
 have hss:sm s:=h1
 simp only[yL]at h1
 have hlen:=qY h1
 have hs:=yW h2
 by_cases hn:n<0
 ·have e:=arN_neg (s:=s) hn
  exact R (cj hn e) trivial
 ·have e4:n.toNat<s.symbols.length:=by omega
  have e2:s.symbols[n.toNat]? =some s.symbols[n.toNat]:=List.getElem?_eq_getElem e4
  have e:=arN_sym (s:=s) (by omega) e2
  have ha:=hs.nm _ (List.getElem_mem e4)
  refine R (cj hn (cj e e2)) ?_
  omega
def W226:qJ:=fun args H Bd K=>∃(n:Nat) (s_symbols:List GSymbol),args=[.pointer (some ⟨n,0,none⟩), .agg #[lst s_symbols]]∧Yld (H n) fun b=>Yld (yG rdB b) fun x=>((sm (GSignature.mk s_symbols)∧yK (GSignature.mk s_symbols)=0∧x.1.length≤1000000))∧K (lst (trT (GSignature.mk s_symbols) (x.1,x.2)).1) (upd (upd H n none) n (some ⟨[lst (trT (GSignature.mk s_symbols) (x.1,x.2)).2.1, .bool (trT (GSignature.mk s_symbols) (x.1,x.2)).2.2],true⟩)) (Bd+0)
@[go_sem ↓] theorem W226_eq (n:Nat) (s_symbols:List GSymbol):W226 [.pointer (some ⟨n,0,none⟩), .agg #[lst s_symbols]] H Bd K=(Yld (H n) fun b=>Yld (yG rdB b) fun x=>((sm (GSignature.mk s_symbols)∧yK (GSignature.mk s_symbols)=0∧x.1.length≤1000000))∧K (lst (trT (GSignature.mk s_symbols) (x.1,x.2)).1) (upd (upd H n none) n (some ⟨[lst (trT (GSignature.mk s_symbols) (x.1,x.2)).2.1, .bool (trT (GSignature.mk s_symbols) (x.1,x.2)).2.2],true⟩)) (Bd+0)):=by
 refine propext ⟨fun h=> ?_,fun h=>⟨_,_,rfl,h⟩⟩
 obtain⟨n',s_symbols',e,h⟩:=h
 simp only[List.cons.injEq,Value.agg.injEq,jE,Value.int.injEq,Value.bool.injEq,Value.string.injEq,Value.pointer.injEq,Option.some.injEq,Addr.mk.injEq,lst_inj,true_and,and_true]at e
 obtain⟨rfl,rfl⟩:=e
 exact h
set_option maxHeartbeats 4000000 in
theorem W226_ok:OK 226 W226:=by
 rintro args H Bd K ⟨n,s_symbols,rfl,b,hb0,x,hx,hpre,hK⟩
 obtain⟨rest,fd⟩:=x
 obtain rfl:=kV hx
 simp only[rdB,flB]at hb0 hK hpre
 obtain⟨s,rfl⟩:∃s:GSignature,s_symbols=s.symbols:=⟨(GSignature.mk s_symbols),rfl⟩
 simp only[eta_GSignature]at hpre hK
 have hnB:HB H Bd→n<Bd:=fun h=>hb_in h hb0
 obtain⟨G,rfl,gn,gE,gH⟩:=out1 hb0
 rw[gE]at hK
 refine fn_can pok ((((Env.base _).add 215 _ W215_ok).add 272 _ W272_ok).add 296 _ W296_ok) [(3,[],[],(.k 3 (.grp true 12 17 5 [13,14,15,16,17] 18 none (.k 5 .nil) .nil))),(8,[],[],(.k 3 (.grp false 29 33 4 [30,31,32,33] 34 none (.k 4 .nil) (.k 1 (.grp false 35 38 3 [36,37,38] 39 none (.k 3 .nil) .nil)))))] G [] (lst (trT s (rest,fd)).1) [(n,⟨[lst (trT s (rest,fd)).2.1, .bool (trT s (rest,fd)).2.2],true⟩)] hK (lst_unk _) (gH Bd) Tryz.func226 rfl (rs:=[.tmp 4]) rfl Tryz.ntmps226 (by simp) Tryz.call226 (by kernel_rfl) (fun hh hb ha=> ?_)
 have hn:=hnB hh
 skip
 clear hK gE gH hnB hb0 hx
 refine jH pok fun cv=> ?_
 obtain⟨h1,h2,h3⟩:=hpre
 have hs:=yW h2
 refine S0 ?_
 refine kB (X:=List Int×Nat×List UInt8×Bool) hb (by omega) 1 [.s 5] rfl (fun x=>x.1.length≤24∧x.2.1≤x.1.length+1∧x.2.2.1.length≤1000000∧trT s (rest,fd)=trI s (25-x.1.length) x.2.2 x.1 x.2.1) (fun x=>25-x.1.length) (fun Nx x=>[(0, .pointer (some ⟨n,0,none⟩)),(3, .pointer (some ⟨Bd,0,none⟩)),(5, .slice (some ⟨Nx,0,some 1⟩) x.1.length (x.1.length+1)),(6, .int .i64 x.2.1)]) (fun Nx x=>[(n,⟨[lst x.2.2.1, .bool x.2.2.2],true⟩),(Bd,⟨[lst s.symbols],true⟩),(Nx,⟨qQ x.1,true⟩)]) ([],1,rest,fd) (⟨Nat.zero_le _,Nat.le_refl _,h3,rfl⟩) (fun Nx hNx=>(cant)) ?_
 intro Nx x hNx hIx hbx Fx hFx
 simp only[mem_cons,jK]at hbx ⊢
 refine cv (by kernel_rfl) ?_
 obtain⟨out,m,rest2,f2⟩:=x
 obtain⟨i1,i2,i4,i5⟩:=hIx
 simp only at i1 i2 i4 i5
 obtain⟨f,hf⟩:∃f,25-out.length=f+1:=⟨24-out.length,by omega⟩
 rw[hf,trI]at i5
 by_cases hm:m=0
 ·rw[if_pos (.inl hm)]at i5
  rw[i5]
  refine S hm ?_
  refine cv (by kernel_rfl) ?_
  refine S0 ?_
  exact rq_pubI (by simp (disch:=first|assumption|omega) only[go_sem,push_cast,qB,qA] <;>rfl) rfl (by simp (disch:=first|assumption|omega) only[go_sem,push_cast,qB,qA,qC,qE hb] <;>omega) rfl
 cases f2 with
 |true=>
  rw[if_pos (.inr rfl)]at i5
  rw[i5]
  refine S hm ?_
  refine cv (by kernel_rfl) ?_
  refine S0 ?_
  exact rq_pubI (by simp (disch:=first|assumption|omega) only[go_sem,push_cast,qB,qA] <;>rfl) rfl (by simp (disch:=first|assumption|omega) only[go_sem,push_cast,qB,qA,qC,qE hb] <;>omega) rfl
 |false=>
  rw[if_neg (by simpa using hm)]at i5
  have ho:=vN (rest2,false)
  have hl1:(tkS (rest2,false) 1).1.length≤1000000:=Nat.le_trans (vK _ _) i4
  by_cases q1:yI (rest2,false)=0
  ·rw[if_pos (.inl q1)]at i5
   rw[i5]
   refine S (cj hm q1) ?_
   refine cv (by kernel_rfl) ?_
   refine S0 ?_
   exact rq_pubI (by simp (disch:=first|assumption|omega) only[go_sem,push_cast,qB,qA] <;>rfl) rfl (by simp (disch:=first|assumption|omega) only[go_sem,push_cast,qB,qA,qC,qE hb] <;>omega) rfl
  by_cases q2:32≤yI (rest2,false)
  case' pos=>have hz:nodeZ (yI (rest2,false))=31-yI (rest2,false):=if_pos q2
  case' neg=>have hz:nodeZ (yI (rest2,false))=yI (rest2,false)-1:=if_neg q2
  all_goals
   rw[hz]at i5
   rw[←hz]at i5
   have hR:R64 (nodeZ (yI (rest2,false))):=by rw[hz];exact⟨by omega,by omega⟩
   by_cases q3:kF s (nodeZ (yI (rest2,false)))=true
   case neg=>
    have q3:kF s (nodeZ (yI (rest2,false)))=false:=by simpa using q3
    rw[if_pos (.inr (.inl q3))]at i5
    rw[i5]
    refine S (cj hm (cj q1 (cj q2 (cj hz.symm (cj h1 (cj hR q3)))))) ?_
    refine cv (by kernel_rfl) ?_
    refine S0 ?_
    exact rq_pubI (by simp (disch:=first|assumption|omega) only[go_sem,push_cast,qB,qA] <;>rfl) rfl (by simp (disch:=first|assumption|omega) only[go_sem,push_cast,qB,qA,qC,qE hb] <;>omega) rfl
   by_cases q4:out.length=24
   ·rw[if_pos (.inr (.inr q4))]at i5
    rw[i5]
    refine S (cj hm (cj q1 (cj q2 (cj hz.symm (cj h1 (cj hR q3)))))) ?_
    refine cv (by kernel_rfl) ?_
    refine S0 ?_
    exact rq_pubI (by simp (disch:=first|assumption|omega) only[go_sem,push_cast,qB,qA] <;>rfl) rfl (by simp (disch:=first|assumption|omega) only[go_sem,push_cast,qB,qA,qC,qE hb] <;>omega) rfl
   rw[if_neg (by rintro(h|h|h);exact q1 h;(rw[q3]at h;cases h);exact q4 h)]at i5
   have hlt:=isNode_lt q3
   have har:=arN_le hs (nodeZ (yI (rest2,false)))
   refine SA (cj hm (cj q1 (cj q2 (cj hz.symm (cj h1 (cj h2 (cj hR (cj q3 (cj q4 hlt.1))))))))) ?_
   refine hFx (out++[nodeZ (yI (rest2,false))],m-1+arN s (nodeZ (yI (rest2,false))),tkS (rest2,false) 1) _ _ _ ?_ ?_ (by simp only[go_sem,push_cast,qB,qA]) ((cant))
   ·show 25-(out++[nodeZ (yI (rest2,false))]).length<25-out.length
    rw[List.length_append,List.length_singleton];omega
   ·refine⟨by rw[List.length_append,List.length_singleton];omega,by show m-1+arN s _≤(out++[_]).length+1;rw[List.length_append,List.length_singleton];omega,hl1,?_⟩
    rw[List.length_append,List.length_singleton,show 25-(out.length+1)=f by omega]
    exact i5
def V271:qJ:=fun args H Bd K=>∃(n:Int) (s:GSignature),args=[.int .i64 n, .agg (enc s).toArray]∧((sm s∧R64 n)∧K (.bool (!kF s n)) H Bd)
def W271:qJ:=fun args H Bd K=>∃(vn ps:Value),args=[vn,ps]∧Yld (qK H 1 ps) fun cs=>qS V271 [vn, .agg cs.toArray] H Bd K
theorem W271_ok:OK 271 W271:=by
 rintro args H Bd K ⟨vn,ps,rfl,cs,es,h⟩
 obtain⟨n,s,e,hpre,hK⟩:=h
 simp only[List.cons.injEq,and_true]at e
 obtain⟨rfl,Es⟩:=e
 obtain rfl:=qZ Es
 refine fnp pok ((Env.base _).add 272 _ W272_ok) [] hK Tryz.func271 Tryz.ntmps271 Tryz.call271 [.tmp 3] fun hb ha=> ?_
 have Ps:=qO es (NB.vpok (ha ps (by simp)))
 simp only[qP]at Ps
 have Zs:=Ps.all 1 rfl
 have Ys:=jJ (ha ps (by simp))
 exact R (cj Zs hpre) trivial
def V270_271:qJ:=fun args H Bd K=>∃(xs:List Int) (s:GSignature),args=[lst xs, .agg (enc s).toArray]∧((sm xs∧∀n∈xs,sm s∧R64 n)∧K (.bool (xs.any (fun n:Int=> !kF s n))) H Bd)
@[go_sem ↓] theorem V270_271_eq (xs:List Int) (s_symbols:List GSymbol):V270_271 [lst xs, .agg #[lst s_symbols]] H Bd K=((sm xs∧∀n∈xs,sm (GSignature.mk s_symbols)∧R64 n)∧K (.bool (xs.any (fun n:Int=> !kF (GSignature.mk s_symbols) n))) H Bd):=ex2 xs (GSignature.mk s_symbols) rfl
def W270_271:qJ:=fun args H Bd K=>∃(vxs ps:Value),args=[vxs, .func (.func 271) #[] #[ps]]∧Yld (qK H 1 ps) fun cs=>qS V270_271 [vxs, .agg cs.toArray] H Bd K
@[go_sem ↓] theorem W270_271_eq (vxs ps:Value):W270_271 [vxs, .func (.func 271) #[] #[ps]] H Bd K=(Yld (qK H 1 ps) fun cs=>qS V270_271 (idS [vxs, .agg cs.toArray]) H Bd K):=by
 refine propext ⟨fun h=> ?_,fun h=>⟨_,_,rfl,h⟩⟩
 obtain⟨vxs',ps',e,h⟩:=h
 simp only[List.cons.injEq,Value.func.injEq,jE,List.cons.injEq,and_true,true_and]at e
 obtain⟨rfl,rfl⟩:=e
 exact h
theorem W270_271_ok:OK 270 W270_271:=by
 rintro args H Bd K ⟨vxs,ps,rfl,cs,es,h⟩
 obtain⟨xs,s,e,hpre,hK⟩:=h
 simp only[List.cons.injEq,and_true]at e
 obtain⟨rfl,Es⟩:=e
 obtain rfl:=qZ Es
 refine G270 271 #[ps] (fun n:Int=> !kF s n) xs H Bd K hpre.1 (fun x hx B hB K' hk=> ?_) hK
 exact W271_ok _ _ _ _ ⟨_,_,rfl,_,es,x,s,rfl,hpre.2 x hx,hk⟩
def W273:qJ:=fun args H Bd K=>∃(s:GSignature) (t:List Int) (a:Int),args=[.agg (enc s).toArray,lst t, .int .i64 a]∧((sm s∧sm t∧yK s=0∧nodes s t∧0≤a∧a≤t.length)∧K (.int .i64 (if ep s t 1 a.toNat<0 then(t.length:Int)+1 else ep s t 1 a.toNat)) H Bd)
@[go_sem ↓] theorem W273_eq (s_symbols:List GSymbol) (t:List Int) (a:Int):W273 [.agg #[lst s_symbols],lst t, .int .i64 a] H Bd K=((sm (GSignature.mk s_symbols)∧sm t∧yK (GSignature.mk s_symbols)=0∧nodes (GSignature.mk s_symbols) t∧0≤a∧a≤t.length)∧K (.int .i64 (if ep (GSignature.mk s_symbols) t 1 a.toNat<0 then(t.length:Int)+1 else ep (GSignature.mk s_symbols) t 1 a.toNat)) H Bd):=ex3 (GSignature.mk s_symbols) t a rfl
set_option maxHeartbeats 2000000 in
theorem W273_ok:OK 273 W273:=by
 rintro args H Bd K ⟨s,t,a,rfl,hpre,hK⟩
 refine fnp pok ((Env.base _).add 296 _ W296_ok) [(6,[0,1,2,3,4,5,6,7,8,9],[⟨0,[],[]⟩,⟨1,[],[]⟩,⟨2,[],[]⟩,⟨3,[],[]⟩,⟨4,[],[]⟩,⟨5,[],[]⟩,⟨6,[],[]⟩,⟨7,[],[]⟩,⟨8,[],[]⟩,⟨9,[],[]⟩], .nil)] hK Tryz.func273 Tryz.ntmps273 Tryz.call273 [.tmp 6] fun hb ha=> ?_
 refine jH pok fun cv=> ?_
 obtain⟨h1,h2,h3,h4,h5,h6⟩:=hpre
 have hss:sm s:=h1
 have hlt2:=qY h2
 have hs:=yW h3
 obtain⟨a,rfl⟩:=Int.eq_ofNat_of_zero_le h5
 have hout:∀(i:Nat),ep s t 1 a=ep s t (opn s t a i) (a+i)→a+i≤t.length→(opn s t a i=0→ep s t 1 a=a+i):=fun i h1 h2 h3=>by rw[h1,h3,ep_zero h2];omega
 rcases ep_cases (s:=s) (t:=t) 1 (show a≤t.length by omega)with⟨q1,_⟩|⟨m,q1,q2,q3,_⟩
 ·have hv:(if ep s t 1 a<0 then(t.length:Int)+1 else ep s t 1 a)=t.length+1:=if_pos (by omega)
  refine R hv ?_
  refine jB (fun i=>ep s t 1 a=ep s t (opn s t a i) (a+i)∧opn s t a i≤i+1) (t.length-a) (fun i=>[(1,lst t),(2, .int .i64 ((a:Int)+i)),(3, .pointer (some ⟨Bd,0,none⟩)),(7, .int .i64 (opn s t a i))]) (⟨rfl,Nat.le_refl _⟩) (by simp only[go_sem,push_cast,qB,qA,opn_zero,Int.add_zero]) ?_
  intro i Bi hIi hii hBi
  refine cv (by kernel_rfl) ?_
  rcases Nat.lt_or_ge i (t.length-a)with hlti|hgei
  ·have hpos:1≤opn s t a i:=by
    rcases Nat.eq_zero_or_pos (opn s t a i)with h|h
    ·have:=hout i hIi.1 (by omega) h;omega
    ·exact h
   have e1:t[a+i]? =some t[a+i]:=List.getElem?_eq_getElem (by omega)
   have hn:=h4 _ (List.getElem_mem (show a+i<t.length by omega))
   have hop:=opn_succ (s:=s) e1
   have hnx:=opn_ep (s:=s) e1 hpos
   have har:=arN_le hs t[a+i]
   have hlt3:(a:Int)+i<t.length:=by omega
   have hcv:((a:Int)+i).toNat=a+i:=by omega
   have hi2:=hIi.2
   rw[hnx]at hIi
   have hi3:=hIi.1
   have hcc:(opn s t a i:Int)+(arN s t[a+i]-1)=opn s t a (i+1):=by omega
   have hcd:opn s t a (i+1)≤i+1+1:=by omega
   have hce:(a:Int)+i+1=a+(i+1:Nat):=by omega
   exact R (cj e1 (cj hss (cj h3 (cj hcv (cj hcc (cj hi3 hcd)))))) trivial
  ·have hpos:1≤opn s t a i:=by
    rcases Nat.eq_zero_or_pos (opn s t a i)with h|h
    ·have:=hout i hIi.1 (by omega) h;omega
    ·exact h
   have hp2:(0:Int)<opn s t a i:=by omega
   exact R hp2 trivial
 ·have hv:(if ep s t 1 a<0 then(t.length:Int)+1 else ep s t 1 a)=a+m:=by rw[if_neg (by omega),q3];omega
  refine R hv ?_
  refine jB (fun i=>ep s t 1 a=ep s t (opn s t a i) (a+i)∧opn s t a i≤i+1) (m) (fun i=>[(1,lst t),(2, .int .i64 ((a:Int)+i)),(3, .pointer (some ⟨Bd,0,none⟩)),(7, .int .i64 (opn s t a i))]) (⟨rfl,Nat.le_refl _⟩) (by simp only[go_sem,push_cast,qB,qA,opn_zero,Int.add_zero]) ?_
  intro i Bi hIi hii hBi
  refine cv (by kernel_rfl) ?_
  rcases Nat.lt_or_ge i (m)with hlti|hgei
  ·have hpos:1≤opn s t a i:=by
    rcases Nat.eq_zero_or_pos (opn s t a i)with h|h
    ·have:=hout i hIi.1 (by omega) h;omega
    ·exact h
   have e1:t[a+i]? =some t[a+i]:=List.getElem?_eq_getElem (by omega)
   have hn:=h4 _ (List.getElem_mem (show a+i<t.length by omega))
   have hop:=opn_succ (s:=s) e1
   have hnx:=opn_ep (s:=s) e1 hpos
   have har:=arN_le hs t[a+i]
   have hlt3:(a:Int)+i<t.length:=by omega
   have hcv:((a:Int)+i).toNat=a+i:=by omega
   have hi2:=hIi.2
   rw[hnx]at hIi
   have hi3:=hIi.1
   have hcc:(opn s t a i:Int)+(arN s t[a+i]-1)=opn s t a (i+1):=by omega
   have hcd:opn s t a (i+1)≤i+1+1:=by omega
   have hce:(a:Int)+i+1=a+(i+1:Nat):=by omega
   exact R (cj e1 (cj hss (cj h3 (cj hcv (cj hcc (cj hi3 hcd)))))) trivial
  ·have hz:opn s t a i=0:=by
    have h7:=hIi.1
    rcases ep_cases (s:=s) (t:=t) (opn s t a i) (show a+i≤t.length by omega)with⟨g1,_⟩|⟨m',g1,g2,g3,_⟩
    ·omega
    ·omega
   refine R hz ?_
   refine cv (by kernel_rfl) ?_
   refine R0 ?_
   omega
def W203:qJ:=fun args H Bd K=>∃(s:GSignature) (t:List Int),args=[.agg (enc s).toArray,lst t]∧((sm s∧sm t∧rg t)∧K (.int .i64 (termF s t)) H Bd)
@[go_sem ↓] theorem W203_eq (s_symbols:List GSymbol) (t:List Int):W203 [.agg #[lst s_symbols],lst t] H Bd K=((sm (GSignature.mk s_symbols)∧sm t∧rg t)∧K (.int .i64 (termF (GSignature.mk s_symbols) t)) H Bd):=ex2 (GSignature.mk s_symbols) t rfl
set_option maxHeartbeats 2000000 in
theorem W203_ok:OK 203 W203:=by
 rintro args H Bd K ⟨s,t,rfl,hpre,hK⟩
 refine fnp pok ((((Env.base _).add 76 _ W76_ok).add 270 _ W270_271_ok).add 273 _ W273_ok) [(4,[],[],(.k 4 (.grp false 14 17 3 [15,16,17] 18 none (.k 3 .nil) .nil)))] hK Tryz.func203 Tryz.ntmps203 Tryz.call203 [.tmp 4] fun hb ha=> ?_
 obtain⟨h1,h2,h3⟩:=hpre
 have hss:sm s:=h1
 simp only[yL]at h1
 have hlen:=qY h1
 have hlen2:=qY h2
 refine R (cj hss h2) ?_
 refine⟨fun g1=>⟨fun g2=> ?_,fun g2 g3=>⟨h3,fun g4=> ?_,fun g4=>⟨⟨nodes_any (by simpa using g4),by omega⟩,?_⟩⟩⟩,fun g1=> ?_⟩
 ·unfold termF zA;rw[if_neg (by simp[g1]),if_pos (by omega)]
 ·unfold termF zA;rw[if_neg (by simp[g1]),if_neg (by omega),if_pos g4]
 ·have e5:termF s t=if ep s t 1 0=t.length then 0 else 1:=by unfold termF zA;rw[if_neg (by simp[g1]),if_neg (by omega),if_neg (by simpa using g4)]
  rw[e5]
  rcases ep_cases (s:=s) (t:=t) 1 (Nat.zero_le _)with⟨q1,_⟩|⟨m,q1,q2,q3,_⟩
  ·rw[q1]
   refine⟨fun h=> ?_,fun h=> ?_⟩
   ·rw[if_pos (by omega)]at h;omega
   ·rw[if_neg (by omega)]
  ·rw[q3]
   refine⟨fun h=> ?_,fun h=> ?_⟩
   ·rw[if_neg (by omega)]at h;rw[if_pos h]
   ·rw[if_neg (by omega)]at h;rw[if_neg h]
 ·unfold termF;rw[if_pos g1]
def W282b:qJ:=fun args H Bd K=>∃(ts:List (List Int)),args=[lst ts]∧((sm ts∧ts.length≤100∧∀t∈ts,t.length≤24∧vQ t)∧K (lst (uniqI (varsL ts))) H Bd)
@[go_sem ↓] theorem W282b_eq (ts:List (List Int)) (H:AH) (Bd:Nat) (K:Value→AH→Nat→Prop):W282b [lst ts] H Bd K=((sm ts∧ts.length≤100∧∀t∈ts,t.length≤24∧vQ t)∧K (lst (uniqI (varsL ts))) H Bd):=ex1 ts rfl
set_option maxHeartbeats 2000000 in
theorem W282b_ok:OK 282 W282b:=by
 rintro args H Bd K ⟨ts,rfl,hpre,hK⟩
 refine fnp pok (((Env.base _).add 60 _ W60_ok).add 324 _ W324_ok) [] hK Tryz.func282 Tryz.ntmps282 Tryz.call282 [.tmp 2] fun hb ha=> ?_
 refine jH pok fun cv=> ?_
 obtain⟨h1,h2,h3⟩:=hpre
 have hvl:∀i,(varsL (ts.take i)).length≤2400:=fun i=>by
  have:=varsL_len (ts:=ts.take i) fun t ht=>(h3 t (List.mem_of_mem_take ht)).1
  rw[List.length_take]at this
  omega
 refine R0 ?_
 refine tr_st (X:=Nat×Nat×Nat) (fun x=>x.1≤ts.length∧Bd≤x.2.1∧0<x.2.2) (fun x=>ts.length-x.1) (fun x=>[(3, .slice (some ⟨x.2.1,0,some 1⟩) (varsL (ts.take x.1)).length x.2.2),(9,lst ts),(10, .int .i64 ts.length),(11, .int .i64 x.1)]) (fun x=>upd H x.2.1 (some ⟨qQ (varsL (ts.take x.1)),true⟩)) (0,Bd,1) (⟨Nat.zero_le _,Nat.le_refl _,Nat.zero_lt_one⟩) (by simp only[go_sem,push_cast,qB,qA,List.take_zero,varsL_nil,jC];all_goals (try simp only[Value.int.injEq,Value.slice.injEq,true_and,and_true]) <;>all_goals (try(first|trivial|omega|grind))) (by first|exact Le.refl _|simp (disch:=first|assumption|omega) only[go_sem,push_cast,qB,qA,qM,yF,List.take_zero,varsL_nil,jC]) ?_
 intro x Bx hIx hBx hbx Fx hFx
 refine cv (by kernel_rfl) ?_
 obtain⟨i,n,c⟩:=x
 obtain⟨i1,i2,i3⟩:=hIx
 simp only at i1 i2 i3 hbx
 have hnx:=hb_lt hbx
 have hvi:=hvl i
 rcases Nat.lt_or_ge i ts.length with hlt|hge
 ·have e1:ts[i]? =some ts[i]:=List.getElem?_eq_getElem hlt
  have h4:=h3 _ (List.getElem_mem hlt)
  have h41:=h4.1
  refine R e1 ?_
  refine tr_st (X:=Nat×Nat×Nat) (fun y=>y.1≤ts[i].length∧Bd≤y.2.1∧0<y.2.2) (fun y=>ts[i].length-y.1) (fun y=>[(3, .slice (some ⟨y.2.1,0,some 1⟩) (varsL (ts.take i)++vars1 (ts[i].take y.1)).length y.2.2),(9,lst ts),(10, .int .i64 ts.length),(11, .int .i64 i),(15,lst ts[i]),(16, .int .i64 ts[i].length),(17, .int .i64 y.1)]) (fun y=>upd H y.2.1 (some ⟨qQ (varsL (ts.take i)++vars1 (ts[i].take y.1)),true⟩)) (0,n,c) (⟨Nat.zero_le _,i2,i3⟩) (by simp only[go_sem,push_cast,qB,qA,List.take_zero,vars1_nil,List.append_nil];all_goals (try simp only[Value.int.injEq,Value.slice.injEq,true_and,and_true]) <;>all_goals (try(first|trivial|omega|grind))) (by first|exact Le.refl _|simp (disch:=first|assumption|omega) only[go_sem,push_cast,qB,qA,qM,yF,List.take_zero,vars1_nil,List.append_nil]) ?_
  intro y By hIy hBy hby Fy hFy
  refine cv (by kernel_rfl) ?_
  obtain⟨j,m,d⟩:=y
  obtain⟨j1,j2,j3⟩:=hIy
  simp only at j1 j2 j3 hby
  have hmy:=hb_lt hby
  have hz:(d=0)=False:=eq_false (by omega)
  have hv1:=vars1_len (ts[i].take j)
  rw[List.length_take]at hv1
  rcases Nat.lt_or_ge j ts[i].length with hltj|hgej
  ·have e2:ts[i][j]? =some ts[i][j]:=List.getElem?_eq_getElem hltj
   have hst:=vars1_take hltj
   have hsm:=h4.2 _ (List.getElem_mem hltj)
   by_cases hn:ts[i][j]<0
   ·have hst2:varsL (ts.take i)++vars1 (ts[i].take (j+1))=(varsL (ts.take i)++vars1 (ts[i].take j))++[-1-ts[i][j]]:=by rw[hst,if_pos hn,List.append_assoc]
    refine R (cj e2 (cj hn hz)) ?_
    refine⟨by simp only[List.length_append];omega,?_⟩
    refine hFy (j+1,By+1,kY ((varsL (ts.take i)++vars1 (ts[i].take j)).length+1) (d-1)) _ _ _ ?_ ?_ (by first|exact Le.refl _|simp (disch:=first|assumption|omega|(simp (disch:=omega) only[qC,qE hb];done)) only[go_sem,push_cast,qB,qA,qM,yF,qC,qE hb,hst2,appVal,yU,qL,qU,List.length_append,List.length_cons,List.length_nil]) (by simp only[go_sem,push_cast,qB,qA]) (by simp only[go_sem,push_cast,qB,qA,hst2,appVal,yU,qL,qU,List.length_append,List.length_cons,List.length_nil];all_goals (try simp only[Value.int.injEq,Value.slice.injEq,true_and,and_true]) <;>all_goals (try(first|trivial|omega|grind)))
    ·show ts[i].length-(j+1)<ts[i].length-j
     omega
    ·refine⟨by omega,show Bd≤By+1 by omega,?_⟩
     show 0<kY _ _
     unfold kY;split <;>omega
   ·rw[if_neg hn,List.append_nil]at hst
    refine R (cj e2 hn) ?_
    refine hFy (j+1,m,d) _ _ _ ?_ ?_ (by first|exact Le.refl _|simp (disch:=first|assumption|omega|(simp (disch:=omega) only[qC,qE hb];done)) only[go_sem,push_cast,qB,qA,qM,yF,qC,qE hb,hst]) (by simp only[go_sem,push_cast,qB,qA]) (by simp only[go_sem,push_cast,qB,qA,hst];all_goals (try simp only[Value.int.injEq,Value.slice.injEq,true_and,and_true]) <;>all_goals (try(first|trivial|omega|grind)))
    ·show ts[i].length-(j+1)<ts[i].length-j
     omega
    ·exact⟨by omega,j2,j3⟩
  ·have hst:=varsL_take hlt
   rw[List.take_of_length_le hgej]at hby ⊢
   refine R0 ?_
   refine hFx (i+1,m,d) _ _ _ ?_ ?_ (by first|exact Le.refl _|simp (disch:=first|assumption|omega|(simp (disch:=omega) only[qC,qE hb];done)) only[go_sem,push_cast,qB,qA,qM,yF,qC,qE hb,hst]) (by simp only[go_sem,push_cast,qB,qA]) (by simp only[go_sem,push_cast,qB,qA,hst];all_goals (try simp only[Value.int.injEq,Value.slice.injEq,true_and,and_true]) <;>all_goals (try(first|trivial|omega|grind)))
   ·show ts.length-(i+1)<ts.length-i
    omega
   ·exact⟨by omega,j2,j3⟩
 ·rw[List.take_of_length_le hge]at hbx hvi ⊢
  refine R0 ?_
  refine cv (by kernel_rfl) ?_
  simp (maxSteps:=2000000) (disch:=first|assumption|(refine qI ?_;assumption)|exact Nat.le_add_right _ _|exact Nat.le_refl _|omega|(simp (disch:=first|exact Nat.le_add_right _ _|omega) only[qG hb,qR hb,qM,qE hb,qC];done)|fail) only[go_sem,push_cast,qB,qA,qG hb,qE hb,kI]
  refine pub_flat (α:=Int) (qN _ _ _) rfl ?_ (hb.fresh n (by omega)) rfl rfl
  show((qQ (uniqI (varsL ts)++_)).drop 0).take ((uniqI (varsL ts)).length*Enc.k Int)=_
  rw[List.drop_zero,flat_take,List.take_left' rfl]
def W282:qJ:=GiveT 0 W282b
@[go_sem ↓] theorem W282_eq (v0:Value):W282 [v0] H Bd K=qS W282b (idS [giveV H v0]) (giveH H v0) Bd K:=(rfl)
theorem W282_ok:OK 282 W282:=GiveT_ok 0 W282b_ok
def W283:qJ:=fun args H Bd K=>∃(v:Int),args=[.int .i64 v]∧(K (.bool (decide (6≤v))) H Bd)
theorem W283_ok:OK 283 W283:=by
 rintro args H Bd K ⟨v,rfl,hK⟩
 refine fnp pok (Env.base _) [] hK Tryz.func283 Tryz.ntmps283 Tryz.call283 [.tmp 2] fun hb ha=> ?_
 exact R0 trivial
def V270_283:qJ:=fun args H Bd K=>∃(xs:List Int),args=[lst xs]∧((sm xs)∧K (.bool (xs.any (fun v:Int=>decide (6≤v)))) H Bd)
@[go_sem ↓] theorem V270_283_eq (xs:List Int):V270_283 [lst xs] H Bd K=((sm xs)∧K (.bool (xs.any (fun v:Int=>decide (6≤v)))) H Bd):=ex1 xs rfl
def W270_283:qJ:=fun args H Bd K=>∃(vxs:Value),args=[vxs, .func (.func 283) #[] #[]]∧qS V270_283 [vxs] H Bd K
@[go_sem ↓] theorem W270_283_eq (vxs:Value):W270_283 [vxs, .func (.func 283) #[] #[]] H Bd K=(qS V270_283 (idS [vxs]) H Bd K):=by
 refine propext ⟨fun h=> ?_,fun h=>⟨_,rfl,h⟩⟩
 obtain⟨vxs',e,h⟩:=h
 simp only[List.cons.injEq,Value.func.injEq,jE,List.cons.injEq,and_true,true_and]at e
 obtain rfl:=e
 exact h
theorem W270_283_ok:OK 270 W270_283:=by
 rintro args H Bd K ⟨vxs,rfl,h⟩
 obtain⟨xs,e,hpre,hK⟩:=h
 simp only[List.cons.injEq,and_true]at e
 obtain rfl:=e
 refine G270 283 #[] (fun v:Int=>decide (6≤v)) xs H Bd K hpre (fun x hx B hB K' hk=> ?_) hK
 exact W283_ok _ _ _ _ ⟨x,rfl,hk⟩
def W209:qJ:=fun args H Bd K=>∃(s:GSignature) (e:GEquation),args=[.agg (enc s).toArray, .agg (enc e).toArray]∧((sm s∧sm e∧rg e)∧K (.int .i64 (eqnF s e)) H Bd)
@[go_sem ↓] theorem W209_eq (s_symbols:List GSymbol) (e_left:List Int) (e_right:List Int):W209 [.agg #[lst s_symbols], .agg #[lst e_left,lst e_right]] H Bd K=((sm (GSignature.mk s_symbols)∧sm (GEquation.mk e_left e_right)∧rg (GEquation.mk e_left e_right))∧K (.int .i64 (eqnF (GSignature.mk s_symbols) (GEquation.mk e_left e_right))) H Bd):=ex2 (GSignature.mk s_symbols) (GEquation.mk e_left e_right) rfl
theorem W209_ok:OK 209 W209:=by
 rintro args H Bd K ⟨s,e,rfl,hpre,hK⟩
 refine fnp pok (((((Env.base _).add 203 _ W203_ok).add 55 _ W55_ok).add 282 _ W282_ok).add 270 _ W270_283_ok) [(1,[0,1,2,4,5,6,3,7,8,9,10],[⟨0,[],[]⟩,⟨1,[],[]⟩,⟨2,[],[]⟩,⟨4,[],[]⟩,⟨5,[],[]⟩,⟨6,[],[]⟩,⟨3,[],[6,4]⟩,⟨7,[],[]⟩,⟨8,[],[]⟩,⟨9,[8],[]⟩,⟨10,[],[]⟩], .nil)] hK Tryz.func209 Tryz.ntmps209 Tryz.call209 [.tmp 4] fun hb ha=> ?_
 obtain⟨h1,h2,h3⟩:=hpre
 simp only[vY]at h2
 have h4:=h2.1
 have h5:=h2.2
 have h6:rg e.left:=h3.1
 have h7:rg e.right:=h3.2
 refine R (cj h1 (cj h4 (cj h5 (cj h6 h7)))) ?_
 refine⟨(yR _).2 (by simp),?_⟩
 rw[firstF2]
 by_cases g0:yK s=0
 ·have hs:=yW g0
  rw[termF_G g0,termF_G g0]
  have hv:eqnF s e=eqnG s e:=by unfold eqnF;rw[if_neg (by simp[g0])]
  rw[hv]
  by_cases t1:zA s e.left=0
  ·by_cases t2:zA s e.right=0
   ·have o1:=term_small hs (term_ok t1)
    have o2:=term_small hs (term_ok t2)
    have hall:∀t∈[e.left,e.right],t.length≤24∧vQ t:=fun t ht=>by
     rcases List.mem_cons.1 ht with rfl|ht
     ·exact o1
     ·rw[List.mem_singleton.1 ht];exact o2
    rw[if_neg (by simp[t1]),vars_low]
    refine⟨fun _=>⟨⟨sm_two h4 h5,hall⟩,sm_uniq (by simp) fun t ht=>(hall t ht).1,fun h=> ?_,fun h=> ?_⟩,fun h=>absurd t2 h⟩
    ·unfold eqnG
     rw[if_neg (by simp[t1]),if_neg (by simp[t2]),if_neg]
     intro hc
     rw[hc.1,hc.2]at h;cases h
    ·unfold eqnG
     rw[if_neg (by simp[t1]),if_neg (by simp[t2]),if_pos]
     cases q1:lowB e.left <;>cases q2:lowB e.right <;>simp[q1,q2]at h ⊢
   ·rw[if_neg (by simp[t1])]
    refine⟨fun h=>absurd h t2,fun _=> ?_⟩
    unfold eqnG;rw[if_neg (by simp[t1]),if_pos t2]
  ·rw[if_pos t1]
   refine⟨fun h=>absurd h t1,fun _=> ?_⟩
   unfold eqnG;rw[if_pos t1]
 ·have ht:∀t,termF s t=yK s:=fun t=>by unfold termF;rw[if_pos g0]
  rw[ht,ht,if_pos g0]
  refine⟨fun h=>absurd h g0,fun _=> ?_⟩
  unfold eqnF;rw[if_pos g0]
def W291:qJ:=fun args H Bd K=>∃(s:GSignature) (l:List GEquation),args=[.agg (enc s).toArray,lst l]∧((sm s∧sm l∧rg l)∧K (.int .i64 (eqsF s l)) H Bd)
@[go_sem ↓] theorem W291_eq (s_symbols:List GSymbol) (l:List GEquation):W291 [.agg #[lst s_symbols],lst l] H Bd K=((sm (GSignature.mk s_symbols)∧sm l∧rg l)∧K (.int .i64 (eqsF (GSignature.mk s_symbols) l)) H Bd):=ex2 (GSignature.mk s_symbols) l rfl
set_option maxHeartbeats 2000000 in
theorem W291_ok:OK 291 W291:=by
 rintro args H Bd K ⟨s,l,rfl,hpre,hK⟩
 refine fnp pok (((Env.base _).add 76 _ W76_ok).add 209 _ W209_ok) [] hK Tryz.func291 Tryz.ntmps291 Tryz.call291 [.tmp 4] fun hb ha=> ?_
 refine jH pok fun cv=> ?_
 obtain⟨h1,h2,h3⟩:=hpre
 have hlt2:=qY h2
 refine R h1 ?_
 refine⟨fun g1=> ?_,fun g1=> ?_⟩
 ·have hv0:eqsF s l=eqsG s l:=by unfold eqsF;rw[if_neg (by simp[g1])]
  refine⟨fun hq=> ?_,fun hq=> ?_⟩
  ·rw[hv0];unfold eqsG;rw[if_pos (by omega)]
  ·have hv:eqsF s l=vF (eqnF s) l:=by
    rw[hv0];unfold eqsG;rw[if_neg (by omega)]
    congr 1;funext e;unfold eqnF;rw[if_neg (by simp[g1])]
   rw[hv]
   refine jB (fun i=>∀j,j<i→∀y,l[j]? =some y→eqnF s y=0) (l.length) (fun i=>[(2, .pointer (some ⟨Bd,0,none⟩)),(17,lst l),(18, .int .i64 l.length),(19, .int .i64 i)]) (fun j hj=>absurd hj (Nat.not_lt_zero _)) (by simp only[go_sem,push_cast,qB,qA]) ?_
   intro i Bi hIi hii hBi
   refine cv (by kernel_rfl) ?_
   rcases Nat.lt_or_ge i (l.length)with hlti|hgei
   ·have e1:l[i]? =some l[i]:=List.getElem?_eq_getElem hlti
    have h5:=kC h2 (List.getElem_mem hlti)
    have h6:=h3 _ (List.getElem_mem hlti)
    refine R (cj e1 (cj h1 (cj h5 h6))) ?_
    refine⟨fun h j hj y hy=> ?_,fun h=>(firstF_hit e1 hIi h).symm⟩
    ·by_cases e:j=i
     ·subst e;rw[e1]at hy;cases hy;exact h
     ·exact hIi j (by omega) y hy
   ·refine R0 ?_
    refine cv (by kernel_rfl) ?_
    refine R0 ?_
    exact(firstF_all fun x hx=>by
     obtain⟨j,hj,rfl⟩:=List.getElem_of_mem hx
     exact hIi j (by omega) _ (List.getElem?_eq_getElem hj)).symm
 ·unfold eqsF;rw[if_pos g1]
theorem L291_pure:PureV W291:=by
 rintro args H Bd K ⟨x0,x1,rfl,hpre,hK⟩
 exact⟨_,by first|exact .bool _|exact .int _ _|exact .string _|exact vc_enc _,hK,fun H' K' hs h=>⟨x0,x1,rfl,hpre,h⟩⟩
def L291:qJ:=LendA W291
@[go_sem ↓] theorem L291_eq (v0 v1:Value):L291 [v0,v1] H Bd K=qS W291 (idS [giveA H v0,giveA H v1]) H Bd K:=(rfl)
theorem L291_ok:OK 291 L291:=LendA_ok W291_ok L291_pure
def W216:qJ:=fun args H Bd K=>∃(n:Nat) (s_symbols:List GSymbol),args=[.pointer (some ⟨n,0,none⟩), .agg #[lst s_symbols]]∧Yld (H n) fun b=>Yld (yG rdB b) fun x=>((sm (GSignature.mk s_symbols)∧yK (GSignature.mk s_symbols)=0∧x.1.length≤1000000))∧K (lst (eqR (GSignature.mk s_symbols) (x.1,x.2)).1) (upd (upd H n none) n (some ⟨[lst (eqR (GSignature.mk s_symbols) (x.1,x.2)).2.1, .bool (eqR (GSignature.mk s_symbols) (x.1,x.2)).2.2],true⟩)) (Bd+0)
@[go_sem ↓] theorem W216_eq (n:Nat) (s_symbols:List GSymbol):W216 [.pointer (some ⟨n,0,none⟩), .agg #[lst s_symbols]] H Bd K=(Yld (H n) fun b=>Yld (yG rdB b) fun x=>((sm (GSignature.mk s_symbols)∧yK (GSignature.mk s_symbols)=0∧x.1.length≤1000000))∧K (lst (eqR (GSignature.mk s_symbols) (x.1,x.2)).1) (upd (upd H n none) n (some ⟨[lst (eqR (GSignature.mk s_symbols) (x.1,x.2)).2.1, .bool (eqR (GSignature.mk s_symbols) (x.1,x.2)).2.2],true⟩)) (Bd+0)):=by
 refine propext ⟨fun h=> ?_,fun h=>⟨_,_,rfl,h⟩⟩
 obtain⟨n',s_symbols',e,h⟩:=h
 simp only[List.cons.injEq,Value.agg.injEq,jE,Value.int.injEq,Value.bool.injEq,Value.string.injEq,Value.pointer.injEq,Option.some.injEq,Addr.mk.injEq,lst_inj,true_and,and_true]at e
 obtain⟨rfl,rfl⟩:=e
 exact h
set_option maxHeartbeats 4000000 in
theorem W216_ok:OK 216 W216:=by
 rintro args H Bd K ⟨n,s_symbols,rfl,b,hb0,x,hx,hpre,hK⟩
 obtain⟨rest,fd⟩:=x
 obtain rfl:=kV hx
 simp only[rdB,flB]at hb0 hK hpre
 obtain⟨s,rfl⟩:∃s:GSignature,s_symbols=s.symbols:=⟨(GSignature.mk s_symbols),rfl⟩
 simp only[eta_GSignature]at hpre hK
 have hnB:HB H Bd→n<Bd:=fun h=>hb_in h hb0
 obtain⟨G,rfl,gn,gE,gH⟩:=out1 hb0
 rw[gE]at hK
 refine fn_can pok ((((Env.base _).add 215 _ W215_ok).add 226 _ W226_ok).add 291 _ L291_ok) [(8,[],[],(.k 6 (.grp false 33 37 4 [34,35,36,37] 38 none (.k 4 .nil) (.k 3 .nil))))] G [] (lst (eqR s (rest,fd)).1) [(n,⟨[lst (eqR s (rest,fd)).2.1, .bool (eqR s (rest,fd)).2.2],true⟩)] hK (lst_unk _) (gH Bd) Tryz.func216 rfl (rs:=[.tmp 4]) rfl Tryz.ntmps216 (by simp) Tryz.call216 (by kernel_rfl) (fun hh hb ha=> ?_)
 have hn:=hnB hh
 skip
 clear hK gE gH hnB hb0 hx
 refine jH pok fun cv=> ?_
 obtain⟨h1,h2,h3⟩:=hpre
 have hone:=vN (rest,fd)
 have hcl:=vK (rest,fd) 1
 refine S h3 ?_
 refine kB (X:=Nat×List GEquation×List UInt8×Bool) hb (by omega) 1 [.s 5] rfl (fun x=>(x.1:Int)≤yI (rest,fd)∧x.2.1.length≤x.1∧x.2.2.1.length≤1000000∧smE x.2.1∧eqJ s (rest,fd)=eqI s ((yI (rest,fd)).toNat-x.1) x.2.2 x.2.1) (fun x=>(yI (rest,fd)).toNat-x.1) (fun Nx x=>[(0, .pointer (some ⟨n,0,none⟩)),(3, .pointer (some ⟨Bd,0,none⟩)),(5, .slice (some ⟨Nx,0,some 2⟩) x.2.1.length (x.2.1.length+1)),(9, .int .i64 (yI (rest,fd))),(10, .int .i64 x.1)]) (fun Nx x=>[(n,⟨[lst x.2.2.1, .bool x.2.2.2],true⟩),(Bd,⟨[lst s.symbols],true⟩),(Nx,⟨qQ x.2.1,true⟩)]) (0,[],tkS (rest,fd) 1) (⟨hone.1,Nat.zero_le _,Nat.le_trans hcl h3,(fun e he=>by cases he),rfl⟩) (fun Nx hNx=>(cant)) ?_
 intro Nx x hNx hIx hbx Fx hFx
 simp only[mem_cons,jK]at hbx ⊢
 refine cv (by kernel_rfl) ?_
 obtain⟨i,out,rest2,f2⟩:=x
 obtain⟨i1,i2,i3,i5,i4⟩:=hIx
 simp only at i1 i2 i3 i4 i5
 obtain⟨s1,s2⟩:=smE_sm i5 (by omega)
 by_cases hgo:(i:Int)<yI (rest,fd)∧f2=false
 ·obtain⟨hlt,rfl⟩:=hgo
  have hst:(yI (rest,fd)).toNat-i=((yI (rest,fd)).toNat-(i+1))+1:=by omega
  rw[hst,eqI,if_neg (by simp)]at i4
  obtain⟨a1,a2,a3⟩:=trT_le s (rest2,false)
  obtain⟨b1,b2,b3⟩:=trT_le s (trT s (rest2,false)).2
  have hl1:(trT s (rest2,false)).2.1.length≤1000000:=Nat.le_trans a1 i3
  refine SA (cj hlt (cj h1 (cj h2 hl1))) ?_
  refine hFx (i+1,out++[⟨(trT s (rest2,false)).1,(trT s (trT s (rest2,false)).2).1⟩],(trT s (trT s (rest2,false)).2).2) _ _ _ ?_ ?_ (by simp only[go_sem,push_cast,qB,qA]) ((canf enc_GEquation))
  ·show(yI (rest,fd)).toNat-(i+1)<(yI (rest,fd)).toNat-i
   omega
  ·exact⟨show((i+1:Nat):Int)≤_ by omega,by simp;omega,Nat.le_trans b1 hl1,smE_app i5,i4⟩
 ·have hend:eqJ s (rest,fd)=(out,(rest2,f2)):=by
   rw[i4]
   cases f2 with
   |true=>exact eqI_fail
   |false=>rw[show(yI (rest,fd)).toNat-i=0 by have h9:¬(i:Int)<yI (rest,fd):=fun h=>hgo ⟨h,rfl⟩;omega];rfl
  have hE:=eqR_of hend
  rw[hE]
  cases f2 with
  |true=>
   by_cases hlt:(i:Int)<yI (rest,fd)
   ·refine S hlt ?_
    refine cv (by kernel_rfl) ?_
    refine S0 ?_
    exact rq_pubI (by simp (disch:=first|assumption|omega) only[go_sem,push_cast,qB,qA] <;>rfl) rfl (by simp (disch:=first|assumption|omega) only[go_sem,push_cast,qB,qA,qC,qE hb] <;>omega) rfl
   ·refine S hlt ?_
    refine cv (by kernel_rfl) ?_
    refine S0 ?_
    exact rq_pubI (by simp (disch:=first|assumption|omega) only[go_sem,push_cast,qB,qA] <;>rfl) rfl (by simp (disch:=first|assumption|omega) only[go_sem,push_cast,qB,qA,qC,qE hb] <;>omega) rfl
  |false=>
   have hlt:¬(i:Int)<yI (rest,fd):=fun h=>hgo ⟨h,rfl⟩
   refine S hlt ?_
   refine cv (by kernel_rfl) ?_
   refine S (cj h1 (cj s1 s2)) ?_
   refine⟨?_,by simp⟩
   exact rq_pubI (by simp (disch:=first|assumption|omega) only[go_sem,push_cast,qB,qA] <;>rfl) rfl (by simp (disch:=first|assumption|omega) only[go_sem,push_cast,qB,qA,qC,qE hb] <;>omega) rfl
def V279:qJ:=fun args H Bd K=>∃(n:Int) (s:GSignature),args=[.int .i64 n, .agg (enc s).toArray]∧((sm s∧R64 n)∧K (.bool (!isSym s n)) H Bd)
def W279:qJ:=fun args H Bd K=>∃(vn ps:Value),args=[vn,ps]∧Yld (qK H 1 ps) fun cs=>qS V279 [vn, .agg cs.toArray] H Bd K
theorem W279_ok:OK 279 W279:=by
 rintro args H Bd K ⟨vn,ps,rfl,cs,es,h⟩
 obtain⟨n,s,e,hpre,hK⟩:=h
 simp only[List.cons.injEq,and_true]at e
 obtain⟨rfl,Es⟩:=e
 obtain rfl:=qZ Es
 refine fnp pok ((Env.base _).add 280 _ W280_ok) [] hK Tryz.func279 Tryz.ntmps279 Tryz.call279 [.tmp 3] fun hb ha=> ?_
 have Ps:=qO es (NB.vpok (ha ps (by simp)))
 simp only[qP]at Ps
 have Zs:=Ps.all 1 rfl
 have Ys:=jJ (ha ps (by simp))
 exact R (cj Zs hpre) trivial
def V270_279:qJ:=fun args H Bd K=>∃(xs:List Int) (s:GSignature),args=[lst xs, .agg (enc s).toArray]∧((sm xs∧∀n∈xs,sm s∧R64 n)∧K (.bool (xs.any (fun n:Int=> !isSym s n))) H Bd)
@[go_sem ↓] theorem V270_279_eq (xs:List Int) (s_symbols:List GSymbol):V270_279 [lst xs, .agg #[lst s_symbols]] H Bd K=((sm xs∧∀n∈xs,sm (GSignature.mk s_symbols)∧R64 n)∧K (.bool (xs.any (fun n:Int=> !isSym (GSignature.mk s_symbols) n))) H Bd):=ex2 xs (GSignature.mk s_symbols) rfl
def W270_279:qJ:=fun args H Bd K=>∃(vxs ps:Value),args=[vxs, .func (.func 279) #[] #[ps]]∧Yld (qK H 1 ps) fun cs=>qS V270_279 [vxs, .agg cs.toArray] H Bd K
@[go_sem ↓] theorem W270_279_eq (vxs ps:Value):W270_279 [vxs, .func (.func 279) #[] #[ps]] H Bd K=(Yld (qK H 1 ps) fun cs=>qS V270_279 (idS [vxs, .agg cs.toArray]) H Bd K):=by
 refine propext ⟨fun h=> ?_,fun h=>⟨_,_,rfl,h⟩⟩
 obtain⟨vxs',ps',e,h⟩:=h
 simp only[List.cons.injEq,Value.func.injEq,jE,List.cons.injEq,and_true,true_and]at e
 obtain⟨rfl,rfl⟩:=e
 exact h
theorem W270_279_ok:OK 270 W270_279:=by
 rintro args H Bd K ⟨vxs,ps,rfl,cs,es,h⟩
 obtain⟨xs,s,e,hpre,hK⟩:=h
 simp only[List.cons.injEq,and_true]at e
 obtain⟨rfl,Es⟩:=e
 obtain rfl:=qZ Es
 refine G270 279 #[ps] (fun n:Int=> !isSym s n) xs H Bd K hpre.1 (fun x hx B hB K' hk=> ?_) hK
 exact W279_ok _ _ _ _ ⟨_,_,rfl,_,es,x,s,rfl,hpre.2 x hx,hk⟩
def W207:qJ:=fun args H Bd K=>∃(s:GSignature) (order:List Int),args=[.agg (enc s).toArray,lst order]∧((sm s∧sm order∧rg order)∧K (.int .i64 (ordF s order)) H Bd)
@[go_sem ↓] theorem W207_eq (s_symbols:List GSymbol) (order:List Int):W207 [.agg #[lst s_symbols],lst order] H Bd K=((sm (GSignature.mk s_symbols)∧sm order∧rg order)∧K (.int .i64 (ordF (GSignature.mk s_symbols) order)) H Bd):=ex2 (GSignature.mk s_symbols) order rfl
set_option maxHeartbeats 2000000 in
theorem W207_ok:OK 207 W207:=by
 rintro args H Bd K ⟨s,order,rfl,hpre,hK⟩
 refine fnp pok ((((Env.base _).add 76 _ W76_ok).add 270 _ W270_279_ok).add 121 _ W121_ok) [] hK Tryz.func207 Tryz.ntmps207 Tryz.call207 [.tmp 4] fun hb ha=> ?_
 refine jH pok fun cv=> ?_
 obtain⟨h1,h2,h3⟩:=hpre
 have hss:sm s:=h1
 simp only[yL]at h1
 have hlen:=qY h1
 have hlen2:=qY h2
 refine R (cj hss h2) ?_
 refine⟨fun g1=>⟨fun g2=>⟨fun n hn=>h3 n hn,fun g3=> ?_,fun g3=> ?_⟩,fun g2=> ?_⟩,fun g1=> ?_⟩
 ·unfold ordF ordG;rw[if_neg (by simp[g1]),if_neg (by omega),if_pos g3]
 ·have hs:ordF s order=if order.Nodup then 0 else 6:=by unfold ordF ordG;rw[if_neg (by simp[g1]),if_neg (by omega),if_neg g3]
  rw[hs]
  refine jB (fun j=>∀a b x y,b<a→a<j→order[a]? =some x→order[b]? =some y→x≠y) (order.length) (fun j=>[(1,lst order),(22,lst order),(23, .int .i64 order.length),(24, .int .i64 j)]) (by simp) (by simp only[go_sem,push_cast,qB,qA]) ?_
  intro j Bj hIj hij hBj
  refine cv (by kernel_rfl) ?_
  rcases Nat.lt_or_ge j (order.length)with hltj|hgej
  ·have e1:order[j]? =some order[j]:=List.getElem?_eq_getElem hltj
   have h4:sm (order.take j):=sm_take h2 j
   refine R (cj e1 h4) ?_
   refine⟨fun h=> ?_,fun h=> ?_⟩
   ·obtain⟨x,hx,he⟩:=List.any_eq_true.1 h
    obtain⟨k,hk,rfl⟩:=List.getElem_of_mem hx
    have hk':k<j:=by simp at hk;omega
    rw[if_neg (nodup_not hk' hltj (by simpa using he))]
   ·intro a b x y g4 g5 g6 g7
    by_cases e:a=j
    ·subst e
     rw[e1]at g6;cases g6
     intro e
     refine h (List.any_eq_true.2 ⟨y,?_,by simpa using e⟩)
     exact List.mem_of_getElem? (i:=b) (by rw[List.getElem?_take,if_pos g4];exact g7)
    ·exact hIj a b x y g4 (by omega) g6 g7
  ·refine R0 ?_
   refine cv (by kernel_rfl) ?_
   refine R0 ?_
   rw[if_pos (nodup_of fun i j x y h1 h2 h3=>hIj i j x y h1 (by have:=(List.getElem?_eq_some_iff.1 h2).1;omega) h2 h3)]
 ·unfold ordF ordG;rw[if_neg (by simp[g1]),if_pos (by omega)]
 ·unfold ordF;rw[if_pos g1]
theorem G375(g:Nat)(caps:Array Value)(p:GEquation→Bool)(xs:List GEquation)(H:AH)(Bd:Nat)(K:Value→AH→Nat→Prop)(hsm:sm xs)(hg:∀x∈xs,∀B,Bd≤B→∀K':Value→AH→Nat→Prop,K' (.bool (p x)) H B→SCalls Tryz.prog g (idS ((.agg (enc (x)).toArray)::caps.toList)) H B K')(hK:K (.int .i64 (fidx p xs)) H Bd):SCalls Tryz.prog 375 [lst xs, .func (.func g) #[] caps] H Bd K:=by
 refine yE pok (Env.base _) [] _ hK Tryz.func375 rfl (rs:=[.tmp 4]) rfl Tryz.ntmps375 (by simp) Tryz.call375 (by kernel_rfl) (fun ha hb=> .int _ _) (fun hb ha=> ?_)
 refine jH pok fun cv=> ?_
 have hlen:=qY hsm
 refine R0 ?_
 refine jB (fun i=>∀j,j<i→∀x,xs[j]? =some x→p x=false) (xs.length) (fun i=>[(0,lst xs),(1, .func (.func g) #[] caps),(7, .int .i64 xs.length),(8, .int .i64 i)]) (by simp) (by simp only[go_sem,push_cast,qB,qA]) ?_
 intro i Bi hIi hii hBi
 refine cv (by kernel_rfl) ?_
 rcases Nat.lt_or_ge i (xs.length)with hlti|hgei
 ·have e1:xs[i]? =some xs[i]:=List.getElem?_eq_getElem hlti
  refine R e1 ?_
  refine hg _ (List.getElem_mem hlti) _ (by omega) _ ?_
  refine R e1 ?_
  exact⟨fun h=>by rw[vU hlti hIi h],fun h=>fun j hj x hx=>by
   by_cases e:j=i
   ·subst e;rw[e1]at hx;cases hx;simpa using h
   ·exact hIi j (by omega) x hx⟩
 ·refine R0 ?_
  refine cv (by kernel_rfl) ?_
  refine R0 ?_
  rw[vR fun j hj x hx=>hIi j (by omega) x hx]
theorem G354(g:Nat)(caps:Array Value)(p:GEquation→Bool)(xs:List GEquation)(H:AH)(Bd:Nat)(K:Value→AH→Nat→Prop)(hsm:sm xs)(hg:∀x∈xs,∀B,Bd≤B→∀K':Value→AH→Nat→Prop,K' (.bool (p x)) H B→SCalls Tryz.prog g (idS ((.agg (enc (x)).toArray)::caps.toList)) H B K')(hK:K (.bool (xs.any p)) H Bd):SCalls Tryz.prog 354 [lst xs, .func (.func g) #[] caps] H Bd K:=by
 refine yE pok (Env.base _) [] _ hK Tryz.func354 rfl (rs:=[.tmp 4]) rfl Tryz.ntmps354 (by simp) Tryz.call354 (by kernel_rfl) (fun ha hb=> .bool _) (fun hb ha=> ?_)
 refine R0 ?_
 refine G375 _ _ p xs _ _ _ hsm hg ?_
 refine R0 ?_
 exact fidx_ge p xs
def V376:qJ:=fun args H Bd K=>∃(v:Int) (l:List Int),args=[.int .i64 v, .agg (enc l).toArray]∧((sm l)∧K (.bool (!l.any fun x=>decide (v=x))) H Bd)
def W376:qJ:=fun args H Bd K=>∃(vv pl:Value),args=[vv,pl]∧Yld (qK H 1 pl) fun cl=>qS V376 [vv, .agg cl.toArray] H Bd K
theorem W376_ok:OK 376 W376:=by
 rintro args H Bd K ⟨vv,pl,rfl,cl,el,h⟩
 obtain⟨v,l,e,hpre,hK⟩:=h
 simp only[List.cons.injEq,and_true]at e
 obtain⟨rfl,El⟩:=e
 obtain rfl:=qZ El
 refine fnp pok ((Env.base _).add 121 _ W121_ok) [] hK Tryz.func376 Tryz.ntmps376 Tryz.call376 [.tmp 3] fun hb ha=> ?_
 have Pl:=qO el (NB.vpok (ha pl (by simp)))
 simp only[jS,jX,jI,jL,jD]at Pl
 have Zl:=Pl.all 1 rfl
 have Yl:=jJ (ha pl (by simp))
 exact R (cj Zl hpre) trivial
def V270_376:qJ:=fun args H Bd K=>∃(xs:List Int) (l:List Int),args=[lst xs, .agg (enc l).toArray]∧((sm xs∧∀v∈xs,sm l)∧K (.bool (xs.any (fun v:Int=> !l.any fun x=>decide (v=x)))) H Bd)
@[go_sem ↓] theorem V270_376_eq (xs:List Int) (l:List Int):V270_376 [lst xs, .agg #[lst l]] H Bd K=((sm xs∧∀v∈xs,sm l)∧K (.bool (xs.any (fun v:Int=> !l.any fun x=>decide (v=x)))) H Bd):=ex2 xs l rfl
def W270_376:qJ:=fun args H Bd K=>∃(vxs pl:Value),args=[vxs, .func (.func 376) #[] #[pl]]∧Yld (qK H 1 pl) fun cl=>qS V270_376 [vxs, .agg cl.toArray] H Bd K
@[go_sem ↓] theorem W270_376_eq (vxs pl:Value):W270_376 [vxs, .func (.func 376) #[] #[pl]] H Bd K=(Yld (qK H 1 pl) fun cl=>qS V270_376 (idS [vxs, .agg cl.toArray]) H Bd K):=by
 refine propext ⟨fun h=> ?_,fun h=>⟨_,_,rfl,h⟩⟩
 obtain⟨vxs',pl',e,h⟩:=h
 simp only[List.cons.injEq,Value.func.injEq,jE,List.cons.injEq,and_true,true_and]at e
 obtain⟨rfl,rfl⟩:=e
 exact h
theorem W270_376_ok:OK 270 W270_376:=by
 rintro args H Bd K ⟨vxs,pl,rfl,cl,el,h⟩
 obtain⟨xs,l,e,hpre,hK⟩:=h
 simp only[List.cons.injEq,and_true]at e
 obtain⟨rfl,El⟩:=e
 obtain rfl:=qZ El
 refine G270 376 #[pl] (fun v:Int=> !l.any fun x=>decide (v=x)) xs H Bd K hpre.1 (fun x hx B hB K' hk=> ?_) hK
 exact W376_ok _ _ _ _ ⟨_,_,rfl,_,el,x,l,rfl,hpre.2 x hx,hk⟩
def W356:qJ:=fun args H Bd K=>∃(e:GEquation),args=[.agg (enc e).toArray]∧((sm e∧e.left.length≤24∧e.right.length≤24∧vQ e.left∧vQ e.right∧1≤e.left.length)∧K (.bool (ruleOK e)) H Bd)
@[go_sem ↓] theorem W356_eq (e_left:List Int) (e_right:List Int):W356 [.agg #[lst e_left,lst e_right]] H Bd K=((sm (GEquation.mk e_left e_right)∧(GEquation.mk e_left e_right).left.length≤24∧(GEquation.mk e_left e_right).right.length≤24∧vQ (GEquation.mk e_left e_right).left∧vQ (GEquation.mk e_left e_right).right∧1≤(GEquation.mk e_left e_right).left.length)∧K (.bool (ruleOK (GEquation.mk e_left e_right))) H Bd):=ex1 (GEquation.mk e_left e_right) rfl
theorem W356_ok:OK 356 W356:=by
 rintro args H Bd K ⟨e,rfl,hpre,hK⟩
 refine fnp pok (((Env.base _).add 282 _ W282_ok).add 270 _ W270_376_ok) [] hK Tryz.func356 Tryz.ntmps356 Tryz.call356 [.tmp 2] fun hb ha=> ?_
 obtain⟨h1,h2,h3,h4,h5,h6⟩:=hpre
 simp only[vY]at h1
 have h7:=h1.1
 have h8:=h1.2
 have e2:e.left[0]? =some (e.left[0]'(by omega)):=List.getElem?_eq_getElem _
 refine R (cj e2 (cj h7 (cj h8 (cj h4 h5)))) ?_
 have e3:e.left.headD 0=e.left[0]'(by omega):=headD_get h6
 have hone:∀t:List Int,t.length≤24→vQ t→∀x∈[t],x.length≤24∧vQ x:=fun t a b x hx=>by rw[List.mem_singleton.1 hx];exact⟨a,b⟩
 refine⟨fun h=> ?_,fun h=>⟨⟨sm_one h7,hone _ h2 h4⟩,⟨sm_one h8,hone _ h3 h5⟩,⟨sm_uniq (by simp) fun t ht=>(hone _ h3 h5 t ht).1,fun v _=>sm_uniq (by simp) fun t ht=>(hone _ h2 h4 t ht).1⟩,?_⟩⟩
 ·unfold ruleOK
  rw[e3,decide_eq_false (by omega)];rfl
 ·rw[vars_rule]
  unfold ruleOK
  rw[e3,decide_eq_true (by omega)];rfl
def W355:qJ:=fun args H Bd K=>∃(e:GEquation),args=[.agg (enc e).toArray]∧((sm e∧e.left.length≤24∧e.right.length≤24∧vQ e.left∧vQ e.right∧1≤e.left.length)∧K (.bool (!ruleOK e)) H Bd)
theorem W355_ok:OK 355 W355:=by
 rintro args H Bd K ⟨e,rfl,hpre,hK⟩
 refine fnp pok ((Env.base _).add 356 _ W356_ok) [] hK Tryz.func355 Tryz.ntmps355 Tryz.call355 [.tmp 2] fun hb ha=> ?_
 exact R hpre trivial
def V354_355:qJ:=fun args H Bd K=>∃(xs:List GEquation),args=[lst xs]∧((sm xs∧∀e∈xs,sm e∧e.left.length≤24∧e.right.length≤24∧vQ e.left∧vQ e.right∧1≤e.left.length)∧K (.bool (xs.any (fun e:GEquation=> !ruleOK e))) H Bd)
@[go_sem ↓] theorem V354_355_eq (xs:List GEquation):V354_355 [lst xs] H Bd K=((sm xs∧∀e∈xs,sm e∧e.left.length≤24∧e.right.length≤24∧vQ e.left∧vQ e.right∧1≤e.left.length)∧K (.bool (xs.any (fun e:GEquation=> !ruleOK e))) H Bd):=ex1 xs rfl
def W354_355:qJ:=fun args H Bd K=>∃(vxs:Value),args=[vxs, .func (.func 355) #[] #[]]∧qS V354_355 [vxs] H Bd K
@[go_sem ↓] theorem W354_355_eq (vxs:Value):W354_355 [vxs, .func (.func 355) #[] #[]] H Bd K=(qS V354_355 (idS [vxs]) H Bd K):=by
 refine propext ⟨fun h=> ?_,fun h=>⟨_,rfl,h⟩⟩
 obtain⟨vxs',e,h⟩:=h
 simp only[List.cons.injEq,Value.func.injEq,jE,List.cons.injEq,and_true,true_and]at e
 obtain rfl:=e
 exact h
theorem W354_355_ok:OK 354 W354_355:=by
 rintro args H Bd K ⟨vxs,rfl,h⟩
 obtain⟨xs,e,hpre,hK⟩:=h
 simp only[List.cons.injEq,and_true]at e
 obtain rfl:=e
 refine G354 355 #[] (fun e:GEquation=> !ruleOK e) xs H Bd K hpre.1 (fun x hx B hB K' hk=> ?_) hK
 exact W355_ok _ _ _ _ ⟨x,rfl,hpre.2 x hx,hk⟩
def W327:qJ:=fun args H Bd K=>∃(s:GSignature) (l:List GEquation),args=[.agg (enc s).toArray,lst l]∧((sm s∧sm l∧rg l)∧K (.int .i64 (rulesF s l)) H Bd)
@[go_sem ↓] theorem W327_eq (s_symbols:List GSymbol) (l:List GEquation):W327 [.agg #[lst s_symbols],lst l] H Bd K=((sm (GSignature.mk s_symbols)∧sm l∧rg l)∧K (.int .i64 (rulesF (GSignature.mk s_symbols) l)) H Bd):=ex2 (GSignature.mk s_symbols) l rfl
theorem W327_ok:OK 327 W327:=by
 rintro args H Bd K ⟨s,l,rfl,hpre,hK⟩
 refine fnp pok (((Env.base _).add 291 _ W291_ok).add 354 _ W354_355_ok) [] hK Tryz.func327 Tryz.ntmps327 Tryz.call327 [.tmp 4] fun hb ha=> ?_
 obtain⟨h1,h2,h3⟩:=hpre
 refine R (cj h1 (cj h2 h3)) ?_
 by_cases g0:yK s=0
 ·have hs:=yW g0
  have v1:eqsF s l=eqsG s l:=by unfold eqsF;rw[if_neg (by simp[g0])]
  have v2:rulesF s l=vC s l:=by unfold rulesF;rw[if_neg (by simp[g0])]
  rw[v1,v2]
  refine⟨fun h=>⟨fun e he=> ?_,fun a=> ?_,fun a=> ?_⟩,fun h=> ?_⟩
  ·have h4:=zG ((eqsG_zero h).2 e he)
   have o1:=term_small hs h4.1
   have o2:=term_small hs h4.2.1
   exact⟨kC h2 he,o1.1,o2.1,o1.2,o2.2,h4.1.len.1⟩
  ·unfold vC
   rw[if_neg (by simp[h]),if_neg]
   intro hc
   rw[←any_not,a]at hc;cases hc
  ·unfold vC
   rw[if_neg (by simp[h]),if_pos]
   rw[←any_not]
   cases q:(l.any fun e=> !ruleOK e) <;>simp[q]at a ⊢
  ·unfold vC;rw[if_pos h]
 ·have v1:eqsF s l=yK s:=by unfold eqsF;rw[if_pos g0]
  have v2:rulesF s l=yK s:=by unfold rulesF;rw[if_pos g0]
  rw[v1,v2]
  exact⟨fun h=>absurd h g0,fun _=>rfl⟩
def W388:qJ:=fun args H Bd K=>∃(s:GSignature) (t:List Int) (a:Int),args=[.agg (enc s).toArray,lst t, .int .i64 a]∧((sm s∧sm t∧yK s=0∧nodes s t∧0≤a∧a<t.length∧0≤ep s t 1 a.toNat)∧K (lst (subT s t a.toNat)) H Bd)
@[go_sem ↓] theorem W388_eq (s_symbols:List GSymbol) (t:List Int) (a:Int):W388 [.agg #[lst s_symbols],lst t, .int .i64 a] H Bd K=((sm (GSignature.mk s_symbols)∧sm t∧yK (GSignature.mk s_symbols)=0∧nodes (GSignature.mk s_symbols) t∧0≤a∧a<t.length∧0≤ep (GSignature.mk s_symbols) t 1 a.toNat)∧K (lst (subT (GSignature.mk s_symbols) t a.toNat)) H Bd):=ex3 (GSignature.mk s_symbols) t a rfl
theorem W388_ok:OK 388 W388:=by
 rintro args H Bd K ⟨s,t,a,rfl,hpre,hK⟩
 refine fnp pok ((Env.base _).add 273 _ W273_ok) [] hK Tryz.func388 Tryz.ntmps388 Tryz.call388 [.tmp 6] fun hb ha=> ?_
 obtain⟨h1,h2,h3,h4,h5,h6,h7⟩:=hpre
 obtain⟨a,rfl⟩:=Int.eq_ofNat_of_zero_le h5
 simp only[Int.toNat_natCast]at h7
 have hlt2:=qY h2
 rcases ep_cases (s:=s) (t:=t) 1 (show a≤t.length by omega)with⟨q1,_⟩|⟨m,q1,q2,q3,_⟩
 ·omega
 have hif:(if ep s t 1 a<0 then(t.length:Int)+1 else ep s t 1 a)=(a+m:Nat):=by rw[if_neg (by omega),q3]
 refine R (cj h1 (cj h2 (cj h3 (cj h4 hif)))) ?_
 have c1:((a:Int)+m).toNat=a+m:=by omega
 have d1:subT s t a=(t.take (a+m)).drop a:=by unfold subT;rw[q3,Int.toNat_natCast,List.drop_take]
 rw[c1,d1]
 exact .same _
def W274:qJ:=fun args H Bd K=>∃(s:GSignature) (t:List Int) (a:Int),args=[.agg (enc s).toArray,lst t, .int .i64 a]∧((sm s∧sm t∧yK s=0∧nodes s t∧0≤a∧a<t.length∧0≤ep s t 1 a.toNat)∧K (lst (argsP s t a.toNat (arN s (t.getD a.toNat 0)))) H Bd)
@[go_sem ↓] theorem W274_eq (s_symbols:List GSymbol) (t:List Int) (a:Int):W274 [.agg #[lst s_symbols],lst t, .int .i64 a] H Bd K=((sm (GSignature.mk s_symbols)∧sm t∧yK (GSignature.mk s_symbols)=0∧nodes (GSignature.mk s_symbols) t∧0≤a∧a<t.length∧0≤ep (GSignature.mk s_symbols) t 1 a.toNat)∧K (lst (argsP (GSignature.mk s_symbols) t a.toNat (arN (GSignature.mk s_symbols) (t.getD a.toNat 0)))) H Bd):=ex3 (GSignature.mk s_symbols) t a rfl
set_option maxHeartbeats 2000000 in
theorem W274_ok:OK 274 W274:=by
 rintro args H Bd K ⟨s,t,a,rfl,hpre,hK⟩
 refine fnp pok (((Env.base _).add 296 _ W296_ok).add 273 _ W273_ok) [(3,[0,1,2,3,4,6,5],[⟨0,[],[]⟩,⟨1,[],[]⟩,⟨2,[],[]⟩,⟨3,[],[]⟩,⟨4,[],[]⟩,⟨6,[],[]⟩,⟨5,[],[]⟩], .nil)] hK Tryz.func274 Tryz.ntmps274 Tryz.call274 [.tmp 6] fun hb ha=> ?_
 refine jH pok fun cv=> ?_
 obtain⟨h1,h2,h3,h4,h5,h6,h8⟩:=hpre
 have hss:sm s:=h1
 have hlt2:=qY h2
 have hs:=yW h3
 obtain⟨a,rfl⟩:=Int.eq_ofNat_of_zero_le h5
 simp only[Int.toNat_natCast]at h8
 have hlt:a<t.length:=by omega
 have e1:t[a]? =some t[a]:=List.getElem?_eq_getElem hlt
 have e3:t.getD a 0=t[a]:=by rw[List.getD_eq_getElem?_getD,e1];rfl
 have hn:=h4 _ (List.getElem_mem hlt)
 have ha2:=arN_le hs t[a]
 rw[ep_node 0 e1,Nat.zero_add]at h8
 have hn2:=hn.2
 refine R (cj e1 (cj e3 (cj hss (cj h3 hn2)))) ?_
 refine tr_acc (α:=Int) (H0:=upd H Bd (some ⟨[lst s.symbols],true⟩)) (B0:=Bd+1) (n0:=Bd+1) (arN s t[a]) (fun i=>argsP s t a i) (fun i out=>[(1,lst t),(3, .pointer (some ⟨Bd,0,none⟩)),(7,out),(8, .int .i64 (ep s t i (a+1))),(17, .int .i64 (arN s t[a])),(18, .int .i64 i)]) (Nat.le_refl 1) ⟨by omega,by omega⟩ (by simp only[go_sem,push_cast,qB,qA,argsP_zero,ep_zero (show a+1≤t.length by omega)]) (by simp (disch:=first|assumption|omega) only[go_sem,push_cast,qB,qA,jC,argsP_zero,ep_zero (show a+1≤t.length by omega)]) ?_
 intro i ni ci Bi hii hci hni hmi hBi hbi
 refine cv (by kernel_rfl) ?_
 have hzi:(ci=0)=False:=eq_false (by omega)
 rcases Nat.lt_or_ge i (arN s t[a])with hlti|hgei
 ·obtain⟨m,q1,q2,q3,q4,q5⟩:=arg_at hlt h8 hlti
  have hcv:((a:Int)+1+m).toNat=a+1+m:=by omega
  have hst:=argsP_succ s t a i
  rw[q3]at hst
  have hl3:=argsP_len s t a i
  have hif:(if ep s t 1 (a+1+m)<0 then(t.length:Int)+1 else ep s t 1 (a+1+m))=ep s t 1 (a+1+m):=if_neg (by omega)
  simp (maxSteps:=2000000) (disch:=first|assumption|(refine qI ?_;assumption)|exact Nat.le_add_right _ _|exact Nat.le_refl _|omega|(simp (disch:=first|exact Nat.le_add_right _ _|omega) only[qG hb,qR hb,qM,qE hb,qC];done)|fail) only[go_sem,push_cast,qB,qA,qG hb,qE hb,q3,q4,hcv,hss,h2,h3,h4,hzi,hst,hif,qL,qU]
  exact acc_end (by omega) (by omega) (by simp) rfl (by simp (disch:=first|assumption|omega|(simp (disch:=omega) only[qC,qE hb];done)) only[yF,qA,qM,qC,qE hb])
 ·refine R0 ?_
  refine Tr.fin2 7 (by simp (disch:=first|assumption|omega) only[qC,qE hb]) (by simp only[go_sem,push_cast,qB,qA];rfl) rfl ?_
  refine cv (by kernel_rfl) ?_
  rw[←show i=arN s t[a] by omega]
  exact R0 trivial
def W390:qJ:=fun args H Bd K=>∃(xs:List Int) (ys:List Int),args=[lst xs,lst ys]∧((sm xs)∧K (.bool (decide (xs=ys))) H Bd)
@[go_sem ↓] theorem W390_eq (xs:List Int) (ys:List Int):W390 [lst xs,lst ys] H Bd K=((sm xs)∧K (.bool (decide (xs=ys))) H Bd):=ex2 xs ys rfl
theorem W390_ok:OK 390 W390:=by
 rintro args H Bd K ⟨xs,ys,rfl,hpre,hK⟩
 refine fnp pok (Env.base _) [(6,[0,1,2,3,4,5,6,7,8],[⟨0,[],[]⟩,⟨1,[],[]⟩,⟨2,[],[]⟩,⟨3,[],[]⟩,⟨4,[],[]⟩,⟨5,[],[]⟩,⟨6,[],[]⟩,⟨7,[],[]⟩,⟨8,[],[]⟩], .nil)] hK Tryz.func390 Tryz.ntmps390 Tryz.call390 [.tmp 4] fun hb ha=> ?_
 refine jH pok fun cv=> ?_
 have hlen:=qY hpre
 simp (maxSteps:=2000000) (disch:=first|assumption|(refine qI ?_;assumption)|exact Nat.le_add_right _ _|exact Nat.le_refl _|omega|(simp (disch:=first|exact Nat.le_add_right _ _|omega) only[qG hb,qR hb,qM,qE hb,qC];done)|fail) only[go_sem,push_cast,qB,qA,qG hb,qE hb]
 refine Cnp.of (fun hl=> ?_) (fun hl=>cmp_len (by omega))
 have hl':xs.length=ys.length:=by omega
 refine jB (fun i=>∀j,j<i→xs[j]? =ys[j]?) xs.length (fun i=>[(0,lst xs),(1,lst ys),(12, .int .i64 xs.length),(13, .int .i64 i)]) (fun j h=>by omega) (by simp only[go_sem,push_cast,qB,qA]) ?_
 intro i B0 hI hi hB
 refine cv (by kernel_rfl) ?_
 rcases Nat.lt_or_ge i xs.length with hlt|hge
 ·have e1:xs[i]? =some xs[i]:=List.getElem?_eq_getElem hlt
  have e2:ys[i]? =some (ys[i]'(by omega)):=List.getElem?_eq_getElem _
  have hx:=kC hpre (List.getElem_mem hlt)
  simp (maxSteps:=2000000) (disch:=first|assumption|(refine qI ?_;assumption)|exact Nat.le_add_right _ _|exact Nat.le_refl _|omega|(simp (disch:=first|exact Nat.le_add_right _ _|omega) only[qG hb,qR hb,qM,qE hb,qC];done)|fail) only[go_sem,push_cast,qB,qA,qG hb,qE hb,e1,e2,hx]
  exact cmp_step hl' hI hlt (by omega) rfl fun h=>h
 ·simp (maxSteps:=2000000) (disch:=first|assumption|(refine qI ?_;assumption)|exact Nat.le_add_right _ _|exact Nat.le_refl _|omega|(simp (disch:=first|exact Nat.le_add_right _ _|omega) only[qG hb,qR hb,qM,qE hb,qC];done)|fail) only[go_sem,push_cast,qB,qA,qG hb,qE hb]
  refine cv (by kernel_rfl) ?_
  simp (maxSteps:=2000000) (disch:=first|assumption|(refine qI ?_;assumption)|exact Nat.le_add_right _ _|exact Nat.le_refl _|omega|(simp (disch:=first|exact Nat.le_add_right _ _|omega) only[qG hb,qR hb,qM,qE hb,qC];done)|fail) only[go_sem,push_cast,qB,qA,qG hb,qE hb]
  exact cmp_end hl' hI hge
def V389:qJ:=fun args H Bd K=>∃(c:GComparer) (i:Int) (k:Int),args=[.agg (enc c).toArray, .int .i64 i, .int .i64 k]∧((CmpOK c∧0≤i∧i<c.a.length∧0≤k∧k<c.b.length)∧K (.bool (decide (subT c.s c.a i.toNat=subT c.s c.b k.toNat))) H Bd)
@[go_sem ↓] theorem V389_eq (c_s_symbols:List GSymbol) (c_order:List Int) (c_a:List Int) (c_b:List Int) (c_known_rows:Array Value) (i:Int) (k:Int):V389 [.agg #[lst c_s_symbols,lst c_order,lst c_a,lst c_b, .func (.methodOf 0 "") #[] c_known_rows], .int .i64 i, .int .i64 k] H Bd K=((CmpOK (GComparer.mk (GSignature.mk c_s_symbols) c_order c_a c_b (Memo.mk c_known_rows))∧0≤i∧i<(GComparer.mk (GSignature.mk c_s_symbols) c_order c_a c_b (Memo.mk c_known_rows)).a.length∧0≤k∧k<(GComparer.mk (GSignature.mk c_s_symbols) c_order c_a c_b (Memo.mk c_known_rows)).b.length)∧K (.bool (decide (subT (GComparer.mk (GSignature.mk c_s_symbols) c_order c_a c_b (Memo.mk c_known_rows)).s (GComparer.mk (GSignature.mk c_s_symbols) c_order c_a c_b (Memo.mk c_known_rows)).a i.toNat=subT (GComparer.mk (GSignature.mk c_s_symbols) c_order c_a c_b (Memo.mk c_known_rows)).s (GComparer.mk (GSignature.mk c_s_symbols) c_order c_a c_b (Memo.mk c_known_rows)).b k.toNat))) H Bd):=ex3 (GComparer.mk (GSignature.mk c_s_symbols) c_order c_a c_b (Memo.mk c_known_rows)) i k rfl
def W389:qJ:=fun args H Bd K=>∃(pc vi vk:Value),args=[pc,vi,vk]∧Yld (qK H 5 pc) fun cc=>qS V389 [.agg cc.toArray,vi,vk] H Bd K
@[go_sem ↓] theorem W389_eq (pc vi vk:Value):W389 [pc,vi,vk] H Bd K=(Yld (qK H 5 pc) fun cc=>qS V389 (idS [.agg cc.toArray,vi,vk]) H Bd K):=by
 refine propext ⟨fun h=> ?_,fun h=>⟨_,_,_,rfl,h⟩⟩
 obtain⟨pc',vi',vk',e,h⟩:=h
 simp only[List.cons.injEq,and_true]at e
 obtain⟨rfl,rfl,rfl⟩:=e
 exact h
set_option maxHeartbeats 2000000 in
theorem W389_ok:OK 389 W389:=by
 rintro args H Bd K ⟨pc,vi,vk,rfl,cc,ec,h⟩
 obtain⟨c,i,k,e,hpre,hK⟩:=h
 simp only[List.cons.injEq,and_true]at e
 obtain⟨Ec,rfl,rfl⟩:=e
 obtain rfl:=qZ Ec
 refine fnp pok (((Env.base _).add 388 _ W388_ok).add 390 _ W390_ok) [(1,[0,1,2,3,4,5,6,7,8,10,11,12,13,14,15,16,17,18,9,19,20,21],[⟨0,[],[]⟩,⟨1,[],[]⟩,⟨2,[],[]⟩,⟨3,[],[]⟩,⟨4,[],[]⟩,⟨5,[],[]⟩,⟨6,[],[]⟩,⟨7,[],[]⟩,⟨8,[],[]⟩,⟨10,[],[]⟩,⟨11,[],[]⟩,⟨12,[],[]⟩,⟨13,[],[]⟩,⟨14,[],[]⟩,⟨15,[],[]⟩,⟨16,[],[]⟩,⟨17,[],[]⟩,⟨18,[],[]⟩,⟨9,[],[17,13]⟩,⟨19,[],[]⟩,⟨20,[],[]⟩,⟨21,[],[]⟩], .nil)] hK Tryz.func389 Tryz.ntmps389 Tryz.call389 [.tmp 6] fun hb ha=> ?_
 have Pc:=qO ec (NB.vpok (ha pc (by simp)))
 simp only[enc_GComparer,qP]at Pc
 have Zc:=Pc.all 5 rfl
 have Yc:=jJ (ha pc (by simp))
 obtain⟨hc,i1,i2,k1,k2⟩:=hpre
 have⟨h1,h2,h3,h4,h5,h6,h7,h8,h9⟩:=hc
 obtain⟨i,rfl⟩:=Int.eq_ofNat_of_zero_le i1
 obtain⟨k,rfl⟩:=Int.eq_ofNat_of_zero_le k1
 have hia:i<c.a.length:=by omega
 have hkb:k<c.b.length:=by omega
 have l1:=h7.len
 have l2:=h8.len
 have n1:=h7.nodes
 have n2:=h8.nodes
 have p1:=vB h7
 have p2:=vB h8
 have hpa:=p1 i hia
 have hpb:=p2 k hkb
 have q1:sm (subT c.s c.a i):=by unfold subT;exact sm_take (sm_drop h3 _) _
 exact R (cj Zc (cj h1 (cj h3 (cj h4 (cj h5 (cj n1 (cj n2 (cj hpa (cj hpb q1))))))))) trivial
def V377:qJ:=fun args H Bd K=>∃(c:GComparer) (i:Int) (k:Int),args=[.agg (enc c).toArray, .int .i64 i, .int .i64 k]∧((CmpOK c∧0≤i∧i<c.a.length∧0≤k∧k<c.b.length)∧K (.bool (gt c.s c.order c.a c.b i.toNat k.toNat)) H Bd)
@[go_sem ↓] theorem V377_eq (c_s_symbols:List GSymbol) (c_order:List Int) (c_a:List Int) (c_b:List Int) (c_known_rows:Array Value) (i:Int) (k:Int):V377 [.agg #[lst c_s_symbols,lst c_order,lst c_a,lst c_b, .func (.methodOf 0 "") #[] c_known_rows], .int .i64 i, .int .i64 k] H Bd K=((CmpOK (GComparer.mk (GSignature.mk c_s_symbols) c_order c_a c_b (Memo.mk c_known_rows))∧0≤i∧i<(GComparer.mk (GSignature.mk c_s_symbols) c_order c_a c_b (Memo.mk c_known_rows)).a.length∧0≤k∧k<(GComparer.mk (GSignature.mk c_s_symbols) c_order c_a c_b (Memo.mk c_known_rows)).b.length)∧K (.bool (gt (GComparer.mk (GSignature.mk c_s_symbols) c_order c_a c_b (Memo.mk c_known_rows)).s (GComparer.mk (GSignature.mk c_s_symbols) c_order c_a c_b (Memo.mk c_known_rows)).order (GComparer.mk (GSignature.mk c_s_symbols) c_order c_a c_b (Memo.mk c_known_rows)).a (GComparer.mk (GSignature.mk c_s_symbols) c_order c_a c_b (Memo.mk c_known_rows)).b i.toNat k.toNat)) H Bd):=ex3 (GComparer.mk (GSignature.mk c_s_symbols) c_order c_a c_b (Memo.mk c_known_rows)) i k rfl
def W377:qJ:=fun args H Bd K=>∃(pc vi vk:Value),args=[pc,vi,vk]∧Yld (qK H 5 pc) fun cc=>qS V377 [.agg cc.toArray,vi,vk] H Bd K
@[go_sem ↓] theorem W377_eq (pc vi vk:Value):W377 [pc,vi,vk] H Bd K=(Yld (qK H 5 pc) fun cc=>qS V377 (idS [.agg cc.toArray,vi,vk]) H Bd K):=by
 refine propext ⟨fun h=> ?_,fun h=>⟨_,_,_,rfl,h⟩⟩
 obtain⟨pc',vi',vk',e,h⟩:=h
 simp only[List.cons.injEq,and_true]at e
 obtain⟨rfl,rfl,rfl⟩:=e
 exact h
def Q377(N:Nat):qJ:=fun args H Bd K=>∃(c:GComparer) (i:Int) (k:Int),args=[.agg (enc c).toArray, .int .i64 i, .int .i64 k]∧(((CmpOK c∧0≤i∧i<c.a.length∧0≤k∧k<c.b.length)∧(c.a.length-i.toNat+(c.b.length-k.toNat))<N)∧K (.bool (gt c.s c.order c.a c.b i.toNat k.toNat)) H Bd)
@[go_sem ↓] theorem Q377_eq (N:Nat) (c_s_symbols:List GSymbol) (c_order:List Int) (c_a:List Int) (c_b:List Int) (c_known_rows:Array Value) (i:Int) (k:Int):Q377 N [.agg #[lst c_s_symbols,lst c_order,lst c_a,lst c_b, .func (.methodOf 0 "") #[] c_known_rows], .int .i64 i, .int .i64 k] H Bd K=(((CmpOK (GComparer.mk (GSignature.mk c_s_symbols) c_order c_a c_b (Memo.mk c_known_rows))∧0≤i∧i<(GComparer.mk (GSignature.mk c_s_symbols) c_order c_a c_b (Memo.mk c_known_rows)).a.length∧0≤k∧k<(GComparer.mk (GSignature.mk c_s_symbols) c_order c_a c_b (Memo.mk c_known_rows)).b.length)∧((GComparer.mk (GSignature.mk c_s_symbols) c_order c_a c_b (Memo.mk c_known_rows)).a.length-i.toNat+((GComparer.mk (GSignature.mk c_s_symbols) c_order c_a c_b (Memo.mk c_known_rows)).b.length-k.toNat))<N)∧K (.bool (gt (GComparer.mk (GSignature.mk c_s_symbols) c_order c_a c_b (Memo.mk c_known_rows)).s (GComparer.mk (GSignature.mk c_s_symbols) c_order c_a c_b (Memo.mk c_known_rows)).order (GComparer.mk (GSignature.mk c_s_symbols) c_order c_a c_b (Memo.mk c_known_rows)).a (GComparer.mk (GSignature.mk c_s_symbols) c_order c_a c_b (Memo.mk c_known_rows)).b i.toNat k.toNat)) H Bd):=ex3 (GComparer.mk (GSignature.mk c_s_symbols) c_order c_a c_b (Memo.mk c_known_rows)) i k rfl
def R377(N:Nat):qJ:=fun args H Bd K=>∃(pc vi vk:Value),args=[pc,vi,vk]∧Yld (qK H 5 pc) fun cc=>qS (Q377 N) [.agg cc.toArray,vi,vk] H Bd K
@[go_sem ↓] theorem R377_eq (N:Nat) (pc vi vk:Value):R377 N [pc,vi,vk] H Bd K=(Yld (qK H 5 pc) fun cc=>qS (Q377 N) (idS [.agg cc.toArray,vi,vk]) H Bd K):=by
 refine propext ⟨fun h=> ?_,fun h=>⟨_,_,_,rfl,h⟩⟩
 obtain⟨pc',vi',vk',e,h⟩:=h
 simp only[List.cons.injEq,and_true]at e
 obtain⟨rfl,rfl,rfl⟩:=e
 exact h
def Q386(N:Nat):qJ:=fun args H Bd K=>∃(c:GComparer) (i:Int) (k:Int),args=[.agg (enc c).toArray, .int .i64 i, .int .i64 k]∧(((CmpOK c∧0≤i∧i<c.a.length∧0≤k∧k<c.b.length)∧(c.a.length-i.toNat+(c.b.length-k.toNat))<N)∧K (.bool (gt c.s c.order c.a c.b i.toNat k.toNat)) H Bd)
@[go_sem ↓] theorem Q386_eq (N:Nat) (c_s_symbols:List GSymbol) (c_order:List Int) (c_a:List Int) (c_b:List Int) (c_known_rows:Array Value) (i:Int) (k:Int):Q386 N [.agg #[lst c_s_symbols,lst c_order,lst c_a,lst c_b, .func (.methodOf 0 "") #[] c_known_rows], .int .i64 i, .int .i64 k] H Bd K=(((CmpOK (GComparer.mk (GSignature.mk c_s_symbols) c_order c_a c_b (Memo.mk c_known_rows))∧0≤i∧i<(GComparer.mk (GSignature.mk c_s_symbols) c_order c_a c_b (Memo.mk c_known_rows)).a.length∧0≤k∧k<(GComparer.mk (GSignature.mk c_s_symbols) c_order c_a c_b (Memo.mk c_known_rows)).b.length)∧((GComparer.mk (GSignature.mk c_s_symbols) c_order c_a c_b (Memo.mk c_known_rows)).a.length-i.toNat+((GComparer.mk (GSignature.mk c_s_symbols) c_order c_a c_b (Memo.mk c_known_rows)).b.length-k.toNat))<N)∧K (.bool (gt (GComparer.mk (GSignature.mk c_s_symbols) c_order c_a c_b (Memo.mk c_known_rows)).s (GComparer.mk (GSignature.mk c_s_symbols) c_order c_a c_b (Memo.mk c_known_rows)).order (GComparer.mk (GSignature.mk c_s_symbols) c_order c_a c_b (Memo.mk c_known_rows)).a (GComparer.mk (GSignature.mk c_s_symbols) c_order c_a c_b (Memo.mk c_known_rows)).b i.toNat k.toNat)) H Bd):=ex3 (GComparer.mk (GSignature.mk c_s_symbols) c_order c_a c_b (Memo.mk c_known_rows)) i k rfl
def R386(N:Nat):qJ:=fun args H Bd K=>∃(pc vi vk:Value),args=[pc,vi,vk]∧Yld (qK H 5 pc) fun cc=>qS (Q386 N) [.agg cc.toArray,vi,vk] H Bd K
@[go_sem ↓] theorem R386_eq (N:Nat) (pc vi vk:Value):R386 N [pc,vi,vk] H Bd K=(Yld (qK H 5 pc) fun cc=>qS (Q386 N) (idS [.agg cc.toArray,vi,vk]) H Bd K):=by
 refine propext ⟨fun h=> ?_,fun h=>⟨_,_,_,rfl,h⟩⟩
 obtain⟨pc',vi',vk',e,h⟩:=h
 simp only[List.cons.injEq,and_true]at e
 obtain⟨rfl,rfl,rfl⟩:=e
 exact h
set_option maxHeartbeats 2000000 in
theorem R386_step(N:Nat)(ih:OK 377 (R377 N)):OK 386 (R386 (N+1)):=by
 rintro args H Bd K ⟨pc,vi,vk,rfl,cc,ec,h⟩
 obtain⟨c,i,k,e,hpre,hK⟩:=h
 simp only[List.cons.injEq,and_true]at e
 obtain⟨Ec,rfl,rfl⟩:=e
 obtain rfl:=qZ Ec
 refine fnp pok (((((((Env.base _).add 388 _ W388_ok).add 121 _ W121_ok).add 274 _ W274_ok).add 389 _ W389_ok).add 175 _ W175_ok).add 377 _ ih) [(1,[0,1,2,3,4,5,6,7,8,9,10,11,12,13,14,15],[⟨0,[],[]⟩,⟨1,[],[]⟩,⟨2,[],[]⟩,⟨3,[],[]⟩,⟨4,[],[]⟩,⟨5,[],[]⟩,⟨6,[],[]⟩,⟨7,[],[]⟩,⟨8,[],[]⟩,⟨9,[],[]⟩,⟨10,[],[]⟩,⟨11,[],[]⟩,⟨12,[],[]⟩,⟨13,[],[]⟩,⟨14,[],[]⟩,⟨15,[],[]⟩], .nil),(3,[0,1,2,3,4,5,6,7,8,9,10,11,13,12,14,15,16],[⟨0,[],[]⟩,⟨1,[],[]⟩,⟨2,[],[]⟩,⟨3,[],[]⟩,⟨4,[],[]⟩,⟨5,[],[]⟩,⟨6,[],[]⟩,⟨7,[],[]⟩,⟨8,[],[]⟩,⟨9,[],[]⟩,⟨10,[],[]⟩,⟨11,[],[]⟩,⟨13,[],[]⟩,⟨12,[],[]⟩,⟨14,[],[]⟩,⟨15,[],[]⟩,⟨16,[],[]⟩], .nil),(6,[0,1,2,3,4,5,6,7,8,10,11,12,13,14,15,16,17,18,9,19,20,21],[⟨0,[],[]⟩,⟨1,[],[]⟩,⟨2,[],[]⟩,⟨3,[],[]⟩,⟨4,[],[]⟩,⟨5,[],[]⟩,⟨6,[],[]⟩,⟨7,[],[]⟩,⟨8,[],[]⟩,⟨10,[],[]⟩,⟨11,[],[]⟩,⟨12,[],[]⟩,⟨13,[],[]⟩,⟨14,[],[]⟩,⟨15,[],[]⟩,⟨16,[],[]⟩,⟨17,[],[]⟩,⟨18,[],[]⟩,⟨9,[],[17,13]⟩,⟨19,[],[]⟩,⟨20,[],[]⟩,⟨21,[],[]⟩], .nil),(10,[],[],(.k 5 (.grp false 82 86 4 [83,84,85,86] 87 none (.k 4 .nil) .nil))),(13,[0,1,2,3,4,6,7,8,9,10,5,11,12,13],[⟨0,[],[]⟩,⟨1,[],[]⟩,⟨2,[],[]⟩,⟨3,[],[]⟩,⟨4,[],[]⟩,⟨6,[],[]⟩,⟨7,[],[]⟩,⟨8,[],[]⟩,⟨9,[],[]⟩,⟨10,[],[]⟩,⟨5,[],[9]⟩,⟨11,[],[]⟩,⟨12,[],[]⟩,⟨13,[],[]⟩], .nil)] hK Tryz.func386 Tryz.ntmps386 Tryz.call386 [.tmp 6] fun hb ha=> ?_
 have Pc:=qO ec (NB.vpok (ha pc (by simp)))
 simp only[enc_GComparer,qP]at Pc
 have Zc:=Pc.all 5 rfl
 have Yc:=jJ (ha pc (by simp))
 refine jH pok fun cv=> ?_
 obtain⟨⟨hc,i1,i2,k1,k2⟩,hrec⟩:=hpre
 have⟨h1,h2,h3,h4,h5,h6,h7,h8,h9⟩:=hc
 obtain⟨i,rfl⟩:=Int.eq_ofNat_of_zero_le i1
 obtain⟨k,rfl⟩:=Int.eq_ofNat_of_zero_le k1
 simp only[Int.toNat_natCast]at hrec
 have hia:i<c.a.length:=by omega
 have hkb:k<c.b.length:=by omega
 have l1:=h7.len
 have l2:=h8.len
 have n1:=h7.nodes
 have n2:=h8.nodes
 have p1:=vB h7
 have p2:=vB h8
 have hpa:=p1 i hia
 have hpb:=p2 k hkb
 have ea:c.a[i]? =some c.a[i]:=List.getElem?_eq_getElem hia
 have eb:c.b[k]? =some c.b[k]:=List.getElem?_eq_getElem hkb
 have hsub:sm (subT c.s c.a i):=by unfold subT;exact sm_take (sm_drop h3 _) _
 by_cases hy:c.b[k]<0
 ·have hv:=gt_var (order:=c.order) p1 p2 hia hkb hy
  refine R (cj Zc (cj ea (cj eb (cj hy (cj h1 (cj h3 (cj h5 (cj n1 (cj hpa hsub))))))))) ?_
  rw[hv]
  exact⟨fun h=>by simp[h],fun h=>by simp[h]⟩
 by_cases hx:c.a[i]<0
 ·have hv:=gt_low (order:=c.order) p1 p2 hia hkb hy hx
  exact R (cj Zc (cj ea (cj eb (cj hy (cj hx hv))))) trivial
 ·have ga:c.a.getD i 0=c.a[i]:=getD_at hia
  have gb:c.b.getD k 0=c.b[k]:=getD_at hkb
  have ha1:argsP c.s c.a i (arN c.s c.a[i])=args c.s c.a i:=by unfold args;rw[ga]
  have hb1:argsP c.s c.b k (arN c.s c.b[k])=args c.s c.b k:=by unfold args;rw[gb]
  have hrest:=gt_rest (order:=c.order) p1 p2 hia hkb hy hx
  have hs:=yW h5
  have ho:=ord_ok h6
  have hal:(args c.s c.a i).length≤2:=by rw[args_len];exact arN_le hs _
  have hbl:(args c.s c.b k).length≤2:=by rw[args_len];exact arN_le hs _
  have hna:=n1 _ (List.getElem_mem hia)
  have hnb:=n2 _ (List.getElem_mem hkb)
  have hxo:c.a[i]∈c.order:=ord_all ho (by omega) hna.2
  have hyo:c.b[k]∈c.order:=ord_all ho (by omega) hnb.2
  have hrk:=rk_inj hxo hyo
  have hol:=ho.len
  have hsl:=hs.len
  obtain⟨ri,hri,hr1,_⟩:=rk_mem hxo
  obtain⟨rj,hrj,hr2,_⟩:=rk_mem hyo
  have hf1:fidx (fun x=>decide (c.a[i]=x)) c.order=rk c.order c.a[i]:=rfl
  have hf2:fidx (fun x=>decide (c.b[k]=x)) c.order=rk c.order c.b[k]:=rfl
  refine R (cj Zc (cj ea (cj eb (cj hy (cj hx (cj h1 (cj h3 (cj h4 (cj h5 (cj n1 (cj n2 (cj hpa (cj hpb (cj ga (cj gb (cj ha1 hb1)))))))))))))))) ?_
  refine jB (fun x=>∀m,m<x→∀p,(args c.s c.a i)[m]? =some p→gt c.s c.order c.a c.b p.toNat k=false∧subT c.s c.a p.toNat≠subT c.s c.b k) ((args c.s c.a i).length) (fun x=>[(0,pc),(1, .int .i64 i),(2, .int .i64 k),(7, .int .i64 c.a[i]),(8, .int .i64 c.b[k]),(9,lst (args c.s c.a i)),(10,lst (args c.s c.b k)),(72,lst (args c.s c.a i)),(73, .int .i64 (args c.s c.a i).length),(74, .int .i64 x)]) (by simp) (by simp only[go_sem,push_cast,qB,qA]) ?_
  intro x Bx hIx hix hBx
  refine cv (by kernel_rfl) ?_
  rcases Nat.lt_or_ge x ((args c.s c.a i).length)with hltx|hgex
  ·obtain⟨p,e1,g1,g2⟩:=args_get p1 hia hltx
   refine R (cj Zc (cj e1 hc)) ?_
   refine⟨fun h=> ?_,fun a1 a2 m hm q hq=> ?_⟩
   ·rw[gt_arg p1 p2 hia hkb hy hx (p:=(p:Int)) (List.mem_of_getElem? e1) (by rw[Int.toNat_natCast];exact h.symm)]
   ·by_cases e:m=x
    ·subst e;rw[e1]at hq;cases hq;rw[Int.toNat_natCast];exact⟨by simpa using a2,a1⟩
    ·exact hIx m (by omega) q hq
  ·have hr:=hrest fun p hp=>by
    obtain⟨m,hm,rfl⟩:=List.getElem_of_mem hp
    exact hIx m (by omega) _ (List.getElem?_eq_getElem hm)
   refine R Zc ?_
   refine cv (by kernel_rfl) ?_
   refine R (cj Zc (cj h2 (cj hf1 hf2))) ?_
   refine⟨fun h=>by rw[hr,if_pos (by omega)],fun hge=> ?_⟩
   rw[if_neg (by omega)]at hr
   refine jB (fun y=>∀m,m<y→∀q,(args c.s c.b k)[m]? =some q→gt c.s c.order c.a c.b i q.toNat=true) ((args c.s c.b k).length) (fun y=>[(0,pc),(1, .int .i64 i),(2, .int .i64 k),(9,lst (args c.s c.a i)),(10,lst (args c.s c.b k)),(13, .int .i64 (rk c.order c.a[i]-rk c.order c.b[k])),(104,lst (args c.s c.b k)),(105, .int .i64 (args c.s c.b k).length),(106, .int .i64 y)]) (by simp) (by simp only[go_sem,push_cast,qB,qA]) ?_
   intro y By hIy hiy hBy
   refine cv (by kernel_rfl) ?_
   rcases Nat.lt_or_ge y ((args c.s c.b k).length)with hlty|hgey
   ·obtain⟨q,e1,g1,g2⟩:=args_get p2 hkb hlty
    refine R (cj Zc (cj e1 hc)) ?_
    refine⟨fun h m hm q' hq=> ?_,fun h=> ?_⟩
    ·by_cases e:m=y
     ·subst e;rw[e1]at hq;cases hq;simpa using h
     ·exact hIy m (by omega) q' hq
    ·rw[hr,if_pos (List.any_eq_true.2 ⟨_,List.mem_of_getElem? e1,by simpa using h⟩)]
   ·have hany:¬((args c.s c.b k).any fun q=> !gt c.s c.order c.a c.b i q.toNat)=true:=fun hcc=>by
     obtain⟨q,hq,h⟩:=List.any_eq_true.1 hcc
     obtain⟨m,hm,rfl⟩:=List.getElem_of_mem hq
     rw[hIy m (by omega) _ (List.getElem?_eq_getElem hm)]at h
     cases h
    rw[if_neg hany]at hr
    refine R Zc ?_
    refine cv (by kernel_rfl) ?_
    refine R Zc ?_
    refine⟨fun h=> ?_,fun hle=> ?_⟩
    ·rw[hr,if_pos (fun e=>by have:=hrk.2 e;omega)]
    have heq:c.a[i]=c.b[k]:=hrk.1 (by omega)
    rw[if_neg (by simpa using heq)]at hr
    have hll:(args c.s c.a i).length=(args c.s c.b k).length:=by rw[args_len,args_len,ga,gb,heq]
    refine jB (fun z=>∀m,m<z→∀p q:Int,(args c.s c.a i)[m]? =some p→(args c.s c.b k)[m]? =some q→subT c.s c.a p.toNat=subT c.s c.b q.toNat) ((args c.s c.a i).length) (fun z=>[(0,pc),(10,lst (args c.s c.b k)),(118,lst (args c.s c.a i)),(119, .int .i64 (args c.s c.a i).length),(120, .int .i64 z)]) (by simp) (by simp only[go_sem,push_cast,qB,qA]) ?_
    intro z Bz hIz hiz hBz
    refine cv (by kernel_rfl) ?_
    rcases Nat.lt_or_ge z ((args c.s c.a i).length)with hltz|hgez
    ·obtain⟨p,e1,g1,g2⟩:=args_get p1 hia hltz
     obtain⟨q,e2,g3,g4⟩:=args_get p2 hkb (show z<(args c.s c.b k).length by omega)
     refine R (cj Zc (cj e1 (cj e2 hc))) ?_
     refine⟨fun h m hm p' q' hp hq=> ?_,fun h=> ?_⟩
     ·by_cases e:m=z
      ·subst e;rw[e1]at hp;rw[e2]at hq;cases hp;cases hq;simpa using h
      ·exact hIz m (by omega) p' q' hp hq
     ·rw[hr,lexG_go hIz _ _ e1 e2 (by simpa using h)];simp
    ·refine R Zc ?_
     refine cv (by kernel_rfl) ?_
     refine R Zc ?_
     rw[hr,lexG_end fun m p q hp hq=>hIz m (by have:=(List.getElem?_eq_some_iff.1 hp).1;omega) p q hp hq]
set_option maxHeartbeats 2000000 in
theorem R377_step(N:Nat)(ih:OK 377 (R377 N)):OK 377 (R377 (N+1)):=by
 rintro args H Bd K ⟨pc,vi,vk,rfl,cc,ec,h⟩
 obtain⟨c,i,k,e,hpre,hK⟩:=h
 simp only[List.cons.injEq,and_true]at e
 obtain⟨Ec,rfl,rfl⟩:=e
 obtain rfl:=qZ Ec
 refine fnp pok ((Env.base _).add 386 _ (R386_step N ih)) [] hK Tryz.func377 Tryz.ntmps377 Tryz.call377 [.tmp 6] fun hb ha=> ?_
 have Pc:=qO ec (NB.vpok (ha pc (by simp)))
 simp only[enc_GComparer,qP]at Pc
 have Zc:=Pc.all 5 rfl
 have Yc:=jJ (ha pc (by simp))
 obtain⟨⟨hc,i1,i2,k1,k2⟩,hrec⟩:=hpre
 have⟨h1,h2,h3,h4,h5,h6,h7,h8,h9⟩:=hc
 obtain⟨i,rfl⟩:=Int.eq_ofNat_of_zero_le i1
 obtain⟨k,rfl⟩:=Int.eq_ofNat_of_zero_le k1
 simp only[Int.toNat_natCast]at hrec
 have hia:i<c.a.length:=by omega
 have hkb:k<c.b.length:=by omega
 have l1:=h7.len
 have l2:=h8.len
 have n1:=h7.nodes
 have n2:=h8.nodes
 have p1:=vB h7
 have p2:=vB h8
 have hpa:=p1 i hia
 have hpb:=p2 k hkb
 have hl:=fun(t:TypeId) [TyM Tryz.prog t]=>look_gt (P:=Tryz.prog) (t:=t) c.s c.order c.a c.b (show i<32 by omega) (show k<32 by omega)
 have hm:=fun(t:TypeId) [TyM Tryz.prog t]=>mset_gt (P:=Tryz.prog) (t:=t) c.s c.order c.a c.b (show i<32 by omega) (show k<32 by omega)
 rw[h9]at Pc
 have Zc:=Pc.all 5 rfl
 refine R Zc ?_
 refine tr_still pok ((Env.base _).add 386 _ (R386_step N ih)) 10 (by kernel_rfl) ?_
 refine R (cj Zc hl) ?_
 have hc2:CmpOK (GComparer.mk c.s c.order c.a c.b (Memo.mk (gtRows c.s c.order c.a c.b))):=⟨h1,h2,h3,h4,h5,h6,h7,h8,rfl⟩
 refine⟨⟨⟨hc2,k2⟩,hrec⟩,?_⟩
 refine tr_still pok ((Env.base _).add 386 _ (R386_step N ih)) 6 (by kernel_rfl) ?_
 exact R (cj Zc hm) trivial
theorem R377_zero:OK 377 (R377 0):=by
 rintro args H Bd K ⟨pc,vi,vk,rfl,cc,ec,h⟩
 obtain⟨c,i,k,e,hpre,hK⟩:=h
 exact absurd hpre.2 (Nat.not_lt_zero _)
theorem R377_ok:∀N,OK 377 (R377 N)
 |0=>R377_zero
 |N+1=>R377_step N (R377_ok N)
theorem W377_ok:OK 377 W377:=by
 rintro args H Bd K ⟨pc,vi,vk,rfl,cc,ec,h⟩
 obtain⟨c,i,k,e,hpre,hK⟩:=h
 exact R377_ok ((c.a.length-i.toNat+(c.b.length-k.toNat))+1) _ _ _ _ ⟨pc,vi,vk,rfl,cc,ec,c,i,k,e,⟨hpre,Nat.lt_succ_self _⟩,hK⟩
end Go.Proofs.YthoahlghegcfnaaGreatDoor
