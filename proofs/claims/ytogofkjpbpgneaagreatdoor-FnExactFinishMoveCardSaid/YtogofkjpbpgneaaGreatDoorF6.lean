/- YtogofkjpbpgneaaGreatDoorF6 -/
import Derived.Test.YtogofkjpbpgneaaGreatDoorF5
set_option linter.unusedSimpArgs false
set_option linter.unusedVariables false
set_option maxRecDepth 20000
set_option maxHeartbeats 4000000
namespace Go.Proofs.YtogofkjpbpgneaaGreatDoor
open Go Go.SC Tryz
variable {H:AH} {Bd:Nat} {K:Value->AH->Nat->Prop}
theorem L96_pure:PureV W96:=by
 rintro _ H Bd K ⟨x0,rfl,hpre,hK⟩
 exact⟨_,by first|exact .bool _|exact .int _ _|exact .string _|exact vc_enc _,hK,fun H' K' hs h=>⟨x0,rfl,hpre,h⟩⟩
def L96:qH:=LendA W96
@[go_sem ↓] theorem L96_eq (a:Value):L96 [a] H Bd K=qQ W96 (idS [giveA H a]) H Bd K:=(rfl)
theorem L96_ok:OK 96 L96:=LendA_ok W96_ok L96_pure
@[go_sem ↓] def BW58 (d:GDisk) (p:GSuper):Tq:=fun H Bd K=>((sm d/\sm p)/\K (.agg (enc (keptR d p)).toArray) H Bd)
def W58:qH:=fun g' H Bd K=>∃(d:GDisk) (p:GSuper),g'=[.agg (enc d).toArray, .agg (enc p).toArray]/\BW58 d p H Bd K
@[go_sem ↓] theorem W58_eq (a:List (List UInt8)) (b:List GPut) (c d e f g h:Int) (i:Bool) (j:List UInt8) (k:List GSymbol):W58 [.agg #[lst a,lst b], .agg #[iv c,iv d,iv e,iv f,iv g,iv h, .bool i,lst j,lst k]] H Bd K=BW58 (GDisk.mk a b) (GSuper.mk c d e f g h i j (GSignature.mk k)) H Bd K:=ex2 (GDisk.mk a b) (GSuper.mk c d e f g h i j (GSignature.mk k)) rfl
theorem W58_ok:OK 58 W58:=by
 rintro _ H Bd K ⟨d,p,rfl,hpre,hK⟩
 refine fnp pok (((((((uA.uB W90_ok).uB W93_ok).uB W92_ok).uB W94_ok).uB W60_ok).uB W95_ok).uB L96_ok) [(1,[0,2,1,3,4,5,6],[z0 0,z0 2,⟨1,[],[2]⟩,z0 3,z0 4,⟨5,[4],[]⟩,z0 6], .nil)] hK func58 ntmps58 call58 [.cell 4 111] fun hb ha=>?_
 refine jF pok fun cv=>?_
 obtain⟨h1,hp⟩:=hpre
 have hff:sm [yR d,yX p]:=(yU _).2 (by simp)
 have hfs:vI id [yR d,yX p]=if yR d≠0 then yR d else yX p:=by by_cases g1:yR d=0 <;>by_cases g2:yX p=0 <;>simp[g1,g2,vI]
 by_cases hd:yR d=0
 case neg=>
  have e:keptR d p=⟨yR d,[]⟩:=by unfold keptR;rw[if_pos hd]
  rw[if_pos hd]at hfs
  rw[e]
  exact RA (cj5 h1 hp hff hfs hd) trivial
 rw[if_neg (by simpa using hd)]at hfs
 by_cases hs:yX p=0
 case neg=>
  have e:keptR d p=⟨yX p,[]⟩:=by unfold keptR;rw[if_neg (by simpa using hd),if_pos hs]
  rw[e]
  exact RA (cj5 h1 hp hff hfs hs) trivial
 have e:keptR d p=vW d p:=by unfold keptR;rw[if_neg (by simpa using hd),if_neg (by simpa using hs)]
 rw[e]
 have h2:=disk_ok hd
 have hS:=kJ hs
 have hsp:=hS.root
 have hsh:=hS.shadow
 have hsn:=hS.next_
 have hst:=hS.theory
 have rr:R64 p.root:=⟨by omega,by omega⟩
 have rs:R64 p.shadow:=⟨by omega,by omega⟩
 have rn:R64 p.next_:=⟨by omega,by omega⟩
 have rt:R64 p.theory:=⟨by omega,by omega⟩
 have hl1:=(treeI_len d p.root).1
 have hl2:=(treeI_len d p.shadow).1
 have hsl:=yS (yB d p.root).2.pages
 have hsl2:=yS (yB d p.shadow).2.pages
 rw[hs]at hff hfs
 refine RA (cj5 h1 hp hff hfs hs) ?_
 refine yM (X:=Nat×List Int) hb (by omega) 1 [.s 6] rfl (fun x=>x.1<=2/\x.2.length<=16000/\(x.1=0->x.2=[])/\(1<=x.1->(yB d p.root).1=0)/\(x.1=1->x.2=keptA d p)/\(x.1=2->(yB d p.shadow).1=0/\x.2=keptB d p)) (fun x=>2-x.1) (fun Nx x=>[(2,pt Bd),(3,pt (Bd+1)),(4,pt (Bd+2)),(6,sv Nx 1 x.2.length (x.2.length+1)),(28,lst [p.root,p.shadow]),(29,iv 2),(30,iv x.1)]) (fun Nx x=>[(Bd,⟨[lst d.sectors,lst d.pending],true⟩),(Bd+1,⟨[iv p.gen,iv p.root,iv p.shadow,iv p.theory,iv p.next_,iv p.version, .bool p.moving,lst p.cursor,lst p.symbols.symbols],true⟩),(Bd+2,⟨[iv 0,sn],true⟩),(Nx,⟨qO x.2,true⟩)]) (0,[]) (⟨by omega,by simp,fun _=>rfl,fun h=>absurd h (by omega),fun h=>absurd h (by omega),fun h=>absurd h (by omega)⟩) (fun Nx hNx=>(cant)) ?_
 intro Nx x hNx hIx hbx Fx hFx
 simp only[mem_cons,jC]at hbx ⊢
 refine cv (by kernel_rfl) ?_
 obtain⟨i,out⟩:=x
 obtain⟨i1,i2,i3,i4,i5,i6⟩:=hIx
 simp only at i1 i2 i3 i4 i5 i6
 have hP1:=pagesR_ok (root:=p.root) hd
 have hP2:=pagesR_ok (root:=p.shadow) hd
 have e0:[p.root,p.shadow][0]? =some p.root:=rfl
 have e1:[p.root,p.shadow][1]? =some p.shadow:=rfl
 rcases(by omega:i=0\/i=1\/i=2)with rfl|rfl|rfl
 ·obtain rfl:=i3 rfl
  by_cases hc:(yB d p.root).1=0
  ·rw[if_neg (by simpa using hc)]at hP1
   refine RA (cj4 h1 rr hP1 e0) ?_
   refine hFx (1,[]++vN (yB d p.root).2.pages) _ _ _ ?_ ?_ (by simp only[go_sem,push_cast,qB,qA]) ((by simp (disch:=first|assumption|omega|(simp (disch:=omega) only[qG,qE hb];done)|(simp (disch:=first|omega|(simp (disch:=omega) only[qG,qE hb];done)) only[go_sem,push_cast,qB,qA,qG,qE hb];done)|fail) only[go_sem,push_cast,qB,qA,qU,qL hb,qG,qE hb,qZ,qK,qT,jS,jH,jB,jT,jK,xL,xD,xJ,xZ,Nat.zero_add,hsl,List.nil_append]<;>exact cT))
   ·show 2-1<2-0
    omega
   ·refine⟨by omega,?_,fun h=>absurd h (by simp),fun _=>hc,fun _=>rfl,fun h=>absurd h (by simp)⟩
    show(vN (yB d p.root).2.pages).length<=16000
    omega
  ·rw[if_pos hc]at hP1
   have e:vW d p=⟨(yB d p.root).1,[]⟩:=by unfold vW;rw[if_pos hc]
   rw[e]
   exact RA (cj5 h1 rr hP1 e0 hc) trivial
 ·obtain rfl:=i5 rfl
  have hc0:=i4 (xC _)
  have hla:(keptA d p).length<=7776:=by unfold keptA;omega
  by_cases hc:(yB d p.shadow).1=0
  ·rw[if_neg (by simpa using hc)]at hP2
   refine RA (cj5 h1 rs hP2 e1 hsl2) ?_
   refine hFx (2,keptA d p++vN (yB d p.shadow).2.pages) _ _ _ ?_ ?_ (by simp only[go_sem,push_cast,qB,qA]) ((canf hsl2))
   ·show 2-2<2-1
    omega
   ·refine⟨by omega,?_,fun h=>absurd h (by simp),fun _=>hc0,fun h=>absurd h (by simp),fun _=>⟨hc,rfl⟩⟩
    show(keptA d p++vN (yB d p.shadow).2.pages).length<=16000
    rw[xD];omega
  ·rw[if_pos hc]at hP2
   have e:vW d p=⟨(yB d p.shadow).1,[]⟩:=by unfold vW;rw[if_neg (by simpa using hc0),if_pos hc]
   rw[e]
   exact RA (cj5 h1 rs hP2 e1 hc) trivial
 have hc1:=i4 (by omega)
 obtain⟨hc2,rfl⟩:=i6 rfl
 refine R0 ?_
 refine cv (by kernel_rfl) ?_
 refine RA0 ?_
 refine yM (X:=Nat×List Int) hb (by omega) 1 [.s 6] rfl (fun y=>y.1<=2/\y.2.length<=20000/\(y.1=0->y.2=keptB d p)/\(1<=y.1->(qW d p.theory).2.2=0)/\(y.1=1->y.2=keptB d p++(qW d p.theory).2.1)/\(y.1=2->(p.next_≠0->(qW d p.next_).2.2=0)/\y.2=keptL d p)) (fun y=>2-y.1) (fun Ny y=>[(2,pt Bd),(3,pt (Bd+1)),(4,pt (Bd+2)),(6,sv Ny 1 y.2.length (y.2.length+1)),(52,lst [p.theory,p.next_]),(53,iv 2),(54,iv y.1)]) (fun Ny y=>[(Bd,⟨[lst d.sectors,lst d.pending],true⟩),(Bd+1,⟨[iv p.gen,iv p.root,iv p.shadow,iv p.theory,iv p.next_,iv p.version, .bool p.moving,lst p.cursor,lst p.symbols.symbols],true⟩),(Bd+2,⟨[iv 0,sn],true⟩),(Ny,⟨qO y.2,true⟩)]) (0,keptB d p) (⟨by omega,wE i2 (by omega),fun _=>rfl,fun h=>absurd h (by omega),fun h=>absurd h (by omega),fun h=>absurd h (by omega)⟩) (fun Ny hNy=>(cant)) ?_
 intro Ny y hNy hIy hby Fy hFy
 simp only[mem_cons,jC]at hby ⊢
 refine cv (by kernel_rfl) ?_
 obtain⟨j,out⟩:=y
 obtain⟨j1,j2,j3,j4,j5,j6⟩:=hIy
 simp only at j1 j2 j3 j4 j5 j6
 have hC1:=chainR_ok (h:=p.theory) hd
 have hC2:=chainR_ok (h:=p.next_) hd
 have f0:[p.theory,p.next_][0]? =some p.theory:=rfl
 have f1:[p.theory,p.next_][1]? =some p.next_:=rfl
 have hl3:=chainD_len d p.theory
 have hl4:=chainD_len d p.next_
 have hLL:=keptL_len d p
 have ht0:¬p.theory=0:=by omega
 rcases(by omega:j=0\/j=1\/j=2)with rfl|rfl|rfl
 ·obtain rfl:=j3 rfl
  by_cases hc:(qW d p.theory).2.2=0
  ·refine RA (cj6 h1 rt hC1 f0 ht0 hc) ?_
   refine hFy (1,keptB d p++(qW d p.theory).2.1) _ _ _ ?_ ?_ (by simp only[go_sem,push_cast,qB,qA]) ((cant))
   ·show 2-1<2-0
    omega
   ·refine⟨by omega,?_,fun h=>absurd h (by simp),fun _=>hc,fun _=>rfl,fun h=>absurd h (by simp)⟩
    show(keptB d p++(qW d p.theory).2.1).length<=20000
    rw[xD];omega
  ·have e:vW d p=⟨(qW d p.theory).2.2,[]⟩:=by unfold vW;rw[if_neg (by simpa using hc1),if_neg (by simpa using hc2),if_pos hc]
   rw[e]
   exact RA (cj6 h1 rt hC1 f0 ht0 hc) trivial
 ·obtain rfl:=j5 rfl
  have hc0:=j4 (xC _)
  by_cases hn:p.next_=0
  ·have hk:keptL d p=keptB d p++(qW d p.theory).2.1:=by unfold keptL keptN;rw[if_pos hn,wL]
   refine R (cj f1 hn) ?_
   refine hFy (2,keptB d p++(qW d p.theory).2.1) _ _ _ ?_ ?_ (by simp only[go_sem,push_cast,qB,qA]) ((cant))
   ·show 2-2<2-1
    omega
   ·exact⟨by omega,j2,fun h=>absurd h (by simp),fun _=>hc0,fun h=>absurd h (by simp),fun _=>⟨fun h=>absurd hn h,hk.symm⟩⟩
  by_cases hc:(qW d p.next_).2.2=0
  ·have hk:keptL d p=keptB d p++(qW d p.theory).2.1++(qW d p.next_).2.1:=by unfold keptL keptN;rw[if_neg hn]
   refine RA (cj6 h1 rn hC2 f1 hn hc) ?_
   refine hFy (2,keptB d p++(qW d p.theory).2.1++(qW d p.next_).2.1) _ _ _ ?_ ?_ (by simp only[go_sem,push_cast,qB,qA]) ((cant))
   ·show 2-2<2-1
    omega
   ·refine⟨by omega,?_,fun h=>absurd h (by simp),fun _=>hc0,fun h=>absurd h (by simp),fun _=>⟨fun _=>hc,hk.symm⟩⟩
    show(keptB d p++(qW d p.theory).2.1++(qW d p.next_).2.1).length<=20000
    rw[<-hk];exact hLL
  ·have e:vW d p=⟨(qW d p.next_).2.2,[]⟩:=by unfold vW;rw[if_neg (by simpa using hc1),if_neg (by simpa using hc2),if_neg (by simpa using hc0),if_pos ⟨hn,hc⟩]
   rw[e]
   exact RA (cj6 h1 rn hC2 f1 hn hc) trivial
 have hc3:=j4 (by omega)
 obtain⟨hc4,rfl⟩:=j6 rfl
 have hsk:=yS (keptL d p)
 have hsm:sm (vN (keptL d p)):=(yU _).2 (by omega)
 have e:vW d p=if incI (vN (keptL d p))=true then⟨0,vN (keptL d p)⟩else⟨6,[]⟩:=by
  unfold vW
  rw[if_neg (by simpa using hc1),if_neg (by simpa using hc2),if_neg (by simpa using hc3),if_neg (fun h=>h.2 (hc4 h.1))]
 rw[e]
 refine R0 ?_
 refine cv (by kernel_rfl) ?_
 by_cases hi:incI (vN (keptL d p))=true
 ·refine R (cj3 hi hsm hsk) ?_
  exact qV (by simp (disch:=first|assumption|omega) only[go_sem,push_cast,qB,qA]) (hb.fresh _ (by omega)) rfl (by first|rfl|exact(yS _).symm|simp|omega)
 ·exact R (cj3 hi hsm hsk) trivial
def W208:qH:=fun g' H Bd K=>∃(s:GSignature) (n:Int),g'=[.agg (enc s).toArray,iv n]/\((sm s/\R64 n)/\K (.bool (isSym s n)) H Bd)
@[go_sem ↓] theorem W208_eq (a:List GSymbol) (b:Int):W208 [.agg #[lst a],iv b] H Bd K=((sm (GSignature.mk a)/\R64 b)/\K (.bool (isSym (GSignature.mk a) b)) H Bd):=ex2 (GSignature.mk a) b rfl
theorem W208_ok:OK 208 W208:=by
 rintro _ H Bd K ⟨s,n,rfl,hpre,hK⟩
 refine fnp pok (uA.uB W133_ok) [] hK func208 ntmps208 call208 [.tmp 4] fun hb ha=>?_
 obtain⟨h1,h2⟩:=hpre
 simp only[yN]at h1
 have hlen:=qS h1
 refine R0 ?_
 unfold isSym
 all_goals first|done|trivial|((try simp only[Cnp,Imp]);grind)
def W165:qH:=fun g' H Bd K=>∃(s:GSignature) (n:Int),g'=[.agg (enc s).toArray,iv n]/\((sm s/\R64 n)/\K (.bool (kI s n)) H Bd)
@[go_sem ↓] theorem W165_eq (a:List GSymbol) (b:Int):W165 [.agg #[lst a],iv b] H Bd K=((sm (GSignature.mk a)/\R64 b)/\K (.bool (kI (GSignature.mk a) b)) H Bd):=ex2 (GSignature.mk a) b rfl
theorem W165_ok:OK 165 W165:=by
 rintro _ H Bd K ⟨s,n,rfl,hpre,hK⟩
 refine fnp pok ((uA.uB W208_ok).uB W133_ok) [(1,[],[],(.k 4 (.grp false 8 10 2 [9,10] 11 none (.k 2 .nil) (.k 1 .nil))))] hK func165 ntmps165 call165 [.tmp 4] fun hb ha=>?_
 obtain⟨h1,h2⟩:=hpre
 refine R (cj h1 h2) ?_
 simp[kI]
@[go_sem ↓] def BW166 (s:GSignature) (n:Int):Tq:=fun H Bd K=>((sm s/\kE s=0/\n<s.symbols.length)/\K (iv ((arN s n:Int))) H Bd)
def W166:qH:=fun g' H Bd K=>∃(s:GSignature) (n:Int),g'=[.agg (enc s).toArray,iv n]/\BW166 s n H Bd K
@[go_sem ↓] theorem W166_eq (a:List GSymbol) (b:Int):W166 [.agg #[lst a],iv b] H Bd K=BW166 (GSignature.mk a) b H Bd K:=ex2 (GSignature.mk a) b rfl
theorem W166_ok:OK 166 W166:=by
 rintro _ H Bd K ⟨s,n,rfl,hpre,hK⟩
 refine fnp pok uA [] hK func166 ntmps166 call166 [.tmp 4] fun hb ha=>?_
 obtain⟨h1,h2,h3⟩:=hpre
 have hss:sm s:=h1
 simp only[yN]at h1
 have hlen:=qS h1
 have hs:=yT h2
 by_cases hn:n<0
 ·have e:=arN_neg (s:=s) hn
  exact R (cj hn e) trivial
 ·have e4:n.toNat<s.symbols.length:=by omega
  have e2:s.symbols[n.toNat]? =some s.symbols[n.toNat]:=xA e4
  have e:=arN_sym (s:=s) (by omega) e2
  have ha:=hs.nm _ (xH e4)
  refine R (cj3 hn e e2) ?_
  omega
@[go_sem ↓] def BW114 (n:Nat) (s_symbols:List GSymbol):Tq:=fun H Bd K=>(Yld (H n) fun b=>Yld (kF rdB b) fun x=>((sm (GSignature.mk s_symbols)/\kE (GSignature.mk s_symbols)=0/\x.1.length<=1000000))/\K (lst (trT (GSignature.mk s_symbols) (x.1,x.2)).1) (upd (upd H n none) n (some ⟨[lst (trT (GSignature.mk s_symbols) (x.1,x.2)).2.1, .bool (trT (GSignature.mk s_symbols) (x.1,x.2)).2.2],true⟩)) (Bd+0))
def W114:qH:=fun g' H Bd K=>∃(n:Nat) (s_symbols:List GSymbol),g'=[pt n, .agg #[lst s_symbols]]/\BW114 n s_symbols H Bd K
@[go_sem ↓] theorem W114_eq (a:Nat) (b:List GSymbol):W114 [pt a, .agg #[lst b]] H Bd K=BW114 a b H Bd K:=by
 refine propext ⟨fun h=>?_,fun h=>⟨_,_,rfl,h⟩⟩
 obtain⟨n',s_symbols',e,h⟩:=h
 simp only[xG,Value.agg.injEq,jD,xK,Value.bool.injEq,Value.string.injEq,Value.pointer.injEq,xE,Addr.mk.injEq,lst_inj,true_and,and_true]at e
 obtain⟨rfl,rfl⟩:=e
 exact h
theorem W114_ok:OK 114 W114:=by
 rintro _ H Bd K ⟨n,s_symbols,rfl,b,hb0,x,hx,hpre,hK⟩
 obtain⟨rest,fd⟩:=x
 obtain rfl:=kX hx
 simp only[rdB,flB]at hb0 hK hpre
 obtain⟨s,rfl⟩:∃s:GSignature,s_symbols=s.symbols:=⟨(GSignature.mk s_symbols),rfl⟩
 simp only[eta_GSignature]at hpre hK
 have hnB:HB H Bd->n<Bd:=fun h=>zI h hb0
 obtain⟨G,rfl,gn,gE,gH⟩:=out1 hb0
 rw[gE]at hK
 refine fn_can pok (((uA.uB W98_ok).uB W165_ok).uB W166_ok) [(3,[],[],(.k 3 (.grp true 12 17 5 [13,14,15,16,17] 18 none (.k 5 .nil) .nil))),(8,[],[],(.k 3 (.grp false 29 33 4 [30,31,32,33] 34 none (.k 4 .nil) (.k 1 (.grp false 35 38 3 [36,37,38] 39 none (.k 3 .nil) .nil)))))] G [] (lst (trT s (rest,fd)).1) [(n,⟨[lst (trT s (rest,fd)).2.1, .bool (trT s (rest,fd)).2.2],true⟩)] hK (lst_unk _) (gH Bd) func114 rfl (rs:=[.tmp 4]) rfl ntmps114 (by simp) call114 (by kernel_rfl) (fun hh hb ha=>?_)
 have hn:=hnB hh
 skip
 clear hK gE gH hnB hb0 hx
 refine jF pok fun cv=>?_
 obtain⟨h1,h2,h3⟩:=hpre
 have hs:=yT h2
 refine S0 ?_
 refine yM (X:=List Int×Nat×List UInt8×Bool) hb (by omega) 1 [.s 5] rfl (fun x=>x.1.length<=24/\x.2.1<=x.1.length+1/\x.2.2.1.length<=1000000/\trT s (rest,fd)=trI s (25-x.1.length) x.2.2 x.1 x.2.1) (fun x=>25-x.1.length) (fun Nx x=>[(0,pt n),(3,pt Bd),(5,sv Nx 1 x.1.length (x.1.length+1)),(6,iv x.2.1)]) (fun Nx x=>[(n,⟨[lst x.2.2.1, .bool x.2.2.2],true⟩),(Bd,⟨[lst s.symbols],true⟩),(Nx,⟨qO x.1,true⟩)]) ([],1,rest,fd) (⟨xT _,xC _,h3,rfl⟩) (fun Nx hNx=>(cant)) ?_
 intro Nx x hNx hIx hbx Fx hFx
 simp only[mem_cons,jC]at hbx ⊢
 refine cv (by kernel_rfl) ?_
 obtain⟨out,m,rest2,f2⟩:=x
 obtain⟨i1,i2,i4,i5⟩:=hIx
 simp only at i1 i2 i4 i5
 obtain⟨f,hf⟩:∃f,25-out.length=f+1:=⟨24-out.length,by omega⟩
 rw[hf,trI]at i5
 by_cases hm:m=0
 ·rw[if_pos (.inl hm)]at i5
  rw[i5]
  refine S hm ?_
  refine cv (by kernel_rfl) ?_
  refine S0 ?_
  exact rq_pubI (by simp (disch:=first|assumption|omega) only[go_sem,push_cast,qB,qA] <;>rfl) rfl (by simp (disch:=first|assumption|omega) only[go_sem,push_cast,qB,qA,qG,qE hb] <;>omega) rfl
 cases f2 with
 |true=>
  rw[if_pos (.inr rfl)]at i5
  rw[i5]
  refine S hm ?_
  refine cv (by kernel_rfl) ?_
  refine S0 ?_
  exact rq_pubI (by simp (disch:=first|assumption|omega) only[go_sem,push_cast,qB,qA] <;>rfl) rfl (by simp (disch:=first|assumption|omega) only[go_sem,push_cast,qB,qA,qG,qE hb] <;>omega) rfl
 |false=>
  rw[if_neg (by simpa using hm)]at i5
  have ho:=vV (rest2,false)
  have hl1:(tkS (rest2,false) 1).1.length<=1000000:=wE (vR _ _) i4
  by_cases q1:yJ (rest2,false)=0
  ·rw[if_pos (.inl q1)]at i5
   rw[i5]
   refine S (cj hm q1) ?_
   refine cv (by kernel_rfl) ?_
   refine S0 ?_
   exact rq_pubI (by simp (disch:=first|assumption|omega) only[go_sem,push_cast,qB,qA] <;>rfl) rfl (by simp (disch:=first|assumption|omega) only[go_sem,push_cast,qB,qA,qG,qE hb] <;>omega) rfl
  by_cases q2:32<=yJ (rest2,false)
  case' pos=>have hz:nodeZ (yJ (rest2,false))=31-yJ (rest2,false):=if_pos q2
  case' neg=>have hz:nodeZ (yJ (rest2,false))=yJ (rest2,false)-1:=if_neg q2
  all_goals
   rw[hz]at i5
   rw[<-hz]at i5
   have hR:R64 (nodeZ (yJ (rest2,false))):=by rw[hz];exact⟨by omega,by omega⟩
   by_cases q3:kI s (nodeZ (yJ (rest2,false)))=true
   case neg=>
    have q3:kI s (nodeZ (yJ (rest2,false)))=false:=by simpa using q3
    rw[if_pos (.inr (.inl q3))]at i5
    rw[i5]
    refine S (cj7 hm q1 q2 hz.symm h1 hR q3) ?_
    refine cv (by kernel_rfl) ?_
    refine S0 ?_
    exact rq_pubI (by simp (disch:=first|assumption|omega) only[go_sem,push_cast,qB,qA] <;>rfl) rfl (by simp (disch:=first|assumption|omega) only[go_sem,push_cast,qB,qA,qG,qE hb] <;>omega) rfl
   by_cases q4:out.length=24
   ·rw[if_pos (.inr (.inr q4))]at i5
    rw[i5]
    refine S (cj7 hm q1 q2 hz.symm h1 hR q3) ?_
    refine cv (by kernel_rfl) ?_
    refine S0 ?_
    exact rq_pubI (by simp (disch:=first|assumption|omega) only[go_sem,push_cast,qB,qA] <;>rfl) rfl (by simp (disch:=first|assumption|omega) only[go_sem,push_cast,qB,qA,qG,qE hb] <;>omega) rfl
   rw[if_neg (by rintro(h|h|h);exact q1 h;(rw[q3]at h;cases h);exact q4 h)]at i5
   have hlt:=isNode_lt q3
   have har:=arN_le hs (nodeZ (yJ (rest2,false)))
   refine SA (cj10 hm q1 q2 hz.symm h1 h2 hR q3 q4 hlt.1) ?_
   refine hFx (out++[nodeZ (yJ (rest2,false))],m-1+arN s (nodeZ (yJ (rest2,false))),tkS (rest2,false) 1) _ _ _ ?_ ?_ (by simp only[go_sem,push_cast,qB,qA]) ((cant))
   ·show 25-(out++[nodeZ (yJ (rest2,false))]).length<25-out.length
    rw[xD,List.length_singleton];omega
   ·refine⟨by rw[xD,List.length_singleton];omega,by show m-1+arN s _<=(out++[_]).length+1;rw[xD,List.length_singleton];omega,hl1,?_⟩
    rw[xD,List.length_singleton,show 25-(out.length+1)=f by omega]
    exact i5
def V210:qH:=fun g' H Bd K=>∃(n:Int) (s:GSignature),g'=[iv n, .agg (enc s).toArray]/\((sm s/\R64 n)/\K (.bool (!kI s n)) H Bd)
def W210:qH:=fun g' H Bd K=>∃(vn ps:Value),g'=[vn,ps]/\Yld (qI H 1 ps) fun cs=>qQ V210 [vn, .agg cs.toArray] H Bd K
theorem W210_ok:OK 210 W210:=by
 rintro _ H Bd K ⟨vn,ps,rfl,cs,es,h⟩
 obtain⟨n,s,e,hpre,hK⟩:=h
 simp only[xG,and_true]at e
 obtain⟨rfl,Es⟩:=e
 obtain rfl:=qR Es
 refine fnp pok (uA.uB W165_ok) [] hK func210 ntmps210 call210 [.tmp 3] fun hb ha=>?_
 have Ps:=qM es (NB.vpok (ha ps (by simp)))
 simp only[qN]at Ps
 have Zs:=Ps.all 1 rfl
 have Ys:=jE (ha ps (by simp))
 exact R (cj Zs hpre) trivial
def V209_210:qH:=fun g' H Bd K=>∃(xs:List Int) (s:GSignature),g'=[lst xs, .agg (enc s).toArray]/\((sm xs/\∀n∈xs,sm s/\R64 n)/\K (.bool (xs.any (fun n:Int=> !kI s n))) H Bd)
@[go_sem ↓] theorem V209_210_eq (a:List Int) (b:List GSymbol):V209_210 [lst a, .agg #[lst b]] H Bd K=((sm a/\∀n∈a,sm (GSignature.mk b)/\R64 n)/\K (.bool (a.any (fun n:Int=> !kI (GSignature.mk b) n))) H Bd):=ex2 a (GSignature.mk b) rfl
def W209_210:qH:=fun g' H Bd K=>∃(vxs ps:Value),g'=[vxs, .func (.func 210) #[] #[ps]]/\Yld (qI H 1 ps) fun cs=>qQ V209_210 [vxs, .agg cs.toArray] H Bd K
@[go_sem ↓] theorem W209_210_eq (a b:Value):W209_210 [a, .func (.func 210) #[] #[b]] H Bd K=(Yld (qI H 1 b) fun cs=>qQ V209_210 (idS [a, .agg cs.toArray]) H Bd K):=by
 refine propext ⟨fun h=>?_,fun h=>⟨_,_,rfl,h⟩⟩
 obtain⟨vxs',ps',e,h⟩:=h
 simp only[xG,Value.func.injEq,jD,xG,and_true,true_and]at e
 obtain⟨rfl,rfl⟩:=e
 exact h
theorem W209_210_ok:OK 209 W209_210:=by
 rintro _ H Bd K ⟨vxs,ps,rfl,cs,es,h⟩
 obtain⟨xs,s,e,hpre,hK⟩:=h
 simp only[xG,and_true]at e
 obtain⟨rfl,Es⟩:=e
 obtain rfl:=qR Es
 refine G209 210 #[ps] (fun n:Int=> !kI s n) xs H Bd K hpre.1 (fun x hx B hB K' hk=>?_) hK
 exact W210_ok _ _ _ _ ⟨_,_,rfl,_,es,x,s,rfl,hpre.2 x hx,hk⟩
@[go_sem ↓] def BW211 (s:GSignature) (t:List Int) (a:Int):Tq:=fun H Bd K=>((sm s/\sm t/\kE s=0/\nodes s t/\0<=a/\a<=t.length)/\K (iv (if ep s t 1 a.toNat<0 then(t.length:Int)+1 else ep s t 1 a.toNat)) H Bd)
def W211:qH:=fun g' H Bd K=>∃(s:GSignature) (t:List Int) (a:Int),g'=[.agg (enc s).toArray,lst t,iv a]/\BW211 s t a H Bd K
@[go_sem ↓] theorem W211_eq (a:List GSymbol) (b:List Int) (c:Int):W211 [.agg #[lst a],lst b,iv c] H Bd K=BW211 (GSignature.mk a) b c H Bd K:=ex3 (GSignature.mk a) b c rfl
theorem W211_ok:OK 211 W211:=by
 rintro _ H Bd K ⟨s,t,a,rfl,hpre,hK⟩
 refine fnp pok (uA.uB W166_ok) [(6,[0,1,2,3,4,5,6,7,8,9],[z0 0,z0 1,z0 2,z0 3,z0 4,z0 5,z0 6,z0 7,z0 8,z0 9], .nil)] hK func211 ntmps211 call211 [.tmp 6] fun hb ha=>?_
 refine jF pok fun cv=>?_
 obtain⟨h1,h2,h3,h4,h5,h6⟩:=hpre
 have hss:sm s:=h1
 have hlt2:=qS h2
 have hs:=yT h3
 obtain⟨a,rfl⟩:=Int.eq_ofNat_of_zero_le h5
 have hout:∀(i:Nat),ep s t 1 a=ep s t (opn s t a i) (a+i)->a+i<=t.length->(opn s t a i=0->ep s t 1 a=a+i):=fun i h1 h2 h3=>by rw[h1,h3,ep_zero h2];omega
 rcases ep_cases (s:=s) (t:=t) 1 (show a<=t.length by omega)with⟨q1,_⟩|⟨m,q1,q2,q3,_⟩
 ·have hv:(if ep s t 1 a<0 then(t.length:Int)+1 else ep s t 1 a)=t.length+1:=if_pos (by omega)
  refine R hv ?_
  refine jA (fun i=>ep s t 1 a=ep s t (opn s t a i) (a+i)/\opn s t a i<=i+1) (t.length-a) (fun i=>[(1,lst t),(2,iv ((a:Int)+i)),(3,pt Bd),(7,iv (opn s t a i))]) (⟨rfl,xC _⟩) (by simp only[go_sem,push_cast,qB,qA,opn_zero,Int.add_zero]) ?_
  intro i Bi hIi hii hBi
  refine cv (by kernel_rfl) ?_
  rcases xM i (t.length-a)with hlti|hgei
  ·have hpos:1<=opn s t a i:=by
    rcases Nat.eq_zero_or_pos (opn s t a i)with h|h
    ·have:=hout i hIi.1 (by omega) h;omega
    ·exact h
   have e1:t[a+i]? =some t[a+i]:=xA (by omega)
   have hn:=h4 _ (xH (show a+i<t.length by omega))
   have hop:=opn_succ (s:=s) e1
   have hnx:=opn_ep (s:=s) e1 hpos
   have har:=arN_le hs t[a+i]
   have hlt3:(a:Int)+i<t.length:=by omega
   have hcv:((a:Int)+i).toNat=a+i:=by omega
   have hi2:=hIi.2
   rw[hnx]at hIi
   have hi3:=hIi.1
   have hcc:(opn s t a i:Int)+(arN s t[a+i]-1)=opn s t a (i+1):=by omega
   have hcd:opn s t a (i+1)<=i+1+1:=by omega
   have hce:(a:Int)+i+1=a+(i+1:Nat):=by omega
   exact R (cj7 e1 hss h3 hcv hcc hi3 hcd) trivial
  ·have hpos:1<=opn s t a i:=by
    rcases Nat.eq_zero_or_pos (opn s t a i)with h|h
    ·have:=hout i hIi.1 (by omega) h;omega
    ·exact h
   have hp2:(0:Int)<opn s t a i:=by omega
   exact R hp2 trivial
 ·have hv:(if ep s t 1 a<0 then(t.length:Int)+1 else ep s t 1 a)=a+m:=by rw[if_neg (by omega),q3];omega
  refine R hv ?_
  refine jA (fun i=>ep s t 1 a=ep s t (opn s t a i) (a+i)/\opn s t a i<=i+1) (m) (fun i=>[(1,lst t),(2,iv ((a:Int)+i)),(3,pt Bd),(7,iv (opn s t a i))]) (⟨rfl,xC _⟩) (by simp only[go_sem,push_cast,qB,qA,opn_zero,Int.add_zero]) ?_
  intro i Bi hIi hii hBi
  refine cv (by kernel_rfl) ?_
  rcases xM i (m)with hlti|hgei
  ·have hpos:1<=opn s t a i:=by
    rcases Nat.eq_zero_or_pos (opn s t a i)with h|h
    ·have:=hout i hIi.1 (by omega) h;omega
    ·exact h
   have e1:t[a+i]? =some t[a+i]:=xA (by omega)
   have hn:=h4 _ (xH (show a+i<t.length by omega))
   have hop:=opn_succ (s:=s) e1
   have hnx:=opn_ep (s:=s) e1 hpos
   have har:=arN_le hs t[a+i]
   have hlt3:(a:Int)+i<t.length:=by omega
   have hcv:((a:Int)+i).toNat=a+i:=by omega
   have hi2:=hIi.2
   rw[hnx]at hIi
   have hi3:=hIi.1
   have hcc:(opn s t a i:Int)+(arN s t[a+i]-1)=opn s t a (i+1):=by omega
   have hcd:opn s t a (i+1)<=i+1+1:=by omega
   have hce:(a:Int)+i+1=a+(i+1:Nat):=by omega
   exact R (cj7 e1 hss h3 hcv hcc hi3 hcd) trivial
  ·have hz:opn s t a i=0:=by
    have h7:=hIi.1
    rcases ep_cases (s:=s) (t:=t) (opn s t a i) (show a+i<=t.length by omega)with⟨g1,_⟩|⟨m',g1,g2,g3,_⟩
    ·omega
    ·omega
   refine R hz ?_
   refine cv (by kernel_rfl) ?_
   refine R0 ?_
   omega
def W167:qH:=fun g' H Bd K=>∃(s:GSignature) (t:List Int),g'=[.agg (enc s).toArray,lst t]/\((sm s/\sm t/\rg t)/\K (iv (termF s t)) H Bd)
@[go_sem ↓] theorem W167_eq (a:List GSymbol) (b:List Int):W167 [.agg #[lst a],lst b] H Bd K=((sm (GSignature.mk a)/\sm b/\rg b)/\K (iv (termF (GSignature.mk a) b)) H Bd):=ex2 (GSignature.mk a) b rfl
theorem W167_ok:OK 167 W167:=by
 rintro _ H Bd K ⟨s,t,rfl,hpre,hK⟩
 refine fnp pok (((uA.uB W97_ok).uB W209_210_ok).uB W211_ok) [(4,[],[],(.k 4 (.grp false 14 17 3 [15,16,17] 18 none (.k 3 .nil) .nil)))] hK func167 ntmps167 call167 [.tmp 4] fun hb ha=>?_
 obtain⟨h1,h2,h3⟩:=hpre
 have hss:sm s:=h1
 simp only[yN]at h1
 have hlen:=qS h1
 have hlen2:=qS h2
 refine R (cj hss h2) ?_
 refine⟨fun g1=>⟨fun g2=>?_,fun g2 g3=>⟨h3,fun g4=>?_,fun g4=>⟨⟨nodes_any (by simpa using g4),by omega⟩,?_⟩⟩⟩,fun g1=>?_⟩
 ·unfold termF termG;rw[if_neg (by simp[g1]),if_pos (by omega)]
 ·unfold termF termG;rw[if_neg (by simp[g1]),if_neg (by omega),if_pos g4]
 ·have e5:termF s t=if ep s t 1 0=t.length then 0 else 1:=by unfold termF termG;rw[if_neg (by simp[g1]),if_neg (by omega),if_neg (by simpa using g4)]
  rw[e5]
  rcases ep_cases (s:=s) (t:=t) 1 (xT _)with⟨q1,_⟩|⟨m,q1,q2,q3,_⟩
  ·rw[q1]
   refine⟨fun h=>?_,fun h=>?_⟩
   ·rw[if_pos (by omega)]at h;omega
   ·rw[if_neg (by omega)]
  ·rw[q3]
   refine⟨fun h=>?_,fun h=>?_⟩
   ·rw[if_neg (by omega)]at h;rw[if_pos h]
   ·rw[if_neg (by omega)]at h;rw[if_neg h]
 ·unfold termF;rw[if_pos g1]
def W233b:qH:=fun g' H Bd K=>∃(ts:List (List Int)),g'=[lst ts]/\((sm ts/\ts.length<=100/\∀t∈ts,t.length<=24/\smallN t)/\K (lst (uniqI (varsL ts))) H Bd)
@[go_sem ↓] theorem W233b_eq (a:List (List Int)) (b:AH) (c:Nat) (d:Value->AH->Nat->Prop):W233b [lst a] b c d=((sm a/\a.length<=100/\∀t∈a,t.length<=24/\smallN t)/\d (lst (uniqI (varsL a))) b c):=ex1 a rfl
theorem W233b_ok:OK 233 W233b:=by
 rintro _ H Bd K ⟨ts,rfl,hpre,hK⟩
 refine fnp pok ((uA.uB W95_ok).uB W252_ok) [] hK func233 ntmps233 call233 [.tmp 2] fun hb ha=>?_
 refine jF pok fun cv=>?_
 obtain⟨h1,h2,h3⟩:=hpre
 have hvl:∀i,(varsL (ts.take i)).length<=2400:=fun i=>by
  have:=varsL_len (ts:=ts.take i) fun t ht=>(h3 t (List.mem_of_mem_take ht)).1
  rw[xQ]at this
  omega
 refine R0 ?_
 refine tr_st (X:=Nat×Nat×Nat) (fun x=>x.1<=ts.length/\Bd<=x.2.1/\0<x.2.2) (fun x=>ts.length-x.1) (fun x=>[(3,sv (x.2.1) 1 (varsL (ts.take x.1)).length x.2.2),(9,lst ts),(10,iv ts.length),(11,iv x.1)]) (fun x=>upd H x.2.1 (some ⟨qO (varsL (ts.take x.1)),true⟩)) (0,Bd,1) (⟨xT _,xC _,Nat.zero_lt_one⟩) (by simp only[go_sem,push_cast,qB,qA,List.take_zero,varsL_nil,qZ]<;>exact cT) (by first|exact Le.refl _|simp (disch:=first|assumption|omega) only[go_sem,push_cast,qB,qA,qU,jP,List.take_zero,varsL_nil,qZ]) ?_
 intro x Bx hIx hBx hbx Fx hFx
 refine cv (by kernel_rfl) ?_
 obtain⟨i,n,c⟩:=x
 obtain⟨i1,i2,i3⟩:=hIx
 simp only at i1 i2 i3 hbx
 have hnx:=hb_lt hbx
 have hvi:=hvl i
 rcases xM i ts.length with hlt|hge
 ·have e1:ts[i]? =some ts[i]:=xA hlt
  have h4:=h3 _ (xH hlt)
  have h41:=h4.1
  refine R e1 ?_
  refine tr_st (X:=Nat×Nat×Nat) (fun y=>y.1<=ts[i].length/\Bd<=y.2.1/\0<y.2.2) (fun y=>ts[i].length-y.1) (fun y=>[(3,sv (y.2.1) 1 (varsL (ts.take i)++vars1 (ts[i].take y.1)).length y.2.2),(9,lst ts),(10,iv ts.length),(11,iv i),(15,lst ts[i]),(16,iv ts[i].length),(17,iv y.1)]) (fun y=>upd H y.2.1 (some ⟨qO (varsL (ts.take i)++vars1 (ts[i].take y.1)),true⟩)) (0,n,c) (⟨xT _,i2,i3⟩) (by simp only[go_sem,push_cast,qB,qA,List.take_zero,vars1_nil,wL]<;>exact cT) (by first|exact Le.refl _|simp (disch:=first|assumption|omega) only[go_sem,push_cast,qB,qA,qU,jP,List.take_zero,vars1_nil,wL]) ?_
  intro y By hIy hBy hby Fy hFy
  refine cv (by kernel_rfl) ?_
  obtain⟨j,m,d⟩:=y
  obtain⟨j1,j2,j3⟩:=hIy
  simp only at j1 j2 j3 hby
  have hmy:=hb_lt hby
  have hz:(d=0)=False:=eq_false (by omega)
  have hv1:=vars1_len (ts[i].take j)
  rw[xQ]at hv1
  rcases xM j ts[i].length with hltj|hgej
  ·have e2:ts[i][j]? =some ts[i][j]:=xA hltj
   have hst:=vars1_take hltj
   have hsm:=h4.2 _ (xH hltj)
   by_cases hn:ts[i][j]<0
   ·have hst2:varsL (ts.take i)++vars1 (ts[i].take (j+1))=(varsL (ts.take i)++vars1 (ts[i].take j))++[-1-ts[i][j]]:=by rw[hst,if_pos hn,xL]
    refine R (cj3 e2 hn hz) ?_
    refine⟨by simp only[xD];omega,?_⟩
    refine hFy (j+1,By+1,vC ((varsL (ts.take i)++vars1 (ts[i].take j)).length+1) (d-1)) _ _ _ ?_ ?_ (by first|exact Le.refl _|simp (disch:=first|assumption|omega|(simp (disch:=omega) only[qG,qE hb];done)) only[go_sem,push_cast,qB,qA,qU,jP,qG,qE hb,hst2,zB,yK,qK,qT,xD,xJ,xZ]) (by simp only[go_sem,push_cast,qB,qA]) (by simp only[go_sem,push_cast,qB,qA,hst2,zB,yK,qK,qT,xD,xJ,xZ]<;>exact cT)
    ·show ts[i].length-(j+1)<ts[i].length-j
     omega
    ·refine⟨by omega,show Bd<=By+1 by omega,?_⟩
     show 0<vC _ _
     unfold vC;split <;>omega
   ·rw[if_neg hn,wL]at hst
    refine R (cj e2 hn) ?_
    refine hFy (j+1,m,d) _ _ _ ?_ ?_ (by first|exact Le.refl _|simp (disch:=first|assumption|omega|(simp (disch:=omega) only[qG,qE hb];done)) only[go_sem,push_cast,qB,qA,qU,jP,qG,qE hb,hst]) (by simp only[go_sem,push_cast,qB,qA]) (by simp only[go_sem,push_cast,qB,qA,hst]<;>exact cT)
    ·show ts[i].length-(j+1)<ts[i].length-j
     omega
    ·exact⟨by omega,j2,j3⟩
  ·have hst:=varsL_take hlt
   rw[xO hgej]at hby ⊢
   refine R0 ?_
   refine hFx (i+1,m,d) _ _ _ ?_ ?_ (by first|exact Le.refl _|simp (disch:=first|assumption|omega|(simp (disch:=omega) only[qG,qE hb];done)) only[go_sem,push_cast,qB,qA,qU,jP,qG,qE hb,hst]) (by simp only[go_sem,push_cast,qB,qA]) (by simp only[go_sem,push_cast,qB,qA,hst]<;>exact cT)
   ·show ts.length-(i+1)<ts.length-i
    omega
   ·exact⟨by omega,j2,j3⟩
 ·rw[xO hge]at hbx hvi ⊢
  refine R0 ?_
  refine cv (by kernel_rfl) ?_
  simp (maxSteps:=2000000) (disch:=first|exact dq|fail) only[go_sem,push_cast,qB,qA,qL hb,qE hb,yS]
  refine pub_flat (α:=Int) (qJ _ _ _) rfl ?_ (hb.fresh n (by omega)) rfl rfl
  show((qO (uniqI (varsL ts)++_)).drop 0).take ((uniqI (varsL ts)).length*Enc.k Int)=_
  rw[List.drop_zero,flat_take,List.take_left' rfl]
def W233:qH:=GiveT 0 W233b
@[go_sem ↓] theorem W233_eq (a:Value):W233 [a] H Bd K=qQ W233b (idS [giveV H a]) (giveH H a) Bd K:=(rfl)
theorem W233_ok:OK 233 W233:=GiveT_ok 0 W233b_ok
def W234:qH:=fun g' H Bd K=>∃(v:Int),g'=[iv v]/\(K (.bool (decide (6<=v))) H Bd)
theorem W234_ok:OK 234 W234:=by
 rintro _ H Bd K ⟨v,rfl,hK⟩
 refine fnp pok uA [] hK func234 ntmps234 call234 [.tmp 2] fun hb ha=>?_
 exact R0 trivial
def V209_234:qH:=fun g' H Bd K=>∃(xs:List Int),g'=[lst xs]/\((sm xs)/\K (.bool (xs.any (fun v:Int=>decide (6<=v)))) H Bd)
@[go_sem ↓] theorem V209_234_eq (a:List Int):V209_234 [lst a] H Bd K=((sm a)/\K (.bool (a.any (fun v:Int=>decide (6<=v)))) H Bd):=ex1 a rfl
def W209_234:qH:=fun g' H Bd K=>∃(vxs:Value),g'=[vxs, .func (.func 234) #[] #[]]/\qQ V209_234 [vxs] H Bd K
@[go_sem ↓] theorem W209_234_eq (a:Value):W209_234 [a, .func (.func 234) #[] #[]] H Bd K=(qQ V209_234 (idS [a]) H Bd K):=by
 refine propext ⟨fun h=>?_,fun h=>⟨_,rfl,h⟩⟩
 obtain⟨vxs',e,h⟩:=h
 simp only[xG,Value.func.injEq,jD,xG,and_true,true_and]at e
 obtain rfl:=e
 exact h
theorem W209_234_ok:OK 209 W209_234:=by
 rintro _ H Bd K ⟨vxs,rfl,h⟩
 obtain⟨xs,e,hpre,hK⟩:=h
 simp only[xG,and_true]at e
 obtain rfl:=e
 refine G209 234 #[] (fun v:Int=>decide (6<=v)) xs H Bd K hpre (fun x hx B hB K' hk=>?_) hK
 exact W234_ok _ _ _ _ ⟨x,rfl,hk⟩
@[go_sem ↓] def BW197 (s:GSignature) (e:GEquation):Tq:=fun H Bd K=>((sm s/\sm e/\rg e)/\K (iv (eqnF s e)) H Bd)
def W197:qH:=fun g' H Bd K=>∃(s:GSignature) (e:GEquation),g'=[.agg (enc s).toArray, .agg (enc e).toArray]/\BW197 s e H Bd K
@[go_sem ↓] theorem W197_eq (a:List GSymbol) (b c:List Int):W197 [.agg #[lst a], .agg #[lst b,lst c]] H Bd K=BW197 (GSignature.mk a) (GEquation.mk b c) H Bd K:=ex2 (GSignature.mk a) (GEquation.mk b c) rfl
theorem W197_ok:OK 197 W197:=by
 rintro _ H Bd K ⟨s,e,rfl,hpre,hK⟩
 refine fnp pok ((((uA.uB W167_ok).uB W92_ok).uB W233_ok).uB W209_234_ok) [(1,[0,1,2,4,5,6,3,7,8,9,10],[z0 0,z0 1,z0 2,z0 4,z0 5,z0 6,⟨3,[],[6,4]⟩,z0 7,z0 8,⟨9,[8],[]⟩,z0 10], .nil)] hK func197 ntmps197 call197 [.tmp 4] fun hb ha=>?_
 obtain⟨h1,h2,h3⟩:=hpre
 simp only[zG]at h2
 have h4:=h2.1
 have h5:=h2.2
 have h6:rg e.left:=h3.1
 have h7:rg e.right:=h3.2
 refine R (cj5 h1 h4 h5 h6 h7) ?_
 refine⟨(yU _).2 (by simp),?_⟩
 rw[firstF2]
 by_cases g0:kE s=0
 ·have hs:=yT g0
  rw[termF_G g0,termF_G g0]
  have hv:eqnF s e=eqnG s e:=by unfold eqnF;rw[if_neg (by simp[g0])]
  rw[hv]
  by_cases t1:termG s e.left=0
  ·by_cases t2:termG s e.right=0
   ·have o1:=term_small hs (term_ok t1)
    have o2:=term_small hs (term_ok t2)
    have hall:∀t∈[e.left,e.right],t.length<=24/\smallN t:=fun t ht=>by
     rcases wG.1 ht with rfl|ht
     ·exact o1
     ·rw[wR.1 ht];exact o2
    rw[if_neg (by simp[t1]),vars_low]
    refine⟨fun _=>⟨⟨sm_two h4 h5,hall⟩,sm_uniq (by simp) fun t ht=>(hall t ht).1,fun h=>?_,fun h=>?_⟩,fun h=>absurd t2 h⟩
    ·unfold eqnG
     rw[if_neg (by simp[t1]),if_neg (by simp[t2]),if_neg]
     intro hc
     rw[hc.1,hc.2]at h;cases h
    ·unfold eqnG
     rw[if_neg (by simp[t1]),if_neg (by simp[t2]),if_pos]
     cases q1:lowB e.left <;>cases q2:lowB e.right <;>simp[q1,q2]at h ⊢
   ·rw[if_neg (by simp[t1])]
    refine⟨fun h=>absurd h t2,fun _=>?_⟩
    unfold eqnG;rw[if_neg (by simp[t1]),if_pos t2]
  ·rw[if_pos t1]
   refine⟨fun h=>absurd h t1,fun _=>?_⟩
   unfold eqnG;rw[if_pos t1]
 ·have ht:∀t,termF s t=kE s:=fun t=>by unfold termF;rw[if_pos g0]
  rw[ht,ht,if_pos g0]
  refine⟨fun h=>absurd h g0,fun _=>?_⟩
  unfold eqnF;rw[if_pos g0]
def W151:qH:=fun g' H Bd K=>∃(s:GSignature) (l:List GEquation),g'=[.agg (enc s).toArray,lst l]/\((sm s/\sm l/\rg l)/\K (iv (eqsF s l)) H Bd)
@[go_sem ↓] theorem W151_eq (a:List GSymbol) (b:List GEquation):W151 [.agg #[lst a],lst b] H Bd K=((sm (GSignature.mk a)/\sm b/\rg b)/\K (iv (eqsF (GSignature.mk a) b)) H Bd):=ex2 (GSignature.mk a) b rfl
theorem W151_ok:OK 151 W151:=by
 rintro _ H Bd K ⟨s,l,rfl,hpre,hK⟩
 refine fnp pok ((uA.uB W97_ok).uB W197_ok) [] hK func151 ntmps151 call151 [.tmp 4] fun hb ha=>?_
 refine jF pok fun cv=>?_
 obtain⟨h1,h2,h3⟩:=hpre
 have hlt2:=qS h2
 refine R h1 ?_
 refine⟨fun g1=>?_,fun g1=>?_⟩
 ·have hv0:eqsF s l=eqsG s l:=by unfold eqsF;rw[if_neg (by simp[g1])]
  refine⟨fun hq=>?_,fun hq=>?_⟩
  ·rw[hv0];unfold eqsG;rw[if_pos (by omega)]
  ·have hv:eqsF s l=vI (eqnF s) l:=by
    rw[hv0];unfold eqsG;rw[if_neg (by omega)]
    congr 1;funext e;unfold eqnF;rw[if_neg (by simp[g1])]
   rw[hv]
   refine jA (fun i=>∀j,j<i->∀y,l[j]? =some y->eqnF s y=0) (l.length) (fun i=>[(2,pt Bd),(17,lst l),(18,iv l.length),(19,iv i)]) (fun j hj=>absurd hj (Nat.not_lt_zero _)) (by simp only[go_sem,push_cast,qB,qA]) ?_
   intro i Bi hIi hii hBi
   refine cv (by kernel_rfl) ?_
   rcases xM i (l.length)with hlti|hgei
   ·have e1:l[i]? =some l[i]:=xA hlti
    have h5:=yP h2 (xH hlti)
    have h6:=h3 _ (xH hlti)
    refine R (cj4 e1 h1 h5 h6) ?_
    refine⟨fun h j hj y hy=>?_,fun h=>(firstF_hit e1 hIi h).symm⟩
    ·by_cases e:j=i
     ·subst e;rw[e1]at hy;cases hy;exact h
     ·exact hIi j (by omega) y hy
   ·refine R0 ?_
    refine cv (by kernel_rfl) ?_
    refine R0 ?_
    exact(firstF_all fun x hx=>by
     obtain⟨j,hj,rfl⟩:=wO hx
     exact hIi j (by omega) _ (xA hj)).symm
 ·unfold eqsF;rw[if_pos g1]
theorem L151_pure:PureV W151:=by
 rintro _ H Bd K ⟨x0,x1,rfl,hpre,hK⟩
 exact⟨_,by first|exact .bool _|exact .int _ _|exact .string _|exact vc_enc _,hK,fun H' K' hs h=>⟨x0,x1,rfl,hpre,h⟩⟩
def L151:qH:=LendA W151
@[go_sem ↓] theorem L151_eq (a b:Value):L151 [a,b] H Bd K=qQ W151 (idS [giveA H a,giveA H b]) H Bd K:=(rfl)
theorem L151_ok:OK 151 L151:=LendA_ok W151_ok L151_pure
@[go_sem ↓] def BW99 (n:Nat) (s_symbols:List GSymbol):Tq:=fun H Bd K=>(Yld (H n) fun b=>Yld (kF rdB b) fun x=>((sm (GSignature.mk s_symbols)/\kE (GSignature.mk s_symbols)=0/\x.1.length<=1000000))/\K (lst (eqR (GSignature.mk s_symbols) (x.1,x.2)).1) (upd (upd H n none) n (some ⟨[lst (eqR (GSignature.mk s_symbols) (x.1,x.2)).2.1, .bool (eqR (GSignature.mk s_symbols) (x.1,x.2)).2.2],true⟩)) (Bd+0))
def W99:qH:=fun g' H Bd K=>∃(n:Nat) (s_symbols:List GSymbol),g'=[pt n, .agg #[lst s_symbols]]/\BW99 n s_symbols H Bd K
@[go_sem ↓] theorem W99_eq (a:Nat) (b:List GSymbol):W99 [pt a, .agg #[lst b]] H Bd K=BW99 a b H Bd K:=by
 refine propext ⟨fun h=>?_,fun h=>⟨_,_,rfl,h⟩⟩
 obtain⟨n',s_symbols',e,h⟩:=h
 simp only[xG,Value.agg.injEq,jD,xK,Value.bool.injEq,Value.string.injEq,Value.pointer.injEq,xE,Addr.mk.injEq,lst_inj,true_and,and_true]at e
 obtain⟨rfl,rfl⟩:=e
 exact h
theorem W99_ok:OK 99 W99:=by
 rintro _ H Bd K ⟨n,s_symbols,rfl,b,hb0,x,hx,hpre,hK⟩
 obtain⟨rest,fd⟩:=x
 obtain rfl:=kX hx
 simp only[rdB,flB]at hb0 hK hpre
 obtain⟨s,rfl⟩:∃s:GSignature,s_symbols=s.symbols:=⟨(GSignature.mk s_symbols),rfl⟩
 simp only[eta_GSignature]at hpre hK
 have hnB:HB H Bd->n<Bd:=fun h=>zI h hb0
 obtain⟨G,rfl,gn,gE,gH⟩:=out1 hb0
 rw[gE]at hK
 refine fn_can pok (((uA.uB W98_ok).uB W114_ok).uB L151_ok) [(8,[],[],(.k 6 (.grp false 33 37 4 [34,35,36,37] 38 none (.k 4 .nil) (.k 3 .nil))))] G [] (lst (eqR s (rest,fd)).1) [(n,⟨[lst (eqR s (rest,fd)).2.1, .bool (eqR s (rest,fd)).2.2],true⟩)] hK (lst_unk _) (gH Bd) func99 rfl (rs:=[.tmp 4]) rfl ntmps99 (by simp) call99 (by kernel_rfl) (fun hh hb ha=>?_)
 have hn:=hnB hh
 skip
 clear hK gE gH hnB hb0 hx
 refine jF pok fun cv=>?_
 obtain⟨h1,h2,h3⟩:=hpre
 have hone:=vV (rest,fd)
 have hcl:=vR (rest,fd) 1
 refine S h3 ?_
 refine yM (X:=Nat×List GEquation×List UInt8×Bool) hb (by omega) 1 [.s 5] rfl (fun x=>(x.1:Int)<=yJ (rest,fd)/\x.2.1.length<=x.1/\x.2.2.1.length<=1000000/\smE x.2.1/\eqJ s (rest,fd)=eqI s ((yJ (rest,fd)).toNat-x.1) x.2.2 x.2.1) (fun x=>(yJ (rest,fd)).toNat-x.1) (fun Nx x=>[(0,pt n),(3,pt Bd),(5,sv Nx 2 x.2.1.length (x.2.1.length+1)),(9,iv (yJ (rest,fd))),(10,iv x.1)]) (fun Nx x=>[(n,⟨[lst x.2.2.1, .bool x.2.2.2],true⟩),(Bd,⟨[lst s.symbols],true⟩),(Nx,⟨qO x.2.1,true⟩)]) (0,[],tkS (rest,fd) 1) (⟨hone.1,xT _,wE hcl h3,(fun e he=>by cases he),rfl⟩) (fun Nx hNx=>(cant)) ?_
 intro Nx x hNx hIx hbx Fx hFx
 simp only[mem_cons,jC]at hbx ⊢
 refine cv (by kernel_rfl) ?_
 obtain⟨i,out,rest2,f2⟩:=x
 obtain⟨i1,i2,i3,i5,i4⟩:=hIx
 simp only at i1 i2 i3 i4 i5
 obtain⟨s1,s2⟩:=smE_sm i5 (by omega)
 by_cases hgo:(i:Int)<yJ (rest,fd)/\f2=false
 ·obtain⟨hlt,rfl⟩:=hgo
  have hst:(yJ (rest,fd)).toNat-i=((yJ (rest,fd)).toNat-(i+1))+1:=by omega
  rw[hst,eqI,if_neg (by simp)]at i4
  obtain⟨a1,a2,a3⟩:=trT_le s (rest2,false)
  obtain⟨b1,b2,b3⟩:=trT_le s (trT s (rest2,false)).2
  have hl1:(trT s (rest2,false)).2.1.length<=1000000:=wE a1 i3
  refine SA (cj4 hlt h1 h2 hl1) ?_
  refine hFx (i+1,out++[⟨(trT s (rest2,false)).1,(trT s (trT s (rest2,false)).2).1⟩],(trT s (trT s (rest2,false)).2).2) _ _ _ ?_ ?_ (by simp only[go_sem,push_cast,qB,qA]) ((canf enc_GEquation))
  ·show(yJ (rest,fd)).toNat-(i+1)<(yJ (rest,fd)).toNat-i
   omega
  ·exact⟨show((i+1:Nat):Int)<=_ by omega,by simp;omega,wE b1 hl1,smE_app i5,i4⟩
 ·have hend:eqJ s (rest,fd)=(out,(rest2,f2)):=by
   rw[i4]
   cases f2 with
   |true=>exact eqI_fail
   |false=>rw[show(yJ (rest,fd)).toNat-i=0 by have h9:¬(i:Int)<yJ (rest,fd):=fun h=>hgo ⟨h,rfl⟩;omega];rfl
  have hE:=eqR_of hend
  rw[hE]
  cases f2 with
  |true=>
   by_cases hlt:(i:Int)<yJ (rest,fd)
   ·refine S hlt ?_
    refine cv (by kernel_rfl) ?_
    refine S0 ?_
    exact rq_pubI (by simp (disch:=first|assumption|omega) only[go_sem,push_cast,qB,qA] <;>rfl) rfl (by simp (disch:=first|assumption|omega) only[go_sem,push_cast,qB,qA,qG,qE hb] <;>omega) rfl
   ·refine S hlt ?_
    refine cv (by kernel_rfl) ?_
    refine S0 ?_
    exact rq_pubI (by simp (disch:=first|assumption|omega) only[go_sem,push_cast,qB,qA] <;>rfl) rfl (by simp (disch:=first|assumption|omega) only[go_sem,push_cast,qB,qA,qG,qE hb] <;>omega) rfl
  |false=>
   have hlt:¬(i:Int)<yJ (rest,fd):=fun h=>hgo ⟨h,rfl⟩
   refine S hlt ?_
   refine cv (by kernel_rfl) ?_
   refine S (cj3 h1 s1 s2) ?_
   refine⟨?_,by simp⟩
   exact rq_pubI (by simp (disch:=first|assumption|omega) only[go_sem,push_cast,qB,qA] <;>rfl) rfl (by simp (disch:=first|assumption|omega) only[go_sem,push_cast,qB,qA,qG,qE hb] <;>omega) rfl
def V235:qH:=fun g' H Bd K=>∃(n:Int) (s:GSignature),g'=[iv n, .agg (enc s).toArray]/\((sm s/\R64 n)/\K (.bool (!isSym s n)) H Bd)
def W235:qH:=fun g' H Bd K=>∃(vn ps:Value),g'=[vn,ps]/\Yld (qI H 1 ps) fun cs=>qQ V235 [vn, .agg cs.toArray] H Bd K
theorem W235_ok:OK 235 W235:=by
 rintro _ H Bd K ⟨vn,ps,rfl,cs,es,h⟩
 obtain⟨n,s,e,hpre,hK⟩:=h
 simp only[xG,and_true]at e
 obtain⟨rfl,Es⟩:=e
 obtain rfl:=qR Es
 refine fnp pok (uA.uB W208_ok) [] hK func235 ntmps235 call235 [.tmp 3] fun hb ha=>?_
 have Ps:=qM es (NB.vpok (ha ps (by simp)))
 simp only[qN]at Ps
 have Zs:=Ps.all 1 rfl
 have Ys:=jE (ha ps (by simp))
 exact R (cj Zs hpre) trivial
def V209_235:qH:=fun g' H Bd K=>∃(xs:List Int) (s:GSignature),g'=[lst xs, .agg (enc s).toArray]/\((sm xs/\∀n∈xs,sm s/\R64 n)/\K (.bool (xs.any (fun n:Int=> !isSym s n))) H Bd)
@[go_sem ↓] theorem V209_235_eq (a:List Int) (b:List GSymbol):V209_235 [lst a, .agg #[lst b]] H Bd K=((sm a/\∀n∈a,sm (GSignature.mk b)/\R64 n)/\K (.bool (a.any (fun n:Int=> !isSym (GSignature.mk b) n))) H Bd):=ex2 a (GSignature.mk b) rfl
def W209_235:qH:=fun g' H Bd K=>∃(vxs ps:Value),g'=[vxs, .func (.func 235) #[] #[ps]]/\Yld (qI H 1 ps) fun cs=>qQ V209_235 [vxs, .agg cs.toArray] H Bd K
@[go_sem ↓] theorem W209_235_eq (a b:Value):W209_235 [a, .func (.func 235) #[] #[b]] H Bd K=(Yld (qI H 1 b) fun cs=>qQ V209_235 (idS [a, .agg cs.toArray]) H Bd K):=by
 refine propext ⟨fun h=>?_,fun h=>⟨_,_,rfl,h⟩⟩
 obtain⟨vxs',ps',e,h⟩:=h
 simp only[xG,Value.func.injEq,jD,xG,and_true,true_and]at e
 obtain⟨rfl,rfl⟩:=e
 exact h
theorem W209_235_ok:OK 209 W209_235:=by
 rintro _ H Bd K ⟨vxs,ps,rfl,cs,es,h⟩
 obtain⟨xs,s,e,hpre,hK⟩:=h
 simp only[xG,and_true]at e
 obtain⟨rfl,Es⟩:=e
 obtain rfl:=qR Es
 refine G209 235 #[ps] (fun n:Int=> !isSym s n) xs H Bd K hpre.1 (fun x hx B hB K' hk=>?_) hK
 exact W235_ok _ _ _ _ ⟨_,_,rfl,_,es,x,s,rfl,hpre.2 x hx,hk⟩
def W198:qH:=fun g' H Bd K=>∃(s:GSignature) (order:List Int),g'=[.agg (enc s).toArray,lst order]/\((sm s/\sm order/\rg order)/\K (iv (ordF s order)) H Bd)
@[go_sem ↓] theorem W198_eq (a:List GSymbol) (b:List Int):W198 [.agg #[lst a],lst b] H Bd K=((sm (GSignature.mk a)/\sm b/\rg b)/\K (iv (ordF (GSignature.mk a) b)) H Bd):=ex2 (GSignature.mk a) b rfl
theorem W198_ok:OK 198 W198:=by
 rintro _ H Bd K ⟨s,order,rfl,hpre,hK⟩
 refine fnp pok (((uA.uB W97_ok).uB W209_235_ok).uB W104_ok) [] hK func198 ntmps198 call198 [.tmp 4] fun hb ha=>?_
 refine jF pok fun cv=>?_
 obtain⟨h1,h2,h3⟩:=hpre
 have hss:sm s:=h1
 simp only[yN]at h1
 have hlen:=qS h1
 have hlen2:=qS h2
 refine R (cj hss h2) ?_
 refine⟨fun g1=>⟨fun g2=>⟨fun n hn=>h3 n hn,fun g3=>?_,fun g3=>?_⟩,fun g2=>?_⟩,fun g1=>?_⟩
 ·unfold ordF ordG;rw[if_neg (by simp[g1]),if_neg (by omega),if_pos g3]
 ·have hs:ordF s order=if order.Nodup then 0 else 6:=by unfold ordF ordG;rw[if_neg (by simp[g1]),if_neg (by omega),if_neg g3]
  rw[hs]
  refine jA (fun j=>∀a b x y,b<a->a<j->order[a]? =some x->order[b]? =some y->x≠y) (order.length) (fun j=>[(1,lst order),(22,lst order),(23,iv order.length),(24,iv j)]) (by simp) (by simp only[go_sem,push_cast,qB,qA]) ?_
  intro j Bj hIj hij hBj
  refine cv (by kernel_rfl) ?_
  rcases xM j (order.length)with hltj|hgej
  ·have e1:order[j]? =some order[j]:=xA hltj
   have h4:sm (order.take j):=sm_take h2 j
   refine R (cj e1 h4) ?_
   refine⟨fun h=>?_,fun h=>?_⟩
   ·obtain⟨x,hx,he⟩:=List.any_eq_true.1 h
    obtain⟨k,hk,rfl⟩:=wO hx
    have hk':k<j:=by simp at hk;omega
    rw[if_neg (nodup_not hk' hltj (by simpa using he))]
   ·intro a b x y g4 g5 g6 g7
    by_cases e:a=j
    ·subst e
     rw[e1]at g6;cases g6
     intro e
     refine h (List.any_eq_true.2 ⟨y,?_,by simpa using e⟩)
     exact wC (i:=b) (by rw[List.getElem?_take,if_pos g4];exact g7)
    ·exact hIj a b x y g4 (by omega) g6 g7
  ·refine R0 ?_
   refine cv (by kernel_rfl) ?_
   refine R0 ?_
   rw[if_pos (nodup_of fun i j x y h1 h2 h3=>hIj i j x y h1 (by have:=(xR.1 h2).1;omega) h2 h3)]
 ·unfold ordF ordG;rw[if_neg (by simp[g1]),if_pos (by omega)]
 ·unfold ordF;rw[if_pos g1]
theorem G253(g:Nat)(caps:Array Value)(p:GEquation->Bool)(xs:List GEquation)(H:AH)(Bd:Nat)(K:Value->AH->Nat->Prop)(hsm:sm xs)(hg:∀x∈xs,∀B,Bd<=B->∀K':Value->AH->Nat->Prop,K' (.bool (p x)) H B->SCalls Tryz.prog g (idS ((.agg (enc (x)).toArray)::caps.toList)) H B K')(hK:K (iv (fidx p xs)) H Bd):SCalls Tryz.prog 253 [lst xs, .func (.func g) #[] caps] H Bd K:=by
 refine yF pok uA [] _ hK func253 rfl (rs:=[.tmp 4]) rfl ntmps253 (by simp) call253 (by kernel_rfl) (fun ha hb=> .int _ _) (fun hb ha=>?_)
 refine jF pok fun cv=>?_
 have hlen:=qS hsm
 refine R0 ?_
 refine jA (fun i=>∀j,j<i->∀x,xs[j]? =some x->p x=false) (xs.length) (fun i=>[(0,lst xs),(1, .func (.func g) #[] caps),(7,iv xs.length),(8,iv i)]) (by simp) (by simp only[go_sem,push_cast,qB,qA]) ?_
 intro i Bi hIi hii hBi
 refine cv (by kernel_rfl) ?_
 rcases xM i (xs.length)with hlti|hgei
 ·have e1:xs[i]? =some xs[i]:=xA hlti
  refine R e1 ?_
  refine hg _ (xH hlti) _ (by omega) _ ?_
  refine R e1 ?_
  exact⟨fun h=>by rw[zC hlti hIi h],fun h=>fun j hj x hx=>by
   by_cases e:j=i
   ·subst e;rw[e1]at hx;cases hx;simpa using h
   ·exact hIi j (by omega) x hx⟩
 ·refine R0 ?_
  refine cv (by kernel_rfl) ?_
  refine R0 ?_
  rw[vY fun j hj x hx=>hIi j (by omega) x hx]
theorem G236(g:Nat)(caps:Array Value)(p:GEquation->Bool)(xs:List GEquation)(H:AH)(Bd:Nat)(K:Value->AH->Nat->Prop)(hsm:sm xs)(hg:∀x∈xs,∀B,Bd<=B->∀K':Value->AH->Nat->Prop,K' (.bool (p x)) H B->SCalls Tryz.prog g (idS ((.agg (enc (x)).toArray)::caps.toList)) H B K')(hK:K (.bool (xs.any p)) H Bd):SCalls Tryz.prog 236 [lst xs, .func (.func g) #[] caps] H Bd K:=by
 refine yF pok uA [] _ hK func236 rfl (rs:=[.tmp 4]) rfl ntmps236 (by simp) call236 (by kernel_rfl) (fun ha hb=> .bool _) (fun hb ha=>?_)
 refine R0 ?_
 refine G253 _ _ p xs _ _ _ hsm hg ?_
 refine R0 ?_
 exact fidx_ge p xs
def V254:qH:=fun g' H Bd K=>∃(v:Int) (l:List Int),g'=[iv v, .agg (enc l).toArray]/\((sm l)/\K (.bool (!l.any fun x=>decide (v=x))) H Bd)
def W254:qH:=fun g' H Bd K=>∃(vv pl:Value),g'=[vv,pl]/\Yld (qI H 1 pl) fun cl=>qQ V254 [vv, .agg cl.toArray] H Bd K
theorem W254_ok:OK 254 W254:=by
 rintro _ H Bd K ⟨vv,pl,rfl,cl,el,h⟩
 obtain⟨v,l,e,hpre,hK⟩:=h
 simp only[xG,and_true]at e
 obtain⟨rfl,El⟩:=e
 obtain rfl:=qR El
 refine fnp pok (uA.uB W104_ok) [] hK func254 ntmps254 call254 [.tmp 3] fun hb ha=>?_
 have Pl:=qM el (NB.vpok (ha pl (by simp)))
 simp only[jS,jT,jH,jK,jB]at Pl
 have Zl:=Pl.all 1 rfl
 have Yl:=jE (ha pl (by simp))
 exact R (cj Zl hpre) trivial
def V209_254:qH:=fun g' H Bd K=>∃(xs:List Int) (l:List Int),g'=[lst xs, .agg (enc l).toArray]/\((sm xs/\∀v∈xs,sm l)/\K (.bool (xs.any (fun v:Int=> !l.any fun x=>decide (v=x)))) H Bd)
@[go_sem ↓] theorem V209_254_eq (a b:List Int):V209_254 [lst a, .agg #[lst b]] H Bd K=((sm a/\∀v∈a,sm b)/\K (.bool (a.any (fun v:Int=> !b.any fun x=>decide (v=x)))) H Bd):=ex2 a b rfl
def W209_254:qH:=fun g' H Bd K=>∃(vxs pl:Value),g'=[vxs, .func (.func 254) #[] #[pl]]/\Yld (qI H 1 pl) fun cl=>qQ V209_254 [vxs, .agg cl.toArray] H Bd K
@[go_sem ↓] theorem W209_254_eq (a b:Value):W209_254 [a, .func (.func 254) #[] #[b]] H Bd K=(Yld (qI H 1 b) fun cl=>qQ V209_254 (idS [a, .agg cl.toArray]) H Bd K):=by
 refine propext ⟨fun h=>?_,fun h=>⟨_,_,rfl,h⟩⟩
 obtain⟨vxs',pl',e,h⟩:=h
 simp only[xG,Value.func.injEq,jD,xG,and_true,true_and]at e
 obtain⟨rfl,rfl⟩:=e
 exact h
theorem W209_254_ok:OK 209 W209_254:=by
 rintro _ H Bd K ⟨vxs,pl,rfl,cl,el,h⟩
 obtain⟨xs,l,e,hpre,hK⟩:=h
 simp only[xG,and_true]at e
 obtain⟨rfl,El⟩:=e
 obtain rfl:=qR El
 refine G209 254 #[pl] (fun v:Int=> !l.any fun x=>decide (v=x)) xs H Bd K hpre.1 (fun x hx B hB K' hk=>?_) hK
 exact W254_ok _ _ _ _ ⟨_,_,rfl,_,el,x,l,rfl,hpre.2 x hx,hk⟩
@[go_sem ↓] def BW238 (e:GEquation):Tq:=fun H Bd K=>((sm e/\e.left.length<=24/\e.right.length<=24/\smallN e.left/\smallN e.right/\1<=e.left.length)/\K (.bool (ruleOK e)) H Bd)
def W238:qH:=fun g' H Bd K=>∃(e:GEquation),g'=[.agg (enc e).toArray]/\BW238 e H Bd K
@[go_sem ↓] theorem W238_eq (a b:List Int):W238 [.agg #[lst a,lst b]] H Bd K=BW238 (GEquation.mk a b) H Bd K:=ex1 (GEquation.mk a b) rfl
theorem W238_ok:OK 238 W238:=by
 rintro _ H Bd K ⟨e,rfl,hpre,hK⟩
 refine fnp pok ((uA.uB W233_ok).uB W209_254_ok) [] hK func238 ntmps238 call238 [.tmp 2] fun hb ha=>?_
 obtain⟨h1,h2,h3,h4,h5,h6⟩:=hpre
 simp only[zG]at h1
 have h7:=h1.1
 have h8:=h1.2
 have e2:e.left[0]? =some (e.left[0]'(by omega)):=xA _
 refine R (cj5 e2 h7 h8 h4 h5) ?_
 have e3:e.left.headD 0=e.left[0]'(by omega):=headD_get h6
 have hone:∀t:List Int,t.length<=24->smallN t->∀x∈[t],x.length<=24/\smallN x:=fun t a b x hx=>by rw[wR.1 hx];exact⟨a,b⟩
 refine⟨fun h=>?_,fun h=>⟨⟨sm_one h7,hone _ h2 h4⟩,⟨sm_one h8,hone _ h3 h5⟩,⟨sm_uniq (by simp) fun t ht=>(hone _ h3 h5 t ht).1,fun v _=>sm_uniq (by simp) fun t ht=>(hone _ h2 h4 t ht).1⟩,?_⟩⟩
 ·unfold ruleOK
  rw[e3,decide_eq_false (by omega)];rfl
 ·rw[vars_rule]
  unfold ruleOK
  rw[e3,decide_eq_true (by omega)];rfl
def W237:qH:=fun g' H Bd K=>∃(e:GEquation),g'=[.agg (enc e).toArray]/\((sm e/\e.left.length<=24/\e.right.length<=24/\smallN e.left/\smallN e.right/\1<=e.left.length)/\K (.bool (!ruleOK e)) H Bd)
theorem W237_ok:OK 237 W237:=by
 rintro _ H Bd K ⟨e,rfl,hpre,hK⟩
 refine fnp pok (uA.uB W238_ok) [] hK func237 ntmps237 call237 [.tmp 2] fun hb ha=>?_
 exact R hpre trivial
@[go_sem ↓] def BV236_237 (xs:List GEquation):Tq:=fun H Bd K=>((sm xs/\∀e∈xs,sm e/\e.left.length<=24/\e.right.length<=24/\smallN e.left/\smallN e.right/\1<=e.left.length)/\K (.bool (xs.any (fun e:GEquation=> !ruleOK e))) H Bd)
def V236_237:qH:=fun g' H Bd K=>∃(xs:List GEquation),g'=[lst xs]/\BV236_237 xs H Bd K
@[go_sem ↓] theorem V236_237_eq (a:List GEquation):V236_237 [lst a] H Bd K=BV236_237 a H Bd K:=ex1 a rfl
def W236_237:qH:=fun g' H Bd K=>∃(vxs:Value),g'=[vxs, .func (.func 237) #[] #[]]/\qQ V236_237 [vxs] H Bd K
@[go_sem ↓] theorem W236_237_eq (a:Value):W236_237 [a, .func (.func 237) #[] #[]] H Bd K=(qQ V236_237 (idS [a]) H Bd K):=by
 refine propext ⟨fun h=>?_,fun h=>⟨_,rfl,h⟩⟩
 obtain⟨vxs',e,h⟩:=h
 simp only[xG,Value.func.injEq,jD,xG,and_true,true_and]at e
 obtain rfl:=e
 exact h
theorem W236_237_ok:OK 236 W236_237:=by
 rintro _ H Bd K ⟨vxs,rfl,h⟩
 obtain⟨xs,e,hpre,hK⟩:=h
 simp only[xG,and_true]at e
 obtain rfl:=e
 refine G236 237 #[] (fun e:GEquation=> !ruleOK e) xs H Bd K hpre.1 (fun x hx B hB K' hk=>?_) hK
 exact W237_ok _ _ _ _ ⟨x,rfl,hpre.2 x hx,hk⟩
def W199:qH:=fun g' H Bd K=>∃(s:GSignature) (l:List GEquation),g'=[.agg (enc s).toArray,lst l]/\((sm s/\sm l/\rg l)/\K (iv (rulesF s l)) H Bd)
@[go_sem ↓] theorem W199_eq (a:List GSymbol) (b:List GEquation):W199 [.agg #[lst a],lst b] H Bd K=((sm (GSignature.mk a)/\sm b/\rg b)/\K (iv (rulesF (GSignature.mk a) b)) H Bd):=ex2 (GSignature.mk a) b rfl
theorem W199_ok:OK 199 W199:=by
 rintro _ H Bd K ⟨s,l,rfl,hpre,hK⟩
 refine fnp pok ((uA.uB W151_ok).uB W236_237_ok) [] hK func199 ntmps199 call199 [.tmp 4] fun hb ha=>?_
 obtain⟨h1,h2,h3⟩:=hpre
 refine R (cj3 h1 h2 h3) ?_
 by_cases g0:kE s=0
 ·have hs:=yT g0
  have v1:eqsF s l=eqsG s l:=by unfold eqsF;rw[if_neg (by simp[g0])]
  have v2:rulesF s l=vS s l:=by unfold rulesF;rw[if_neg (by simp[g0])]
  rw[v1,v2]
  refine⟨fun h=>⟨fun e he=>?_,fun a=>?_,fun a=>?_⟩,fun h=>?_⟩
  ·have h4:=zS ((eqsG_zero h).2 e he)
   have o1:=term_small hs h4.1
   have o2:=term_small hs h4.2.1
   exact⟨yP h2 he,o1.1,o2.1,o1.2,o2.2,h4.1.len.1⟩
  ·unfold vS
   rw[if_neg (by simp[h]),if_neg]
   intro hc
   rw[<-any_not,a]at hc;cases hc
  ·unfold vS
   rw[if_neg (by simp[h]),if_pos]
   rw[<-any_not]
   cases q:(l.any fun e=> !ruleOK e) <;>simp[q]at a ⊢
  ·unfold vS;rw[if_pos h]
 ·have v1:eqsF s l=kE s:=by unfold eqsF;rw[if_pos g0]
  have v2:rulesF s l=kE s:=by unfold rulesF;rw[if_pos g0]
  rw[v1,v2]
  exact⟨fun h=>absurd h g0,fun _=>rfl⟩
@[go_sem ↓] def BW274 (s:GSignature) (t:List Int) (a:Int):Tq:=fun H Bd K=>((sm s/\sm t/\kE s=0/\nodes s t/\0<=a/\a<t.length/\0<=ep s t 1 a.toNat)/\K (lst (subT s t a.toNat)) H Bd)
def W274:qH:=fun g' H Bd K=>∃(s:GSignature) (t:List Int) (a:Int),g'=[.agg (enc s).toArray,lst t,iv a]/\BW274 s t a H Bd K
@[go_sem ↓] theorem W274_eq (a:List GSymbol) (b:List Int) (c:Int):W274 [.agg #[lst a],lst b,iv c] H Bd K=BW274 (GSignature.mk a) b c H Bd K:=ex3 (GSignature.mk a) b c rfl
theorem W274_ok:OK 274 W274:=by
 rintro _ H Bd K ⟨s,t,a,rfl,hpre,hK⟩
 refine fnp pok (uA.uB W211_ok) [] hK func274 ntmps274 call274 [.tmp 6] fun hb ha=>?_
 obtain⟨h1,h2,h3,h4,h5,h6,h7⟩:=hpre
 obtain⟨a,rfl⟩:=Int.eq_ofNat_of_zero_le h5
 simp only[Int.toNat_natCast]at h7
 have hlt2:=qS h2
 rcases ep_cases (s:=s) (t:=t) 1 (show a<=t.length by omega)with⟨q1,_⟩|⟨m,q1,q2,q3,_⟩
 ·omega
 have hif:(if ep s t 1 a<0 then(t.length:Int)+1 else ep s t 1 a)=(a+m:Nat):=by rw[if_neg (by omega),q3]
 refine R (cj5 h1 h2 h3 h4 hif) ?_
 have c1:((a:Int)+m).toNat=a+m:=by omega
 have d1:subT s t a=(t.take (a+m)).drop a:=by unfold subT;rw[q3,Int.toNat_natCast,List.drop_take]
 rw[c1,d1]
 exact .same _
@[go_sem ↓] def BW275 (s:GSignature) (t:List Int) (a:Int):Tq:=fun H Bd K=>((sm s/\sm t/\kE s=0/\nodes s t/\0<=a/\a<t.length/\0<=ep s t 1 a.toNat)/\K (lst (argsP s t a.toNat (arN s (t.getD a.toNat 0)))) H Bd)
def W275:qH:=fun g' H Bd K=>∃(s:GSignature) (t:List Int) (a:Int),g'=[.agg (enc s).toArray,lst t,iv a]/\BW275 s t a H Bd K
@[go_sem ↓] theorem W275_eq (a:List GSymbol) (b:List Int) (c:Int):W275 [.agg #[lst a],lst b,iv c] H Bd K=BW275 (GSignature.mk a) b c H Bd K:=ex3 (GSignature.mk a) b c rfl
theorem W275_ok:OK 275 W275:=by
 rintro _ H Bd K ⟨s,t,a,rfl,hpre,hK⟩
 refine fnp pok ((uA.uB W166_ok).uB W211_ok) [(3,[0,1,2,3,4,6,5],[z0 0,z0 1,z0 2,z0 3,z0 4,z0 6,z0 5], .nil)] hK func275 ntmps275 call275 [.tmp 6] fun hb ha=>?_
 refine jF pok fun cv=>?_
 obtain⟨h1,h2,h3,h4,h5,h6,h8⟩:=hpre
 have hss:sm s:=h1
 have hlt2:=qS h2
 have hs:=yT h3
 obtain⟨a,rfl⟩:=Int.eq_ofNat_of_zero_le h5
 simp only[Int.toNat_natCast]at h8
 have hlt:a<t.length:=by omega
 have e1:t[a]? =some t[a]:=xA hlt
 have e3:t.getD a 0=t[a]:=by rw[xF,e1];rfl
 have hn:=h4 _ (xH hlt)
 have ha2:=arN_le hs t[a]
 rw[ep_node 0 e1,Nat.zero_add]at h8
 have hn2:=hn.2
 refine R (cj5 e1 e3 hss h3 hn2) ?_
 refine tr_acc (α:=Int) (H0:=upd H Bd (some ⟨[lst s.symbols],true⟩)) (B0:=Bd+1) (n0:=Bd+1) (arN s t[a]) (fun i=>argsP s t a i) (fun i out=>[(1,lst t),(3,pt Bd),(7,out),(8,iv (ep s t i (a+1))),(17,iv (arN s t[a])),(18,iv i)]) (xC 1) ⟨by omega,by omega⟩ (by simp only[go_sem,push_cast,qB,qA,argsP_zero,ep_zero (show a+1<=t.length by omega)]) (by simp (disch:=first|assumption|omega) only[go_sem,push_cast,qB,qA,qZ,argsP_zero,ep_zero (show a+1<=t.length by omega)]) ?_
 intro i ni ci Bi hii hci hni hmi hBi hbi
 refine cv (by kernel_rfl) ?_
 have hzi:(ci=0)=False:=eq_false (by omega)
 rcases xM i (arN s t[a])with hlti|hgei
 ·obtain⟨m,q1,q2,q3,q4,q5⟩:=arg_at hlt h8 hlti
  have hcv:((a:Int)+1+m).toNat=a+1+m:=by omega
  have hst:=argsP_succ s t a i
  rw[q3]at hst
  have hl3:=argsP_len s t a i
  have hif:(if ep s t 1 (a+1+m)<0 then(t.length:Int)+1 else ep s t 1 (a+1+m))=ep s t 1 (a+1+m):=if_neg (by omega)
  simp (maxSteps:=2000000) (disch:=first|exact dq|fail) only[go_sem,push_cast,qB,qA,qL hb,qE hb,q3,q4,hcv,hss,h2,h3,h4,hzi,hst,hif,qK,qT]
  exact acc_end (by omega) (by omega) (by simp) rfl (by simp (disch:=first|assumption|omega|(simp (disch:=omega) only[qG,qE hb];done)) only[jP,qA,qU,qG,qE hb])
 ·refine R0 ?_
  refine Tr.fin2 7 (by simp (disch:=first|assumption|omega) only[qG,qE hb]) (by simp only[go_sem,push_cast,qB,qA];rfl) rfl ?_
  refine cv (by kernel_rfl) ?_
  rw[<-show i=arN s t[a] by omega]
  exact R0 trivial
end Go.Proofs.YtogofkjpbpgneaaGreatDoor
