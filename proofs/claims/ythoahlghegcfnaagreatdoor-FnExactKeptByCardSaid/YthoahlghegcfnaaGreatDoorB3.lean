/- YthoahlghegcfnaaGreatDoorB3 -/
import Derived.Test.YthoahlghegcfnaaGreatDoorB2
set_option linter.unusedSimpArgs false
set_option linter.unusedVariables false
set_option maxRecDepth 20000
namespace Go.Proofs.YthoahlghegcfnaaGreatDoor
open Go Go.SC
variable {H:AH} {Bd:Nat} {K:Value→AH→Nat→Prop}
def V172_173:Trans:=fun args H Bd K=>∃(xs:List GPut) (n:Int),args=[lst xs, .agg (enc n).toArray]∧((sm xs)∧K (.int .i64 (fidx (fun x:GPut=>decide (x.sector=n)) xs)) H Bd)
@[go_sem ↓] theorem V172_173_eq (xs:List GPut) (n:Int):V172_173 [lst xs, .agg #[.int .i64 n]] H Bd K=((sm xs)∧K (.int .i64 (fidx (fun x:GPut=>decide (x.sector=n)) xs)) H Bd):=ex2 xs n rfl
def W172_173:Trans:=fun args H Bd K=>∃(vxs pn:Value),args=[vxs, .func (.func 173) #[] #[pn]]∧Yld (cellsAt H 1 pn) fun cn=>callW V172_173 [vxs, .agg cn.toArray] H Bd K
@[go_sem ↓] theorem W172_173_eq (vxs pn:Value):W172_173 [vxs, .func (.func 173) #[] #[pn]] H Bd K=(Yld (cellsAt H 1 pn) fun cn=>callW V172_173 (idS [vxs, .agg cn.toArray]) H Bd K):=by
 refine propext ⟨fun h=> ?_,fun h=>⟨_,_,rfl,h⟩⟩
 obtain⟨vxs',pn',e,h⟩:=h
 simp only[List.cons.injEq,Value.func.injEq,toArr_inj,List.cons.injEq,and_true,true_and]at e
 obtain⟨rfl,rfl⟩:=e
 exact h
theorem W172_173_ok:OK 172 W172_173:=by
 rintro args H Bd K ⟨vxs,pn,rfl,cn,en,h⟩
 obtain⟨xs,n,e,hpre,hK⟩:=h
 simp only[List.cons.injEq,and_true]at e
 obtain⟨rfl,En⟩:=e
 obtain rfl:=agg_inj En
 refine G172 173 #[pn] (fun x:GPut=>decide (x.sector=n)) xs H Bd K hpre (fun x hx B hB K' hk=> ?_) hK
 exact W173_ok _ _ _ _ ⟨_,_,rfl,_,en,x,n,rfl,hk⟩
def W117:Trans:=fun args H Bd K=>∃(d:GDisk) (n:Int),args=[.agg (enc d).toArray, .int .i64 n]∧((sm d)∧K (.int .i64 (waitD d n)) H Bd)
@[go_sem ↓] theorem W117_eq (d_sectors:List (List UInt8)) (d_pending:List GPut) (n:Int):W117 [.agg #[lst d_sectors,lst d_pending], .int .i64 n] H Bd K=((sm (GDisk.mk d_sectors d_pending))∧K (.int .i64 (waitD (GDisk.mk d_sectors d_pending) n)) H Bd):=ex2 (GDisk.mk d_sectors d_pending) n rfl
theorem W117_ok:OK 117 W117:=by
 rintro args H Bd K ⟨d,n,rfl,hpre,hK⟩
 refine fnp pok ((Env.base _).add 172 _ W172_173_ok) [] hK Tryz.func117 Tryz.ntmps117 Tryz.call117 [.tmp 4] fun hb ha=> ?_
 simp only[sm_GDisk]at hpre
 refine R hpre ?_
 try rfl
def W56:Trans:=fun args H Bd K=>∃(d:GDisk),args=[.agg (enc d).toArray]∧((sm d)∧K (.int .i64 (diskF d)) H Bd)
@[go_sem ↓] theorem W56_eq (d_sectors:List (List UInt8)) (d_pending:List GPut):W56 [.agg #[lst d_sectors,lst d_pending]] H Bd K=((sm (GDisk.mk d_sectors d_pending))∧K (.int .i64 (diskF (GDisk.mk d_sectors d_pending))) H Bd):=ex1 (GDisk.mk d_sectors d_pending) rfl
set_option maxHeartbeats 2000000 in
theorem W56_ok:OK 56 W56:=by
 rintro args H Bd K ⟨d,rfl,hpre,hK⟩
 refine fnp pok (((((Env.base _).add 113 _ W113_ok).add 114 _ W114_115_ok).add 116 _ W116_ok).add 117 _ W117_ok) [] hK Tryz.func56 Tryz.ntmps56 Tryz.call56 [.tmp 2] fun hb ha=> ?_
 refine withC pok fun cv=> ?_
 have hd:=hpre
 simp only[sm_GDisk]at hpre
 have hlen:=sm_len hpre.1
 have hlen2:=sm_len hpre.2
 rcases Decidable.em (¬(8≤d.sectors.length∧d.sectors.length≤64))with h8|h8
 ·have hf:diskF d=2:=by unfold diskF;rw[if_pos h8]
  refine R (cj hd hf) ?_
  all_goals first|trivial|exact fun a b=>absurd (And.intro (by omega) (by omega)) h8
 have hf:diskF d=diskG d:=by unfold diskF;rw[if_neg h8]
 rw[hf]
 obtain⟨h81,h82⟩:=Decidable.not_not.1 h8
 have hall:∀x∈d.sectors,sm x:=fun x hx=>sm_mem hpre.1 hx
 by_cases hany0:d.sectors.any (fun b=>decide (b.length≠96))=true
 ·have hg:diskG d=1:=by unfold diskG;rw[if_pos hany0]
  rw[hg]
  exact R (cj h81 (cj h82 (cj hpre (cj hall hany0)))) trivial
 ·have hany:d.sectors.any (fun b=>decide (b.length≠96))=false:=by simpa using hany0
  by_cases hp:d.pending.length>d.sectors.length
  ·have hg:diskG d=2:=by unfold diskG;rw[if_neg (by rw[hany];exact Bool.false_ne_true),if_pos hp]
   rw[hg]
   exact R (cj h81 (cj h82 (cj hpre (cj hall (cj hany hp))))) trivial
  have hg:diskG d=if putF d.sectors.length d.pending≠0 then putF d.sectors.length d.pending else if(d.pending.map (·.sector)).Nodup then 0 else 6:=by unfold diskG;rw[if_neg (by rw[hany];exact Bool.false_ne_true),if_neg hp]
  refine R (cj h81 (cj h82 (cj hpre (cj hall (cj hany hp))))) ?_
  refine tr_for (fun i=>putF d.sectors.length (d.pending.drop i)=putF d.sectors.length d.pending) (d.pending.length) (fun i=>[(1, .pointer (some ⟨Bd,0,none⟩)),(23,lst d.pending),(24, .int .i64 d.pending.length),(25, .int .i64 i)]) (by simp) (by simp only[go_sem,push_cast,and_pos,Le_updF]) ?_
  intro i Bi hIi hii hBi
  refine cv (by kernel_rfl) ?_
  rcases Nat.lt_or_ge i (d.pending.length)with hlti|hgei
  ·have e1:d.pending[i]? =some d.pending[i]:=List.getElem?_eq_getElem hlti
   have hd2:=List.drop_eq_getElem_cons hlti
   have hx:=sm_mem hpre.2 (List.getElem_mem hlti)
   simp only[sm_GPut]at hx
   have hx2:=sm_len hx.2
   rw[hd2,putF]at hIi
   by_cases hr:0≤d.pending[i].sector∧d.pending[i].sector≤(d.sectors.length:Int)-1
   ·rw[if_neg (by simpa using hr)]at hIi
    by_cases hb9:d.pending[i].bytes.length=96
    ·rw[if_neg (by simpa using hb9)]at hIi
     obtain⟨hr1,hr2⟩:=hr
     exact R (cj e1 (cj hd (cj hr1 (cj hr2 (cj hb9 hIi))))) trivial
    ·rw[if_pos hb9]at hIi
     have hg2:diskG d=1:=by rw[hg,←hIi];rfl
     obtain⟨hr1,hr2⟩:=hr
     rw[hg2]
     exact R (cj e1 (cj hd (cj hr1 (cj hr2 hb9)))) trivial
   ·rw[if_pos hr]at hIi
    have hg2:diskG d=3:=by rw[hg,←hIi];rfl
    rw[hg2]
    refine R (cj e1 (cj hd hr)) ?_
    all_goals (first|trivial|exact fun a b=>absurd (And.intro (by omega) (by omega)) hr|(intros;omega))
  ·refine R0 ?_
   have h0:putF d.sectors.length d.pending=0:=by rw[←hIi,List.drop_of_length_le hgei];rfl
   rw[h0]at hg
   simp only[ne_eq,not_true_eq_false,if_false]at hg
   refine cv (by kernel_rfl) ?_
   refine R0 ?_
   refine tr_for (fun j=>∀a b x y,b<a→a<j→d.pending[a]? =some x→d.pending[b]? =some y→x.sector≠y.sector) (d.pending.length) (fun j=>[(1, .pointer (some ⟨Bd,0,none⟩)),(40,lst d.pending),(41, .int .i64 d.pending.length),(42, .int .i64 j)]) (by simp) (by simp only[go_sem,push_cast,and_pos,Le_updF]) ?_
   intro j Bj hIj hij hBj
   refine cv (by kernel_rfl) ?_
   rcases Nat.lt_or_ge j (d.pending.length)with hltj|hgej
   ·have e1:d.pending[j]? =some d.pending[j]:=List.getElem?_eq_getElem hltj
    have hself:=waitD_self hltj
    by_cases hq:waitD d d.pending[j].sector=j
    ·refine R (cj e1 (cj hd hq)) ?_
     intro a b x y h1 h2 h3 h4
     by_cases e:a=j
     ·subst e
      rw[e1]at h3;cases h3
      have hb2:b<d.pending.length:=by omega
      rw[List.getElem?_eq_getElem hb2]at h4;cases h4
      exact fun q=>((hself.1 hq) b h1) q.symm
     ·exact hIj a b x y h1 (by omega) h3 h4
    ·have hn:¬(d.pending.map (·.sector)).Nodup:=fun hn=>hq (hself.2 fun k hk e=>nodup_map_not (f:=(·.sector)) hk hltj e.symm hn)
     rw[if_neg hn]at hg
     rw[hg]
     exact R (cj e1 (cj hd hq)) trivial
   ·refine R0 ?_
    refine cv (by kernel_rfl) ?_
    have h7:(d.pending.map (·.sector)).Nodup:=nodup_map fun i j x y h1 h2 h3 h4=>hIj i j x y h1 (by omega) h3 h4
    rw[if_pos h7]at hg
    rw[hg]
    exact R0 trivial
def W119:Trans:=fun args H Bd K=>∃(n:Int),args=[.int .i64 n]∧(K (.bool (isPg n)) H Bd)
@[go_sem ↓] theorem W119_eq (n:Int):W119 [.int .i64 n] H Bd K=(K (.bool (isPg n)) H Bd):=ex1 n rfl
theorem W119_ok:OK 119 W119:=by
 rintro args H Bd K ⟨n,rfl,hK⟩
 refine fnp pok ((Env.base _).add 113 _ W113_ok) [] hK Tryz.func119 Tryz.ntmps119 Tryz.call119 [.tmp 2] fun hb ha=> ?_
 refine R0 ?_
 unfold isPg
 all_goals first|done|trivial|((try simp only[Cnp,Imp]);grind)
def W118:Trans:=fun args H Bd K=>∃(n:Int),args=[.int .i64 n]∧(K (.bool (isRt n)) H Bd)
@[go_sem ↓] theorem W118_eq (n:Int):W118 [.int .i64 n] H Bd K=(K (.bool (isRt n)) H Bd):=ex1 n rfl
theorem W118_ok:OK 118 W118:=by
 rintro args H Bd K ⟨n,rfl,hK⟩
 refine fnp pok ((Env.base _).add 119 _ W119_ok) [(1,[],[],(.k 3 (.grp false 5 7 2 [6,7] 8 none (.k 2 .nil) (.k 1 .nil))))] hK Tryz.func118 Tryz.ntmps118 Tryz.call118 [.tmp 2] fun hb ha=> ?_
 refine R0 ?_
 unfold isRt
 all_goals first|done|trivial|((try simp only[Cnp,Imp]);grind)
def W133:Trans:=fun args H Bd K=>∃(s:ByteArray),args=[.string s]∧((s.size≤281474976710656)∧K (.bool (isNm s)) H Bd)
@[go_sem ↓] theorem W133_eq (s:ByteArray):W133 [.string s] H Bd K=((s.size≤281474976710656)∧K (.bool (isNm s)) H Bd):=ex1 s rfl
theorem W133_ok:OK 133 W133:=by
 rintro args H Bd K ⟨s,rfl,hpre,hK⟩
 refine fnp pok ((Env.base _).add 195 _ W195_ok) [(1,[],[],(.k 4 (.grp true 6 9 3 [7,8,9] 10 none (.k 3 .nil) (.k 1 (.grp true 11 14 3 [12,13,14] 15 none (.k 3 .nil) (.k 1 .nil))))))] hK Tryz.func133 Tryz.ntmps133 Tryz.call133 [.tmp 2] fun hb ha=> ?_
 refine R hpre ?_
 exact⟨fun _ _=>⟨by decide,az_lt⟩,isNm_trim s⟩
theorem G196(g:Nat)(caps:Array Value)(p:GSymbol→Bool)(xs:List GSymbol)(H:AH)(Bd:Nat)(K:Value→AH→Nat→Prop)(hsm:sm xs)(hg:∀x∈xs,∀B,Bd≤B→∀K':Value→AH→Nat→Prop,K' (.bool (p x)) H B→SCalls Tryz.prog g (idS ((.agg (enc (x)).toArray)::caps.toList)) H B K')(hK:K (.int .i64 (fidx p xs)) H Bd):SCalls Tryz.prog 196 [lst xs, .func (.func g) #[] caps] H Bd K:=by
 refine fn_pure pok (Env.base _) [] _ hK Tryz.func196 rfl (rs:=[.tmp 4]) rfl Tryz.ntmps196 (by simp) Tryz.call196 (by kernel_rfl) (fun ha hb=> .int _ _) (fun hb ha=> ?_)
 refine withC pok fun cv=> ?_
 have hlen:=sm_len hsm
 refine R0 ?_
 refine tr_for (fun i=>∀j,j<i→∀x,xs[j]? =some x→p x=false) (xs.length) (fun i=>[(0,lst xs),(1, .func (.func g) #[] caps),(7, .int .i64 xs.length),(8, .int .i64 i)]) (by simp) (by simp only[go_sem,push_cast,and_pos,Le_updF]) ?_
 intro i Bi hIi hii hBi
 refine cv (by kernel_rfl) ?_
 rcases Nat.lt_or_ge i (xs.length)with hlti|hgei
 ·have e1:xs[i]? =some xs[i]:=List.getElem?_eq_getElem hlti
  refine R e1 ?_
  refine hg _ (List.getElem_mem hlti) _ (by omega) _ ?_
  refine R e1 ?_
  exact⟨fun h=>by rw[fidx_hit hlti hIi h],fun h=>fun j hj x hx=>by
   by_cases e:j=i
   ·subst e;rw[e1]at hx;cases hx;simpa using h
   ·exact hIi j (by omega) x hx⟩
 ·refine R0 ?_
  refine cv (by kernel_rfl) ?_
  refine R0 ?_
  rw[fidx_none fun j hj x hx=>hIi j (by omega) x hx]
def V197:Trans:=fun args H Bd K=>∃(x:GSymbol) (name:ByteArray),args=[.agg (enc x).toArray, .agg (enc name).toArray]∧(K (.bool (decide (x.name=name))) H Bd)
def W197:Trans:=fun args H Bd K=>∃(vx pname:Value),args=[vx,pname]∧Yld (cellsAt H 1 pname) fun cname=>callW V197 [vx, .agg cname.toArray] H Bd K
theorem W197_ok:OK 197 W197:=by
 rintro args H Bd K ⟨vx,pname,rfl,cname,ename,h⟩
 obtain⟨x,name,e,hK⟩:=h
 simp only[List.cons.injEq,and_true]at e
 obtain⟨rfl,Ename⟩:=e
 obtain rfl:=agg_inj Ename
 refine fnp pok (Env.base _) [] hK Tryz.func197 Tryz.ntmps197 Tryz.call197 [.tmp 3] fun hb ha=> ?_
 have Pname:=cellsAt_out ename (NB.vpok (ha pname (by simp)))
 simp only[enc_int,enc_str,enc_list,enc_bool,enc_byte]at Pname
 have Zname:=Pname.all 1 rfl
 have Yname:=rq_all (ha pname (by simp))
 exact R Zname trivial
def V196_197:Trans:=fun args H Bd K=>∃(xs:List GSymbol) (name:ByteArray),args=[lst xs, .agg (enc name).toArray]∧((sm xs)∧K (.int .i64 (fidx (fun x:GSymbol=>decide (x.name=name)) xs)) H Bd)
@[go_sem ↓] theorem V196_197_eq (xs:List GSymbol) (name:ByteArray):V196_197 [lst xs, .agg #[.string name]] H Bd K=((sm xs)∧K (.int .i64 (fidx (fun x:GSymbol=>decide (x.name=name)) xs)) H Bd):=ex2 xs name rfl
def W196_197:Trans:=fun args H Bd K=>∃(vxs pname:Value),args=[vxs, .func (.func 197) #[] #[pname]]∧Yld (cellsAt H 1 pname) fun cname=>callW V196_197 [vxs, .agg cname.toArray] H Bd K
@[go_sem ↓] theorem W196_197_eq (vxs pname:Value):W196_197 [vxs, .func (.func 197) #[] #[pname]] H Bd K=(Yld (cellsAt H 1 pname) fun cname=>callW V196_197 (idS [vxs, .agg cname.toArray]) H Bd K):=by
 refine propext ⟨fun h=> ?_,fun h=>⟨_,_,rfl,h⟩⟩
 obtain⟨vxs',pname',e,h⟩:=h
 simp only[List.cons.injEq,Value.func.injEq,toArr_inj,List.cons.injEq,and_true,true_and]at e
 obtain⟨rfl,rfl⟩:=e
 exact h
theorem W196_197_ok:OK 196 W196_197:=by
 rintro args H Bd K ⟨vxs,pname,rfl,cname,ename,h⟩
 obtain⟨xs,name,e,hpre,hK⟩:=h
 simp only[List.cons.injEq,and_true]at e
 obtain⟨rfl,Ename⟩:=e
 obtain rfl:=agg_inj Ename
 refine G196 197 #[pname] (fun x:GSymbol=>decide (x.name=name)) xs H Bd K hpre (fun x hx B hB K' hk=> ?_) hK
 exact W197_ok _ _ _ _ ⟨_,_,rfl,_,ename,x,name,rfl,hk⟩
def W134:Trans:=fun args H Bd K=>∃(s:GSignature) (name:ByteArray),args=[.agg (enc s).toArray, .string name]∧((sm s)∧K (.int .i64 (symIdx s name)) H Bd)
@[go_sem ↓] theorem W134_eq (s_symbols:List GSymbol) (name:ByteArray):W134 [.agg #[lst s_symbols], .string name] H Bd K=((sm (GSignature.mk s_symbols))∧K (.int .i64 (symIdx (GSignature.mk s_symbols) name)) H Bd):=ex2 (GSignature.mk s_symbols) name rfl
theorem W134_ok:OK 134 W134:=by
 rintro args H Bd K ⟨s,name,rfl,hpre,hK⟩
 refine fnp pok ((Env.base _).add 196 _ W196_197_ok) [] hK Tryz.func134 Tryz.ntmps134 Tryz.call134 [.tmp 4] fun hb ha=> ?_
 simp only[sm_GSignature]at hpre
 refine R hpre ?_
 try rfl
theorem G135(g:Nat)(caps:Array Value)(p:GSymbol→Bool)(xs:List GSymbol)(H:AH)(Bd:Nat)(K:Value→AH→Nat→Prop)(hsm:sm xs)(hg:∀x∈xs,∀B,Bd≤B→∀K':Value→AH→Nat→Prop,K' (.bool (p x)) H B→SCalls Tryz.prog g (idS ((.agg (enc (x)).toArray)::caps.toList)) H B K')(hK:K (.bool (xs.any p)) H Bd):SCalls Tryz.prog 135 [lst xs, .func (.func g) #[] caps] H Bd K:=by
 refine fn_pure pok (Env.base _) [] _ hK Tryz.func135 rfl (rs:=[.tmp 4]) rfl Tryz.ntmps135 (by simp) Tryz.call135 (by kernel_rfl) (fun ha hb=> .bool _) (fun hb ha=> ?_)
 refine R0 ?_
 refine G196 _ _ p xs _ _ _ hsm hg ?_
 refine R0 ?_
 exact fidx_ge p xs
def W136:Trans:=fun args H Bd K=>∃(x:GSymbol),args=[.agg (enc x).toArray]∧(K (.bool (decide (x.arity=0))) H Bd)
theorem W136_ok:OK 136 W136:=by
 rintro args H Bd K ⟨x,rfl,hK⟩
 refine fnp pok (Env.base _) [] hK Tryz.func136 Tryz.ntmps136 Tryz.call136 [.tmp 2] fun hb ha=> ?_
 exact R0 trivial
def V135_136:Trans:=fun args H Bd K=>∃(xs:List GSymbol),args=[lst xs]∧((sm xs)∧K (.bool (xs.any (fun x:GSymbol=>decide (x.arity=0)))) H Bd)
@[go_sem ↓] theorem V135_136_eq (xs:List GSymbol):V135_136 [lst xs] H Bd K=((sm xs)∧K (.bool (xs.any (fun x:GSymbol=>decide (x.arity=0)))) H Bd):=ex1 xs rfl
def W135_136:Trans:=fun args H Bd K=>∃(vxs:Value),args=[vxs, .func (.func 136) #[] #[]]∧callW V135_136 [vxs] H Bd K
@[go_sem ↓] theorem W135_136_eq (vxs:Value):W135_136 [vxs, .func (.func 136) #[] #[]] H Bd K=(callW V135_136 (idS [vxs]) H Bd K):=by
 refine propext ⟨fun h=> ?_,fun h=>⟨_,rfl,h⟩⟩
 obtain⟨vxs',e,h⟩:=h
 simp only[List.cons.injEq,Value.func.injEq,toArr_inj,List.cons.injEq,and_true,true_and]at e
 obtain rfl:=e
 exact h
theorem W135_136_ok:OK 135 W135_136:=by
 rintro args H Bd K ⟨vxs,rfl,h⟩
 obtain⟨xs,e,hpre,hK⟩:=h
 simp only[List.cons.injEq,and_true]at e
 obtain rfl:=e
 refine G135 136 #[] (fun x:GSymbol=>decide (x.arity=0)) xs H Bd K hpre (fun x hx B hB K' hk=> ?_) hK
 exact W136_ok _ _ _ _ ⟨x,rfl,hk⟩
def W76:Trans:=fun args H Bd K=>∃(s:GSignature),args=[.agg (enc s).toArray]∧((sm s)∧K (.int .i64 (sigF s)) H Bd)
@[go_sem ↓] theorem W76_eq (s_symbols:List GSymbol):W76 [.agg #[lst s_symbols]] H Bd K=((sm (GSignature.mk s_symbols))∧K (.int .i64 (sigF (GSignature.mk s_symbols))) H Bd):=ex1 (GSignature.mk s_symbols) rfl
set_option maxHeartbeats 2000000 in
theorem W76_ok:OK 76 W76:=by
 rintro args H Bd K ⟨s,rfl,hpre,hK⟩
 refine fnp pok (((((Env.base _).add 133 _ W133_ok).add 113 _ W113_ok).add 134 _ W134_ok).add 135 _ W135_136_ok) [(1,[],[],(.k 5 (.grp false 11 15 4 [12,13,14,15] 16 none (.k 4 .nil) .nil)))] hK Tryz.func76 Tryz.ntmps76 Tryz.call76 [.tmp 2] fun hb ha=> ?_
 refine withC pok fun cv=> ?_
 simp only[sm_GSignature]at hpre
 have hlen:=sm_len hpre
 have hss:sm s:=hpre
 refine R0 ?_
 refine⟨fun h=>by unfold sigF;rw[if_pos (by omega)],fun h1 h2=> ?_⟩
 have hs:sigF s=sigG s:=by unfold sigF;rw[if_neg (by omega)]
 rw[hs]
 refine tr_for (fun i=>symL (s.symbols.drop i)=symL s.symbols) (s.symbols.length) (fun i=>[(1, .pointer (some ⟨Bd,0,none⟩)),(18,lst s.symbols),(19, .int .i64 s.symbols.length),(20, .int .i64 i)]) (by simp) (by simp only[go_sem,push_cast,and_pos,Le_updF]) ?_
 intro i Bi hIi hii hBi
 refine cv (by kernel_rfl) ?_
 rcases Nat.lt_or_ge i (s.symbols.length)with hlti|hgei
 ·have e1:s.symbols[i]? =some s.symbols[i]:=List.getElem?_eq_getElem hlti
  have hd:=List.drop_eq_getElem_cons hlti
  have hx:=sm_mem hpre (List.getElem_mem hlti)
  simp only[sm_GSymbol,sm_str,sm_int,and_true]at hx
  rw[hd,symL]at hIi
  refine R (cj e1 hx) ?_
  generalize symL (List.drop (i+1) s.symbols)=q at*
  unfold sigG
  all_goals first|done|trivial|((try simp only[Cnp,Imp]);grind)
 ·refine R0 ?_
  refine cv (by kernel_rfl) ?_
  refine R0 ?_
  have h0:symL s.symbols=0:=by rw[←hIi,List.drop_of_length_le hgei];rfl
  refine tr_for (fun j=>∀a b x y,b<a→a<j→s.symbols[a]? =some x→s.symbols[b]? =some y→x.name≠y.name) (s.symbols.length) (fun j=>[(1, .pointer (some ⟨Bd,0,none⟩)),(34,lst s.symbols),(35, .int .i64 s.symbols.length),(36, .int .i64 j)]) (by simp) (by simp only[go_sem,push_cast,and_pos,Le_updF]) ?_
  intro j Bj hIj hij hBj
  refine cv (by kernel_rfl) ?_
  rcases Nat.lt_or_ge j (s.symbols.length)with hltj|hgej
  ·have e1:s.symbols[j]? =some s.symbols[j]:=List.getElem?_eq_getElem hltj
   refine R (cj e1 hss) ?_
   refine⟨fun h=> ?_,fun h=> ?_⟩
   ·intro a b x y h1 h2 h3 h4
    by_cases e:a=j
    ·subst e
     rw[e1]at h3;cases h3
     rw[List.getElem?_eq_getElem (by omega)]at h4;cases h4
     exact(((symIdx_self hltj).1 h) b h1).symm
    ·exact hIj a b x y h1 (by omega) h3 h4
   ·have:¬(s.symbols.map (·.name)).Nodup:=fun hn=>h ((symIdx_self hltj).2 fun k hk e=>nodup_map_not (f:=(·.name)) hk hltj e.symm hn)
    unfold sigG
    rw[if_neg (by simp[h0]),if_pos this]
  ·refine R0 ?_
   refine cv (by kernel_rfl) ?_
   refine R hpre ?_
   have h7:(s.symbols.map (·.name)).Nodup:=nodup_map fun i j x y h1 h2 h3 h4=>hIj i j x y h1 (by omega) h3 h4
   unfold sigG
   rw[if_neg (by simp[h0]),if_neg (by simp[h7])]
   all_goals first|done|trivial|((try simp only[Cnp,Imp]);grind)
def W57:Trans:=fun args H Bd K=>∃(p:GSuper),args=[.agg (enc p).toArray]∧((sm p)∧K (.int .i64 (superF p)) H Bd)
@[go_sem ↓] theorem W57_eq (p_gen:Int) (p_root:Int) (p_shadow:Int) (p_theory:Int) (p_next:Int) (p_version:Int) (p_moving:Bool) (p_cursor:List UInt8) (p_symbols_symbols:List GSymbol):W57 [.agg #[.int .i64 p_gen, .int .i64 p_root, .int .i64 p_shadow, .int .i64 p_theory, .int .i64 p_next, .int .i64 p_version, .bool p_moving,lst p_cursor,lst p_symbols_symbols]] H Bd K=((sm (GSuper.mk p_gen p_root p_shadow p_theory p_next p_version p_moving p_cursor (GSignature.mk p_symbols_symbols)))∧K (.int .i64 (superF (GSuper.mk p_gen p_root p_shadow p_theory p_next p_version p_moving p_cursor (GSignature.mk p_symbols_symbols)))) H Bd):=ex1 (GSuper.mk p_gen p_root p_shadow p_theory p_next p_version p_moving p_cursor (GSignature.mk p_symbols_symbols)) rfl
set_option maxHeartbeats 2000000 in
theorem W57_ok:OK 57 W57:=by
 rintro args H Bd K ⟨p,rfl,hpre,hK⟩
 refine fnp pok (((((Env.base _).add 113 _ W113_ok).add 118 _ W118_ok).add 119 _ W119_ok).add 76 _ W76_ok) [(2,[],[],(.k 5 (.grp false 8 12 4 [9,10,11,12] 13 none (.k 4 .nil) (.k 1 (.grp false 14 19 5 [15,16,17,18,19] 20 none (.k 5 .nil) (.k 1 (.grp false 21 26 5 [22,23,24,25,26] 27 none (.k 5 .nil) (.k 1 (.grp false 28 33 5 [29,30,31,32,33] 34 none (.k 5 .nil) (.k 1 (.grp false 35 39 4 [36,37,38,39] 40 none (.k 4 .nil) .nil))))))))))),(6,[],[],(.k 3 (.grp true 47 50 3 [48,49,50] 51 none (.k 3 .nil) (.k 1 (.grp false 52 71 19 [53,54,55,56,57,58,59,60,61,62,63,64,65,66,67,68,69,70,71] 72 none (.k 4 (.grp true 56 70 14 [57,58,59,60,61,62,63,64,65,66,67,68,69,70] 71 (some (52,false)) (.k 4 (.grp false 60 63 3 [61,62,63] 64 (some (56,true)) (.k 3 .nil) (.k 1 (.grp false 65 69 4 [66,67,68,69] 70 (some (56,true)) (.k 4 .nil) .nil)))) .nil)) .nil)))))] hK Tryz.func57 Tryz.ntmps57 Tryz.call57 [.tmp 2] fun hb ha=> ?_
 have hss:=hpre
 simp only[sm_GSuper]at hpre
 obtain⟨_,_,_,_,_,_,_,hc,hs⟩:=hpre
 have hlc:=sm_len hc
 by_cases g:((1≤p.gen∧p.gen≤60000)∧(1≤p.version∧p.version≤60000))∧isRt p.root=true∧isRt p.shadow=true∧isRt p.next_=true∧isPg p.theory=true
 case neg=>
  have e:superF p=3:=by unfold superF;rw[if_neg g]
  by_cases g1:1≤p.gen∧p.gen≤60000
  case neg=>
   refine R (cj hs (cj e g1)) ?_
   all_goals first|done|trivial|((try simp only[Cnp,Imp]);grind)
  by_cases g2:1≤p.version∧p.version≤60000
  case neg=>
   refine R (cj hs (cj e (cj g1 g2))) ?_
   all_goals first|done|trivial|((try simp only[Cnp,Imp]);grind)
  by_cases g3:isRt p.root=true
  case neg=>simp (maxSteps:=2000000) (disch:=first|assumption|(refine asm_intro ?_;assumption)|exact Nat.le_add_right _ _|exact Nat.le_refl _|omega|(simp (disch:=first|exact Nat.le_add_right _ _|omega) only[Le_upd hb,Le_app hb,Le_rfl,free_T hb,free_upd];done)|fail) only[go_sem,push_cast,and_pos,Le_updF,Le_upd hb,free_T hb,hs,e,g1,g2,g3]
  by_cases g4:isRt p.shadow=true
  case neg=>simp (maxSteps:=2000000) (disch:=first|assumption|(refine asm_intro ?_;assumption)|exact Nat.le_add_right _ _|exact Nat.le_refl _|omega|(simp (disch:=first|exact Nat.le_add_right _ _|omega) only[Le_upd hb,Le_app hb,Le_rfl,free_T hb,free_upd];done)|fail) only[go_sem,push_cast,and_pos,Le_updF,Le_upd hb,free_T hb,hs,e,g1,g2,g3,g4]
  by_cases g5:isRt p.next_=true
  case neg=>simp (maxSteps:=2000000) (disch:=first|assumption|(refine asm_intro ?_;assumption)|exact Nat.le_add_right _ _|exact Nat.le_refl _|omega|(simp (disch:=first|exact Nat.le_add_right _ _|omega) only[Le_upd hb,Le_app hb,Le_rfl,free_T hb,free_upd];done)|fail) only[go_sem,push_cast,and_pos,Le_updF,Le_upd hb,free_T hb,hs,e,g1,g2,g3,g4,g5]
  have g6:¬isPg p.theory=true:=fun h=>g ⟨⟨g1,g2⟩,g3,g4,g5,h⟩
  exact R (cj hs (cj e (cj g1 (cj g2 (cj g3 (cj g4 (cj g5 g6))))))) trivial
 have hg:superF p=if 16<p.cursor.length then 2 else if(p.moving=true∧p.next_=0)∨(p.moving=false∧(p.shadow≠0∨p.next_≠0∨0<p.cursor.length))then 8 else sigF p.symbols:=by unfold superF;rw[if_pos g]
 obtain⟨⟨g1,g2⟩,g3,g4,g5,g6⟩:=g
 by_cases g7:16<p.cursor.length
 ·rw[if_pos g7]at hg
  exact R (cj hs (cj hg (cj g1 (cj g2 (cj g3 (cj g4 (cj g5 (cj g6 g7)))))))) trivial
 rw[if_neg g7]at hg
 have hz0:isRt 0=true:=rfl
 by_cases gm:p.moving=true
 ·have gm2:¬p.moving=false:=by simp[gm]
  by_cases g8:p.next_=0
  ·rw[if_pos (.inl ⟨gm,g8⟩)]at hg
   exact R (cj hs (cj hg (cj g1 (cj g2 (cj g3 (cj g4 (cj g5 (cj g6 (cj g7 (cj hz0 (cj gm g8))))))))))) trivial
  ·rw[if_neg (fun h=>h.elim (fun h=>g8 h.2) fun h=>gm2 h.1)]at hg
   exact R (cj hs (cj hg (cj g1 (cj g2 (cj g3 (cj g4 (cj g5 (cj g6 (cj g7 (cj hz0 (cj gm g8))))))))))) trivial
 ·have gm2:p.moving=false:=by simpa using gm
  by_cases g8:p.shadow=0
  case neg=>
   rw[if_pos (.inr ⟨gm2, .inl g8⟩)]at hg
   exact R (cj hs (cj hg (cj g1 (cj g2 (cj g3 (cj g4 (cj g5 (cj g6 (cj g7 (cj hz0 (cj gm2 g8))))))))))) trivial
  by_cases g9:p.next_=0
  case neg=>
   rw[if_pos (.inr ⟨gm2, .inr (.inl g9)⟩)]at hg
   exact R (cj hs (cj hg (cj g1 (cj g2 (cj g3 (cj g4 (cj g5 (cj g6 (cj g7 (cj hz0 (cj gm2 (cj g8 g9)))))))))))) trivial
  by_cases g10:0<p.cursor.length
  ·rw[if_pos (.inr ⟨gm2, .inr (.inr g10)⟩)]at hg
   exact R (cj hs (cj hg (cj g1 (cj g2 (cj g3 (cj g4 (cj g5 (cj g6 (cj g7 (cj hz0 (cj gm2 (cj g8 (cj g9 g10))))))))))))) trivial
  ·rw[if_neg (fun h=>h.elim (fun h=>gm h.1) fun h=>h.2.elim (fun h=>h g8) fun h=>h.elim (fun h=>h g9) g10)]at hg
   exact R (cj hs (cj hg (cj g1 (cj g2 (cj g3 (cj g4 (cj g5 (cj g6 (cj g7 (cj hz0 (cj gm2 (cj g8 (cj g9 g10))))))))))))) trivial
def W112:Trans:=fun args H Bd K=>∃(xs:List Int),args=[lst xs]∧((sm xs)∧K (.int .i64 (firstF id xs)) H Bd)
@[go_sem ↓] theorem W112_eq (xs:List Int):W112 [lst xs] H Bd K=((sm xs)∧K (.int .i64 (firstF id xs)) H Bd):=ex1 xs rfl
theorem W112_ok:OK 112 W112:=by
 rintro args H Bd K ⟨xs,rfl,hpre,hK⟩
 refine fnp pok (Env.base _) [] hK Tryz.func112 Tryz.ntmps112 Tryz.call112 [.tmp 2] fun hb ha=> ?_
 refine withC pok fun cv=> ?_
 have hlt2:=sm_len hpre
 refine R0 ?_
 refine tr_for (fun i=>∀j,j<i→∀y,xs[j]? =some y→id y=0) (xs.length) (fun i=>[(3, .int .i64 0),(6,lst xs),(7, .int .i64 xs.length),(8, .int .i64 i)]) (fun j hj=>absurd hj (Nat.not_lt_zero _)) (by simp only[go_sem,push_cast,and_pos,Le_updF]) ?_
 intro i Bi hIi hii hBi
 refine cv (by kernel_rfl) ?_
 rcases Nat.lt_or_ge i (xs.length)with hlti|hgei
 ·have e1:xs[i]? =some xs[i]:=List.getElem?_eq_getElem hlti
  refine R e1 ?_
  refine⟨fun h j hj y hy=> ?_,fun h=>(firstF_hit e1 hIi h).symm⟩
  ·by_cases e:j=i
   ·subst e;rw[e1]at hy;cases hy;exact h
   ·exact hIi j (by omega) y hy
 ·refine R0 ?_
  refine cv (by kernel_rfl) ?_
  refine R0 ?_
  exact(firstF_all fun x hx=>by
   obtain⟨j,hj,rfl⟩:=List.getElem_of_mem hx
   exact hIi j (by omega) _ (List.getElem?_eq_getElem hj)).symm
def W55b:Trans:=fun args H Bd K=>∃(xs:List Int),args=[lst xs]∧((sm xs)∧K (.int .i64 (firstF id xs)) H Bd)
@[go_sem ↓] theorem W55b_eq (xs:List Int) (H:AH) (Bd:Nat) (K:Value→AH→Nat→Prop):W55b [lst xs] H Bd K=((sm xs)∧K (.int .i64 (firstF id xs)) H Bd):=ex1 xs rfl
theorem W55b_ok:OK 55 W55b:=by
 rintro args H Bd K ⟨xs,rfl,hpre,hK⟩
 refine fnp pok ((Env.base _).add 112 _ W112_ok) [] hK Tryz.func55 Tryz.ntmps55 Tryz.call55 [.tmp 2] fun hb ha=> ?_
 exact R hpre trivial
def W55:Trans:=GiveT 0 W55b
@[go_sem ↓] theorem W55_eq (v0:Value):W55 [v0] H Bd K=callW W55b (idS [giveV H v0]) (giveH H v0) Bd K:=(rfl)
theorem W55_ok:OK 55 W55:=GiveT_ok 0 W55b_ok
def W175:Trans:=fun args H Bd K=>∃(xs:List Int) (y:Int),args=[lst xs, .int .i64 y]∧((sm xs)∧K (.int .i64 (fidx (fun x=>decide (y=x)) xs)) H Bd)
@[go_sem ↓] theorem W175_eq (xs:List Int) (y:Int):W175 [lst xs, .int .i64 y] H Bd K=((sm xs)∧K (.int .i64 (fidx (fun x=>decide (y=x)) xs)) H Bd):=ex2 xs y rfl
theorem W175_ok:OK 175 W175:=by
 rintro args H Bd K ⟨xs,y,rfl,hpre,hK⟩
 refine fnp pok (Env.base _) [] hK Tryz.func175 Tryz.ntmps175 Tryz.call175 [.tmp 4] fun hb ha=> ?_
 refine withC pok fun cv=> ?_
 have hlen:=sm_len hpre
 refine R0 ?_
 refine tr_for (fun i=>∀j,j<i→∀x,xs[j]? =some x→decide (y=x)=false) (xs.length) (fun i=>[(0,lst xs),(1, .int .i64 y),(7, .int .i64 xs.length),(8, .int .i64 i)]) (by simp) (by simp only[go_sem,push_cast,and_pos,Le_updF]) ?_
 intro i Bi hIi hii hBi
 refine cv (by kernel_rfl) ?_
 rcases Nat.lt_or_ge i (xs.length)with hlti|hgei
 ·have e1:xs[i]? =some xs[i]:=List.getElem?_eq_getElem hlti
  refine R e1 ?_
  exact⟨fun h=>by rw[fidx_hit hlti hIi (by simpa using h)],fun h=>fun j hj x hx=>by
   by_cases e:j=i
   ·subst e;rw[e1]at hx;cases hx;simpa using h
   ·simpa using hIi j (by omega) x hx⟩
 ·refine R0 ?_
  refine cv (by kernel_rfl) ?_
  refine R0 ?_
  rw[fidx_none fun j hj x hx=>hIi j (by omega) x hx]
def W121:Trans:=fun args H Bd K=>∃(xs:List Int) (y:Int),args=[lst xs, .int .i64 y]∧((sm xs)∧K (.bool (xs.any (fun x=>decide (y=x)))) H Bd)
@[go_sem ↓] theorem W121_eq (xs:List Int) (y:Int):W121 [lst xs, .int .i64 y] H Bd K=((sm xs)∧K (.bool (xs.any (fun x=>decide (y=x)))) H Bd):=ex2 xs y rfl
theorem W121_ok:OK 121 W121:=by
 rintro args H Bd K ⟨xs,y,rfl,hpre,hK⟩
 refine fnp pok ((Env.base _).add 175 _ W175_ok) [] hK Tryz.func121 Tryz.ntmps121 Tryz.call121 [.tmp 4] fun hb ha=> ?_
 refine R hpre ?_
 exact fidx_ge _ xs
theorem L121_pure:PureV W121:=by
 rintro args H Bd K ⟨x0,x1,rfl,hpre,hK⟩
 exact⟨_,by first|exact .bool _|exact .int _ _|exact .string _|exact vc_enc _,hK,fun H' K' hs h=>⟨x0,x1,rfl,hpre,h⟩⟩
def L121:Trans:=LendA W121
@[go_sem ↓] theorem L121_eq (v0 v1:Value):L121 [v0,v1] H Bd K=callW W121 (idS [giveA H v0,giveA H v1]) H Bd K:=(rfl)
theorem L121_ok:OK 121 L121:=LendA_ok W121_ok L121_pure
def W177:Trans:=fun args H Bd K=>∃(d:GDisk) (n:Int),args=[.agg (enc d).toArray, .int .i64 n]∧((sm d∧DiskOK d∧0≤n∧n<d.sectors.length)∧K (lst (readD d n)) H Bd)
@[go_sem ↓] theorem W177_eq (d_sectors:List (List UInt8)) (d_pending:List GPut) (n:Int):W177 [.agg #[lst d_sectors,lst d_pending], .int .i64 n] H Bd K=((sm (GDisk.mk d_sectors d_pending)∧DiskOK (GDisk.mk d_sectors d_pending)∧0≤n∧n<(GDisk.mk d_sectors d_pending).sectors.length)∧K (lst (readD (GDisk.mk d_sectors d_pending) n)) H Bd):=ex2 (GDisk.mk d_sectors d_pending) n rfl
theorem W177_ok:OK 177 W177:=by
 rintro args H Bd K ⟨d,n,rfl,hpre,hK⟩
 refine fnp pok ((Env.base _).add 117 _ W117_ok) [] hK Tryz.func177 Tryz.ntmps177 Tryz.call177 [.tmp 4] fun hb ha=> ?_
 obtain⟨h1,h2,h3,h4⟩:=hpre
 by_cases hw:0≤waitD d n
 ·have hlt:=wait_lt hw
  have e1:d.pending[(waitD d n).toNat]? =some d.pending[(waitD d n).toNat]:=List.getElem?_eq_getElem hlt
  have hr:readD d n=d.pending[(waitD d n).toNat].bytes:=by unfold readD;rw[if_pos hw,e1];rfl
  exact R (cj h1 (cj hw (cj e1 hr))) trivial
 ·have hlt:n.toNat<d.sectors.length:=by omega
  have e1:d.sectors[n.toNat]? =some d.sectors[n.toNat]:=List.getElem?_eq_getElem hlt
  have hr:readD d n=d.sectors[n.toNat]:=by unfold readD;rw[if_neg hw,e1];rfl
  exact R (cj h1 (cj hw (cj e1 hr))) trivial
def W247:Trans:=fun args H Bd K=>∃(xs:List UInt8),args=[lst xs]∧((xs.length≤2000)∧K (.agg (enc (GIntResult.mk 0 (sumB 29 xs))).toArray) H Bd)
@[go_sem ↓] theorem W247_eq (xs:List UInt8):W247 [lst xs] H Bd K=((xs.length≤2000)∧K (.agg (enc (GIntResult.mk 0 (sumB 29 xs))).toArray) H Bd):=ex1 xs rfl
theorem W247_ok:OK 247 W247:=by
 rintro args H Bd K ⟨xs,rfl,hpre,hK⟩
 refine fnp pok (Env.base _) [] hK Tryz.func247 Tryz.ntmps247 Tryz.call247 [.cell 2 71] fun hb ha=> ?_
 refine withC pok fun cv=> ?_
 have hlen:=hpre
 refine R0 ?_
 refine tr_for (fun i=>True) (xs.length) (fun i=>[(2, .pointer (some ⟨Bd,0,none⟩)),(3, .int .i64 (sumB 29 (xs.take i))),(10,lst xs),(11, .int .i64 xs.length),(12, .int .i64 i)]) (trivial) (by simp only[go_sem,push_cast,and_pos,Le_updF,List.take_zero,sumB]) ?_
 intro i Bi hIi hii hBi
 refine cv (by kernel_rfl) ?_
 rcases Nat.lt_or_ge i (xs.length)with hlti|hgei
 ·have e1:xs[i]? =some xs[i]:=List.getElem?_eq_getElem hlti
  have hst:=sumB_take hlti
  have hr:=sum_rg (xs.take i)
  have hby:(xs[i].toNat:Int)<256:=by have:=xs[i].toNat_lt;omega
  have ht:(sumB 29 (xs.take i)*227+(xs[i].toNat:Int)+1).tmod 65521=(sumB 29 (xs.take i)*227+(xs[i].toNat:Int)+1)%65521:=Int.tmod_eq_emod_of_nonneg (by omega)
  have hcm:227*sumB 29 (xs.take i)=sumB 29 (xs.take i)*227:=Int.mul_comm _ _
  exact R (cj e1 (cj hst (cj hcm ht))) trivial
 ·refine R0 ?_
  refine cv (by kernel_rfl) ?_
  rw[List.take_of_length_le hgei]
  exact R0 trivial
def W246:Trans:=fun args H Bd K=>∃(n:Int),args=[.int .i64 n]∧((0≤n∧n≤65535)∧K (lst (pairB n)) H Bd)
@[go_sem ↓] theorem W246_eq (n:Int):W246 [.int .i64 n] H Bd K=((0≤n∧n≤65535)∧K (lst (pairB n)) H Bd):=ex1 n rfl
theorem W246_ok:OK 246 W246:=by
 rintro args H Bd K ⟨n,rfl,hpre,hK⟩
 refine fnp pok (Env.base _) [] hK Tryz.func246 Tryz.ntmps246 Tryz.call246 [.tmp 2] fun hb ha=> ?_
 obtain⟨h1,h2⟩:=hpre
 have e1:n.fdiv (2^min 8 64)=n/256:=by rw[show(2:Int)^(min 8 64)=256 from rfl];exact Int.fdiv_eq_ediv_of_nonneg n (by decide)
 have hl:2=(pairB n).length:=rfl
 simp (maxSteps:=2000000) (disch:=first|assumption|(refine asm_intro ?_;assumption)|exact Nat.le_add_right _ _|exact Nat.le_refl _|omega|(simp (disch:=first|exact Nat.le_add_right _ _|omega) only[Le_upd hb,Le_app hb,Le_rfl,free_T hb,free_upd];done)|fail) only[go_sem,push_cast,and_pos,Le_updF,Le_upd hb,free_T hb,e1,←pairB_flat n]
 exact pub_whole (upd_same _ _ _) (hb.fresh _ (by omega)) rfl rfl
def W219:Trans:=fun args H Bd K=>∃(xs:List UInt8) (ys:List UInt8),args=[lst xs,lst ys]∧(K (.bool (decide (xs=ys))) H Bd)
@[go_sem ↓] theorem W219_eq (xs:List UInt8) (ys:List UInt8):W219 [lst xs,lst ys] H Bd K=(K (.bool (decide (xs=ys))) H Bd):=ex2 xs ys rfl
theorem W219_ok:OK 219 W219:=by
 rintro args H Bd K ⟨xs,ys,rfl,hK⟩
 refine fnp pok (Env.base _) [] hK Tryz.func219 Tryz.ntmps219 Tryz.call219 [.tmp 4] fun hb ha=> ?_
 simp (maxSteps:=2000000) (disch:=first|assumption|(refine asm_intro ?_;assumption)|exact Nat.le_add_right _ _|exact Nat.le_refl _|omega|(simp (disch:=first|exact Nat.le_add_right _ _|omega) only[Le_upd hb,Le_app hb,Le_rfl,free_T hb,free_upd];done)|fail) only[go_sem,push_cast,and_pos,Le_updF,Le_upd hb,free_T hb]
 all_goals first|done|trivial|((try simp only[Cnp,Imp]);grind)
def W248:Trans:=fun args H Bd K=>∃(p:GPage),args=[.agg (enc p).toArray]∧((sm p∧R64 p.id)∧K (.int .i64 (pageF p)) H Bd)
@[go_sem ↓] theorem W248_eq (p_kind:Int) (p_id:Int) (p_body:List UInt8):W248 [.agg #[.int .i64 p_kind, .int .i64 p_id,lst p_body]] H Bd K=((sm (GPage.mk p_kind p_id p_body)∧R64 (GPage.mk p_kind p_id p_body).id)∧K (.int .i64 (pageF (GPage.mk p_kind p_id p_body))) H Bd):=ex1 (GPage.mk p_kind p_id p_body) rfl
theorem W248_ok:OK 248 W248:=by
 rintro args H Bd K ⟨p,rfl,hpre,hK⟩
 refine fnp pok (((Env.base _).add 113 _ W113_ok).add 119 _ W119_ok) [(1,[],[],(.k 5 (.grp false 7 11 4 [8,9,10,11] 12 none (.k 4 .nil) .nil)))] hK Tryz.func248 Tryz.ntmps248 Tryz.call248 [.tmp 2] fun hb ha=> ?_
 obtain⟨h1,h2⟩:=hpre
 simp only[sm_GPage]at h1
 have hlen:=sm_len h1.2.2
 refine R (cj h1 h2) ?_
 unfold pageF isPg
 all_goals first|done|trivial|((try simp only[Cnp,Imp]);grind)
theorem L247_pure:PureV W247:=by
 rintro args H Bd K ⟨x0,rfl,hpre,hK⟩
 exact⟨_,by first|exact .bool _|exact .int _ _|exact .string _|exact vc_enc _,hK,fun H' K' hs h=>⟨x0,rfl,hpre,h⟩⟩
def L247:Trans:=LendA W247
@[go_sem ↓] theorem L247_eq (v0:Value):L247 [v0] H Bd K=callW W247 (idS [giveA H v0]) H Bd K:=(rfl)
theorem L247_ok:OK 247 L247:=LendA_ok W247_ok L247_pure
def W249:Trans:=fun args H Bd K=>∃(p:GPage),args=[.agg (enc p).toArray]∧((sm p∧pageF p=0)∧K (lst (packP p)) H Bd)
@[go_sem ↓] theorem W249_eq (p_kind:Int) (p_id:Int) (p_body:List UInt8):W249 [.agg #[.int .i64 p_kind, .int .i64 p_id,lst p_body]] H Bd K=((sm (GPage.mk p_kind p_id p_body)∧pageF (GPage.mk p_kind p_id p_body)=0)∧K (lst (packP (GPage.mk p_kind p_id p_body))) H Bd):=ex1 (GPage.mk p_kind p_id p_body) rfl
set_option maxHeartbeats 2000000 in
theorem W249_ok:OK 249 W249:=by
 rintro args H Bd K ⟨p,rfl,hpre,hK⟩
 refine fnp pok (((Env.base _).add 247 _ L247_ok).add 246 _ W246_ok) [] hK Tryz.func249 Tryz.ntmps249 Tryz.call249 [.tmp 2] fun hb ha=> ?_
 obtain⟨h1,h2⟩:=hpre
 have hp:=pageF_ok h2
 simp only[sm_GPage]at h1
 have h0:=packP0_flat p
 have hl0:=packP0_len p
 have hok:=flat_ok p.body
 have hpl:=padP_len (l:=packP0 p) (by omega)
 have hsr:=sum_rg (padP (packP0 p))
 have hend:flat (padP (packP0 p))++flat (pairB (sumB 29 (padP (packP0 p))))=flat (packP p):=by rw[←flat_append];rfl
 have hend2:=packP_len hp.2.2
 have htk2:List.take 94 (flat (padP (packP0 p)))=flat (padP (packP0 p)):=by
  have h:=flat_all (padP (packP0 p))
  rw[hpl,show Enc.k UInt8=1 from rfl,Nat.mul_one]at h
  exact h
 have hsmp:sm (padP (packP0 p)):=⟨by omega,fun _ _=>trivial⟩
 have hpn:=pairB_len (sumB 29 (padP (packP0 p)))
 have hok2:=flat_ok (pairB (sumB 29 (padP (packP0 p))))
 have hm:(94-(3+(p.body.length:Int))).toNat=91-p.body.length:=by omega
 have hzm:zmake (91-p.body.length) [Value.int .u8 0]=flat (List.replicate (91-p.body.length) (0:UInt8)):=(zmake_one _ _).trans (flat_zeros _).symm
 have hok3:=flat_ok (List.replicate (91-p.body.length) (0:UInt8))
 have htk:List.take (3+p.body.length) (Value.int .u8 (p.kind%256)::Value.int .u8 (p.id%256)::Value.int .u8 ((p.body.length:Int)%256)::flat p.body)=flat (packP0 p):=by
  have h:=flat_all (packP0 p)
  rw[hl0,show Enc.k UInt8=1 from rfl,Nat.mul_one,Nat.add_comm]at h
  rw[h0]at h ⊢
  exact h
 have hpad:flat (packP0 p)++flat (List.replicate (91-p.body.length) (0:UInt8))=flat (padP (packP0 p)):=by
  rw[←flat_append];unfold padP
  rw[hl0,show 94-(p.body.length+3)=91-p.body.length by omega]
 have h94:3+p.body.length+(91-p.body.length)=94:=by omega
 refine RA (cj hok (cj hok2 (cj hok3 (cj hm (cj hzm (cj htk (cj hpad (cj h94 (cj htk2 (cj hsmp hend)))))))))) ?_
 refine pub_whole (upd_same _ _ _) ?_ rfl ?_
 ·exact hb.fresh _ (by omega)
 ·rw[hend2,hpn]
def W176:Trans:=fun args H Bd K=>∃(data:List UInt8) (id:Int),args=[lst data, .int .i64 id]∧((sm data∧R64 id)∧K (.agg (enc (readPR data id)).toArray) H Bd)
@[go_sem ↓] theorem W176_eq (data:List UInt8) (id:Int):W176 [lst data, .int .i64 id] H Bd K=((sm data∧R64 id)∧K (.agg (enc (readPR data id)).toArray) H Bd):=ex2 data id rfl
set_option maxHeartbeats 2000000 in
theorem W176_ok:OK 176 W176:=by
 rintro args H Bd K ⟨data,id,rfl,hpre,hK⟩
 refine fnp pok ((((((((Env.base _).add 119 _ W119_ok).add 247 _ W247_ok).add 246 _ W246_ok).add 219 _ W219_ok).add 235 _ W235_ok).add 248 _ W248_ok).add 249 _ W249_ok) [(5,[0,1,5,6,2,3,4,7,8],[⟨0,[],[]⟩,⟨1,[],[]⟩,⟨5,[],[]⟩,⟨6,[],[]⟩,⟨2,[],[]⟩,⟨3,[],[]⟩,⟨4,[],[]⟩,⟨7,[],[]⟩,⟨8,[],[]⟩], .nil),(12,[0,1,2,3,4,5,6,7,8,11,9,10,12],[⟨0,[],[]⟩,⟨1,[],[]⟩,⟨2,[],[]⟩,⟨3,[],[]⟩,⟨4,[],[]⟩,⟨5,[],[]⟩,⟨6,[],[]⟩,⟨7,[],[]⟩,⟨8,[],[]⟩,⟨11,[],[]⟩,⟨9,[],[3,2]⟩,⟨10,[],[]⟩,⟨12,[11],[]⟩], .nil),(13,[],[],(.k 4 (.grp false 53 58 5 [54,55,56,57,58] 59 none (.k 5 .nil) .nil)))] hK Tryz.func176 Tryz.ntmps176 Tryz.call176 [.cell 4 260] fun hb ha=> ?_
 obtain⟨hsd,hid⟩:=hpre
 have hlen:=sm_len hsd
 by_cases h1:data.length=96
 case neg=>
  have e:readPR data id=⟨1,⟨0,0,[]⟩⟩:=by unfold readPR;rw[if_pos h1];rfl
  exact R (cj h1 e) trivial
 by_cases hi:isPg id=true
 case neg=>
  have e:readPR data id=⟨3,⟨0,0,[]⟩⟩:=by unfold readPR;rw[if_neg (by simpa using h1),if_pos (by simpa using hi)];rfl
  exact R (cj h1 (cj hid (cj hi e))) trivial
 have hi2:=of_decide_eq_true hi
 have hr:readPR data id=⟨(readPg data id).2,(readPg data id).1⟩:=by unfold readPR;rw[if_neg (by simpa using h1),if_neg (by simp[hi])]
 rw[hr]
 have hpre:data.length=96∧2≤id∧id≤63:=⟨h1,hi2⟩
 have e0:data[0]? =some (data[0]'(by omega)):=List.getElem?_eq_getElem _
 have e1:data[1]? =some (data[1]'(by omega)):=List.getElem?_eq_getElem _
 have e2:data[2]? =some (data[2]'(by omega)):=List.getElem?_eq_getElem _
 have hsr:=sum_rg (data.take 94)
 have b0:((data[0]'(by omega)).toNat:Int)≤255:=by have:=(data[0]'(by omega)).toNat_lt;omega
 have b1:((data[1]'(by omega)).toNat:Int)≤255:=by have:=(data[1]'(by omega)).toNat_lt;omega
 have b2:((data[2]'(by omega)).toNat:Int)≤255:=by have:=(data[2]'(by omega)).toNat_lt;omega
 have f0:data.getD 0 0=data[0]'(by omega):=by rw[List.getD_eq_getElem?_getD,e0];rfl
 have f1:data.getD 1 0=data[1]'(by omega):=by rw[List.getD_eq_getElem?_getD,e1];rfl
 have f2:data.getD 2 0=data[2]'(by omega):=by rw[List.getD_eq_getElem?_getD,e2];rfl
 have htk:data.take 96=data:=List.take_of_length_le (by omega)
 have hl94:(data.take 94).length≤2000:=by rw[List.length_take];omega
 have hsm:sm (data.take 94):=⟨by rw[List.length_take];omega,fun _ _=>trivial⟩
 have hn:((3:Int)+((data[2]'(by omega)).toNat:Int)).toNat=3+(data[2]'(by omega)).toNat:=by omega
 have hdt:List.drop 3 (List.take (3+(data[2]'(by omega)).toNat) data)=List.take (data[2]'(by omega)).toNat (List.drop 3 data):=by rw[List.drop_take,Nat.add_sub_cancel_left]
 have hG:readG data id=⟨((data[0]'(by omega)).toNat:Int),id,List.take (data[2]'(by omega)).toNat (List.drop 3 data)⟩:=by unfold readG;rw[f0,f2]
 have hlb:(List.take (data[2]'(by omega)).toNat (List.drop 3 data)).length≤93:=by rw[List.length_take,List.length_drop];omega
 have hsb:sm (List.take (data[2]'(by omega)).toNat (List.drop 3 data)):=⟨by omega,fun _ _=>trivial⟩
 have hsp:sm (readG data id):=by rw[hG];exact⟨trivial,trivial,hsb⟩
 have hsp2:sm (⟨((data[0]'(by omega)).toNat:Int),id,List.take (data[2]'(by omega)).toNat (List.drop 3 data)⟩:GPage):=⟨trivial,trivial,hsb⟩
 have b3:((data[0]'(by omega)).toNat:Int)≤9223372036854775807:=by omega
 obtain⟨h2,h3⟩:=hi2
 have h64:=hid
 have hlb2:(List.take (data[2]'(by omega)).toNat (List.drop 3 data)).length≤1000000:=by omega
 by_cases q1:pairB (sumB 29 (data.take 94))=data.drop 94
 case neg=>
  have e:readPg data id=(⟨0,0,[]⟩,11):=by unfold readPg;rw[if_pos q1];rfl
  simp (maxSteps:=2000000) (disch:=first|assumption|(refine asm_intro ?_;assumption)|exact Nat.le_add_right _ _|exact Nat.le_refl _|omega|(simp (disch:=first|exact Nat.le_add_right _ _|omega) only[Le_upd hb,Le_app hb,Le_rfl,free_T hb,free_upd];done)|fail) only[go_sem,push_cast,and_pos,Le_updF,Le_upd hb,free_T hb,h1,hid,hi,hl94,e0,e1,e2,if_pos b3,Option.map_some,eq_self,true_and,htk,hsm,q1,e]
 by_cases q2:((data[1]'(by omega)).toNat:Int)=id
 case neg=>
  have e:readPg data id=(⟨0,0,[]⟩,8):=by unfold readPg;rw[if_neg (by simpa using q1),if_pos (by rw[f1];exact q2)];rfl
  simp (maxSteps:=2000000) (disch:=first|assumption|(refine asm_intro ?_;assumption)|exact Nat.le_add_right _ _|exact Nat.le_refl _|omega|(simp (disch:=first|exact Nat.le_add_right _ _|omega) only[Le_upd hb,Le_app hb,Le_rfl,free_T hb,free_upd];done)|fail) only[go_sem,push_cast,and_pos,Le_updF,Le_upd hb,free_T hb,h1,hid,hi,hl94,e0,e1,e2,if_pos b3,Option.map_some,eq_self,true_and,htk,hsm,q1,q2,e]
 by_cases q3:(91:Int)<((data[2]'(by omega)).toNat:Int)
 ·have e:readPg data id=(⟨0,0,[]⟩,5):=by unfold readPg;rw[if_neg (by simpa using q1),if_neg (by rw[f1];simpa using q2),if_pos (by rw[f2];omega)];rfl
  simp (maxSteps:=2000000) (disch:=first|assumption|(refine asm_intro ?_;assumption)|exact Nat.le_add_right _ _|exact Nat.le_refl _|omega|(simp (disch:=first|exact Nat.le_add_right _ _|omega) only[Le_upd hb,Le_app hb,Le_rfl,free_T hb,free_upd];done)|fail) only[go_sem,push_cast,and_pos,Le_updF,Le_upd hb,free_T hb,h1,hid,hi,hl94,e0,e1,e2,if_pos b3,Option.map_some,eq_self,true_and,htk,hsm,q1,q2,q3,e]
 have hR:readPg data id=if pageF (readG data id)≠0∨packP (readG data id)≠data then(noPg,5)else(readG data id,0):=by unfold readPg;rw[if_neg (by simpa using q1),if_neg (by rw[f1];simpa using q2),if_neg (by rw[f2];omega)]
 by_cases q4:pageF (readG data id)=0
 case neg=>
  have e:readPg data id=(⟨0,0,[]⟩,5):=by rw[hR,if_pos (.inl q4)];rfl
  rw[hG]at q4
  simp (maxSteps:=2000000) (disch:=first|assumption|(refine asm_intro ?_;assumption)|exact Nat.le_add_right _ _|exact Nat.le_refl _|omega|(simp (disch:=first|exact Nat.le_add_right _ _|omega) only[Le_upd hb,Le_app hb,Le_rfl,free_T hb,free_upd];done)|fail) only[go_sem,push_cast,and_pos,Le_updF,Le_upd hb,free_T hb,h1,hid,hi,hl94,e0,e1,e2,if_pos b3,Option.map_some,eq_self,true_and,htk,hsm,q1,q2,q3,hn,hdt,hlb2,hsp2,h64,HB.no hb,q4,e]
 by_cases q5:packP (readG data id)=data
 case neg=>
  have e:readPg data id=(⟨0,0,[]⟩,5):=by rw[hR,if_pos (.inr q5)];rfl
  rw[hG]at q4 q5
  simp (maxSteps:=2000000) (disch:=first|assumption|(refine asm_intro ?_;assumption)|exact Nat.le_add_right _ _|exact Nat.le_refl _|omega|(simp (disch:=first|exact Nat.le_add_right _ _|omega) only[Le_upd hb,Le_app hb,Le_rfl,free_T hb,free_upd];done)|fail) only[go_sem,push_cast,and_pos,Le_updF,Le_upd hb,free_T hb,h1,hid,hi,hl94,e0,e1,e2,if_pos b3,Option.map_some,eq_self,true_and,htk,hsm,q1,q2,q3,hn,hdt,hlb2,hsp2,h64,HB.no hb,q4,q5,e]
 have e:readPg data id=(⟨((data[0]'(by omega)).toNat:Int),id,List.take (data[2]'(by omega)).toNat (List.drop 3 data)⟩,0):=by rw[hR,if_neg (by simp[q4,q5]),hG]
 rw[hG]at q4 q5
 simp (maxSteps:=2000000) (disch:=first|assumption|(refine asm_intro ?_;assumption)|exact Nat.le_add_right _ _|exact Nat.le_refl _|omega|(simp (disch:=first|exact Nat.le_add_right _ _|omega) only[Le_upd hb,Le_app hb,Le_rfl,free_T hb,free_upd];done)|fail) only[go_sem,push_cast,and_pos,Le_updF,Le_upd hb,free_T hb,h1,hid,hi,hl94,e0,e1,e2,if_pos b3,Option.map_some,eq_self,true_and,htk,hsm,q1,q2,q3,hn,hdt,hlb2,hsp2,h64,HB.no hb,q4,q5,e]
def W122:Trans:=fun args H Bd K=>∃(d:GDisk) (id:Int),args=[.agg (enc d).toArray, .int .i64 id]∧((sm d∧DiskOK d∧R64 id)∧K (.tuple #[.agg (enc ((pageD d id).1)).toArray, .int .i64 ((pageD d id).2)]) H Bd)
@[go_sem ↓] theorem W122_eq (d_sectors:List (List UInt8)) (d_pending:List GPut) (id:Int):W122 [.agg #[lst d_sectors,lst d_pending], .int .i64 id] H Bd K=((sm (GDisk.mk d_sectors d_pending)∧DiskOK (GDisk.mk d_sectors d_pending)∧R64 id)∧K (.tuple #[.agg (enc ((pageD (GDisk.mk d_sectors d_pending) id).1)).toArray, .int .i64 ((pageD (GDisk.mk d_sectors d_pending) id).2)]) H Bd):=ex2 (GDisk.mk d_sectors d_pending) id rfl
theorem W122_ok:OK 122 W122:=by
 rintro args H Bd K ⟨d,id,rfl,hpre,hK⟩
 refine fn_pure pok ((((Env.base _).add 116 _ W116_ok).add 177 _ W177_ok).add 176 _ W176_ok) [(1,[],[],(.k 3 (.grp false 9 13 4 [10,11,12,13] 14 none (.k 4 .nil) .nil))),(4,[0,1,2,3,4,5],[⟨0,[],[]⟩,⟨1,[],[]⟩,⟨2,[],[]⟩,⟨3,[],[]⟩,⟨4,[],[3]⟩,⟨5,[],[]⟩], .nil)] _ hK Tryz.func122 rfl (rs:=[.cell 4 181, .tmp 5]) rfl Tryz.ntmps122 (by simp) Tryz.call122 (by kernel_rfl) (fun ha hb=>tup_nb ⟨agg_nb _ _, .int _ _,trivial⟩) (fun hb ha=> ?_)
 obtain⟨h1,h2,h3⟩:=hpre
 have hl:=h2.len
 by_cases hr:2≤id∧id≤(d.sectors.length:Int)-1
 case neg=>
  have e:pageD d id=(⟨0,0,[]⟩,3):=by unfold pageD;rw[if_pos hr];rfl
  by_cases hr2:id<2
  ·exact R (cj h1 (cj h3 (cj hr2 e))) trivial
  ·have hr3:¬id≤(d.sectors.length:Int)-1:=fun h=>hr ⟨by omega,h⟩
   exact R (cj h1 (cj h3 (cj hr2 (cj hr3 e)))) trivial
 obtain⟨hr1,hr2⟩:=hr
 have hlen:=readD_len h2 (n:=id) (by omega) (by omega)
 have hsm:sm (readD d id):=⟨by omega,fun _ _=>trivial⟩
 have e:pageD d id=readPg (readD d id) id:=by unfold pageD;rw[if_neg (by simp;omega)]
 have hpg:isPg id=true:=decide_eq_true ⟨hr1,by omega⟩
 have hR:readPR (readD d id) id=⟨(readPg (readD d id) id).2,(readPg (readD d id) id).1⟩:=by unfold readPR;rw[if_neg (by simp[hlen]),if_neg (by simp[hpg])]
 exact RA (cj h1 (cj h2 (cj h3 (cj hr1 (cj hr2 (cj hsm (cj hR e))))))) trivial
def W289:Trans:=RdTk
@[go_sem ↓] theorem W289_eq (n:Nat) (k:Int):W289 [.pointer (some ⟨n,0,none⟩), .int .i64 k] H Bd K=(Yld (H n) fun b=>Yld (rdOf b) fun q=>(q.1.length≤1000000∧0≤k∧k≤1000000)∧K (lst (tkV q k.toNat)) (upd H n (some ⟨[lst (tkS q k.toNat).1, .bool (tkS q k.toNat).2],true⟩)) Bd):=RdTk_eq n k H Bd K
set_option maxHeartbeats 2000000 in
theorem W289_ok:OK 289 W289:=by
 rintro args H Bd K ⟨n,k,rfl,b0,hb0,q,hq,⟨h1,h2,h3⟩,hK⟩
 obtain rfl:=rdOf_out hq
 refine fn_set pok (Env.base _) [(1,[],[],(.k 5 (.grp false 10 17 7 [11,12,13,14,15,16,17] 18 none (.k 7 .nil) .nil)))] _ hK (fun hh=>hb_setR hh hb0 _) Tryz.func289 rfl (rs:=[.tmp 4]) rfl Tryz.ntmps289 (by simp) Tryz.call289 (by kernel_rfl) (fun ha hb=>lst_nb _ _) (fun hb ha=> ?_)
 obtain⟨xs,f⟩:=q
 obtain⟨k,rfl⟩:=Int.eq_ofNat_of_zero_le h2
 have hnB:=hb_in hb hb0
 have hLe:=le_own hb0
 simp only[rdB]at hb0 hLe
 simp only at h1
 simp only[Int.toNat_natCast]
 cases f with
 |true=>
  have e1:tkV (xs,true) k=List.replicate k 0:=by unfold tkV tkOK;simp
  have e2:tkS (xs,true) k=(xs,true):=by unfold tkS tkOK;simp
  have hzm:zmake k [Value.int .u8 0]=flat (List.replicate k (0:UInt8)):=(zmake_one _ _).trans (flat_zeros _).symm
  rw[e1,e2]
  refine R (cj hb0 hzm) ?_
  refine pub_whole (upd_same _ _ _) ?_ rfl (by simp)
  show upd H n _ Bd=none
  rw[upd_other _ _ (by omega)]
  exact hb.fresh _ (Nat.le_refl _)
 |false=>
  by_cases hk:xs.length<k
  ·have e1:tkV (xs,false) k=List.replicate k 0:=by unfold tkV tkOK;rw[if_neg (by simp;omega)]
   have e2:tkS (xs,false) k=(xs,true):=by unfold tkS tkOK;rw[if_neg (by simp;omega)]
   have hzm:zmake k [Value.int .u8 0]=flat (List.replicate k (0:UInt8)):=(zmake_one _ _).trans (flat_zeros _).symm
   rw[e1,e2]
   refine R (cj hb0 (cj hk hzm)) ?_
   refine pub_whole (upd_same _ _ _) ?_ rfl (by simp)
   show upd H n _ Bd=none
   rw[upd_other _ _ (by omega)]
   exact hb.fresh _ (Nat.le_refl _)
  ·have e1:tkV (xs,false) k=xs.take k:=by unfold tkV tkOK;rw[if_pos (by simp;omega)]
   have e2:tkS (xs,false) k=(xs.drop k,false):=by unfold tkS tkOK;rw[if_pos (by simp;omega)]
   rw[e1,e2]
   exact R (cj hb0 (cj hk ((@List.take_length UInt8)))) trivial
end Go.Proofs.YthoahlghegcfnaaGreatDoor
