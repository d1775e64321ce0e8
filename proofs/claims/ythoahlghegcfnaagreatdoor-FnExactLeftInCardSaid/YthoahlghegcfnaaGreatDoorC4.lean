/- YthoahlghegcfnaaGreatDoorC4 -/
import Derived.Test.YthoahlghegcfnaaGreatDoorC3
set_option linter.unusedSimpArgs false
set_option linter.unusedVariables false
set_option maxRecDepth 20000
namespace Go.Proofs.YthoahlghegcfnaaGreatDoor
open Go Go.SC
variable {H:AH} {Bd:Nat} {K:Value→AH→Nat→Prop}
def W56:qJ:=fun args H Bd K=>∃(d:GDisk),args=[.agg (enc d).toArray]∧((sm d)∧K (.int .i64 (yN d)) H Bd)
@[go_sem ↓] theorem W56_eq (d_sectors:List (List UInt8)) (d_pending:List GPut):W56 [.agg #[lst d_sectors,lst d_pending]] H Bd K=((sm (GDisk.mk d_sectors d_pending))∧K (.int .i64 (yN (GDisk.mk d_sectors d_pending))) H Bd):=ex1 (GDisk.mk d_sectors d_pending) rfl
set_option maxHeartbeats 2000000 in
theorem W56_ok:OK 56 W56:=by
 rintro args H Bd K ⟨d,rfl,hpre,hK⟩
 refine fnp pok (((((Env.base _).add 113 _ W113_ok).add 114 _ W114_115_ok).add 116 _ W116_ok).add 117 _ W117_ok) [] hK Tryz.func56 Tryz.ntmps56 Tryz.call56 [.tmp 2] fun hb ha=> ?_
 refine jH pok fun cv=> ?_
 have hd:=hpre
 simp only[sm_GDisk]at hpre
 have hlen:=qY hpre.1
 have hlen2:=qY hpre.2
 rcases Decidable.em (¬(8≤d.sectors.length∧d.sectors.length≤64))with h8|h8
 ·have hf:yN d=2:=by unfold yN;rw[if_pos h8]
  refine R (cj hd hf) ?_
  all_goals first|trivial|exact fun a b=>absurd (And.intro (by omega) (by omega)) h8
 have hf:yN d=diskG d:=by unfold yN;rw[if_neg h8]
 rw[hf]
 obtain⟨h81,h82⟩:=Decidable.not_not.1 h8
 have hall:∀x∈d.sectors,sm x:=fun x hx=>kC hpre.1 hx
 by_cases hany0:d.sectors.any (fun b=>decide (b.length≠96))=true
 ·have hg:diskG d=1:=by unfold diskG;rw[if_pos hany0]
  rw[hg]
  exact R (cj h81 (cj h82 (cj hpre (cj hall hany0)))) trivial
 ·have hany:d.sectors.any (fun b=>decide (b.length≠96))=false:=by simpa using hany0
  by_cases hp:d.pending.length>d.sectors.length
  ·have hg:diskG d=2:=by unfold diskG;rw[if_neg (by rw[hany];exact Bool.false_ne_true),if_pos hp]
   rw[hg]
   exact R (cj h81 (cj h82 (cj hpre (cj hall (cj hany hp))))) trivial
  have hg:diskG d=if putF d.sectors.length d.pending≠0 then putF d.sectors.length d.pending else if(d.pending.map (·.sector)).Nodup then 0 else 6:=by unfold diskG;rw[if_neg (by rw[hany];exact Bool.false_ne_true),if_neg hp]
  refine R (cj h81 (cj h82 (cj hpre (cj hall (cj hany hp))))) ?_
  refine jB (fun i=>putF d.sectors.length (d.pending.drop i)=putF d.sectors.length d.pending) (d.pending.length) (fun i=>[(1, .pointer (some ⟨Bd,0,none⟩)),(23,lst d.pending),(24, .int .i64 d.pending.length),(25, .int .i64 i)]) (by simp) (by simp only[go_sem,push_cast,qB,qA]) ?_
  intro i Bi hIi hii hBi
  refine cv (by kernel_rfl) ?_
  rcases Nat.lt_or_ge i (d.pending.length)with hlti|hgei
  ·have e1:d.pending[i]? =some d.pending[i]:=List.getElem?_eq_getElem hlti
   have hd2:=List.drop_eq_getElem_cons hlti
   have hx:=kC hpre.2 (List.getElem_mem hlti)
   simp only[sm_GPut]at hx
   have hx2:=qY hx.2
   rw[hd2,putF]at hIi
   by_cases hr:0≤d.pending[i].sector∧d.pending[i].sector≤(d.sectors.length:Int)-1
   ·rw[if_neg (by simpa using hr)]at hIi
    by_cases hb9:d.pending[i].bytes.length=96
    ·rw[if_neg (by simpa using hb9)]at hIi
     obtain⟨hr1,hr2⟩:=hr
     exact R (cj e1 (cj hd (cj hr1 (cj hr2 (cj hb9 hIi))))) trivial
    ·rw[if_pos hb9]at hIi
     have hg2:diskG d=1:=by rw[hg,←hIi];rfl
     obtain⟨hr1,hr2⟩:=hr
     rw[hg2]
     exact R (cj e1 (cj hd (cj hr1 (cj hr2 hb9)))) trivial
   ·rw[if_pos hr]at hIi
    have hg2:diskG d=3:=by rw[hg,←hIi];rfl
    rw[hg2]
    refine R (cj e1 (cj hd hr)) ?_
    all_goals (first|trivial|exact fun a b=>absurd (And.intro (by omega) (by omega)) hr|(intros;omega))
  ·refine R0 ?_
   have h0:putF d.sectors.length d.pending=0:=by rw[←hIi,List.drop_of_length_le hgei];rfl
   rw[h0]at hg
   simp only[ne_eq,not_true_eq_false,if_false]at hg
   refine cv (by kernel_rfl) ?_
   refine R0 ?_
   refine jB (fun j=>∀a b x y,b<a→a<j→d.pending[a]? =some x→d.pending[b]? =some y→x.sector≠y.sector) (d.pending.length) (fun j=>[(1, .pointer (some ⟨Bd,0,none⟩)),(40,lst d.pending),(41, .int .i64 d.pending.length),(42, .int .i64 j)]) (by simp) (by simp only[go_sem,push_cast,qB,qA]) ?_
   intro j Bj hIj hij hBj
   refine cv (by kernel_rfl) ?_
   rcases Nat.lt_or_ge j (d.pending.length)with hltj|hgej
   ·have e1:d.pending[j]? =some d.pending[j]:=List.getElem?_eq_getElem hltj
    have hself:=waitD_self hltj
    by_cases hq:waitD d d.pending[j].sector=j
    ·refine R (cj e1 (cj hd hq)) ?_
     intro a b x y h1 h2 h3 h4
     by_cases e:a=j
     ·subst e
      rw[e1]at h3;cases h3
      have hb2:b<d.pending.length:=by omega
      rw[List.getElem?_eq_getElem hb2]at h4;cases h4
      exact fun q=>((hself.1 hq) b h1) q.symm
     ·exact hIj a b x y h1 (by omega) h3 h4
    ·have hn:¬(d.pending.map (·.sector)).Nodup:=fun hn=>hq (hself.2 fun k hk e=>nodup_map_not (f:=(·.sector)) hk hltj e.symm hn)
     rw[if_neg hn]at hg
     rw[hg]
     exact R (cj e1 (cj hd hq)) trivial
   ·refine R0 ?_
    refine cv (by kernel_rfl) ?_
    have h7:(d.pending.map (·.sector)).Nodup:=nodup_map fun i j x y h1 h2 h3 h4=>hIj i j x y h1 (by omega) h3 h4
    rw[if_pos h7]at hg
    rw[hg]
    exact R0 trivial
def W219:qJ:=fun args H Bd K=>∃(xs:List UInt8) (ys:List UInt8),args=[lst xs,lst ys]∧(K (.bool (decide (xs=ys))) H Bd)
@[go_sem ↓] theorem W219_eq (xs:List UInt8) (ys:List UInt8):W219 [lst xs,lst ys] H Bd K=(K (.bool (decide (xs=ys))) H Bd):=ex2 xs ys rfl
theorem W219_ok:OK 219 W219:=by
 rintro args H Bd K ⟨xs,ys,rfl,hK⟩
 refine fnp pok (Env.base _) [] hK Tryz.func219 Tryz.ntmps219 Tryz.call219 [.tmp 4] fun hb ha=> ?_
 simp (maxSteps:=2000000) (disch:=first|assumption|(refine qI ?_;assumption)|exact Nat.le_add_right _ _|exact Nat.le_refl _|omega|(simp (disch:=first|exact Nat.le_add_right _ _|omega) only[qG hb,qR hb,qM,qE hb,qC];done)|fail) only[go_sem,push_cast,qB,qA,qG hb,qE hb]
 all_goals first|done|trivial|((try simp only[Cnp,Imp]);grind)
def W247:qJ:=fun args H Bd K=>∃(xs:List UInt8),args=[lst xs]∧((xs.length≤2000)∧K (.agg (enc (GIntResult.mk 0 (sumB 29 xs))).toArray) H Bd)
@[go_sem ↓] theorem W247_eq (xs:List UInt8):W247 [lst xs] H Bd K=((xs.length≤2000)∧K (.agg (enc (GIntResult.mk 0 (sumB 29 xs))).toArray) H Bd):=ex1 xs rfl
theorem W247_ok:OK 247 W247:=by
 rintro args H Bd K ⟨xs,rfl,hpre,hK⟩
 refine fnp pok (Env.base _) [] hK Tryz.func247 Tryz.ntmps247 Tryz.call247 [.cell 2 71] fun hb ha=> ?_
 refine jH pok fun cv=> ?_
 have hlen:=hpre
 refine R0 ?_
 refine jB (fun i=>True) (xs.length) (fun i=>[(2, .pointer (some ⟨Bd,0,none⟩)),(3, .int .i64 (sumB 29 (xs.take i))),(10,lst xs),(11, .int .i64 xs.length),(12, .int .i64 i)]) (trivial) (by simp only[go_sem,push_cast,qB,qA,List.take_zero,sumB]) ?_
 intro i Bi hIi hii hBi
 refine cv (by kernel_rfl) ?_
 rcases Nat.lt_or_ge i (xs.length)with hlti|hgei
 ·have e1:xs[i]? =some xs[i]:=List.getElem?_eq_getElem hlti
  have hst:=sumB_take hlti
  have hr:=sum_rg (xs.take i)
  have hby:(xs[i].toNat:Int)<256:=by have:=xs[i].toNat_lt;omega
  have ht:(sumB 29 (xs.take i)*227+(xs[i].toNat:Int)+1).tmod 65521=(sumB 29 (xs.take i)*227+(xs[i].toNat:Int)+1)%65521:=Int.tmod_eq_emod_of_nonneg (by omega)
  have hcm:227*sumB 29 (xs.take i)=sumB 29 (xs.take i)*227:=Int.mul_comm _ _
  exact R (cj e1 (cj hst (cj hcm ht))) trivial
 ·refine R0 ?_
  refine cv (by kernel_rfl) ?_
  rw[List.take_of_length_le hgei]
  exact R0 trivial
def W246:qJ:=fun args H Bd K=>∃(n:Int),args=[.int .i64 n]∧((0≤n∧n≤65535)∧K (lst (jP n)) H Bd)
@[go_sem ↓] theorem W246_eq (n:Int):W246 [.int .i64 n] H Bd K=((0≤n∧n≤65535)∧K (lst (jP n)) H Bd):=ex1 n rfl
theorem W246_ok:OK 246 W246:=by
 rintro args H Bd K ⟨n,rfl,hpre,hK⟩
 refine fnp pok (Env.base _) [] hK Tryz.func246 Tryz.ntmps246 Tryz.call246 [.tmp 2] fun hb ha=> ?_
 obtain⟨h1,h2⟩:=hpre
 have e1:n.fdiv (2^min 8 64)=n/256:=by rw[show(2:Int)^(min 8 64)=256 from rfl];exact Int.fdiv_eq_ediv_of_nonneg n (by decide)
 have hl:2=(jP n).length:=rfl
 simp (maxSteps:=2000000) (disch:=first|assumption|(refine qI ?_;assumption)|exact Nat.le_add_right _ _|exact Nat.le_refl _|omega|(simp (disch:=first|exact Nat.le_add_right _ _|omega) only[qG hb,qR hb,qM,qE hb,qC];done)|fail) only[go_sem,push_cast,qB,qA,qG hb,qE hb,e1,←pairB_flat n]
 exact jA (qN _ _ _) (hb.fresh _ (by omega)) rfl rfl
def W289:qJ:=RdTk
@[go_sem ↓] theorem W289_eq (n:Nat) (k:Int):W289 [.pointer (some ⟨n,0,none⟩), .int .i64 k] H Bd K=(Yld (H n) fun b=>Yld (rdOf b) fun q=>(q.1.length≤1000000∧0≤k∧k≤1000000)∧K (lst (tkV q k.toNat)) (upd H n (some ⟨[lst (tkS q k.toNat).1, .bool (tkS q k.toNat).2],true⟩)) Bd):=RdTk_eq n k H Bd K
set_option maxHeartbeats 2000000 in
theorem W289_ok:OK 289 W289:=by
 rintro args H Bd K ⟨n,k,rfl,b0,hb0,q,hq,⟨h1,h2,h3⟩,hK⟩
 obtain rfl:=rdOf_out hq
 refine fn_set pok (Env.base _) [(1,[],[],(.k 5 (.grp false 10 17 7 [11,12,13,14,15,16,17] 18 none (.k 7 .nil) .nil)))] _ hK (fun hh=>hb_setR hh hb0 _) Tryz.func289 rfl (rs:=[.tmp 4]) rfl Tryz.ntmps289 (by simp) Tryz.call289 (by kernel_rfl) (fun ha hb=>lst_nb _ _) (fun hb ha=> ?_)
 obtain⟨xs,f⟩:=q
 obtain⟨k,rfl⟩:=Int.eq_ofNat_of_zero_le h2
 have hnB:=hb_in hb hb0
 have hLe:=le_own hb0
 simp only[rdB]at hb0 hLe
 simp only at h1
 simp only[Int.toNat_natCast]
 cases f with
 |true=>
  have e1:tkV (xs,true) k=List.replicate k 0:=by unfold tkV tkOK;simp
  have e2:tkS (xs,true) k=(xs,true):=by unfold tkS tkOK;simp
  have hzm:yZ k [Value.int .u8 0]=qQ (List.replicate k (0:UInt8)):=(zmake_one _ _).trans (flat_zeros _).symm
  rw[e1,e2]
  refine R (cj hb0 hzm) ?_
  refine jA (qN _ _ _) ?_ rfl (by simp)
  show upd H n _ Bd=none
  rw[qF _ _ (by omega)]
  exact hb.fresh _ (Nat.le_refl _)
 |false=>
  by_cases hk:xs.length<k
  ·have e1:tkV (xs,false) k=List.replicate k 0:=by unfold tkV tkOK;rw[if_neg (by simp;omega)]
   have e2:tkS (xs,false) k=(xs,true):=by unfold tkS tkOK;rw[if_neg (by simp;omega)]
   have hzm:yZ k [Value.int .u8 0]=qQ (List.replicate k (0:UInt8)):=(zmake_one _ _).trans (flat_zeros _).symm
   rw[e1,e2]
   refine R (cj hb0 (cj hk hzm)) ?_
   refine jA (qN _ _ _) ?_ rfl (by simp)
   show upd H n _ Bd=none
   rw[qF _ _ (by omega)]
   exact hb.fresh _ (Nat.le_refl _)
  ·have e1:tkV (xs,false) k=xs.take k:=by unfold tkV tkOK;rw[if_pos (by simp;omega)]
   have e2:tkS (xs,false) k=(xs.drop k,false):=by unfold tkS tkOK;rw[if_pos (by simp;omega)]
   rw[e1,e2]
   exact R (cj hb0 (cj hk ((@List.take_length UInt8)))) trivial
def W288:qJ:=RdT (fun q=> .int .i64 (pairV q)) (fun q=>tkS q 2)
@[go_sem ↓] theorem W288_eq (n:Nat):W288 [.pointer (some ⟨n,0,none⟩)] H Bd K=(Yld (H n) fun b=>Yld (rdOf b) fun q=>(q.1.length≤1000000)∧K (.int .i64 (pairV q)) (upd H n (some ⟨[lst (tkS q 2).1, .bool (tkS q 2).2],true⟩)) Bd):=RdT_eq _ _ n H Bd K
theorem W288_ok:OK 288 W288:=by
 rintro args H Bd K ⟨n,rfl,b0,hb0,q,hq,h1,hK⟩
 obtain rfl:=rdOf_out hq
 have hK:K (.int .i64 (pairV q)) (upd H n (some ⟨[lst (tkS q 2).1, .bool (tkS q 2).2],true⟩)) Bd:=hK
 refine fn_set pok ((Env.base _).add 289 _ W289_ok) [(2,[0,1,2,3,4,5,6,7,8,9,10],[⟨0,[],[]⟩,⟨1,[],[]⟩,⟨2,[],[]⟩,⟨3,[],[]⟩,⟨4,[],[]⟩,⟨5,[],[]⟩,⟨6,[],[]⟩,⟨7,[],[]⟩,⟨8,[],[]⟩,⟨9,[],[]⟩,⟨10,[],[]⟩], .nil)] _ hK (fun hh=>hb_setR hh hb0 _) Tryz.func288 rfl (rs:=[.tmp 2]) rfl Tryz.ntmps288 (by simp) Tryz.call288 (by kernel_rfl) (fun ha hb=> .int _ _) (fun hb ha=> ?_)
 obtain⟨xs,f⟩:=q
 have hnB:=hb_in hb hb0
 have hLe:=le_own hb0
 simp only[rdB]at hb0 hLe
 simp only at h1
 have e0:(tkV (xs,f) 2)[0]? =some ((tkV (xs,f) 2)[0]'(by rw[kW];omega)):=List.getElem?_eq_getElem _
 have e2:(tkV (xs,f) 2)[1]? =some ((tkV (xs,f) 2)[1]'(by rw[kW];omega)):=List.getElem?_eq_getElem _
 have e1:pairV (xs,f)=(((tkV (xs,f) 2)[0]'(by rw[kW];omega)).toNat:Int)*256+(((tkV (xs,f) 2)[1]'(by rw[kW];omega)).toNat:Int):=by unfold pairV;rw[List.getD_eq_getElem?_getD,e0,List.getD_eq_getElem?_getD,e2];rfl
 have e3:=kW (xs,f) 2
 have hA:=((tkV (xs,f) 2)[0]'(by rw[kW];omega)).toNat_lt
 have hC:=((tkV (xs,f) 2)[1]'(by rw[kW];omega)).toNat_lt
 have hor:=or_bytes hA hC
 have h256:(2:Int)^(min 8 64)=256:=rfl
 rw[e1]
 exact R (cj hb0 (cj e0 (cj e2 (cj h256 hor)))) trivial
def W215:qJ:=RdT (fun q=> .int .i64 (yI q)) (fun q=>tkS q 1)
@[go_sem ↓] theorem W215_eq (n:Nat):W215 [.pointer (some ⟨n,0,none⟩)] H Bd K=(Yld (H n) fun b=>Yld (rdOf b) fun q=>(q.1.length≤1000000)∧K (.int .i64 (yI q)) (upd H n (some ⟨[lst (tkS q 1).1, .bool (tkS q 1).2],true⟩)) Bd):=RdT_eq _ _ n H Bd K
theorem W215_ok:OK 215 W215:=by
 rintro args H Bd K ⟨n,rfl,b0,hb0,q,hq,h1,hK⟩
 obtain rfl:=rdOf_out hq
 have hK:K (.int .i64 (yI q)) (upd H n (some ⟨[lst (tkS q 1).1, .bool (tkS q 1).2],true⟩)) Bd:=hK
 refine fn_set pok ((Env.base _).add 289 _ W289_ok) [] _ hK (fun hh=>hb_setR hh hb0 _) Tryz.func215 rfl (rs:=[.tmp 2]) rfl Tryz.ntmps215 (by simp) Tryz.call215 (by kernel_rfl) (fun ha hb=> .int _ _) (fun hb ha=> ?_)
 obtain⟨xs,f⟩:=q
 have hnB:=hb_in hb hb0
 have hLe:=le_own hb0
 simp only[rdB]at hb0 hLe
 simp only at h1
 have e0:(tkV (xs,f) 1)[0]? =some ((tkV (xs,f) 1)[0]'(by rw[kW];omega)):=List.getElem?_eq_getElem _
 have e1:yI (xs,f)=(((tkV (xs,f) 1)[0]'(by rw[kW];omega)).toNat:Int):=by unfold yI;rw[List.getD_eq_getElem?_getD,e0];rfl
 have e3:=kW (xs,f) 1
 rw[e1]
 have b0:(((tkV (xs,f) 1)[0]'(by rw[kW];omega)).toNat:Int)≤9223372036854775807:=by have:=((tkV (xs,f) 1)[0]'(by rw[kW];omega)).toNat_lt;omega
 exact R (cj hb0 (cj e0 b0)) trivial
def W290:qJ:=fun args H Bd K=>∃(n:Nat),args=[.pointer (some ⟨n,0,none⟩)]∧Yld (H n) fun b=>Yld (yG rdB b) fun x=>((x.1.length≤1000000))∧K (.agg #[lst (sigR (x.1,x.2)).1]) (upd (upd H n none) n (some ⟨[lst (sigR (x.1,x.2)).2.1, .bool (sigR (x.1,x.2)).2.2],true⟩)) (Bd+0)
@[go_sem ↓] theorem W290_eq (n:Nat):W290 [.pointer (some ⟨n,0,none⟩)] H Bd K=(Yld (H n) fun b=>Yld (yG rdB b) fun x=>((x.1.length≤1000000))∧K (.agg #[lst (sigR (x.1,x.2)).1]) (upd (upd H n none) n (some ⟨[lst (sigR (x.1,x.2)).2.1, .bool (sigR (x.1,x.2)).2.2],true⟩)) (Bd+0)):=by
 refine propext ⟨fun h=> ?_,fun h=>⟨_,rfl,h⟩⟩
 obtain⟨n',e,h⟩:=h
 simp only[List.cons.injEq,Value.agg.injEq,jE,Value.int.injEq,Value.bool.injEq,Value.string.injEq,Value.pointer.injEq,Option.some.injEq,Addr.mk.injEq,lst_inj,true_and,and_true]at e
 obtain rfl:=e
 exact h
set_option maxHeartbeats 4000000 in
theorem W290_ok:OK 290 W290:=by
 rintro args H Bd K ⟨n,rfl,b,hb0,x,hx,hpre,hK⟩
 obtain⟨rest,fd⟩:=x
 obtain rfl:=kV hx
 simp only[rdB,flB]at hb0 hK hpre
 have hnB:HB H Bd→n<Bd:=fun h=>hb_in h hb0
 obtain⟨G,rfl,gn,gE,gH⟩:=out1 hb0
 rw[gE]at hK
 refine fn_can pok (((Env.base _).add 215 _ W215_ok).add 289 _ W289_ok) [(6,[0,1,2,3,4,5,6,7,8,9],[⟨0,[],[]⟩,⟨1,[],[]⟩,⟨2,[],[]⟩,⟨3,[],[]⟩,⟨4,[],[1]⟩,⟨5,[],[]⟩,⟨6,[],[]⟩,⟨7,[6],[]⟩,⟨8,[],[]⟩,⟨9,[6],[]⟩], .nil)] G [] (.agg #[lst (sigR (rest,fd)).1]) [(n,⟨[lst (sigR (rest,fd)).2.1, .bool (sigR (rest,fd)).2.2],true⟩)] hK (by simp) (gH Bd) Tryz.func290 rfl (rs:=[.cell 2 44]) rfl Tryz.ntmps290 (by simp) Tryz.call290 (by kernel_rfl) (fun hh hb ha=> ?_)
 have hn:=hnB hh
 skip
 clear hK gE gH hnB hb0 hx
 refine jH pok fun cv=> ?_
 have hone:=vN (rest,fd)
 have hcl:=vK (rest,fd) 1
 refine S hpre ?_
 refine kB (X:=Nat×List GSymbol×List UInt8×Bool) hb (by omega) 1 [.m (Bd+1) 0] rfl (fun x=>(x.1:Int)≤yI (rest,fd)∧x.2.1.length≤x.1∧x.2.2.1.length≤1000000∧sigR (rest,fd)=symsR ((yI (rest,fd)).toNat-x.1) x.2.2 x.2.1) (fun x=>(yI (rest,fd)).toNat-x.1) (fun Nx x=>[(0, .pointer (some ⟨n,0,none⟩)),(2, .pointer (some ⟨Bd,0,none⟩)),(3, .pointer (some ⟨Bd+1,0,none⟩)),(7, .int .i64 (yI (rest,fd))),(8, .int .i64 x.1)]) (fun Nx x=>[(n,⟨[lst x.2.2.1, .bool x.2.2.2],true⟩),(Bd,⟨[.slice none 0 0],true⟩),(Bd+1,⟨[.slice (some ⟨Nx,0,some 2⟩) x.2.1.length (x.2.1.length+1)],true⟩),(Nx,⟨qQ x.2.1,true⟩)]) (0,[],tkS (rest,fd) 1) (⟨hone.1,Nat.zero_le _,Nat.le_trans hcl hpre,rfl⟩) (fun Nx hNx=>(cant)) ?_
 intro Nx x hNx hIx hbx Fx hFx
 simp only[mem_cons,jK]at hbx ⊢
 refine cv (by kernel_rfl) ?_
 obtain⟨i,out,rest2,f2⟩:=x
 obtain⟨i1,i2,i3,i4⟩:=hIx
 simp only at i1 i2 i3 i4
 by_cases hlt:(i:Int)<yI (rest,fd)
 ·cases f2 with
  |true=>
   rw[symsR_fail]at i4
   rw[i4]
   refine S hlt ?_
   refine cv (by kernel_rfl) ?_
   refine S0 ?_
   exact rq_pubI (by simp (disch:=first|assumption|omega) only[go_sem,push_cast,qB,qA] <;>rfl) rfl (by simp (disch:=first|assumption|omega) only[go_sem,push_cast,qB,qA,qC,qE hb] <;>omega) rfl
  |false=>
   have hst:(yI (rest,fd)).toNat-i=((yI (rest,fd)).toNat-(i+1))+1:=by omega
   rw[hst,symsR,if_neg (by simp)]at i4
   have ho1:=vN (rest2,false)
   have ho2:=vN (rq2 (rest2,false))
   have hl1:(tkS (rest2,false) 1).1.length≤1000000:=Nat.le_trans (vK _ _) i3
   have hl2:(tkS (tkS (rest2,false) 1) (yI (rest2,false)).toNat).1.length≤1000000:=Nat.le_trans (vK _ _) hl1
   refine SA hlt ?_
   refine hFx (i+1,out++[(symR (rest2,false)).1],(symR (rest2,false)).2) _ _ _ ?_ ?_ (by simp only[go_sem,push_cast,qB,qA]) ((by simp (disch:=first|assumption|omega|(simp (disch:=omega) only[qC,qE hb];done)|(simp (disch:=first|omega|(simp (disch:=omega) only[qC,qE hb];done)) only[go_sem,push_cast,qB,qA,qC,qE hb];done)|fail) only[go_sem,push_cast,qB,qA,qM,qG hb,qC,qE hb,jC,qL,qU,jS,jI,jD,jX,jL,List.append_assoc,List.length_append,List.length_cons,List.length_nil,Nat.zero_add,symR,rky,rq2,enc_GSymbol];all_goals (try simp only[Value.int.injEq,Value.slice.injEq,true_and,and_true]) <;>all_goals (try(first|trivial|omega|grind))))
   ·show(yI (rest,fd)).toNat-(i+1)<(yI (rest,fd)).toNat-i
    omega
   ·exact⟨show((i+1:Nat):Int)≤_ by omega,by simp;omega,Nat.le_trans (symR_le _) i3,i4⟩
 ·have hi:(yI (rest,fd)).toNat-i=0:=by omega
  rw[hi,symsR]at i4
  rw[i4]
  refine S hlt ?_
  refine cv (by kernel_rfl) ?_
  refine S0 ?_
  exact rq_pubI (by simp (disch:=first|assumption|omega) only[go_sem,push_cast,qB,qA] <;>rfl) rfl (by simp (disch:=first|assumption|omega) only[go_sem,push_cast,qB,qA,qC,qE hb] <;>omega) rfl
def W119:qJ:=fun args H Bd K=>∃(n:Int),args=[.int .i64 n]∧(K (.bool (isPg n)) H Bd)
@[go_sem ↓] theorem W119_eq (n:Int):W119 [.int .i64 n] H Bd K=(K (.bool (isPg n)) H Bd):=ex1 n rfl
theorem W119_ok:OK 119 W119:=by
 rintro args H Bd K ⟨n,rfl,hK⟩
 refine fnp pok ((Env.base _).add 113 _ W113_ok) [] hK Tryz.func119 Tryz.ntmps119 Tryz.call119 [.tmp 2] fun hb ha=> ?_
 refine R0 ?_
 unfold isPg
 all_goals first|done|trivial|((try simp only[Cnp,Imp]);grind)
def W118:qJ:=fun args H Bd K=>∃(n:Int),args=[.int .i64 n]∧(K (.bool (isRt n)) H Bd)
@[go_sem ↓] theorem W118_eq (n:Int):W118 [.int .i64 n] H Bd K=(K (.bool (isRt n)) H Bd):=ex1 n rfl
theorem W118_ok:OK 118 W118:=by
 rintro args H Bd K ⟨n,rfl,hK⟩
 refine fnp pok ((Env.base _).add 119 _ W119_ok) [(1,[],[],(.k 3 (.grp false 5 7 2 [6,7] 8 none (.k 2 .nil) (.k 1 .nil))))] hK Tryz.func118 Tryz.ntmps118 Tryz.call118 [.tmp 2] fun hb ha=> ?_
 refine R0 ?_
 unfold isRt
 all_goals first|done|trivial|((try simp only[Cnp,Imp]);grind)
def W133:qJ:=fun args H Bd K=>∃(s:ByteArray),args=[.string s]∧((s.size≤281474976710656)∧K (.bool (isNm s)) H Bd)
@[go_sem ↓] theorem W133_eq (s:ByteArray):W133 [.string s] H Bd K=((s.size≤281474976710656)∧K (.bool (isNm s)) H Bd):=ex1 s rfl
theorem W133_ok:OK 133 W133:=by
 rintro args H Bd K ⟨s,rfl,hpre,hK⟩
 refine fnp pok ((Env.base _).add 195 _ W195_ok) [(1,[],[],(.k 4 (.grp true 6 9 3 [7,8,9] 10 none (.k 3 .nil) (.k 1 (.grp true 11 14 3 [12,13,14] 15 none (.k 3 .nil) (.k 1 .nil))))))] hK Tryz.func133 Tryz.ntmps133 Tryz.call133 [.tmp 2] fun hb ha=> ?_
 refine R hpre ?_
 exact⟨fun _ _=>⟨by decide,az_lt⟩,isNm_trim s⟩
theorem G196(g:Nat)(caps:Array Value)(p:GSymbol→Bool)(xs:List GSymbol)(H:AH)(Bd:Nat)(K:Value→AH→Nat→Prop)(hsm:sm xs)(hg:∀x∈xs,∀B,Bd≤B→∀K':Value→AH→Nat→Prop,K' (.bool (p x)) H B→SCalls Tryz.prog g (idS ((.agg (enc (x)).toArray)::caps.toList)) H B K')(hK:K (.int .i64 (fidx p xs)) H Bd):SCalls Tryz.prog 196 [lst xs, .func (.func g) #[] caps] H Bd K:=by
 refine yE pok (Env.base _) [] _ hK Tryz.func196 rfl (rs:=[.tmp 4]) rfl Tryz.ntmps196 (by simp) Tryz.call196 (by kernel_rfl) (fun ha hb=> .int _ _) (fun hb ha=> ?_)
 refine jH pok fun cv=> ?_
 have hlen:=qY hsm
 refine R0 ?_
 refine jB (fun i=>∀j,j<i→∀x,xs[j]? =some x→p x=false) (xs.length) (fun i=>[(0,lst xs),(1, .func (.func g) #[] caps),(7, .int .i64 xs.length),(8, .int .i64 i)]) (by simp) (by simp only[go_sem,push_cast,qB,qA]) ?_
 intro i Bi hIi hii hBi
 refine cv (by kernel_rfl) ?_
 rcases Nat.lt_or_ge i (xs.length)with hlti|hgei
 ·have e1:xs[i]? =some xs[i]:=List.getElem?_eq_getElem hlti
  refine R e1 ?_
  refine hg _ (List.getElem_mem hlti) _ (by omega) _ ?_
  refine R e1 ?_
  exact⟨fun h=>by rw[vU hlti hIi h],fun h=>fun j hj x hx=>by
   by_cases e:j=i
   ·subst e;rw[e1]at hx;cases hx;simpa using h
   ·exact hIi j (by omega) x hx⟩
 ·refine R0 ?_
  refine cv (by kernel_rfl) ?_
  refine R0 ?_
  rw[vR fun j hj x hx=>hIi j (by omega) x hx]
def V197:qJ:=fun args H Bd K=>∃(x:GSymbol) (name:ByteArray),args=[.agg (enc x).toArray, .agg (enc name).toArray]∧(K (.bool (decide (x.name=name))) H Bd)
def W197:qJ:=fun args H Bd K=>∃(vx pname:Value),args=[vx,pname]∧Yld (qK H 1 pname) fun cname=>qS V197 [vx, .agg cname.toArray] H Bd K
theorem W197_ok:OK 197 W197:=by
 rintro args H Bd K ⟨vx,pname,rfl,cname,ename,h⟩
 obtain⟨x,name,e,hK⟩:=h
 simp only[List.cons.injEq,and_true]at e
 obtain⟨rfl,Ename⟩:=e
 obtain rfl:=qZ Ename
 refine fnp pok (Env.base _) [] hK Tryz.func197 Tryz.ntmps197 Tryz.call197 [.tmp 3] fun hb ha=> ?_
 have Pname:=qO ename (NB.vpok (ha pname (by simp)))
 simp only[jS,jX,jI,jL,jD]at Pname
 have Zname:=Pname.all 1 rfl
 have Yname:=jJ (ha pname (by simp))
 exact R Zname trivial
def V196_197:qJ:=fun args H Bd K=>∃(xs:List GSymbol) (name:ByteArray),args=[lst xs, .agg (enc name).toArray]∧((sm xs)∧K (.int .i64 (fidx (fun x:GSymbol=>decide (x.name=name)) xs)) H Bd)
@[go_sem ↓] theorem V196_197_eq (xs:List GSymbol) (name:ByteArray):V196_197 [lst xs, .agg #[.string name]] H Bd K=((sm xs)∧K (.int .i64 (fidx (fun x:GSymbol=>decide (x.name=name)) xs)) H Bd):=ex2 xs name rfl
def W196_197:qJ:=fun args H Bd K=>∃(vxs pname:Value),args=[vxs, .func (.func 197) #[] #[pname]]∧Yld (qK H 1 pname) fun cname=>qS V196_197 [vxs, .agg cname.toArray] H Bd K
@[go_sem ↓] theorem W196_197_eq (vxs pname:Value):W196_197 [vxs, .func (.func 197) #[] #[pname]] H Bd K=(Yld (qK H 1 pname) fun cname=>qS V196_197 (idS [vxs, .agg cname.toArray]) H Bd K):=by
 refine propext ⟨fun h=> ?_,fun h=>⟨_,_,rfl,h⟩⟩
 obtain⟨vxs',pname',e,h⟩:=h
 simp only[List.cons.injEq,Value.func.injEq,jE,List.cons.injEq,and_true,true_and]at e
 obtain⟨rfl,rfl⟩:=e
 exact h
theorem W196_197_ok:OK 196 W196_197:=by
 rintro args H Bd K ⟨vxs,pname,rfl,cname,ename,h⟩
 obtain⟨xs,name,e,hpre,hK⟩:=h
 simp only[List.cons.injEq,and_true]at e
 obtain⟨rfl,Ename⟩:=e
 obtain rfl:=qZ Ename
 refine G196 197 #[pname] (fun x:GSymbol=>decide (x.name=name)) xs H Bd K hpre (fun x hx B hB K' hk=> ?_) hK
 exact W197_ok _ _ _ _ ⟨_,_,rfl,_,ename,x,name,rfl,hk⟩
def W134:qJ:=fun args H Bd K=>∃(s:GSignature) (name:ByteArray),args=[.agg (enc s).toArray, .string name]∧((sm s)∧K (.int .i64 (symIdx s name)) H Bd)
@[go_sem ↓] theorem W134_eq (s_symbols:List GSymbol) (name:ByteArray):W134 [.agg #[lst s_symbols], .string name] H Bd K=((sm (GSignature.mk s_symbols))∧K (.int .i64 (symIdx (GSignature.mk s_symbols) name)) H Bd):=ex2 (GSignature.mk s_symbols) name rfl
theorem W134_ok:OK 134 W134:=by
 rintro args H Bd K ⟨s,name,rfl,hpre,hK⟩
 refine fnp pok ((Env.base _).add 196 _ W196_197_ok) [] hK Tryz.func134 Tryz.ntmps134 Tryz.call134 [.tmp 4] fun hb ha=> ?_
 simp only[yL]at hpre
 refine R hpre ?_
 try rfl
theorem G135(g:Nat)(caps:Array Value)(p:GSymbol→Bool)(xs:List GSymbol)(H:AH)(Bd:Nat)(K:Value→AH→Nat→Prop)(hsm:sm xs)(hg:∀x∈xs,∀B,Bd≤B→∀K':Value→AH→Nat→Prop,K' (.bool (p x)) H B→SCalls Tryz.prog g (idS ((.agg (enc (x)).toArray)::caps.toList)) H B K')(hK:K (.bool (xs.any p)) H Bd):SCalls Tryz.prog 135 [lst xs, .func (.func g) #[] caps] H Bd K:=by
 refine yE pok (Env.base _) [] _ hK Tryz.func135 rfl (rs:=[.tmp 4]) rfl Tryz.ntmps135 (by simp) Tryz.call135 (by kernel_rfl) (fun ha hb=> .bool _) (fun hb ha=> ?_)
 refine R0 ?_
 refine G196 _ _ p xs _ _ _ hsm hg ?_
 refine R0 ?_
 exact fidx_ge p xs
def W136:qJ:=fun args H Bd K=>∃(x:GSymbol),args=[.agg (enc x).toArray]∧(K (.bool (decide (x.arity=0))) H Bd)
theorem W136_ok:OK 136 W136:=by
 rintro args H Bd K ⟨x,rfl,hK⟩
 refine fnp pok (Env.base _) [] hK Tryz.func136 Tryz.ntmps136 Tryz.call136 [.tmp 2] fun hb ha=> ?_
 exact R0 trivial
def V135_136:qJ:=fun args H Bd K=>∃(xs:List GSymbol),args=[lst xs]∧((sm xs)∧K (.bool (xs.any (fun x:GSymbol=>decide (x.arity=0)))) H Bd)
@[go_sem ↓] theorem V135_136_eq (xs:List GSymbol):V135_136 [lst xs] H Bd K=((sm xs)∧K (.bool (xs.any (fun x:GSymbol=>decide (x.arity=0)))) H Bd):=ex1 xs rfl
def W135_136:qJ:=fun args H Bd K=>∃(vxs:Value),args=[vxs, .func (.func 136) #[] #[]]∧qS V135_136 [vxs] H Bd K
@[go_sem ↓] theorem W135_136_eq (vxs:Value):W135_136 [vxs, .func (.func 136) #[] #[]] H Bd K=(qS V135_136 (idS [vxs]) H Bd K):=by
 refine propext ⟨fun h=> ?_,fun h=>⟨_,rfl,h⟩⟩
 obtain⟨vxs',e,h⟩:=h
 simp only[List.cons.injEq,Value.func.injEq,jE,List.cons.injEq,and_true,true_and]at e
 obtain rfl:=e
 exact h
theorem W135_136_ok:OK 135 W135_136:=by
 rintro args H Bd K ⟨vxs,rfl,h⟩
 obtain⟨xs,e,hpre,hK⟩:=h
 simp only[List.cons.injEq,and_true]at e
 obtain rfl:=e
 refine G135 136 #[] (fun x:GSymbol=>decide (x.arity=0)) xs H Bd K hpre (fun x hx B hB K' hk=> ?_) hK
 exact W136_ok _ _ _ _ ⟨x,rfl,hk⟩
def W76:qJ:=fun args H Bd K=>∃(s:GSignature),args=[.agg (enc s).toArray]∧((sm s)∧K (.int .i64 (yK s)) H Bd)
@[go_sem ↓] theorem W76_eq (s_symbols:List GSymbol):W76 [.agg #[lst s_symbols]] H Bd K=((sm (GSignature.mk s_symbols))∧K (.int .i64 (yK (GSignature.mk s_symbols))) H Bd):=ex1 (GSignature.mk s_symbols) rfl
set_option maxHeartbeats 2000000 in
theorem W76_ok:OK 76 W76:=by
 rintro args H Bd K ⟨s,rfl,hpre,hK⟩
 refine fnp pok (((((Env.base _).add 133 _ W133_ok).add 113 _ W113_ok).add 134 _ W134_ok).add 135 _ W135_136_ok) [(1,[],[],(.k 5 (.grp false 11 15 4 [12,13,14,15] 16 none (.k 4 .nil) .nil)))] hK Tryz.func76 Tryz.ntmps76 Tryz.call76 [.tmp 2] fun hb ha=> ?_
 refine jH pok fun cv=> ?_
 simp only[yL]at hpre
 have hlen:=qY hpre
 have hss:sm s:=hpre
 refine R0 ?_
 refine⟨fun h=>by unfold yK;rw[if_pos (by omega)],fun h1 h2=> ?_⟩
 have hs:yK s=sigG s:=by unfold yK;rw[if_neg (by omega)]
 rw[hs]
 refine jB (fun i=>symL (s.symbols.drop i)=symL s.symbols) (s.symbols.length) (fun i=>[(1, .pointer (some ⟨Bd,0,none⟩)),(18,lst s.symbols),(19, .int .i64 s.symbols.length),(20, .int .i64 i)]) (by simp) (by simp only[go_sem,push_cast,qB,qA]) ?_
 intro i Bi hIi hii hBi
 refine cv (by kernel_rfl) ?_
 rcases Nat.lt_or_ge i (s.symbols.length)with hlti|hgei
 ·have e1:s.symbols[i]? =some s.symbols[i]:=List.getElem?_eq_getElem hlti
  have hd:=List.drop_eq_getElem_cons hlti
  have hx:=kC hpre (List.getElem_mem hlti)
  simp only[sm_GSymbol,sm_str,sm_int,and_true]at hx
  rw[hd,symL]at hIi
  refine R (cj e1 hx) ?_
  generalize symL (List.drop (i+1) s.symbols)=q at*
  unfold sigG
  all_goals first|done|trivial|((try simp only[Cnp,Imp]);grind)
 ·refine R0 ?_
  refine cv (by kernel_rfl) ?_
  refine R0 ?_
  have h0:symL s.symbols=0:=by rw[←hIi,List.drop_of_length_le hgei];rfl
  refine jB (fun j=>∀a b x y,b<a→a<j→s.symbols[a]? =some x→s.symbols[b]? =some y→x.name≠y.name) (s.symbols.length) (fun j=>[(1, .pointer (some ⟨Bd,0,none⟩)),(34,lst s.symbols),(35, .int .i64 s.symbols.length),(36, .int .i64 j)]) (by simp) (by simp only[go_sem,push_cast,qB,qA]) ?_
  intro j Bj hIj hij hBj
  refine cv (by kernel_rfl) ?_
  rcases Nat.lt_or_ge j (s.symbols.length)with hltj|hgej
  ·have e1:s.symbols[j]? =some s.symbols[j]:=List.getElem?_eq_getElem hltj
   refine R (cj e1 hss) ?_
   refine⟨fun h=> ?_,fun h=> ?_⟩
   ·intro a b x y h1 h2 h3 h4
    by_cases e:a=j
    ·subst e
     rw[e1]at h3;cases h3
     rw[List.getElem?_eq_getElem (by omega)]at h4;cases h4
     exact(((symIdx_self hltj).1 h) b h1).symm
    ·exact hIj a b x y h1 (by omega) h3 h4
   ·have:¬(s.symbols.map (·.name)).Nodup:=fun hn=>h ((symIdx_self hltj).2 fun k hk e=>nodup_map_not (f:=(·.name)) hk hltj e.symm hn)
    unfold sigG
    rw[if_neg (by simp[h0]),if_pos this]
  ·refine R0 ?_
   refine cv (by kernel_rfl) ?_
   refine R hpre ?_
   have h7:(s.symbols.map (·.name)).Nodup:=nodup_map fun i j x y h1 h2 h3 h4=>hIj i j x y h1 (by omega) h3 h4
   unfold sigG
   rw[if_neg (by simp[h0]),if_neg (by simp[h7])]
   all_goals first|done|trivial|((try simp only[Cnp,Imp]);grind)
def W57:qJ:=fun args H Bd K=>∃(p:GSuper),args=[.agg (enc p).toArray]∧((sm p)∧K (.int .i64 (yO p)) H Bd)
@[go_sem ↓] theorem W57_eq (p_gen:Int) (p_root:Int) (p_shadow:Int) (p_theory:Int) (p_next:Int) (p_version:Int) (p_moving:Bool) (p_cursor:List UInt8) (p_symbols_symbols:List GSymbol):W57 [.agg #[.int .i64 p_gen, .int .i64 p_root, .int .i64 p_shadow, .int .i64 p_theory, .int .i64 p_next, .int .i64 p_version, .bool p_moving,lst p_cursor,lst p_symbols_symbols]] H Bd K=((sm (GSuper.mk p_gen p_root p_shadow p_theory p_next p_version p_moving p_cursor (GSignature.mk p_symbols_symbols)))∧K (.int .i64 (yO (GSuper.mk p_gen p_root p_shadow p_theory p_next p_version p_moving p_cursor (GSignature.mk p_symbols_symbols)))) H Bd):=ex1 (GSuper.mk p_gen p_root p_shadow p_theory p_next p_version p_moving p_cursor (GSignature.mk p_symbols_symbols)) rfl
set_option maxHeartbeats 2000000 in
theorem W57_ok:OK 57 W57:=by
 rintro args H Bd K ⟨p,rfl,hpre,hK⟩
 refine fnp pok (((((Env.base _).add 113 _ W113_ok).add 118 _ W118_ok).add 119 _ W119_ok).add 76 _ W76_ok) [(2,[],[],(.k 5 (.grp false 8 12 4 [9,10,11,12] 13 none (.k 4 .nil) (.k 1 (.grp false 14 19 5 [15,16,17,18,19] 20 none (.k 5 .nil) (.k 1 (.grp false 21 26 5 [22,23,24,25,26] 27 none (.k 5 .nil) (.k 1 (.grp false 28 33 5 [29,30,31,32,33] 34 none (.k 5 .nil) (.k 1 (.grp false 35 39 4 [36,37,38,39] 40 none (.k 4 .nil) .nil))))))))))),(6,[],[],(.k 3 (.grp true 47 50 3 [48,49,50] 51 none (.k 3 .nil) (.k 1 (.grp false 52 71 19 [53,54,55,56,57,58,59,60,61,62,63,64,65,66,67,68,69,70,71] 72 none (.k 4 (.grp true 56 70 14 [57,58,59,60,61,62,63,64,65,66,67,68,69,70] 71 (some (52,false)) (.k 4 (.grp false 60 63 3 [61,62,63] 64 (some (56,true)) (.k 3 .nil) (.k 1 (.grp false 65 69 4 [66,67,68,69] 70 (some (56,true)) (.k 4 .nil) .nil)))) .nil)) .nil)))))] hK Tryz.func57 Tryz.ntmps57 Tryz.call57 [.tmp 2] fun hb ha=> ?_
 have hss:=hpre
 simp only[sm_GSuper]at hpre
 obtain⟨_,_,_,_,_,_,_,hc,hs⟩:=hpre
 have hlc:=qY hc
 by_cases g:((1≤p.gen∧p.gen≤60000)∧(1≤p.version∧p.version≤60000))∧isRt p.root=true∧isRt p.shadow=true∧isRt p.next_=true∧isPg p.theory=true
 case neg=>
  have e:yO p=3:=by unfold yO;rw[if_neg g]
  by_cases g1:1≤p.gen∧p.gen≤60000
  case neg=>
   refine R (cj hs (cj e g1)) ?_
   all_goals first|done|trivial|((try simp only[Cnp,Imp]);grind)
  by_cases g2:1≤p.version∧p.version≤60000
  case neg=>
   refine R (cj hs (cj e (cj g1 g2))) ?_
   all_goals first|done|trivial|((try simp only[Cnp,Imp]);grind)
  by_cases g3:isRt p.root=true
  case neg=>simp (maxSteps:=2000000) (disch:=first|assumption|(refine qI ?_;assumption)|exact Nat.le_add_right _ _|exact Nat.le_refl _|omega|(simp (disch:=first|exact Nat.le_add_right _ _|omega) only[qG hb,qR hb,qM,qE hb,qC];done)|fail) only[go_sem,push_cast,qB,qA,qG hb,qE hb,hs,e,g1,g2,g3]
  by_cases g4:isRt p.shadow=true
  case neg=>simp (maxSteps:=2000000) (disch:=first|assumption|(refine qI ?_;assumption)|exact Nat.le_add_right _ _|exact Nat.le_refl _|omega|(simp (disch:=first|exact Nat.le_add_right _ _|omega) only[qG hb,qR hb,qM,qE hb,qC];done)|fail) only[go_sem,push_cast,qB,qA,qG hb,qE hb,hs,e,g1,g2,g3,g4]
  by_cases g5:isRt p.next_=true
  case neg=>simp (maxSteps:=2000000) (disch:=first|assumption|(refine qI ?_;assumption)|exact Nat.le_add_right _ _|exact Nat.le_refl _|omega|(simp (disch:=first|exact Nat.le_add_right _ _|omega) only[qG hb,qR hb,qM,qE hb,qC];done)|fail) only[go_sem,push_cast,qB,qA,qG hb,qE hb,hs,e,g1,g2,g3,g4,g5]
  have g6:¬isPg p.theory=true:=fun h=>g ⟨⟨g1,g2⟩,g3,g4,g5,h⟩
  exact R (cj hs (cj e (cj g1 (cj g2 (cj g3 (cj g4 (cj g5 g6))))))) trivial
 have hg:yO p=if 16<p.cursor.length then 2 else if(p.moving=true∧p.next_=0)∨(p.moving=false∧(p.shadow≠0∨p.next_≠0∨0<p.cursor.length))then 8 else yK p.symbols:=by unfold yO;rw[if_pos g]
 obtain⟨⟨g1,g2⟩,g3,g4,g5,g6⟩:=g
 by_cases g7:16<p.cursor.length
 ·rw[if_pos g7]at hg
  exact R (cj hs (cj hg (cj g1 (cj g2 (cj g3 (cj g4 (cj g5 (cj g6 g7)))))))) trivial
 rw[if_neg g7]at hg
 have hz0:isRt 0=true:=rfl
 by_cases gm:p.moving=true
 ·have gm2:¬p.moving=false:=by simp[gm]
  by_cases g8:p.next_=0
  ·rw[if_pos (.inl ⟨gm,g8⟩)]at hg
   exact R (cj hs (cj hg (cj g1 (cj g2 (cj g3 (cj g4 (cj g5 (cj g6 (cj g7 (cj hz0 (cj gm g8))))))))))) trivial
  ·rw[if_neg (fun h=>h.elim (fun h=>g8 h.2) fun h=>gm2 h.1)]at hg
   exact R (cj hs (cj hg (cj g1 (cj g2 (cj g3 (cj g4 (cj g5 (cj g6 (cj g7 (cj hz0 (cj gm g8))))))))))) trivial
 ·have gm2:p.moving=false:=by simpa using gm
  by_cases g8:p.shadow=0
  case neg=>
   rw[if_pos (.inr ⟨gm2, .inl g8⟩)]at hg
   exact R (cj hs (cj hg (cj g1 (cj g2 (cj g3 (cj g4 (cj g5 (cj g6 (cj g7 (cj hz0 (cj gm2 g8))))))))))) trivial
  by_cases g9:p.next_=0
  case neg=>
   rw[if_pos (.inr ⟨gm2, .inr (.inl g9)⟩)]at hg
   exact R (cj hs (cj hg (cj g1 (cj g2 (cj g3 (cj g4 (cj g5 (cj g6 (cj g7 (cj hz0 (cj gm2 (cj g8 g9)))))))))))) trivial
  by_cases g10:0<p.cursor.length
  ·rw[if_pos (.inr ⟨gm2, .inr (.inr g10)⟩)]at hg
   exact R (cj hs (cj hg (cj g1 (cj g2 (cj g3 (cj g4 (cj g5 (cj g6 (cj g7 (cj hz0 (cj gm2 (cj g8 (cj g9 g10))))))))))))) trivial
  ·rw[if_neg (fun h=>h.elim (fun h=>gm h.1) fun h=>h.2.elim (fun h=>h g8) fun h=>h.elim (fun h=>h g9) g10)]at hg
   exact R (cj hs (cj hg (cj g1 (cj g2 (cj g3 (cj g4 (cj g5 (cj g6 (cj g7 (cj hz0 (cj gm2 (cj g8 (cj g9 g10))))))))))))) trivial
def U246:qJ:=fun args H Bd K=>∃(n:Int),args=[.int .i64 n]∧((0≤n∧n≤65535)∧K (.slice (some ⟨Bd,0,some 1⟩) (jP n).length ((jP n).length+1)) (upd H Bd (some ⟨qQ (jP n),true⟩)) (Bd+1))
@[go_sem ↓] theorem U246_eq (n:Int):U246 [.int .i64 n] H Bd K=((0≤n∧n≤65535)∧K (.slice (some ⟨Bd,0,some 1⟩) (jP n).length ((jP n).length+1)) (upd H Bd (some ⟨qQ (jP n),true⟩)) (Bd+1)):=ex1 n rfl
theorem U246_ok:OK 246 U246:=by
 rintro args H Bd K ⟨n,rfl,hpre,hK⟩
 refine fn_own pok (Env.base _) [] (.slice (some ⟨Bd,0,some 1⟩) (jP n).length ((jP n).length+1)) [qQ (jP n)] hK Tryz.func246 rfl (rs:=[.tmp 2]) rfl Tryz.ntmps246 (by simp) Tryz.call246 (by kernel_rfl) (fun cells hc v hv=>by simp only[List.mem_cons,List.not_mem_nil,or_false]at hc;rcases hc with rfl <;>exact flat_nb _ _ _ hv) (fun hb ha=> ?_)
 obtain⟨h1,h2⟩:=hpre
 have e1:n.fdiv (2^min 8 64)=n/256:=by rw[show(2:Int)^(min 8 64)=256 from rfl];exact Int.fdiv_eq_ediv_of_nonneg n (by decide)
 have hl:2=(jP n).length:=rfl
 simp (maxSteps:=2000000) (disch:=first|assumption|(refine qI ?_;assumption)|exact Nat.le_add_right _ _|exact Nat.le_refl _|omega|(simp (disch:=first|exact Nat.le_add_right _ _|omega) only[qG hb,qR hb,qM,qE hb,qC];done)|fail) only[go_sem,push_cast,qB,qA,qG hb,qE hb,e1,←pairB_flat n]
 all_goals (first|done|trivial|omega|simp)
def W300:qJ:=fun args H Bd K=>∃(s:GSignature),args=[.agg (enc s).toArray]∧((sm s)∧K (.agg (enc (packGR s)).toArray) H Bd)
@[go_sem ↓] theorem W300_eq (s_symbols:List GSymbol):W300 [.agg #[lst s_symbols]] H Bd K=((sm (GSignature.mk s_symbols))∧K (.agg (enc (packGR (GSignature.mk s_symbols))).toArray) H Bd):=ex1 (GSignature.mk s_symbols) rfl
set_option maxHeartbeats 2000000 in
theorem W300_ok:OK 300 W300:=by
 rintro args H Bd K ⟨s,rfl,hpre,hK⟩
 refine fnp pok ((Env.base _).add 76 _ W76_ok) [(8,[0,1,2,3,4,5,7,8,10,11,12,13,6,9,14,15],[⟨0,[],[]⟩,⟨1,[],[]⟩,⟨2,[],[]⟩,⟨3,[],[]⟩,⟨4,[],[]⟩,⟨5,[],[]⟩,⟨7,[],[]⟩,⟨8,[],[]⟩,⟨10,[],[]⟩,⟨11,[],[]⟩,⟨12,[],[]⟩,⟨13,[],[]⟩,⟨6,[5],[12,11,8]⟩,⟨9,[5],[12,11]⟩,⟨14,[13,5],[]⟩,⟨15,[],[]⟩], .nil)] hK Tryz.func300 Tryz.ntmps300 Tryz.call300 [.cell 2 308] fun hb ha=> ?_
 refine jH pok fun cv=> ?_
 by_cases hf:yK s=0
 case neg=>
  have e:packGR s=⟨yK s,[]⟩:=by unfold packGR;rw[if_pos hf]
  rw[e]
  exact R (cj hpre hf) trivial
 have e:packGR s=⟨0,sigB s⟩:=by unfold packGR;rw[if_neg (by simpa using hf)]
 rw[e]
 have hs:=yW hf
 have hlen:=hs.len
 refine RA (cj hpre hf) ?_
 refine kB (X:=Nat) hb (by omega) 1 [.s 4] rfl (fun x=>x≤s.symbols.length) (fun x=>s.symbols.length-x) (fun Nx x=>[(1, .pointer (some ⟨Bd,0,none⟩)),(2, .pointer (some ⟨Bd+1,0,none⟩)),(4, .slice (some ⟨Nx,0,some 1⟩) (sigA s x).length ((sigA s x).length+1)),(19,lst s.symbols),(20, .int .i64 s.symbols.length),(21, .int .i64 x)]) (fun Nx x=>[(Bd,⟨[lst s.symbols],true⟩),(Bd+1,⟨[.int .i64 0, .slice none 0 0],true⟩),(Nx,⟨qQ (sigA s x),true⟩)]) 0 (Nat.zero_le _) (fun Nx hNx=>(by simp (disch:=first|assumption|omega|(simp (disch:=omega) only[qC,qE hb];done)|(simp (disch:=first|omega|(simp (disch:=omega) only[qC,qE hb];done)) only[go_sem,push_cast,qB,qA,qC,qE hb];done)|fail) only[go_sem,push_cast,qB,qA,qM,qG hb,qC,qE hb,jC,qL,qU,jS,jI,jD,jX,jL,List.append_assoc,List.length_append,List.length_cons,List.length_nil,Nat.zero_add,sigA_zero,jD,vA];all_goals (try simp only[Value.int.injEq,Value.slice.injEq,true_and,and_true]) <;>all_goals (try(first|trivial|omega|grind)))) ?_
 intro Nx x hNx hIx hbx Fx hFx
 simp only[mem_cons,jK]at hbx ⊢
 refine cv (by kernel_rfl) ?_
 rcases Nat.lt_or_ge x s.symbols.length with hlt|hge
 ·have e1:s.symbols[x]? =some s.symbols[x]:=List.getElem?_eq_getElem hlt
  have hl:=sigA_len (fun y hy=>(hs.nm y hy).1) x hIx
  have hnm:=isNm_size (hs.nm _ (List.getElem_mem hlt)).1
  have hst:=sigA_succ e1
  have hsl:(sigA s (x+1)).length=(sigA s x).length+1+s.symbols[x].name.size+1:=by
   rw[hst,List.length_append];unfold symB
   simp only[List.length_cons,List.length_append,List.length_nil,vT];omega
  simp (maxSteps:=2000000) (disch:=first|assumption|(refine qI ?_;assumption)|exact Nat.le_add_right _ _|exact Nat.le_refl _|omega|(simp (disch:=first|exact Nat.le_add_right _ _|omega) only[qG hb,qR hb,qM,qE hb,qC];done)|fail) only[go_sem,push_cast,qB,qA,qG hb,qE hb,e1,appVal,yU,HB.no hb,vT,take_lo,len_lo]
  refine hFx (x+1) _ _ _ ?_ ?_ (by simp only[go_sem,push_cast,qB,qA]) ((by simp (disch:=first|assumption|omega|(simp (disch:=omega) only[qC,qE hb];done)|(simp (disch:=first|omega|(simp (disch:=omega) only[qC,qE hb];done)) only[go_sem,push_cast,qB,qA,qC,qE hb];done)|fail) only[go_sem,push_cast,qB,qA,qM,qG hb,qC,qE hb,jC,qL,qU,jS,jI,jD,jX,jL,List.append_assoc,List.length_append,List.length_cons,List.length_nil,Nat.zero_add,hst,hsl,vT,symB,vA,jO,List.cons_append,List.nil_append,Nat.add_assoc];all_goals (try simp only[Value.int.injEq,Value.slice.injEq,true_and,and_true]) <;>all_goals (try(first|trivial|omega|grind))))
  ·show s.symbols.length-(x+1)<s.symbols.length-x
   omega
  ·exact hlt
 ·obtain rfl:x=s.symbols.length:=Nat.le_antisymm hIx hge
  have hall:=sigA_all s
  refine R0 ?_
  refine cv (by kernel_rfl) ?_
  refine R hall.symm ?_
  exact jA (by simp (disch:=first|assumption|omega) only[go_sem,push_cast,qB,qA]) (hb.fresh _ (by omega)) rfl (by first|rfl|exact(kI _).symm|simp|omega)
theorem L247_pure:PureV W247:=by
 rintro args H Bd K ⟨x0,rfl,hpre,hK⟩
 exact⟨_,by first|exact .bool _|exact .int _ _|exact .string _|exact vc_enc _,hK,fun H' K' hs h=>⟨x0,rfl,hpre,h⟩⟩
def L247:qJ:=LendA W247
@[go_sem ↓] theorem L247_eq (v0:Value):L247 [v0] H Bd K=qS W247 (idS [giveA H v0]) H Bd K:=(rfl)
theorem L247_ok:OK 247 L247:=LendA_ok W247_ok L247_pure
def W233:qJ:=fun args H Bd K=>∃(p:GSuper),args=[.agg (enc p).toArray]∧((sm p∧SuperOK p)∧K (lst (packS p)) H Bd)
@[go_sem ↓] theorem W233_eq (p_gen:Int) (p_root:Int) (p_shadow:Int) (p_theory:Int) (p_next:Int) (p_version:Int) (p_moving:Bool) (p_cursor:List UInt8) (p_symbols_symbols:List GSymbol):W233 [.agg #[.int .i64 p_gen, .int .i64 p_root, .int .i64 p_shadow, .int .i64 p_theory, .int .i64 p_next, .int .i64 p_version, .bool p_moving,lst p_cursor,lst p_symbols_symbols]] H Bd K=((sm (GSuper.mk p_gen p_root p_shadow p_theory p_next p_version p_moving p_cursor (GSignature.mk p_symbols_symbols))∧SuperOK (GSuper.mk p_gen p_root p_shadow p_theory p_next p_version p_moving p_cursor (GSignature.mk p_symbols_symbols)))∧K (lst (packS (GSuper.mk p_gen p_root p_shadow p_theory p_next p_version p_moving p_cursor (GSignature.mk p_symbols_symbols)))) H Bd):=ex1 (GSuper.mk p_gen p_root p_shadow p_theory p_next p_version p_moving p_cursor (GSignature.mk p_symbols_symbols)) rfl
set_option maxHeartbeats 2000000 in
theorem W233_ok:OK 233 W233:=by
 rintro args H Bd K ⟨p,rfl,hpre,hK⟩
 refine fnp pok ((((Env.base _).add 246 _ U246_ok).add 300 _ W300_ok).add 247 _ L247_ok) [(1,[0,1,3,4,5,6,7,8,9,10,11,12,13,14,15,2,16,17],[⟨0,[],[]⟩,⟨1,[],[]⟩,⟨3,[],[]⟩,⟨4,[],[]⟩,⟨5,[],[]⟩,⟨6,[],[]⟩,⟨7,[],[]⟩,⟨8,[],[]⟩,⟨9,[],[]⟩,⟨10,[],[]⟩,⟨11,[],[]⟩,⟨12,[],[]⟩,⟨13,[],[]⟩,⟨14,[],[]⟩,⟨15,[],[]⟩,⟨2,[],[14,13,11,10,8,7,5,4]⟩,⟨16,[15],[]⟩,⟨17,[],[]⟩], .nil),(5,[0,1,2,5,6,7,8,9,10,3,4,11,12],[⟨0,[],[]⟩,⟨1,[],[]⟩,⟨2,[],[]⟩,⟨5,[],[]⟩,⟨6,[],[]⟩,⟨7,[],[]⟩,⟨8,[],[]⟩,⟨9,[],[]⟩,⟨10,[],[]⟩,⟨3,[],[9,7]⟩,⟨4,[],[9,7]⟩,⟨11,[10],[]⟩,⟨12,[],[]⟩], .nil),(6,[0,1,2,4,5,3,6,7,8,9],[⟨0,[],[]⟩,⟨1,[],[]⟩,⟨2,[],[]⟩,⟨4,[],[]⟩,⟨5,[],[]⟩,⟨3,[],[5]⟩,⟨6,[],[]⟩,⟨7,[],[]⟩,⟨8,[],[]⟩,⟨9,[],[]⟩], .nil),(8,[0,1,6,7,2,3,4,5,8,9,10],[⟨0,[],[]⟩,⟨1,[],[]⟩,⟨6,[],[]⟩,⟨7,[],[]⟩,⟨2,[],[7]⟩,⟨3,[],[]⟩,⟨4,[],[7]⟩,⟨5,[],[7]⟩,⟨8,[],[]⟩,⟨9,[],[]⟩,⟨10,[],[]⟩], .nil)] hK Tryz.func233 Tryz.ntmps233 Tryz.call233 [.tmp 2] fun hb ha=> ?_
 obtain⟨h1,hS⟩:=hpre
 simp only[sm_GSuper]at h1
 obtain⟨_,_,_,_,_,_,_,hc,hs⟩:=h1
 have hg:=hS.gen
 have hv:=hS.ver
 have hcl:=hS.cur
 have hpk:packGR p.symbols=⟨0,sigB p.symbols⟩:=by unfold packGR;rw[if_neg (by simpa using hS.sig)]
 have hsl:=sigB_len (yW hS.sig)
 have hHl:=supH_len (p:=p)
 have hPl:=supP_len hS
 have pg:=jZ p.gen
 have pv:=jZ p.version
 have pq:=jZ (sumB 29 (supP p))
 have hsr:=sum_rg (supP p)
 have hn:(92-(10+(p.cursor.length:Int)+((sigB p.symbols).length:Int))).toNat=92-(10+p.cursor.length+(sigB p.symbols).length):=by omega
 have hPx:∀m:Int,m=((movB p).toNat:Int)→qQ (jP p.gen)++[Value.int .u8 (p.root%256),Value.int .u8 (p.shadow%256),Value.int .u8 (p.theory%256),Value.int .u8 (p.next_%256)]++qQ (jP p.version)++[Value.int .u8 m,Value.int .u8 ((p.cursor.length:Int)%256)]++qQ p.cursor++qQ (sigB p.symbols)++qQ (List.replicate (92-(10+p.cursor.length+(sigB p.symbols).length)) (0:UInt8))=qQ (supP p):=fun m hm=>by
  subst hm
  unfold supP padS
  rw[hHl]
  unfold supH
  simp only[qL,jO,jC,jD,vA,List.append_assoc,List.cons_append,List.nil_append]
 by_cases hm:p.moving=true
 case' pos=>have hP:=hPx 1 (by unfold movB;rw[if_pos hm];rfl)
 case' neg=>have hP:=hPx 0 (by unfold movB;rw[if_neg hm];rfl)
 all_goals
  simp (maxSteps:=2000000) (disch:=first|assumption|(refine qI ?_;assumption)|exact Nat.le_add_right _ _|exact Nat.le_refl _|omega|(simp (disch:=first|exact Nat.le_add_right _ _|omega) only[qG hb,qR hb,qM,qE hb,qC];done)|fail) only[go_sem,push_cast,qB,qA,qG hb,qE hb,hs,hpk,hm,appVal,yU,HB.no hb,jZ,zeros_flat,hn,hP,hPl,take_lo,len_lo]
  unfold packS
  exact jA (by simp (disch:=first|assumption|omega) only[go_sem,push_cast,qB,qA,qL,qU,jS,jI,jD,jX,jL,List.append_assoc,List.cons_append,List.nil_append]) (hb.fresh _ (by omega)) rfl ((by omega:_=96).trans (lenS hPl))
def W214:qJ:=fun args H Bd K=>∃(data:List UInt8),args=[lst data]∧((sm data)∧K (.agg (enc (rdSR data)).toArray) H Bd)
@[go_sem ↓] theorem W214_eq (data:List UInt8):W214 [lst data] H Bd K=((sm data)∧K (.agg (enc (rdSR data)).toArray) H Bd):=ex1 data rfl
set_option maxHeartbeats 2000000 in
theorem W214_ok:OK 214 W214:=by
 rintro args H Bd K ⟨data,rfl,hpre,hK⟩
 refine fnp pok (((((((((((Env.base _).add 219 _ W219_ok).add 247 _ W247_ok).add 246 _ W246_ok).add 288 _ W288_ok).add 215 _ W215_ok).add 289 _ W289_ok).add 235 _ W235_ok).add 290 _ W290_ok).add 57 _ W57_ok).add 233 _ W233_ok) [(3,[0,1,2,3,4,5],[⟨0,[],[]⟩,⟨1,[],[]⟩,⟨2,[],[]⟩,⟨3,[],[]⟩,⟨4,[],[]⟩,⟨5,[],[]⟩], .nil),(5,[0,1,5,6,2,3,4,7,8],[⟨0,[],[]⟩,⟨1,[],[]⟩,⟨5,[],[]⟩,⟨6,[],[]⟩,⟨2,[],[]⟩,⟨3,[],[]⟩,⟨4,[],[]⟩,⟨7,[],[]⟩,⟨8,[],[]⟩], .nil),(13,[],[],(.k 5 (.grp false 60 63 3 [61,62,63] 64 none (.k 3 .nil) (.k 1 (.grp false 65 70 5 [66,67,68,69,70] 71 none (.k 5 .nil) .nil)))))] hK Tryz.func214 Tryz.ntmps214 Tryz.call214 [.cell 2 216] fun hb ha=> ?_
 by_cases hl:data.length=96
 case neg=>
  have e:rdSR data=⟨1,yB⟩:=by unfold rdSR;rw[if_pos hl]
  rw[e];unfold yB
  exact R hl trivial
 have hR0:rdSR data=⟨(rdS data).2,(rdS data).1⟩:=by unfold rdSR;rw[if_neg (by simpa using hl)]
 have hz:∀i (h:i<data.length),data.getD i 0=data[i]:=fun i h=>getD_some (List.getElem?_eq_getElem h)
 have hsm92:(List.take 92 data).length≤2000:=by rw[List.length_take];omega
 have hsr:=sum_rg (List.take 92 data)
 have hd92:List.drop 92 (List.take 94 data)=List.take 2 (List.drop 92 data):=by rw[List.drop_take]
 have hd94:List.take 96 data=data:=List.take_of_length_le (by omega)
 have hen:=ends_eq hl
 by_cases h1:data.take 2=data.drop 94
 case neg=>
  have e:rdS data=(yB,8):=by unfold rdS;rw[if_pos (fun h=>h1 (hen.2 h))]
  rw[hR0,e];unfold yB
  exact R (cj hl (cj hd94 h1)) trivial
 have hR1:rdS data=if jP (sumB 29 (data.take 92))≠(data.drop 92).take 2 then(yB,11)else rdS5 data:=by unfold rdS;rw[if_neg (fun h=>h (hen.1 h1))]
 by_cases h4:jP (sumB 29 (List.take 92 data))=List.take 2 (List.drop 92 data)
 case neg=>
  rw[if_pos h4]at hR1
  rw[hR0,hR1];unfold yB
  exact R (cj hl (cj hd94 (cj h1 (cj hsm92 (cj hd92 h4))))) trivial
 rw[if_neg (by simpa using h4)]at hR1
 rw[hR0,hR1]
 have ht:∀i k,i+k≤96→tkS (data.drop i,false) k=(data.drop (i+k),false):=fun i k h=>by rw[tkS_ok (by rw[List.length_drop];omega),List.drop_drop]
 have t0:tkS (data,false) 2=(data.drop 2,false):=ht 0 2 (by omega)
 have t2:=ht 2 1 (by omega)
 have t3:=ht 3 1 (by omega)
 have t4:=ht 4 1 (by omega)
 have t5:=ht 5 1 (by omega)
 have t6:=ht 6 2 (by omega)
 have t8:=ht 8 1 (by omega)
 have t9:=ht 9 1 (by omega)
 have p0:pairV (data,false)=((data.getD 0 0).toNat:Int)*256+((data.getD 1 0).toNat:Int):=pairV_at (p:=0) (by omega)
 have p6:=pairV_at (body:=data) (p:=6) (by omega)
 have o2:=oneV_at (body:=data) (p:=2) (by omega)
 have o3:=oneV_at (body:=data) (p:=3) (by omega)
 have o4:=oneV_at (body:=data) (p:=4) (by omega)
 have o5:=oneV_at (body:=data) (p:=5) (by omega)
 have o8:=oneV_at (body:=data) (p:=8) (by omega)
 have o9:=oneV_at (body:=data) (p:=9) (by omega)
 have hdl:∀i,(List.drop i data).length≤1000000:=fun i=>by rw[List.length_drop];omega
 have hc9:(data.getD 9 0).toNat≤255:=by have:=(data.getD 9 0).toNat_lt;omega
 have hF:=fun p hp=>supI_fin (data:=data) (p:=p) hp
 have hcl:(tkV (data.drop 10,false) (data.getD 9 0).toNat).length≤255:=by rw[kW];exact hc9
 have hql:(tkS (data.drop 10,false) (data.getD 9 0).toNat).1.length≤1000000:=Nat.le_trans (vK _ _) (hdl 10)
 have hsg:=sigR_sm (tkS (data.drop 10,false) (data.getD 9 0).toNat)
 have hC:=candS_eq2 data (tkV (data.drop 10,false) (data.getD 9 0).toNat) ⟨(sigR (tkS (data.drop 10,false) (data.getD 9 0).toNat)).1⟩
 have hL:=supI_last rfl hF
 have hsmC:sm (candS data (tkV (data.drop 10,false) (data.getD 9 0).toNat) ⟨(sigR (tkS (data.drop 10,false) (data.getD 9 0).toNat)).1⟩):=
  ⟨trivial,trivial,trivial,trivial,trivial,trivial,trivial,⟨by show(tkV _ _).length≤281474976710656;omega,fun _ _=>trivial⟩,hsg⟩
 generalize hK:candS data (tkV (data.drop 10,false) (data.getD 9 0).toNat) ⟨(sigR (tkS (data.drop 10,false) (data.getD 9 0).toNat)).1⟩=C at*
 by_cases hf:(sigR (tkS (data.drop 10,false) (data.getD 9 0).toNat)).2.2=true
 ·rw[hL.2 (.inl hf)];unfold yB
  exact R (cj hl (cj hd94 (cj h1 (cj hsm92 (cj hd92 (cj h4 (cj t0 (cj t2 (cj t3 (cj t4 (cj t5 (cj t6 (cj t8 (cj t9 (cj p0 (cj p6 (cj o2 (cj o3 (cj o4 (cj o5 (cj o8 (cj o9 (cj hdl (cj hcl (cj hql (cj hsg (cj hC.symm (cj hsmC hf)))))))))))))))))))))))))))) trivial
 have hf2:(sigR (tkS (data.drop 10,false) (data.getD 9 0).toNat)).2.2=false:=by simpa using hf
 by_cases h7:yO C=0
 case neg=>
  rw[hL.2 (.inr (.inl h7))];unfold yB
  exact R (cj hl (cj hd94 (cj h1 (cj hsm92 (cj hd92 (cj h4 (cj t0 (cj t2 (cj t3 (cj t4 (cj t5 (cj t6 (cj t8 (cj t9 (cj p0 (cj p6 (cj o2 (cj o3 (cj o4 (cj o5 (cj o8 (cj o9 (cj hdl (cj hcl (cj hql (cj hsg (cj hC.symm (cj hsmC (cj hf2 h7))))))))))))))))))))))))))))) trivial
 have hSC:=kH h7
 by_cases h8:packS C=data
 ·rw[hL.1 hf2 h7 h8]
  refine R (cj hl (cj hd94 (cj h1 (cj hsm92 (cj hd92 (cj h4 (cj t0 (cj t2 (cj t3 (cj t4 (cj t5 (cj t6 (cj t8 (cj t9 (cj p0 (cj p6 (cj o2 (cj o3 (cj o4 (cj o5 (cj o8 (cj o9 (cj hdl (cj hcl (cj hql (cj hsg (cj hC.symm (cj hsmC (cj hf2 (cj hSC (cj h7 h8))))))))))))))))))))))))))))))) ?_
  subst hC
  exact R0 trivial
 ·rw[hL.2 (.inr (.inr h8))];unfold yB
  exact R (cj hl (cj hd94 (cj h1 (cj hsm92 (cj hd92 (cj h4 (cj t0 (cj t2 (cj t3 (cj t4 (cj t5 (cj t6 (cj t8 (cj t9 (cj p0 (cj p6 (cj o2 (cj o3 (cj o4 (cj o5 (cj o8 (cj o9 (cj hdl (cj hcl (cj hql (cj hsg (cj hC.symm (cj hsmC (cj hf2 (cj hSC (cj h7 h8))))))))))))))))))))))))))))))) trivial
def W149:qJ:=fun args H Bd K=>∃(d:GDisk),args=[.agg (enc d).toArray]∧((sm d)∧K (.agg (enc (opnR d)).toArray) H Bd)
@[go_sem ↓] theorem W149_eq (d_sectors:List (List UInt8)) (d_pending:List GPut):W149 [.agg #[lst d_sectors,lst d_pending]] H Bd K=((sm (GDisk.mk d_sectors d_pending))∧K (.agg (enc (opnR (GDisk.mk d_sectors d_pending))).toArray) H Bd):=ex1 (GDisk.mk d_sectors d_pending) rfl
set_option maxHeartbeats 2000000 in
theorem W149_ok:OK 149 W149:=by
 rintro args H Bd K ⟨d,rfl,hpre,hK⟩
 refine fnp pok (((Env.base _).add 56 _ W56_ok).add 214 _ W214_ok) [(11,[],[],(.k 4 (.grp true 31 37 6 [32,33,34,35,36,37] 38 none (.k 6 .nil) (.k 1 (.grp true 39 46 7 [40,41,42,43,44,45,46] 47 none (.k 7 .nil) .nil)))))] hK Tryz.func149 Tryz.ntmps149 Tryz.call149 [.cell 2 216] fun hb ha=> ?_
 refine jH pok fun cv=> ?_
 by_cases hd:yN d=0
 case neg=>
  have e:opnR d=⟨yN d,yB⟩:=by unfold opnR;rw[if_pos hd]
  rw[e];unfold yB
  exact R (cj hpre hd) trivial
 have h2:=disk_ok hd
 have hsl:=h2.len
 have e0:opnR d=⟨(jM d).2,(jM d).1⟩:=by unfold opnR;rw[if_neg (by simpa using hd)]
 rw[e0]
 by_cases hp:0<d.pending.length
 ·have e:jM d=(yB,8):=by unfold jM;rw[if_pos hp]
  rw[e];unfold yB
  exact R (cj hpre (cj hd hp)) trivial
 refine R (cj hpre (cj hd hp)) ?_
 refine kB (X:=Nat) hb (by omega) 0 [] rfl (fun x=>x≤2) (fun x=>2-x) (fun Nx x=>[(1, .pointer (some ⟨Bd,0,none⟩)),(2, .pointer (some ⟨Bd+1,0,none⟩)),(4, .pointer (some ⟨Bd+2,0,none⟩)),(19, .int .i64 x)]) (fun Nx x=>[(Bd,⟨[lst d.sectors,lst d.pending],true⟩),(Bd+1,⟨[.int .i64 0, .int .i64 0, .int .i64 0, .int .i64 0, .int .i64 0, .int .i64 0, .int .i64 0, .bool false, .slice none 0 0, .slice none 0 0],true⟩),(Bd+2,⟨[.int .i64 (if(opB d x).gen=0 then 4 else 0), .int .i64 (opB d x).gen, .int .i64 (opB d x).root, .int .i64 (opB d x).shadow, .int .i64 (opB d x).theory, .int .i64 (opB d x).next_, .int .i64 (opB d x).version, .bool (opB d x).moving,lst (opB d x).cursor,lst (opB d x).symbols.symbols],true⟩)]) 0 (Nat.zero_le _) (fun Nx hNx=>(by simp (disch:=first|assumption|omega|(simp (disch:=omega) only[qC,qE hb];done)|(simp (disch:=first|omega|(simp (disch:=omega) only[qC,qE hb];done)) only[go_sem,push_cast,qB,qA,qC,qE hb];done)|fail) only[go_sem,push_cast,qB,qA,qM,qG hb,qC,qE hb,jC,qL,qU,jS,jI,jD,jX,jL,List.append_assoc,List.length_append,List.length_cons,List.length_nil,Nat.zero_add,opB_zero,yB,↓reduceIte];all_goals (try simp only[Value.int.injEq,Value.slice.injEq,true_and,and_true]) <;>all_goals (try(first|trivial|omega|grind)))) ?_
 intro Nx x hNx hIx hbx Fx hFx
 simp only[mem_cons,jK]at hbx ⊢
 refine cv (by kernel_rfl) ?_
 have hlt:x<2→x<d.sectors.length:=fun h=>by omega
 by_cases hx:x<2
 ·have e1:d.sectors[x]? =some (d.sectors[x]'(hlt hx)):=List.getElem?_eq_getElem _
  have f1:d.sectors.getD x []=d.sectors[x]'(hlt hx):=getD_some e1
  have hsec:(d.sectors[x]'(hlt hx)).length=96:=h2.sec _ (List.getElem_mem _)
  have hst:opB d (x+1)=if(rdS (d.sectors.getD x [])).2=0∧(rdS (d.sectors.getD x [])).1.gen%2=(x:Int)∧(opB d x).gen<(rdS (d.sectors.getD x [])).1.gen then(rdS (d.sectors.getD x [])).1 else opB d x:=rfl
  rw[f1]at hst
  generalize hD:(d.sectors[x]'(hlt hx))=D at*
  have hsD:sm D:=⟨by omega,fun _ _=>trivial⟩
  have hRD:rdSR D=⟨(rdS D).2,(rdS D).1⟩:=by unfold rdSR;rw[if_neg (by simpa using hsec)]
  generalize hQ:(rdS D).1=Q at*
  have hx':(x:Int)<2:=by omega
  by_cases hc:(rdS D).2=0
  case neg=>
   rw[if_neg (fun h=>hc h.1)]at hst
   refine R (cj hpre (cj e1 (cj hsec (cj hsD (cj hRD (cj hQ (cj hx' hc))))))) ?_
   refine hFx (x+1) _ _ _ ?_ ?_ (by simp only[go_sem,push_cast,qB,qA]) ((canf hst))
   ·show 2-(x+1)<2-x
    omega
   ·show x+1≤2
    omega
  have hg:=(kH (by rw[←hQ];exact rdS_ok hc:yO Q=0)).gen
  have htm:Q.gen.tmod 2=Q.gen%2:=Int.tmod_eq_emod_of_nonneg (by omega)
  by_cases hm:Q.gen%2=(x:Int)
  case neg=>
   rw[if_neg (fun h=>hm h.2.1)]at hst
   refine R (cj hpre (cj e1 (cj hsec (cj hsD (cj hRD (cj hQ (cj hx' (cj hc (cj htm hm))))))))) ?_
   refine hFx (x+1) _ _ _ ?_ ?_ (by simp only[go_sem,push_cast,qB,qA]) ((canf hst))
   ·show 2-(x+1)<2-x
    omega
   ·show x+1≤2
    omega
  by_cases hgt:(opB d x).gen<Q.gen
  case neg=>
   rw[if_neg (fun h=>hgt h.2.2)]at hst
   refine R (cj hpre (cj e1 (cj hsec (cj hsD (cj hRD (cj hQ (cj hx' (cj hc (cj htm (cj hm hgt)))))))))) ?_
   refine hFx (x+1) _ _ _ ?_ ?_ (by simp only[go_sem,push_cast,qB,qA]) ((canf hst))
   ·show 2-(x+1)<2-x
    omega
   ·show x+1≤2
    omega
  rw[if_pos ⟨hc,hm,hgt⟩]at hst
  refine R (cj hpre (cj e1 (cj hsec (cj hsD (cj hRD (cj hQ (cj hx' (cj hc (cj htm (cj hm hgt)))))))))) ?_
  refine hFx (x+1) _ _ _ ?_ ?_ (by simp only[go_sem,push_cast,qB,qA]) ((canf hst))
  ·show 2-(x+1)<2-x
   omega
  ·show x+1≤2
   omega
 obtain rfl:x=2:=by omega
 have e0:jM d=if(opB d 2).gen=0 then(yB,4)else(opB d 2,0):=by unfold jM;rw[if_neg hp]
 refine R0 ?_
 refine cv (by kernel_rfl) ?_
 by_cases hg:(opB d 2).gen=0
 ·rw[if_pos hg]at e0
  have hn:=(opB_gen d 2).2 hg
  rw[e0,hn];unfold yB
  exact R hg trivial
 ·rw[if_neg hg]at e0
  rw[e0]
  exact R hg trivial
def W112:qJ:=fun args H Bd K=>∃(xs:List Int),args=[lst xs]∧((sm xs)∧K (.int .i64 (vF id xs)) H Bd)
@[go_sem ↓] theorem W112_eq (xs:List Int):W112 [lst xs] H Bd K=((sm xs)∧K (.int .i64 (vF id xs)) H Bd):=ex1 xs rfl
theorem W112_ok:OK 112 W112:=by
 rintro args H Bd K ⟨xs,rfl,hpre,hK⟩
 refine fnp pok (Env.base _) [] hK Tryz.func112 Tryz.ntmps112 Tryz.call112 [.tmp 2] fun hb ha=> ?_
 refine jH pok fun cv=> ?_
 have hlt2:=qY hpre
 refine R0 ?_
 refine jB (fun i=>∀j,j<i→∀y,xs[j]? =some y→id y=0) (xs.length) (fun i=>[(3, .int .i64 0),(6,lst xs),(7, .int .i64 xs.length),(8, .int .i64 i)]) (fun j hj=>absurd hj (Nat.not_lt_zero _)) (by simp only[go_sem,push_cast,qB,qA]) ?_
 intro i Bi hIi hii hBi
 refine cv (by kernel_rfl) ?_
 rcases Nat.lt_or_ge i (xs.length)with hlti|hgei
 ·have e1:xs[i]? =some xs[i]:=List.getElem?_eq_getElem hlti
  refine R e1 ?_
  refine⟨fun h j hj y hy=> ?_,fun h=>(firstF_hit e1 hIi h).symm⟩
  ·by_cases e:j=i
   ·subst e;rw[e1]at hy;cases hy;exact h
   ·exact hIi j (by omega) y hy
 ·refine R0 ?_
  refine cv (by kernel_rfl) ?_
  refine R0 ?_
  exact(firstF_all fun x hx=>by
   obtain⟨j,hj,rfl⟩:=List.getElem_of_mem hx
   exact hIi j (by omega) _ (List.getElem?_eq_getElem hj)).symm
def W55b:qJ:=fun args H Bd K=>∃(xs:List Int),args=[lst xs]∧((sm xs)∧K (.int .i64 (vF id xs)) H Bd)
@[go_sem ↓] theorem W55b_eq (xs:List Int) (H:AH) (Bd:Nat) (K:Value→AH→Nat→Prop):W55b [lst xs] H Bd K=((sm xs)∧K (.int .i64 (vF id xs)) H Bd):=ex1 xs rfl
theorem W55b_ok:OK 55 W55b:=by
 rintro args H Bd K ⟨xs,rfl,hpre,hK⟩
 refine fnp pok ((Env.base _).add 112 _ W112_ok) [] hK Tryz.func55 Tryz.ntmps55 Tryz.call55 [.tmp 2] fun hb ha=> ?_
 exact R hpre trivial
def W55:qJ:=GiveT 0 W55b
@[go_sem ↓] theorem W55_eq (v0:Value):W55 [v0] H Bd K=qS W55b (idS [giveV H v0]) (giveH H v0) Bd K:=(rfl)
theorem W55_ok:OK 55 W55:=GiveT_ok 0 W55b_ok
def W175:qJ:=fun args H Bd K=>∃(xs:List Int) (y:Int),args=[lst xs, .int .i64 y]∧((sm xs)∧K (.int .i64 (fidx (fun x=>decide (y=x)) xs)) H Bd)
@[go_sem ↓] theorem W175_eq (xs:List Int) (y:Int):W175 [lst xs, .int .i64 y] H Bd K=((sm xs)∧K (.int .i64 (fidx (fun x=>decide (y=x)) xs)) H Bd):=ex2 xs y rfl
theorem W175_ok:OK 175 W175:=by
 rintro args H Bd K ⟨xs,y,rfl,hpre,hK⟩
 refine fnp pok (Env.base _) [] hK Tryz.func175 Tryz.ntmps175 Tryz.call175 [.tmp 4] fun hb ha=> ?_
 refine jH pok fun cv=> ?_
 have hlen:=qY hpre
 refine R0 ?_
 refine jB (fun i=>∀j,j<i→∀x,xs[j]? =some x→decide (y=x)=false) (xs.length) (fun i=>[(0,lst xs),(1, .int .i64 y),(7, .int .i64 xs.length),(8, .int .i64 i)]) (by simp) (by simp only[go_sem,push_cast,qB,qA]) ?_
 intro i Bi hIi hii hBi
 refine cv (by kernel_rfl) ?_
 rcases Nat.lt_or_ge i (xs.length)with hlti|hgei
 ·have e1:xs[i]? =some xs[i]:=List.getElem?_eq_getElem hlti
  refine R e1 ?_
  exact⟨fun h=>by rw[vU hlti hIi (by simpa using h)],fun h=>fun j hj x hx=>by
   by_cases e:j=i
   ·subst e;rw[e1]at hx;cases hx;simpa using h
   ·simpa using hIi j (by omega) x hx⟩
 ·refine R0 ?_
  refine cv (by kernel_rfl) ?_
  refine R0 ?_
  rw[vR fun j hj x hx=>hIi j (by omega) x hx]
def W121:qJ:=fun args H Bd K=>∃(xs:List Int) (y:Int),args=[lst xs, .int .i64 y]∧((sm xs)∧K (.bool (xs.any (fun x=>decide (y=x)))) H Bd)
@[go_sem ↓] theorem W121_eq (xs:List Int) (y:Int):W121 [lst xs, .int .i64 y] H Bd K=((sm xs)∧K (.bool (xs.any (fun x=>decide (y=x)))) H Bd):=ex2 xs y rfl
theorem W121_ok:OK 121 W121:=by
 rintro args H Bd K ⟨xs,y,rfl,hpre,hK⟩
 refine fnp pok ((Env.base _).add 175 _ W175_ok) [] hK Tryz.func121 Tryz.ntmps121 Tryz.call121 [.tmp 4] fun hb ha=> ?_
 refine R hpre ?_
 exact fidx_ge _ xs
end Go.Proofs.YthoahlghegcfnaaGreatDoor
