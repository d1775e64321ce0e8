/- YtogofkjpbpgneaaGreatDoorD7 -/
import Derived.Test.YtogofkjpbpgneaaGreatDoorD6
set_option linter.unusedSimpArgs false
set_option linter.unusedVariables false
set_option maxRecDepth 20000
set_option maxHeartbeats 4000000
namespace Go.Proofs.YtogofkjpbpgneaaGreatDoor
open Go Go.SC Tryz
variable {H:AH} {Bd:Nat} {K:Value->AH->Nat->Prop}
@[go_sem ↓] def BV255 (c:GComparer) (i:Int) (k:Int):Tq:=fun H Bd K=>((CmpOK c/\0<=i/\i<c.a.length/\0<=k/\k<c.b.length)/\K (.bool (gt c.s c.order c.a c.b i.toNat k.toNat)) H Bd)
def V255:qH:=fun args H Bd K=>∃(c:GComparer) (i:Int) (k:Int),args=[.agg (enc c).toArray, .int .i64 i, .int .i64 k]/\BV255 c i k H Bd K
@[go_sem ↓] theorem V255_eq (a:List GSymbol) (b c d:List Int) (e:Array Value) (f g:Int):V255 [.agg #[lst a,lst b,lst c,lst d, .func (.methodOf 0 "") #[] e], .int .i64 f, .int .i64 g] H Bd K=BV255 (GComparer.mk (GSignature.mk a) b c d (Memo.mk e)) f g H Bd K:=ex3 (GComparer.mk (GSignature.mk a) b c d (Memo.mk e)) f g rfl
def W255:qH:=fun args H Bd K=>∃(pc vi vk:Value),args=[pc,vi,vk]/\Yld (qI H 5 pc) fun cc=>qP V255 [.agg cc.toArray,vi,vk] H Bd K
@[go_sem ↓] theorem W255_eq (a b c:Value):W255 [a,b,c] H Bd K=(Yld (qI H 5 a) fun cc=>qP V255 (idS [.agg cc.toArray,b,c]) H Bd K):=px3 a b c
def Q255(N:Nat):qH:=fun args H Bd K=>∃(c:GComparer) (i:Int) (k:Int),args=[.agg (enc c).toArray, .int .i64 i, .int .i64 k]/\(((CmpOK c/\0<=i/\i<c.a.length/\0<=k/\k<c.b.length)/\(c.a.length-i.toNat+(c.b.length-k.toNat))<N)/\K (.bool (gt c.s c.order c.a c.b i.toNat k.toNat)) H Bd)
@[go_sem ↓] theorem Q255_eq (c:Nat) (d:List GSymbol) (e f g:List Int) (h:Array Value) (i j:Int):Q255 c [.agg #[lst d,lst e,lst f,lst g, .func (.methodOf 0 "") #[] h], .int .i64 i, .int .i64 j] H Bd K=(((CmpOK (GComparer.mk (GSignature.mk d) e f g (Memo.mk h))/\0<=i/\i<(GComparer.mk (GSignature.mk d) e f g (Memo.mk h)).a.length/\0<=j/\j<(GComparer.mk (GSignature.mk d) e f g (Memo.mk h)).b.length)/\((GComparer.mk (GSignature.mk d) e f g (Memo.mk h)).a.length-i.toNat+((GComparer.mk (GSignature.mk d) e f g (Memo.mk h)).b.length-j.toNat))<c)/\K (.bool (gt (GComparer.mk (GSignature.mk d) e f g (Memo.mk h)).s (GComparer.mk (GSignature.mk d) e f g (Memo.mk h)).order (GComparer.mk (GSignature.mk d) e f g (Memo.mk h)).a (GComparer.mk (GSignature.mk d) e f g (Memo.mk h)).b i.toNat j.toNat)) H Bd):=ex3 (GComparer.mk (GSignature.mk d) e f g (Memo.mk h)) i j rfl
def R255(N:Nat):qH:=fun args H Bd K=>∃(pc vi vk:Value),args=[pc,vi,vk]/\Yld (qI H 5 pc) fun cc=>qP (Q255 N) [.agg cc.toArray,vi,vk] H Bd K
@[go_sem ↓] theorem R255_eq (a:Nat) (b c d:Value):R255 a [b,c,d] H Bd K=(Yld (qI H 5 b) fun cc=>qP (Q255 a) (idS [.agg cc.toArray,c,d]) H Bd K):=by
 refine propext ⟨fun h=> ?_,fun h=>⟨_,_,_,rfl,h⟩⟩
 obtain⟨pc',vi',vk',e,h⟩:=h
 simp only[xG,and_true]at e
 obtain⟨rfl,rfl,rfl⟩:=e
 exact h
def Q263(N:Nat):qH:=fun args H Bd K=>∃(c:GComparer) (i:Int) (k:Int),args=[.agg (enc c).toArray, .int .i64 i, .int .i64 k]/\(((CmpOK c/\0<=i/\i<c.a.length/\0<=k/\k<c.b.length)/\(c.a.length-i.toNat+(c.b.length-k.toNat))<N)/\K (.bool (gt c.s c.order c.a c.b i.toNat k.toNat)) H Bd)
@[go_sem ↓] theorem Q263_eq (c:Nat) (d:List GSymbol) (e f g:List Int) (h:Array Value) (i j:Int):Q263 c [.agg #[lst d,lst e,lst f,lst g, .func (.methodOf 0 "") #[] h], .int .i64 i, .int .i64 j] H Bd K=(((CmpOK (GComparer.mk (GSignature.mk d) e f g (Memo.mk h))/\0<=i/\i<(GComparer.mk (GSignature.mk d) e f g (Memo.mk h)).a.length/\0<=j/\j<(GComparer.mk (GSignature.mk d) e f g (Memo.mk h)).b.length)/\((GComparer.mk (GSignature.mk d) e f g (Memo.mk h)).a.length-i.toNat+((GComparer.mk (GSignature.mk d) e f g (Memo.mk h)).b.length-j.toNat))<c)/\K (.bool (gt (GComparer.mk (GSignature.mk d) e f g (Memo.mk h)).s (GComparer.mk (GSignature.mk d) e f g (Memo.mk h)).order (GComparer.mk (GSignature.mk d) e f g (Memo.mk h)).a (GComparer.mk (GSignature.mk d) e f g (Memo.mk h)).b i.toNat j.toNat)) H Bd):=ex3 (GComparer.mk (GSignature.mk d) e f g (Memo.mk h)) i j rfl
def R263(N:Nat):qH:=fun args H Bd K=>∃(pc vi vk:Value),args=[pc,vi,vk]/\Yld (qI H 5 pc) fun cc=>qP (Q263 N) [.agg cc.toArray,vi,vk] H Bd K
@[go_sem ↓] theorem R263_eq (a:Nat) (b c d:Value):R263 a [b,c,d] H Bd K=(Yld (qI H 5 b) fun cc=>qP (Q263 a) (idS [.agg cc.toArray,c,d]) H Bd K):=by
 refine propext ⟨fun h=> ?_,fun h=>⟨_,_,_,rfl,h⟩⟩
 obtain⟨pc',vi',vk',e,h⟩:=h
 simp only[xG,and_true]at e
 obtain⟨rfl,rfl,rfl⟩:=e
 exact h
theorem R263_step(N:Nat)(ih:OK 255 (R255 N)):OK 263 (R263 (N+1)):=by
 rintro args H Bd K ⟨pc,vi,vk,rfl,cc,ec,h⟩
 obtain⟨c,i,k,e,hpre,hK⟩:=h
 simp only[xG,and_true]at e
 obtain⟨Ec,rfl,rfl⟩:=e
 obtain rfl:=qX Ec
 refine fnp pok (((((((Env.base _).add 274 _ W274_ok).add 104 _ W104_ok).add 275 _ W275_ok).add 276 _ W276_ok).add 154 _ W154_ok).add 255 _ ih) [(1,[0,1,2,3,4,5,6,7,8,9,10,11,12,13,14,15],[z0 0,z0 1,z0 2,z0 3,z0 4,z0 5,z0 6,z0 7,z0 8,z0 9,z0 10,z0 11,z0 12,z0 13,z0 14,z0 15], .nil),(3,[0,1,2,3,4,5,6,7,8,9,10,11,13,12,14,15,16],[z0 0,z0 1,z0 2,z0 3,z0 4,z0 5,z0 6,z0 7,z0 8,z0 9,z0 10,z0 11,z0 13,z0 12,z0 14,z0 15,z0 16], .nil),(6,[0,1,2,3,4,5,6,7,8,10,11,12,13,14,15,16,17,18,9,19,20,21],[z0 0,z0 1,z0 2,z0 3,z0 4,z0 5,z0 6,z0 7,z0 8,z0 10,z0 11,z0 12,z0 13,z0 14,z0 15,z0 16,z0 17,z0 18,⟨9,[],[17,13]⟩,z0 19,z0 20,z0 21], .nil),(10,[],[],(.k 5 (.grp false 82 86 4 [83,84,85,86] 87 none (.k 4 .nil) .nil))),(13,[0,1,2,3,4,6,7,8,9,10,5,11,12,13],[z0 0,z0 1,z0 2,z0 3,z0 4,z0 6,z0 7,z0 8,z0 9,z0 10,⟨5,[],[9]⟩,z0 11,z0 12,z0 13], .nil)] hK func263 ntmps263 call263 [.tmp 6] fun hb ha=> ?_
 have Pc:=qM ec (NB.vpok (ha pc (by simp)))
 simp only[enc_GComparer,qN]at Pc
 have Zc:=Pc.all 5 rfl
 have Yc:=jJ (ha pc (by simp))
 refine jD pok fun cv=> ?_
 obtain⟨⟨hc,i1,i2,k1,k2⟩,hrec⟩:=hpre
 have⟨h1,h2,h3,h4,h5,h6,h7,h8,h9⟩:=hc
 obtain⟨i,rfl⟩:=Int.eq_ofNat_of_zero_le i1
 obtain⟨k,rfl⟩:=Int.eq_ofNat_of_zero_le k1
 simp only[Int.toNat_natCast]at hrec
 have hia:i<c.a.length:=by omega
 have hkb:k<c.b.length:=by omega
 have l1:=h7.len
 have l2:=h8.len
 have n1:=h7.nodes
 have n2:=h8.nodes
 have p1:=vC h7
 have p2:=vC h8
 have hpa:=p1 i hia
 have hpb:=p2 k hkb
 have ea:c.a[i]? =some c.a[i]:=xA hia
 have eb:c.b[k]? =some c.b[k]:=xA hkb
 have hsub:sm (subT c.s c.a i):=by unfold subT;exact sm_take (sm_drop h3 _) _
 by_cases hy:c.b[k]<0
 ·have hv:=gt_var (order:=c.order) p1 p2 hia hkb hy
  refine R (cj Zc (cj ea (cj eb (cj hy (cj h1 (cj h3 (cj h5 (cj n1 (cj hpa hsub))))))))) ?_
  rw[hv]
  exact⟨fun h=>by simp[h],fun h=>by simp[h]⟩
 by_cases hx:c.a[i]<0
 ·have hv:=gt_low (order:=c.order) p1 p2 hia hkb hy hx
  exact R (cj Zc (cj ea (cj eb (cj hy (cj hx hv))))) trivial
 ·have ga:c.a.getD i 0=c.a[i]:=getD_at hia
  have gb:c.b.getD k 0=c.b[k]:=getD_at hkb
  have ha1:argsP c.s c.a i (arN c.s c.a[i])=args c.s c.a i:=by unfold args;rw[ga]
  have hb1:argsP c.s c.b k (arN c.s c.b[k])=args c.s c.b k:=by unfold args;rw[gb]
  have hrest:=gt_rest (order:=c.order) p1 p2 hia hkb hy hx
  have hs:=yO h5
  have ho:=ord_ok h6
  have hal:(args c.s c.a i).length<=2:=by rw[args_len];exact arN_le hs _
  have hbl:(args c.s c.b k).length<=2:=by rw[args_len];exact arN_le hs _
  have hna:=n1 _ (xH hia)
  have hnb:=n2 _ (xH hkb)
  have hxo:c.a[i]∈c.order:=ord_all ho (by omega) hna.2
  have hyo:c.b[k]∈c.order:=ord_all ho (by omega) hnb.2
  have hrk:=rk_inj hxo hyo
  have hol:=ho.len
  have hsl:=hs.len
  obtain⟨ri,hri,hr1,_⟩:=rk_mem hxo
  obtain⟨rj,hrj,hr2,_⟩:=rk_mem hyo
  have hf1:fidx (fun x=>decide (c.a[i]=x)) c.order=rk c.order c.a[i]:=rfl
  have hf2:fidx (fun x=>decide (c.b[k]=x)) c.order=rk c.order c.b[k]:=rfl
  refine R (cj Zc (cj ea (cj eb (cj hy (cj hx (cj h1 (cj h3 (cj h4 (cj h5 (cj n1 (cj n2 (cj hpa (cj hpb (cj ga (cj gb (cj ha1 hb1)))))))))))))))) ?_
  refine qY (fun x=>∀m,m<x->∀p,(args c.s c.a i)[m]? =some p->gt c.s c.order c.a c.b p.toNat k=false/\subT c.s c.a p.toNat≠subT c.s c.b k) ((args c.s c.a i).length) (fun x=>[(0,pc),(1, .int .i64 i),(2, .int .i64 k),(7, .int .i64 c.a[i]),(8, .int .i64 c.b[k]),(9,lst (args c.s c.a i)),(10,lst (args c.s c.b k)),(72,lst (args c.s c.a i)),(73, .int .i64 (args c.s c.a i).length),(74, .int .i64 x)]) (by simp) (by simp only[go_sem,push_cast,qB,qA]) ?_
  intro x Bx hIx hix hBx
  refine cv (by kernel_rfl) ?_
  rcases xM x ((args c.s c.a i).length)with hltx|hgex
  ·obtain⟨p,e1,g1,g2⟩:=args_get p1 hia hltx
   refine R (cj Zc (cj e1 hc)) ?_
   refine⟨fun h=> ?_,fun a1 a2 m hm q hq=> ?_⟩
   ·rw[gt_arg p1 p2 hia hkb hy hx (p:=(p:Int)) (wC e1) (by rw[Int.toNat_natCast];exact h.symm)]
   ·by_cases e:m=x
    ·subst e;rw[e1]at hq;cases hq;rw[Int.toNat_natCast];exact⟨by simpa using a2,a1⟩
    ·exact hIx m (by omega) q hq
  ·have hr:=hrest fun p hp=>by
    obtain⟨m,hm,rfl⟩:=List.getElem_of_mem hp
    exact hIx m (by omega) _ (xA hm)
   refine R Zc ?_
   refine cv (by kernel_rfl) ?_
   refine R (cj Zc (cj h2 (cj hf1 hf2))) ?_
   refine⟨fun h=>by rw[hr,if_pos (by omega)],fun hge=> ?_⟩
   rw[if_neg (by omega)]at hr
   refine qY (fun y=>∀m,m<y->∀q,(args c.s c.b k)[m]? =some q->gt c.s c.order c.a c.b i q.toNat=true) ((args c.s c.b k).length) (fun y=>[(0,pc),(1, .int .i64 i),(2, .int .i64 k),(9,lst (args c.s c.a i)),(10,lst (args c.s c.b k)),(13, .int .i64 (rk c.order c.a[i]-rk c.order c.b[k])),(104,lst (args c.s c.b k)),(105, .int .i64 (args c.s c.b k).length),(106, .int .i64 y)]) (by simp) (by simp only[go_sem,push_cast,qB,qA]) ?_
   intro y By hIy hiy hBy
   refine cv (by kernel_rfl) ?_
   rcases xM y ((args c.s c.b k).length)with hlty|hgey
   ·obtain⟨q,e1,g1,g2⟩:=args_get p2 hkb hlty
    refine R (cj Zc (cj e1 hc)) ?_
    refine⟨fun h m hm q' hq=> ?_,fun h=> ?_⟩
    ·by_cases e:m=y
     ·subst e;rw[e1]at hq;cases hq;simpa using h
     ·exact hIy m (by omega) q' hq
    ·rw[hr,if_pos (List.any_eq_true.2 ⟨_,wC e1,by simpa using h⟩)]
   ·have hany:¬((args c.s c.b k).any fun q=> !gt c.s c.order c.a c.b i q.toNat)=true:=fun hcc=>by
     obtain⟨q,hq,h⟩:=List.any_eq_true.1 hcc
     obtain⟨m,hm,rfl⟩:=List.getElem_of_mem hq
     rw[hIy m (by omega) _ (xA hm)]at h
     cases h
    rw[if_neg hany]at hr
    refine R Zc ?_
    refine cv (by kernel_rfl) ?_
    refine R Zc ?_
    refine⟨fun h=> ?_,fun hle=> ?_⟩
    ·rw[hr,if_pos (fun e=>by have:=hrk.2 e;omega)]
    have heq:c.a[i]=c.b[k]:=hrk.1 (by omega)
    rw[if_neg (by simpa using heq)]at hr
    have hll:(args c.s c.a i).length=(args c.s c.b k).length:=by rw[args_len,args_len,ga,gb,heq]
    refine qY (fun z=>∀m,m<z->∀p q:Int,(args c.s c.a i)[m]? =some p->(args c.s c.b k)[m]? =some q->subT c.s c.a p.toNat=subT c.s c.b q.toNat) ((args c.s c.a i).length) (fun z=>[(0,pc),(10,lst (args c.s c.b k)),(118,lst (args c.s c.a i)),(119, .int .i64 (args c.s c.a i).length),(120, .int .i64 z)]) (by simp) (by simp only[go_sem,push_cast,qB,qA]) ?_
    intro z Bz hIz hiz hBz
    refine cv (by kernel_rfl) ?_
    rcases xM z ((args c.s c.a i).length)with hltz|hgez
    ·obtain⟨p,e1,g1,g2⟩:=args_get p1 hia hltz
     obtain⟨q,e2,g3,g4⟩:=args_get p2 hkb (show z<(args c.s c.b k).length by omega)
     refine R (cj Zc (cj e1 (cj e2 hc))) ?_
     refine⟨fun h m hm p' q' hp hq=> ?_,fun h=> ?_⟩
     ·by_cases e:m=z
      ·subst e;rw[e1]at hp;rw[e2]at hq;cases hp;cases hq;simpa using h
      ·exact hIz m (by omega) p' q' hp hq
     ·rw[hr,lexG_go hIz _ _ e1 e2 (by simpa using h)];simp
    ·refine R Zc ?_
     refine cv (by kernel_rfl) ?_
     refine R Zc ?_
     rw[hr,lexG_end fun m p q hp hq=>hIz m (by have:=(xR.1 hp).1;omega) p q hp hq]
theorem R255_step(N:Nat)(ih:OK 255 (R255 N)):OK 255 (R255 (N+1)):=by
 rintro args H Bd K ⟨pc,vi,vk,rfl,cc,ec,h⟩
 obtain⟨c,i,k,e,hpre,hK⟩:=h
 simp only[xG,and_true]at e
 obtain⟨Ec,rfl,rfl⟩:=e
 obtain rfl:=qX Ec
 refine fnp pok ((Env.base _).add 263 _ (R263_step N ih)) [] hK func255 ntmps255 call255 [.tmp 6] fun hb ha=> ?_
 have Pc:=qM ec (NB.vpok (ha pc (by simp)))
 simp only[enc_GComparer,qN]at Pc
 have Zc:=Pc.all 5 rfl
 have Yc:=jJ (ha pc (by simp))
 obtain⟨⟨hc,i1,i2,k1,k2⟩,hrec⟩:=hpre
 have⟨h1,h2,h3,h4,h5,h6,h7,h8,h9⟩:=hc
 obtain⟨i,rfl⟩:=Int.eq_ofNat_of_zero_le i1
 obtain⟨k,rfl⟩:=Int.eq_ofNat_of_zero_le k1
 simp only[Int.toNat_natCast]at hrec
 have hia:i<c.a.length:=by omega
 have hkb:k<c.b.length:=by omega
 have l1:=h7.len
 have l2:=h8.len
 have n1:=h7.nodes
 have n2:=h8.nodes
 have p1:=vC h7
 have p2:=vC h8
 have hpa:=p1 i hia
 have hpb:=p2 k hkb
 have hl:=fun(t:TypeId) [TyM Tryz.prog t]=>look_gt (P:=Tryz.prog) (t:=t) c.s c.order c.a c.b (show i<32 by omega) (show k<32 by omega)
 have hm:=fun(t:TypeId) [TyM Tryz.prog t]=>mset_gt (P:=Tryz.prog) (t:=t) c.s c.order c.a c.b (show i<32 by omega) (show k<32 by omega)
 rw[h9]at Pc
 have Zc:=Pc.all 5 rfl
 refine R Zc ?_
 refine tr_still pok ((Env.base _).add 263 _ (R263_step N ih)) 10 (by kernel_rfl) ?_
 refine R (cj Zc hl) ?_
 have hc2:CmpOK (GComparer.mk c.s c.order c.a c.b (Memo.mk (gtRows c.s c.order c.a c.b))):=⟨h1,h2,h3,h4,h5,h6,h7,h8,rfl⟩
 refine⟨⟨⟨hc2,k2⟩,hrec⟩,?_⟩
 refine tr_still pok ((Env.base _).add 263 _ (R263_step N ih)) 6 (by kernel_rfl) ?_
 exact R (cj Zc hm) trivial
theorem R255_zero:OK 255 (R255 0):=by
 rintro args H Bd K ⟨pc,vi,vk,rfl,cc,ec,h⟩
 obtain⟨c,i,k,e,hpre,hK⟩:=h
 exact absurd hpre.2 (Nat.not_lt_zero _)
theorem R255_ok:∀N,OK 255 (R255 N)
 |0=>R255_zero
 |N+1=>R255_step N (R255_ok N)
theorem W255_ok:OK 255 W255:=by
 rintro args H Bd K ⟨pc,vi,vk,rfl,cc,ec,h⟩
 obtain⟨c,i,k,e,hpre,hK⟩:=h
 exact R255_ok ((c.a.length-i.toNat+(c.b.length-k.toNat))+1) _ _ _ _ ⟨pc,vi,vk,rfl,cc,ec,c,i,k,e,⟨hpre,Nat.lt_succ_self _⟩,hK⟩
@[go_sem ↓] def BW240 (s:GSignature) (order:List Int) (a:List Int) (b:List Int):Tq:=fun H Bd K=>((sm s/\sm order/\sm a/\sm b/\yS s=0/\ordG s order=0/\TermOK s a/\TermOK s b)/\K (.bool (gt s order a b 0 0)) H Bd)
def W240:qH:=fun args H Bd K=>∃(s:GSignature) (order:List Int) (a:List Int) (b:List Int),args=[.agg (enc s).toArray,lst order,lst a,lst b]/\BW240 s order a b H Bd K
@[go_sem ↓] theorem W240_eq (a:List GSymbol) (b c d:List Int):W240 [.agg #[lst a],lst b,lst c,lst d] H Bd K=BW240 (GSignature.mk a) b c d H Bd K:=ex4 (GSignature.mk a) b c d rfl
theorem W240_ok:OK 240 W240:=by
 rintro args H Bd K ⟨s,order,a,b,rfl,hpre,hK⟩
 refine fnp pok ((Env.base _).add 255 _ W255_ok) [] hK func240 ntmps240 call240 [.tmp 8] fun hb ha=> ?_
 obtain⟨h1,h2,h3,h4,h5,h6,h7,h8⟩:=hpre
 have l1:=h7.len
 have l2:=h8.len
 refine R0 ?_
 refine MkMap.use (gtRows s order a b) ?_
 have hc2:CmpOK (GComparer.mk s order a b (Memo.mk (gtRows s order a b))):=⟨h1,h2,h3,h4,h5,h6,h7,h8,rfl⟩
 exact R hc2 trivial
def V239:qH:=fun args H Bd K=>∃(e:GEquation) (s:GSignature) (order:List Int),args=[.agg (enc e).toArray, .agg (enc s).toArray, .agg (enc order).toArray]/\((sm e/\sm s/\sm order/\yS s=0/\ordG s order=0/\TermOK s e.left/\TermOK s e.right)/\K (.bool (!gt s order e.left e.right 0 0)) H Bd)
def W239:qH:=fun args H Bd K=>∃(ve ps porder:Value),args=[ve,ps,porder]/\Yld (qI H 1 ps) fun cs=>Yld (qI H 1 porder) fun corder=>qP V239 [ve, .agg cs.toArray, .agg corder.toArray] H Bd K
theorem W239_ok:OK 239 W239:=by
 rintro args H Bd K ⟨ve,ps,porder,rfl,cs,es,corder,eorder,h⟩
 obtain⟨e,s,order,e,hpre,hK⟩:=h
 simp only[xG,and_true]at e
 obtain⟨rfl,Es,Eorder⟩:=e
 obtain rfl:=qX Es
 obtain rfl:=qX Eorder
 refine fnp pok ((Env.base _).add 240 _ W240_ok) [] hK func239 ntmps239 call239 [.tmp 4] fun hb ha=> ?_
 have Ps:=qM es (NB.vpok (ha ps (by simp)))
 simp only[qN]at Ps
 have Zs:=Ps.all 1 rfl
 have Ys:=jJ (ha ps (by simp))
 have Porder:=qM eorder (NB.vpok (ha porder (by simp)))
 simp only[jN,jP,jF,jH,jC]at Porder
 have Zorder:=Porder.all 1 rfl
 have Yorder:=jJ (ha porder (by simp))
 obtain⟨h0,h1,h2,h5,h6,h7,h8⟩:=hpre
 simp only[zA]at h0
 have h9:=h0.1
 have h10:=h0.2
 exact R (cj Zs (cj Zorder (cj h9 (cj h10 (cj h1 (cj h2 (cj h5 (cj h6 (cj h7 h8))))))))) trivial
@[go_sem ↓] def BV236_239 (xs:List GEquation) (s:GSignature) (order:List Int):Tq:=fun H Bd K=>((sm xs/\∀e∈xs,sm e/\sm s/\sm order/\yS s=0/\ordG s order=0/\TermOK s e.left/\TermOK s e.right)/\K (.bool (xs.any (fun e:GEquation=> !gt s order e.left e.right 0 0))) H Bd)
def V236_239:qH:=fun args H Bd K=>∃(xs:List GEquation) (s:GSignature) (order:List Int),args=[lst xs, .agg (enc s).toArray, .agg (enc order).toArray]/\BV236_239 xs s order H Bd K
@[go_sem ↓] theorem V236_239_eq (a:List GEquation) (b:List GSymbol) (c:List Int):V236_239 [lst a, .agg #[lst b], .agg #[lst c]] H Bd K=BV236_239 a (GSignature.mk b) c H Bd K:=ex3 a (GSignature.mk b) c rfl
def W236_239:qH:=fun args H Bd K=>∃(vxs ps porder:Value),args=[vxs, .func (.func 239) #[] #[ps,porder]]/\Yld (qI H 1 ps) fun cs=>Yld (qI H 1 porder) fun corder=>qP V236_239 [vxs, .agg cs.toArray, .agg corder.toArray] H Bd K
@[go_sem ↓] theorem W236_239_eq (a b c:Value):W236_239 [a, .func (.func 239) #[] #[b,c]] H Bd K=(Yld (qI H 1 b) fun cs=>Yld (qI H 1 c) fun corder=>qP V236_239 (idS [a, .agg cs.toArray, .agg corder.toArray]) H Bd K):=by
 refine propext ⟨fun h=> ?_,fun h=>⟨_,_,_,rfl,h⟩⟩
 obtain⟨vxs',ps',porder',e,h⟩:=h
 simp only[xG,Value.func.injEq,jB,xG,and_true,true_and]at e
 obtain⟨rfl,rfl,rfl⟩:=e
 exact h
theorem W236_239_ok:OK 236 W236_239:=by
 rintro args H Bd K ⟨vxs,ps,porder,rfl,cs,es,corder,eorder,h⟩
 obtain⟨xs,s,order,e,hpre,hK⟩:=h
 simp only[xG,and_true]at e
 obtain⟨rfl,Es,Eorder⟩:=e
 obtain rfl:=qX Es
 obtain rfl:=qX Eorder
 refine G236 239 #[ps,porder] (fun e:GEquation=> !gt s order e.left e.right 0 0) xs H Bd K hpre.1 (fun x hx B hB K' hk=> ?_) hK
 exact W239_ok _ _ _ _ ⟨_,_,_,rfl,_,es,_,eorder,x,s,order,rfl,hpre.2 x hx,hk⟩
@[go_sem ↓] def BW200 (s:GSignature) (order:List Int) (l:List GEquation):Tq:=fun H Bd K=>((sm s/\sm order/\rg order/\sm l/\rg l)/\K (.bool (decide (ordF s order=0/\eqsF s l=0)&&fallsB s order l)) H Bd)
def W200:qH:=fun args H Bd K=>∃(s:GSignature) (order:List Int) (l:List GEquation),args=[.agg (enc s).toArray,lst order,lst l]/\BW200 s order l H Bd K
@[go_sem ↓] theorem W200_eq (a:List GSymbol) (b:List Int) (c:List GEquation):W200 [.agg #[lst a],lst b,lst c] H Bd K=BW200 (GSignature.mk a) b c H Bd K:=ex3 (GSignature.mk a) b c rfl
theorem W200_ok:OK 200 W200:=by
 rintro args H Bd K ⟨s,order,l,rfl,hpre,hK⟩
 refine fnp pok ((((Env.base _).add 198 _ W198_ok).add 151 _ W151_ok).add 236 _ W236_239_ok) [(1,[],[],(.k 5 (.grp false 11 15 4 [12,13,14,15] 16 none (.k 4 .nil) .nil)))] hK func200 ntmps200 call200 [.tmp 6] fun hb ha=> ?_
 obtain⟨h1,h2,h3,h4,h5⟩:=hpre
 refine R (cj h1 (cj h2 (cj h3 (cj h4 h5)))) ?_
 refine⟨fun h=> ?_,fun a1 a2=>⟨fun e he=> ?_,?_⟩⟩
 ·rcases h with h|h <;>simp[h]
 ·have o:=ordF_zero a1
  have v1:eqsF s l=eqsG s l:=by unfold eqsF;rw[if_neg (by simp[o.1])]
  rw[v1]at a2
  have h6:=zN ((eqsG_zero a2).2 e he)
  exact⟨yQ h4 he,o.1,o.2,h6.1,h6.2.1⟩
 ·rw[any_not,decide_eq_true a2];rfl
@[go_sem ↓] def BW152 (s:GSignature) (x:GTheory):Tq:=fun H Bd K=>((sm s/\sm x/\rg x)/\K (.int .i64 (thF s x)) H Bd)
def W152:qH:=fun args H Bd K=>∃(s:GSignature) (x:GTheory),args=[.agg (enc s).toArray, .agg (enc x).toArray]/\BW152 s x H Bd K
@[go_sem ↓] theorem W152_eq (a:List GSymbol) (b:List Int) (c d:List GEquation):W152 [.agg #[lst a], .agg #[lst b,lst c,lst d]] H Bd K=BW152 (GSignature.mk a) (GTheory.mk b c d) H Bd K:=ex2 (GSignature.mk a) (GTheory.mk b c d) rfl
theorem W152_ok:OK 152 W152:=by
 rintro args H Bd K ⟨s,x,rfl,hpre,hK⟩
 refine fnp pok ((((((Env.base _).add 198 _ W198_ok).add 151 _ W151_ok).add 199 _ W199_ok).add 92 _ W92_ok).add 200 _ W200_ok) [(1,[0,1,2,4,5,6,8,9,10,3,7,11,12,13,14],[z0 0,z0 1,z0 2,z0 4,z0 5,z0 6,z0 8,z0 9,z0 10,⟨3,[],[10,8,6,4]⟩,⟨7,[],[10,8]⟩,z0 11,z0 12,⟨13,[12],[]⟩,z0 14], .nil)] hK func152 ntmps152 call152 [.tmp 4] fun hb ha=> ?_
 obtain⟨h1,h2,h3⟩:=hpre
 simp only[sm_GTheory]at h2
 have h5:rg x.order:=h3.1
 have h6:rg x.equations:=h3.2.1
 have h7:rg x.rules:=h3.2.2
 refine R (cj h1 (cj h2 (cj h5 (cj h6 h7)))) ?_
 refine⟨(jY _).2 (by simp),?_⟩
 rw[firstF3]
 by_cases g0:yS s=0
 ·have v0:ordF s x.order=ordG s x.order:=by unfold ordF;rw[if_neg (by simp[g0])]
  have v1:∀l,eqsF s l=eqsG s l:=fun l=>by unfold eqsF;rw[if_neg (by simp[g0])]
  have v2:rulesF s x.rules=vP s x.rules:=by unfold rulesF;rw[if_neg (by simp[g0])]
  have v3:thF s x=thG s x:=by unfold thF;rw[if_neg (by simp[g0])]
  rw[v0,v1,v1,v2,v3]
  unfold thG
  by_cases c0:ordG s x.order=0
  ·by_cases c1:eqsG s x.equations=0
   ·by_cases c2:vP s x.rules=0
    ·have c3:=rules_eqs c2
     simp only[Cnp,Imp,c0,c1,c2,c3]
     cases q:fallsB s x.order x.rules <;>simp
    ·simp[Cnp,Imp,c0,c1,c2]
   ·simp[Cnp,Imp,c0,c1]
  ·simp[Cnp,Imp,c0]
 ·have v0:ordF s x.order=yS s:=by unfold ordF;rw[if_pos g0]
  have v3:thF s x=yS s:=by unfold thF;rw[if_pos g0]
  rw[v0,if_pos g0,v3]
  exact⟨fun h=>absurd h g0,fun _=>rfl⟩
def W241:qH:=fun args H Bd K=>∃(t:List Int),args=[lst t]/\((sm t/\t.length<=1000000/\smallN t)/\K (lst (yI t)) H Bd)
@[go_sem ↓] theorem W241_eq (a:List Int):W241 [lst a] H Bd K=((sm a/\a.length<=1000000/\smallN a)/\K (lst (yI a)) H Bd):=ex1 a rfl
theorem W241_ok:OK 241 W241:=by
 rintro args H Bd K ⟨t,rfl,hpre,hK⟩
 refine fnp pok (Env.base _) [] hK func241 ntmps241 call241 [.tmp 2] fun hb ha=> ?_
 refine jD pok fun cv=> ?_
 obtain⟨h1,h2,h3⟩:=hpre
 refine R0 ?_
 refine tr_acc (α:=UInt8) (H0:=H) (B0:=Bd) (n0:=Bd) (t.length) (fun i=>yI (t.take i)) (fun i out=>[(3,out),(7,lst t),(8, .int .i64 t.length),(9, .int .i64 i)]) (xC 1) ⟨by omega,by omega⟩ (by simp only[go_sem,push_cast,qB,qA,List.take_zero,packT_nil]) (by simp (disch:=first|assumption|omega) only[go_sem,push_cast,qB,qA,jA,List.take_zero,packT_nil]) ?_
 intro i ni ci Bi hii hci hni hmi hBi hbi
 refine cv (by kernel_rfl) ?_
 have hzi:(ci=0)=False:=eq_false (by omega)
 rcases xM i (t.length)with hlti|hgei
 ·have e1:t[i]? =some t[i]:=xA hlti
  have hst:yI (t.take (i+1))=yI (t.take i)++[packN t[i]]:=packT_take hlti
  have hl3:(yI (t.take i)).length=i:=by simp[yI];omega
  have hr:=h3 _ (xH hlti)
  by_cases hn:t[i]<0
  ·have hp:=packN_neg hr.1 hn
   have hq:(31-t[i])%256=((packN t[i]).toNat:Int):=by omega
   simp (maxSteps:=2000000) (disch:=first|exact dq|fail) only[go_sem,push_cast,qB,qA,qK hb,qE hb,e1,hq,hn,hzi,hst,qL,qS]
   exact acc_end (by omega) (by omega) (by simp) rfl (by simp (disch:=first|assumption|omega|(simp (disch:=omega) only[qF,qE hb];done)) only[jK,qA,qT,qF,qE hb])
  ·have hp:=packN_pos (by omega) hr.2
   have hq:(t[i]+1)%256=((packN t[i]).toNat:Int):=by omega
   simp (maxSteps:=2000000) (disch:=first|exact dq|fail) only[go_sem,push_cast,qB,qA,qK hb,qE hb,e1,hq,hn,hzi,hst,qL,qS]
   exact acc_end (by omega) (by omega) (by simp) rfl (by simp (disch:=first|assumption|omega|(simp (disch:=omega) only[qF,qE hb];done)) only[jK,qA,qT,qF,qE hb])
 ·refine R0 ?_
  refine Tr.fin2 3 (by simp (disch:=first|assumption|omega) only[qF,qE hb]) (by simp only[go_sem,push_cast,qB,qA];rfl) rfl ?_
  refine cv (by kernel_rfl) ?_
  rw[xO hgei]
  exact R0 trivial
def W201:qH:=fun args H Bd K=>∃(l:List GEquation),args=[lst l]/\((PkE l)/\K (lst (kF l)) H Bd)
@[go_sem ↓] theorem W201_eq (a:List GEquation):W201 [lst a] H Bd K=((PkE a)/\K (lst (kF a)) H Bd):=ex1 a rfl
theorem W201_ok:OK 201 W201:=by
 rintro args H Bd K ⟨l,rfl,hpre,hK⟩
 refine fnp pok ((Env.base _).add 241 _ W241_ok) [(5,[0,1,2,5,6,3,4,7,8,9],[z0 0,z0 1,z0 2,z0 5,z0 6,⟨3,[],[6]⟩,⟨4,[],[6]⟩,z0 7,z0 8,z0 9], .nil)] hK func201 ntmps201 call201 [.tmp 2] fun hb ha=> ?_
 refine jD pok fun cv=> ?_
 have hl:=hpre.1
 refine RA0 ?_
 refine kD (X:=Nat) hb (by omega) 1 [.s 3] rfl (fun x=>x<=l.length) (fun x=>l.length-x) (fun Nx x=>[(3, .slice (some ⟨Nx,0,some 1⟩) (accE l x).length ((accE l x).length+1)),(10,lst l),(11, .int .i64 (l.length:Int)),(12, .int .i64 x)]) (fun Nx x=>[(Nx,⟨qO (accE l x),true⟩)]) 0 (xT _) (fun Nx hNx=>(by simp (disch:=first|assumption|omega|(simp (disch:=omega) only[qF,qE hb];done)|(simp (disch:=first|omega|(simp (disch:=omega) only[qF,qE hb];done)) only[go_sem,push_cast,qB,qA,qF,qE hb];done)|fail) only[go_sem,push_cast,qB,qA,qT,qK hb,qF,qE hb,jA,qL,qS,jN,jF,jC,jP,jH,xL,xD,xJ,xZ,Nat.zero_add,accE_zero,u8_flat,List.length_singleton]<;>exact cT)) ?_
 intro Nx x hNx hIx hbx Fx hFx
 simp only[mem_cons,jI]at hbx ⊢
 refine cv (by kernel_rfl) ?_
 by_cases hlt:x<l.length
 ·have e1:l[x]? =some (l[x]'hlt):=xA _
  have hal:=accE_len hpre x hIx
  obtain⟨h1,h2⟩:=hpre.2 _ (xH hlt)
  have hst:accE l (x+1)=accE l x++yI (l[x]'hlt).left++yI (l[x]'hlt).right:=by rw[accE_succ e1,xL];rfl
  generalize hE:(l[x]'hlt)=E at*
  obtain⟨h3,h4,h5⟩:=h1.sm
  obtain⟨h6,h7,h8⟩:=h2.sm
  have h9:=h1.1
  have h10:=h2.1
  have htk:List.take ((accE l x).length+E.left.length) (qO (accE l x)++qO (yI E.left))=qO (accE l x)++qO (yI E.left):=xO (by rw[xD,jQ,jQ,vD];show _*1+_*1<=_;omega)
  refine RL (cj htk (cj e1 (cj hE (cj hlt (cj h3 (cj h4 (cj h5 (cj h6 (cj h7 (cj h8 vD)))))))))) ?_
  refine hFx (x+1) _ _ _ ?_ ?_ (by simp only[go_sem,push_cast,qB,qA]) ((by simp (disch:=first|assumption|omega|(simp (disch:=omega) only[qF,qE hb];done)|(simp (disch:=first|omega|(simp (disch:=omega) only[qF,qE hb];done)) only[go_sem,push_cast,qB,qA,qF,qE hb];done)|fail) only[go_sem,push_cast,qB,qA,qT,qK hb,qF,qE hb,jA,qL,qS,jN,jF,jC,jP,jH,xL,xD,xJ,xZ,Nat.zero_add,hst,vD]<;>exact cT))
  ·show l.length-(x+1)<l.length-x
   omega
  ·exact hlt
 ·obtain rfl:x=l.length:=by omega
  have hal:=accE_len hpre l.length (xC _)
  refine R0 ?_
  refine cv (by kernel_rfl) ?_
  refine R0 ?_
  rw[<-accE_all]
  exact qZ (by simp (disch:=first|assumption|omega) only[go_sem,push_cast,qB,qA]) (hb.fresh _ (by omega)) rfl (by first|rfl|exact(kH _).symm|simp|omega)
def W153:qH:=fun args H Bd K=>∃(t:GTheory),args=[.agg (enc t).toArray]/\((PkTh t)/\K (lst (yU t)) H Bd)
@[go_sem ↓] theorem W153_eq (a:List Int) (b c:List GEquation):W153 [.agg #[lst a,lst b,lst c]] H Bd K=((PkTh (GTheory.mk a b c))/\K (lst (yU (GTheory.mk a b c))) H Bd):=ex1 (GTheory.mk a b c) rfl
theorem W153_ok:OK 153 W153:=by
 rintro args H Bd K ⟨t,rfl,hpre,hK⟩
 refine fnp pok ((Env.base _).add 201 _ W201_ok) [(7,[0,1,2,5,6,3,4,7,8,9],[z0 0,z0 1,z0 2,z0 5,z0 6,⟨3,[],[6]⟩,⟨4,[],[6]⟩,z0 7,z0 8,z0 9], .nil)] hK func153 ntmps153 call153 [.tmp 2] fun hb ha=> ?_
 refine jD pok fun cv=> ?_
 obtain⟨hl,hE,hR⟩:=hpre
 have lE:=packE_le hE
 have lR:=packE_le hR
 refine RA0 ?_
 refine kD (X:=Nat) hb (by omega) 1 [.s 3] rfl (fun x=>x<=t.order.length) (fun x=>t.order.length-x) (fun Nx x=>[(1, .pointer (some ⟨Bd,0,none⟩)),(3, .slice (some ⟨Nx,0,some 1⟩) (packO (t.order.take x)).length ((packO (t.order.take x)).length+1)),(8,lst t.order),(9, .int .i64 (t.order.length:Int)),(10, .int .i64 x)]) (fun Nx x=>[(Bd,⟨[lst t.order,lst t.equations,lst t.rules],true⟩),(Nx,⟨qO (packO (t.order.take x)),true⟩)]) 0 (xT _) (fun Nx hNx=>(canf (show packO []=[]from rfl))) ?_
 intro Nx x hNx hIx hbx Fx hFx
 simp only[mem_cons,jI]at hbx ⊢
 refine cv (by kernel_rfl) ?_
 by_cases hlt:x<t.order.length
 ·have e1:t.order[x]? =some (t.order[x]'hlt):=xA _
  have hst:=packO_succ hlt
  have hxl:(packO (t.order.take x)).length=x:=by rw[packO_len,xQ];omega
  refine RA (cj e1 hlt) ?_
  refine hFx (x+1) _ _ _ ?_ ?_ (by simp only[go_sem,push_cast,qB,qA]) ((by simp (disch:=first|assumption|omega|(simp (disch:=omega) only[qF,qE hb];done)|(simp (disch:=first|omega|(simp (disch:=omega) only[qF,qE hb];done)) only[go_sem,push_cast,qB,qA,qF,qE hb];done)|fail) only[go_sem,push_cast,qB,qA,qT,qK hb,qF,qE hb,jA,qL,qS,jN,jF,jC,jP,jH,xL,xD,xJ,xZ,Nat.zero_add,hst,vA]<;>exact cT))
  ·show t.order.length-(x+1)<t.order.length-x
   omega
  ·exact hlt
 ·obtain rfl:x=t.order.length:=by omega
  rw[packO_take]
  have hxl:=packO_len t.order
  have htk:List.take (t.order.length+(kF t.equations).length) (qO (packO t.order)++qO (kF t.equations))=qO (packO t.order)++qO (kF t.equations):=xO (by rw[xD,jQ,jQ,hxl];show _*1+_*1<=_;omega)
  have hP:qO (packO t.order)++qO (kF t.equations)++qO (kF t.rules)=qO (yU t):=by
   unfold yU
   simp only[qL,xL]
  have hPL:t.order.length+(kF t.equations).length+(kF t.rules).length=(yU t).length:=by unfold yU;rw[xD,xD,hxl];omega
  refine R0 ?_
  refine cv (by kernel_rfl) ?_
  refine RL (cj hE (cj hR (cj hxl (cj htk hP)))) ?_
  exact qZ (by simp (disch:=first|assumption|omega) only[go_sem,push_cast,qB,qA,qL,qS,jN,jF,jC,jP,jH,xL,List.cons_append,List.nil_append]) (hb.fresh _ (by omega)) rfl (hPL)
@[go_sem ↓] def BW100 (s:GSignature) (t:GTheory):Tq:=fun H Bd K=>((sm s/\sm t/\rg t)/\K (.agg (enc (packR s t)).toArray) H Bd)
def W100:qH:=fun args H Bd K=>∃(s:GSignature) (t:GTheory),args=[.agg (enc s).toArray, .agg (enc t).toArray]/\BW100 s t H Bd K
@[go_sem ↓] theorem W100_eq (a:List GSymbol) (b:List Int) (c d:List GEquation):W100 [.agg #[lst a], .agg #[lst b,lst c,lst d]] H Bd K=BW100 (GSignature.mk a) (GTheory.mk b c d) H Bd K:=ex2 (GSignature.mk a) (GTheory.mk b c d) rfl
theorem W100_ok:OK 100 W100:=by
 rintro args H Bd K ⟨s,t,rfl,hpre,hK⟩
 refine fnp pok (((Env.base _).add 152 _ W152_ok).add 153 _ W153_ok) [] hK func100 ntmps100 call100 [.cell 4 181] fun hb ha=> ?_
 obtain⟨h1,h2,h3⟩:=hpre
 by_cases hf:thF s t=0
 case neg=>
  have e:packR s t=⟨thF s t,[]⟩:=by unfold packR;rw[if_pos hf]
  rw[e]
  exact R (cj h1 (cj h2 (cj h3 hf))) trivial
 obtain⟨hs,hg⟩:=thF_zero hf
 have hp:=th_pk (yO hs) hg
 by_cases hl:300<(yU t).length
 ·have e:packR s t=⟨2,[]⟩:=by unfold packR;rw[if_neg (by simpa using hf),if_pos hl]
  rw[e]
  exact R (cj h1 (cj h2 (cj h3 (cj hf (cj hp hl))))) trivial
 ·have e:packR s t=⟨0,yU t⟩:=by unfold packR;rw[if_neg (by simpa using hf),if_neg hl]
  rw[e]
  exact R (cj h1 (cj h2 (cj h3 (cj hf (cj hp hl))))) trivial
def W59:qH:=fun args H Bd K=>∃(s:GSignature) (data:List UInt8),args=[.agg (enc s).toArray,lst data]/\((sm s/\data.length<=1000000)/\K (.agg (enc (unpR s data)).toArray) H Bd)
@[go_sem ↓] theorem W59_eq (a:List GSymbol) (b:List UInt8):W59 [.agg #[lst a],lst b] H Bd K=((sm (GSignature.mk a)/\b.length<=1000000)/\K (.agg (enc (unpR (GSignature.mk a) b)).toArray) H Bd):=ex2 (GSignature.mk a) b rfl
theorem W59_ok:OK 59 W59:=by
 rintro args H Bd K ⟨s,data,rfl,hpre,hK⟩
 refine fnp pok (((((((Env.base _).add 97 _ W97_ok).add 98 _ W98_ok).add 99 _ W99_ok).add 101 _ W101_ok).add 100 _ W100_ok).add 102 _ W102_ok) [(8,[0,1,2,3,4,5,6,7],[z0 0,z0 1,z0 2,⟨3,[],[1]⟩,z0 4,⟨5,[4],[]⟩,z0 6,⟨7,[4],[]⟩], .nil),(13,[],[],(.k 4 (.grp false 46 49 3 [47,48,49] 50 none (.k 3 .nil) (.k 1 (.grp false 51 56 5 [52,53,54,55,56] 57 none (.k 5 .nil) .nil)))))] hK func59 ntmps59 call59 [.cell 4 114] fun hb ha=> ?_
 refine jD pok fun cv=> ?_
 obtain⟨h1,h3⟩:=hpre
 by_cases h2:yS s=0
 case neg=>
  have e:unpR s data=⟨yS s,noTh⟩:=by unfold unpR;rw[if_pos h2]
  rw[e];unfold noTh
  exact R (cj h1 h2) trivial
 have hs:=yO h2
 have hsl:=hs.len
 refine R (cj h1 h2) ?_
 refine kD (X:=Nat×List Int×List UInt8×Bool) hb (by omega) 1 [.m (Bd+3) 0] rfl (fun x=>x.1<=s.symbols.length/\ordQ x.1 (data,false)=(x.2.1,x.2.2)) (fun x=>s.symbols.length-x.1) (fun Nx x=>[(1,lst data),(2, .pointer (some ⟨Bd,0,none⟩)),(4, .pointer (some ⟨Bd+1,0,none⟩)),(6, .pointer (some ⟨Bd+2,0,none⟩)),(7, .pointer (some ⟨Bd+3,0,none⟩)),(21, .int .i64 (s.symbols.length:Int)),(22, .int .i64 x.1)]) (fun Nx x=>[(Bd,⟨[lst s.symbols],true⟩),(Bd+1,⟨[.int .i64 0, .slice none 0 0, .slice none 0 0, .slice none 0 0],true⟩),(Bd+2,⟨[lst x.2.2.1, .bool x.2.2.2],true⟩),(Bd+3,⟨[.slice (some ⟨Nx,0,some 1⟩) x.2.1.length (x.2.1.length+1), .slice none 0 0, .slice none 0 0],true⟩),(Nx,⟨qO x.2.1,true⟩)]) (0,[],data,false) (⟨xT _,rfl⟩) (fun Nx hNx=>(cant)) ?_
 intro Nx x hNx hIx hbx Fx hFx
 simp only[mem_cons,jI]at hbx ⊢
 refine cv (by kernel_rfl) ?_
 obtain⟨i,out,rest,f⟩:=x
 obtain⟨i1,i2⟩:=hIx
 simp only at i1 i2
 obtain⟨l1,l2,l3⟩:=ordQ_le i (data,false)
 rw[i2]at l1 l2 l3
 simp only at l1 l2 l3
 have hrl:rest.length<=1000000:=wE l2 h3
 by_cases hlt:i<s.symbols.length
 ·have ho:=vE (rest,f)
  have hst:=ordQ_succ i (data,false)
  rw[i2]at hst
  refine RA (cj hlt hrl) ?_
  refine hFx (i+1,out++[jS (rest,f)],tkS (rest,f) 1) _ _ _ ?_ ?_ (by simp only[go_sem,push_cast,qB,qA]) ((cant))
  ·show s.symbols.length-(i+1)<s.symbols.length-i
   omega
  ·exact⟨hlt,hst⟩
 ·obtain rfl:i=s.symbols.length:=by omega
  refine R0 ?_
  refine Tr.to hb (by omega) 0 [] rfl (fun Nk=>[(1,lst data),(2, .pointer (some ⟨Bd,0,none⟩)),(4, .pointer (some ⟨Bd+1,0,none⟩)),(6, .pointer (some ⟨Bd+2,0,none⟩)),(7, .pointer (some ⟨Bd+3,0,none⟩))]) (fun Nk=>[(Bd,⟨[lst s.symbols],true⟩),(Bd+1,⟨[.int .i64 0, .slice none 0 0, .slice none 0 0, .slice none 0 0],true⟩),(Bd+2,⟨[lst rest, .bool f],true⟩),(Bd+3,⟨[lst out, .slice none 0 0, .slice none 0 0],true⟩)]) (fun Nk hNk=>(cant)) ?_
  intro Nk hNk hbk
  simp only[mem_cons,jI]at hbk ⊢
  refine cv (by kernel_rfl) ?_
  have hQ:uqO s data=(out,(rest,f)):=i2
  obtain⟨a1,a2,a3⟩:=eqR_sm s (rest,f)
  rcases hE:eqR s (rest,f)with⟨E,r1,f1⟩
  rw[hE]at a1 a2 a3
  simp only at a1 a2 a3
  have hr1:r1.length<=1000000:=wE a3 hrl
  obtain⟨b1,b2,b3⟩:=eqR_sm s (r1,f1)
  rcases hL:eqR s (r1,f1)with⟨L,r2,f2⟩
  rw[hL]at b1 b2 b3
  simp only at b1 b2 b3
  have hr2:r2.length<=1000000:=wE b3 hr1
  have hUE:uqE s data=(E,(r1,f1)):=by unfold uqE;rw[hQ];exact hE
  have hUL:uqR s data=(L,(r2,f2)):=by unfold uqR;rw[hUE];exact hL
  have hX:rTh s data=⟨out,E,L⟩:=by unfold rTh;rw[hQ,hUE,hUL]
  obtain⟨c1,c2⟩:=smE_sm a1 (by omega)
  obtain⟨d1,d2⟩:=smE_sm b1 (by omega)
  have hsX:sm (⟨out,E,L⟩:GTheory):=⟨(jY _).2 (by rw[l1];omega),c1,d1⟩
  have hro:rg out:=fun n hn=>by
   have h9:=l3 n hn
   exact⟨by omega,by omega⟩
  have hrX:rg (⟨out,E,L⟩:GTheory):=⟨hro,c2,d2⟩
  rcases unp_cases h2 hX (by rw[hUL])with⟨u1,u2,u3⟩|⟨u1,u2⟩
  ·rw[u1]
   exact R (cj h1 (cj h2 (cj hrl (cj hE (cj hr1 (cj hL (cj hr2 (cj hsX (cj hrX (cj u2 u3)))))))))) trivial
  ·rw[u1];unfold noTh
   rcases u2 with u2|⟨u2,u3⟩|⟨u2,l,u3,u4⟩
   ·exact R (cj h1 (cj h2 (cj hrl (cj hE (cj hr1 (cj hL (cj hr2 (cj hsX (cj hrX u2))))))))) trivial
   ·exact R (cj h1 (cj h2 (cj hrl (cj hE (cj hr1 (cj hL (cj hr2 (cj hsX (cj hrX (cj u2 u3)))))))))) trivial
   ·exact R (cj h1 (cj h2 (cj hrl (cj hE (cj hr1 (cj hL (cj hr2 (cj hsX (cj hrX (cj u2 (cj u3 u4))))))))))) trivial
def W29:qH:=fun args H Bd K=>∃(d:GDisk),args=[.agg (enc d).toArray]/\((sm d)/\K (.agg (enc (baseR d)).toArray) H Bd)
@[go_sem ↓] theorem W29_eq (a:List (List UInt8)) (b:List GPut):W29 [.agg #[lst a,lst b]] H Bd K=((sm (GDisk.mk a b))/\K (.agg (enc (baseR (GDisk.mk a b))).toArray) H Bd):=ex1 (GDisk.mk a b) rfl
theorem W29_ok:OK 29 W29:=by
 rintro args H Bd K ⟨d,rfl,hpre,hK⟩
 refine fnp pok (((((Env.base _).add 57 _ W57_ok).add 58 _ W58_ok).add 60 _ W60_ok).add 59 _ W59_ok) [(9,[0,1,2,3,4,8,5,6,7,9],[z0 0,z0 1,z0 2,z0 3,z0 4,z0 8,⟨5,[],[1]⟩,z0 6,z0 7,⟨9,[8],[]⟩], .nil),(14,[0,1,2,3,4,8,5,6,7,9],[z0 0,z0 1,z0 2,z0 3,z0 4,z0 8,⟨5,[],[1]⟩,z0 6,z0 7,⟨9,[8],[]⟩], .nil)] hK func29 ntmps29 call29 [.cell 2 69] fun hb ha=> ?_
 by_cases hd:yR d=0
 case neg=>
  have e:baseR d=⟨yR d,yB,noTh,noTh⟩:=by unfold baseR;rw[if_pos hd]
  have e2:opnR d=⟨yR d,yB⟩:=by unfold opnR;rw[if_pos hd]
  rw[e];unfold yB noTh
  exact R (cj hpre (cj e2 hd)) trivial
 have hB:baseR d=⟨(scrD d).2,(scrD d).1.super,(scrD d).1.theory,(scrD d).1.next_⟩:=by unfold baseR;rw[if_neg (by simpa using hd)]
 have hO:opnR d=⟨(jM d).2,(jM d).1⟩:=by unfold opnR;rw[if_neg (by simpa using hd)]
 have hR:scrD d=if(jM d).2≠0 then(noSt,(jM d).2)
   else if(vY d (jM d).1).code≠0 then(noSt,(vY d (jM d).1).code)
   else if(thAt d (jM d).1 (jM d).1.theory).2=false then(noSt,5)
   else if(jM d).1.moving=true/\(thAt d (jM d).1 (jM d).1.next_).2=false then(noSt,5)
   else(⟨(jM d).1,(vY d (jM d).1).list,(thAt d (jM d).1 (jM d).1.theory).1,if(jM d).1.moving=true then(thAt d (jM d).1 (jM d).1.next_).1 else noTh⟩,0):=rfl
 by_cases q1:(jM d).2=0
 case neg=>
  rw[if_pos q1]at hR
  rw[hB,hR];unfold noSt yB noTh
  exact R (cj hpre (cj hO q1)) trivial
 rw[if_neg (by simpa using q1)]at hR
 have hsf:=openD_ok q1
 have hS:=kG hsf
 generalize hQ:(jM d).1=Q at*
 have hth:=hS.theory
 have hnx:=hS.next_
 have hsg:=hS.sig
 have hsl:=(yO hsg).len
 have hcur:=hS.cur
 have hss:sm Q.symbols:=⟨show Q.symbols.symbols.length<=281474976710656 by omega,fun x hx=>⟨show x.name.size<=281474976710656 by have:=zK ((yO hsg).nm x hx).1;omega,trivial⟩⟩
 have hsQ:sm Q:=⟨trivial,trivial,trivial,trivial,trivial,trivial,trivial,⟨show Q.cursor.length<=281474976710656 by omega,fun _ _=>trivial⟩,hss⟩
 have hK:keptR d Q=vY d Q:=by unfold keptR;rw[if_neg (by simpa using hd),if_neg (by simpa using hsf)]
 by_cases q2:(vY d Q).code=0
 case neg=>
  rw[if_pos q2]at hR
  rw[hB,hR];unfold noSt yB noTh
  exact R (cj hpre (cj hO (cj q1 (cj hQ (cj hsQ (cj hK q2)))))) trivial
 rw[if_neg (by simpa using q2)]at hR
 have hf1:∀a b,H (Bd+a+b)=none:=fun a b=>hb.fresh _ (by omega)
 have hf2:∀a b c,H (Bd+a+b+c)=none:=fun a b c=>hb.fresh _ (by omega)
 have r1:R64 Q.theory:=⟨by omega,by omega⟩
 have r2:R64 Q.next_:=⟨by omega,by omega⟩
 have hc1:=chainD_dlen d Q.theory
 have hc2:=chainD_dlen d Q.next_
 have x1:=chainR_ok (h:=Q.theory) hd
 have x2:=chainR_ok (h:=Q.next_) hd
 by_cases q3:(thAt d Q Q.theory).2=true
 case neg=>
  have q3:(thAt d Q Q.theory).2=false:=by simpa using q3
  have e1:=unpR_no hsg q3
  rw[if_pos q3]at hR
  rw[hB,hR];unfold noSt yB
  unfold noTh at e1 ⊢
  exact R (cj hpre (cj hO (cj q1 (cj hQ (cj hsQ (cj hK (cj q2 (cj r1 (cj r2 (cj hc1 (cj hc2 (cj x1 (cj x2 (cj hss (cj hsg (cj e1 (cj hf1 hf2))))))))))))))))) trivial
 have e1:unpR Q.symbols (qU d Q.theory).1=⟨0,(thAt d Q Q.theory).1⟩:=unpR_yes hsg q3
 rw[if_neg (by rw[q3];decide)]at hR
 by_cases q4:Q.moving=true
 ·by_cases q5:(thAt d Q Q.next_).2=true
  ·have e2:unpR Q.symbols (qU d Q.next_).1=⟨0,(thAt d Q Q.next_).1⟩:=unpR_yes hsg q5
   rw[if_neg (by rw[q5];simp),if_pos q4]at hR
   rw[hB,hR]
   exact R (cj hpre (cj hO (cj q1 (cj hQ (cj hsQ (cj hK (cj q2 (cj r1 (cj r2 (cj hc1 (cj hc2 (cj x1 (cj x2 (cj hss (cj hsg (cj e1 (cj e2 (cj hf1 hf2)))))))))))))))))) trivial
  ·have q5:(thAt d Q Q.next_).2=false:=by simpa using q5
   have e2:=unpR_no hsg q5
   rw[if_pos ⟨q4,q5⟩]at hR
   rw[hB,hR];unfold noSt yB
   unfold noTh at e2 ⊢
   exact R (cj hpre (cj hO (cj q1 (cj hQ (cj hsQ (cj hK (cj q2 (cj r1 (cj r2 (cj hc1 (cj hc2 (cj x1 (cj x2 (cj hss (cj hsg (cj e1 (cj e2 (cj hf1 hf2)))))))))))))))))) trivial
 ·rw[if_neg (fun h=>q4 h.1),if_neg q4]at hR
  rw[hB,hR];unfold noTh
  exact R (cj hpre (cj hO (cj q1 (cj hQ (cj hsQ (cj hK (cj q2 (cj r1 (cj r2 (cj hc1 (cj hc2 (cj x1 (cj x2 (cj hss (cj hsg (cj e1 (cj hf1 hf2))))))))))))))))) trivial
@[go_sem ↓] def BW43 (d:GDisk) (root:Int):Tq:=fun H Bd K=>((sm d/\R64 root)/\K (.agg #[.int .i64 (vW d root).1, .slice (some ⟨Bd,0,some 2⟩) (rowsO d root).length ((rowsO d root).length+1)]) (upd H Bd (some ⟨qO (rowsO d root),true⟩)) (Bd+1))
def W43:qH:=fun args H Bd K=>∃(d:GDisk) (root:Int),args=[.agg (enc d).toArray, .int .i64 root]/\BW43 d root H Bd K
@[go_sem ↓] theorem W43_eq (a:List (List UInt8)) (b:List GPut) (c:Int):W43 [.agg #[lst a,lst b], .int .i64 c] H Bd K=BW43 (GDisk.mk a b) c H Bd K:=ex2 (GDisk.mk a b) c rfl
theorem W43_ok:OK 43 W43:=by
 rintro args H Bd K ⟨d,root,rfl,hpre,hK⟩
 refine fn_can pok ((Env.base _).add 73 _ W73_ok) [] H [.m (Bd+1) 1] (.agg #[.int .i64 (vW d root).1, .slice (some ⟨Bd,0,some 2⟩) (rowsO d root).length ((rowsO d root).length+1)]) [(Bd,⟨qO (rowsO d root),true⟩)] hK (by simp) id func43 rfl (rs:=[.cell 4 87]) rfl ntmps43 (by simp) call43 (by kernel_rfl) (fun _ hb ha=> ?_)
 clear hK
 obtain⟨h1,h2⟩:=hpre
 by_cases q:(vW d root).1=0
 ·have e:rowsO d root=(vW d root).2.2.rows:=by unfold rowsO;rw[if_neg (by simpa using q)]
  rw[e,q]
  exact R (cj h1 (cj h2 q)) trivial
 ·have e:rowsO d root=[]:=by unfold rowsO;rw[if_pos q]
  rw[e]
  simp (maxSteps:=2000000) (disch:=first|exact dq|fail) only[go_sem,push_cast,qB,qA,qK hb,qE hb,h1,h2,q,jA,xZ]
def U114:qH:=fun args H Bd K=>∃(n:Nat) (s_symbols:List GSymbol),args=[.pointer (some ⟨n,0,none⟩), .agg #[lst s_symbols]]/\Yld (H n) fun b=>Yld (yF rdB b) fun x=>((sm (GSignature.mk s_symbols)/\yS (GSignature.mk s_symbols)=0/\x.1.length<=1000000))/\K (.slice (some ⟨Bd,0,some 1⟩) ((trT (GSignature.mk s_symbols) (x.1,x.2)).1).length (((trT (GSignature.mk s_symbols) (x.1,x.2)).1).length+1)) (upd (upd (upd H n none) n (some ⟨[lst (trT (GSignature.mk s_symbols) (x.1,x.2)).2.1, .bool (trT (GSignature.mk s_symbols) (x.1,x.2)).2.2],true⟩)) Bd (some ⟨qO ((trT (GSignature.mk s_symbols) (x.1,x.2)).1),true⟩)) (Bd+1)
@[go_sem ↓] theorem U114_eq (a:Nat) (c:List GSymbol):U114 [.pointer (some ⟨a,0,none⟩), .agg #[lst c]] H Bd K=(Yld (H a) fun b=>Yld (yF rdB b) fun x=>((sm (GSignature.mk c)/\yS (GSignature.mk c)=0/\x.1.length<=1000000))/\K (.slice (some ⟨Bd,0,some 1⟩) ((trT (GSignature.mk c) (x.1,x.2)).1).length (((trT (GSignature.mk c) (x.1,x.2)).1).length+1)) (upd (upd (upd H a none) a (some ⟨[lst (trT (GSignature.mk c) (x.1,x.2)).2.1, .bool (trT (GSignature.mk c) (x.1,x.2)).2.2],true⟩)) Bd (some ⟨qO ((trT (GSignature.mk c) (x.1,x.2)).1),true⟩)) (Bd+1)):=by
 refine propext ⟨fun h=> ?_,fun h=>⟨_,_,rfl,h⟩⟩
 obtain⟨n',s_symbols',e,h⟩:=h
 simp only[xG,Value.agg.injEq,jB,xK,Value.bool.injEq,Value.string.injEq,Value.pointer.injEq,xE,Addr.mk.injEq,lst_inj,true_and,and_true]at e
 obtain⟨rfl,rfl⟩:=e
 exact h
theorem U114_ok:OK 114 U114:=by
 rintro args H Bd K ⟨n,s_symbols,rfl,b,hb0,x,hx,hpre,hK⟩
 obtain⟨rest,fd⟩:=x
 obtain rfl:=vM hx
 simp only[rdB,flB]at hb0 hK hpre
 obtain⟨s,rfl⟩:∃s:GSignature,s_symbols=s.symbols:=⟨(GSignature.mk s_symbols),rfl⟩
 simp only[eta_GSignature]at hpre hK
 have hnB:HB H Bd->n<Bd:=fun h=>hb_in h hb0
 obtain⟨G,rfl,gn,gE,gH⟩:=out1 hb0
 rw[gE]at hK
 refine fn_can pok ((((Env.base _).add 98 _ W98_ok).add 165 _ W165_ok).add 166 _ W166_ok) [(3,[],[],(.k 3 (.grp true 12 17 5 [13,14,15,16,17] 18 none (.k 5 .nil) .nil))),(8,[],[],(.k 3 (.grp false 29 33 4 [30,31,32,33] 34 none (.k 4 .nil) (.k 1 (.grp false 35 38 3 [36,37,38] 39 none (.k 3 .nil) .nil)))))] G [.s 4] (.slice (some ⟨Bd,0,some 1⟩) ((trT s (rest,fd)).1).length (((trT s (rest,fd)).1).length+1)) [(Bd,⟨qO ((trT s (rest,fd)).1),true⟩),(n,⟨[lst (trT s (rest,fd)).2.1, .bool (trT s (rest,fd)).2.2],true⟩)] hK (by simp) (gH Bd) func114 rfl (rs:=[.tmp 4]) rfl ntmps114 (by simp) call114 (by kernel_rfl) (fun hh hb ha=> ?_)
 have hn:=hnB hh
 skip
 clear hK gE gH hnB hb0 hx
 refine jD pok fun cv=> ?_
 obtain⟨h1,h2,h3⟩:=hpre
 have hs:=yO h2
 refine S0 ?_
 refine kD (X:=List Int×Nat×List UInt8×Bool) hb (by omega) 1 [.s 5] rfl (fun x=>x.1.length<=24/\x.2.1<=x.1.length+1/\x.2.2.1.length<=1000000/\trT s (rest,fd)=trI s (25-x.1.length) x.2.2 x.1 x.2.1) (fun x=>25-x.1.length) (fun Nx x=>[(0, .pointer (some ⟨n,0,none⟩)),(3, .pointer (some ⟨Bd,0,none⟩)),(5, .slice (some ⟨Nx,0,some 1⟩) x.1.length (x.1.length+1)),(6, .int .i64 x.2.1)]) (fun Nx x=>[(n,⟨[lst x.2.2.1, .bool x.2.2.2],true⟩),(Bd,⟨[lst s.symbols],true⟩),(Nx,⟨qO x.1,true⟩)]) ([],1,rest,fd) (⟨xT _,xC _,h3,rfl⟩) (fun Nx hNx=>(cant)) ?_
 intro Nx x hNx hIx hbx Fx hFx
 simp only[mem_cons,jI]at hbx ⊢
 refine cv (by kernel_rfl) ?_
 obtain⟨out,m,rest2,f2⟩:=x
 obtain⟨i1,i2,i4,i5⟩:=hIx
 simp only at i1 i2 i4 i5
 obtain⟨f,hf⟩:∃f,25-out.length=f+1:=⟨24-out.length,by omega⟩
 rw[hf,trI]at i5
 by_cases hm:m=0
 ·rw[if_pos (.inl hm)]at i5
  rw[i5]
  refine S hm ?_
  refine cv (by kernel_rfl) ?_
  refine S0 ?_
  trivial
 cases f2 with
 |true=>
  rw[if_pos (.inr rfl)]at i5
  rw[i5]
  refine S hm ?_
  refine cv (by kernel_rfl) ?_
  refine S0 ?_
  trivial
 |false=>
  rw[if_neg (by simpa using hm)]at i5
  have ho:=vE (rest2,false)
  have hl1:(tkS (rest2,false) 1).1.length<=1000000:=wE (vB _ _) i4
  by_cases q1:jS (rest2,false)=0
  ·rw[if_pos (.inl q1)]at i5
   rw[i5]
   refine S (cj hm q1) ?_
   refine cv (by kernel_rfl) ?_
   refine S0 ?_
   trivial
  by_cases q2:32<=jS (rest2,false)
  case' pos=>have hz:nodeZ (jS (rest2,false))=31-jS (rest2,false):=if_pos q2
  case' neg=>have hz:nodeZ (jS (rest2,false))=jS (rest2,false)-1:=if_neg q2
  all_goals
   rw[hz]at i5
   rw[<-hz]at i5
   have hR:R64 (nodeZ (jS (rest2,false))):=by rw[hz];exact⟨by omega,by omega⟩
   by_cases q3:kB s (nodeZ (jS (rest2,false)))=true
   case neg=>
    have q3:kB s (nodeZ (jS (rest2,false)))=false:=by simpa using q3
    rw[if_pos (.inr (.inl q3))]at i5
    rw[i5]
    refine S (cj hm (cj q1 (cj q2 (cj hz.symm (cj h1 (cj hR q3)))))) ?_
    refine cv (by kernel_rfl) ?_
    refine S0 ?_
    trivial
   by_cases q4:out.length=24
   ·rw[if_pos (.inr (.inr q4))]at i5
    rw[i5]
    refine S (cj hm (cj q1 (cj q2 (cj hz.symm (cj h1 (cj hR q3)))))) ?_
    refine cv (by kernel_rfl) ?_
    refine S0 ?_
    trivial
   rw[if_neg (by rintro(h|h|h);exact q1 h;(rw[q3]at h;cases h);exact q4 h)]at i5
   have hlt:=isNode_lt q3
   have har:=arN_le hs (nodeZ (jS (rest2,false)))
   refine SA (cj hm (cj q1 (cj q2 (cj hz.symm (cj h1 (cj h2 (cj hR (cj q3 (cj q4 hlt.1))))))))) ?_
   refine hFx (out++[nodeZ (jS (rest2,false))],m-1+arN s (nodeZ (jS (rest2,false))),tkS (rest2,false) 1) _ _ _ ?_ ?_ (by simp only[go_sem,push_cast,qB,qA]) ((cant))
   ·show 25-(out++[nodeZ (jS (rest2,false))]).length<25-out.length
    rw[xD,List.length_singleton];omega
   ·refine⟨by rw[xD,List.length_singleton];omega,by show m-1+arN s _<=(out++[_]).length+1;rw[xD,List.length_singleton];omega,hl1,?_⟩
    rw[xD,List.length_singleton,show 25-(out.length+1)=f by omega]
    exact i5
def W212:qH:=fun args H Bd K=>∃(n:Int),args=[.int .i64 n]/\(K (.bool (decide (n<0))) H Bd)
theorem W212_ok:OK 212 W212:=by
 rintro args H Bd K ⟨n,rfl,hK⟩
 refine fnp pok (Env.base _) [] hK func212 ntmps212 call212 [.tmp 2] fun hb ha=> ?_
 exact R0 trivial
def V209_212:qH:=fun args H Bd K=>∃(xs:List Int),args=[lst xs]/\((sm xs)/\K (.bool (xs.any (fun n:Int=>decide (n<0)))) H Bd)
@[go_sem ↓] theorem V209_212_eq (a:List Int):V209_212 [lst a] H Bd K=((sm a)/\K (.bool (a.any (fun n:Int=>decide (n<0)))) H Bd):=ex1 a rfl
def W209_212:qH:=fun args H Bd K=>∃(vxs:Value),args=[vxs, .func (.func 212) #[] #[]]/\qP V209_212 [vxs] H Bd K
@[go_sem ↓] theorem W209_212_eq (a:Value):W209_212 [a, .func (.func 212) #[] #[]] H Bd K=(qP V209_212 (idS [a]) H Bd K):=by
 refine propext ⟨fun h=> ?_,fun h=>⟨_,rfl,h⟩⟩
 obtain⟨vxs',e,h⟩:=h
 simp only[xG,Value.func.injEq,jB,xG,and_true,true_and]at e
 obtain rfl:=e
 exact h
theorem W209_212_ok:OK 209 W209_212:=by
 rintro args H Bd K ⟨vxs,rfl,h⟩
 obtain⟨xs,e,hpre,hK⟩:=h
 simp only[xG,and_true]at e
 obtain rfl:=e
 refine G209 212 #[] (fun n:Int=>decide (n<0)) xs H Bd K hpre (fun x hx B hB K' hk=> ?_) hK
 exact W212_ok _ _ _ _ ⟨x,rfl,hk⟩
def W168:qH:=fun args H Bd K=>∃(t:List Int),args=[lst t]/\((sm t)/\K (.bool (t.any fun n=>decide (n<0))) H Bd)
@[go_sem ↓] theorem W168_eq (a:List Int):W168 [lst a] H Bd K=((sm a)/\K (.bool (a.any fun n=>decide (n<0))) H Bd):=ex1 a rfl
theorem W168_ok:OK 168 W168:=by
 rintro args H Bd K ⟨t,rfl,hpre,hK⟩
 refine fnp pok ((Env.base _).add 209 _ W209_212_ok) [] hK func168 ntmps168 call168 [.tmp 2] fun hb ha=> ?_
 exact R hpre trivial
def W115:qH:=fun args H Bd K=>∃(s:GSignature) (a:List Int) (b:List Int),args=[.agg (enc s).toArray,lst a,lst b]/\((sm s/\sm a/\rg a/\sm b/\rg b/\yS s=0)/\K (.int .i64 (keyG s a b)) H Bd)
@[go_sem ↓] theorem W115_eq (a:List GSymbol) (b c:List Int):W115 [.agg #[lst a],lst b,lst c] H Bd K=((sm (GSignature.mk a)/\sm b/\rg b/\sm c/\rg c/\yS (GSignature.mk a)=0)/\K (.int .i64 (keyG (GSignature.mk a) b c)) H Bd):=ex3 (GSignature.mk a) b c rfl
theorem W115_ok:OK 115 W115:=by
 rintro args H Bd K ⟨s,a,b,rfl,hpre,hK⟩
 refine fnp pok ((((Env.base _).add 167 _ W167_ok).add 92 _ W92_ok).add 168 _ W168_ok) [(1,[0,1,3,4,2,5,6,7,8],[z0 0,z0 1,z0 3,z0 4,⟨2,[],[3]⟩,z0 5,z0 6,⟨7,[6],[]⟩,z0 8], .nil),(4,[],[],(.k 3 (.grp false 21 23 2 [22,23] 24 none (.k 2 .nil) .nil))),(6,[],[],(.k 4 (.grp false 28 31 3 [29,30,31] 32 none (.k 3 .nil) .nil)))] hK func115 ntmps115 call115 [.tmp 6] fun hb ha=> ?_
 obtain⟨h1,h2,h3,h4,h5,h6⟩:=hpre
 refine R (cj h1 (cj h2 (cj h3 (cj h4 h5)))) ?_
 refine⟨(jY _).2 (by simp),?_⟩
 rw[firstF2,termF_G h6,termF_G h6]
 unfold keyG shortG
 all_goals first|done|trivial|((try simp only[Cnp,Imp]);grind)
theorem L115_pure:PureV W115:=by
 rintro args H Bd K ⟨x0,x1,x2,rfl,hpre,hK⟩
 exact⟨_,by first|exact .bool _|exact .int _ _|exact .string _|exact vc_enc _,hK,fun H' K' hs h=>⟨x0,x1,x2,rfl,hpre,h⟩⟩
def L115:qH:=LendA W115
@[go_sem ↓] theorem L115_eq (a b c:Value):L115 [a,b,c] H Bd K=qP W115 (idS [giveA H a,giveA H b,giveA H c]) H Bd K:=(rfl)
theorem L115_ok:OK 115 L115:=LendA_ok W115_ok L115_pure
@[go_sem ↓] def BU72 (s:GSignature) (key:List UInt8):Tq:=fun H Bd K=>((sm s/\yS s=0/\key.length<=1000000)/\K (.agg #[.int .i64 ((kcR s key).code), .slice (some ⟨Bd,0,some 1⟩) ((kcR s key).normal).length (((kcR s key).normal).length+1), .slice (some ⟨Bd+1,0,some 1⟩) ((kcR s key).term).length (((kcR s key).term).length+1)]) (upd (upd H Bd (some ⟨qO ((kcR s key).normal),true⟩)) (Bd+1) (some ⟨qO ((kcR s key).term),true⟩)) (Bd+2))
def U72:qH:=fun args H Bd K=>∃(s:GSignature) (key:List UInt8),args=[.agg (enc s).toArray,lst key]/\BU72 s key H Bd K
@[go_sem ↓] theorem U72_eq (a:List GSymbol) (b:List UInt8):U72 [.agg #[lst a],lst b] H Bd K=BU72 (GSignature.mk a) b H Bd K:=ex2 (GSignature.mk a) b rfl
theorem U72_ok:OK 72 U72:=by
 rintro args H Bd K ⟨s,key,rfl,hpre,hK⟩
 refine fn_own pok (((((Env.base _).add 97 _ W97_ok).add 114 _ U114_ok).add 101 _ W101_ok).add 115 _ L115_ok) [(7,[],[],(.k 4 (.grp false 27 32 5 [28,29,30,31,32] 33 none (.k 5 .nil) .nil)))] (.agg #[.int .i64 ((kcR s key).code), .slice (some ⟨Bd,0,some 1⟩) ((kcR s key).normal).length (((kcR s key).normal).length+1), .slice (some ⟨Bd+1,0,some 1⟩) ((kcR s key).term).length (((kcR s key).term).length+1)]) [qO ((kcR s key).normal),qO ((kcR s key).term)] hK func72 rfl (rs:=[.cell 4 142]) rfl ntmps72 (by simp) call72 (by kernel_rfl) (fun cells hc v hv=>by simp only[List.mem_cons,List.not_mem_nil,or_false]at hc;rcases hc with rfl|rfl <;>exact flat_nb _ _ _ hv) (fun hb ha=> ?_)
 obtain⟨h1,h2,h3⟩:=hpre
 have hs:=yO h2
 have fe:qO ([]:List Int)=[]:=rfl
 have l1:=trT_le s (key,false)
 have l2:=trT_le s (trT s (key,false)).2
 have he:=kc_eq hs key
 have b1:(trT s (key,false)).2.1.length<=1000000:=wE l1.1 h3
 have b2:(trT s (trT s (key,false)).2).2.1.length<=1000000:=wE l2.1 b1
 have s1:sm (trT s (key,false)).1:=(jY _).2 (by have:=l1.2.1;omega)
 have s2:sm (trT s (trT s (key,false)).2).1:=(jY _).2 (by have:=l2.2.1;omega)
 have r1:=smallZ_rg l1.2.2
 have r2:=smallZ_rg l2.2.2
 have ne:(([]:List Int).length:Int)=0:=rfl
 by_cases q1:endV (trT s (trT s (key,false)).2).2=true
 ·by_cases q2:keyG s (trT s (key,false)).1 (trT s (trT s (key,false)).2).1=0
  ·have e:kcR s key=⟨0,(trT s (key,false)).1,(trT s (trT s (key,false)).2).1⟩:=by unfold kcR;rw[he,if_pos ⟨q1,q2⟩];rfl
   rw[e]
   exact R (cj h1 (cj h2 (cj h3 (cj fe (cj b1 (cj b2 (cj s1 (cj s2 (cj r1 (cj r2 (cj q1 q2))))))))))) trivial
  ·have e:kcR s key=⟨5,[],[]⟩:=by unfold kcR;rw[he,if_neg fun h=>q2 h.2]
   rw[e]
   exact R (cj h1 (cj h2 (cj h3 (cj fe (cj b1 (cj b2 (cj s1 (cj s2 (cj r1 (cj r2 (cj q1 q2))))))))))) trivial
 ·have q1':endV (trT s (trT s (key,false)).2).2=false:=by simpa using q1
  have e:kcR s key=⟨5,[],[]⟩:=by unfold kcR;rw[he,if_neg fun h=>q1 h.1]
  rw[e]
  exact R (cj h1 (cj h2 (cj h3 (cj fe (cj b1 (cj b2 (cj s1 (cj s2 (cj r1 (cj r2 q1')))))))))) trivial
@[go_sem ↓] def BU42 (s:GSignature) (l:List GRow):Tq:=fun H Bd K=>((sm s/\yS s=0/\KeyOK l/\l.length<=31104)/\K (.agg #[.int .i64 ((rcX s l).code), .slice (some ⟨Bd,0,some 2⟩) ((rcX s l).records).length (((rcX s l).records).length+1)]) (oput H Bd (OEnc.oc ((rcX s l)))) (Bd+OV.numL (OEnc.oc ((rcX s l)))))
def U42:qH:=fun args H Bd K=>∃(s:GSignature) (l:List GRow),args=[.agg (enc s).toArray,lst l]/\BU42 s l H Bd K
@[go_sem ↓] theorem U42_eq (a:List GSymbol) (b:List GRow):U42 [.agg #[lst a],lst b] H Bd K=BU42 (GSignature.mk a) b H Bd K:=ex2 (GSignature.mk a) b rfl
theorem U42_ok:OK 42 U42:=by
 rintro args H Bd K ⟨s,l,rfl,hpre,hK⟩
 refine fn_ownN pok ((Env.base _).add 72 _ U72_ok) [] (.agg (OEnc.oc ((rcX s l)))) (OEnc.ok _) hK func42 rfl (rs:=[.cell 4 42]) rfl ntmps42 (by simp) call42 (by kernel_rfl) (fun hb ha=> ?_)
 clear hK
 refine jD pok fun cv=> ?_
 obtain⟨h1,h2,h3,h4⟩:=hpre
 have hb0:=hb
 refine R0 ?_
 refine tr_ownB (X:=Nat×List GRecord×AH×List Value×List (Option Nat)) 1 [.s 5] rfl (fun x=>x.2.2.1) (fun x=>x.1<=l.length/\recsA s l x.1=some x.2.1/\OV.AtL x.2.2.1 (Bd+2) (ocL x.2.1) x.2.2.2.1 x.2.2.2.2/\OV.nd x.2.2.2.2/\Le H x.2.2.1/\x.2.2.1 Bd=some ⟨[lst s.symbols],true⟩/\x.2.2.1 (Bd+1)=some ⟨[.int .i64 0, .slice none 0 0],true⟩) (fun x=>l.length-x.1) (fun Nx x=>[(1,lst l),(2, .pointer (some ⟨Bd,0,none⟩)),(4, .pointer (some ⟨Bd+1,0,none⟩)),(5, .slice (some ⟨Nx,0,some 2⟩) x.2.1.length (x.2.1.length+1)),(10,lst l),(11, .int .i64 (l.length:Int)),(12, .int .i64 (x.1:Nat))]) (fun Nx x=>[(Nx,⟨x.2.2.2.1,true⟩)]) (0,[],upd (upd H Bd (some ⟨[lst s.symbols],true⟩)) (Bd+1) (some ⟨[.int .i64 0, .slice none 0 0],true⟩),[],[]) (⟨xT _,rfl,⟨rfl,rfl⟩,OV.nd_nil,by simp (disch:=omega) only[go_sem,push_cast,qB,qA,qK hb0,qT],by simp only[go_sem,push_cast,qB,qA],by simp only[go_sem,push_cast,qB,qA]⟩) (fun Nx hNx=>(cant)) ?_
 intro Nx x hNx hIx hGx hbx Fx hFx
 simp only[mem_cons,jI]at hbx hGx ⊢
 refine cv (by kernel_rfl) ?_
 obtain⟨i,out,G,us,σ⟩:=x
 obtain⟨i1,i2,i3,i4,i5,i6,i7⟩:=hIx
 simp only at i1 i2 i3 i4 i5 i6 i7 hGx hbx
 have hb:=hGx
 have hus:=OV.AtL.nb hGx i3 (ocL_ok _)
 have hul:us.length=out.length*2:=by rw[OV.AtL.size i3,ocL_len];rfl
 by_cases hlt:i<l.length
 ·have e1:l[i]? =some (l[i]'hlt):=xA hlt
  have hst:=recsA_succ e1 i2
  have hkl:=h3 _ (xH hlt)
  have hk2:(l[i]'hlt).key.length<=1000000:=by omega
  have hol:out.length<=31104:=by
   have:=(recsG_len i2).1
   rw[xQ]at this;omega
  generalize hE:(l[i]'hlt)=E at*
  obtain⟨key,value⟩:=E
  simp only at hk2 hst
  cases hc:kcS s key with
  |none=>
   have ek:kcR s key=⟨5,[],[]⟩:=by unfold kcR;rw[hc]
   rw[hc]at hst
   have e:rcX s l=⟨5,[]⟩:=by unfold rcX;rw[recs_bad hst]
   rw[e]
   refine R (cj e1 (cj hE (cj hlt (cj h1 (cj h2 (cj hk2 (cj ek (cj i6 i7)))))))) ?_
   exact own_res0 (by simp (disch:=omega) only[go_sem,push_cast,qB,qA,qK hb0,i5])
  |some p=>
   obtain⟨a,b⟩:=p
   have ek:kcR s key=⟨0,a,b⟩:=by unfold kcR;rw[hc]
   rw[hc]at hst
   have tk:List.take (out.length*2) us=us:=by rw[<-hul,List.take_length]
   refine RA (cj e1 (cj hE (cj hlt (cj h1 (cj h2 (cj hk2 (cj ek (cj i6 (cj i7 (cj hul tk)))))))))) ?_
   have hle:=fun c5 c6 u=> @rec_le G Nx (some ⟨[lst key, .int .i64 value],true⟩) (some ⟨qO a,true⟩) (some ⟨qO b,true⟩) (some ⟨[.int .i64 0, .slice (some ⟨Nx+2,0,some 1⟩) a.length (a.length+1), .slice (some ⟨Nx+3,0,some 1⟩) b.length (b.length+1)],true⟩) c5 c6 u hGx
   have hfr:= @rec_free G Nx (some ⟨[lst key, .int .i64 value],true⟩) (some ⟨qO a,true⟩) (some ⟨qO b,true⟩) (some ⟨[.int .i64 0, .slice (some ⟨Nx+2,0,some 1⟩) a.length (a.length+1), .slice (some ⟨Nx+3,0,some 1⟩) b.length (b.length+1)],true⟩) hGx
   generalize hB:upd (upd (upd (upd G (Nx+1) (some ⟨[lst key, .int .i64 value],true⟩)) (Nx+2) (some ⟨qO a,true⟩)) (Nx+3) (some ⟨qO b,true⟩)) (Nx+2+2) (some ⟨[.int .i64 0, .slice (some ⟨Nx+2,0,some 1⟩) a.length (a.length+1), .slice (some ⟨Nx+3,0,some 1⟩) b.length (b.length+1)],true⟩)=B
   have fr:∀q,Nx<=q->G q=none:=fun q hq=>hGx.fresh q hq
   have hGB:Le G B:=by
    subst hB
    exact Le_new (Le_new (Le_new (Le_new (Le.refl G) (fr _ (by omega))) (fr _ (by omega))) (fr _ (by omega))) (fr _ (by omega))
   have hH:OV.Has B (Nx+3) (OEnc.oc (⟨b,value⟩:GRecord)):=by
    subst hB
    simp (disch:=omega) only[go_sem,push_cast,qB,qA]
   simp only[hB]at hle hfr
   have yq:=rql_nb (nb_app (nb_up hus (by omega:Nx<=Nx+3+OV.numL (OEnc.oc (⟨b,value⟩:GRecord)))) (valL_nb (Nx+3) (OEnc.ok (⟨b,value⟩:GRecord))))
   simp only[go_sem]at yq
   obtain⟨n1,n2⟩:=app_next i3 i4 hGB hH (by omega) (fun q hq _=>fr q (by omega))
   refine hFx (i+1,out++[⟨b,value⟩],B,us++OV.valL (Nx+3) (OEnc.oc (⟨b,value⟩:GRecord)),σ++OV.canon (Nx+3) (OV.numL (OEnc.oc (⟨b,value⟩:GRecord)))) _ _ _ ?_ ?_ (by simp only[go_sem,push_cast,qB,qA]) (fun Mx hMx=>(canf (cj yq (cj hle (cj hfr tk)))))
   ·show l.length-(i+1)<l.length-i
    omega
   ·refine⟨hlt,hst,n1,n2,i5.trans hGB,hGB _ _ i6,hGB _ _ i7⟩
 ·obtain rfl:i=l.length:=by omega
  unfold recsA at i2
  rw[List.take_length]at i2
  have e:rcX s l=⟨0,out⟩:=by unfold rcX;rw[i2]
  rw[e]
  refine R (cj hlt (cj i6 i7)) ?_
  refine cv (by kernel_rfl) ?_
  refine R (cj i6 i7) ?_
  refine own_res (G:=G) i3 i4 (by omega) ?_ (by omega:Bd+2<=Nx) (hGx.fresh Nx (xC _)) ?_ ?_
  ·simp (disch:=omega) only[go_sem,push_cast,qB,qA]
  ·intro m h1 h2
   rw[qD _ _ (by omega),qD _ _ h2]
  ·simp (disch:=omega) only[go_sem,push_cast,qB,qA,qK hb0,i5]
theorem M42_pure:PureO U42:=by
 rintro args H Bd K ⟨x0,x1,rfl,hpre,hK⟩
 refine⟨_,_,?_,blL_vc _ Bd (OEnc.ok _),by rw[OV.blL_len];exact hK,fun H' K' hs h=>⟨x0,x1,rfl,hpre,by rw[OV.blL_len]at h;exact h⟩⟩
 first|exact .sl|(refine vc_agg fun v hv=> ?_;simp only[List.mem_cons,List.not_mem_nil,or_false]at hv;(repeat' (rcases hv with rfl|hv)) <;>(try subst hv) <;>constructor)
def M42:qH:=LendO U42
@[go_sem ↓] theorem M42_eq (a b:Value):M42 [a,b] H Bd K=qP U42 (idS [giveA H a,giveA H b]) H Bd K:=(rfl)
theorem M42_ok:OK 42 M42:=LendO_ok U42_ok M42_pure
@[go_sem ↓] def BU16 (d:GDisk):Tq:=fun H Bd K=>((sm d)/\K (.agg #[.int .i64 ((rcsR d).code), .slice (some ⟨Bd,0,some 2⟩) ((rcsR d).records).length (((rcsR d).records).length+1)]) (oput H Bd (OEnc.oc ((rcsR d)))) (Bd+OV.numL (OEnc.oc ((rcsR d)))))
def U16:qH:=fun args H Bd K=>∃(d:GDisk),args=[.agg (enc d).toArray]/\BU16 d H Bd K
@[go_sem ↓] theorem U16_eq (a:List (List UInt8)) (b:List GPut):U16 [.agg #[lst a,lst b]] H Bd K=BU16 (GDisk.mk a b) H Bd K:=ex1 (GDisk.mk a b) rfl
theorem U16_ok:OK 16 U16:=by
 rintro args H Bd K ⟨d,rfl,hpre,hK⟩
 refine fn_ownN pok ((((Env.base _).add 29 _ W29_ok).add 43 _ W43_ok).add 42 _ M42_ok) [(4,[0,1,2,3,4,5,6,7,8,9,10],[z0 0,z0 1,z0 2,z0 3,z0 4,z0 5,z0 6,⟨7,[],[2]⟩,z0 8,z0 9,z0 10], .nil)] (.agg (OEnc.oc ((rcsR d)))) (OEnc.ok _) hK func16 rfl (rs:=[.cell 2 42]) rfl ntmps16 (by simp) call16 (by kernel_rfl) (fun hb ha=> ?_)
 clear hK
 have hb0:=hb
 by_cases q:(baseR d).code=0
 case neg=>
  have e:rcsR d=⟨(baseR d).code,[]⟩:=by unfold rcsR;rw[if_pos q]
  rw[e]
  refine R (cj hpre q) ?_
  exact own_res0 (by simp (disch:=omega) only[go_sem,push_cast,qB,qA,qK hb0,qT])
 have hc:=openS_code d
 obtain⟨hd,hs,hS⟩:=openS_ok (hc.trans q)
 rw[hs]at hS
 have e:=rcsR_X q
 have hrt:=hS.root
 have hsg:=hS.sig
 have hsl:=(yO hsg).len
 rw[e]
 generalize hQ:(baseR d).super=Q at*
 have r1:R64 Q.root:=⟨by omega,by omega⟩
 have hss:sm Q.symbols:=⟨show Q.symbols.symbols.length<=281474976710656 by omega,fun x hx=>⟨show x.name.size<=281474976710656 by have:=zK ((yO hsg).nm x hx).1;omega,trivial⟩⟩
 have ro:=rowsO_ok (root:=Q.root) hd
 obtain⟨k1,k2⟩:=rowsI_ok d Q.root
 refine R (cj hpre (cj q (cj hQ (cj r1 (cj hss (cj hsg (cj ro (cj k1 k2)))))))) ?_
 generalize rcX Q.symbols (rowsI d Q.root)=X
 refine own_agg [(Bd+15,OEnc.oc X.code),(Bd+15,OEnc.oc X.records)] ?_ ?_ rfl rfl
 ·refine⟨by omega,?_,by show Bd+15+0<=Bd+15;omega,?_,trivial⟩
  all_goals (simp (disch:=first|assumption|omega) only[go_sem,push_cast,qB,qA,qF,qE hb])
 ·simp (disch:=first|assumption|omega|(simp (disch:=first|assumption|omega) only[qF,free_oput,qE hb];done)) only[go_sem,push_cast,qB,qA,qK hb,Le_oputB hb,qE hb,qT]
theorem Q16_pure:PureO U16:=by
 rintro args H Bd K ⟨x0,rfl,hpre,hK⟩
 refine⟨_,_,?_,blL_vc _ Bd (OEnc.ok _),by rw[OV.blL_len];exact hK,fun H' K' hs h=>⟨x0,rfl,hpre,by rw[OV.blL_len]at h;exact h⟩⟩
 first|exact .sl|(refine vc_agg fun v hv=> ?_;simp only[List.mem_cons,List.not_mem_nil,or_false]at hv;(repeat' (rcases hv with rfl|hv)) <;>(try subst hv) <;>constructor)
def Q16:qH:=LendN U16
@[go_sem ↓] theorem Q16_eq (a:Value):Q16 [a] H Bd K=Held (Q16 [a] H Bd K) ⟨⟩:=(rfl)
theorem Q16_ok:OK 16 Q16:=LendNO_ok U16_ok Q16_pure
def W117:qH:=fun args H Bd K=>∃(xs:List Int) (ys:List Int),args=[lst xs,lst ys]/\((sm xs)/\K (.bool (decide (xs=ys))) H Bd)
@[go_sem ↓] theorem W117_eq (a b:List Int):W117 [lst a,lst b] H Bd K=((sm a)/\K (.bool (decide (a=b))) H Bd):=ex2 a b rfl
theorem W117_ok:OK 117 W117:=by
 rintro args H Bd K ⟨xs,ys,rfl,hpre,hK⟩
 refine fnp pok (Env.base _) [(6,[0,1,2,3,4,5,6,7,8],[z0 0,z0 1,z0 2,z0 3,z0 4,z0 5,z0 6,z0 7,z0 8], .nil)] hK func117 ntmps117 call117 [.tmp 4] fun hb ha=> ?_
 refine jD pok fun cv=> ?_
 have hlen:=qR hpre
 simp (maxSteps:=2000000) (disch:=first|exact dq|fail) only[go_sem,push_cast,qB,qA,qK hb,qE hb]
 refine Cnp.of (fun hl=> ?_) (fun hl=>cmp_len (by omega))
 have hl':xs.length=ys.length:=by omega
 refine qY (fun i=>∀j,j<i->xs[j]? =ys[j]?) xs.length (fun i=>[(0,lst xs),(1,lst ys),(5, .int .i64 i)]) (fun j h=>by omega) (by simp only[go_sem,push_cast,qB,qA]) ?_
 intro i B0 hI hi hB
 refine cv (by kernel_rfl) ?_
 rcases xM i xs.length with hlt|hge
 ·have e1:xs[i]? =some xs[i]:=xA hlt
  have e2:ys[i]? =some (ys[i]'(by omega)):=xA _
  have hx:=yQ hpre (xH hlt)
  simp (maxSteps:=2000000) (disch:=first|exact dq|fail) only[go_sem,push_cast,qB,qA,qK hb,qE hb,e1,e2,hx]
  exact cmp_step hl' hI hlt (by omega) rfl fun h=>h
 ·simp (maxSteps:=2000000) (disch:=first|exact dq|fail) only[go_sem,push_cast,qB,qA,qK hb,qE hb]
  refine cv (by kernel_rfl) ?_
  simp (maxSteps:=2000000) (disch:=first|exact dq|fail) only[go_sem,push_cast,qB,qA,qK hb,qE hb]
  exact cmp_end hl' hI hge
def W74:qH:=fun args H Bd K=>∃(x:GRecord) (y:GRecord),args=[.agg (enc x).toArray, .agg (enc y).toArray]/\((sm x)/\K (.bool (decide (x=y))) H Bd)
@[go_sem ↓] theorem W74_eq (a:List Int) (b:Int) (c:List Int) (d:Int):W74 [.agg #[lst a, .int .i64 b], .agg #[lst c, .int .i64 d]] H Bd K=((sm (GRecord.mk a b))/\K (.bool (decide ((GRecord.mk a b)=(GRecord.mk c d)))) H Bd):=ex2 (GRecord.mk a b) (GRecord.mk c d) rfl
theorem W74_ok:OK 74 W74:=by
 rintro args H Bd K ⟨x,y,rfl,hpre,hK⟩
 refine fnp pok ((Env.base _).add 117 _ W117_ok) [] hK func74 ntmps74 call74 [.tmp 4] fun hb ha=> ?_
 simp only[sm_GRecord]at hpre
 simp (maxSteps:=2000000) (disch:=first|exact dq|fail) only[go_sem,push_cast,qB,qA,qK hb,qE hb,hpre]
 cases x;cases y
 simp only[Cnp,GRecord.mk.injEq]
 constructor <;>intros <;>simp_all
def W44:qH:=fun args H Bd K=>∃(xs:List GRecord) (ys:List GRecord),args=[lst xs,lst ys]/\((sm xs)/\K (.bool (decide (xs=ys))) H Bd)
@[go_sem ↓] theorem W44_eq (a b:List GRecord):W44 [lst a,lst b] H Bd K=((sm a)/\K (.bool (decide (a=b))) H Bd):=ex2 a b rfl
theorem W44_ok:OK 44 W44:=by
 rintro args H Bd K ⟨xs,ys,rfl,hpre,hK⟩
 refine fnp pok ((Env.base _).add 74 _ W74_ok) [(6,[0,1,2,3,4,5,6,7,8,9],[z0 0,z0 1,z0 2,z0 3,z0 4,z0 5,z0 6,z0 7,z0 8,z0 9], .nil)] hK func44 ntmps44 call44 [.tmp 4] fun hb ha=> ?_
 refine jD pok fun cv=> ?_
 have hlen:=qR hpre
 simp (maxSteps:=2000000) (disch:=first|exact dq|fail) only[go_sem,push_cast,qB,qA,qK hb,qE hb]
 refine Cnp.of (fun hl=> ?_) (fun hl=>cmp_len (by omega))
 have hl':xs.length=ys.length:=by omega
 refine qY (fun i=>∀j,j<i->xs[j]? =ys[j]?) xs.length (fun i=>[(0,lst xs),(1,lst ys),(5, .int .i64 i)]) (fun j h=>by omega) (by simp only[go_sem,push_cast,qB,qA]) ?_
 intro i B0 hI hi hB
 refine cv (by kernel_rfl) ?_
 rcases xM i xs.length with hlt|hge
 ·have e1:xs[i]? =some xs[i]:=xA hlt
  have e2:ys[i]? =some (ys[i]'(by omega)):=xA _
  have hx:=yQ hpre (xH hlt)
  simp (maxSteps:=2000000) (disch:=first|exact dq|fail) only[go_sem,push_cast,qB,qA,qK hb,qE hb,e1,e2,hx]
  exact cmp_step hl' hI hlt (by omega) rfl fun h=>h
 ·simp (maxSteps:=2000000) (disch:=first|exact dq|fail) only[go_sem,push_cast,qB,qA,qK hb,qE hb]
  refine cv (by kernel_rfl) ?_
  simp (maxSteps:=2000000) (disch:=first|exact dq|fail) only[go_sem,push_cast,qB,qA,qK hb,qE hb]
  exact cmp_end hl' hI hge
def W17:qH:=fun args H Bd K=>∃(x:GRecordsResult) (y:GRecordsResult),args=[.agg (enc x).toArray, .agg (enc y).toArray]/\((sm x)/\K (.bool (decide (x=y))) H Bd)
@[go_sem ↓] theorem W17_eq (a:Int) (b:List GRecord) (c:Int) (d:List GRecord):W17 [.agg #[.int .i64 a,lst b], .agg #[.int .i64 c,lst d]] H Bd K=((sm (GRecordsResult.mk a b))/\K (.bool (decide ((GRecordsResult.mk a b)=(GRecordsResult.mk c d)))) H Bd):=ex2 (GRecordsResult.mk a b) (GRecordsResult.mk c d) rfl
theorem W17_ok:OK 17 W17:=by
 rintro args H Bd K ⟨x,y,rfl,hpre,hK⟩
 refine fnp pok ((Env.base _).add 44 _ W44_ok) [] hK func17 ntmps17 call17 [.tmp 4] fun hb ha=> ?_
 simp only[sm_GRecordsResult]at hpre
 simp (maxSteps:=2000000) (disch:=first|exact dq|fail) only[go_sem,push_cast,qB,qA,qK hb,qE hb,hpre]
 cases x;cases y
 simp only[Cnp,GRecordsResult.mk.injEq]
 constructor <;>intros <;>simp_all
theorem N17_pure:PureV W17:=by
 rintro args H Bd K ⟨x0,x1,rfl,hpre,hK⟩
 exact⟨_,by first|exact .bool _|exact .int _ _|exact .string _|exact vc_enc _,hK,fun H' K' hs h=>⟨x0,x1,rfl,hpre,h⟩⟩
def N17:qH:=LendN W17
@[go_sem ↓] theorem N17_eq (a b:Value):N17 [a,b] H Bd K=Held (N17 [a,b] H Bd K) ⟨⟩:=(rfl)
theorem N17_ok:OK 17 N17:=LendN_ok W17_ok N17_pure
end Go.Proofs.YtogofkjpbpgneaaGreatDoor
