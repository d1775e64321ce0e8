/- YtogofkjpbpgneaaGreatDoorF7 -/
import Derived.Test.YtogofkjpbpgneaaGreatDoorF6
set_option linter.unusedSimpArgs false
set_option linter.unusedVariables false
set_option maxRecDepth 20000
set_option maxHeartbeats 4000000
namespace Go.Proofs.YtogofkjpbpgneaaGreatDoor
open Go Go.SC Tryz
variable {H:AH} {Bd:Nat} {K:Value->AH->Nat->Prop}
def W279:qH:=fun g' H Bd K=>∃(xs:List Int) (ys:List Int),g'=[lst xs,lst ys]/\((sm xs)/\K (.bool (decide (xs=ys))) H Bd)
@[go_sem ↓] theorem W279_eq (a b:List Int):W279 [lst a,lst b] H Bd K=((sm a)/\K (.bool (decide (a=b))) H Bd):=ex2 a b rfl
theorem W279_ok:OK 279 W279:=by
 rintro _ H Bd K ⟨xs,ys,rfl,hpre,hK⟩
 refine fnp pok uA [(6,[0,1,2,3,4,5,6,7,8],[z0 0,z0 1,z0 2,z0 3,z0 4,z0 5,z0 6,z0 7,z0 8], .nil)] hK func279 ntmps279 call279 [.tmp 4] fun hb ha=>?_
 refine jF pok fun cv=>?_
 have hlen:=qS hpre
 simp (maxSteps:=2000000) (disch:=first|exact dq|fail) only[go_sem,push_cast,qB,qA,qL hb,qE hb]
 refine Cnp.of (fun hl=>?_) (fun hl=>cmp_len (by omega))
 have hl':xs.length=ys.length:=by omega
 refine jA (fun i=>∀j,j<i->xs[j]? =ys[j]?) xs.length (fun i=>[(0,lst xs),(1,lst ys),(12,iv xs.length),(13,iv i)]) (fun j h=>by omega) (by simp only[go_sem,push_cast,qB,qA]) ?_
 intro i B0 hI hi hB
 refine cv (by kernel_rfl) ?_
 rcases xM i xs.length with hlt|hge
 ·have e1:xs[i]? =some xs[i]:=xA hlt
  have e2:ys[i]? =some (ys[i]'(by omega)):=xA _
  have hx:=yP hpre (xH hlt)
  simp (maxSteps:=2000000) (disch:=first|exact dq|fail) only[go_sem,push_cast,qB,qA,qL hb,qE hb,e1,e2,hx]
  exact cmp_step hl' hI hlt (by omega) rfl fun h=>h
 ·simp (maxSteps:=2000000) (disch:=first|exact dq|fail) only[go_sem,push_cast,qB,qA,qL hb,qE hb]
  refine cv (by kernel_rfl) ?_
  simp (maxSteps:=2000000) (disch:=first|exact dq|fail) only[go_sem,push_cast,qB,qA,qL hb,qE hb]
  exact cmp_end hl' hI hge
@[go_sem ↓] def BV276 (c:GComparer) (i:Int) (k:Int):Tq:=fun H Bd K=>((CmpOK c/\0<=i/\i<c.a.length/\0<=k/\k<c.b.length)/\K (.bool (decide (subT c.s c.a i.toNat=subT c.s c.b k.toNat))) H Bd)
def V276:qH:=fun g' H Bd K=>∃(c:GComparer) (i:Int) (k:Int),g'=[.agg (enc c).toArray,iv i,iv k]/\BV276 c i k H Bd K
@[go_sem ↓] theorem V276_eq (a:List GSymbol) (b c d:List Int) (e:Array Value) (f g:Int):V276 [.agg #[lst a,lst b,lst c,lst d, .func (.methodOf 0 "") #[] e],iv f,iv g] H Bd K=BV276 (GComparer.mk (GSignature.mk a) b c d (Memo.mk e)) f g H Bd K:=ex3 (GComparer.mk (GSignature.mk a) b c d (Memo.mk e)) f g rfl
def W276:qH:=fun g' H Bd K=>∃(pc vi vk:Value),g'=[pc,vi,vk]/\Yld (qI H 5 pc) fun cc=>qQ V276 [.agg cc.toArray,vi,vk] H Bd K
@[go_sem ↓] theorem W276_eq (a b c:Value):W276 [a,b,c] H Bd K=(Yld (qI H 5 a) fun cc=>qQ V276 (idS [.agg cc.toArray,b,c]) H Bd K):=px3 a b c
theorem W276_ok:OK 276 W276:=by
 rintro _ H Bd K ⟨pc,vi,vk,rfl,cc,ec,h⟩
 obtain⟨c,i,k,e,hpre,hK⟩:=h
 simp only[xG,and_true]at e
 obtain⟨Ec,rfl,rfl⟩:=e
 obtain rfl:=qR Ec
 refine fnp pok ((uA.uB W274_ok).uB W279_ok) [(1,[0,1,2,3,4,5,6,7,8,10,11,12,13,14,15,16,17,18,9,19,20,21],[z0 0,z0 1,z0 2,z0 3,z0 4,z0 5,z0 6,z0 7,z0 8,z0 10,z0 11,z0 12,z0 13,z0 14,z0 15,z0 16,z0 17,z0 18,⟨9,[],[17,13]⟩,z0 19,z0 20,z0 21], .nil)] hK func276 ntmps276 call276 [.tmp 6] fun hb ha=>?_
 have Pc:=qM ec (NB.vpok (ha pc (by simp)))
 simp only[enc_GComparer,qN]at Pc
 have Zc:=Pc.all 5 rfl
 have Yc:=jE (ha pc (by simp))
 obtain⟨hc,i1,i2,k1,k2⟩:=hpre
 have⟨h1,h2,h3,h4,h5,h6,h7,h8,h9⟩:=hc
 obtain⟨i,rfl⟩:=Int.eq_ofNat_of_zero_le i1
 obtain⟨k,rfl⟩:=Int.eq_ofNat_of_zero_le k1
 have hia:i<c.a.length:=by omega
 have hkb:k<c.b.length:=by omega
 have l1:=h7.len
 have l2:=h8.len
 have n1:=h7.nodes
 have n2:=h8.nodes
 have p1:=vE h7
 have p2:=vE h8
 have hpa:=p1 i hia
 have hpb:=p2 k hkb
 have q1:sm (subT c.s c.a i):=by unfold subT;exact sm_take (sm_drop h3 _) _
 exact R (cj10 Zc h1 h3 h4 h5 n1 n2 hpa hpb q1) trivial
@[go_sem ↓] def BV255 (c:GComparer) (i:Int) (k:Int):Tq:=fun H Bd K=>((CmpOK c/\0<=i/\i<c.a.length/\0<=k/\k<c.b.length)/\K (.bool (gt c.s c.order c.a c.b i.toNat k.toNat)) H Bd)
def V255:qH:=fun g' H Bd K=>∃(c:GComparer) (i:Int) (k:Int),g'=[.agg (enc c).toArray,iv i,iv k]/\BV255 c i k H Bd K
@[go_sem ↓] theorem V255_eq (a:List GSymbol) (b c d:List Int) (e:Array Value) (f g:Int):V255 [.agg #[lst a,lst b,lst c,lst d, .func (.methodOf 0 "") #[] e],iv f,iv g] H Bd K=BV255 (GComparer.mk (GSignature.mk a) b c d (Memo.mk e)) f g H Bd K:=ex3 (GComparer.mk (GSignature.mk a) b c d (Memo.mk e)) f g rfl
def W255:qH:=fun g' H Bd K=>∃(pc vi vk:Value),g'=[pc,vi,vk]/\Yld (qI H 5 pc) fun cc=>qQ V255 [.agg cc.toArray,vi,vk] H Bd K
@[go_sem ↓] theorem W255_eq (a b c:Value):W255 [a,b,c] H Bd K=(Yld (qI H 5 a) fun cc=>qQ V255 (idS [.agg cc.toArray,b,c]) H Bd K):=px3 a b c
def Q255(N:Nat):qH:=fun g' H Bd K=>∃(c:GComparer) (i:Int) (k:Int),g'=[.agg (enc c).toArray,iv i,iv k]/\(((CmpOK c/\0<=i/\i<c.a.length/\0<=k/\k<c.b.length)/\(c.a.length-i.toNat+(c.b.length-k.toNat))<N)/\K (.bool (gt c.s c.order c.a c.b i.toNat k.toNat)) H Bd)
@[go_sem ↓] theorem Q255_eq (c:Nat) (d:List GSymbol) (e f g:List Int) (h:Array Value) (i j:Int):Q255 c [.agg #[lst d,lst e,lst f,lst g, .func (.methodOf 0 "") #[] h],iv i,iv j] H Bd K=(((CmpOK (GComparer.mk (GSignature.mk d) e f g (Memo.mk h))/\0<=i/\i<(GComparer.mk (GSignature.mk d) e f g (Memo.mk h)).a.length/\0<=j/\j<(GComparer.mk (GSignature.mk d) e f g (Memo.mk h)).b.length)/\((GComparer.mk (GSignature.mk d) e f g (Memo.mk h)).a.length-i.toNat+((GComparer.mk (GSignature.mk d) e f g (Memo.mk h)).b.length-j.toNat))<c)/\K (.bool (gt (GComparer.mk (GSignature.mk d) e f g (Memo.mk h)).s (GComparer.mk (GSignature.mk d) e f g (Memo.mk h)).order (GComparer.mk (GSignature.mk d) e f g (Memo.mk h)).a (GComparer.mk (GSignature.mk d) e f g (Memo.mk h)).b i.toNat j.toNat)) H Bd):=ex3 (GComparer.mk (GSignature.mk d) e f g (Memo.mk h)) i j rfl
def R255(N:Nat):qH:=fun g' H Bd K=>∃(pc vi vk:Value),g'=[pc,vi,vk]/\Yld (qI H 5 pc) fun cc=>qQ (Q255 N) [.agg cc.toArray,vi,vk] H Bd K
@[go_sem ↓] theorem R255_eq (a:Nat) (b c d:Value):R255 a [b,c,d] H Bd K=(Yld (qI H 5 b) fun cc=>qQ (Q255 a) (idS [.agg cc.toArray,c,d]) H Bd K):=by
 refine propext ⟨fun h=>?_,fun h=>⟨_,_,_,rfl,h⟩⟩
 obtain⟨pc',vi',vk',e,h⟩:=h
 simp only[xG,and_true]at e
 obtain⟨rfl,rfl,rfl⟩:=e
 exact h
def Q263(N:Nat):qH:=fun g' H Bd K=>∃(c:GComparer) (i:Int) (k:Int),g'=[.agg (enc c).toArray,iv i,iv k]/\(((CmpOK c/\0<=i/\i<c.a.length/\0<=k/\k<c.b.length)/\(c.a.length-i.toNat+(c.b.length-k.toNat))<N)/\K (.bool (gt c.s c.order c.a c.b i.toNat k.toNat)) H Bd)
@[go_sem ↓] theorem Q263_eq (c:Nat) (d:List GSymbol) (e f g:List Int) (h:Array Value) (i j:Int):Q263 c [.agg #[lst d,lst e,lst f,lst g, .func (.methodOf 0 "") #[] h],iv i,iv j] H Bd K=(((CmpOK (GComparer.mk (GSignature.mk d) e f g (Memo.mk h))/\0<=i/\i<(GComparer.mk (GSignature.mk d) e f g (Memo.mk h)).a.length/\0<=j/\j<(GComparer.mk (GSignature.mk d) e f g (Memo.mk h)).b.length)/\((GComparer.mk (GSignature.mk d) e f g (Memo.mk h)).a.length-i.toNat+((GComparer.mk (GSignature.mk d) e f g (Memo.mk h)).b.length-j.toNat))<c)/\K (.bool (gt (GComparer.mk (GSignature.mk d) e f g (Memo.mk h)).s (GComparer.mk (GSignature.mk d) e f g (Memo.mk h)).order (GComparer.mk (GSignature.mk d) e f g (Memo.mk h)).a (GComparer.mk (GSignature.mk d) e f g (Memo.mk h)).b i.toNat j.toNat)) H Bd):=ex3 (GComparer.mk (GSignature.mk d) e f g (Memo.mk h)) i j rfl
def R263(N:Nat):qH:=fun g' H Bd K=>∃(pc vi vk:Value),g'=[pc,vi,vk]/\Yld (qI H 5 pc) fun cc=>qQ (Q263 N) [.agg cc.toArray,vi,vk] H Bd K
@[go_sem ↓] theorem R263_eq (a:Nat) (b c d:Value):R263 a [b,c,d] H Bd K=(Yld (qI H 5 b) fun cc=>qQ (Q263 a) (idS [.agg cc.toArray,c,d]) H Bd K):=by
 refine propext ⟨fun h=>?_,fun h=>⟨_,_,_,rfl,h⟩⟩
 obtain⟨pc',vi',vk',e,h⟩:=h
 simp only[xG,and_true]at e
 obtain⟨rfl,rfl,rfl⟩:=e
 exact h
theorem R263_step(N:Nat)(ih:OK 255 (R255 N)):OK 263 (R263 (N+1)):=by
 rintro _ H Bd K ⟨pc,vi,vk,rfl,cc,ec,h⟩
 obtain⟨c,i,k,e,hpre,hK⟩:=h
 simp only[xG,and_true]at e
 obtain⟨Ec,rfl,rfl⟩:=e
 obtain rfl:=qR Ec
 refine fnp pok ((((((uA.uB W274_ok).uB W104_ok).uB W275_ok).uB W276_ok).uB W154_ok).add 255 _ ih) [(1,[0,1,2,3,4,5,6,7,8,9,10,11,12,13,14,15],[z0 0,z0 1,z0 2,z0 3,z0 4,z0 5,z0 6,z0 7,z0 8,z0 9,z0 10,z0 11,z0 12,z0 13,z0 14,z0 15], .nil),(3,[0,1,2,3,4,5,6,7,8,9,10,11,13,12,14,15,16],[z0 0,z0 1,z0 2,z0 3,z0 4,z0 5,z0 6,z0 7,z0 8,z0 9,z0 10,z0 11,z0 13,z0 12,z0 14,z0 15,z0 16], .nil),(6,[0,1,2,3,4,5,6,7,8,10,11,12,13,14,15,16,17,18,9,19,20,21],[z0 0,z0 1,z0 2,z0 3,z0 4,z0 5,z0 6,z0 7,z0 8,z0 10,z0 11,z0 12,z0 13,z0 14,z0 15,z0 16,z0 17,z0 18,⟨9,[],[17,13]⟩,z0 19,z0 20,z0 21], .nil),(10,[],[],(.k 5 (.grp false 82 86 4 [83,84,85,86] 87 none (.k 4 .nil) .nil))),(13,[0,1,2,3,4,6,7,8,9,10,5,11,12,13],[z0 0,z0 1,z0 2,z0 3,z0 4,z0 6,z0 7,z0 8,z0 9,z0 10,⟨5,[],[9]⟩,z0 11,z0 12,z0 13], .nil)] hK func263 ntmps263 call263 [.tmp 6] fun hb ha=>?_
 have Pc:=qM ec (NB.vpok (ha pc (by simp)))
 simp only[enc_GComparer,qN]at Pc
 have Zc:=Pc.all 5 rfl
 have Yc:=jE (ha pc (by simp))
 refine jF pok fun cv=>?_
 obtain⟨⟨hc,i1,i2,k1,k2⟩,hrec⟩:=hpre
 have⟨h1,h2,h3,h4,h5,h6,h7,h8,h9⟩:=hc
 obtain⟨i,rfl⟩:=Int.eq_ofNat_of_zero_le i1
 obtain⟨k,rfl⟩:=Int.eq_ofNat_of_zero_le k1
 simp only[Int.toNat_natCast]at hrec
 have hia:i<c.a.length:=by omega
 have hkb:k<c.b.length:=by omega
 have l1:=h7.len
 have l2:=h8.len
 have n1:=h7.nodes
 have n2:=h8.nodes
 have p1:=vE h7
 have p2:=vE h8
 have hpa:=p1 i hia
 have hpb:=p2 k hkb
 have ea:c.a[i]? =some c.a[i]:=xA hia
 have eb:c.b[k]? =some c.b[k]:=xA hkb
 have hsub:sm (subT c.s c.a i):=by unfold subT;exact sm_take (sm_drop h3 _) _
 by_cases hy:c.b[k]<0
 ·have hv:=gt_var (order:=c.order) p1 p2 hia hkb hy
  refine R (cj10 Zc ea eb hy h1 h3 h5 n1 hpa hsub) ?_
  rw[hv]
  exact⟨fun h=>by simp[h],fun h=>by simp[h]⟩
 by_cases hx:c.a[i]<0
 ·have hv:=gt_low (order:=c.order) p1 p2 hia hkb hy hx
  exact R (cj6 Zc ea eb hy hx hv) trivial
 ·have ga:c.a.getD i 0=c.a[i]:=getD_at hia
  have gb:c.b.getD k 0=c.b[k]:=getD_at hkb
  have ha1:argsP c.s c.a i (arN c.s c.a[i])=args c.s c.a i:=by unfold args;rw[ga]
  have hb1:argsP c.s c.b k (arN c.s c.b[k])=args c.s c.b k:=by unfold args;rw[gb]
  have hrest:=gt_rest (order:=c.order) p1 p2 hia hkb hy hx
  have hs:=yT h5
  have ho:=ord_ok h6
  have hal:(args c.s c.a i).length<=2:=by rw[args_len];exact arN_le hs _
  have hbl:(args c.s c.b k).length<=2:=by rw[args_len];exact arN_le hs _
  have hna:=n1 _ (xH hia)
  have hnb:=n2 _ (xH hkb)
  have hxo:c.a[i]∈c.order:=ord_all ho (by omega) hna.2
  have hyo:c.b[k]∈c.order:=ord_all ho (by omega) hnb.2
  have hrk:=rk_inj hxo hyo
  have hol:=ho.len
  have hsl:=hs.len
  obtain⟨ri,hri,hr1,_⟩:=rk_mem hxo
  obtain⟨rj,hrj,hr2,_⟩:=rk_mem hyo
  have hf1:fidx (fun x=>decide (c.a[i]=x)) c.order=rk c.order c.a[i]:=rfl
  have hf2:fidx (fun x=>decide (c.b[k]=x)) c.order=rk c.order c.b[k]:=rfl
  refine R (cj17 Zc ea eb hy hx h1 h3 h4 h5 n1 n2 hpa hpb ga gb ha1 hb1) ?_
  refine jA (fun x=>∀m,m<x->∀p,(args c.s c.a i)[m]? =some p->gt c.s c.order c.a c.b p.toNat k=false/\subT c.s c.a p.toNat≠subT c.s c.b k) ((args c.s c.a i).length) (fun x=>[(0,pc),(1,iv i),(2,iv k),(7,iv c.a[i]),(8,iv c.b[k]),(9,lst (args c.s c.a i)),(10,lst (args c.s c.b k)),(72,lst (args c.s c.a i)),(73,iv (args c.s c.a i).length),(74,iv x)]) (by simp) (by simp only[go_sem,push_cast,qB,qA]) ?_
  intro x Bx hIx hix hBx
  refine cv (by kernel_rfl) ?_
  rcases xM x ((args c.s c.a i).length)with hltx|hgex
  ·obtain⟨p,e1,g1,g2⟩:=args_get p1 hia hltx
   refine R (cj3 Zc e1 hc) ?_
   refine⟨fun h=>?_,fun a1 a2 m hm q hq=>?_⟩
   ·rw[gt_arg p1 p2 hia hkb hy hx (p:=(p:Int)) (wC e1) (by rw[Int.toNat_natCast];exact h.symm)]
   ·by_cases e:m=x
    ·subst e;rw[e1]at hq;cases hq;rw[Int.toNat_natCast];exact⟨by simpa using a2,a1⟩
    ·exact hIx m (by omega) q hq
  ·have hr:=hrest fun p hp=>by
    obtain⟨m,hm,rfl⟩:=wO hp
    exact hIx m (by omega) _ (xA hm)
   refine R Zc ?_
   refine cv (by kernel_rfl) ?_
   refine R (cj4 Zc h2 hf1 hf2) ?_
   refine⟨fun h=>by rw[hr,if_pos (by omega)],fun hge=>?_⟩
   rw[if_neg (by omega)]at hr
   refine jA (fun y=>∀m,m<y->∀q,(args c.s c.b k)[m]? =some q->gt c.s c.order c.a c.b i q.toNat=true) ((args c.s c.b k).length) (fun y=>[(0,pc),(1,iv i),(2,iv k),(9,lst (args c.s c.a i)),(10,lst (args c.s c.b k)),(13,iv (rk c.order c.a[i]-rk c.order c.b[k])),(104,lst (args c.s c.b k)),(105,iv (args c.s c.b k).length),(106,iv y)]) (by simp) (by simp only[go_sem,push_cast,qB,qA]) ?_
   intro y By hIy hiy hBy
   refine cv (by kernel_rfl) ?_
   rcases xM y ((args c.s c.b k).length)with hlty|hgey
   ·obtain⟨q,e1,g1,g2⟩:=args_get p2 hkb hlty
    refine R (cj3 Zc e1 hc) ?_
    refine⟨fun h m hm q' hq=>?_,fun h=>?_⟩
    ·by_cases e:m=y
     ·subst e;rw[e1]at hq;cases hq;simpa using h
     ·exact hIy m (by omega) q' hq
    ·rw[hr,if_pos (List.any_eq_true.2 ⟨_,wC e1,by simpa using h⟩)]
   ·have hany:¬((args c.s c.b k).any fun q=> !gt c.s c.order c.a c.b i q.toNat)=true:=fun hcc=>by
     obtain⟨q,hq,h⟩:=List.any_eq_true.1 hcc
     obtain⟨m,hm,rfl⟩:=wO hq
     rw[hIy m (by omega) _ (xA hm)]at h
     cases h
    rw[if_neg hany]at hr
    refine R Zc ?_
    refine cv (by kernel_rfl) ?_
    refine R Zc ?_
    refine⟨fun h=>?_,fun hle=>?_⟩
    ·rw[hr,if_pos (fun e=>by have:=hrk.2 e;omega)]
    have heq:c.a[i]=c.b[k]:=hrk.1 (by omega)
    rw[if_neg (by simpa using heq)]at hr
    have hll:(args c.s c.a i).length=(args c.s c.b k).length:=by rw[args_len,args_len,ga,gb,heq]
    refine jA (fun z=>∀m,m<z->∀p q:Int,(args c.s c.a i)[m]? =some p->(args c.s c.b k)[m]? =some q->subT c.s c.a p.toNat=subT c.s c.b q.toNat) ((args c.s c.a i).length) (fun z=>[(0,pc),(10,lst (args c.s c.b k)),(118,lst (args c.s c.a i)),(119,iv (args c.s c.a i).length),(120,iv z)]) (by simp) (by simp only[go_sem,push_cast,qB,qA]) ?_
    intro z Bz hIz hiz hBz
    refine cv (by kernel_rfl) ?_
    rcases xM z ((args c.s c.a i).length)with hltz|hgez
    ·obtain⟨p,e1,g1,g2⟩:=args_get p1 hia hltz
     obtain⟨q,e2,g3,g4⟩:=args_get p2 hkb (show z<(args c.s c.b k).length by omega)
     refine R (cj4 Zc e1 e2 hc) ?_
     refine⟨fun h m hm p' q' hp hq=>?_,fun h=>?_⟩
     ·by_cases e:m=z
      ·subst e;rw[e1]at hp;rw[e2]at hq;cases hp;cases hq;simpa using h
      ·exact hIz m (by omega) p' q' hp hq
     ·rw[hr,lexG_go hIz _ _ e1 e2 (by simpa using h)];simp
    ·refine R Zc ?_
     refine cv (by kernel_rfl) ?_
     refine R Zc ?_
     rw[hr,lexG_end fun m p q hp hq=>hIz m (by have:=(xR.1 hp).1;omega) p q hp hq]
theorem R255_step(N:Nat)(ih:OK 255 (R255 N)):OK 255 (R255 (N+1)):=by
 rintro _ H Bd K ⟨pc,vi,vk,rfl,cc,ec,h⟩
 obtain⟨c,i,k,e,hpre,hK⟩:=h
 simp only[xG,and_true]at e
 obtain⟨Ec,rfl,rfl⟩:=e
 obtain rfl:=qR Ec
 refine fnp pok (uA.add 263 _ (R263_step N ih)) [] hK func255 ntmps255 call255 [.tmp 6] fun hb ha=>?_
 have Pc:=qM ec (NB.vpok (ha pc (by simp)))
 simp only[enc_GComparer,qN]at Pc
 have Zc:=Pc.all 5 rfl
 have Yc:=jE (ha pc (by simp))
 obtain⟨⟨hc,i1,i2,k1,k2⟩,hrec⟩:=hpre
 have⟨h1,h2,h3,h4,h5,h6,h7,h8,h9⟩:=hc
 obtain⟨i,rfl⟩:=Int.eq_ofNat_of_zero_le i1
 obtain⟨k,rfl⟩:=Int.eq_ofNat_of_zero_le k1
 simp only[Int.toNat_natCast]at hrec
 have hia:i<c.a.length:=by omega
 have hkb:k<c.b.length:=by omega
 have l1:=h7.len
 have l2:=h8.len
 have n1:=h7.nodes
 have n2:=h8.nodes
 have p1:=vE h7
 have p2:=vE h8
 have hpa:=p1 i hia
 have hpb:=p2 k hkb
 have hl:=fun(t:TypeId) [TyM Tryz.prog t]=>look_gt (P:=Tryz.prog) (t:=t) c.s c.order c.a c.b (show i<32 by omega) (show k<32 by omega)
 have hm:=fun(t:TypeId) [TyM Tryz.prog t]=>mset_gt (P:=Tryz.prog) (t:=t) c.s c.order c.a c.b (show i<32 by omega) (show k<32 by omega)
 rw[h9]at Pc
 have Zc:=Pc.all 5 rfl
 refine R Zc ?_
 refine tr_still pok (uA.add 263 _ (R263_step N ih)) 10 (by kernel_rfl) ?_
 refine R (cj Zc hl) ?_
 have hc2:CmpOK (GComparer.mk c.s c.order c.a c.b (Memo.mk (gtRows c.s c.order c.a c.b))):=⟨h1,h2,h3,h4,h5,h6,h7,h8,rfl⟩
 refine⟨⟨⟨hc2,k2⟩,hrec⟩,?_⟩
 refine tr_still pok (uA.add 263 _ (R263_step N ih)) 6 (by kernel_rfl) ?_
 exact R (cj Zc hm) trivial
theorem R255_zero:OK 255 (R255 0):=by
 rintro _ H Bd K ⟨pc,vi,vk,rfl,cc,ec,h⟩
 obtain⟨c,i,k,e,hpre,hK⟩:=h
 exact absurd hpre.2 (Nat.not_lt_zero _)
theorem R255_ok:∀N,OK 255 (R255 N)
 |0=>R255_zero
 |N+1=>R255_step N (R255_ok N)
theorem W255_ok:OK 255 W255:=by
 rintro _ H Bd K ⟨pc,vi,vk,rfl,cc,ec,h⟩
 obtain⟨c,i,k,e,hpre,hK⟩:=h
 exact R255_ok ((c.a.length-i.toNat+(c.b.length-k.toNat))+1) _ _ _ _ ⟨pc,vi,vk,rfl,cc,ec,c,i,k,e,⟨hpre,Nat.lt_succ_self _⟩,hK⟩
@[go_sem ↓] def BW240 (s:GSignature) (order:List Int) (a:List Int) (b:List Int):Tq:=fun H Bd K=>((sm s/\sm order/\sm a/\sm b/\kE s=0/\ordG s order=0/\TermOK s a/\TermOK s b)/\K (.bool (gt s order a b 0 0)) H Bd)
def W240:qH:=fun g' H Bd K=>∃(s:GSignature) (order:List Int) (a:List Int) (b:List Int),g'=[.agg (enc s).toArray,lst order,lst a,lst b]/\BW240 s order a b H Bd K
@[go_sem ↓] theorem W240_eq (a:List GSymbol) (b c d:List Int):W240 [.agg #[lst a],lst b,lst c,lst d] H Bd K=BW240 (GSignature.mk a) b c d H Bd K:=ex4 (GSignature.mk a) b c d rfl
theorem W240_ok:OK 240 W240:=by
 rintro _ H Bd K ⟨s,order,a,b,rfl,hpre,hK⟩
 refine fnp pok (uA.uB W255_ok) [] hK func240 ntmps240 call240 [.tmp 8] fun hb ha=>?_
 obtain⟨h1,h2,h3,h4,h5,h6,h7,h8⟩:=hpre
 have l1:=h7.len
 have l2:=h8.len
 refine R0 ?_
 refine MkMap.use (gtRows s order a b) ?_
 have hc2:CmpOK (GComparer.mk s order a b (Memo.mk (gtRows s order a b))):=⟨h1,h2,h3,h4,h5,h6,h7,h8,rfl⟩
 exact R hc2 trivial
def V239:qH:=fun g' H Bd K=>∃(e:GEquation) (s:GSignature) (order:List Int),g'=[.agg (enc e).toArray, .agg (enc s).toArray, .agg (enc order).toArray]/\((sm e/\sm s/\sm order/\kE s=0/\ordG s order=0/\TermOK s e.left/\TermOK s e.right)/\K (.bool (!gt s order e.left e.right 0 0)) H Bd)
def W239:qH:=fun g' H Bd K=>∃(ve ps porder:Value),g'=[ve,ps,porder]/\Yld (qI H 1 ps) fun cs=>Yld (qI H 1 porder) fun corder=>qQ V239 [ve, .agg cs.toArray, .agg corder.toArray] H Bd K
theorem W239_ok:OK 239 W239:=by
 rintro _ H Bd K ⟨ve,ps,porder,rfl,cs,es,corder,eorder,h⟩
 obtain⟨e,s,order,e,hpre,hK⟩:=h
 simp only[xG,and_true]at e
 obtain⟨rfl,Es,Eorder⟩:=e
 obtain rfl:=qR Es
 obtain rfl:=qR Eorder
 refine fnp pok (uA.uB W240_ok) [] hK func239 ntmps239 call239 [.tmp 4] fun hb ha=>?_
 have Ps:=qM es (NB.vpok (ha ps (by simp)))
 simp only[qN]at Ps
 have Zs:=Ps.all 1 rfl
 have Ys:=jE (ha ps (by simp))
 have Porder:=qM eorder (NB.vpok (ha porder (by simp)))
 simp only[jS,jT,jH,jK,jB]at Porder
 have Zorder:=Porder.all 1 rfl
 have Yorder:=jE (ha porder (by simp))
 obtain⟨h0,h1,h2,h5,h6,h7,h8⟩:=hpre
 simp only[zG]at h0
 have h9:=h0.1
 have h10:=h0.2
 exact R (cj10 Zs Zorder h9 h10 h1 h2 h5 h6 h7 h8) trivial
@[go_sem ↓] def BV236_239 (xs:List GEquation) (s:GSignature) (order:List Int):Tq:=fun H Bd K=>((sm xs/\∀e∈xs,sm e/\sm s/\sm order/\kE s=0/\ordG s order=0/\TermOK s e.left/\TermOK s e.right)/\K (.bool (xs.any (fun e:GEquation=> !gt s order e.left e.right 0 0))) H Bd)
def V236_239:qH:=fun g' H Bd K=>∃(xs:List GEquation) (s:GSignature) (order:List Int),g'=[lst xs, .agg (enc s).toArray, .agg (enc order).toArray]/\BV236_239 xs s order H Bd K
@[go_sem ↓] theorem V236_239_eq (a:List GEquation) (b:List GSymbol) (c:List Int):V236_239 [lst a, .agg #[lst b], .agg #[lst c]] H Bd K=BV236_239 a (GSignature.mk b) c H Bd K:=ex3 a (GSignature.mk b) c rfl
def W236_239:qH:=fun g' H Bd K=>∃(vxs ps porder:Value),g'=[vxs, .func (.func 239) #[] #[ps,porder]]/\Yld (qI H 1 ps) fun cs=>Yld (qI H 1 porder) fun corder=>qQ V236_239 [vxs, .agg cs.toArray, .agg corder.toArray] H Bd K
@[go_sem ↓] theorem W236_239_eq (a b c:Value):W236_239 [a, .func (.func 239) #[] #[b,c]] H Bd K=(Yld (qI H 1 b) fun cs=>Yld (qI H 1 c) fun corder=>qQ V236_239 (idS [a, .agg cs.toArray, .agg corder.toArray]) H Bd K):=by
 refine propext ⟨fun h=>?_,fun h=>⟨_,_,_,rfl,h⟩⟩
 obtain⟨vxs',ps',porder',e,h⟩:=h
 simp only[xG,Value.func.injEq,jD,xG,and_true,true_and]at e
 obtain⟨rfl,rfl,rfl⟩:=e
 exact h
theorem W236_239_ok:OK 236 W236_239:=by
 rintro _ H Bd K ⟨vxs,ps,porder,rfl,cs,es,corder,eorder,h⟩
 obtain⟨xs,s,order,e,hpre,hK⟩:=h
 simp only[xG,and_true]at e
 obtain⟨rfl,Es,Eorder⟩:=e
 obtain rfl:=qR Es
 obtain rfl:=qR Eorder
 refine G236 239 #[ps,porder] (fun e:GEquation=> !gt s order e.left e.right 0 0) xs H Bd K hpre.1 (fun x hx B hB K' hk=>?_) hK
 exact W239_ok _ _ _ _ ⟨_,_,_,rfl,_,es,_,eorder,x,s,order,rfl,hpre.2 x hx,hk⟩
@[go_sem ↓] def BW200 (s:GSignature) (order:List Int) (l:List GEquation):Tq:=fun H Bd K=>((sm s/\sm order/\rg order/\sm l/\rg l)/\K (.bool (decide (ordF s order=0/\eqsF s l=0)&&fallsB s order l)) H Bd)
def W200:qH:=fun g' H Bd K=>∃(s:GSignature) (order:List Int) (l:List GEquation),g'=[.agg (enc s).toArray,lst order,lst l]/\BW200 s order l H Bd K
@[go_sem ↓] theorem W200_eq (a:List GSymbol) (b:List Int) (c:List GEquation):W200 [.agg #[lst a],lst b,lst c] H Bd K=BW200 (GSignature.mk a) b c H Bd K:=ex3 (GSignature.mk a) b c rfl
theorem W200_ok:OK 200 W200:=by
 rintro _ H Bd K ⟨s,order,l,rfl,hpre,hK⟩
 refine fnp pok (((uA.uB W198_ok).uB W151_ok).uB W236_239_ok) [(1,[],[],(.k 5 (.grp false 11 15 4 [12,13,14,15] 16 none (.k 4 .nil) .nil)))] hK func200 ntmps200 call200 [.tmp 6] fun hb ha=>?_
 obtain⟨h1,h2,h3,h4,h5⟩:=hpre
 refine R (cj5 h1 h2 h3 h4 h5) ?_
 refine⟨fun h=>?_,fun a1 a2=>⟨fun e he=>?_,?_⟩⟩
 ·rcases h with h|h <;>simp[h]
 ·have o:=ordF_zero a1
  have v1:eqsF s l=eqsG s l:=by unfold eqsF;rw[if_neg (by simp[o.1])]
  rw[v1]at a2
  have h6:=zS ((eqsG_zero a2).2 e he)
  exact⟨yP h4 he,o.1,o.2,h6.1,h6.2.1⟩
 ·rw[any_not,decide_eq_true a2];rfl
@[go_sem ↓] def BW152 (s:GSignature) (x:GTheory):Tq:=fun H Bd K=>((sm s/\sm x/\rg x)/\K (iv (thF s x)) H Bd)
def W152:qH:=fun g' H Bd K=>∃(s:GSignature) (x:GTheory),g'=[.agg (enc s).toArray, .agg (enc x).toArray]/\BW152 s x H Bd K
@[go_sem ↓] theorem W152_eq (a:List GSymbol) (b:List Int) (c d:List GEquation):W152 [.agg #[lst a], .agg #[lst b,lst c,lst d]] H Bd K=BW152 (GSignature.mk a) (GTheory.mk b c d) H Bd K:=ex2 (GSignature.mk a) (GTheory.mk b c d) rfl
theorem W152_ok:OK 152 W152:=by
 rintro _ H Bd K ⟨s,x,rfl,hpre,hK⟩
 refine fnp pok (((((uA.uB W198_ok).uB W151_ok).uB W199_ok).uB W92_ok).uB W200_ok) [(1,[0,1,2,4,5,6,8,9,10,3,7,11,12,13,14],[z0 0,z0 1,z0 2,z0 4,z0 5,z0 6,z0 8,z0 9,z0 10,⟨3,[],[10,8,6,4]⟩,⟨7,[],[10,8]⟩,z0 11,z0 12,⟨13,[12],[]⟩,z0 14], .nil)] hK func152 ntmps152 call152 [.tmp 4] fun hb ha=>?_
 obtain⟨h1,h2,h3⟩:=hpre
 simp only[sm_GTheory]at h2
 have h5:rg x.order:=h3.1
 have h6:rg x.equations:=h3.2.1
 have h7:rg x.rules:=h3.2.2
 refine R (cj5 h1 h2 h5 h6 h7) ?_
 refine⟨(yU _).2 (by simp),?_⟩
 rw[firstF3]
 by_cases g0:kE s=0
 ·have v0:ordF s x.order=ordG s x.order:=by unfold ordF;rw[if_neg (by simp[g0])]
  have v1:∀l,eqsF s l=eqsG s l:=fun l=>by unfold eqsF;rw[if_neg (by simp[g0])]
  have v2:rulesF s x.rules=vS s x.rules:=by unfold rulesF;rw[if_neg (by simp[g0])]
  have v3:thF s x=thG s x:=by unfold thF;rw[if_neg (by simp[g0])]
  rw[v0,v1,v1,v2,v3]
  unfold thG
  by_cases c0:ordG s x.order=0
  ·by_cases c1:eqsG s x.equations=0
   ·by_cases c2:vS s x.rules=0
    ·have c3:=rules_eqs c2
     simp only[Cnp,Imp,c0,c1,c2,c3]
     cases q:fallsB s x.order x.rules <;>simp
    ·simp[Cnp,Imp,c0,c1,c2]
   ·simp[Cnp,Imp,c0,c1]
  ·simp[Cnp,Imp,c0]
 ·have v0:ordF s x.order=kE s:=by unfold ordF;rw[if_pos g0]
  have v3:thF s x=kE s:=by unfold thF;rw[if_pos g0]
  rw[v0,if_pos g0,v3]
  exact⟨fun h=>absurd h g0,fun _=>rfl⟩
def W241:qH:=fun g' H Bd K=>∃(t:List Int),g'=[lst t]/\((sm t/\t.length<=1000000/\smallN t)/\K (lst (kN t)) H Bd)
@[go_sem ↓] theorem W241_eq (a:List Int):W241 [lst a] H Bd K=((sm a/\a.length<=1000000/\smallN a)/\K (lst (kN a)) H Bd):=ex1 a rfl
theorem W241_ok:OK 241 W241:=by
 rintro _ H Bd K ⟨t,rfl,hpre,hK⟩
 refine fnp pok uA [] hK func241 ntmps241 call241 [.tmp 2] fun hb ha=>?_
 refine jF pok fun cv=>?_
 obtain⟨h1,h2,h3⟩:=hpre
 refine R0 ?_
 refine tr_acc (α:=UInt8) (H0:=H) (B0:=Bd) (n0:=Bd) (t.length) (fun i=>kN (t.take i)) (fun i out=>[(3,out),(7,lst t),(8,iv t.length),(9,iv i)]) (xC 1) ⟨by omega,by omega⟩ (by simp only[go_sem,push_cast,qB,qA,List.take_zero,packT_nil]) (by simp (disch:=first|assumption|omega) only[go_sem,push_cast,qB,qA,qZ,List.take_zero,packT_nil]) ?_
 intro i ni ci Bi hii hci hni hmi hBi hbi
 refine cv (by kernel_rfl) ?_
 have hzi:(ci=0)=False:=eq_false (by omega)
 rcases xM i (t.length)with hlti|hgei
 ·have e1:t[i]? =some t[i]:=xA hlti
  have hst:kN (t.take (i+1))=kN (t.take i)++[packN t[i]]:=packT_take hlti
  have hl3:(kN (t.take i)).length=i:=by simp[kN];omega
  have hr:=h3 _ (xH hlti)
  by_cases hn:t[i]<0
  ·have hp:=packN_neg hr.1 hn
   have hq:(31-t[i])%256=((packN t[i]).toNat:Int):=by omega
   simp (maxSteps:=2000000) (disch:=first|exact dq|fail) only[go_sem,push_cast,qB,qA,qL hb,qE hb,e1,hq,hn,hzi,hst,qK,qT]
   exact acc_end (by omega) (by omega) (by simp) rfl (by simp (disch:=first|assumption|omega|(simp (disch:=omega) only[qG,qE hb];done)) only[jP,qA,qU,qG,qE hb])
  ·have hp:=packN_pos (by omega) hr.2
   have hq:(t[i]+1)%256=((packN t[i]).toNat:Int):=by omega
   simp (maxSteps:=2000000) (disch:=first|exact dq|fail) only[go_sem,push_cast,qB,qA,qL hb,qE hb,e1,hq,hn,hzi,hst,qK,qT]
   exact acc_end (by omega) (by omega) (by simp) rfl (by simp (disch:=first|assumption|omega|(simp (disch:=omega) only[qG,qE hb];done)) only[jP,qA,qU,qG,qE hb])
 ·refine R0 ?_
  refine Tr.fin2 3 (by simp (disch:=first|assumption|omega) only[qG,qE hb]) (by simp only[go_sem,push_cast,qB,qA];rfl) rfl ?_
  refine cv (by kernel_rfl) ?_
  rw[xO hgei]
  exact R0 trivial
def W201:qH:=fun g' H Bd K=>∃(l:List GEquation),g'=[lst l]/\((PkE l)/\K (lst (kH l)) H Bd)
@[go_sem ↓] theorem W201_eq (a:List GEquation):W201 [lst a] H Bd K=((PkE a)/\K (lst (kH a)) H Bd):=ex1 a rfl
theorem W201_ok:OK 201 W201:=by
 rintro _ H Bd K ⟨l,rfl,hpre,hK⟩
 refine fnp pok (uA.uB W241_ok) [(5,[0,1,2,5,6,3,4,7,8,9],[z0 0,z0 1,z0 2,z0 5,z0 6,⟨3,[],[6]⟩,⟨4,[],[6]⟩,z0 7,z0 8,z0 9], .nil)] hK func201 ntmps201 call201 [.tmp 2] fun hb ha=>?_
 refine jF pok fun cv=>?_
 have hl:=hpre.1
 refine RA0 ?_
 refine yM (X:=Nat) hb (by omega) 1 [.s 3] rfl (fun x=>x<=l.length) (fun x=>l.length-x) (fun Nx x=>[(3,sv Nx 1 (accE l x).length ((accE l x).length+1)),(10,lst l),(11,iv (l.length:Int)),(12,iv x)]) (fun Nx x=>[(Nx,⟨qO (accE l x),true⟩)]) 0 (xT _) (fun Nx hNx=>(by simp (disch:=first|assumption|omega|(simp (disch:=omega) only[qG,qE hb];done)|(simp (disch:=first|omega|(simp (disch:=omega) only[qG,qE hb];done)) only[go_sem,push_cast,qB,qA,qG,qE hb];done)|fail) only[go_sem,push_cast,qB,qA,qU,qL hb,qG,qE hb,qZ,qK,qT,jS,jH,jB,jT,jK,xL,xD,xJ,xZ,Nat.zero_add,accE_zero,u8_flat,List.length_singleton]<;>exact cT)) ?_
 intro Nx x hNx hIx hbx Fx hFx
 simp only[mem_cons,jC]at hbx ⊢
 refine cv (by kernel_rfl) ?_
 by_cases hlt:x<l.length
 ·have e1:l[x]? =some (l[x]'hlt):=xA _
  have hal:=accE_len hpre x hIx
  obtain⟨h1,h2⟩:=hpre.2 _ (xH hlt)
  have hst:accE l (x+1)=accE l x++kN (l[x]'hlt).left++kN (l[x]'hlt).right:=by rw[accE_succ e1,xL];rfl
  generalize hE:(l[x]'hlt)=E at*
  obtain⟨h3,h4,h5⟩:=h1.sm
  obtain⟨h6,h7,h8⟩:=h2.sm
  have h9:=h1.1
  have h10:=h2.1
  have htk:List.take ((accE l x).length+E.left.length) (qO (accE l x)++qO (kN E.left))=qO (accE l x)++qO (kN E.left):=xO (by rw[xD,jJ,jJ,vF];show _*1+_*1<=_;omega)
  refine RL (cj11 htk e1 hE hlt h3 h4 h5 h6 h7 h8 vF) ?_
  refine hFx (x+1) _ _ _ ?_ ?_ (by simp only[go_sem,push_cast,qB,qA]) ((by simp (disch:=first|assumption|omega|(simp (disch:=omega) only[qG,qE hb];done)|(simp (disch:=first|omega|(simp (disch:=omega) only[qG,qE hb];done)) only[go_sem,push_cast,qB,qA,qG,qE hb];done)|fail) only[go_sem,push_cast,qB,qA,qU,qL hb,qG,qE hb,qZ,qK,qT,jS,jH,jB,jT,jK,xL,xD,xJ,xZ,Nat.zero_add,hst,vF]<;>exact cT))
  ·show l.length-(x+1)<l.length-x
   omega
  ·exact hlt
 ·obtain rfl:x=l.length:=by omega
  have hal:=accE_len hpre l.length (xC _)
  refine R0 ?_
  refine cv (by kernel_rfl) ?_
  refine R0 ?_
  rw[<-accE_all]
  exact qV (by simp (disch:=first|assumption|omega) only[go_sem,push_cast,qB,qA]) (hb.fresh _ (by omega)) rfl (by first|rfl|exact(yS _).symm|simp|omega)
def W153:qH:=fun g' H Bd K=>∃(t:GTheory),g'=[.agg (enc t).toArray]/\((PkTh t)/\K (lst (yV t)) H Bd)
@[go_sem ↓] theorem W153_eq (a:List Int) (b c:List GEquation):W153 [.agg #[lst a,lst b,lst c]] H Bd K=((PkTh (GTheory.mk a b c))/\K (lst (yV (GTheory.mk a b c))) H Bd):=ex1 (GTheory.mk a b c) rfl
theorem W153_ok:OK 153 W153:=by
 rintro _ H Bd K ⟨t,rfl,hpre,hK⟩
 refine fnp pok (uA.uB W201_ok) [(7,[0,1,2,5,6,3,4,7,8,9],[z0 0,z0 1,z0 2,z0 5,z0 6,⟨3,[],[6]⟩,⟨4,[],[6]⟩,z0 7,z0 8,z0 9], .nil)] hK func153 ntmps153 call153 [.tmp 2] fun hb ha=>?_
 refine jF pok fun cv=>?_
 obtain⟨hl,hE,hR⟩:=hpre
 have lE:=packE_le hE
 have lR:=packE_le hR
 refine RA0 ?_
 refine yM (X:=Nat) hb (by omega) 1 [.s 3] rfl (fun x=>x<=t.order.length) (fun x=>t.order.length-x) (fun Nx x=>[(1,pt Bd),(3,sv Nx 1 (packO (t.order.take x)).length ((packO (t.order.take x)).length+1)),(8,lst t.order),(9,iv (t.order.length:Int)),(10,iv x)]) (fun Nx x=>[(Bd,⟨[lst t.order,lst t.equations,lst t.rules],true⟩),(Nx,⟨qO (packO (t.order.take x)),true⟩)]) 0 (xT _) (fun Nx hNx=>(canf (show packO []=[]from rfl))) ?_
 intro Nx x hNx hIx hbx Fx hFx
 simp only[mem_cons,jC]at hbx ⊢
 refine cv (by kernel_rfl) ?_
 by_cases hlt:x<t.order.length
 ·have e1:t.order[x]? =some (t.order[x]'hlt):=xA _
  have hst:=packO_succ hlt
  have hxl:(packO (t.order.take x)).length=x:=by rw[packO_len,xQ];omega
  refine RA (cj e1 hlt) ?_
  refine hFx (x+1) _ _ _ ?_ ?_ (by simp only[go_sem,push_cast,qB,qA]) ((by simp (disch:=first|assumption|omega|(simp (disch:=omega) only[qG,qE hb];done)|(simp (disch:=first|omega|(simp (disch:=omega) only[qG,qE hb];done)) only[go_sem,push_cast,qB,qA,qG,qE hb];done)|fail) only[go_sem,push_cast,qB,qA,qU,qL hb,qG,qE hb,qZ,qK,qT,jS,jH,jB,jT,jK,xL,xD,xJ,xZ,Nat.zero_add,hst,kZ]<;>exact cT))
  ·show t.order.length-(x+1)<t.order.length-x
   omega
  ·exact hlt
 ·obtain rfl:x=t.order.length:=by omega
  rw[packO_take]
  have hxl:=packO_len t.order
  have htk:List.take (t.order.length+(kH t.equations).length) (qO (packO t.order)++qO (kH t.equations))=qO (packO t.order)++qO (kH t.equations):=xO (by rw[xD,jJ,jJ,hxl];show _*1+_*1<=_;omega)
  have hP:qO (packO t.order)++qO (kH t.equations)++qO (kH t.rules)=qO (yV t):=by
   unfold yV
   simp only[qK,xL]
  have hPL:t.order.length+(kH t.equations).length+(kH t.rules).length=(yV t).length:=by unfold yV;rw[xD,xD,hxl];omega
  refine R0 ?_
  refine cv (by kernel_rfl) ?_
  refine RL (cj5 hE hR hxl htk hP) ?_
  exact qV (by simp (disch:=first|assumption|omega) only[go_sem,push_cast,qB,qA,qK,qT,jS,jH,jB,jT,jK,xL,List.cons_append,List.nil_append]) (hb.fresh _ (by omega)) rfl (hPL)
@[go_sem ↓] def BW100 (s:GSignature) (t:GTheory):Tq:=fun H Bd K=>((sm s/\sm t/\rg t)/\K (.agg (enc (packR s t)).toArray) H Bd)
def W100:qH:=fun g' H Bd K=>∃(s:GSignature) (t:GTheory),g'=[.agg (enc s).toArray, .agg (enc t).toArray]/\BW100 s t H Bd K
@[go_sem ↓] theorem W100_eq (a:List GSymbol) (b:List Int) (c d:List GEquation):W100 [.agg #[lst a], .agg #[lst b,lst c,lst d]] H Bd K=BW100 (GSignature.mk a) (GTheory.mk b c d) H Bd K:=ex2 (GSignature.mk a) (GTheory.mk b c d) rfl
theorem W100_ok:OK 100 W100:=by
 rintro _ H Bd K ⟨s,t,rfl,hpre,hK⟩
 refine fnp pok ((uA.uB W152_ok).uB W153_ok) [] hK func100 ntmps100 call100 [.cell 4 181] fun hb ha=>?_
 obtain⟨h1,h2,h3⟩:=hpre
 by_cases hf:thF s t=0
 case neg=>
  have e:packR s t=⟨thF s t,[]⟩:=by unfold packR;rw[if_pos hf]
  rw[e]
  exact R (cj4 h1 h2 h3 hf) trivial
 obtain⟨hs,hg⟩:=thF_zero hf
 have hp:=th_pk (yT hs) hg
 by_cases hl:300<(yV t).length
 ·have e:packR s t=⟨2,[]⟩:=by unfold packR;rw[if_neg (by simpa using hf),if_pos hl]
  rw[e]
  exact R (cj6 h1 h2 h3 hf hp hl) trivial
 ·have e:packR s t=⟨0,yV t⟩:=by unfold packR;rw[if_neg (by simpa using hf),if_neg hl]
  rw[e]
  exact R (cj6 h1 h2 h3 hf hp hl) trivial
def W59:qH:=fun g' H Bd K=>∃(s:GSignature) (data:List UInt8),g'=[.agg (enc s).toArray,lst data]/\((sm s/\data.length<=1000000)/\K (.agg (enc (unpR s data)).toArray) H Bd)
@[go_sem ↓] theorem W59_eq (a:List GSymbol) (b:List UInt8):W59 [.agg #[lst a],lst b] H Bd K=((sm (GSignature.mk a)/\b.length<=1000000)/\K (.agg (enc (unpR (GSignature.mk a) b)).toArray) H Bd):=ex2 (GSignature.mk a) b rfl
theorem W59_ok:OK 59 W59:=by
 rintro _ H Bd K ⟨s,data,rfl,hpre,hK⟩
 refine fnp pok ((((((uA.uB W97_ok).uB W98_ok).uB W99_ok).uB W101_ok).uB W100_ok).uB W102_ok) [(8,[0,1,2,3,4,5,6,7],[z0 0,z0 1,z0 2,⟨3,[],[1]⟩,z0 4,⟨5,[4],[]⟩,z0 6,⟨7,[4],[]⟩], .nil),(13,[],[],(.k 4 (.grp false 46 49 3 [47,48,49] 50 none (.k 3 .nil) (.k 1 (.grp false 51 56 5 [52,53,54,55,56] 57 none (.k 5 .nil) .nil)))))] hK func59 ntmps59 call59 [.cell 4 114] fun hb ha=>?_
 refine jF pok fun cv=>?_
 obtain⟨h1,h3⟩:=hpre
 by_cases h2:kE s=0
 case neg=>
  have e:unpR s data=⟨kE s,noTh⟩:=by unfold unpR;rw[if_pos h2]
  rw[e];unfold noTh
  exact R (cj h1 h2) trivial
 have hs:=yT h2
 have hsl:=hs.len
 refine R (cj h1 h2) ?_
 refine yM (X:=Nat×List Int×List UInt8×Bool) hb (by omega) 1 [.m (Bd+3) 0] rfl (fun x=>x.1<=s.symbols.length/\ordQ x.1 (data,false)=(x.2.1,x.2.2)) (fun x=>s.symbols.length-x.1) (fun Nx x=>[(1,lst data),(2,pt Bd),(4,pt (Bd+1)),(6,pt (Bd+2)),(7,pt (Bd+3)),(21,iv (s.symbols.length:Int)),(22,iv x.1)]) (fun Nx x=>[(Bd,⟨[lst s.symbols],true⟩),(Bd+1,⟨[iv 0,sn,sn,sn],true⟩),(Bd+2,⟨[lst x.2.2.1, .bool x.2.2.2],true⟩),(Bd+3,⟨[sv Nx 1 x.2.1.length (x.2.1.length+1),sn,sn],true⟩),(Nx,⟨qO x.2.1,true⟩)]) (0,[],data,false) (⟨xT _,rfl⟩) (fun Nx hNx=>(cant)) ?_
 intro Nx x hNx hIx hbx Fx hFx
 simp only[mem_cons,jC]at hbx ⊢
 refine cv (by kernel_rfl) ?_
 obtain⟨i,out,rest,f⟩:=x
 obtain⟨i1,i2⟩:=hIx
 simp only at i1 i2
 obtain⟨l1,l2,l3⟩:=ordQ_le i (data,false)
 rw[i2]at l1 l2 l3
 simp only at l1 l2 l3
 have hrl:rest.length<=1000000:=wE l2 h3
 by_cases hlt:i<s.symbols.length
 ·have ho:=vV (rest,f)
  have hst:=ordQ_succ i (data,false)
  rw[i2]at hst
  refine RA (cj hlt hrl) ?_
  refine hFx (i+1,out++[yJ (rest,f)],tkS (rest,f) 1) _ _ _ ?_ ?_ (by simp only[go_sem,push_cast,qB,qA]) ((cant))
  ·show s.symbols.length-(i+1)<s.symbols.length-i
   omega
  ·exact⟨hlt,hst⟩
 ·obtain rfl:i=s.symbols.length:=by omega
  refine R0 ?_
  refine Tr.to hb (by omega) 0 [] rfl (fun Nk=>[(1,lst data),(2,pt Bd),(4,pt (Bd+1)),(6,pt (Bd+2)),(7,pt (Bd+3))]) (fun Nk=>[(Bd,⟨[lst s.symbols],true⟩),(Bd+1,⟨[iv 0,sn,sn,sn],true⟩),(Bd+2,⟨[lst rest, .bool f],true⟩),(Bd+3,⟨[lst out,sn,sn],true⟩)]) (fun Nk hNk=>(cant)) ?_
  intro Nk hNk hbk
  simp only[mem_cons,jC]at hbk ⊢
  refine cv (by kernel_rfl) ?_
  have hQ:uqO s data=(out,(rest,f)):=i2
  obtain⟨a1,a2,a3⟩:=eqR_sm s (rest,f)
  rcases hE:eqR s (rest,f)with⟨E,r1,f1⟩
  rw[hE]at a1 a2 a3
  simp only at a1 a2 a3
  have hr1:r1.length<=1000000:=wE a3 hrl
  obtain⟨b1,b2,b3⟩:=eqR_sm s (r1,f1)
  rcases hL:eqR s (r1,f1)with⟨L,r2,f2⟩
  rw[hL]at b1 b2 b3
  simp only at b1 b2 b3
  have hr2:r2.length<=1000000:=wE b3 hr1
  have hUE:uqE s data=(E,(r1,f1)):=by unfold uqE;rw[hQ];exact hE
  have hUL:uqR s data=(L,(r2,f2)):=by unfold uqR;rw[hUE];exact hL
  have hX:rTh s data=⟨out,E,L⟩:=by unfold rTh;rw[hQ,hUE,hUL]
  obtain⟨c1,c2⟩:=smE_sm a1 (by omega)
  obtain⟨d1,d2⟩:=smE_sm b1 (by omega)
  have hsX:sm (⟨out,E,L⟩:GTheory):=⟨(yU _).2 (by rw[l1];omega),c1,d1⟩
  have hro:rg out:=fun n hn=>by
   have h9:=l3 n hn
   exact⟨by omega,by omega⟩
  have hrX:rg (⟨out,E,L⟩:GTheory):=⟨hro,c2,d2⟩
  rcases unp_cases h2 hX (by rw[hUL])with⟨u1,u2,u3⟩|⟨u1,u2⟩
  ·rw[u1]
   exact R (cj11 h1 h2 hrl hE hr1 hL hr2 hsX hrX u2 u3) trivial
  ·rw[u1];unfold noTh
   rcases u2 with u2|⟨u2,u3⟩|⟨u2,l,u3,u4⟩
   ·exact R (cj10 h1 h2 hrl hE hr1 hL hr2 hsX hrX u2) trivial
   ·exact R (cj11 h1 h2 hrl hE hr1 hL hr2 hsX hrX u2 u3) trivial
   ·exact R (cj12 h1 h2 hrl hE hr1 hL hr2 hsX hrX u2 u3 u4) trivial
def W29:qH:=fun g' H Bd K=>∃(d:GDisk),g'=[.agg (enc d).toArray]/\((sm d)/\K (.agg (enc (kM d)).toArray) H Bd)
@[go_sem ↓] theorem W29_eq (a:List (List UInt8)) (b:List GPut):W29 [.agg #[lst a,lst b]] H Bd K=((sm (GDisk.mk a b))/\K (.agg (enc (kM (GDisk.mk a b))).toArray) H Bd):=ex1 (GDisk.mk a b) rfl
theorem W29_ok:OK 29 W29:=by
 rintro _ H Bd K ⟨d,rfl,hpre,hK⟩
 refine fnp pok ((((uA.uB W57_ok).uB W58_ok).uB W60_ok).uB W59_ok) [(9,[0,1,2,3,4,8,5,6,7,9],[z0 0,z0 1,z0 2,z0 3,z0 4,z0 8,⟨5,[],[1]⟩,z0 6,z0 7,⟨9,[8],[]⟩], .nil),(14,[0,1,2,3,4,8,5,6,7,9],[z0 0,z0 1,z0 2,z0 3,z0 4,z0 8,⟨5,[],[1]⟩,z0 6,z0 7,⟨9,[8],[]⟩], .nil)] hK func29 ntmps29 call29 [.cell 2 69] fun hb ha=>?_
 by_cases hd:yR d=0
 case neg=>
  have e:kM d=⟨yR d,yD,noTh,noTh⟩:=by unfold kM;rw[if_pos hd]
  have e2:opnR d=⟨yR d,yD⟩:=by unfold opnR;rw[if_pos hd]
  rw[e];unfold yD noTh
  exact R (cj3 hpre e2 hd) trivial
 have hB:kM d=⟨(scrD d).2,(scrD d).1.super,(scrD d).1.theory,(scrD d).1.next_⟩:=by unfold kM;rw[if_neg (by simpa using hd)]
 have hO:opnR d=⟨(jL d).2,(jL d).1⟩:=by unfold opnR;rw[if_neg (by simpa using hd)]
 have hR:scrD d=if(jL d).2≠0 then(noSt,(jL d).2)
   else if(vW d (jL d).1).code≠0 then(noSt,(vW d (jL d).1).code)
   else if(thAt d (jL d).1 (jL d).1.theory).2=false then(noSt,5)
   else if(jL d).1.moving=true/\(thAt d (jL d).1 (jL d).1.next_).2=false then(noSt,5)
   else(⟨(jL d).1,(vW d (jL d).1).list,(thAt d (jL d).1 (jL d).1.theory).1,if(jL d).1.moving=true then(thAt d (jL d).1 (jL d).1.next_).1 else noTh⟩,0):=rfl
 by_cases q1:(jL d).2=0
 case neg=>
  rw[if_pos q1]at hR
  rw[hB,hR];unfold noSt yD noTh
  exact R (cj3 hpre hO q1) trivial
 rw[if_neg (by simpa using q1)]at hR
 have hsf:=openD_ok q1
 have hS:=kJ hsf
 generalize hQ:(jL d).1=Q at*
 have hth:=hS.theory
 have hnx:=hS.next_
 have hsg:=hS.sig
 have hsl:=(yT hsg).len
 have hcur:=hS.cur
 have hss:sm Q.symbols:=⟨show Q.symbols.symbols.length<=281474976710656 by omega,fun x hx=>⟨show x.name.size<=281474976710656 by have:=zQ ((yT hsg).nm x hx).1;omega,trivial⟩⟩
 have hsQ:sm Q:=⟨trivial,trivial,trivial,trivial,trivial,trivial,trivial,⟨show Q.cursor.length<=281474976710656 by omega,fun _ _=>trivial⟩,hss⟩
 have hK:keptR d Q=vW d Q:=by unfold keptR;rw[if_neg (by simpa using hd),if_neg (by simpa using hsf)]
 by_cases q2:(vW d Q).code=0
 case neg=>
  rw[if_pos q2]at hR
  rw[hB,hR];unfold noSt yD noTh
  exact R (cj7 hpre hO q1 hQ hsQ hK q2) trivial
 rw[if_neg (by simpa using q2)]at hR
 have hf1:∀a b,H (Bd+a+b)=none:=fun a b=>hb.fresh _ (by omega)
 have hf2:∀a b c,H (Bd+a+b+c)=none:=fun a b c=>hb.fresh _ (by omega)
 have r1:R64 Q.theory:=⟨by omega,by omega⟩
 have r2:R64 Q.next_:=⟨by omega,by omega⟩
 have hc1:=chainD_dlen d Q.theory
 have hc2:=chainD_dlen d Q.next_
 have x1:=chainR_ok (h:=Q.theory) hd
 have x2:=chainR_ok (h:=Q.next_) hd
 by_cases q3:(thAt d Q Q.theory).2=true
 case neg=>
  have q3:(thAt d Q Q.theory).2=false:=by simpa using q3
  have e1:=unpR_no hsg q3
  rw[if_pos q3]at hR
  rw[hB,hR];unfold noSt yD
  unfold noTh at e1 ⊢
  exact R (cj18 hpre hO q1 hQ hsQ hK q2 r1 r2 hc1 hc2 x1 x2 hss hsg e1 hf1 hf2) trivial
 have e1:unpR Q.symbols (qW d Q.theory).1=⟨0,(thAt d Q Q.theory).1⟩:=unpR_yes hsg q3
 rw[if_neg (by rw[q3];decide)]at hR
 by_cases q4:Q.moving=true
 ·by_cases q5:(thAt d Q Q.next_).2=true
  ·have e2:unpR Q.symbols (qW d Q.next_).1=⟨0,(thAt d Q Q.next_).1⟩:=unpR_yes hsg q5
   rw[if_neg (by rw[q5];simp),if_pos q4]at hR
   rw[hB,hR]
   exact R (cj19 hpre hO q1 hQ hsQ hK q2 r1 r2 hc1 hc2 x1 x2 hss hsg e1 e2 hf1 hf2) trivial
  ·have q5:(thAt d Q Q.next_).2=false:=by simpa using q5
   have e2:=unpR_no hsg q5
   rw[if_pos ⟨q4,q5⟩]at hR
   rw[hB,hR];unfold noSt yD
   unfold noTh at e2 ⊢
   exact R (cj19 hpre hO q1 hQ hsQ hK q2 r1 r2 hc1 hc2 x1 x2 hss hsg e1 e2 hf1 hf2) trivial
 ·rw[if_neg (fun h=>q4 h.1),if_neg q4]at hR
  rw[hB,hR];unfold noTh
  exact R (cj18 hpre hO q1 hQ hsQ hK q2 r1 r2 hc1 hc2 x1 x2 hss hsg e1 hf1 hf2) trivial
def W157:qH:=fun g' H Bd K=>∃(l:List GPut),g'=[lst l]/\((l=[])/\K (lst (([]:List GPut))) H Bd)
@[go_sem ↓] theorem W157_eq (a:List GPut):W157 [lst a] H Bd K=((a=[])/\K (lst (([]:List GPut))) H Bd):=ex1 a rfl
theorem W157_ok:OK 157 W157:=by
 rintro _ H Bd K ⟨l,rfl,hpre,hK⟩
 refine fnp pok uA [(5,[0,1,2,3,4,5,6,7,8,9],[z0 0,z0 1,z0 2,z0 3,z0 4,⟨5,[],[2]⟩,z0 6,z0 7,⟨8,[7],[]⟩,z0 9], .nil)] hK func157 ntmps157 call157 [.tmp 2] fun hb ha=>?_
 refine jF pok fun cv=>?_
 subst hpre
 refine R0 ?_
 refine yM (X:=Nat) hb (by omega) 1 [.s 3] rfl (fun x=>x=0) (fun x=>0) (fun Nx x=>[(3,sv Nx 2 0 1),(7,lst ([]:List GPut)),(8,iv 0),(9,iv 0)]) (fun Nx x=>[(Nx,⟨[],true⟩)]) 0 (rfl) (fun Nx hNx=>(cant)) ?_
 intro Nx x hNx hIx hbx Fx hFx
 simp only[mem_cons,jC]at hbx ⊢
 refine cv (by kernel_rfl) ?_
 refine R0 ?_
 refine cv (by kernel_rfl) ?_
 refine R0 ?_
 exact qV (xs:=([]:List GPut)) (qJ _ _ _) (hb.fresh _ (by omega)) rfl rfl
@[go_sem ↓] def BW106 (d:GDisk):Tq:=fun H Bd K=>((sm d/\DiskOK d/\d.pending=[])/\K (.agg (enc d).toArray) H Bd)
def W106:qH:=fun g' H Bd K=>∃(d:GDisk),g'=[.agg (enc d).toArray]/\BW106 d H Bd K
@[go_sem ↓] theorem W106_eq (a:List (List UInt8)) (b:List GPut):W106 [.agg #[lst a,lst b]] H Bd K=BW106 (GDisk.mk a b) H Bd K:=ex1 (GDisk.mk a b) rfl
theorem W106_ok:OK 106 W106:=by
 rintro _ H Bd K ⟨d,rfl,hpre,hK⟩
 refine fnp pok ((uA.uB W157_ok).uB W109_ok) [(5,[0,1,2,3,4,5,6,7],[z0 0,z0 1,z0 2,⟨3,[],[1]⟩,z0 4,⟨5,[4],[]⟩,z0 6,⟨7,[4],[]⟩], .nil)] hK func106 ntmps106 call106 [.cell 2 33] fun hb ha=>?_
 refine jF pok fun cv=>?_
 obtain⟨h1,h2,h3⟩:=hpre
 have h3t:=eq_true h3
 simp (maxSteps:=2000000) (disch:=first|exact dq|fail) only[go_sem,push_cast,qB,qA,qL hb,qE hb,h3t]
 refine yM (X:=Nat) hb (by omega) 1 [.m (Bd+2) 0] rfl (fun x=>x<=d.sectors.length) (fun x=>d.sectors.length-x) (fun Nx x=>[(1,pt Bd),(2,pt (Bd+1)),(3,pt (Bd+2)),(11,lst d.sectors),(12,iv (d.sectors.length:Int)),(13,iv (x:Nat))]) (fun Nx x=>[(Bd,⟨[lst d.sectors,lst d.pending],true⟩),(Bd+1,⟨[sn,sn],true⟩),(Bd+2,⟨[sv Nx 1 (d.sectors.take x).length ((d.sectors.take x).length+1),lst ([]:List GPut)],true⟩),(Nx,⟨qO (d.sectors.take x),true⟩)]) 0 (xT _) (fun Nx hNx=>(cant)) ?_
 intro Nx x hNx hIx hbx Fx hFx
 simp only[mem_cons,jC]at hbx ⊢
 refine cv (by kernel_rfl) ?_
 by_cases hlt:x<d.sectors.length
 ·have e1:d.sectors[x]? =some (d.sectors[x]'hlt):=xA hlt
  have hst:d.sectors.take (x+1)=d.sectors.take x++[d.sectors[x]'hlt]:=xP hlt
  have hk2:(d.sectors[x]'hlt).length<=1000000:=by have:=h2.sec _ (xH hlt);omega
  have hk3:sm (d.sectors[x]'hlt):=⟨by omega,fun _ _=>trivial⟩
  have hlx:(d.sectors.take x).length=x:=by rw[xQ];omega
  generalize hE:(d.sectors[x]'hlt)=E at*
  refine RA (cj5 e1 hE hlt hk2 hk3) ?_
  refine⟨by have:=h2.len;omega,by have:=h2.len;omega,?_⟩
  refine hFx (x+1) _ _ _ ?_ ?_ (by simp only[go_sem,push_cast,qB,qA]) ((canf (cj hst hlx)))
  ·show d.sectors.length-(x+1)<d.sectors.length-x
   omega
  ·exact hlt
 obtain rfl:x=d.sectors.length:=by omega
 have et:List.take d.sectors.length d.sectors=d.sectors:=wH
 refine R et ?_
 refine cv (by kernel_rfl) ?_
 refine R (cj et h3) ?_
 exact qV (by simp (disch:=first|assumption|omega) only[go_sem,push_cast,qB,qA]) (hb.fresh _ (by omega)) rfl (by first|rfl|exact(yS _).symm|simp|omega)
@[go_sem ↓] def BW61 (d:GDisk) (p:GSuper):Tq:=fun H Bd K=>((sm d/\DiskOK d/\d.pending=[]/\sm p)/\K (pt Bd) (upd H Bd (some ⟨[lst d.sectors,lst d.pending,lst (keptR d p).list,sn],true⟩)) (Bd+1))
def W61:qH:=fun g' H Bd K=>∃(d:GDisk) (p:GSuper),g'=[.agg (enc d).toArray, .agg (enc p).toArray]/\BW61 d p H Bd K
@[go_sem ↓] theorem W61_eq (a:List (List UInt8)) (b:List GPut) (c d e f g h:Int) (i:Bool) (j:List UInt8) (k:List GSymbol):W61 [.agg #[lst a,lst b], .agg #[iv c,iv d,iv e,iv f,iv g,iv h, .bool i,lst j,lst k]] H Bd K=BW61 (GDisk.mk a b) (GSuper.mk c d e f g h i j (GSignature.mk k)) H Bd K:=ex2 (GDisk.mk a b) (GSuper.mk c d e f g h i j (GSignature.mk k)) rfl
theorem W61_ok:OK 61 W61:=by
 rintro _ H Bd K ⟨d,p,rfl,hpre,hK⟩
 refine fn_can pok ((uA.uB W106_ok).uB W58_ok) [(1,[0,2,3,1,4,5,6,7,8],[z0 0,z0 2,z0 3,⟨1,[],[3,2]⟩,z0 4,z0 5,z0 6,z0 7,z0 8], .nil)] H [.s 4] (pt Bd) [(Bd,⟨[lst d.sectors,lst d.pending,lst (keptR d p).list,sn],true⟩)] hK (by simp) id func61 rfl (rs:=[.tmp 4]) rfl ntmps61 (by simp) call61 (by kernel_rfl) (fun _ hb ha=>?_)
 clear hK
 obtain⟨h1,h2,h3,h4⟩:=hpre
 have h3t:=eq_true h3
 simp (maxSteps:=2000000) (disch:=first|exact dq|fail) only[go_sem,push_cast,qB,qA,qL hb,qE hb,h1,h2,h3t,h4]
@[go_sem ↓] def BW30 (d:GDisk) (b:GBaseResult):Tq:=fun H Bd K=>((sm d/\DiskOK d/\d.pending=[]/\sm b.super)/\K (pt Bd) (upd (upd (upd H Bd (some ⟨[iv b.code,iv b.super.gen,iv b.super.root,iv b.super.shadow,iv b.super.theory,iv b.super.next_,iv b.super.version, .bool b.super.moving,lst b.super.cursor,lst b.super.symbols.symbols,lst b.theory.order,lst b.theory.equations,lst b.theory.rules,lst b.next_.order,lst b.next_.equations,lst b.next_.rules,pt (Bd+1)],true⟩)) (Bd+1) (some ⟨[pt (Bd+2), .bool false],true⟩)) (Bd+2) (some ⟨[lst d.sectors,lst d.pending,lst (keptR d b.super).list,sn],true⟩)) (Bd+3))
def W30:qH:=fun g' H Bd K=>∃(d:GDisk) (b:GBaseResult),g'=[.agg (enc d).toArray, .agg (enc b).toArray]/\BW30 d b H Bd K
@[go_sem ↓] theorem W30_eq (a:List (List UInt8)) (b:List GPut) (c d e f g h i:Int) (j:Bool) (k:List UInt8) (l:List GSymbol) (m:List Int) (n o:List GEquation) (p:List Int) (q r:List GEquation):W30 [.agg #[lst a,lst b], .agg #[iv c,iv d,iv e,iv f,iv g,iv h,iv i, .bool j,lst k,lst l,lst m,lst n,lst o,lst p,lst q,lst r]] H Bd K=BW30 (GDisk.mk a b) (GBaseResult.mk c (GSuper.mk d e f g h i j k (GSignature.mk l)) (GTheory.mk m n o) (GTheory.mk p q r)) H Bd K:=ex2 (GDisk.mk a b) (GBaseResult.mk c (GSuper.mk d e f g h i j k (GSignature.mk l)) (GTheory.mk m n o) (GTheory.mk p q r)) rfl
theorem W30_ok:OK 30 W30:=by
 rintro _ H Bd K ⟨d,b,rfl,hpre,hK⟩
 refine fn_can pok (uA.uB W61_ok) [(1,[0,1,2,3,4,5,6,7,8,9],[z0 0,z0 1,z0 2,z0 3,⟨4,[],[0]⟩,z0 5,z0 6,z0 7,z0 8,z0 9], .nil)] H [.s 4, .m (Bd+2+8) 16, .m (Bd+2+6) 0] (pt Bd) [((Bd+2),⟨[lst d.sectors,lst d.pending,lst (keptR d b.super).list,sn],true⟩),((Bd+1),⟨[pt (Bd+2), .bool false],true⟩),(Bd,⟨[iv b.code,iv b.super.gen,iv b.super.root,iv b.super.shadow,iv b.super.theory,iv b.super.next_,iv b.super.version, .bool b.super.moving,lst b.super.cursor,lst b.super.symbols.symbols,lst b.theory.order,lst b.theory.equations,lst b.theory.rules,lst b.next_.order,lst b.next_.equations,lst b.next_.rules,pt (Bd+1)],true⟩)] hK (by simp) id func30 rfl (rs:=[.tmp 4]) rfl ntmps30 (by simp) call30 (by kernel_rfl) (fun _ hb ha=>?_)
 clear hK
 obtain⟨h1,h2,h3,h4⟩:=hpre
 have h3t:=eq_true h3
 simp (maxSteps:=2000000) (disch:=first|exact dq|fail) only[go_sem,push_cast,qB,qA,qL hb,qE hb,h1,h2,h3t,h4]
@[go_sem ↓] def BW63 (p:GSuper):Tq:=fun H Bd K=>((sm p/\p.cursor.length<=16/\p.symbols.symbols.length<=6)/\K (.agg (enc p).toArray) H Bd)
def W63:qH:=fun g' H Bd K=>∃(p:GSuper),g'=[.agg (enc p).toArray]/\BW63 p H Bd K
@[go_sem ↓] theorem W63_eq (a b c d e f:Int) (g:Bool) (h:List UInt8) (i:List GSymbol):W63 [.agg #[iv a,iv b,iv c,iv d,iv e,iv f, .bool g,lst h,lst i]] H Bd K=BW63 (GSuper.mk a b c d e f g h (GSignature.mk i)) H Bd K:=ex1 (GSuper.mk a b c d e f g h (GSignature.mk i)) rfl
theorem W63_ok:OK 63 W63:=by
 rintro _ H Bd K ⟨p,rfl,hpre,hK⟩
 refine fnp pok ((uA.uB W109_ok).uB W110_ok) [(1,[0,1,3,4,5,2,8,6,7,9,10,11],[z0 0,z0 1,z0 3,z0 4,z0 5,⟨2,[],[5]⟩,z0 8,z0 6,z0 7,z0 9,z0 10,z0 11], .nil)] hK func63 ntmps63 call63 [.cell 2 53] fun hb ha=>?_
 obtain⟨h0,h4,h5⟩:=hpre
 have h1:=h0.2.2.2.2.2.2.2.1
 have h3:sm p.symbols.symbols:=h0.2.2.2.2.2.2.2.2
 have h6:p.cursor.length<=1000000:=by omega
 have h7:p.symbols.symbols.length<=1000000:=by omega
 exact R (cj5 h0 h1 h3 h6 h7) trivial
@[go_sem ↓] def BW32 (p:GSuper):Tq:=fun H Bd K=>((sm p/\p.cursor.length<=16/\p.symbols.symbols.length<=6)/\K (.agg (enc ((⟨p.gen,p.root,0,p.theory,0,p.version,false,[],p.symbols⟩:GSuper))).toArray) H Bd)
def W32:qH:=fun g' H Bd K=>∃(p:GSuper),g'=[.agg (enc p).toArray]/\BW32 p H Bd K
@[go_sem ↓] theorem W32_eq (a b c d e f:Int) (g:Bool) (h:List UInt8) (i:List GSymbol):W32 [.agg #[iv a,iv b,iv c,iv d,iv e,iv f, .bool g,lst h,lst i]] H Bd K=BW32 (GSuper.mk a b c d e f g h (GSignature.mk i)) H Bd K:=ex1 (GSuper.mk a b c d e f g h (GSignature.mk i)) rfl
theorem W32_ok:OK 32 W32:=by
 rintro _ H Bd K ⟨p,rfl,hpre,hK⟩
 refine fnp pok (uA.uB W63_ok) [] hK func32 ntmps32 call32 [.cell 2 53] fun hb ha=>?_
 obtain⟨h0,h4,h5⟩:=hpre
 exact R (cj3 h0 h4 h5) trivial
@[go_sem ↓] def BV108 (g:GDraft):Tq:=fun H Bd K=>((g.disk.pending=[])/\K (sv Bd 3 ([(⟨2,⟨0,[]⟩⟩:GAct)]).length (([(⟨2,⟨0,[]⟩⟩:GAct)]).length+1)) (oput H Bd (OEnc.oc ([(⟨2,⟨0,[]⟩⟩:GAct)]))) (Bd+OV.numL (OEnc.oc ([(⟨2,⟨0,[]⟩⟩:GAct)]))))
def V108:qH:=fun g' H Bd K=>∃(g:GDraft),g'=[.agg (enc g).toArray]/\BV108 g H Bd K
@[go_sem ↓] theorem V108_eq (a:List (List UInt8)) (b:List GPut) (c d:List Int):V108 [.agg #[lst a,lst b,lst c,lst d]] H Bd K=BV108 (GDraft.mk (GDisk.mk a b) c d) H Bd K:=ex1 (GDraft.mk (GDisk.mk a b) c d) rfl
def U108:qH:=fun g' H Bd K=>∃(pg:Value),g'=[pg]/\Yld (qI H 4 pg) fun cg=>qQ V108 [.agg cg.toArray] H Bd K
@[go_sem ↓] theorem U108_eq (a:Value):U108 [a] H Bd K=(Yld (qI H 4 a) fun cg=>qQ V108 (idS [.agg cg.toArray]) H Bd K):=px1 a
theorem U108_ok:OK 108 U108:=by
 rintro _ H Bd K ⟨pg,rfl,cg,eg,h⟩
 obtain⟨g,e,hpre,hK⟩:=h
 simp only[xG,and_true]at e
 have Eg:=e
 obtain rfl:=qR Eg
 refine fn_ownN pok (uA.uB W157_ok) [] (.one (ols ([(⟨2,⟨0,[]⟩⟩:GAct)]))) (⟨ols_ok _,trivial⟩) hK func108 rfl (rs:=[.tmp 2]) rfl ntmps108 (by simp) call108 (by kernel_rfl) (fun hb ha=>?_)
 clear hK
 have Pg:=qM eg (NB.vpok (ha pg (by simp)))
 simp only[jR,enc_GDraft]at Pg
 have Zg:=Pg.all 4 rfl
 have Yg:=jE (ha pg (by simp))
 refine jF pok fun cv=>?_
 have h0t:=eq_true hpre
 simp (maxSteps:=2000000) (disch:=first|exact dq|fail) only[go_sem,push_cast,qB,qA,qL hb,qE hb,Zg,h0t]
 refine yM (X:=Nat) hb (by omega) 1 [.s 3] rfl (fun x=>x=0) (fun x=>0) (fun Nx x=>[(0,pg),(3,sv Nx 3 0 1),(12,lst ([]:List GPut)),(13,iv 0),(14,iv 0)]) (fun Nx x=>[(Nx,⟨[],true⟩)]) 0 (rfl) (fun Nx hNx=>(canf Yg)) ?_
 intro Nx x hNx hIx hbx Fx hFx
 simp only[mem_cons,jC]at hbx ⊢
 refine cv (by kernel_rfl) ?_
 refine R Zg ?_
 refine cv (by kernel_rfl) ?_
 refine RA Zg ?_
 exact own_act0 (by omega) (qJ _ _ _) (by simp (disch:=omega) only[go_sem,push_cast,qB,qA,qL hb,qU])
@[go_sem ↓] def BU107 (p:GSuper):Tq:=fun H Bd K=>((sm p/\SuperOK p)/\K (sv Bd 1 (kW p).length ((kW p).length+1)) (upd H Bd (some ⟨qO (kW p),true⟩)) (Bd+1))
def U107:qH:=fun g' H Bd K=>∃(p:GSuper),g'=[.agg (enc p).toArray]/\BU107 p H Bd K
@[go_sem ↓] theorem U107_eq (a b c d e f:Int) (g:Bool) (h:List UInt8) (i:List GSymbol):U107 [.agg #[iv a,iv b,iv c,iv d,iv e,iv f, .bool g,lst h,lst i]] H Bd K=BU107 (GSuper.mk a b c d e f g h (GSignature.mk i)) H Bd K:=ex1 (GSuper.mk a b c d e f g h (GSignature.mk i)) rfl
theorem U107_ok:OK 107 U107:=by
 rintro _ H Bd K ⟨p,rfl,hpre,hK⟩
 refine fn_own pok (((uA.uB U137_ok).uB W158_ok).uB L138_ok) [(1,[0,1,3,4,5,6,7,8,9,10,11,12,13,14,15,2,16,17],[z0 0,z0 1,z0 3,z0 4,z0 5,z0 6,z0 7,z0 8,z0 9,z0 10,z0 11,z0 12,z0 13,z0 14,z0 15,⟨2,[],[14,13,11,10,8,7,5,4]⟩,⟨16,[15],[]⟩,z0 17], .nil),(5,[0,1,2,5,6,7,8,9,10,3,4,11,12],[z0 0,z0 1,z0 2,z0 5,z0 6,z0 7,z0 8,z0 9,z0 10,⟨3,[],[9,7]⟩,⟨4,[],[9,7]⟩,⟨11,[10],[]⟩,z0 12], .nil),(6,[0,1,2,4,5,3,6,7,8,9],[z0 0,z0 1,z0 2,z0 4,z0 5,⟨3,[],[5]⟩,z0 6,z0 7,z0 8,z0 9], .nil),(8,[0,1,6,7,2,3,4,5,8,9,10],[z0 0,z0 1,z0 6,z0 7,⟨2,[],[7]⟩,z0 3,⟨4,[],[7]⟩,⟨5,[],[7]⟩,z0 8,z0 9,z0 10], .nil)] (sv Bd 1 (kW p).length ((kW p).length+1)) [qO (kW p)] hK func107 rfl (rs:=[.tmp 2]) rfl ntmps107 (by simp) call107 (by kernel_rfl) (fun cells hc v hv=>by simp only[wG,List.not_mem_nil,or_false]at hc;rcases hc with rfl <;>exact flat_nb _ _ _ hv) (fun hb ha=>?_)
 have fe:qO ([]:List UInt8)=[]:=rfl
 obtain⟨h1,hS⟩:=hpre
 simp only[sm_GSuper]at h1
 obtain⟨_,_,_,_,_,_,_,hc,hs⟩:=h1
 have hg:=hS.gen
 have hv:=hS.ver
 have hcl:=hS.cur
 have hpk:packGR p.symbols=⟨0,sigB p.symbols⟩:=by unfold packGR;rw[if_neg (by simpa using hS.sig)]
 have hsl:=sigB_len (yT hS.sig)
 have hHl:=supH_len (p:=p)
 have hPl:=supP_len hS
 have pg:=jQ p.gen
 have pv:=jQ p.version
 have pq:=jQ (sumB 29 (supP p))
 have hsr:=sum_rg (supP p)
 have hn:(92-(10+(p.cursor.length:Int)+((sigB p.symbols).length:Int))).toNat=92-(10+p.cursor.length+(sigB p.symbols).length):=by omega
 have hPx:∀m:Int,m=((movB p).toNat:Int)->qO (jX p.gen)++[Value.int .u8 (p.root%256),Value.int .u8 (p.shadow%256),Value.int .u8 (p.theory%256),Value.int .u8 (p.next_%256)]++qO (jX p.version)++[Value.int .u8 m,Value.int .u8 ((p.cursor.length:Int)%256)]++qO p.cursor++qO (sigB p.symbols)++qO (List.replicate (92-(10+p.cursor.length+(sigB p.symbols).length)) (0:UInt8))=qO (supP p):=fun m hm=>by
  subst hm
  unfold supP padS
  rw[hHl]
  unfold supH
  simp only[qK,jO,qZ,jB,kZ,xL,List.cons_append,List.nil_append]
 by_cases hm:p.moving=true
 case' pos=>have hP:=hPx 1 (by unfold movB;rw[if_pos hm];rfl)
 case' neg=>have hP:=hPx 0 (by unfold movB;rw[if_neg hm];rfl)
 all_goals
  simp (maxSteps:=2000000) (disch:=first|exact dq|fail) only[go_sem,push_cast,qB,qA,qL hb,qE hb,hs,hpk,hm,zB,yK,HB.no hb,jQ,zeros_flat,hn,hP,hPl,take_lo,len_lo,fe]
  unfold kW
  exact⟨(by omega:_=96).trans (lenS hPl),by rw[qK,qK,xL]⟩
@[go_sem ↓] def BV62 (g:GDraft) (p:GSuper):Tq:=fun H Bd K=>((g.disk.pending=[]/\sm p/\SuperOK p)/\K (sv Bd 3 (actsD (Int.tmod p.gen 2) (kW p)).length ((actsD (Int.tmod p.gen 2) (kW p)).length+1)) (oput H Bd (OEnc.oc (actsD (Int.tmod p.gen 2) (kW p)))) (Bd+OV.numL (OEnc.oc (actsD (Int.tmod p.gen 2) (kW p)))))
def V62:qH:=fun g' H Bd K=>∃(g:GDraft) (p:GSuper),g'=[.agg (enc g).toArray, .agg (enc p).toArray]/\BV62 g p H Bd K
@[go_sem ↓] theorem V62_eq (a:List (List UInt8)) (b:List GPut) (c d:List Int) (e f g h i j:Int) (k:Bool) (l:List UInt8) (m:List GSymbol):V62 [.agg #[lst a,lst b,lst c,lst d], .agg #[iv e,iv f,iv g,iv h,iv i,iv j, .bool k,lst l,lst m]] H Bd K=BV62 (GDraft.mk (GDisk.mk a b) c d) (GSuper.mk e f g h i j k l (GSignature.mk m)) H Bd K:=ex2 (GDraft.mk (GDisk.mk a b) c d) (GSuper.mk e f g h i j k l (GSignature.mk m)) rfl
def U62:qH:=fun g' H Bd K=>∃(pg vp:Value),g'=[pg,vp]/\Yld (qI H 4 pg) fun cg=>qQ V62 [.agg cg.toArray,vp] H Bd K
@[go_sem ↓] theorem U62_eq (a b:Value):U62 [a,b] H Bd K=(Yld (qI H 4 a) fun cg=>qQ V62 (idS [.agg cg.toArray,b]) H Bd K):=px2 a b
theorem U62_ok:OK 62 U62:=by
 rintro _ H Bd K ⟨pg,vp,rfl,cg,eg,h⟩
 obtain⟨g,p,e,hpre,hK⟩:=h
 simp only[xG,and_true]at e
 obtain⟨Eg,rfl⟩:=e
 obtain rfl:=qR Eg
 refine fn_ownN pok ((uA.uB U108_ok).uB U107_ok) [(1,[0,1,2,3,7,4,5,6,8],[z0 0,z0 1,z0 2,z0 3,z0 7,⟨4,[],[1]⟩,z0 5,z0 6,⟨8,[7],[]⟩], .nil),(2,[0,2,3,4,1,5,6],[z0 0,z0 2,z0 3,z0 4,⟨1,[],[2]⟩,⟨5,[4],[]⟩,z0 6], .nil)] (.one (ols (actsD (Int.tmod p.gen 2) (kW p)))) (⟨ols_ok _,trivial⟩) hK func62 rfl (rs:=[.tmp 4]) rfl ntmps62 (by simp) call62 (by kernel_rfl) (fun hb ha=>?_)
 clear hK
 have Pg:=qM eg (NB.vpok (ha pg (by simp)))
 simp only[jR,enc_GDraft]at Pg
 have Zg:=Pg.all 4 rfl
 have Yg:=jE (ha pg (by simp))
 obtain⟨h0,h1,hS⟩:=hpre
 have hg:=hS.gen
 simp (maxSteps:=2000000) (disch:=first|exact dq|fail) only[go_sem,push_cast,qB,qA,qL hb,qE hb,Zg,h0,h1,hS,oput_act0,num_act0,zB,yK,HB.no hb]
 refine own_acts ?_ ?_ ?_ ?_ ?_ ?_ ?_ (qJ _ _ _) ?_ ?_ ?_
 all_goals first|omega|rfl|(simp (disch:=omega) only[go_sem,push_cast,qB,qA,qL hb,qU];done)|skip
def W31:qH:=fun g' H Bd K=>∃(n n1 n2:Nat) (cs:List Value) (full:Bool) (g:GDraft) (p:GSuper),g'=[pt n, .agg #[iv p.gen,iv p.root,iv p.shadow,iv p.theory,iv p.next_,iv p.version, .bool p.moving,lst p.cursor,lst p.symbols.symbols]]/\(H n=some ⟨cs,true⟩/\cs.length=17/\cs[16]? =some (pt n1)/\H n1=some ⟨[pt n2, .bool full],true⟩/\H n2=some ⟨enc g,true⟩/\g.disk.pending=[]/\sm p/\R64 (p.gen+1)/\(full=false->SuperOK (incG p)))/\K (.agg #[iv (finX full p).code,sv Bd 3 (finX full p).acts.length ((finX full p).acts.length+1)]) (oput H Bd (OEnc.oc (finX full p))) (Bd+OV.numL (OEnc.oc (finX full p)))
theorem W31_ok:OK 31 W31:=by
 rintro _ H Bd K ⟨n,n1,n2,cs,full,g,p,rfl,⟨hn,hl,hc,hn1,hn2,hgp,hsp,hr,hS⟩,hK⟩
 refine fn_ownN pok (uA.uB U62_ok) [(4,[0,1,2,3,4,5,6,7,8,9,10],[z0 0,z0 1,z0 2,z0 3,z0 4,z0 5,z0 6,z0 7,z0 8,z0 9,z0 10], .nil)] (.agg (OEnc.oc (finX full p))) (OEnc.ok _) hK func31 rfl (rs:=[.cell 4 29]) rfl ntmps31 (by simp) call31 (by kernel_rfl) (fun hb ha=>?_)
 clear hK
 simp only[enc_GDraft]at hn2
 have b0:=zI hb hn
 have b1:=zI hb hn1
 have b2:=zI hb hn2
 cases full with
 |true=>
  have eX:finX true p=⟨7,[]⟩:=rfl
  rw[eX]
  refine R (cj5 hn hl hc hn1 hn2) ?_
  exact own_ares0 (by simp (disch:=omega) only[go_sem,push_cast,qB,qA,qL hb,qU])
 |false=>
  have eX:finX false p=⟨0,actsD (Int.tmod (p.gen+1) 2) (kW (incG p))⟩:=rfl
  rw[eX]
  have hS:=hS rfl
  have hs2:sm (incG p):=hsp
  unfold incG at hS hs2 ⊢
  obtain⟨r1,r2⟩:=hr
  refine R (cj10 hn hl hc hn1 hn2 hgp hS hs2 r1 r2) ?_
  refine own_agg [(Bd+2+11,OEnc.oc (0:Int)),(Bd+2+11,OEnc.oc (actsD (Int.tmod (p.gen+1) 2) (kW (⟨p.gen+1,p.root,p.shadow,p.theory,p.next_,p.version,p.moving,p.cursor,p.symbols⟩:GSuper))))] ?_ ?_ rfl rfl
  ·refine⟨by omega,?_,by show Bd+2+11+0<=Bd+2+11;omega,?_,trivial⟩
   all_goals (simp (disch:=first|assumption|omega) only[go_sem,push_cast,qB,qA,qG,qE hb])
  ·simp (disch:=first|assumption|omega|(simp (disch:=first|assumption|omega) only[qG,free_oput,qE hb];done)) only[go_sem,push_cast,qB,qA,qL hb,Le_oputB hb,qE hb,qU]
def T31:qH:=ToC W31
theorem T31_ok:OK 31 T31:=ToC_ok W31_ok
def W65:qH:=fun g' H Bd K=>∃(xs:List UInt8) (ys:List UInt8),g'=[lst xs,lst ys]/\((sm xs)/\K (.bool (decide (xs=ys))) H Bd)
@[go_sem ↓] theorem W65_eq (a b:List UInt8):W65 [lst a,lst b] H Bd K=((sm a)/\K (.bool (decide (a=b))) H Bd):=ex2 a b rfl
theorem W65_ok:OK 65 W65:=by
 rintro _ H Bd K ⟨xs,ys,rfl,hpre,hK⟩
 refine fnp pok uA [(6,[0,1,2,3,4,5,6,7,8],[z0 0,z0 1,z0 2,z0 3,z0 4,z0 5,z0 6,z0 7,z0 8], .nil)] hK func65 ntmps65 call65 [.tmp 4] fun hb ha=>?_
 refine jF pok fun cv=>?_
 have hlen:=qS hpre
 simp (maxSteps:=2000000) (disch:=first|exact dq|fail) only[go_sem,push_cast,qB,qA,qL hb,qE hb]
 refine Cnp.of (fun hl=>?_) (fun hl=>cmp_len (by omega))
 have hl':xs.length=ys.length:=by omega
 refine jA (fun i=>∀j,j<i->xs[j]? =ys[j]?) xs.length (fun i=>[(0,lst xs),(1,lst ys),(5,iv i)]) (fun j h=>by omega) (by simp only[go_sem,push_cast,qB,qA]) ?_
 intro i B0 hI hi hB
 refine cv (by kernel_rfl) ?_
 rcases xM i xs.length with hlt|hge
 ·have e1:xs[i]? =some xs[i]:=xA hlt
  have e2:ys[i]? =some (ys[i]'(by omega)):=xA _
  have hx:=yP hpre (xH hlt)
  simp (maxSteps:=2000000) (disch:=first|exact dq|fail) only[go_sem,push_cast,qB,qA,qL hb,qE hb,e1,e2,hx]
  exact cmp_step hl' hI hlt (by omega) rfl fun h=>h
 ·simp (maxSteps:=2000000) (disch:=first|exact dq|fail) only[go_sem,push_cast,qB,qA,qL hb,qE hb]
  refine cv (by kernel_rfl) ?_
  simp (maxSteps:=2000000) (disch:=first|exact dq|fail) only[go_sem,push_cast,qB,qA,qL hb,qE hb]
  exact cmp_end hl' hI hge
def W66:qH:=fun g' H Bd K=>∃(x:GPut) (y:GPut),g'=[.agg (enc x).toArray, .agg (enc y).toArray]/\((sm x)/\K (.bool (decide (x=y))) H Bd)
@[go_sem ↓] theorem W66_eq (a:Int) (b:List UInt8) (c:Int) (d:List UInt8):W66 [.agg #[iv a,lst b], .agg #[iv c,lst d]] H Bd K=((sm (GPut.mk a b))/\K (.bool (decide ((GPut.mk a b)=(GPut.mk c d)))) H Bd):=ex2 (GPut.mk a b) (GPut.mk c d) rfl
theorem W66_ok:OK 66 W66:=by
 rintro _ H Bd K ⟨x,y,rfl,hpre,hK⟩
 refine fnp pok (uA.uB W65_ok) [] hK func66 ntmps66 call66 [.tmp 4] fun hb ha=>?_
 simp only[sm_GPut]at hpre
 simp (maxSteps:=2000000) (disch:=first|exact dq|fail) only[go_sem,push_cast,qB,qA,qL hb,qE hb,hpre]
 cases x;cases y
 simp only[Cnp,GPut.mk.injEq]
 constructor <;>intros <;>simp_all
end Go.Proofs.YtogofkjpbpgneaaGreatDoor
