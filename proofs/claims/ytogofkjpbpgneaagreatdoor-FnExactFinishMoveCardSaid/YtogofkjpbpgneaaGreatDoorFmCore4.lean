/- Loops over own lists that keep their names: a state is named anew, and lists that are finished are published, at the end of each round. -/
import Derived.Test.YtogofkjpbpgneaaGreatDoorFmCore3
import Derived.Lib.LaidTab
import Derived.ChangeArms
import Derived.ChangeStays
import Derived.SizedLaws
import Derived.ChangeSame
import Derived.ChangeOld
import Derived.OpenShut
import Derived.Handed
set_option linter.unusedSimpArgs false
set_option linter.unusedVariables false
namespace Go.SC
open Go
inductive RQ (σ:List (Option Nat)) (N:Nat) (S:Nat->Prop) (H:AH):Value->Value->Prop
 |same {v:Value} (h:NB N v):RQ σ N S H v v
 |pub {v u:Value} (hp:Pub H S u v) (h:NB N v):RQ σ N S H v u
 |sl {i m off k len c:Nat} (h:σ[i]? =some (some m)):RQ σ N S H (.slice (some ⟨N+i,off,some k⟩) len (len+1)) (.slice (some ⟨m,off,some k⟩) len c)
 |ptr {i m off:Nat} (h:σ[i]? =some (some m)):RQ σ N S H (.pointer (some ⟨N+i,off,none⟩)) (.pointer (some ⟨m,off,none⟩))
 |nil {i k:Nat} (h:σ[i]? =some none):RQ σ N S H (.slice (some ⟨N+i,0,some k⟩) 0 1) (.slice none 0 0)
 |agg {xs ys:Array Value} (hs:xs.size=ys.size) (h:∀(i:Nat) v u,xs[i]? =some v->ys[i]? =some u->RQ σ N S H v u):RQ σ N S H (.agg xs) (.agg ys)
 |tuple {xs ys:Array Value} (hs:xs.size=ys.size) (h:∀(i:Nat) v u,xs[i]? =some v->ys[i]? =some u->RQ σ N S H v u):RQ σ N S H (.tuple xs) (.tuple ys)
theorem NB.up{B B':Nat}(hle:B<=B'){v:Value}(h:NB B v):NB B' v:=by
 induction h with
 |unk=>exact .unk
 |bool b=>exact .bool b
 |int k n=>exact .int k n
 |string s=>exact .string s
 |nilp=>exact .nilp
 |ptr h=>exact .ptr (Nat.lt_of_lt_of_le h hle)
 |nils=>exact .nils
 |sl h=>exact .sl (Nat.lt_of_lt_of_le h hle)
 |agg _ ih=>exact .agg ih
 |tuple _ ih=>exact .tuple ih
 |func _ ih=>exact .func ih
 |nilf=>exact .nilf
 |nili=>exact .nili
 |iface _ ih=>exact .iface ih
 |lst _ ih=>exact .lst ih
 |vp _ ih=>exact .vp ih
 |mp=>exact .mp
theorem VR.rq{A:Nat->Prop}{ι:Ren}{H:AH}{Bd:Nat}{w:World}(hr:Rel A ι H Bd w){σ:List (Option Nat)}{N:Nat}{S:Nat->Prop}{v u:Value}(hq:RQ σ N S H v u):∀ {x:Value},VR ι w u x->VR (rnR (frz ι H S) N σ) w v x:=by
 have hcl:∀ {v x:Value},NB N v->VR (frz ι H S) w v x->VR (rnR (frz ι H S) N σ) w v x:=fun hn hx=>VR.rn (.same hn) hx
 have hup:∀ {v x:Value},VR ι w v x->VR (frz ι H S) w v x:=fun hx=>hx.mono (zF ι H S) (Fro.refl ι w)
 induction hq with
 |same h=>exact fun hx=>hcl h (hup hx)
 |pub hp h=>exact fun hx=>hcl h (VR.pub hr hp hx)
 |sl h=>exact fun hx=>VR.rn (.sl h) (hup hx)
 |ptr h=>
  intro x hx
  cases hx with
  |ptr h1=>exact .ptr ((rnR_add h).trans h1)
 |nil h=>exact fun hx=>VR.rn (.nil h) (hup hx)
 |agg hs _ ih=>
  intro x hx
  rename_i xs ys _
  cases hx with
  |agg hs2 h2=>
   refine .agg (hs.trans hs2) fun i v u h3 h4=> ?_
   have hi:=(xS.1 h3).1
   exact ih i v (ys[i]'(by omega)) h3 (wA (by omega)) (h2 i _ u (wA (by omega)) h4)
 |tuple hs _ ih=>
  intro x hx
  rename_i xs ys _
  cases hx with
  |tuple hs2 h2=>
   refine .tuple (hs.trans hs2) fun i v u h3 h4=> ?_
   have hi:=(xS.1 h3).1
   exact ih i v (ys[i]'(by omega)) h3 (wA (by omega)) (h2 i _ u (wA (by omega)) h4)
def ntin(n:Nat):List (Option Nat)->Prop
 |[]=>True
 |some m::r=>m≠n/\ntin n r
 |none::r=>ntin n r
theorem ntin_spec{n:Nat}:∀ {σ:List (Option Nat)},ntin n σ->∀i:Nat,σ[i]? ≠some (some n)
 |[],_,i=>by simp
 |some m::r,h,0=>fun e=>by simp only[wD,xE]at e;exact h.1 e
 |none::r,h,0=>fun e=>by simp at e
 |some m::r,h,i+1=>fun e=>by rw[wM]at e;exact ntin_spec h.2 i e
 |none::r,h,i+1=>fun e=>by rw[wM]at e;exact ntin_spec (σ:=r) h i e
def rql(σ:List (Option Nat))(N:Nat)(S:Nat->Prop)(H:AH)(xs ys:List Value):Prop:=xs.length=ys.length/\∀(i:Nat) v u,xs[i]? =some v->ys[i]? =some u->RQ σ N S H v u
def gone(C:AH)(σ:List (Option Nat))(n:Nat):Prop:=C n=none/\ntin n σ
structure Can (N:Nat) (σ:List (Option Nat)) (s:List Value) (H:AH) (sc:List Value) (C:AH):Prop where
 len:s.length=sc.length
 slot:∀(i:Nat) v u,sc[i]? =some v->s[i]? =some u->v=unk\/RQ σ N (gone C σ) H v u
 low:∀n b,n<N->C n=some b->∃b',H n=some b'/\b'.own=b.own/\rql σ N (gone C σ) H b.cells b'.cells
 high:∀n b,N<=n->C n=some b->b.own=true/\((σ[n-N]? =some none/\b.cells=[])\/∃m b',σ[n-N]? =some (some m)/\H m=some b'/\b'.own=true/\rql σ N (gone C σ) H b.cells b'.cells)
 out:∀(i m:Nat),σ[i]? =some (some m)->N<=m\/C m=none
 nodup:∀(i j m:Nat),σ[i]? =some (some m)->σ[j]? =some (some m)->i=j
theorem Can.rel{N:Nat}{σ:List (Option Nat)}{s:List Value}{H:AH}{sc:List Value}{C:AH}(hc:Can N σ s H sc C){A:Nat->Prop}{ι:Ren}{Bd:Nat}{w:World}(hrel:Rel A ι H Bd w):
  Rel A (rnR (frz ι H (gone C σ)) N σ) C (N+σ.length) w:=by
 have hrq:∀ {v u x:Value},RQ σ N (gone C σ) H v u->VR ι w u x->VR (rnR (frz ι H (gone C σ)) N σ) w v x:=fun hq hx=>VR.rq hrel hq hx
 have hge:∀n,¬n<N->∃i,n=N+i:=fun n hn=>⟨n-N,by omega⟩
 have hfm:∀n,(frz ι H (gone C σ)) n=ι n:=fun n=>rfl
 have hold:∀ {n b},C n=some b->(∃m b',(rnR (frz ι H (gone C σ)) N σ) n=ι m/\H m=some b'/\b'.own=b.own/\rql σ N (gone C σ) H b.cells b'.cells/\¬gone C σ m/\((n<N/\m=n)\/(N<=n/\σ[n-N]? =some (some m))))\/((rnR (frz ι H (gone C σ)) N σ) n=some .void/\b.cells=[]/\b.own=true/\N<=n):=fun{n b} hn=>by
  rcases xM n N with hlt|hge'
  ·obtain⟨b',h1,h2,h3⟩:=hc.low n b hlt hn
   exact .inl ⟨n,b',rnR_lt hlt,h1,h2,h3,fun h=>(by rw[h.1]at hn;cases hn), .inl ⟨hlt,rfl⟩⟩
  ·obtain⟨i,rfl⟩:=hge n (by omega)
   obtain⟨ho,h⟩:=hc.high _ b hge' hn
   rw[Nat.add_sub_cancel_left]at h
   rcases h with⟨h1,h2⟩|⟨m,b',h1,h2,h3,h4⟩
   ·exact .inr ⟨rnR_void h1,h2,ho,hge'⟩
   ·exact .inl ⟨m,b',rnR_add h1,h2,h3.trans ho.symm,h4,fun h=>ntin_spec h.2 i h1, .inr ⟨hge',by rw[Nat.add_sub_cancel_left];exact h1⟩⟩
 have hne:∀ {n n' m m':Nat} {b b':Blk},C n=some b->C n'=some b'->n≠n'->((n<N/\m=n)\/(N<=n/\σ[n-N]? =some (some m)))->((n'<N/\m'=n')\/(N<=n'/\σ[n'-N]? =some (some m')))->m≠m':=fun{n n' m m' b b'} hn hn' hd h1 h2 e=>by
  subst e
  rcases h1 with⟨a1,rfl⟩|⟨a1,a2⟩ <;>rcases h2 with⟨b1,b2⟩|⟨b1,b2⟩
  ·exact hd b2
  ·rcases hc.out _ _ b2 with h|h
   ·omega
   ·rw[hn]at h;cases h
  ·subst b2
   rcases hc.out _ _ a2 with h|h
   ·omega
   ·rw[hn']at h;cases h
  ·have:=hc.nodup _ _ _ a2 b2
   omega
 refine⟨fun n hn=> ?_,fun n b hn=> ?_,fun n m b b' B base B' base' hd h1 h2 ho i1 i2=> ?_,hrel.newA,fun n b B base h1 ho i1=> ?_,fun B hB=> ?_,fun n b hn hq=> ?_,hrel.mp⟩
 ·obtain⟨i,rfl⟩:=hge n (by omega)
  have:σ[i]? =none:=wQ (by omega)
  show(if N+i<N then _ else _)=_
  rw[if_neg (by omega),Nat.add_sub_cancel_left,this]
 ·rcases hold hn with⟨m,b',g0,g1,g2,g3,g4,g5⟩|⟨g1,g2,g3,g4⟩
  ·rcases hrel.blk m b' g1 with⟨hv,hcn⟩|⟨B,base,cs,e1,fr,k1,k2,k3,k4,k5⟩
   ·refine .inl ⟨g0.trans hv,?_⟩
    have:=g3.1
    rw[hcn]at this
    exact List.eq_nil_of_length_eq_zero this
   ·refine .inr ⟨B,base,cs,e1,fr,g0.trans k1,k2,fun h=>k3 (g2.trans h),fun h=>k4 (g2.trans h),fun j v hv=> ?_⟩
    have hj:j<b'.cells.length:=g3.1▸(xR.1 hv).1
    obtain⟨v',l1,l2⟩:=k5 j (b'.cells[j]'(by omega)) (xA (by omega))
    exact⟨v',l1,hrq (g3.2 j v _ hv (xA (by omega))) l2⟩
  ·exact .inl ⟨g1,g2⟩
 ·rcases hold h1 with⟨p,c1,g0,g1,g2,g3,g4,g5⟩|⟨g1,_⟩
  ·rcases hold h2 with⟨q,c2,k0,k1,k2,k3,k4,k5⟩|⟨k1,_⟩
   ·rw[g0]at i1;rw[k0]at i2
    exact hrel.apart p q c1 c2 B base B' base' (hne h1 h2 hd g5 k5) g1 k1 (g2.trans ho) i1 i2
   ·rw[k1]at i2;cases i2
  ·rw[g1]at i1;cases i1
 ·rcases hold h1 with⟨p,c1,g0,g1,g2,g3,g4,g5⟩|⟨g1,_⟩
  ·rw[g0]at i1
   rintro(hf|⟨n',b',base',q1,q2,q3,q4⟩)
   ·exact hrel.froz p c1 B base g1 (g2.trans ho) i1 hf
   ·by_cases e:n'=p
    ·subst e;exact g4 q1
    ·exact hrel.apart n' p b' c1 B base' B base e q2 g1 q3 q4 i1 rfl
  ·rw[g1]at i1;cases i1
 ·rcases hB with hf|⟨n',b',base',q1,q2,q3,q4⟩
  ·exact hrel.fzlt B hf
  ·rcases hrel.blk n' b' q2 with⟨hv,_⟩|⟨B2,base2,cs,e1,fr,k1,k2,_⟩
   ·rw[hv]at q4;cases q4
   ·rw[k1]at q4;cases q4
    exact(xS.1 k2).1
 ·rcases hold hn with⟨p,c1,g0,g1,g2,g3,g4,g5⟩|⟨_,_,g3,_⟩
  ·rcases g5 with⟨hlt,rfl⟩|⟨hge',hs⟩
   ·obtain⟨q1,q2⟩:=hrel.glob p c1 g1 (g2.trans hq)
    exact⟨g0.trans q1,by rw[g3.1];exact q2⟩
   ·have:=(hc.high n b hge' hn).1
    rw[hq]at this;cases this
  ·rw[hq]at g3;cases g3
theorem Can.st{N:Nat}{σ:List (Option Nat)}{s:List Value}{H:AH}{sc:List Value}{C:AH}(hc:Can N σ s H sc C){A:Nat->Prop}{ι:Ren}{Bd:Nat}{a:Act}{w:World}(hst:St A ι s H Bd a w):
  St A (rnR (frz ι H (gone C σ)) N σ) sc C (N+σ.length) a w:=by
 refine⟨hc.rel hst.rel,⟨by rw[<-hc.len];exact hst.slots.1,fun i v v' g1 g2=> ?_⟩,hst.defers⟩
 have hlt:i<s.length:=by have:=(xR.1 g1).1;have:=hc.len;omega
 rcases hc.slot i v s[i] g1 (xA hlt)with rfl|hp
 ·exact .unk _
 ·exact VR.rq hst.rel hp (hst.slots.2 i _ v' (xA hlt) g2)
theorem Can.ni{N:Nat}{σ:List (Option Nat)}{s:List Value}{H:AH}{sc:List Value}{C:AH}(hc:Can N σ s H sc C):NI H C:=fun n b hn ho=>by
 rcases xM n N with hlt|hge
 ·obtain⟨b',h1,h2,h3⟩:=hc.low n b hlt hn
  exact⟨b',h1,h2.trans ho⟩
 ·have:=(hc.high n b hge hn).1
  rw[ho]at this;cases this
theorem Keep.rn{A:Nat->Prop}{ι ι':Ren}{w w':World}{N:Nat}{σ:List (Option Nat)}(k:Keep A ι w ι' w'):Keep A ι w (rnR ι' N σ) w':=⟨k.os,k.tape,k.output,k.size,k.block,k.rows,k.fz,k.fzA⟩
theorem Can.tr{P:Program}{N0:Nat}{c:Code}{Q:yY}{N:Nat}{σ:List (Option Nat)}{s:List Value}{H:AH}{Bd:Nat}{sc:List Value}{C:AH}(hN:N0<=N)(hc:Can N σ s H sc C)(h:Tr P N0 c Q sc C (N+σ.length)):Tr P N0 c Q s H Bd:=by
 intro hB A ι a w hst
 refine wp_mono (h (by omega) A _ a w (hc.st hst)) fun e a' w' ⟨ι',s2,H2,Bd2,g1,g2,g3,g4,g5,g6⟩=> ?_
 refine⟨ι',s2,H2,Bd2,g1,g2,g3,(Keep.rn (Keep.refl A w (zF ι H _).fz (hst.rel.frzA _))).trans g4,fun n hn=> ?_,NI.trans hc.ni g6⟩
 rw[g5 n hn,rnR_lt (by omega)];rfl
inductive Pth
 |s (t:Nat)
 |m (n i:Nat)
def nmV:Value->Option Nat
 | .slice (some a) _ _=>some a.block
 | .pointer (some a)=>some a.block
 |_=>none
def cellV(b:Option Blk)(i:Nat):Value:=match b with|some b=>(b.cells[i]?).getD unk|none=>unk
def srcs:List Pth->List Value->AH->List (Option Nat)
 |[],_,_=>[]
 | .s t::r,s,H=>nmV (sget s t)::srcs r s H
 | .m n i::r,s,H=>nmV (cellV (H n) i)::srcs r s H
theorem srcs_len(s:List Value)(H:AH):∀ps,(srcs ps s H).length=ps.length
 |[]=>rfl
 | .s t::r=>congrArg Nat.succ (srcs_len s H r)
 | .m n i::r=>congrArg Nat.succ (srcs_len s H r)
def mem(H:AH):List (Nat×Blk)->AH
 |[]=>H
 |(n,b)::r=>upd (mem H r) n (some b)
def ninM(n:Nat):List (Nat×Blk)->Prop
 |[]=>True
 |(m,_)::r=>m≠n/\ninM n r
theorem ninM_spec{H:AH}{n:Nat}(h:H n=none):∀ {l},ninM n l->mem H l n=none
 |[],_=>h
 |(m,b)::r,q=>by
  show upd (mem H r) m (some b) n=none
  rw[qD _ _ (fun e=>q.1 e.symm)];exact ninM_spec h q.2
def zR(H0:AH)(ml:List (Nat×Blk))(σ:List (Option Nat))(n:Nat):Prop:=free H0 n/\ninM n ml/\ntin n σ
theorem goneL_spec{H0:AH}{ml:List (Nat×Blk)}{σ:List (Option Nat)}{n:Nat}(h:zR H0 ml σ n):gone (mem H0 ml) σ n:=⟨ninM_spec h.1 h.2.1,h.2.2⟩
def FitQ(σ:List (Option Nat))(N:Nat)(S:Nat->Prop)(H:AH)(s:List Value):List (Nat×Value)->Prop
 |[]=>True
 |(i,v)::l=>RQ σ N S H v (sget s i)/\FitQ σ N S H s l
def lowQ(σ:List (Option Nat))(N:Nat)(S:Nat->Prop)(H:AH)(o:Bool)(cs:List Value):Option Blk->Prop
 |some b=>b.own=o/\rql σ N S H cs b.cells
 |none=>False
def hiQ(σ:List (Option Nat))(N:Nat)(S:Nat->Prop)(H:AH)(cs:List Value):Option (Option Nat)->Prop
 |some (some m)=>lowQ σ N S H true cs (H m)
 |some none=>cs=[]
 |none=>False
def blkQ(σ:List (Option Nat))(N:Nat)(S:Nat->Prop)(H:AH)(n:Nat)(b:Blk):Prop:=
 (n<N/\lowQ σ N S H b.own b.cells (H n))\/(N<=n/\b.own=true/\hiQ σ N S H b.cells σ[n-N]?)
def memQ(σ:List (Option Nat))(N:Nat)(S:Nat->Prop)(H:AH):List (Nat×Blk)->Prop
 |[]=>True
 |(n,b)::r=>blkQ σ N S H n b/\memQ σ N S H r
def sgQ(N:Nat)(H0:AH)(ml:List (Nat×Blk)):List (Option Nat)->Prop
 |[]=>True
 |some m::r=>(N<=m\/(free H0 m/\ninM m ml))/\ntin m r/\sgQ N H0 ml r
 |none::r=>sgQ N H0 ml r
def CanS(N:Nat)(σ:List (Option Nat))(s:List Value)(H:AH)(l:List (Nat×Value))(H0:AH)(ml:List (Nat×Blk)):Prop:=
 sgQ N H0 ml σ/\FitQ σ N (zR H0 ml σ) H s l/\memQ σ N (zR H0 ml σ) H ml
def CanT(N:Nat)(ps:List Pth)(s:List Value)(H:AH)(l:List (Nat×Value))(H0:AH)(ml:List (Nat×Blk)):Prop:=
 Le H0 H/\CanS N (srcs ps s H) s H l H0 ml
theorem RQ.mono{σ:List (Option Nat)}{N:Nat}{S S':Nat->Prop}{H:AH}(hS:∀n,S n->S' n){v u:Value}(h:RQ σ N S H v u):RQ σ N S' H v u:=by
 have hp:∀ {v u:Value},Pub H S u v->Pub H S' u v:=fun hp=>by
  induction hp with
  |same v=>exact .same v
  |agg hs _ ih=>exact .agg hs ih
  |tuple hs _ ih=>exact .tuple hs ih
  |empty=>exact .empty
  |lst a b c d e f _ ih=>exact .lst (hS _ a) b c d e f ih
 induction h with
 |same h=>exact .same h
 |pub a b=>exact .pub (hp a) b
 |sl h=>exact .sl h
 |ptr h=>exact .ptr h
 |nil h=>exact .nil h
 |agg hs _ ih=>exact .agg hs ih
 |tuple hs _ ih=>exact .tuple hs ih
theorem FitQ.get{σ:List (Option Nat)}{N:Nat}{S:Nat->Prop}{H:AH}{s:List Value}:∀ {l:List (Nat×Value)},FitQ σ N S H s l->∀i,lk l i unk=unk\/RQ σ N S H (lk l i unk) (sget s i)
 |[],_,i=> .inl rfl
 |(j,v)::l,h,i=>by
  unfold lk
  split
  ·rename_i e
   have e:j=i:=by simpa using e
   subst e
   exact .inr h.1
  ·exact FitQ.get h.2 i
theorem memQ_get{σ:List (Option Nat)}{N:Nat}{S:Nat->Prop}{H H0:AH}:∀ {l:List (Nat×Blk)},memQ σ N S H l->∀n b,mem H0 l n=some b->(H0 n=some b)\/blkQ σ N S H n b
 |[],_,n,b,h=> .inl h
 |(m,b')::r,hq,n,b,h=>by
  by_cases e:n=m
  ·subst e
   have:upd (mem H0 r) n (some b') n=some b:=h
   rw[qJ]at this
   cases this
   exact .inr hq.1
  ·have:upd (mem H0 r) m (some b') n=some b:=h
   rw[qD _ _ e]at this
   exact memQ_get hq.2 n b this
theorem sgQ_spec{N:Nat}{H0:AH}{ml:List (Nat×Blk)}:∀ {σ:List (Option Nat)},sgQ N H0 ml σ->(∀(i m:Nat),σ[i]? =some (some m)->N<=m\/mem H0 ml m=none)/\∀(i j m:Nat),σ[i]? =some (some m)->σ[j]? =some (some m)->i=j
 |[],_=>⟨fun i m h=>by simp at h,fun i j m h=>by simp at h⟩
 |none::r,h=>by
  obtain⟨h1,h2⟩:=sgQ_spec (σ:=r) h
  refine⟨fun i m hi=> ?_,fun i j m hi hj=> ?_⟩
  ·cases i with
   |zero=>simp at hi
   |succ i=>exact h1 i m (by simpa using hi)
  ·cases i with
   |zero=>simp at hi
   |succ i=>cases j with
    |zero=>simp at hj
    |succ j=>exact congrArg Nat.succ (h2 i j m (by simpa using hi) (by simpa using hj))
 |some q::r,h=>by
  obtain⟨h1,h2⟩:=sgQ_spec (σ:=r) h.2.2
  refine⟨fun i m hi=> ?_,fun i j m hi hj=> ?_⟩
  ·cases i with
   |zero=>
    simp only[wD,xE]at hi
    subst hi
    exact h.1.imp id fun g=>ninM_spec g.1 g.2
   |succ i=>exact h1 i m (by simpa using hi)
  ·cases i with
   |zero=>
    cases j with
    |zero=>rfl
    |succ j=>
     simp only[wD,xE]at hi
     subst hi
     exact absurd (by simpa using hj) (ntin_spec h.2.1 j)
   |succ i=>cases j with
    |zero=>
     simp only[wD,xE]at hj
     subst hj
     exact absurd (by simpa using hi) (ntin_spec h.2.1 i)
    |succ j=>exact congrArg Nat.succ (h2 i j m (by simpa using hi) (by simpa using hj))
theorem CanT.can{N:Nat}{ps:List Pth}{s:List Value}{H H0:AH}{l:List (Nat×Value)}{ml:List (Nat×Blk)}{n Bd:Nat}(hH:∀n b,H0 n=some b->n<N/\∀v∈b.cells,NB N v)(h:CanT N ps s H l H0 ml)(hn:s.length=n):Can N (srcs ps s H) s H (aS n unk l) (mem H0 ml):=by
 obtain⟨hle,h1,h2,h3⟩:=h
 obtain⟨g1,g2⟩:=sgQ_spec h1
 have hm:∀ {v u},RQ (srcs ps s H) N (zR H0 ml (srcs ps s H)) H v u->RQ (srcs ps s H) N (gone (mem H0 ml) (srcs ps s H)) H v u:=fun hq=>hq.mono fun _=>goneL_spec
 have hml:∀ {xs ys},rql (srcs ps s H) N (zR H0 ml (srcs ps s H)) H xs ys->rql (srcs ps s H) N (gone (mem H0 ml) (srcs ps s H)) H xs ys:=fun hq=>⟨hq.1,fun i v u a b=>hm (hq.2 i v u a b)⟩
 have hlow:∀ {o cs b},lowQ (srcs ps s H) N (zR H0 ml (srcs ps s H)) H o cs b->∃b',b=some b'/\b'.own=o/\rql (srcs ps s H) N (gone (mem H0 ml) (srcs ps s H)) H cs b'.cells:=fun{o cs b} hq=>by
  cases b with
  |none=>exact hq.elim
  |some b=>exact⟨b,rfl,hq.1,hml hq.2⟩
 refine⟨by rw[aS_length,hn],fun i v u e1 e2=> ?_,fun k b hk hb=> ?_,fun k b hk hb=> ?_,g1,g2⟩
 ·rw[aS_get]at e1
  split at e1
  ·cases e1
   refine(h2.get i).imp id fun hq=> ?_
   have:sget s i=u:=by rw[zE,xF,e2];rfl
   rw[<-this];exact hm hq
  ·cases e1
 ·rcases memQ_get h3 k b hb with h0|hq
  ·exact⟨b,hle k b h0,rfl,rfl,fun i v u e1 e2=>by rw[e1]at e2;cases e2;exact .same ((hH k b h0).2 v (wC e1))⟩
  ·rcases hq with⟨_,hq⟩|⟨hge,_⟩
   ·obtain⟨b',a1,a2,a3⟩:=hlow hq
    exact⟨b',a1,a2,a3⟩
   ·omega
 ·rcases memQ_get h3 k b hb with h0|hq
  ·exact absurd (hH k b h0).1 (by omega)
  ·rcases hq with⟨hlt,_⟩|⟨_,ho,hq⟩
   ·omega
   ·refine⟨ho,?_⟩
    unfold hiQ at hq
    split at hq
    ·rename_i m hs
     obtain⟨b',a1,a2,a3⟩:=hlow hq
     exact .inr ⟨m,b',hs,a1,a2,a3⟩
    ·rename_i hs
     exact .inl ⟨hs,hq⟩
    ·exact hq.elim
theorem yM{P:Program}{N0:Nat}{c:Code}{Q:yY}{s:List Value}{H H0:AH}{B0 Bd:Nat}{X:Type}(hb:HB H0 B0)(hB0:B0<=Bd)(k:Nat)(ps:List Pth)(hk:ps.length=k)(I:X->Prop)(μ:X->Nat)(sl:Nat->X->List (Nat×Value))(ml:Nat->X->List (Nat×Blk))(x0:X)(h0:I x0)
  (hs:∀N,Bd<=N->CanT N ps s H (sl N x0) H0 (ml N x0))
  (round:∀N x,Bd<=N->I x->HB (mem H0 (ml N x)) (N+k)->∀F:List Value->AH->Nat->Prop,(∀y s' H' B',μ y<μ x->I y->s'.length=s.length->CanT N ps s' H' (sl N y) H0 (ml N y)->F s' H' B')->Tr P (N+k) c (thenQ F Q) (aS s.length unk (sl N x)) (mem H0 (ml N x)) (N+k)):Tr P N0 (.loop c) Q s H Bd:=by
 intro hN A ι a w hst
 have hH:∀n b,H0 n=some b->n<Bd/\∀v∈b.cells,NB Bd v:=fun n b hn=>⟨Nat.lt_of_lt_of_le (zI hb hn) hB0,fun v hv=>(hb.nb n b hn v hv).up hB0⟩
 let Inv:X->Act->World->Prop:=fun x a' w'=>∃ι',I x/\St A ι' (aS s.length unk (sl Bd x)) (mem H0 (ml Bd x)) (Bd+k) a' w'/\Keep A ι w ι' w'/\Agr N0 ι ι'/\NI H (mem H0 (ml Bd x))
 have hagr:∀ {ι:Ren} {σ:List (Option Nat)} {H:AH} {S:Nat->Prop} {N:Nat},N0<=N->Agr N0 ι (rnR (frz ι H S) N σ):=fun hN n hn=>(rnR_lt (by omega)).trans rfl
 refine wp_loop (I:=fun a' w'=>∃x,Inv x a' w') (μ:=fun a' w'=>leastN fun n=>∃x,μ x=n/\Inv x a' w') ?_ ?_
 ·have hc:=(hs Bd (xC _)).can (Bd:=Bd) hH (n:=s.length) rfl
  have h1:=hc.st hst
  rw[srcs_len,hk]at h1
  exact⟨x0,_,h0,h1,Keep.rn (Keep.refl A w (zF ι H _).fz (hst.rel.frzA _)),hagr hN,hc.ni⟩
 ·rintro a1 w1 ⟨x1,hx1⟩
  obtain⟨⟨x,hμ,ι1,hI,hst1,hk1,hag1,hni1⟩,hmin⟩:=leastN_spec (p:=fun n=>∃x,μ x=n/\Inv x a1 w1) ⟨x1,rfl,hx1⟩
  refine wp_mono (round Bd x (xC _) hI hst1.rel.hb (fun s' H' B'=>∃y,μ y<μ x/\I y/\s'.length=s.length/\CanT Bd ps s' H' (sl Bd y) H0 (ml Bd y)) (fun y s' H' B' q1 q2 q3 q4=>⟨y,q1,q2,q3,q4⟩) (xC _) A ι1 a1 w1 hst1) fun e a2 w2 ⟨ι2,s2,H2,Bd2,h1,h2,h3,h4,h5,h6⟩=> ?_
  have hag2:Agr N0 ι ι2:=fun n hn=>(h5 n (by omega)).trans (hag1 n hn)
  cases e with
  |normal=>
   obtain⟨y,hlt,hy,hl,hct⟩:=h1
   have hc:=hct.can (Bd:=Bd) hH hl
   have q1:=hc.st h3
   rw[srcs_len,hk]at q1
   have hinv:Inv y a2 w2:=⟨_,hy,q1,(hk1.trans h4).trans (Keep.rn (Keep.refl A w2 (zF ι2 H2 _).fz (h3.rel.frzA _))),fun n hn=>(hagr hN n hn).trans (hag2 n hn),(hni1.trans h6).trans hc.ni⟩
   refine⟨⟨y,hinv⟩,?_⟩
   rw[<-hμ]
   exact Nat.lt_of_le_of_lt ((leastN_spec (p:=fun n=>∃x,μ x=n/\Inv x a2 w2) ⟨y,rfl,hinv⟩).2 _ ⟨y,rfl,hinv⟩) hlt
  |_=>exact⟨ι2,s2,H2,Bd2,h1,by omega,h3,hk1.trans h4,hag2,hni1.trans h6⟩
variable {σ:List (Option Nat)} {N:Nat} {S:Nat->Prop} {H:AH}
@[go_sem] theorem jC(H:AH):mem H []=H:=(rfl)
@[go_sem] theorem mem_cons(H:AH)(n:Nat)(b:Blk)(r:List (Nat×Blk)):mem H ((n,b)::r)=upd (mem H r) n (some b):=(rfl)
@[go_sem] theorem CanT_eq(ps:List Pth)(s:List Value)(H:AH)(l:List (Nat×Value))(H0:AH)(ml:List (Nat×Blk)):CanT N ps s H l H0 ml=(Le H0 H/\CanS N (srcs ps s H) s H l H0 ml):=(rfl)
@[go_sem] theorem CanS_c(σ:List (Option Nat))(o:Option Nat)(s:List Value)(H:AH)(l:List (Nat×Value))(H0:AH)(ml:List (Nat×Blk)):CanS N (o::σ) s H l H0 ml=(sgQ N H0 ml (o::σ)/\FitQ (o::σ) N (zR H0 ml (o::σ)) H s l/\memQ (o::σ) N (zR H0 ml (o::σ)) H ml):=(rfl)
@[go_sem] theorem CanS_n(s:List Value)(H:AH)(l:List (Nat×Value))(H0:AH)(ml:List (Nat×Blk)):CanS N [] s H l H0 ml=(FitQ [] N (zR H0 ml []) H s l/\memQ [] N (zR H0 ml []) H ml):=by simp[CanS,sgQ]
@[go_sem] theorem srcs_nil(s:List Value)(H:AH):srcs [] s H=[]:=(rfl)
@[go_sem] theorem srcs_s(t:Nat)(r:List Pth)(s:List Value)(H:AH):srcs (.s t::r) s H=nmV (sget s t)::srcs r s H:=(rfl)
@[go_sem] theorem srcs_m(n i:Nat)(r:List Pth)(s:List Value)(H:AH):srcs (.m n i::r) s H=nmV (cellV (H n) i)::srcs r s H:=(rfl)
@[go_sem] theorem nmV_sl(n o:Nat)(k:Option Nat)(l c:Nat):nmV (.slice (some ⟨n,o,k⟩) l c)=some n:=(rfl)
@[go_sem] theorem nmV_ptr(n o:Nat)(k:Option Nat):nmV (.pointer (some ⟨n,o,k⟩))=some n:=(rfl)
@[go_sem] theorem nmV_nil(l c:Nat):nmV (.slice none l c)=none:=(rfl)
@[go_sem] theorem cellV_0(x:Value)(r:List Value)(o:Bool):cellV (some ⟨x::r,o⟩) 0=x:=(rfl)
@[go_sem] theorem cellV_s(x:Value)(r:List Value)(o:Bool)(i:Nat):cellV (some ⟨x::r,o⟩) (i+1)=cellV (some ⟨r,o⟩) i:=(rfl)
@[go_sem] theorem FitQ_nil(s:List Value):FitQ σ N S H s []=True:=(rfl)
@[go_sem] theorem FitQ_cons(s:List Value)(i:Nat)(v:Value)(l:List (Nat×Value)):FitQ σ N S H s ((i,v)::l)=(RQ σ N S H v (sget s i)/\FitQ σ N S H s l):=(rfl)
@[go_sem] theorem memQ_nil:memQ σ N S H []=True:=(rfl)
@[go_sem] theorem memQ_cons(n:Nat)(b:Blk)(r:List (Nat×Blk)):memQ σ N S H ((n,b)::r)=(blkQ σ N S H n b/\memQ σ N S H r):=(rfl)
@[go_sem high] theorem blkQ_hi (i:Nat) (b:Blk):blkQ σ N S H (N+i) b=(b.own=true/\hiQ σ N S H b.cells σ[i]?):=by
 unfold blkQ
 rw[Nat.add_sub_cancel_left]
 exact propext ⟨fun h=>h.elim (fun h=>absurd h.1 (by omega)) fun h=>h.2,fun h=> .inr ⟨by omega,h⟩⟩
@[go_sem high] theorem blkQ_hi0 (b:Blk):blkQ σ N S H N b=(b.own=true/\hiQ σ N S H b.cells σ[0]?):=blkQ_hi 0 b
@[go_sem low] theorem blkQ_low {n:Nat} (h:n<N) (b:Blk):blkQ σ N S H n b=lowQ σ N S H b.own b.cells (H n):=by
 unfold blkQ
 exact propext ⟨fun q=>q.elim (fun q=>q.2) fun q=>absurd q.1 (by omega),fun q=> .inl ⟨h,q⟩⟩
@[go_sem] theorem lowQ_some(o o':Bool)(cs cs':List Value):lowQ σ N S H o cs (some ⟨cs',o'⟩)=(o'=o/\rql σ N S H cs cs'):=(rfl)
@[go_sem] theorem hiQ_m(cs:List Value)(m:Nat):hiQ σ N S H cs (some (some m))=lowQ σ N S H true cs (H m):=(rfl)
@[go_sem] theorem hiQ_n(cs:List Value):hiQ σ N S H cs (some none)=(cs=[]):=(rfl)
attribute [go_sem] wD wM
@[go_sem] theorem sgQ_nil(H0:AH)(ml:List (Nat×Blk)):sgQ N H0 ml []=True:=(rfl)
@[go_sem] theorem sgQ_none(H0:AH)(ml:List (Nat×Blk))(r:List (Option Nat)):sgQ N H0 ml (none::r)=sgQ N H0 ml r:=(rfl)
@[go_sem] theorem sgQ_lo(H0:AH)(ml:List (Nat×Blk))(m:Nat)(r:List (Option Nat)):sgQ N H0 ml (some m::r)=((N<=m\/(free H0 m/\ninM m ml))/\ntin m r/\sgQ N H0 ml r):=(rfl)
@[go_sem] theorem ntin_nil(n:Nat):ntin n []=True:=(rfl)
@[go_sem] theorem ntin_some(n m:Nat)(r:List (Option Nat)):ntin n (some m::r)=(m≠n/\ntin n r):=(rfl)
@[go_sem] theorem ntin_none(n:Nat)(r:List (Option Nat)):ntin n (none::r)=ntin n r:=(rfl)
@[go_sem] theorem ninM_nil(n:Nat):ninM n []=True:=(rfl)
@[go_sem] theorem ninM_cons(n m:Nat)(b:Blk)(r:List (Nat×Blk)):ninM n ((m,b)::r)=(m≠n/\ninM n r):=(rfl)
@[go_sem] theorem goneL_eq(H0:AH)(ml:List (Nat×Blk))(n:Nat):zR H0 ml σ n=(free H0 n/\ninM n ml/\ntin n σ):=(rfl)
@[go_sem] theorem pr_eta{α β:Type}(p:α×β):(p.1,p.2)=p:=(rfl)
theorem rq_inv{v u:Value}(hv:∀ {k:Nat} {rows:Array Value},v≠ .func (.yield k) #[] rows)(h1:∀xs,v≠ .agg xs)(h2:∀xs,v≠ .tuple xs)(h3:∀n o k l c,v≠ .slice (some ⟨n,o,some k⟩) l c)(h4:∀n o,N<=n->v≠ .pointer (some ⟨n,o,none⟩))(h:RQ σ N S H v u):v=u:=by
 cases h with
 |same h=>rfl
 |pub hp h=>cases hp with
  |same=>rfl
  |agg=>exact absurd rfl (h1 _)
  |tuple=>exact absurd rfl (h2 _)
  |empty=>exact absurd rfl hv
  |lst=>exact absurd rfl hv
 |sl=>exact absurd rfl (h3 _ _ _ _ _)
 |ptr=>exact absurd rfl (h4 _ _ (xB _ _))
 |nil=>exact absurd rfl (h3 _ _ _ _ _)
 |agg=>exact absurd rfl (h1 _)
 |tuple=>exact absurd rfl (h2 _)
@[go_sem] theorem rq_int(k q:IntKind)(a b:Int):RQ σ N S H (.int k a) (.int q b)=(k=q/\a=b):=
 propext ⟨fun h=>by have:=rq_inv (by simp) (by simp) (by simp) (by simp) (by simp) h;simpa using this,fun⟨h1,h2⟩=>by subst h1;subst h2;exact .same (.int _ _)⟩
@[go_sem] theorem rq_bool(a b:Bool):RQ σ N S H (.bool a) (.bool b)=(a=b):=
 propext ⟨fun h=>by have:=rq_inv (by simp) (by simp) (by simp) (by simp) (by simp) h;simpa using this,fun h=>by subst h;exact .same (.bool _)⟩
@[go_sem] theorem rq_str(a b:ByteArray):RQ σ N S H (.string a) (.string b)=(a=b):=
 propext ⟨fun h=>by have:=rq_inv (by simp) (by simp) (by simp) (by simp) (by simp) h;simpa using this,fun h=>by subst h;exact .same (.string _)⟩
@[go_sem] theorem rq_ptr{n:Nat}(h:n<N)(o m p:Nat):RQ σ N S H (.pointer (some ⟨n,o,none⟩)) (.pointer (some ⟨m,p,none⟩))=(m=n/\p=o):=
 propext ⟨fun h=>by have:=rq_inv (by simp) (by simp) (by simp) (by simp) (fun a b hab e=>by simp only[Value.pointer.injEq,xE,Addr.mk.injEq,and_true]at e;omega) h;simp only[Value.pointer.injEq,xE,Addr.mk.injEq,and_true]at this;exact⟨this.1.symm,this.2.symm⟩,fun⟨h1,h2⟩=>by subst h1;subst h2;exact .same (.ptr h)⟩
@[go_sem] theorem rq_ptrN{i o m p:Nat}:RQ σ N S H (.pointer (some ⟨N+i,o,none⟩)) (.pointer (some ⟨m,p,none⟩))=(σ[i]? =some (some m)/\p=o):=by
 refine propext ⟨fun h=> ?_,fun⟨h1,h2⟩=>by subst h2;exact .ptr h1⟩
 generalize hv:Value.pointer (some ⟨N+i,o,none⟩)=v at h
 generalize hu:Value.pointer (some ⟨m,p,none⟩)=u at h
 cases h with
 |same h=>
  subst hv
  cases h with
  |ptr h=>omega
 |pub hp h=>
  subst hv
  cases h with
  |ptr h=>omega
 |ptr h=>
  simp only[Value.pointer.injEq,xE,Addr.mk.injEq,and_true]at hv hu
  obtain⟨h1,rfl⟩:=hv
  obtain⟨rfl,rfl⟩:=hu
  obtain rfl:i=_:=Nat.add_left_cancel h1
  exact⟨h,rfl⟩
 |_=>cases hv
@[go_sem] theorem rq_ptrN0{o m p:Nat}:RQ σ N S H (.pointer (some ⟨N,o,none⟩)) (.pointer (some ⟨m,p,none⟩))=(σ[0]? =some (some m)/\p=o):=rq_ptrN (i:=0)
@[go_sem] theorem rq_tuple(xs ys:List Value):RQ σ N S H (.tuple xs.toArray) (.tuple ys.toArray)=rql σ N S H xs ys:=by
 refine propext ⟨fun h=> ?_,fun⟨h1,h2⟩=> .tuple (by simpa using h1) fun i v u a b=>h2 i v u (by simpa using a) (by simpa using b)⟩
 generalize hv:Value.tuple xs.toArray=v at h
 generalize hu:Value.tuple ys.toArray=u at h
 cases h with
 |same h=>
  subst hv
  simp only[Value.tuple.injEq,jD]at hu
  subst hu
  cases h with
  |tuple h=>exact⟨rfl,fun i v u a b=>by rw[a]at b;cases b;exact .same (h i v (by simpa using a))⟩
 |pub hp h=>
  subst hv;subst hu
  cases h with
  |tuple h=>
   generalize hv:Value.tuple xs.toArray=v at hp
   generalize hu:Value.tuple ys.toArray=u at hp
   cases hp with
   |same=>
    subst hv
    simp only[Value.tuple.injEq,jD]at hu
    subst hu
    exact⟨rfl,fun i v u a b=>by rw[a]at b;cases b;exact .same (h i v (by simpa using a))⟩
   |tuple hs h2=>
    cases hv;cases hu
    exact⟨by simpa using hs.symm,fun i v u a b=> .pub (h2 i u v (by simpa using b) (by simpa using a)) (h i v (by simpa using a))⟩
   |agg=>cases hv
   |empty=>cases hv
   |lst=>cases hv
 |tuple hs h=>
  cases hv;cases hu
  exact⟨by simpa using hs,fun i v u a b=>h i v u (by simpa using a) (by simpa using b)⟩
 |_=>cases hv
theorem rq_nb{B0:Nat}{v:Value}(h:NB B0 v)(hle:B0<=N):RQ σ N S H v v=True:=eq_true (.same (h.up hle))
@[go_sem] theorem rq_nils:RQ σ N S H (.slice none 0 0) (.slice none 0 0)=True:=eq_true (.same .nils)
section
variable {α:Type} [Enc α]
@[go_sem] theorem rq_lst(xs ys:List α):RQ σ N S H (lst xs) (lst ys)=(xs=ys):=by
 refine propext ⟨fun h=> ?_,fun h=>by subst h;exact .same (lst_nb _ _)⟩
 have:lst xs=lst ys:=by
  unfold lst LST at h ⊢
  generalize hv:Value.func (.yield (Enc.k α)) #[] _=v at h ⊢
  generalize hu:Value.func (.yield (Enc.k α)) #[] _=u at h ⊢
  cases h with
  |same h=>rfl
  |pub hp h=>subst hu;cases hp with
   |same=>rfl
   |_=>cases hv
  |_=>cases hv
 exact lst_inj.mp this
@[go_sem] theorem rq_lnil(xs:List α):RQ σ N S H (lst xs) (.slice none 0 0)=(xs=[]):=by
 refine propext ⟨fun h=> ?_,fun h=>by subst h;exact .pub .empty (lst_nb _ _)⟩
 unfold lst LST at h
 generalize hv:Value.func (.yield (Enc.k α)) #[] _=v at h
 cases h with
 |same h=>cases hv
 |pub hp h=>cases hp with
  |same=>cases hv
  |empty=>
   simp only[Value.func.injEq]at hv
   have:=hv.2.2
   simpa using this
 |_=>cases hv
theorem rq_pubI{m c k len:Nat}{cells:List Value}{xs:List α}[hk:EncK α k](hb:H m=some ⟨cells,true⟩)(hc:cells=qO xs)(hS:S m)(hl:len=xs.length):RQ σ N S H (lst xs) (.slice (some ⟨m,0,some k⟩) len c):=
 .pub (qV (by rw[hb,hc]) hS hk.h hl) (lst_nb _ _)
@[go_sem] theorem rq_pub{m c k len:Nat}{xs:List α}[hk:EncK α k](hb:H m=some ⟨qO xs,true⟩)(hS:S m)(hl:len=xs.length):RQ σ N S H (lst xs) (.slice (some ⟨m,0,some k⟩) len c)=True:=eq_true (rq_pubI hb rfl hS hl)
end
theorem rq_slI{n o k l c m p q l' c':Nat}(hn:N<=n):RQ σ N S H (.slice (some ⟨n,o,some k⟩) l c) (.slice (some ⟨m,p,some q⟩) l' c')=(σ[n-N]? =some (some m)/\p=o/\q=k/\l'=l/\c=l+1):=by
 refine propext ⟨fun h=> ?_,fun⟨h1,h2,h3,h4,h5⟩=> ?_⟩
 ·generalize hv:Value.slice (some ⟨n,o,some k⟩) l c=v at h
  generalize hu:Value.slice (some ⟨m,p,some q⟩) l' c'=u at h
  cases h with
  |same h=>
   subst hv
   cases h with
   |sl h=>omega
  |pub hp h=>
   subst hv
   cases h with
   |sl h=>omega
  |sl h=>
   simp only[xY,xE,Addr.mk.injEq]at hv hu
   obtain⟨⟨rfl,rfl,rfl⟩,rfl,rfl⟩:=hv
   obtain⟨⟨rfl,rfl,rfl⟩,rfl,rfl⟩:=hu
   rw[Nat.add_sub_cancel_left]
   exact⟨h,rfl,rfl,rfl,rfl⟩
  |nil h=>cases hu
  |ptr=>cases hv
  |agg=>cases hv
  |tuple=>cases hv
 ·subst h2;subst h3;subst h4;subst h5
  have e:n=N+(n-N):=by omega
  rw[e]
  exact .sl h1
@[go_sem] theorem rq_sl{i o k l c m p q l' c':Nat}:RQ σ N S H (.slice (some ⟨N+i,o,some k⟩) l c) (.slice (some ⟨m,p,some q⟩) l' c')=(σ[i]? =some (some m)/\p=o/\q=k/\l'=l/\c=l+1):=by
 rw[rq_slI (by omega),Nat.add_sub_cancel_left]
@[go_sem] theorem rq_sl0{o k l c m p q l' c':Nat}:RQ σ N S H (.slice (some ⟨N,o,some k⟩) l c) (.slice (some ⟨m,p,some q⟩) l' c')=(σ[0]? =some (some m)/\p=o/\q=k/\l'=l/\c=l+1):=rq_sl (i:=0)
theorem rq_sln{i k l c:Nat}:RQ σ N S H (.slice (some ⟨N+i,0,some k⟩) l c) (.slice none 0 0)=(σ[i]? =some none/\l=0/\c=1):=by
 refine propext ⟨fun h=> ?_,fun⟨h1,h2,h3⟩=>by subst h2;subst h3;exact .nil h1⟩
 generalize hv:Value.slice (some ⟨N+i,0,some k⟩) l c=v at h
 generalize hu:Value.slice none 0 0=u at h
 cases h with
 |same h=>subst hv;cases hu
 |pub hp h=>subst hv;cases h with|sl h=>omega
 |sl h=>cases hu
 |nil h=>
  simp only[xY,xE,Addr.mk.injEq]at hv
  obtain⟨⟨h1,_,_⟩,rfl,rfl⟩:=hv
  obtain rfl:i=_:=Nat.add_left_cancel h1
  exact⟨h,rfl,rfl⟩
 |ptr=>cases hv
 |agg=>cases hv
 |tuple=>cases hv
@[go_sem] theorem rq_slN{i k l c:Nat}:RQ σ N S H (.slice (some ⟨N+i,0,some k⟩) l c) (.slice none 0 0)=(σ[i]? =some none/\l=0/\c=1):=rq_sln
@[go_sem] theorem rq_slN0{k l c:Nat}:RQ σ N S H (.slice (some ⟨N,0,some k⟩) l c) (.slice none 0 0)=(σ[0]? =some none/\l=0/\c=1):=rq_sln (i:=0)
@[go_sem low] theorem rq_slL {n:Nat} (hn:n<N) {o k l c m p q l' c':Nat}:RQ σ N S H (.slice (some ⟨n,o,some k⟩) l c) (.slice (some ⟨m,p,some q⟩) l' c')=(m=n/\p=o/\q=k/\l'=l/\c'=c):=by
 refine propext ⟨fun h=> ?_,fun⟨h1,h2,h3,h4,h5⟩=>by subst h1;subst h2;subst h3;subst h4;subst h5;exact .same (.sl hn)⟩
 generalize hv:Value.slice (some ⟨n,o,some k⟩) l c=v at h
 generalize hu:Value.slice (some ⟨m,p,some q⟩) l' c'=u at h
 have hh:v=u->m=n/\p=o/\q=k/\l'=l/\c'=c:=fun e=>by
  rw[<-hv,<-hu]at e
  simp only[xY,xE,Addr.mk.injEq]at e
  obtain⟨⟨rfl,rfl,rfl⟩,rfl,rfl⟩:=e
  exact⟨rfl,rfl,rfl,rfl,rfl⟩
 cases h with
 |same h=>exact hh rfl
 |pub hp h=>subst hv;cases hp with|same=>exact hh rfl
 |sl h=>
  simp only[xY,xE,Addr.mk.injEq]at hv
  have:=hv.1.1
  omega
 |ptr=>cases hv
 |nil h=>cases hu
 |agg=>cases hv
 |tuple=>cases hv
@[go_sem] theorem rql_nil:rql σ N S H [] []=True:=eq_true ⟨rfl,fun i v u h=>by simp at h⟩
@[go_sem] theorem rql_cons(x y:Value)(xs ys:List Value):rql σ N S H (x::xs) (y::ys)=(RQ σ N S H x y/\rql σ N S H xs ys):=by
 refine propext ⟨fun⟨h1,h2⟩=>⟨h2 0 x y rfl rfl,by simpa using h1,fun i v u a b=>h2 (i+1) v u (by simpa using a) (by simpa using b)⟩,fun⟨h1,h2,h3⟩=>⟨by simp[h2],fun i v u a b=> ?_⟩⟩
 cases i with
 |zero=>cases a;cases b;exact h1
 |succ i=>exact h3 i v u (by simpa using a) (by simpa using b)
theorem rql_flat{α:Type}[Enc α]{xs ys:List α}(h:xs=ys):rql σ N S H (qO xs) (qO ys):=by
 subst h
 exact⟨rfl,fun i v u a b=>by rw[a]at b;cases b;exact .same (flat_nb N xs v (wC a))⟩
theorem rql_app{a b c d:List Value}(h:rql σ N S H a b)(k:rql σ N S H c d):rql σ N S H (a++c) (b++d):=by
 refine⟨by simp[h.1,k.1],fun i v u q1 q2=> ?_⟩
 rw[List.getElem?_append]at q1 q2
 by_cases hi:i<a.length
 ·rw[if_pos hi]at q1;rw[if_pos (by rw[<-h.1];exact hi)]at q2;exact h.2 i v u q1 q2
 ·rw[if_neg hi]at q1;rw[if_neg (by rw[<-h.1];exact hi),<-h.1]at q2;exact k.2 _ v u q1 q2
@[go_sem] theorem rql_flat_eq{α:Type}[Enc α](xs:List α):rql σ N S H (qO xs) (qO xs)=True:=eq_true (rql_flat rfl)
@[go_sem] theorem rql_flat_app{α:Type}[Enc α](xs:List α)(c d:List Value):rql σ N S H (qO xs++c) (qO xs++d)=rql σ N S H c d:=by
 refine propext ⟨fun h=>⟨by have:=h.1;simpa using this,fun i v u a b=> ?_⟩,fun h=>rql_app (rql_flat rfl) h⟩
 refine h.2 ((qO xs).length+i) v u ?_ ?_
 ·rw[wB (by omega),Nat.add_sub_cancel_left];exact a
 ·rw[wB (by omega),Nat.add_sub_cancel_left];exact b
@[go_sem] theorem rq_agg(xs ys:List Value):RQ σ N S H (.agg xs.toArray) (.agg ys.toArray)=rql σ N S H xs ys:=by
 refine propext ⟨fun h=> ?_,fun⟨h1,h2⟩=> .agg (by simpa using h1) fun i v u a b=>h2 i v u (by simpa using a) (by simpa using b)⟩
 generalize hv:Value.agg xs.toArray=v at h
 generalize hu:Value.agg ys.toArray=u at h
 cases h with
 |same h=>
  subst hv
  simp only[Value.agg.injEq,jD]at hu
  subst hu
  cases h with
  |agg h=>exact⟨rfl,fun i v u a b=>by rw[a]at b;cases b;exact .same (h i v (by simpa using a))⟩
 |pub hp h=>
  subst hv;subst hu
  cases h with
  |agg h=>
   generalize hv:Value.agg xs.toArray=v at hp
   generalize hu:Value.agg ys.toArray=u at hp
   cases hp with
   |same=>
    subst hv
    simp only[Value.agg.injEq,jD]at hu
    subst hu
    exact⟨rfl,fun i v u a b=>by rw[a]at b;cases b;exact .same (h i v (by simpa using a))⟩
   |agg hs h2=>
    cases hv;cases hu
    exact⟨by simpa using hs.symm,fun i v u a b=> .pub (h2 i u v (by simpa using b) (by simpa using a)) (h i v (by simpa using a))⟩
   |tuple=>cases hv
   |empty=>cases hv
   |lst=>cases hv
 |sl=>cases hv
 |ptr=>cases hv
 |nil=>cases hv
 |agg hs h=>
  cases hv;cases hu
  exact⟨by simpa using hs,fun i v u a b=>h i v u (by simpa using a) (by simpa using b)⟩
 |tuple=>cases hv
theorem Tr.to{P:Program}{N0:Nat}{c:Code}{Q:yY}{s:List Value}{H H0:AH}{B0 Bd:Nat}(hb:HB H0 B0)(hB0:B0<=Bd)(k:Nat)(ps:List Pth)(hk:ps.length=k)(sl:Nat->List (Nat×Value))(ml:Nat->List (Nat×Blk))
  (hs:∀N,Bd<=N->CanT N ps s H (sl N) H0 (ml N)) (h:∀N,Bd<=N->HB (mem H0 (ml N)) (N+k)->Tr P N0 c Q (aS s.length unk (sl N)) (mem H0 (ml N)) (N+k)):Tr P N0 c Q s H Bd:=by
 intro hN A ι a w hst
 have hH:∀n b,H0 n=some b->n<Bd/\∀v∈b.cells,NB Bd v:=fun n b hn=>⟨Nat.lt_of_lt_of_le (zI hb hn) hB0,fun v hv=>(hb.nb n b hn v hv).up hB0⟩
 have hc:=(hs Bd (xC _)).can (Bd:=Bd) hH (n:=s.length) rfl
 have h1:=hc.st hst
 have h2:=h Bd (xC _) (by have:=h1.rel.hb;rw[srcs_len,hk]at this;exact this)
 exact Can.tr hN hc (by rw[srcs_len,hk];exact h2) hN A ι a w hst
theorem canew{P:Program}{f:FuncId}{args:List Value}{H:AH}{Bd:Nat}{post:Value->AH->Nat->Prop}
  (h:SCalls P f args H Bd fun r H' _=>∃σ C r0,Can Bd σ [r] H' [r0] C/\r0≠unk/\post r0 C (Bd+σ.length)):SCalls P f args H Bd post:=by
 refine⟨h.1,fun A ι vs w hr hs=> ?_⟩
 refine(h.2 A ι vs w hr hs).mono fun e w' ⟨v,r,ι',H',Bd',he,⟨σ,C,r0,hc,hu,hK⟩,hB,hrel,hvr,hkp,hag,hni⟩=> ?_
 refine⟨v,r0,rnR (frz ι' H' (gone C σ)) Bd σ,C,Bd+σ.length,he,hK,xB _ _,hc.rel hrel,?_,hkp.trans (Keep.rn (Keep.refl A w' (zF ι' H' _).fz (hrel.frzA _))),fun n hn=>(rnR_lt hn).trans (hag n hn),hni.trans hc.ni⟩
 rcases hc.slot 0 r0 r rfl rfl with h|hp
 ·exact absurd h hu
 ·exact VR.rq hrel hp hvr
def CanW(N:Nat)(σ:List (Option Nat))(v:Value)(H:AH)(r0:Value)(G:AH)(ml:List (Nat×Blk)):Prop:=sgQ N G ml σ/\RQ σ N (zR G ml σ) H r0 v/\memQ σ N (zR G ml σ) H ml
def CanV(N:Nat)(ps:List Pth)(v:Value)(s:List Value)(H:AH)(r0:Value)(G:AH)(ml:List (Nat×Blk)):Prop:=Le G H/\CanW N (srcs ps s H) v H r0 G ml
theorem CanV.can{N:Nat}{ps:List Pth}{v:Value}{s:List Value}{H:AH}{r0:Value}{G:AH}{ml:List (Nat×Blk)}(hH:∀n b,G n=some b->n<N/\∀v∈b.cells,NB N v)(h:CanV N ps v s H r0 G ml):Can N (srcs ps s H) [v] H [r0] (mem G ml):=by
 obtain⟨hle,h1,h2,h3⟩:=h
 obtain⟨g1,g2⟩:=sgQ_spec h1
 have hm:∀ {v u},RQ (srcs ps s H) N (zR G ml (srcs ps s H)) H v u->RQ (srcs ps s H) N (gone (mem G ml) (srcs ps s H)) H v u:=fun hq=>hq.mono fun _=>goneL_spec
 have hml:∀ {xs ys},rql (srcs ps s H) N (zR G ml (srcs ps s H)) H xs ys->rql (srcs ps s H) N (gone (mem G ml) (srcs ps s H)) H xs ys:=fun hq=>⟨hq.1,fun i v u a b=>hm (hq.2 i v u a b)⟩
 have hlow:∀ {o cs b},lowQ (srcs ps s H) N (zR G ml (srcs ps s H)) H o cs b->∃b',b=some b'/\b'.own=o/\rql (srcs ps s H) N (gone (mem G ml) (srcs ps s H)) H cs b'.cells:=fun{o cs b} hq=>by
  cases b with
  |none=>exact hq.elim
  |some b=>exact⟨b,rfl,hq.1,hml hq.2⟩
 refine⟨rfl,fun i v' u e1 e2=> ?_,fun k b hk hb=> ?_,fun k b hk hb=> ?_,g1,g2⟩
 ·cases i with
  |zero=>cases e1;cases e2;exact .inr (hm h2)
  |succ i=>simp at e1
 ·rcases memQ_get h3 k b hb with h0|hq
  ·exact⟨b,hle k b h0,rfl,rfl,fun i v u e1 e2=>by rw[e1]at e2;cases e2;exact .same ((hH k b h0).2 v (wC e1))⟩
  ·rcases hq with⟨_,hq⟩|⟨hge,_⟩
   ·obtain⟨b',a1,a2,a3⟩:=hlow hq
    exact⟨b',a1,a2,a3⟩
   ·omega
 ·rcases memQ_get h3 k b hb with h0|hq
  ·exact absurd (hH k b h0).1 (by omega)
  ·rcases hq with⟨hlt,_⟩|⟨_,ho,hq⟩
   ·omega
   ·refine⟨ho,?_⟩
    unfold hiQ at hq
    split at hq
    ·rename_i m hs
     obtain⟨b',a1,a2,a3⟩:=hlow hq
     exact .inr ⟨m,b',hs,a1,a2,a3⟩
    ·rename_i hs
     exact .inl ⟨hs,hq⟩
    ·exact hq.elim
def CanQ(P:Program)(rs:List ResultVar)(N:Nat)(G:AH)(ps:List Pth)(r0:Value)(ml:List (Nat×Blk))(s:List Value)(H:AH)(Bd:Nat):Prop:=
 Yld (yG P rs s H) fun vs=>CanV N ps (vA vs) s H r0 G ml
def canQ(P:Program)(rs:List ResultVar)(N:Nat)(G:AH)(ps:List Pth)(r0:Value)(ml:List (Nat×Blk)):yY
 | .normal=>CanQ P rs N G ps r0 ml
 | .ret=>CanQ P rs N G ps r0 ml
 |_=>fun _ _ _=>False
section
variable {P:Program} {s:List Value} {H:AH} {Bd:Nat}
@[go_sem ↓] theorem canQ_ret (rs:List ResultVar) (N:Nat) (G:AH) (ps:List Pth) (r0:Value) (ml:List (Nat×Blk)):canQ P rs N G ps r0 ml .ret=CanQ P rs N G ps r0 ml:=(rfl)
@[go_sem ↓] theorem CanQ_eq (rs:List ResultVar) (N:Nat) (G:AH) (ps:List Pth) (r0:Value) (ml:List (Nat×Blk)):CanQ P rs N G ps r0 ml s H Bd=Yld (yG P rs s H) fun vs=>CanV N ps (vA vs) s H r0 G ml:=(rfl)
@[go_sem] theorem CanV_eq(N:Nat)(G:AH)(ps:List Pth)(v r0:Value)(ml:List (Nat×Blk)):CanV N ps v s H r0 G ml=(Le G H/\CanW N (srcs ps s H) v H r0 G ml):=(rfl)
@[go_sem] theorem CanW_c(N:Nat)(o:Option Nat)(σ:List (Option Nat))(G:AH)(v r0:Value)(ml:List (Nat×Blk)):CanW N (o::σ) v H r0 G ml=(sgQ N G ml (o::σ)/\RQ (o::σ) N (zR G ml (o::σ)) H r0 v/\memQ (o::σ) N (zR G ml (o::σ)) H ml):=(rfl)
@[go_sem] theorem CanW_n(N:Nat)(G:AH)(v r0:Value)(ml:List (Nat×Blk)):CanW N [] v H r0 G ml=(RQ [] N (zR G ml []) H r0 v/\memQ [] N (zR G ml []) H ml):=by simp[CanW,sgQ]
end
theorem fn_can{P:Program}(hP:POk P)(E:Env P)(PL:List (Nat×List Nat×List Stp×JT)){f:FuncId}{fn:Func}{c:Code}{args:List Value}{H:AH}{Bd:Nat}{K:Value->AH->Nat->Prop}(G:AH)(ps:List Pth)(r0:Value)(ml:List (Nat×Blk))(hK:K r0 (mem G ml) (Bd+ps.length))(hu:r0≠unk)
  (hG:HB H Bd->HB G Bd) (hf:P.funcs[f]? =some fn) (hb:fn.body=some c) {rs:List ResultVar} (hrs:fn.results.toList=rs) {m:Nat} (hm:fn.ntmps=m) (hm2:args.length<=m) (hent:Enters P f) (hp:kR PL c=true)
  (h:HB H Bd->HB G Bd->(∀v∈args,NB Bd v)->vq E PL Bd c (canQ P rs Bd G ps r0 ml) (aS m undef (idx 0 args)) H Bd):SCalls P f args H Bd K:=by
 refine SCalls.of_hb hent fun hH=>canew ?_
 have hg:=hG hH
 subst hm
 rw[<-start_aS args _ hm2]at h
 refine scalls_of_tr hf hb hrs hent fun hh ha=>(zJ hP PL c _ _ H Bd hp (h hh hg ha)).conv fun e s' H' Bd' hle hq=> ?_
 have key:CanQ P rs Bd G ps r0 ml s' H' Bd'->RetQ P rs H Bd (fun r H' _=>∃σ C r0,Can Bd σ [r] H' [r0] C/\r0≠unk/\K r0 C (Bd+σ.length)) s' H' Bd':=fun⟨vs,h1,h2⟩=>by
  refine⟨vs,h1,vA vs,fun _=>False,H',Bd', .same _,fun _ _ _ h=>h,Le.refl _,hle, .inl ⟨xC _,fun hb2 _=>⟨srcs ps s' H',mem G ml,r0,h2.can fun n b hn=>⟨zI hg hn,hg.nb n b hn⟩,hu,by rw[srcs_len];exact hK⟩⟩⟩
 cases e with
 |normal=>exact key hq
 |ret=>exact key hq
 |_=>exact hq.elim
theorem out1{H:AH}{n:Nat}{b:Blk}(hn:H n=some b):∃G,H=upd G n (some b)/\free G n/\upd H n none=G/\∀Bd,HB H Bd->HB G Bd:=by
 refine⟨upd H n none,?_,qJ _ _ _,rfl,fun Bd h=>⟨fun m hm=> ?_,fun m c hm v hv=> ?_⟩⟩
 ·funext q;unfold upd;split
  ·rename_i e;subst e;exact hn
  ·rfl
 ·unfold upd;split
  ·rfl
  ·exact h.fresh m hm
 ·unfold upd at hm;split at hm
  ·cases hm
  ·exact h.nb m c hm v hv
theorem out2{H:AH}{n m:Nat}{b c:Blk}(hn:H n=some b)(hm:H m=some c)(hd:n≠m):∃G,H=upd (upd G n (some b)) m (some c)/\(free G n/\free G m)/\upd (upd H n none) m none=G/\∀Bd,HB H Bd->HB G Bd:=by
 obtain⟨G1,e1,f1,g1,h1⟩:=out1 hn
 have hm1:G1 m=some c:=by rw[<-g1,qD _ _ (fun e=>hd e.symm)];exact hm
 obtain⟨G,e2,f2,g2,h2⟩:=out1 hm1
 refine⟨G,?_,⟨?_,f2⟩,by rw[g1];exact g2,fun Bd h=>h2 Bd (h1 Bd h)⟩
 ·rw[e1,e2];exact upd_comm (fun e=>hd e.symm)
 ·have:G n=none:=by rw[<-g2,qD _ _ hd];exact f1
  exact this
theorem SCalls.to{P:Program}{f:FuncId}{args args':List Value}{H C:AH}{Bd:Nat}{σ:List (Option Nat)}{K:Value->AH->Nat->Prop}(hc:Can Bd σ args H args' C)(h:SCalls P f args' C (Bd+σ.length) K):SCalls P f args H Bd K:=by
 refine⟨h.1,fun A ι vs w hr hs=> ?_⟩
 have hs':SR (rnR (frz ι H (gone C σ)) Bd σ) w args' vs:=by
  refine⟨by rw[<-hc.len];exact hs.1,fun i v v' g1 g2=> ?_⟩
  have hlt:i<args.length:=by have:=(xR.1 g1).1;have:=hc.len;omega
  rcases hc.slot i v args[i] g1 (xA hlt)with rfl|hp
  ·exact .unk _
  ·exact VR.rq hr hp (hs.2 i _ v' (xA hlt) g2)
 refine(h.2 A _ vs w (hc.rel hr) hs').mono fun e w' ⟨v,r,ι',H',Bd',he,hK,hB,hrel,hvr,hkp,hag,hni⟩=> ?_
 refine⟨v,r,ι',H',Bd',he,hK,by omega,hrel,hvr,(Keep.rn (Keep.refl A w (zF ι H _).fz (hr.frzA _))).trans hkp,fun n hn=> ?_,NI.trans hc.ni hni⟩
 rw[hag n (by omega),rnR_lt hn];rfl
def ToC(W:qH):qH:=fun args H Bd K=>∃σ args' C,Can Bd σ args H args' C/\W args' C (Bd+σ.length) K
theorem ToC_ok{P:Program}{f:FuncId}{W:qH}(h:∀args H Bd K,W args H Bd K->SCalls P f args H Bd K):∀args H Bd K,ToC W args H Bd K->SCalls P f args H Bd K:=fun args H Bd K ⟨σ,args',C,hc,hw⟩=>SCalls.to hc (h _ _ _ _ hw)
def CanA(N:Nat)(ps:List Pth)(args args':List Value)(H H0:AH)(ml:List (Nat×Blk)):Prop:=Le H0 H/\CanB N (srcs ps args H) args args' H H0 ml
where
 CanB (N:Nat) (σ:List (Option Nat)) (args args':List Value) (H H0:AH) (ml:List (Nat×Blk)):Prop:=sgQ N H0 ml σ/\rql σ N (zR H0 ml σ) H args' args/\memQ σ N (zR H0 ml σ) H ml
@[go_sem] theorem CanA_eq(N:Nat)(ps:List Pth)(args args':List Value)(H H0:AH)(ml:List (Nat×Blk)):CanA N ps args args' H H0 ml=(Le H0 H/\CanA.CanB N (srcs ps args H) args args' H H0 ml):=(rfl)
@[go_sem] theorem CanB_c(N:Nat)(o:Option Nat)(σ:List (Option Nat))(args args':List Value)(H H0:AH)(ml:List (Nat×Blk)):CanA.CanB N (o::σ) args args' H H0 ml=(sgQ N H0 ml (o::σ)/\rql (o::σ) N (zR H0 ml (o::σ)) H args' args/\memQ (o::σ) N (zR H0 ml (o::σ)) H ml):=(rfl)
@[go_sem] theorem CanB_n(N:Nat)(args args':List Value)(H H0:AH)(ml:List (Nat×Blk)):CanA.CanB N [] args args' H H0 ml=(rql [] N (zR H0 ml []) H args' args/\memQ [] N (zR H0 ml []) H ml):=by simp[CanA.CanB,sgQ]
theorem toC{W:qH}{args args':List Value}{H H0:AH}{B0 Bd:Nat}{K:Value->AH->Nat->Prop}(hb:HB H0 B0)(hB0:B0<=Bd)(k:Nat)(ps:List Pth)(hk:ps.length=k)(ml:List (Nat×Blk))(hs:CanA Bd ps args args' H H0 ml)(h:W args' (mem H0 ml) (Bd+k) K):ToC W args H Bd K:=by
 have hH:∀n b,H0 n=some b->n<Bd/\∀v∈b.cells,NB Bd v:=fun n b hn=>⟨Nat.lt_of_lt_of_le (zI hb hn) hB0,fun v hv=>(hb.nb n b hn v hv).up hB0⟩
 obtain⟨hle,h1,h2,h3⟩:=hs
 refine⟨srcs ps args H,args',mem H0 ml,?_,by rw[srcs_len,hk];exact h⟩
 obtain⟨g1,g2⟩:=sgQ_spec h1
 have hm:∀ {v u},RQ (srcs ps args H) Bd (zR H0 ml (srcs ps args H)) H v u->RQ (srcs ps args H) Bd (gone (mem H0 ml) (srcs ps args H)) H v u:=fun hq=>hq.mono fun _=>goneL_spec
 have hml:∀ {xs ys},rql (srcs ps args H) Bd (zR H0 ml (srcs ps args H)) H xs ys->rql (srcs ps args H) Bd (gone (mem H0 ml) (srcs ps args H)) H xs ys:=fun hq=>⟨hq.1,fun i v u a b=>hm (hq.2 i v u a b)⟩
 have hlow:∀ {o cs b},lowQ (srcs ps args H) Bd (zR H0 ml (srcs ps args H)) H o cs b->∃b',b=some b'/\b'.own=o/\rql (srcs ps args H) Bd (gone (mem H0 ml) (srcs ps args H)) H cs b'.cells:=fun{o cs b} hq=>by
  cases b with
  |none=>exact hq.elim
  |some b=>exact⟨b,rfl,hq.1,hml hq.2⟩
 refine⟨h2.1.symm,fun i v u e1 e2=> .inr (hm (h2.2 i v u e1 e2)),fun k b hk hb=> ?_,fun k b hk hb=> ?_,g1,g2⟩
 ·rcases memQ_get h3 k b hb with h0|hq
  ·exact⟨b,hle k b h0,rfl,rfl,fun i v u e1 e2=>by rw[e1]at e2;cases e2;exact .same ((hH k b h0).2 v (wC e1))⟩
  ·rcases hq with⟨_,hq⟩|⟨hge,_⟩
   ·obtain⟨b',a1,a2,a3⟩:=hlow hq
    exact⟨b',a1,a2,a3⟩
   ·omega
 ·rcases memQ_get h3 k b hb with h0|hq
  ·exact absurd (hH k b h0).1 (by omega)
  ·rcases hq with⟨hlt,_⟩|⟨_,ho,hq⟩
   ·omega
   ·refine⟨ho,?_⟩
    unfold hiQ at hq
    split at hq
    ·rename_i m hs
     obtain⟨b',a1,a2,a3⟩:=hlow hq
     exact .inr ⟨m,b',hs,a1,a2,a3⟩
    ·rename_i hs
     exact .inl ⟨hs,hq⟩
    ·exact hq.elim
section
variable {σ:List (Option Nat)} {S:Nat->Prop} {H:AH}
@[go_sem high] theorem blkQ_hiK {B k j:Nat} (h:k<=j) (b:Blk):blkQ σ (B+k) S H (B+j) b=(b.own=true/\hiQ σ (B+k) S H b.cells σ[j-k]?):=by
 have:=blkQ_hi (N:=B+k) (σ:=σ) (S:=S) (H:=H) (j-k) b
 rw[show B+k+(j-k)=B+j by omega]at this;exact this
@[go_sem] theorem rq_slNK{B n j k l c:Nat}(h:n<=j):RQ σ (B+n) S H (.slice (some ⟨B+j,0,some k⟩) l c) (.slice none 0 0)=(σ[j-n]? =some none/\l=0/\c=1):=by
 have:=rq_sln (N:=B+n) (σ:=σ) (S:=S) (H:=H) (i:=j-n) (k:=k) (l:=l) (c:=c)
 rw[show B+n+(j-n)=B+j by omega]at this;exact this
end
section
variable {σ:List (Option Nat)} {N:Nat} {S:Nat->Prop} {H:AH}
@[go_sem] theorem rq_two{m c:Nat}{a b:Int}(hb:H m=some ⟨[.int .i64 a, .int .i64 b],true⟩)(hS:S m):RQ σ N S H (lst [a,b]) (.slice (some ⟨m,0,some 1⟩) 2 c)=True:=
 eq_true (rq_pubI (k:=1) (xs:=[a,b]) hb (by simp[qO,jS]) hS rfl)
end
attribute [go_sem] flat_ok
class LenOf (l:List Value) (n:outParam Nat):Prop where
 h:l.length=n
instance :LenOf [] 0:=⟨rfl⟩
instance {v:Value} {l:List Value} {n:Nat} [h:LenOf l n]:LenOf (v::l) (n+1):=⟨by rw[xJ,h.h]⟩
instance {a b:List Value} {n m:Nat} [h:LenOf a n] [k:LenOf b m]:LenOf (a++b) (n+m):=⟨by rw[xD,h.h,k.h]⟩
instance {α:Type} [Enc α] [hk:EncK α 1] (xs:List α):LenOf (qO xs) xs.length:=⟨by rw[jJ,hk.h,Nat.mul_one]⟩
theorem take_lo{l:List Value}{n k:Nat}[h:LenOf l k](e:k<=n):l.take n=l:=xO (by rw[h.h];exact e)
theorem len_lo{l:List Value}{k:Nat}[h:LenOf l k]:l.length=k:=h.h
end Go.SC
namespace Go.SC
open Go
noncomputable def kF{X:Type}(f:X->Blk)(b:Blk):Option X:=open Classical in if h:∃x,b=f x then some (Classical.choose h)else none
theorem viewOf_eq{X:Type}{f:X->Blk}(hf:∀x y,f x=f y->x=y)(x:X):kF f (f x)=some x:=by
 have h:∃y,f x=f y:=⟨x,rfl⟩
 unfold kF
 rw[dif_pos h,<-hf _ _ (Classical.choose_spec h)]
theorem kX{X:Type}{f:X->Blk}{b:Blk}{x:X}(h:kF f b=some x):b=f x:=by
 unfold kF at h
 split at h
 ·rename_i hq;cases h;exact Classical.choose_spec hq
 ·cases h
theorem flat_inj{α:Type}[Enc α]:∀ {xs ys:List α},qO xs=qO ys->xs=ys
 |[],[],_=>rfl
 |[],y::ys,h=>by
  have hk:0<Enc.k α:=Enc.pos
  have:=congrArg List.length h
  rw[jJ,jJ]at this
  simp only[xZ,Nat.zero_mul,xJ]at this
  rw[Nat.succ_mul]at this;omega
 |x::xs,[],h=>by
  have hk:0<Enc.k α:=Enc.pos
  have:=congrArg List.length h
  rw[jJ,jJ]at this
  simp only[xZ,Nat.zero_mul,xJ]at this
  rw[Nat.succ_mul]at this;omega
 |x::xs,y::ys,h=>by
  rw[jO,jO]at h
  have:=List.append_inj h (by rw[jN,jN])
  rw[enc_inj this.1,flat_inj this.2]
def flB{α:Type}[Enc α](xs:List α):Blk:=⟨qO xs,true⟩
@[go_sem] theorem viewOf_fl{α:Type}[Enc α](xs:List α):kF (flB (α:=α)) ⟨qO xs,true⟩=some xs:=
 viewOf_eq (f:=flB (α:=α)) (fun x y h=>flat_inj (Blk.mk.inj h).1) xs
@[go_sem] theorem viewOf_flnil{α:Type}[Enc α]:kF (flB (α:=α)) ⟨[],true⟩=some []:=viewOf_fl ([]:List α)
def badN(n:GNode)(depth:Int)(low high:List UInt8):Bool:=
 decide (4<depth)||(decide (1<depth)&&decide (n.keys.length<2))||decide (n.keys.length<1)||n.keys.any (fun k=> !inB k low high)
def rowN(n:GNode)(i:Nat):GRow:=⟨n.keys.getD i [],n.values.getD i 0⟩
def rowsN(n:GNode)(i:Nat):List GRow:=(List.range i).map (rowN n)
theorem rowsN_succ(n:GNode)(i:Nat):rowsN n (i+1)=rowsN n i++[rowN n i]:=by simp[rowsN,List.range_succ]
theorem rowsN_len(n:GNode)(i:Nat):(rowsN n i).length=i:=by simp[rowsN]
def loB(n:GNode)(low:List UInt8)(i:Nat):List UInt8:=if 0<i then n.keys.getD (i-1) []else low
def hiB(n:GNode)(high:List UInt8)(i:Nat):List UInt8:=if i<n.keys.length then n.keys.getD i []else high
abbrev Vis:=Int->List UInt8->List UInt8->GL17Walk->Int×GL17Walk
def visK(g:Vis)(n:GNode)(low high:List UInt8):Nat->Nat->GL17Walk->Int×GL17Walk
 |0,_,w=>(0,w)
 |k+1,i,w=>if(g (n.kids.getD i 0) (loB n low i) (hiB n high i) w).1≠0 then g (n.kids.getD i 0) (loB n low i) (hiB n high i) w else visK g n low high k (i+1) (g (n.kids.getD i 0) (loB n low i) (hiB n high i) w).2
def vis(ins:List Int->Int->List Int)(d:GDisk):Nat->Int->List UInt8->List UInt8->Int->GL17Walk->Int×GL17Walk
 |0,_,_,_,_,w=>(8,w)
 |f+1,id,low,high,depth,w=>
  if hasI w.pages id=true then(8,w)
  else if(jY d id).2≠0 then((jY d id).2,w)
  else if badN (jY d id).1 depth low high=true then(8,w)
  else if(jY d id).1.leaf=true then
   if w.deep=0\/w.deep=depth then(0,⟨ins w.pages id,w.rows++rowsN (jY d id).1 (jY d id).1.keys.length,depth⟩)else(8,⟨ins w.pages id,w.rows,w.deep⟩)
  else visK (fun k a b w=>vis ins d f k a b (depth+1) w) (jY d id).1 low high (jY d id).1.kids.length 0 ⟨ins w.pages id,w.rows,w.deep⟩
section
variable {ins:List Int->Int->List Int} {d:GDisk} {f:Nat} {id:Int} {low high:List UInt8} {depth:Int} {w:GL17Walk}
theorem vis_has(h:hasI w.pages id=true):vis ins d (f+1) id low high depth w=(8,w):=by rw[vis,if_pos h]
theorem vis_code(h:¬hasI w.pages id=true)(h2:(jY d id).2≠0):vis ins d (f+1) id low high depth w=((jY d id).2,w):=by rw[vis,if_neg h,if_pos h2]
theorem vis_bad(h:¬hasI w.pages id=true)(h2:(jY d id).2=0)(h3:badN (jY d id).1 depth low high=true):vis ins d (f+1) id low high depth w=(8,w):=by rw[vis,if_neg h,if_neg (by simpa using h2),if_pos h3]
theorem vis_leaf(h:¬hasI w.pages id=true)(h2:(jY d id).2=0)(h3:¬badN (jY d id).1 depth low high=true)(h4:(jY d id).1.leaf=true)(h5:w.deep=0\/w.deep=depth):
  vis ins d (f+1) id low high depth w=(0,⟨ins w.pages id,w.rows++rowsN (jY d id).1 (jY d id).1.keys.length,depth⟩):=by rw[vis,if_neg h,if_neg (by simpa using h2),if_neg h3,if_pos h4,if_pos h5]
theorem vis_leafN(h:¬hasI w.pages id=true)(h2:(jY d id).2=0)(h3:¬badN (jY d id).1 depth low high=true)(h4:(jY d id).1.leaf=true)(h5:¬(w.deep=0\/w.deep=depth)):
  vis ins d (f+1) id low high depth w=(8,⟨ins w.pages id,w.rows,w.deep⟩):=by rw[vis,if_neg h,if_neg (by simpa using h2),if_neg h3,if_pos h4,if_neg h5]
theorem vis_kids(h:¬hasI w.pages id=true)(h2:(jY d id).2=0)(h3:¬badN (jY d id).1 depth low high=true)(h4:¬(jY d id).1.leaf=true):
  vis ins d (f+1) id low high depth w=visK (fun k a b w=>vis ins d f k a b (depth+1) w) (jY d id).1 low high (jY d id).1.kids.length 0 ⟨ins w.pages id,w.rows,w.deep⟩:=by rw[vis,if_neg h,if_neg (by simpa using h2),if_neg h3,if_neg h4]
theorem nodeD_ok(h:(jY d id).2=0):kS (jY d id).1=0:=by
 unfold jY at h ⊢
 split at h
 ·cases h
 ·rename_i h1
  rw[if_neg h1]
  split at h
  ·rename_i h2;exact absurd h h2
  ·rename_i h2
   rw[if_neg h2]
   show kS (rdN _ _).node=0
   have h:(rdN (qY (yH d id) id).1.kind (qY (yH d id) id).1.body).code=0:=h
   generalize (qY (yH d id) id).1=p at h ⊢
   unfold rdN at h ⊢
   split at h
   ·cases h
   ·rename_i h3
    rw[if_neg h3]
    split at h
    ·rename_i h4
     rw[if_pos h4]
     have:=prsN_some (leaf:=decide (p.kind=1)) (body:=p.body) (n:=(prsN (decide (p.kind=1)) p.body).1) (Prod.ext rfl h4)
     obtain⟨_,p',ks,vs,_,_,_,hz⟩:=this
     exact hz
    ·cases h
end
structure Grow (f:Nat) (w w':GL17Walk):Prop where
 pages:w'.pages.length<=w.pages.length+f
 rows:w'.rows.length<=w.rows.length+4*f
theorem Grow.refl(f:Nat)(w:GL17Walk):Grow f w w:=⟨by omega,by omega⟩
theorem Grow.trans{f g:Nat}{a b c:GL17Walk}(h:Grow f a b)(k:Grow g b c):Grow (f+g) a c:=⟨by have:=h.pages;have:=k.pages;omega,by have:=h.rows;have:=k.rows;omega⟩
theorem Grow.up{f g:Nat}{a b:GL17Walk}(h:Grow f a b)(hle:f<=g):Grow g a b:=⟨by have:=h.pages;omega,by have:=h.rows;omega⟩
theorem visK_grow{g:Vis}{n:GNode}{low high:List UInt8}{F:Nat}(hg:∀k a b w,Grow F w (g k a b w).2):∀(k i:Nat) (w:GL17Walk),Grow (k*F) w (visK g n low high k i w).2
 |0,i,w=>Grow.refl _ _
 |k+1,i,w=>by
  have h1:=hg (n.kids.getD i 0) (loB n low i) (hiB n high i) w
  rw[visK]
  split
  ·exact h1.up (by rw[Nat.succ_mul];omega)
  ·have:=h1.trans (visK_grow (n:=n) (low:=low) (high:=high) hg k (i+1) _)
   rw[Nat.succ_mul,Nat.add_comm];exact this
theorem vis_grow{ins:List Int->Int->List Int}(hi:∀l n,(ins l n).length<=l.length+1)(d:GDisk):∀(f:Nat) (id:Int) (low high:List UInt8) (depth:Int) (w:GL17Walk),Grow (6^f) w (vis ins d f id low high depth w).2
 |0,_,_,_,_,w=>Grow.refl _ _
 |f+1,id,low,high,depth,w=>by
  have hpos:0<6^f:=Nat.pow_pos (by omega)
  have h6:6^(f+1)=6*6^f:=by rw[Nat.pow_succ];omega
  have hp:=hi w.pages id
  by_cases h1:hasI w.pages id=true
  ·rw[vis_has h1];exact Grow.refl _ _
  by_cases h2:(jY d id).2=0
  case neg=>rw[vis_code h1 h2];exact Grow.refl _ _
  by_cases h3:badN (jY d id).1 depth low high=true
  ·rw[vis_bad h1 h2 h3];exact Grow.refl _ _
  have hN:=node_ok (nodeD_ok h2)
  have hkl:=hN.kl
  by_cases h4:(jY d id).1.leaf=true
  ·by_cases h5:w.deep=0\/w.deep=depth
   ·rw[vis_leaf h1 h2 h3 h4 h5]
    exact⟨show(ins w.pages id).length<=_ by omega,show(w.rows++rowsN _ _).length<=_ by rw[xD,rowsN_len];omega⟩
   ·rw[vis_leafN h1 h2 h3 h4 h5]
    exact⟨show(ins w.pages id).length<=_ by omega,show w.rows.length<=_ by omega⟩
  ·rw[vis_kids h1 h2 h3 h4]
   have hk:=(hN.kids (by simpa using h4)).2.2.1
   have h5:=visK_grow (n:=(jY d id).1) (low:=low) (high:=high) (fun k a b w=>vis_grow hi d f k a b (depth+1) w) (jY d id).1.kids.length 0 ⟨ins w.pages id,w.rows,w.deep⟩
   have h6':(jY d id).1.kids.length*6^f<=5*6^f:=Nat.mul_le_mul_right _ (by omega)
   refine⟨wE h5.pages ?_,wE h5.rows ?_⟩
   ·show(ins w.pages id).length+_<=_;omega
   ·show w.rows.length+_<=_;omega
theorem oneV_cnt{body:List UInt8}(h:1<=body.length):yJ (body,false)=((body.getD 0 0).toNat:Int):=oneV_at (p:=0) h
theorem rd_fin{leaf:Bool}{body rest:List UInt8}{ks:List (List UInt8)}{vs kids:List Int}{fd:Bool}{kind:Int}(hk:kind=1\/kind=2)(hl:decide (kind=1)=leaf)
  (h:(fd=false/\1<=body.length/\∃p,prs leaf body (body.getD 0 0).toNat=some (p,ks,vs)/\kids=kidsE leaf body p ((body.getD 0 0).toNat+1)/\rest=body.drop (p+kids.length))\/(fd=true/\(prsN leaf body).2=false)):
  (endV (rest,fd)=true->kS ⟨leaf,ks,vs,kids⟩=0->packN' ⟨leaf,ks,vs,kids⟩=body/\rdN kind body=⟨0,⟨leaf,ks,vs,kids⟩⟩)/\((endV (rest,fd)=false\/kS ⟨leaf,ks,vs,kids⟩≠0)->rdN kind body=⟨5,noNd⟩):=by
 subst hl
 rcases h with⟨rfl,hb,p,hp,rfl,rfl⟩|⟨rfl,hn⟩
 ·have hple:p<=body.length:=prs_le hb hp
  have hkb:(kidsE (decide (kind=1)) body p ((body.getD 0 0).toNat+1)).length<=body.length-p:=by
   unfold kidsE vO
   split
   ·simp
   ·rw[List.length_map,xQ,xI];omega
  refine⟨fun h1 h2=> ?_,fun h=>rdN_F hk ?_⟩
  ·have he:p+(kidsE (decide (kind=1)) body p ((body.getD 0 0).toNat+1)).length=body.length:=by
    unfold endV at h1
    simp only[Bool.not_false,Bool.true_and,decide_eq_true_eq,xI]at h1
    omega
   obtain⟨g1,g2⟩:=prsN_T hb hp he h2
   exact⟨g2,rdN_T hk g1⟩
  ·refine prsN_bad hp fun⟨h1,h2⟩=>h.elim (fun h=> ?_) fun h=>h h2
   unfold endV at h
   simp only[Bool.not_false,Bool.true_and,decide_eq_false_iff_not,xI]at h
   omega
 ·exact⟨fun h=>by unfold endV at h;simp at h,fun _=>rdN_F hk hn⟩
noncomputable def dataOf{α:Type}[Enc α](cs:List Value):Option α:=open Classical in if h:∃x:α,cs=enc x then some (Classical.choose h)else none
theorem dataOf_enc{α:Type}[Enc α](x:α):dataOf (enc x)=some x:=by
 have h:∃y:α,enc x=enc y:=⟨x,rfl⟩
 unfold dataOf
 rw[dif_pos h,<-enc_inj (Classical.choose_spec h)]
theorem dataOf_out{α:Type}[Enc α]{cs:List Value}{x:α}(h:dataOf cs=some x):cs=enc x:=by
 unfold dataOf at h
 split at h
 ·rename_i hq;cases h;exact Classical.choose_spec hq
 ·cases h
@[go_sem] theorem dataOf_GDisk(a:List (List UInt8))(b:List GPut):dataOf (α:=GDisk) [lst a,lst b]=some ⟨a,b⟩:=dataOf_enc (⟨a,b⟩:GDisk)
def wkB(x:List Int×Nat×Nat×Nat×Int):Blk:=⟨[lst x.1, .slice (some ⟨x.2.1,0,some 2⟩) x.2.2.1 x.2.2.2.1, .int .i64 x.2.2.2.2],true⟩
@[go_sem] theorem viewOf_wk(p:List Int)(m l c:Nat)(z:Int):kF wkB ⟨[lst p, .slice (some ⟨m,0,some 2⟩) l c, .int .i64 z],true⟩=some (p,m,l,c,z):=
 viewOf_eq (f:=wkB) (fun x y h=>by
  unfold wkB at h
  simp only[Blk.mk.injEq,xG,lst_inj,xY,xE,Addr.mk.injEq,xK,true_and,and_true]at h
  obtain⟨h1,⟨h2,h3,h4⟩,h5⟩:=h
  exact Prod.ext h1 (Prod.ext h2 (Prod.ext h3 (Prod.ext h4 h5)))) (p,m,l,c,z)
theorem rowsN_zero(n:GNode):rowsN n 0=[]:=rfl
theorem getD_some{α:Type}{l:List α}{i:Nat}{x d:α}(h:l[i]? =some x):l.getD i d=x:=by rw[xF,h];rfl
theorem visK_succ{g:Vis}{n:GNode}{low high:List UInt8}{k i:Nat}{w:GL17Walk}(h:¬(g (n.kids.getD i 0) (loB n low i) (hiB n high i) w).1≠0):visK g n low high (k+1) i w=visK g n low high k (i+1) (g (n.kids.getD i 0) (loB n low i) (hiB n high i) w).2:=by rw[visK,if_neg h]
theorem visK_stop{g:Vis}{n:GNode}{low high:List UInt8}{k i:Nat}{w:GL17Walk}(h:(g (n.kids.getD i 0) (loB n low i) (hiB n high i) w).1≠0):visK g n low high (k+1) i w=g (n.kids.getD i 0) (loB n low i) (hiB n high i) w:=by rw[visK,if_pos h]
def noWk:GL17Walk:=⟨[],[],0⟩
def jV(d:GDisk)(root:Int):GL17Walk×Int:=if root=0 then(noWk,0)else if(vis kV d 5 root [] [] 1 noWk).1≠0 then(noWk,(vis kV d 5 root [] [] 1 noWk).1)else((vis kV d 5 root [] [] 1 noWk).2,0)
def chn(d:GDisk):Nat->Int->List UInt8->List Int->List UInt8×List Int×Int
 |0,_,_,_=>([],[],2)
 |f+1,id,data,pages=>
  if ¬(2<=id/\id<=(d.sectors.length:Int)-1)then([],[],3)
  else if hasI pages id=true then([],[],8)
  else if(qY (yH d id) id).2≠0 then([],[],(qY (yH d id) id).2)
  else if(qY (yH d id) id).1.kind≠3\/(qY (yH d id) id).1.body.length<2 then([],[],1)
  else if 400<(data++(qY (yH d id) id).1.body.drop 1).length then([],[],2)
  else if((qY (yH d id) id).1.body.getD 0 0).toNat=0 then(data++(qY (yH d id) id).1.body.drop 1,pages++[id],0)
  else chn d f ((qY (yH d id) id).1.body.getD 0 0).toNat (data++(qY (yH d id) id).1.body.drop 1) (pages++[id])
def qW(d:GDisk)(head:Int):List UInt8×List Int×Int:=chn d 401 head [] []
def chainR(d:GDisk)(head:Int):GChainResult:=if yR d≠0 then⟨yR d,[],[]⟩else⟨(qW d head).2.2,(qW d head).1,(qW d head).2.1⟩
theorem kK(l:List Int)(n:Int):(l.any fun x=>decide (n=x))=hasI l n:=by
 unfold hasI
 congr 1
 funext x
 exact decide_eq_decide.2 ⟨fun h=>h.symm,fun h=>h.symm⟩
theorem cmpB_anti:∀(a b:List UInt8),Lib.compareBytes a b= -Lib.compareBytes b a
 |[],[]=>rfl
 |[],b::ys=>rfl
 |a::xs,[]=>rfl
 |a::xs,b::ys=>by
  have ih:=cmpB_anti xs ys
  unfold Lib.compareBytes
  rcases Nat.lt_trichotomy a.toNat b.toNat with h|h|h
  ·have h1:a<b:=h
   have h2:¬b<a:=fun g=>Nat.lt_asymm h g
   simp[h1,h2]
  ·obtain rfl:=UInt8.toNat_inj.1 h
   have h1:¬a<a:=Nat.lt_irrefl _
   simp[h1,ih]
  ·have h1:b<a:=h
   have h2:¬a<b:=fun g=>Nat.lt_asymm h g
   simp[h1,h2]
def bvV(l:List UInt8):Value:=if l=[]then .slice none 0 0 else lst l
theorem bvV_inj{a b:List UInt8}(h:bvV a=bvV b):a=b:=by
 unfold bvV at h
 split at h <;>split at h
 ·rename_i h1 h2;rw[h1,h2]
 ·unfold lst LST at h;cases h
 ·unfold lst LST at h;cases h
 ·exact lst_inj.1 h
noncomputable def bvOf(v:Value):Option (List UInt8):=open Classical in if h:∃x,v=bvV x then some (Classical.choose h)else none
theorem bvOf_eq(x:List UInt8):bvOf (bvV x)=some x:=by
 have h:∃y,bvV x=bvV y:=⟨x,rfl⟩
 unfold bvOf
 rw[dif_pos h,<-bvV_inj (Classical.choose_spec h)]
theorem bvOf_out{v:Value}{x:List UInt8}(h:bvOf v=some x):v=bvV x:=by
 unfold bvOf at h
 split at h
 ·rename_i hq;cases h;exact Classical.choose_spec hq
 ·cases h
@[go_sem] theorem bvOf_nil:bvOf (.slice none 0 0)=some []:=by
 have:=bvOf_eq []
 simpa[bvV]using this
@[go_sem] theorem bvOf_lst{xs:List UInt8}(h:xs≠[]):bvOf (lst xs)=some xs:=by
 have:=bvOf_eq xs
 simpa[bvV,h]using this
def twB(x:List (List UInt8)×List GPut×Nat×Nat×Nat×Nat×Nat×Nat×Int):Blk:=
 ⟨[lst x.1,lst x.2.1, .slice (some ⟨x.2.2.1,0,some 1⟩) x.2.2.2.1 x.2.2.2.2.1, .slice (some ⟨x.2.2.2.2.2.1,0,some 2⟩) x.2.2.2.2.2.2.1 x.2.2.2.2.2.2.2.1, .int .i64 x.2.2.2.2.2.2.2.2],true⟩
@[go_sem] theorem viewOf_tw(s:List (List UInt8))(p:List GPut)(m l c m2 l2 c2:Nat)(z:Int):kF twB ⟨[lst s,lst p, .slice (some ⟨m,0,some 1⟩) l c, .slice (some ⟨m2,0,some 2⟩) l2 c2, .int .i64 z],true⟩=some (s,p,m,l,c,m2,l2,c2,z):=
 viewOf_eq (f:=twB) (fun x y h=>by
  obtain⟨x1,x2,x3,x4,x5,x6,x7,x8,x9⟩:=x
  obtain⟨y1,y2,y3,y4,y5,y6,y7,y8,y9⟩:=y
  unfold twB at h
  simp only[Blk.mk.injEq,xG,lst_inj,xY,xE,Addr.mk.injEq,xK,true_and,and_true]at h
  obtain⟨h1,h2,⟨h3,h4,h5⟩,⟨h6,h7,h8⟩,h9⟩:=h
  subst h1;subst h2;subst h3;subst h4;subst h5;subst h6;subst h7;subst h8;subst h9;rfl) (s,p,m,l,c,m2,l2,c2,z)
theorem out3{H:AH}{n m k:Nat}{b c e:Blk}(hn:H n=some b)(hm:H m=some c)(hk:H k=some e)(hd:n≠m)(hd2:n≠k)(hd3:m≠k):∃G,H=upd (upd (upd G n (some b)) m (some c)) k (some e)/\(free G n/\free G m/\free G k)/\upd (upd (upd H n none) m none) k none=G/\∀Bd,HB H Bd->HB G Bd:=by
 obtain⟨G1,e1,⟨f1,f2⟩,g1,h1⟩:=out2 hn hm hd
 have hk1:G1 k=some e:=by rw[<-g1,qD _ _ (fun q=>hd3 q.symm),qD _ _ (fun q=>hd2 q.symm)];exact hk
 obtain⟨G,e2,f3,g2,h2⟩:=out1 hk1
 refine⟨G,?_,⟨?_,?_,f3⟩,by rw[g1];exact g2,fun Bd h=>h2 Bd (h1 Bd h)⟩
 ·rw[e1,e2,upd_comm (m:=k) (n:=n) (fun q=>hd2 q.symm),upd_comm (m:=k) (n:=m) (fun q=>hd3 q.symm)]
 ·have:G n=none:=by rw[<-g2,qD _ _ hd2];exact f1
  exact this
 ·have:G m=none:=by rw[<-g2,qD _ _ hd3];exact f2
  exact this
theorem inB_yes{k low high:List UInt8}(h1:low=[]\/¬Lib.compareBytes k low<0)(h2:high=[]\/¬0<=Lib.compareBytes k high):(!inB k low high)=false:=by
 have:=cmpB_anti k low
 unfold inB
 have g1:(decide (low.length=0)||decide (Lib.compareBytes low k<=0))=true:=by
  rcases h1 with rfl|h
  ·rfl
  ·simp only[Bool.or_eq_true,decide_eq_true_eq];omega
 have g2:(decide (high.length=0)||decide (Lib.compareBytes k high<0))=true:=by
  rcases h2 with rfl|h
  ·rfl
  ·simp only[Bool.or_eq_true,decide_eq_true_eq];omega
 rw[g1,g2];rfl
theorem inB_no1{k low high:List UInt8}(h:low≠[])(h1:Lib.compareBytes k low<0):(!inB k low high)=true:=by
 have:=cmpB_anti k low
 unfold inB
 have g1:(decide (low.length=0)||decide (Lib.compareBytes low k<=0))=false:=by
  simp only[Bool.or_eq_false_iff,decide_eq_false_iff_not]
  exact⟨fun e=>h (List.eq_nil_of_length_eq_zero e),by omega⟩
 rw[g1];rfl
theorem inB_no2{k low high:List UInt8}(h:high≠[])(h1:0<=Lib.compareBytes k high):(!inB k low high)=true:=by
 unfold inB
 have g2:(decide (high.length=0)||decide (Lib.compareBytes k high<0))=false:=by
  simp only[Bool.or_eq_false_iff,decide_eq_false_iff_not]
  exact⟨fun e=>h (List.eq_nil_of_length_eq_zero e),by omega⟩
 rw[g2];simp
theorem bvV_ne{l:List UInt8}(h:l≠[]):bvV l=lst l:=if_neg h
end Go.SC
namespace Go.SC
theorem len_pos{α:Type}{l:List α}(h:l≠[]):0<l.length:=List.length_pos_iff.2 h
@[go_sem] theorem anil_nn:anil (.slice none 0 0) (.slice none 0 0)=some true:=(rfl)
def yB(d:GDisk)(root:Int):Int×GL17Walk:=if root=0 then(0,noWk)else vis (fun l n=>l++[n]) d 5 root [] [] 1 noWk
def twC(d:GDisk)(w:GL17Walk)(a b:Nat):List Value:=[lst d.sectors,lst d.pending, .slice (some ⟨a,0,some 1⟩) w.pages.length (w.pages.length+1), .slice (some ⟨b,0,some 2⟩) w.rows.length (w.rows.length+1), .int .i64 w.deep]
@[go_sem] theorem twC_eq(d:GDisk)(w:GL17Walk)(a b:Nat):twC d w a b=[lst d.sectors,lst d.pending, .slice (some ⟨a,0,some 1⟩) w.pages.length (w.pages.length+1), .slice (some ⟨b,0,some 2⟩) w.rows.length (w.rows.length+1), .int .i64 w.deep]:=(rfl)
def vU(d:GDisk)(root:Int):Int×GDisk×GL17Walk:=if yR d≠0 then(yR d,⟨[],[]⟩,noWk)else((yB d root).1,d,(yB d root).2)
def pagesR(d:GDisk)(root:Int):GIntsResult:=if(vU d root).1≠0 then⟨(vU d root).1,[]⟩else⟨0,vN (yB d root).2.pages⟩
theorem treeI_len(d:GDisk)(root:Int):(yB d root).2.pages.length<=7776/\(yB d root).2.rows.length<=31104:=by
 unfold yB
 split
 ·exact⟨xT _,xT _⟩
 ·have h:=vis_grow (ins:=fun l n=>l++[n]) (fun l n=>by simp) d 5 root [] [] 1 noWk
  have h1:=h.pages
  have h2:=h.rows
  have e1:noWk.pages.length=0:=rfl
  have e2:noWk.rows.length=0:=rfl
  rw[e1]at h1;rw[e2]at h2
  exact⟨by omega,by omega⟩
def keptA(d:GDisk)(p:GSuper):List Int:=vN (yB d p.root).2.pages
def keptB(d:GDisk)(p:GSuper):List Int:=vN (yB d p.root).2.pages++vN (yB d p.shadow).2.pages
def keptN(d:GDisk)(p:GSuper):List Int:=if p.next_=0 then []else(qW d p.next_).2.1
def keptL(d:GDisk)(p:GSuper):List Int:=keptB d p++(qW d p.theory).2.1++keptN d p
def vW(d:GDisk)(p:GSuper):GIntsResult:=
 if(yB d p.root).1≠0 then⟨(yB d p.root).1,[]⟩
 else if(yB d p.shadow).1≠0 then⟨(yB d p.shadow).1,[]⟩
 else if(qW d p.theory).2.2≠0 then⟨(qW d p.theory).2.2,[]⟩
 else if p.next_≠0/\(qW d p.next_).2.2≠0 then⟨(qW d p.next_).2.2,[]⟩
 else if incI (vN (keptL d p))=true then⟨0,vN (keptL d p)⟩else⟨6,[]⟩
def keptR(d:GDisk)(p:GSuper):GIntsResult:=if yR d≠0 then⟨yR d,[]⟩else if yX p≠0 then⟨yX p,[]⟩else vW d p
theorem chn_len(d:GDisk):∀(f:Nat) (id:Int) (data:List UInt8) (pages:List Int),(chn d f id data pages).2.1.length<=pages.length+f
 |0,_,_,_=>by simp[chn]
 |f+1,id,data,pages=>by
  rw[chn]
  split
  ·simp
  ·split
   ·simp
   ·split
    ·simp
    ·split
     ·simp
     ·split
      ·simp
      ·split
       ·simp <;>omega
       ·have:=chn_len d f ((qY (yH d id) id).1.body.getD 0 0).toNat (data++(qY (yH d id) id).1.body.drop 1) (pages++[id])
        rw[xD]at this
        simp only[xJ,xZ]at this
        omega
theorem chainD_len(d:GDisk)(h:Int):(qW d h).2.1.length<=401:=by
 have:=chn_len d 401 h [] []
 simpa[qW]using this
theorem keptL_len(d:GDisk)(p:GSuper):(keptL d p).length<=20000:=by
 have h1:=(treeI_len d p.root).1
 have h2:=(treeI_len d p.shadow).1
 have h3:=chainD_len d p.theory
 have h4:=chainD_len d p.next_
 unfold keptL keptB keptN
 rw[xD,xD,xD,yS,yS]
 split
 ·simp only[xZ];omega
 ·omega
structure SuperOK (p:GSuper):Prop where
 gen:1<=p.gen/\p.gen<=60000
 ver:1<=p.version/\p.version<=60000
 root:0<=p.root/\p.root<=63
 shadow:0<=p.shadow/\p.shadow<=63
 next_:0<=p.next_/\p.next_<=63
 theory:2<=p.theory/\p.theory<=63
 cur:p.cursor.length<=16
 sig:kE p.symbols=0
 mov:p.moving=true->p.next_≠0
 rest:p.moving=false->p.shadow=0/\p.next_=0/\p.cursor=[]
 pgs:(p.root=0\/2<=p.root)/\(p.shadow=0\/2<=p.shadow)/\(p.next_=0\/2<=p.next_)
theorem isRt_pg{n:Int}(h:isRt n=true):n=0\/2<=n:=by
 unfold isRt isPg at h
 simp only[Bool.or_eq_true,decide_eq_true_eq]at h
 omega
theorem isRt_rg{n:Int}(h:isRt n=true):0<=n/\n<=63:=by
 unfold isRt isPg at h
 simp only[Bool.or_eq_true,decide_eq_true_eq]at h
 omega
theorem kJ{p:GSuper}(h:yX p=0):SuperOK p:=by
 unfold yX at h
 split at h
 ·rename_i h1
  obtain⟨⟨g,v⟩,a,b,c,t⟩:=h1
  split at h
  ·omega
  ·rename_i h2
   split at h
   ·omega
   ·rename_i h3
    have ht:2<=p.theory/\p.theory<=63:=of_decide_eq_true t
    refine⟨g,v,isRt_rg a,isRt_rg b,isRt_rg c,ht,by omega,h,fun hm hn=>h3 (.inl ⟨hm,hn⟩),fun hm=> ?_,isRt_pg a,isRt_pg b,isRt_pg c⟩
    refine⟨Decidable.not_not.1 fun hq=>h3 (.inr ⟨hm, .inl hq⟩),Decidable.not_not.1 fun hq=>h3 (.inr ⟨hm, .inr (.inl hq)⟩),?_⟩
    exact List.eq_nil_of_length_eq_zero (Nat.eq_zero_of_not_pos fun hq=>h3 (.inr ⟨hm, .inr (.inr hq)⟩))
 ·omega
theorem pagesR_ok{d:GDisk}{root:Int}(hd:yR d=0):pagesR d root=if(yB d root).1≠0 then⟨(yB d root).1,[]⟩else⟨0,vN (yB d root).2.pages⟩:=by
 have e:vU d root=((yB d root).1,d,(yB d root).2):=by unfold vU;rw[if_neg (by simpa using hd)]
 unfold pagesR
 rw[e]
theorem chainR_ok{d:GDisk}{h:Int}(hd:yR d=0):chainR d h=⟨(qW d h).2.2,(qW d h).1,(qW d h).2.1⟩:=by
 unfold chainR
 rw[if_neg (by simpa using hd)]
abbrev Rise(l:List Int):Prop:=l.Pairwise (· < ·)
theorem rise_ext:∀ {a b:List Int},Rise a->Rise b->(∀x,x∈a↔x∈b)->a=b
 |[],[],_,_,_=>rfl
 |[],b::bs,_,_,h=>absurd ((h b).2 (List.mem_cons_self)) (by simp)
 |a::xs,[],_,_,h=>absurd ((h a).1 (List.mem_cons_self)) (by simp)
 |a::xs,b::ys,ha,hb,h=>by
  have ha':=List.pairwise_cons.1 ha
  have hb':=List.pairwise_cons.1 hb
  have hab:a=b:=by
   have h1:=(h a).1 List.mem_cons_self
   have h2:=(h b).2 List.mem_cons_self
   rcases wG.1 h1 with e|h1
   ·exact e
   ·rcases wG.1 h2 with e|h2
    ·exact e.symm
    ·have:=hb'.1 a h1
     have:=ha'.1 b h2
     omega
  subst hab
  rw[rise_ext ha'.2 hb'.2 fun x=> ?_]
  constructor
  ·intro hx
   rcases wG.1 ((h x).1 (List.mem_cons_of_mem _ hx))with e|h'
   ·subst e;exact absurd (ha'.1 _ hx) (by omega)
   ·exact h'
  ·intro hx
   rcases wG.1 ((h x).2 (List.mem_cons_of_mem _ hx))with e|h'
   ·subst e;exact absurd (hb'.1 _ hx) (by omega)
   ·exact h'
theorem zH{l:List Int}(h:Rise l):l.Nodup:=h.imp fun h=>by omega
theorem incI_iff:∀ {l:List Int},incI l=true↔Rise l:=fun{l}=>by
 constructor
 ·intro h
  refine List.pairwise_iff_getElem.2 ?_
  have step:∀k (hk:k+1<l.length),l[k]<l[k+1]:=fun k hk=>by
   apply Decidable.byContradiction
   intro hn
   have:=incI_no (xA (show k<l.length by omega)) (xA hk) hn
   rw[h]at this;cases this
  intro i j hi hj hij
  induction j with
  |zero=>omega
  |succ j ih=>
   rcases xM i j with hq|hq
   ·exact Int.lt_trans (ih (by omega) hq) (step j hj)
   ·obtain rfl:i=j:=by omega
    exact step i hj
 ·intro h
  exact incI_yes fun k x y h1 h2=>by
   obtain⟨hk1,rfl⟩:=xR.1 h1
   obtain⟨hk2,rfl⟩:=xR.1 h2
   exact List.pairwise_iff_getElem.1 h _ _ hk1 hk2 (by omega)
theorem sortI_mem(l:List Int)(x:Int):x∈vN l↔x∈l:=by unfold vN;exact List.mem_mergeSort
theorem sortI_nd(l:List Int):(vN l).Nodup↔l.Nodup:=(List.mergeSort_perm l _).nodup_iff
theorem sortI_le(l:List Int):(vN l).Pairwise (· <= ·):=by
 have:=List.pairwise_mergeSort (le:=fun x y:Int=>decide (x<=y)) (fun a b c h1 h2=>by simp at *;omega) (fun a b=>by simp;omega) l
 exact this.imp fun h=>by simpa using h
theorem sortI_rise{l:List Int}:Rise (vN l)↔l.Nodup:=by
 constructor
 ·intro h;exact(sortI_nd l).1 (zH h)
 ·intro h
  exact((sortI_le l).and ((sortI_nd l).2 h)).imp fun⟨h1,h2⟩=>by omega
theorem putS_inv{l:List Int}(hl:Rise l)(n:Int):∀i,i<=l.length->
  ((kQ l n i).2=false->(kQ l n i).1=l.take i/\∀x∈l.take i,x<n)/\
  ((kQ l n i).2=true->Rise (kQ l n i).1/\(∀x,x∈(kQ l n i).1↔x=n\/x∈l.take i)/\∃y∈l.take i,n<=y)
 |0,_=>⟨fun _=>⟨by simp[kQ],by simp⟩,fun h=>by simp[kQ]at h⟩
 |i+1,hi=>by
  obtain⟨h1,h2⟩:=putS_inv hl n i (by omega)
  have hlt:i<l.length:=by omega
  have hg:l.getD i 0=l[i]:=getD_some (xA hlt)
  have htk:l.take (i+1)=l.take i++[l[i]]:=xP hlt
  have hup:∀x∈l.take i,x<l[i]:=fun x hx=>by
   obtain⟨j,hj,rfl⟩:=wO hx
   have hj':j<i:=by rw[xQ]at hj;omega
   rw[List.getElem_take]
   exact List.pairwise_iff_getElem.1 hl _ _ _ _ hj'
  have htr:Rise (l.take i):=hl.sublist (List.take_sublist _ _)
  rw[kQ,hg]
  cases hd:(kQ l n i).2 with
  |false=>
   obtain⟨g1,g2⟩:=h1 hd
   by_cases hn:n<=l[i]
   ·rw[if_pos ⟨rfl,hn⟩]
    refine⟨(fun h=>by cases h),fun _=> ?_⟩
    rw[g1,htk]
    by_cases he:l[i]=n
    ·rw[if_pos he]
     refine⟨?_,fun x=> ?_,l[i],List.mem_append_right _ (wR.2 rfl),hn⟩
     ·simp only[wL]
      exact List.pairwise_append.2 ⟨htr,List.pairwise_singleton _ _,fun x hx y hy=>by rw[wR.1 hy];exact hup x hx⟩
     ·simp only[wL,List.mem_append,wR]
      rw[he]
      constructor
      ·rintro(h|h)
       ·exact .inr (.inl h)
       ·exact .inl h
      ·rintro(h|h|h)
       ·exact .inr h
       ·exact .inl h
       ·exact .inr h
    ·rw[if_neg he]
     have hlt2:n<l[i]:=by omega
     refine⟨?_,fun x=> ?_,l[i],List.mem_append_right _ (wR.2 rfl),hn⟩
     ·rw[xL]
      refine List.pairwise_append.2 ⟨htr,by simp[hlt2],fun x hx y hy=> ?_⟩
      simp only[List.mem_append,wR]at hy
      rcases hy with rfl|rfl
      ·exact g2 x hx
      ·exact hup x hx
     ·simp only[List.mem_append,wR]
      constructor
      ·rintro((h|h)|h)
       ·exact .inr (.inl h)
       ·exact .inl h
       ·exact .inr (.inr h)
      ·rintro(h|h|h)
       ·exact .inl (.inr h)
       ·exact .inl (.inl h)
       ·exact .inr h
   ·rw[if_neg (fun h=>hn h.2)]
    refine⟨fun _=>⟨by rw[g1,htk],fun x hx=> ?_⟩,(fun h=>by cases h)⟩
    rw[htk]at hx
    rcases List.mem_append.1 hx with h|h
    ·exact g2 x h
    ·rw[wR.1 h];omega
  |true=>
   obtain⟨g1,g2,y,g3,g4⟩:=h2 hd
   rw[if_neg (fun h=>by cases h.1)]
   refine⟨(fun h=>by cases h),fun _=> ?_⟩
   refine⟨List.pairwise_append.2 ⟨g1,List.pairwise_singleton _ _,fun x hx z hz=> ?_⟩,fun x=> ?_,y,by rw[htk];exact List.mem_append_left _ g3,g4⟩
   ·rw[wR.1 hz]
    have:=hup y g3
    rcases(g2 x).1 hx with rfl|hx
    ·omega
    ·exact hup x hx
   ·rw[htk,List.mem_append,List.mem_append,g2 x]
    constructor
    ·rintro((h|h)|h)
     ·exact .inl h
     ·exact .inr (.inl h)
     ·exact .inr (.inr h)
    ·rintro(h|h|h)
     ·exact .inl (.inl h)
     ·exact .inl (.inr h)
     ·exact .inr h
theorem putL_inv{l:List Int}(hl:Rise l)(n:Int):Rise (kV l n)/\∀x,x∈kV l n↔x=n\/x∈l:=by
 obtain⟨h1,h2⟩:=putS_inv hl n l.length (xC _)
 rw[wH]at h1 h2
 unfold kV
 cases hd:(kQ l n l.length).2 with
 |false=>
  obtain⟨g1,g2⟩:=h1 hd
  rw[if_neg (by simp),g1]
  refine⟨List.pairwise_append.2 ⟨hl,List.pairwise_singleton _ _,fun x hx y hy=>by rw[wR.1 hy];exact g2 x hx⟩,fun x=> ?_⟩
  rw[List.mem_append,wR];exact or_comm
 |true=>
  obtain⟨g1,g2,_⟩:=h2 hd
  rw[if_pos rfl]
  exact⟨g1,g2⟩
theorem hasI_iff{l:List Int}{n:Int}:hasI l n=true↔n∈l:=by
 unfold hasI
 rw[List.any_eq_true]
 constructor
 ·rintro⟨x,h1,h2⟩
  have:x=n:=by simpa using h2
  subst this;exact h1
 ·intro h;exact⟨n,h,by simp⟩
theorem addS_inv{l:List Int}(hl:Rise l)(more:List Int):∀i,i<=more.length->
  Rise (addS l more i).1/\(∀x,x∈(addS l more i).1↔x∈l\/x∈more.take i)/\((addS l more i).2=true↔(l++more.take i).Nodup)
 |0,_=>by
  refine⟨hl,fun x=>by simp[addS],?_⟩
  simp only[List.take_zero,wL]
  exact⟨fun _=>zH hl,fun _=>rfl⟩
 |i+1,hi=>by
  obtain⟨h1,h2,h3⟩:=addS_inv hl more i (by omega)
  have hlt:i<more.length:=by omega
  have hg:more.getD i 0=more[i]:=getD_some (xA hlt)
  have htk:more.take (i+1)=more.take i++[more[i]]:=xP hlt
  obtain⟨k1,k2⟩:=putL_inv h1 more[i]
  have e1:(addS l more (i+1)).1=kV (addS l more i).1 more[i]:=by show kV _ _=_;rw[hg]
  have e2:(addS l more (i+1)).2=if hasI (addS l more i).1 more[i]=true then false else(addS l more i).2:=by show(if _ then false else _)=_;rw[hg]
  rw[e1,e2,htk]
  refine⟨k1,fun x=> ?_,?_⟩
  ·rw[k2 x,h2 x,List.mem_append,wR]
   constructor
   ·rintro(h|h|h)
    ·exact .inr (.inr h)
    ·exact .inl h
    ·exact .inr (.inl h)
   ·rintro(h|h|h)
    ·exact .inr (.inl h)
    ·exact .inr (.inr h)
    ·exact .inl h
  ·rw[<-xL,List.nodup_append]
   by_cases hh:hasI (addS l more i).1 more[i]=true
   ·rw[if_pos hh]
    refine⟨(fun h=>by cases h),fun h=> ?_⟩
    have:=(h2 more[i]).1 (hasI_iff.1 hh)
    exact absurd rfl (h.2.2 more[i] (List.mem_append.2 this) more[i] (wR.2 rfl))
   ·rw[if_neg hh,h3]
    refine⟨fun h=>⟨h,by simp,fun a ha b hb e=> ?_⟩,fun h=>h.1⟩
    rw[wR.1 hb]at e
    subst e
    exact hh (hasI_iff.2 ((h2 _).2 (List.mem_append.1 ha)))
theorem addL_inv{l:List Int}(hl:Rise l)(more:List Int):Rise (addL l more).1/\(∀x,x∈(addL l more).1↔x∈l\/x∈more)/\((addL l more).2=true↔(l++more).Nodup):=by
 have h:=addS_inv hl more more.length (xC _)
 rw[wH]at h
 exact h
structure Two (w w':GL17Walk):Prop where
 rise:Rise w.pages
 mem:∀x,x∈w.pages↔x∈w'.pages
 nd:w'.pages.Nodup
 rows:w.rows=w'.rows
 deep:w.deep=w'.deep
abbrev app1:List Int->Int->List Int:=fun l n=>l++[n]
theorem Two.put{w w':GL17Walk}(h:Two w w'){id:Int}(hn:¬hasI w.pages id=true)(rows:List GRow)(deep:Int):Two ⟨kV w.pages id,rows,deep⟩ ⟨app1 w'.pages id,rows,deep⟩:=by
 obtain⟨k1,k2⟩:=putL_inv h.rise id
 refine⟨k1,fun x=> ?_,?_,rfl,rfl⟩
 ·show x∈kV w.pages id↔x∈w'.pages++[id]
  rw[k2 x,List.mem_append,wR,h.mem x];exact or_comm
 ·show(w'.pages++[id]).Nodup
  refine List.nodup_append.2 ⟨h.nd,by simp,fun a ha b hb e=> ?_⟩
  rw[wR.1 hb]at e
  subst e
  exact hn (hasI_iff.2 ((h.mem _).2 ha))
theorem Two.has{w w':GL17Walk}(h:Two w w')(id:Int):hasI w.pages id=hasI w'.pages id:=by
 rw[Bool.eq_iff_iff,hasI_iff,hasI_iff];exact h.mem id
theorem visK_two{g g':Vis}{n:GNode}{low high:List UInt8}(hg:∀k a b w w',Two w w'->(g k a b w).1=(g' k a b w').1/\Two (g k a b w).2 (g' k a b w').2):
  ∀(k i:Nat) (w w':GL17Walk),Two w w'->(visK g n low high k i w).1=(visK g' n low high k i w').1/\Two (visK g n low high k i w).2 (visK g' n low high k i w').2
 |0,i,w,w',h=>⟨rfl,h⟩
 |k+1,i,w,w',h=>by
  obtain⟨h1,h2⟩:=hg (n.kids.getD i 0) (loB n low i) (hiB n high i) w w' h
  rw[visK,visK,<-h1]
  split
  ·exact⟨h1,h2⟩
  ·exact visK_two hg k (i+1) _ _ h2
theorem vis_two(d:GDisk):∀(f:Nat) (id:Int) (low high:List UInt8) (depth:Int) (w w':GL17Walk),Two w w'->
  (vis kV d f id low high depth w).1=(vis app1 d f id low high depth w').1/\Two (vis kV d f id low high depth w).2 (vis app1 d f id low high depth w').2
 |0,_,_,_,_,_,_,h=>⟨rfl,h⟩
 |f+1,id,low,high,depth,w,w',h=>by
  have hh:=h.has id
  by_cases h1:hasI w.pages id=true
  ·rw[vis_has h1,vis_has (by rw[<-hh];exact h1)];exact⟨rfl,h⟩
  have h1':¬hasI w'.pages id=true:=by rw[<-hh];exact h1
  by_cases h2:(jY d id).2=0
  case neg=>rw[vis_code h1 h2,vis_code h1' h2];exact⟨rfl,h⟩
  by_cases h3:badN (jY d id).1 depth low high=true
  ·rw[vis_bad h1 h2 h3,vis_bad h1' h2 h3];exact⟨rfl,h⟩
  by_cases h4:(jY d id).1.leaf=true
  ·by_cases h5:w.deep=0\/w.deep=depth
   ·rw[vis_leaf h1 h2 h3 h4 h5,vis_leaf h1' h2 h3 h4 (by rw[<-h.deep];exact h5),h.rows]
    exact⟨rfl,h.put h1 _ _⟩
   ·rw[vis_leafN h1 h2 h3 h4 h5,vis_leafN h1' h2 h3 h4 (by rw[<-h.deep];exact h5),h.rows,h.deep]
    exact⟨rfl,h.put h1 _ _⟩
  ·rw[vis_kids h1 h2 h3 h4,vis_kids h1' h2 h3 h4,h.rows,h.deep]
   exact visK_two (fun k a b w w' h=>vis_two d f k a b (depth+1) w w' h) _ _ _ _ (h.put h1 _ _)
theorem no_two:Two noWk noWk:=⟨List.Pairwise.nil,fun _=>Iff.rfl,List.Pairwise.nil,rfl,rfl⟩
theorem tree_two(d:GDisk)(root:Int):(jV d root).2=(yB d root).1/\((yB d root).1=0->Two (jV d root).1 (yB d root).2):=by
 unfold jV yB
 by_cases h:root=0
 ·rw[if_pos h,if_pos h];exact⟨rfl,fun _=>no_two⟩
 ·rw[if_neg h,if_neg h]
  obtain⟨h1,h2⟩:=vis_two d 5 root [] [] 1 noWk noWk no_two
  by_cases hc:(vis kV d 5 root [] [] 1 noWk).1=0
  ·simp only[ne_eq,hc,not_true_eq_false,if_false]
   rw[hc]at h1
   exact⟨h1,fun _=>h2⟩
  ·simp only[ne_eq,hc,not_false_eq_true,if_true]
   exact⟨h1,fun h=>absurd (h1.trans h) hc⟩
theorem chn_nd(d:GDisk):∀(f:Nat) (id:Int) (data:List UInt8) (pages:List Int),pages.Nodup->(chn d f id data pages).2.1.Nodup
 |0,_,_,_,_=>List.Pairwise.nil
 |f+1,id,data,pages,h=>by
  rw[chn]
  split
  ·exact List.Pairwise.nil
  ·split
   ·exact List.Pairwise.nil
   ·rename_i hh
    have hn:(pages++[id]).Nodup:=List.nodup_append.2 ⟨h,by simp,fun a ha b hb e=>by
     rw[wR.1 hb]at e
     subst e
     exact hh (hasI_iff.2 ha)⟩
    split
    ·exact List.Pairwise.nil
    ·split
     ·exact List.Pairwise.nil
     ·split
      ·exact List.Pairwise.nil
      ·split
       ·exact hn
       ·exact chn_nd d f _ _ _ hn
theorem chainD_nd(d:GDisk)(h:Int):(qW d h).2.1.Nodup:=chn_nd d 401 h [] [] List.Pairwise.nil
def keptS(d:GDisk)(p:GSuper):List Int×Int:=
 if(jV d p.root).2≠0 then([],(jV d p.root).2)
 else if(jV d p.shadow).2≠0 then([],(jV d p.shadow).2)
 else if(qW d p.theory).2.2≠0 then([],(qW d p.theory).2.2)
 else if p.next_≠0/\(qW d p.next_).2.2≠0 then([],(qW d p.next_).2.2)
 else if(addL (jV d p.root).1.pages (jV d p.shadow).1.pages).2=true/\(addL (addL (jV d p.root).1.pages (jV d p.shadow).1.pages).1 (qW d p.theory).2.1).2=true/\
  (addL (addL (addL (jV d p.root).1.pages (jV d p.shadow).1.pages).1 (qW d p.theory).2.1).1 (keptN d p)).2=true then
  ((addL (addL (addL (jV d p.root).1.pages (jV d p.shadow).1.pages).1 (qW d p.theory).2.1).1 (keptN d p)).1,0)
 else([],6)
theorem nd_app{a b a' b':List Int}(ha:∀x,x∈a↔x∈a')(hb:∀x,x∈b↔x∈b')(h1:a.Nodup)(h2:a'.Nodup)(h3:b.Nodup)(h4:b'.Nodup):(a++b).Nodup↔(a'++b').Nodup:=by
 rw[List.nodup_append,List.nodup_append]
 constructor
 ·rintro⟨_,_,h⟩;exact⟨h2,h4,fun x hx y hy=>h x ((ha x).2 hx) y ((hb y).2 hy)⟩
 ·rintro⟨_,_,h⟩;exact⟨h1,h3,fun x hx y hy=>h x ((ha x).1 hx) y ((hb y).1 hy)⟩
theorem kept_two(d:GDisk)(p:GSuper):keptS d p=((vW d p).list,(vW d p).code):=by
 obtain⟨r1,r2⟩:=tree_two d p.root
 obtain⟨s1,s2⟩:=tree_two d p.shadow
 unfold keptS vW
 rw[r1,s1]
 by_cases h1:(yB d p.root).1=0
 case neg=>simp only[ne_eq,h1,not_false_eq_true,if_true]
 simp only[ne_eq,h1,not_true_eq_false,if_false]
 by_cases h2:(yB d p.shadow).1=0
 case neg=>simp only[ne_eq,h2,not_false_eq_true,if_true]
 simp only[ne_eq,h2,not_true_eq_false,if_false]
 by_cases h3:(qW d p.theory).2.2=0
 case neg=>simp only[ne_eq,h3,not_false_eq_true,if_true]
 simp only[ne_eq,h3,not_true_eq_false,if_false]
 by_cases h4:¬p.next_=0/\¬(qW d p.next_).2.2=0
 ·simp only[h4,not_false_eq_true,and_self,if_true]
 simp only[h4,if_false]
 have tr:=r2 h1
 have ts:=s2 h2
 obtain⟨a1,a2,a3⟩:=addL_inv tr.rise (jV d p.shadow).1.pages
 obtain⟨b1,b2,b3⟩:=addL_inv a1 (qW d p.theory).2.1
 obtain⟨c1,c2,c3⟩:=addL_inv b1 (keptN d p)
 have hnd:(keptN d p).Nodup:=by unfold keptN;split;exact List.Pairwise.nil;exact chainD_nd _ _
 have hcd:=chainD_nd d p.theory
 have m1:∀x,x∈(addL (jV d p.root).1.pages (jV d p.shadow).1.pages).1↔x∈keptB d p:=fun x=>by
  rw[a2 x,tr.mem x,ts.mem x];unfold keptB;rw[List.mem_append,sortI_mem,sortI_mem]
 have m2:∀x,x∈(addL (addL (jV d p.root).1.pages (jV d p.shadow).1.pages).1 (qW d p.theory).2.1).1↔x∈keptB d p++(qW d p.theory).2.1:=fun x=>by
  rw[b2 x,m1 x,List.mem_append]
 have m3:∀x,x∈(addL (addL (addL (jV d p.root).1.pages (jV d p.shadow).1.pages).1 (qW d p.theory).2.1).1 (keptN d p)).1↔x∈keptL d p:=fun x=>by
  rw[c2 x,m2 x];exact List.mem_append.symm
 have n1:(addL (jV d p.root).1.pages (jV d p.shadow).1.pages).2=true↔(keptB d p).Nodup:=by
  rw[a3]
  exact nd_app (fun x=>by rw[tr.mem x,sortI_mem]) (fun x=>by rw[ts.mem x,sortI_mem]) (zH tr.rise) ((sortI_nd _).2 tr.nd) (zH ts.rise) ((sortI_nd _).2 ts.nd)
 have key:((addL (jV d p.root).1.pages (jV d p.shadow).1.pages).2=true/\(addL (addL (jV d p.root).1.pages (jV d p.shadow).1.pages).1 (qW d p.theory).2.1).2=true/\
  (addL (addL (addL (jV d p.root).1.pages (jV d p.shadow).1.pages).1 (qW d p.theory).2.1).1 (keptN d p)).2=true)↔(keptL d p).Nodup:=by
  constructor
  ·rintro⟨g1,g2,g3⟩
   have k1:=n1.1 g1
   have k2:(keptB d p++(qW d p.theory).2.1).Nodup:=(nd_app m1 (fun _=>Iff.rfl) (zH a1) k1 hcd hcd).1 (b3.1 g2)
   exact(nd_app m2 (fun _=>Iff.rfl) (zH b1) k2 hnd hnd).1 (c3.1 g3)
  ·intro h
   have k2:(keptB d p++(qW d p.theory).2.1).Nodup:=(List.nodup_append.1 h).1
   have k1:(keptB d p).Nodup:=(List.nodup_append.1 k2).1
   exact⟨n1.2 k1,b3.2 ((nd_app m1 (fun _=>Iff.rfl) (zH a1) k1 hcd hcd).2 k2),c3.2 ((nd_app m2 (fun _=>Iff.rfl) (zH b1) k2 hnd hnd).2 h)⟩
 by_cases hn:(keptL d p).Nodup
 ·rw[if_pos (key.2 hn),if_pos (incI_iff.2 (sortI_rise.2 hn))]
  have:(addL (addL (addL (jV d p.root).1.pages (jV d p.shadow).1.pages).1 (qW d p.theory).2.1).1 (keptN d p)).1=vN (keptL d p):=rise_ext c1 (sortI_rise.2 hn) fun x=>by rw[m3 x,sortI_mem]
  rw[this]
 ·rw[if_neg (fun h=>hn (key.1 h)),if_neg (fun h=>hn (sortI_rise.1 (incI_iff.1 h)))]
theorem treeS_len(d:GDisk)(root:Int):(jV d root).1.pages.length<=7776:=by
 unfold jV
 split
 ·exact xT _
 ·split
  ·exact xT _
  ·have h:=(vis_grow putL_len d 5 root [] [] 1 noWk).pages
   have e1:noWk.pages.length=0:=rfl
   rw[e1]at h
   show(vis kV d 5 root [] [] 1 noWk).2.pages.length<=7776
   omega
theorem addL_len(l more:List Int):(addL l more).1.length<=l.length+more.length:=addS_len l more more.length
theorem giveR_nilI(v:Value):giveR (some ⟨[],true⟩) 1 0 v=lst ([]:List Int):=giveR_flat (α:=Int) [] rfl rfl v
theorem map_byteV(xs:List UInt8):xs.map byteV=qO xs:=by
 induction xs with
 |nil=>rfl
 |cons x xs ih=>rw[List.map_cons,ih,jO];rfl
attribute [go_sem] map_byteV
theorem u8_flat(z:Int):[Value.int .u8 (z%256)]=qO [u8z z]:=by rw[qT];show _=[Value.int .u8 ((u8z z).toNat:Int)];rw[kZ]
theorem zA(b:ByteArray):b.data.toList.length=b.size:=Array.length_toList
instance (priority:=high) (b:ByteArray):LenOf (qO b.data.toList) b.size:=⟨by rw[jJ];show b.data.toList.length*1=_;rw[Nat.mul_one,zA]⟩
def symB(x:GSymbol):List UInt8:=u8z (x.name.size:Int)::(x.name.data.toList++[u8z x.arity])
def sigA(s:GSignature)(i:Nat):List UInt8:=u8z (s.symbols.length:Int)::(s.symbols.take i).flatMap symB
def sigB(s:GSignature):List UInt8:=u8z (s.symbols.length:Int)::s.symbols.flatMap symB
theorem sigA_zero(s:GSignature):sigA s 0=[u8z (s.symbols.length:Int)]:=rfl
theorem sigA_all(s:GSignature):sigA s s.symbols.length=sigB s:=by unfold sigA sigB;rw[wH]
theorem sigA_succ{s:GSignature}{i:Nat}{x:GSymbol}(h:s.symbols[i]? =some x):sigA s (i+1)=sigA s i++symB x:=by
 obtain⟨hi,rfl⟩:=xR.1 h
 unfold sigA
 rw[xP hi,List.flatMap_append,List.flatMap_cons,List.flatMap_nil,wL,List.cons_append]
theorem symB_len{x:GSymbol}(h:isNm x.name=true):(symB x).length<=5:=by
 have:=zQ h
 unfold symB
 simp only[xJ,xD,xZ]
 have e:x.name.data.toList.length=x.name.size:=zA _
 omega
theorem sigA_len{s:GSignature}(hs:∀x∈s.symbols,isNm x.name=true):∀i,i<=s.symbols.length->(sigA s i).length<=1+5*i
 |0,_=>xC _
 |i+1,hi=>by
  have e1:s.symbols[i]? =some s.symbols[i]:=xA (by omega)
  have h1:=sigA_len hs i (by omega)
  have h2:=symB_len (hs _ (xH (show i<s.symbols.length by omega)))
  rw[sigA_succ e1,xD];omega
def packGR(s:GSignature):GBytesResult:=if kE s≠0 then⟨kE s,[]⟩else⟨0,sigB s⟩
def movB(p:GSuper):UInt8:=if p.moving=true then 1 else 0
def supH(p:GSuper):List UInt8:=jX p.gen++([u8z p.root,u8z p.shadow,u8z p.theory,u8z p.next_]++(jX p.version++([movB p,u8z (p.cursor.length:Int)]++(p.cursor++sigB p.symbols))))
def padS(l:List UInt8):List UInt8:=l++List.replicate (92-l.length) 0
def supP(p:GSuper):List UInt8:=padS (supH p)
def kW(p:GSuper):List UInt8:=supP p++(jX (sumB 29 (supP p))++jX p.gen)
theorem sigB_len{s:GSignature}(h:SigOK s):(sigB s).length<=31:=by
 rw[<-sigA_all]
 have:=sigA_len (fun y hy=>(h.nm y hy).1) s.symbols.length (xC _)
 have:=h.len
 omega
theorem supH_len{p:GSuper}:(supH p).length=10+p.cursor.length+(sigB p.symbols).length:=by
 unfold supH
 simp only[xD,xJ,xZ,jQ]
 omega
theorem supP_len{p:GSuper}(h:SuperOK p):(supP p).length=92:=by
 have h1:=supH_len (p:=p)
 have h2:=sigB_len (yT h.sig)
 have h3:=h.cur
 unfold supP padS
 rw[xD,List.length_replicate];omega
theorem packS_len{p:GSuper}(h:SuperOK p):(kW p).length=96:=by
 unfold kW
 rw[xD,xD,supP_len h,jQ,jQ]
theorem zeros_flat(n:Nat):jU n [Value.int .u8 0]=qO (List.replicate n (0:UInt8)):=(zmake_one _ _).trans (flat_zeros _).symm
theorem lenS{p:GSuper}(h:(supP p).length=92):96=(supP p++(jX (sumB 29 (supP p))++jX p.gen)).length:=by
 rw[xD,xD,h,jQ,jQ]
@[go_sem] theorem viewOf_rd(xs:List UInt8)(f:Bool):kF rdB ⟨[lst xs, .bool f],true⟩=some (xs,f):=viewOf_eq (f:=rdB) (fun x y h=>rdB_inj h) (xs,f)
def symR(q:RdS):GSymbol×RdS:=(⟨bstr (rky q),yJ (rq2 q)⟩,tkS (rq2 q) 1)
def symsR:Nat->RdS->List GSymbol->List GSymbol×RdS
 |0,q,out=>(out,q)
 |n+1,q,out=>if q.2=true then(out,q)else symsR n (symR q).2 (out++[(symR q).1])
def sigR(q:RdS):List GSymbol×RdS:=symsR (yJ q).toNat (tkS q 1) []
theorem symsR_fail{n:Nat}{xs:List UInt8}{out:List GSymbol}:symsR n (xs,true) out=(out,(xs,true)):=by
 cases n with
 |zero=>rfl
 |succ n=>rw[symsR,if_pos rfl]
theorem rq2_le(q:RdS):(rq2 q).1.length<=q.1.length:=wE (vR _ _) (vR _ _)
theorem symR_le(q:RdS):(symR q).2.1.length<=q.1.length:=wE (vR _ _) (rq2_le q)
theorem rky_len(q:RdS):(rky q).length=(yJ q).toNat:=vB _ _
theorem symsR_le:∀(n:Nat) (q:RdS) (out:List GSymbol),(symsR n q out).2.1.length<=q.1.length/\(symsR n q out).1.length<=out.length+n
 |0,q,out=>⟨xC _,xC _⟩
 |n+1,q,out=>by
  rw[symsR]
  split
  ·exact⟨xC _,by show out.length<=_;omega⟩
  ·obtain⟨h1,h2⟩:=symsR_le n (symR q).2 (out++[(symR q).1])
   rw[xD]at h2
   simp only[xJ,xZ]at h2
   exact⟨wE h1 (symR_le q),by omega⟩
theorem symsR_sm:∀(n:Nat) (q:RdS) (out:List GSymbol),(∀x∈out,x.name.size<=255)->∀x∈(symsR n q out).1,x.name.size<=255
 |0,q,out,h=>h
 |n+1,q,out,h=>by
  rw[symsR]
  split
  ·exact h
  ·refine symsR_sm n _ _ fun x hx=> ?_
   rcases List.mem_append.1 hx with hx|hx
   ·exact h x hx
   ·rw[wR.1 hx]
    show(rky q).toArray.size<=255
    have:=vV q
    rw[List.size_toArray,rky_len];omega
theorem sigR_sm(q:RdS):sm (⟨(sigR q).1⟩:GSignature):=by
 have h1:=(symsR_le (yJ q).toNat (tkS q 1) []).2
 have h2:=vV q
 refine⟨?_,fun x hx=> ?_⟩
 ·show(symsR _ _ _).1.length<=281474976710656
  simp only[xZ]at h1;omega
 ·have:=symsR_sm _ _ _ (by simp) x hx
  exact⟨show x.name.size<=281474976710656 by omega,trivial⟩
def sp2(data:List UInt8):Nat->Option (List GSymbol×Nat)
 |0=>some ([],1)
 |i+1=>match sp2 data i with
  |none=>none
  |some (l,p)=>if data.length<=p then none else if data.length<p+(data.getD p 0).toNat+2 then none
   else some (l++[⟨bstr ((data.drop (p+1)).take (data.getD p 0).toNat),((data.getD (p+1+(data.getD p 0).toNat) 0).toNat:Int)⟩],p+(data.getD p 0).toNat+2)
def rd2(data:List UInt8):GSignature×Int:=
 if data.length<1 then(⟨[]⟩,0)
 else match sp2 data (min (data.getD 0 0).toNat 7)with
  |none=>(⟨[]⟩,0)
  |some (l,p)=>if kE ⟨l⟩≠0 then(⟨[]⟩,0)else(⟨l⟩,(p:Int))
theorem sp2_len{data:List UInt8}:∀ {i:Nat} {l:List GSymbol} {p:Nat},sp2 data i=some (l,p)->l.length=i/\(1<=data.length->p<=data.length)/\1<=p/\∀x∈l,x.name.size<=255
 |0,l,p,h=>by simp only[sp2,xE,Prod.mk.injEq]at h;obtain⟨rfl,rfl⟩:=h;exact⟨rfl,fun h=>h,xC _,by simp⟩
 |i+1,l,p,h=>by
  unfold sp2 at h
  split at h
  ·cases h
  ·rename_i l0 p0 h0
   obtain⟨h1,h2,h3,h4⟩:=sp2_len h0
   split at h
   ·cases h
   ·split at h
    ·cases h
    ·simp only[xE,Prod.mk.injEq]at h
     obtain⟨rfl,rfl⟩:=h
     refine⟨by rw[xD,h1];rfl,fun _=>by omega,by omega,fun x hx=> ?_⟩
     rcases List.mem_append.1 hx with hx|hx
     ·exact h4 x hx
     ·rw[wR.1 hx]
      show(List.take _ _).toArray.size<=255
      have:=(data.getD p0 0).toNat_lt
      rw[List.size_toArray,xQ];omega
theorem sp2_none{data:List UInt8}{i:Nat}(h:sp2 data i=none):∀j,i<=j->sp2 data j=none
 |0,hj=>by
  obtain rfl:i=0:=by omega
  exact h
 |j+1,hj=>by
  by_cases e:i=j+1
  ·subst e;exact h
  ·unfold sp2;rw[sp2_none h j (by omega)]
theorem zK{z:Int}(h0:0<=z)(h1:z<256):((u8z z).toNat:Int)=z:=by rw[kZ];omega
theorem bstr_back(b:ByteArray):bstr b.data.toList=b:=by
 unfold bstr
 rw[Array.toArray_toList]
structure SymAt (X:List UInt8) (x:GSymbol) (R:List UInt8):Prop where
 len:X.length=x.name.size+2+R.length
 cnt:(X.getD 0 0).toNat=x.name.size
 name:(X.drop 1).take x.name.size=x.name.data.toList
 ar:((X.getD (1+x.name.size) 0).toNat:Int)=x.arity
 rest:X.drop (x.name.size+2)=R
theorem symAt{x:GSymbol}(hn:isNm x.name=true)(ha:0<=x.arity/\x.arity<=2)(R:List UInt8):SymAt (symB x++R) x R:=by
 have h1:=zQ hn
 have hs:=zA x.name
 have e:symB x++R=u8z (x.name.size:Int)::(x.name.data.toList++(u8z x.arity::R)):=by unfold symB;simp only[List.cons_append,xL,List.nil_append]
 rw[e]
 refine⟨?_,?_,?_,?_,?_⟩
 ·simp only[xJ,xD,hs];omega
 ·have:=zK (z:=(x.name.size:Int)) (by omega) (by omega)
  show(u8z (x.name.size:Int)).toNat=_
  omega
 ·show(x.name.data.toList++(u8z x.arity::R)).take x.name.size=_
  rw[<-hs,List.take_left']
  rfl
 ·rw[Nat.add_comm 1,xF,wM,wB (by rw[hs];exact xC _),hs,Nat.sub_self]
  exact zK (by omega) (by omega)
 ·rw[show x.name.size+2=(x.name.size+1)+1 by omega,List.drop_succ_cons,List.drop_append,hs]
  rw[List.drop_of_length_le (by rw[hs];omega),show x.name.size+1-x.name.size=1 by omega];rfl
theorem getD_drop{α:Type}(l:List α)(p i:Nat)(d:α):(l.drop p).getD i d=l.getD (p+i) d:=by
 rw[xF,xF,wP]
theorem sigA_drop{s:GSignature}(rest:List UInt8)(i:Nat)(hi:i<=s.symbols.length):(sigB s++rest).drop (sigA s i).length=(s.symbols.drop i).flatMap symB++rest:=by
 have e:sigB s=sigA s i++(s.symbols.drop i).flatMap symB:=by
  unfold sigB sigA
  rw[List.cons_append,<-List.flatMap_append,List.take_append_drop]
 rw[e,xL,List.drop_left']
 rfl
theorem sp2_pack{s:GSignature}(h:SigOK s)(rest:List UInt8):∀i,i<=s.symbols.length->sp2 (sigB s++rest) i=some (s.symbols.take i,(sigA s i).length)
 |0,_=>rfl
 |i+1,hi=>by
  have hlt:i<s.symbols.length:=by omega
  have e1:s.symbols[i]? =some s.symbols[i]:=xA hlt
  obtain⟨hn,ha⟩:=h.nm _ (xH hlt)
  have hd:=sigA_drop (s:=s) rest i (by omega)
  rw[wI hlt,List.flatMap_cons,xL]at hd
  have hS:=symAt hn ha ((s.symbols.drop (i+1)).flatMap symB++rest)
  rw[<-hd]at hS
  have hl:(sigB s++rest).length=(sigA s i).length+((sigB s++rest).drop (sigA s i).length).length:=by
   rw[xI]
   have:=hS.len
   rw[xI]at this
   omega
  rw[hS.len]at hl
  have hc:=hS.cnt
  rw[getD_drop,Nat.add_zero]at hc
  have hnm:=hS.name
  rw[List.drop_drop]at hnm
  have har:=hS.ar
  rw[getD_drop,<-Nat.add_assoc]at har
  unfold sp2
  rw[sp2_pack h rest i (by omega)]
  simp only
  rw[if_neg (by omega),if_neg (by rw[hc];omega),hc,hnm,har,bstr_back,xP hlt,sigA_succ e1,xD]
  have:(symB s.symbols[i]).length=s.symbols[i].name.size+2:=by
   unfold symB;simp only[xJ,xD,xZ,zA]
  rw[this];rfl
theorem rd2_pack{s:GSignature}(h:kE s=0)(rest:List UInt8):rd2 (sigB s++rest)=(s,((sigB s).length:Int)):=by
 have hs:=yT h
 have hl:=hs.len
 have hc:(((sigB s++rest).getD 0 0).toNat:Int)=s.symbols.length:=zK (by omega) (by omega)
 unfold rd2
 rw[if_neg (by unfold sigB;simp),show min ((sigB s++rest).getD 0 0).toNat 7=s.symbols.length by omega,sp2_pack hs rest _ (xC _),wH,sigA_all]
 show(if kE s≠0 then _ else _)=_
 rw[if_neg (by simpa using h)]
theorem rd2_ok{data:List UInt8}(h:(rd2 data).2≠0):kE (rd2 data).1=0:=by
 unfold rd2 at h ⊢
 split at h
 ·exact absurd rfl h
 ·rename_i h0
  rw[if_neg h0]
  split at h
  ·exact absurd rfl h
  ·rename_i l p hp
   split at h
   ·exact absurd rfl h
   ·rename_i h1
    rw[if_neg h1]
    exact Decidable.not_not.1 h1
theorem symR_pack{x:GSymbol}(hn:isNm x.name=true)(ha:0<=x.arity/\x.arity<=2)(R:List UInt8):symR (symB x++R,false)=(x,(R,false)):=by
 have hS:=symAt hn ha R
 have hl:=hS.len
 have h1:yJ (symB x++R,false)=(x.name.size:Int):=by
  have:=oneV_at (body:=symB x++R) (p:=0) (by omega)
  rw[List.drop_zero,hS.cnt]at this;exact this
 have h2:tkS (symB x++R,false) 1=((symB x++R).drop 1,false):=tkS_ok (by omega)
 have h3:rky (symB x++R,false)=x.name.data.toList:=by
  unfold rky
  rw[h1,h2,Int.toNat_natCast,tkV_ok (by rw[xI];omega),hS.name]
 have h4:rq2 (symB x++R,false)=((symB x++R).drop (1+x.name.size),false):=by
  unfold rq2
  rw[h1,h2,Int.toNat_natCast,tkS_ok (by rw[xI];omega),List.drop_drop]
 unfold symR
 rw[h3,h4,bstr_back,oneV_at (by omega),hS.ar,tkS_ok (by rw[xI];omega),List.drop_drop,show 1+x.name.size+1=x.name.size+2 by omega,hS.rest]
theorem symsR_pack:∀(l:List GSymbol) (R:List UInt8) (out:List GSymbol),(∀x∈l,isNm x.name=true/\0<=x.arity/\x.arity<=2)->symsR l.length (l.flatMap symB++R,false) out=(out++l,(R,false))
 |[],R,out,_=>by rw[xZ,symsR,wL];rfl
 |x::l,R,out,h=>by
  obtain⟨hn,ha⟩:=h x List.mem_cons_self
  rw[xJ,symsR,if_neg (by simp),List.flatMap_cons,xL,symR_pack hn ha,symsR_pack l R _ fun y hy=>h y (List.mem_cons_of_mem _ hy),xL];rfl
theorem sigR_pack{s:GSignature}(h:SigOK s)(R:List UInt8):sigR (sigB s++R,false)=(s.symbols,(R,false)):=by
 have hl:=h.len
 have h1:yJ (sigB s++R,false)=(s.symbols.length:Int):=by
  have:=oneV_at (body:=sigB s++R) (p:=0) (by unfold sigB;simp)
  rw[List.drop_zero]at this
  rw[this];exact zK (by omega) (by omega)
 have h2:tkS (sigB s++R,false) 1=(s.symbols.flatMap symB++R,false):=tkS_ok (by unfold sigB;simp)
 unfold sigR
 rw[h1,h2,Int.toNat_natCast,symsR_pack _ _ _ h.nm,List.nil_append]
def yD:GSuper:=⟨0,0,0,0,0,0,false,[],⟨[]⟩⟩
def SupAt(data:List UInt8)(p:GSuper):Prop:=yX p=0/\kW p=data
def b8(data:List UInt8)(i:Nat):Int:=((data.getD i 0).toNat:Int)
def candS(data cur:List UInt8)(sy:GSignature):GSuper:=
 ⟨b8 data 0*256+b8 data 1,b8 data 2,b8 data 3,b8 data 4,b8 data 5,b8 data 6*256+b8 data 7,decide (b8 data 8=1),cur,sy⟩
theorem pairB_val{n:Int}(h0:0<=n)(h1:n<=65535):((UInt8.ofNat (n/256%256).toNat).toNat:Int)*256+((UInt8.ofNat (n%256).toNat).toNat:Int)=n:=by
 rw[u8_of (by omega) (by omega),u8_of (by omega) (by omega)];omega
theorem sup_bytes{data:List UInt8}{p:GSuper}(h:SupAt data p):∃T,data=UInt8.ofNat (p.gen/256%256).toNat::UInt8.ofNat (p.gen%256).toNat::u8z p.root::u8z p.shadow::u8z p.theory::u8z p.next_::
  UInt8.ofNat (p.version/256%256).toNat::UInt8.ofNat (p.version%256).toNat::movB p::u8z (p.cursor.length:Int)::(p.cursor++(sigB p.symbols++T))/\T.length+(sigB p.symbols).length+p.cursor.length=86:=by
 have hS:=kJ h.1
 have hl:=packS_len hS
 have e:kW p=UInt8.ofNat (p.gen/256%256).toNat::UInt8.ofNat (p.gen%256).toNat::u8z p.root::u8z p.shadow::u8z p.theory::u8z p.next_::
  UInt8.ofNat (p.version/256%256).toNat::UInt8.ofNat (p.version%256).toNat::movB p::u8z (p.cursor.length:Int)::(p.cursor++(sigB p.symbols++(List.replicate (92-(supH p).length) 0++(jX (sumB 29 (supP p))++jX p.gen)))):=by
  unfold kW
  show padS (supH p)++_=_
  unfold padS
  rw[xL]
  conv=>lhs;arg 1;unfold supH
  unfold jX
  simp only[xL,List.cons_append,List.nil_append]
 refine⟨List.replicate (92-(supH p).length) 0++(jX (sumB 29 (supP p))++jX p.gen),by rw[<-h.2];exact e,?_⟩
 rw[e]at hl
 simp only[xJ,xD]at hl ⊢
 omega
theorem cand_eq{data:List UInt8}{p:GSuper}(h:SupAt data p):candS data p.cursor p.symbols=p/\(data.getD 9 0).toNat=p.cursor.length/\data.length=96/\
  (∃T,data.drop 10=p.cursor++(sigB p.symbols++T)/\T.length+(sigB p.symbols).length+p.cursor.length=86):=by
 have hS:=kJ h.1
 obtain⟨T,hd,hT⟩:=sup_bytes h
 have hsl:=sigB_len (yT hS.sig)
 have hg:=hS.gen
 have hv:=hS.ver
 have hr:=hS.root
 have hsh:=hS.shadow
 have ht:=hS.theory
 have hn:=hS.next_
 have hc:=hS.cur
 refine⟨?_,?_,by rw[<-h.2];exact packS_len hS,T,by rw[hd];rfl,hT⟩
 ·unfold candS b8
  rw[hd]
  show GSuper.mk (((UInt8.ofNat (p.gen/256%256).toNat).toNat:Int)*256+((UInt8.ofNat (p.gen%256).toNat).toNat:Int)) ((u8z p.root).toNat:Int) ((u8z p.shadow).toNat:Int) ((u8z p.theory).toNat:Int) ((u8z p.next_).toNat:Int)
   (((UInt8.ofNat (p.version/256%256).toNat).toNat:Int)*256+((UInt8.ofNat (p.version%256).toNat).toNat:Int)) (decide (((movB p).toNat:Int)=1)) p.cursor p.symbols=p
  rw[pairB_val (by omega) (by omega),pairB_val (by omega) (by omega),zK (by omega) (by omega),zK (by omega) (by omega),zK (by omega) (by omega),zK (by omega) (by omega)]
  have hm:decide (((movB p).toNat:Int)=1)=p.moving:=by
   unfold movB
   cases p.moving <;>rfl
  rw[hm]
 ·rw[hd]
  show(u8z (p.cursor.length:Int)).toNat=_
  have:=zK (z:=(p.cursor.length:Int)) (by omega) (by omega)
  omega
noncomputable def rdS5(data:List UInt8):GSuper×Int:=open Classical in if h:∃p,SupAt data p then(Classical.choose h,0)else(yD,5)
noncomputable def rdS(data:List UInt8):GSuper×Int:=
 if ¬(data.getD 94 0=data.getD 0 0/\data.getD 95 0=data.getD 1 0)then(yD,8)
 else if jX (sumB 29 (data.take 92))≠(data.drop 92).take 2 then(yD,11)else rdS5 data
theorem supAt_uniq{data:List UInt8}{p q:GSuper}(h:SupAt data p)(k:SupAt data q):p=q:=by
 obtain⟨h1,h2,_,T,h3,h4⟩:=cand_eq h
 obtain⟨k1,k2,_,U,k3,k4⟩:=cand_eq k
 rw[h3]at k3
 obtain⟨e1,e2⟩:=List.append_inj k3 (by omega)
 have r1:=rd2_pack (kJ h.1).sig T
 have r2:=rd2_pack (kJ k.1).sig U
 rw[e2,r2]at r1
 have e3:q.symbols=p.symbols:=(Prod.mk.inj r1).1
 rw[<-h1,<-k1,e1,e3]
theorem rdS5_yes{data:List UInt8}{p:GSuper}(h:SupAt data p):rdS5 data=(p,0):=by
 have hx:∃p,SupAt data p:=⟨p,h⟩
 unfold rdS5
 rw[dif_pos hx,supAt_uniq (Classical.choose_spec hx) h]
theorem rdS5_no{data:List UInt8}(h:∀p,¬SupAt data p):rdS5 data=(yD,5):=by
 unfold rdS5
 rw[dif_neg (fun⟨p,hp⟩=>h p hp)]
theorem take_drop_at{data T:List UInt8}{a b:List UInt8}(h:data.drop 10=a++(b++T))(hl:T.length+b.length+a.length=86)(hb:b.length<=31)(ha:a.length<=16):
  (data.drop 10).take a.length=a/\∃T',(data.take 92).drop (10+a.length)=b++T':=by
 constructor
 ·rw[h,List.take_left'];rfl
 ·refine⟨T.take (82-a.length-b.length),?_⟩
  rw[<-List.drop_drop,List.drop_take,h,List.take_append,List.drop_append]
  rw[xO (by omega),List.drop_of_length_le (xC _),List.nil_append,Nat.sub_self,List.drop_zero,List.take_append,xO (by omega)]
theorem supS_fin{data:List UInt8}(h9:(data.getD 9 0).toNat<=16):
  (∀p,SupAt data p->(rd2 ((data.take 92).drop (10+(data.getD 9 0).toNat))).2≠0/\candS data ((data.drop 10).take (data.getD 9 0).toNat) (rd2 ((data.take 92).drop (10+(data.getD 9 0).toNat))).1=p):=fun p h=>by
 obtain⟨h1,h2,_,T,h3,h4⟩:=cand_eq h
 have hS:=kJ h.1
 obtain⟨e1,T',e2⟩:=take_drop_at h3 h4 (sigB_len (yT hS.sig)) hS.cur
 rw[h2,e1,e2,rd2_pack hS.sig]
 refine⟨?_,h1⟩
 show((sigB p.symbols).length:Int)≠0
 unfold sigB
 simp only[xJ];omega
theorem sup9{data:List UInt8}{p:GSuper}(h:SupAt data p):(data.getD 9 0).toNat<=16:=by
 rw[(cand_eq h).2.1];exact(kJ h.1).cur
theorem candS_eq(data cur:List UInt8)(sy:GSignature):candS data cur sy=⟨b8 data 0*256+b8 data 1,b8 data 2,b8 data 3,b8 data 4,b8 data 5,b8 data 6*256+b8 data 7,decide (b8 data 8=1),cur,sy⟩:=rfl
theorem supS_last{data cur:List UInt8}{sy:GSignature}{C:GSuper}(hC:C=candS data cur sy)(hF:∀p,SupAt data p->candS data cur sy=p):
  (yX C=0->kW C=data->rdS5 data=(C,0))/\((yX C≠0\/kW C≠data)->rdS5 data=(yD,5)):=by
 refine⟨fun h1 h2=>rdS5_yes ⟨h1,h2⟩,fun h=>rdS5_no fun p hp=> ?_⟩
 have:=hF p hp
 rw[<-hC]at this
 subst this
 exact h.elim (fun h=>h hp.1) fun h=>h hp.2
noncomputable def rdSR(data:List UInt8):GSuperResult:=if data.length≠96 then⟨1,yD⟩else⟨(rdS data).2,(rdS data).1⟩
theorem ends_eq{data:List UInt8}(h:data.length=96):(data.take 2=data.drop 94)↔(data.getD 94 0=data.getD 0 0/\data.getD 95 0=data.getD 1 0):=by
 have e1:data.take 2=[data[0],data[1]]:=by
  rw[show 2=0+1+1 from rfl,xP (by omega),xP (by omega)];rfl
 have e2:data.drop 94=[data[94],data[95]]:=by
  rw[wI (by omega),wI (by omega),List.drop_of_length_le (by omega)]
 rw[e1,e2,getD_some (xA (show 94<data.length by omega)),getD_some (xA (show 0<data.length by omega)),getD_some (xA (show 95<data.length by omega)),getD_some (xA (show 1<data.length by omega))]
 simp only[xG,and_true]
 exact⟨fun⟨a,b⟩=>⟨a.symm,b.symm⟩,fun⟨a,b⟩=>⟨a.symm,b.symm⟩⟩
theorem supI_fin{data:List UInt8}{p:GSuper}(h:SupAt data p):(sigR (tkS (data.drop 10,false) (data.getD 9 0).toNat)).2.2=false/\
  candS data (tkV (data.drop 10,false) (data.getD 9 0).toNat) ⟨(sigR (tkS (data.drop 10,false) (data.getD 9 0).toNat)).1⟩=p:=by
 obtain⟨h1,h2,h3,T,h4,h5⟩:=cand_eq h
 have hS:=kJ h.1
 have hl:(data.drop 10).length=86:=by rw[xI];omega
 have hc:=hS.cur
 rw[h2,tkS_ok (by omega),tkV_ok (by omega),h4,List.take_left',List.drop_left',sigR_pack (yT hS.sig)]
 ·exact⟨rfl,h1⟩
 ·rfl
 ·rfl
theorem supI_last{data cur:List UInt8}{sy:GSignature}{f:Bool}{C:GSuper}(hC:C=candS data cur sy)(hF:∀p,SupAt data p->f=false/\candS data cur sy=p):
  (f=false->yX C=0->kW C=data->rdS5 data=(C,0))/\((f=true\/yX C≠0\/kW C≠data)->rdS5 data=(yD,5)):=by
 refine⟨fun _ h1 h2=>rdS5_yes ⟨h1,h2⟩,fun h=>rdS5_no fun p hp=> ?_⟩
 obtain⟨h0,this⟩:=hF p hp
 rw[<-hC]at this
 subst this
 rcases h with h|h|h
 ·rw[h0]at h;cases h
 ·exact h hp.1
 ·exact h hp.2
theorem candS_eq2(data cur:List UInt8)(sy:GSignature):candS data cur sy=⟨((data.getD 0 0).toNat:Int)*256+((data.getD 1 0).toNat:Int),((data.getD 2 0).toNat:Int),((data.getD 3 0).toNat:Int),((data.getD 4 0).toNat:Int),((data.getD 5 0).toNat:Int),((data.getD 6 0).toNat:Int)*256+((data.getD 7 0).toNat:Int),decide (((data.getD 8 0).toNat:Int)=1),cur,sy⟩:=rfl
noncomputable def opB(d:GDisk):Nat->GSuper
 |0=>yD
 |i+1=>if(rdS (d.sectors.getD i [])).2=0/\(rdS (d.sectors.getD i [])).1.gen%2=(i:Int)/\(opB d i).gen<(rdS (d.sectors.getD i [])).1.gen then(rdS (d.sectors.getD i [])).1 else opB d i
theorem opB_zero(d:GDisk):opB d 0=yD:=rfl
noncomputable def jL(d:GDisk):GSuper×Int:=if 0<d.pending.length then(yD,8)else if(opB d 2).gen=0 then(yD,4)else(opB d 2,0)
noncomputable def opnR(d:GDisk):GSuperResult:=if yR d≠0 then⟨yR d,yD⟩else⟨(jL d).2,(jL d).1⟩
theorem rdS_ok{data:List UInt8}(h:(rdS data).2=0):yX (rdS data).1=0:=by
 unfold rdS at h ⊢
 split at h
 ·cases h
 ·rename_i h1
  rw[if_neg h1]
  split at h
  ·cases h
  ·rename_i h2
   rw[if_neg h2]
   by_cases hx:∃p,SupAt data p
   ·obtain⟨p,hp⟩:=hx
    rw[rdS5_yes hp];exact hp.1
   ·rw[rdS5_no fun p hp=>hx ⟨p,hp⟩]at h;cases h
theorem opB_ok(d:GDisk):∀i,opB d i=yD\/yX (opB d i)=0
 |0=> .inl rfl
 |i+1=>by
  rw[opB]
  split
  ·rename_i h;exact .inr (rdS_ok h.1)
  ·exact opB_ok d i
theorem opB_gen(d:GDisk)(i:Nat):0<=(opB d i).gen/\((opB d i).gen=0->opB d i=yD):=by
 rcases opB_ok d i with h|h
 ·rw[h];exact⟨Int.le_refl _,fun _=>rfl⟩
 ·have:=(kJ h).gen
  exact⟨by omega,fun h=>by omega⟩
theorem openD_ok{d:GDisk}(h:(jL d).2=0):yX (jL d).1=0:=by
 unfold jL at h ⊢
 split at h
 ·cases h
 ·rename_i h1
  rw[if_neg h1]
  split at h
  ·cases h
  ·rename_i h2
   rw[if_neg h2]
   rcases opB_ok d 2 with e|e
   ·rw[e]at h2;exact absurd rfl h2
   ·exact e
def nodeB(b:UInt8):Int:=if b.toNat<32 then(b.toNat:Int)-1 else 31-(b.toNat:Int)
def nodeZ(z:Int):Int:=if 32<=z then 31-z else z-1
theorem nodeZ_B(b:UInt8):nodeZ (b.toNat:Int)=nodeB b:=by
 unfold nodeZ nodeB
 by_cases h:b.toNat<32
 ·rw[if_neg (by omega),if_pos h]
 ·rw[if_pos (by omega),if_neg h]
def okB(s:GSignature)(b:UInt8):Bool:=if b.toNat<32 then isSym s ((b.toNat:Int)-1)else kI s (31-(b.toNat:Int))
theorem okB_node{s:GSignature}{b:UInt8}(h:okB s b=true):kI s (nodeB b)=true/\b.toNat≠0:=by
 unfold okB at h
 unfold nodeB
 by_cases h1:b.toNat<32
 ·rw[if_pos h1]at h ⊢
  refine⟨by unfold kI;rw[h];rfl,?_⟩
  unfold isSym at h
  have:=of_decide_eq_true h
  omega
 ·rw[if_neg h1]at h ⊢
  exact⟨h,by omega⟩
theorem okB_pack{s:GSignature}{b:UInt8}(h:okB s b=true):packN (nodeB b)=b:=by
 have h0:=(okB_node h).2
 apply UInt8.toNat_inj.1
 unfold packN nodeB
 have:=b.toNat_lt
 rw[UInt8.toNat_ofNat']
 by_cases h1:b.toNat<32
 ·rw[if_pos h1,if_neg (by omega)];omega
 ·rw[if_neg h1,if_pos (by omega)];omega
theorem nodeB_pack{n:Int}(h: -12<=n)(h2:n<6):nodeB (packN n)=n:=by
 unfold nodeB
 by_cases h0:n<0
 ·have:=packN_neg h h0
  rw[if_neg (by omega)];omega
 ·have:=packN_pos (by omega:0<=n) h2
  rw[if_pos (by omega)];omega
theorem nodes_isNode{s:GSignature}{t:List Int}(hn:nodes s t){n:Int}(h:n∈t):kI s n=true:=by
 have:=hn n h
 unfold kI isSym
 by_cases h0:0<=n
 ·rw[decide_eq_true (by omega:0<=n/\n<=(s.symbols.length:Int)-1)];rfl
 ·rw[decide_eq_true (by omega: -12<=n/\n<= -1),Bool.or_true]
theorem okB_packN{s:GSignature}{t:List Int}(hs:SigOK s)(hn:nodes s t){n:Int}(h:n∈t):okB s (packN n)=true:=by
 have h1:=nodes_small hs hn n h
 have h2:=nodes_isNode hn h
 have h3:=hn n h
 unfold okB
 by_cases h0:n<0
 ·have:=packN_neg h1.1 h0
  rw[if_neg (by omega),this,show(31:Int)-(31-n)=n by omega];exact h2
 ·have:=packN_pos (by omega:0<=n) h1.2
  rw[if_pos (by omega),this,show n+1-1=n by omega]
  unfold isSym
  exact decide_eq_true (by omega)
theorem skip_app(s:GSignature)(m:List Int):∀(l:List Int) (k:Nat) (r:List Int),skip s k l=some r->skip s k (l++m)=some (r++m)
 |l,0,r,h=>by rw[skip_zero]at h ⊢;cases h;rfl
 |[],k+1,r,h=>by cases h
 |x::l,k+1,r,h=>by
  rw[skip_cons]at h
  rw[List.cons_append,skip_cons]
  exact skip_app s m l _ r h
theorem term_skip{s:GSignature}{t:List Int}(h:TermOK s t):skip s 1 t=some []:=by
 have h1:=h.ends
 have hl:=h.len
 unfold ep at h1
 rw[List.drop_zero]at h1
 cases hs:skip s 1 t with
 |none=>rw[hs]at h1;simp only at h1;omega
 |some r=>
  rw[hs]at h1
  simp only at h1
  have:r.length=0:=by omega
  rw[List.length_eq_zero_iff.1 this]
theorem term_take{s:GSignature}{t:List Int}(h:TermOK s t){j:Nat}(hj:j<t.length):termG s (t.take j)≠0:=fun e=>by
 have h1:=skip_app s (t.drop j) _ _ _ (term_skip (term_ok e))
 rw[List.take_append_drop,term_skip h,List.nil_append,xE]at h1
 have:=congrArg List.length h1
 rw[xI,xZ]at this
 omega
theorem term_zero{s:GSignature}{t:List Int}(h:TermOK s t):termG s t=0:=by
 have hl:=h.len
 unfold termG
 rw[if_neg (by omega),if_neg,if_pos h.ends]
 intro e
 obtain⟨n,hn,h1⟩:=List.any_eq_true.1 e
 rw[nodes_isNode h.nodes hn]at h1
 cases h1
def smallZ(t:List Int):Prop:=∀n∈t,-224<=n/\n<=224
def rtT(data:List UInt8)(i:Nat):List Int:=(data.take i).map nodeB
def rtS(s:GSignature)(data:List UInt8):Nat->Nat->List Int
 |0,_=>[]
 |f+1,i=>if data.length<=i then []else if okB s (data.getD i 0)=true then(if termG s (rtT data (i+1))=0 then rtT data (i+1)else rtS s data f (i+1))else []
def rt(s:GSignature)(data:List UInt8):List Int:=rtS s data 24 0
theorem rtT_len{data:List UInt8}{i:Nat}(h:i<=data.length):(rtT data i).length=i:=by unfold rtT;rw[List.length_map,xQ];omega
theorem rtT_succ{data:List UInt8}{i:Nat}(h:i<data.length):rtT data (i+1)=rtT data i++[nodeB (data.getD i 0)]:=by
 unfold rtT
 rw[xP h,List.map_append,getD_some (xA h)];rfl
theorem rtS_ok{s:GSignature}{data:List UInt8}:∀(f i:Nat),(∀j,j<i->okB s (data.getD j 0)=true)->rtS s data f i≠[]->termG s (rtS s data f i)=0/\(rtS s data f i).length<=data.length/\kN (rtS s data f i)=data.take (rtS s data f i).length
 |0,i,_,h=>absurd rfl h
 |f+1,i,hk,h=>by
  rw[rtS]at h ⊢
  split at h
  ·exact absurd rfl h
  ·rename_i h1
   rw[if_neg h1]
   split at h
   ·rename_i h2
    rw[if_pos h2]
    have hk':∀j,j<i+1->okB s (data.getD j 0)=true:=fun j hj=>by
     rcases xM j i with g|g
     ·exact hk j g
     ·rw[show j=i by omega];exact h2
    split at h
    ·rename_i h3
     rw[if_pos h3]
     have hl:=rtT_len (data:=data) (i:=i+1) (by omega)
     refine⟨h3,by omega,?_⟩
     rw[hl]
     unfold kN rtT
     rw[List.map_map]
     have:∀b∈data.take (i+1),(packN ∘ nodeB) b=b:=fun b hb=>by
      obtain⟨j,hj,rfl⟩:=wO hb
      rw[xQ]at hj
      have:=hk' j (by omega)
      rw[getD_some (xA (show j<data.length by omega))]at this
      rw[List.getElem_take]
      exact okB_pack this
     rw[List.map_congr_left this,List.map_id']
    ·rename_i h3
     rw[if_neg h3]
     exact rtS_ok f (i+1) hk' h
   ·exact absurd rfl h
theorem rt_ok{s:GSignature}{data:List UInt8}(h:rt s data≠[]):termG s (rt s data)=0/\(rt s data).length<=data.length/\kN (rt s data)=data.take (rt s data).length:=rtS_ok 24 0 (fun j hj=>by omega) h
theorem rtS_len{s:GSignature}{data:List UInt8}:∀(f i:Nat),i+f<=24->(rtS s data f i).length<=24/\smallZ (rtS s data f i)
 |0,i,_=>⟨xT _,fun n h=>by cases h⟩
 |f+1,i,hf=>by
  rw[rtS]
  split
  ·exact⟨xT _,fun n h=>by cases h⟩
  ·rename_i h1
   split
   ·split
    ·refine⟨by rw[rtT_len (by omega)];omega,fun n h=> ?_⟩
     unfold rtT at h
     obtain⟨b,_,rfl⟩:=List.mem_map.1 h
     have:=b.toNat_lt
     unfold nodeB
     split <;>omega
    ·exact rtS_len f (i+1) (by omega)
   ·exact⟨xT _,fun n h=>by cases h⟩
theorem rtS_pack{s:GSignature}{t:List Int}{rest:List UInt8}(hs:SigOK s)(ht:TermOK s t):∀(f i:Nat),i<t.length->t.length<=i+f->rtS s (kN t++rest) f i=t
 |0,i,h1,h2=>by omega
 |f+1,i,h1,h2=>by
  have hl:(kN t++rest).length=t.length+rest.length:=by rw[xD,vF]
  have hg:(kN t++rest).getD i 0=packN (t[i]'h1):=by
   refine getD_some ?_
   rw[wF (by rw[vF];exact h1)]
   unfold kN
   rw[wN,xA h1];rfl
  have hT:rtT (kN t++rest) (i+1)=t.take (i+1):=by
   unfold rtT
   rw[List.take_append_of_le_length (by rw[vF];omega)]
   unfold kN
   rw[<-List.map_take,List.map_map]
   have:∀n∈t.take (i+1),(nodeB ∘ packN) n=n:=fun n hn=>by
    have:=nodes_small hs ht.nodes n (List.mem_of_mem_take hn)
    exact nodeB_pack this.1 this.2
   rw[List.map_congr_left this,List.map_id']
  rw[rtS,if_neg (by omega),hg,if_pos (okB_packN hs ht.nodes (xH h1)),hT]
  rcases xM (i+1) t.length with g|g
  ·rw[if_neg (term_take ht g)]
   exact rtS_pack hs ht f (i+1) g (by omega)
  ·rw[xO g]
   split
   ·rfl
   ·rename_i h3
    exact absurd (term_zero ht) h3
theorem rt_pack{s:GSignature}{t:List Int}{rest:List UInt8}(hs:SigOK s)(ht:TermOK s t):rt s (kN t++rest)=t:=rtS_pack hs ht 24 0 (by have:=ht.len;omega) (by have:=ht.len;omega)
def trI(s:GSignature):Nat->RdS->List Int->Nat->List Int×RdS
 |0,q,out,_=>(out,q)
 |f+1,q,out,m=>if m=0\/q.2=true then(out,q)
  else if yJ q=0\/kI s (nodeZ (yJ q))=false\/out.length=24 then(out,((tkS q 1).1,true))
  else trI s f (tkS q 1) (out++[nodeZ (yJ q)]) (m-1+arN s (nodeZ (yJ q)))
def trT(s:GSignature)(q:RdS):List Int×RdS:=trI s 25 q [] 1
theorem one_cons(b:UInt8)(l:List UInt8):yJ (b::l,false)=(b.toNat:Int):=oneV_at (body:=b::l) (p:=0) (by simp)
theorem tk_cons(b:UInt8)(l:List UInt8):tkS (b::l,false) 1=(l,false):=tkS_ok (by simp)
theorem trI_pack{s:GSignature}{rest:List UInt8}:∀(l:List Int) (f:Nat) (out:List Int) (m:Nat),skip s m l=some []->(∀n∈l,kI s n=true/\ -12<=n/\n<6)->out.length+l.length<=24->l.length<f->trI s f (kN l++rest,false) out m=(out++l,(rest,false))
 |[],f,out,0,h,_,_,hf=>by
  obtain⟨f,rfl⟩:∃g,f=g+1:=⟨f-1,by simp only[xZ]at hf;omega⟩
  rw[trI,if_pos (.inl rfl),wL];rfl
 |[],f,out,m+1,h,_,_,hf=>by cases h
 |n::l,f,out,0,h,_,_,hf=>by rw[skip_zero]at h;cases h
 |n::l,f,out,m+1,h,hn,ho,hf=>by
  obtain⟨f,rfl⟩:∃g,f=g+1:=⟨f-1,by simp only[xJ]at hf;omega⟩
  rw[skip_cons]at h
  obtain⟨h1,h2,h3⟩:=hn n (List.mem_cons_self ..)
  simp only[xJ]at ho hf
  have e:kN (n::l)++rest=packN n::(kN l++rest):=rfl
  have ez:nodeZ (yJ (kN (n::l)++rest,false))=n:=by rw[e,one_cons,nodeZ_B,nodeB_pack h2 h3]
  have e0:yJ (kN (n::l)++rest,false)≠0:=by
   rw[e,one_cons]
   by_cases g:n<0
   ·rw[packN_neg h2 g];omega
   ·rw[packN_pos (by omega) h3];omega
  rw[trI,if_neg (by rintro(g|g) <;>cases g),ez,if_neg (by rintro(g|g|g);exact e0 g;(rw[h1]at g;cases g);omega),e,tk_cons,Nat.add_sub_cancel,trI_pack l f (out++[n]) _ h (fun x hx=>hn x (List.mem_cons_of_mem _ hx)) (by rw[xD,List.length_singleton];omega) (by omega),xL]
  rfl
theorem trT_pack{s:GSignature}{t:List Int}{rest:List UInt8}(hs:SigOK s)(ht:TermOK s t):trT s (kN t++rest,false)=(t,(rest,false)):=by
 have hl:=ht.len
 refine trI_pack t 25 [] 1 (term_skip ht) (fun n hn=> ?_) (by simp only[xZ];omega) (by omega)
 have:=nodes_small hs ht.nodes n hn
 exact⟨nodes_isNode ht.nodes hn,this.1,this.2⟩
theorem trI_le{s:GSignature}:∀(f:Nat) (q:RdS) (out:List Int) (m:Nat),(trI s f q out m).2.1.length<=q.1.length/\(out.length<=24->(trI s f q out m).1.length<=24)/\(smallZ out->smallZ (trI s f q out m).1)
 |0,q,out,m=>⟨xC _,fun h=>h,fun h=>h⟩
 |f+1,q,out,m=>by
  rw[trI]
  split
  ·exact⟨xC _,fun h=>h,fun h=>h⟩
  ·split
   ·exact⟨vR _ _,fun h=>h,fun h=>h⟩
   ·rename_i h1
    obtain⟨g1,g2,g3⟩:=trI_le f (tkS q 1) (out++[nodeZ (yJ q)]) (m-1+arN s (nodeZ (yJ q)))
    refine⟨wE g1 (vR _ _),fun h=>g2 (by rw[xD,List.length_singleton];omega),fun h=>g3 fun n hn=> ?_⟩
    rcases List.mem_append.1 hn with hn|hn
    ·exact h n hn
    ·rw[wR.1 hn]
     have:=vV q
     unfold nodeZ
     split <;>omega
def pkE(e:GEquation):List UInt8:=kN e.left++kN e.right
def kH(l:List GEquation):List UInt8:=u8z (l.length:Int)::l.flatMap pkE
def accE(l:List GEquation)(i:Nat):List UInt8:=u8z (l.length:Int)::(l.take i).flatMap pkE
theorem accE_zero(l:List GEquation):accE l 0=[u8z (l.length:Int)]:=rfl
theorem accE_all(l:List GEquation):accE l l.length=kH l:=by unfold accE kH;rw[wH]
theorem accE_succ{l:List GEquation}{i:Nat}{x:GEquation}(h:l[i]? =some x):accE l (i+1)=accE l i++pkE x:=by
 obtain⟨hi,rfl⟩:=xR.1 h
 unfold accE
 rw[xP hi,List.flatMap_append,List.flatMap_cons,List.flatMap_nil,wL,List.cons_append]
def rvS(s:GSignature)(data:List UInt8):Nat->Option (List GEquation×Nat)
 |0=>some ([],1)
 |i+1=>match rvS s data i with
  |none=>none
  |some (l,p)=>if eqnG s ⟨rt s (data.drop p),rt s (data.drop (p+(rt s (data.drop p)).length))⟩≠0 then none
   else some (l++[⟨rt s (data.drop p),rt s (data.drop (p+(rt s (data.drop p)).length))⟩],p+(rt s (data.drop p)).length+(rt s (data.drop (p+(rt s (data.drop p)).length))).length)
def raD(s:GSignature)(data:List UInt8):List GEquation×Int:=
 if data.length<1\/12<(data.getD 0 0).toNat then([],0)
 else match rvS s data (data.getD 0 0).toNat with
  |none=>([],0)
  |some (l,p)=>(l,(p:Int))
theorem eqn_parts{s:GSignature}{l r:List Int}(h:eqnG s ⟨l,r⟩=0):l≠[]/\r≠[]:=by
 obtain⟨h1,h2,_⟩:=zS h
 have:=h1.len
 have:=h2.len
 exact⟨fun e=>by simp_all,fun e=>by simp_all⟩
theorem take_split{α:Type}{l:List α}{p k:Nat}:l.take (p+k)=l.take p++(l.drop p).take k:=List.take_add
theorem rvS_ok{s:GSignature}{data:List UInt8}(h1:1<=data.length):∀ {i:Nat} {l:List GEquation} {p:Nat},rvS s data i=some (l,p)->l.length=i/\(∀e∈l,eqnG s e=0)/\1<=p/\p<=data.length/\data.take p=data.take 1++l.flatMap pkE
 |0,l,p,h=>by
  simp only[rvS,xE,Prod.mk.injEq]at h
  obtain⟨rfl,rfl⟩:=h
  exact⟨rfl,by simp,xC _,h1,by simp⟩
 |i+1,l,p,h=>by
  unfold rvS at h
  split at h
  ·cases h
  ·rename_i l0 p0 h0
   obtain⟨g1,g2,g3,g4,g5⟩:=rvS_ok h1 h0
   split at h
   ·cases h
   ·rename_i he
    have he:eqnG s ⟨rt s (data.drop p0),rt s (data.drop (p0+(rt s (data.drop p0)).length))⟩=0:=by simpa using he
    obtain⟨n1,n2⟩:=eqn_parts he
    obtain⟨_,a2,a3⟩:=rt_ok n1
    obtain⟨_,b2,b3⟩:=rt_ok n2
    rw[xI]at a2 b2
    generalize rt s (data.drop (p0+(rt s (data.drop p0)).length))=R at*
    generalize rt s (data.drop p0)=L at*
    simp only[xE,Prod.mk.injEq]at h
    obtain⟨rfl,rfl⟩:=h
    have q1:L.length≠0:=fun e=>n1 (List.length_eq_zero_iff.1 e)
    have q2:R.length≠0:=fun e=>n2 (List.length_eq_zero_iff.1 e)
    refine⟨by rw[xD,g1];rfl,fun e hm=> ?_,by omega,by omega,?_⟩
    ·rcases List.mem_append.1 hm with hm|hm
     ·exact g2 e hm
     ·rw[wR.1 hm];exact he
    ·rw[take_split,take_split,g5,<-a3,<-b3,List.flatMap_append,xL,xL]
     congr 1
     simp[pkE]
theorem rvS_none{s:GSignature}{data:List UInt8}{i:Nat}(h:rvS s data i=none):∀j,i<=j->rvS s data j=none
 |0,hj=>by
  obtain rfl:i=0:=by omega
  exact h
 |j+1,hj=>by
  by_cases e:i=j+1
  ·subst e;exact h
  ·unfold rvS;rw[rvS_none h j (by omega)]
theorem u8n{n:Nat}(h:n<256):(u8z (n:Int)).toNat=n:=by have:=kZ (n:Int);omega
theorem raD_ok{s:GSignature}{data:List UInt8}(h:(raD s data).2≠0):eqsG s (raD s data).1=0/\1<=(raD s data).2/\(raD s data).2.toNat<=data.length/\kH (raD s data).1=data.take (raD s data).2.toNat:=by
 unfold raD at h ⊢
 split at h
 ·exact absurd rfl h
 ·rename_i h1
  rw[if_neg h1]
  split at h
  ·exact absurd rfl h
  ·rename_i l p h2
   obtain⟨g1,g2,g3,g4,g5⟩:=rvS_ok (by omega) h2
   simp only
   refine⟨?_,by omega,by omega,?_⟩
   ·unfold eqsG
    rw[if_neg (by omega)]
    exact firstF_all g2
   ·rw[Int.toNat_natCast,g5]
    unfold kH
    have e0:data.take 1=[data.getD 0 0]:=by
     cases data with
     |nil=>simp at h1
     |cons a b=>rfl
    rw[e0,List.singleton_append,g1]
    congr 1
    exact UInt8.toNat_inj.1 (by rw[u8n (by omega)])
theorem rvS_pack{s:GSignature}{l:List GEquation}{rest:List UInt8}(hs:SigOK s)(hl:∀e∈l,eqnG s e=0):∀i,i<=l.length->rvS s (kH l++rest) i=some (l.take i,(accE l i).length)
 |0,_=>by simp[rvS,accE]
 |i+1,hi=>by
  have e1:l[i]? =some (l[i]'(by omega)):=xA (by omega)
  have he:=hl _ (xH (show i<l.length by omega))
  obtain⟨t1,t2,_⟩:=zS he
  have hd:(kH l++rest).drop (accE l i).length=kN (l[i]'(by omega)).left++(kN (l[i]'(by omega)).right++((l.drop (i+1)).flatMap pkE++rest)):=by
   have:kH l++rest=accE l i++(pkE (l[i]'(by omega))++((l.drop (i+1)).flatMap pkE++rest)):=by
    unfold kH accE
    have e2:l.flatMap pkE=(l.take i).flatMap pkE++(pkE (l[i]'(by omega))++(l.drop (i+1)).flatMap pkE):=by
     rw[<-List.flatMap_cons,<-wI,<-List.flatMap_append,List.take_append_drop]
    rw[e2]
    simp only[List.cons_append,xL]
   rw[this,List.drop_left]
   unfold pkE
   rw[xL]
  have hd2:(kH l++rest).drop ((accE l i).length+(l[i]'(by omega)).left.length)=kN (l[i]'(by omega)).right++((l.drop (i+1)).flatMap pkE++rest):=by
   rw[<-List.drop_drop,hd]
   conv=>lhs;arg 1;rw[<-vF]
   rw[List.drop_left]
  unfold rvS
  rw[rvS_pack hs hl i (by omega)]
  simp only
  rw[hd,rt_pack hs t1,hd2,rt_pack hs t2,if_neg (by simpa using he),xP (by omega),accE_succ e1]
  congr 2
  unfold pkE
  rw[xD,xD,vF,vF]
  omega
theorem raD_pack{s:GSignature}{l:List GEquation}{rest:List UInt8}(hs:SigOK s)(hl:eqsG s l=0):raD s (kH l++rest)=(l,((kH l).length:Int)):=by
 obtain⟨h1,h2⟩:=eqsG_zero hl
 have e:(kH l++rest).getD 0 0=u8z (l.length:Int):=rfl
 unfold raD
 rw[e,u8n (by omega),if_neg (by rintro(g|g);(unfold kH at g;simp at g);omega),rvS_pack hs h2 l.length (xC _),wH,accE_all]
def eqI(s:GSignature):Nat->RdS->List GEquation->List GEquation×RdS
 |0,q,out=>(out,q)
 |n+1,q,out=>if q.2=true then(out,q)else eqI s n (trT s (trT s q).2).2 (out++[⟨(trT s q).1,(trT s (trT s q).2).1⟩])
def eqJ(s:GSignature)(q:RdS):List GEquation×RdS:=eqI s (yJ q).toNat (tkS q 1) []
def eqR(s:GSignature)(q:RdS):List GEquation×RdS:=((eqJ s q).1,((eqJ s q).2.1,(eqJ s q).2.2||decide (eqsF s (eqJ s q).1≠0)))
def smE(l:List GEquation):Prop:=∀e∈l,(e.left.length<=24/\smallZ e.left)/\(e.right.length<=24/\smallZ e.right)
theorem trT_le(s:GSignature)(q:RdS):(trT s q).2.1.length<=q.1.length/\(trT s q).1.length<=24/\smallZ (trT s q).1:=by
 obtain⟨h1,h2,h3⟩:=trI_le (s:=s) 25 q [] 1
 exact⟨h1,h2 (xT _),h3 fun n h=>by cases h⟩
theorem eqI_le(s:GSignature):∀(n:Nat) (q:RdS) (out:List GEquation),(eqI s n q out).2.1.length<=q.1.length/\(eqI s n q out).1.length<=out.length+n/\(smE out->smE (eqI s n q out).1)
 |0,q,out=>⟨xC _,xC _,fun h=>h⟩
 |n+1,q,out=>by
  rw[eqI]
  split
  ·exact⟨xC _,by show out.length<=_;omega,fun h=>h⟩
  ·obtain⟨h1,h2,h3⟩:=eqI_le s n (trT s (trT s q).2).2 (out++[⟨(trT s q).1,(trT s (trT s q).2).1⟩])
   obtain⟨a1,a2,a3⟩:=trT_le s q
   obtain⟨b1,b2,b3⟩:=trT_le s (trT s q).2
   rw[xD,List.length_singleton]at h2
   refine⟨by omega,by omega,fun h=>h3 fun e he=> ?_⟩
   rcases List.mem_append.1 he with he|he
   ·exact h e he
   ·rw[wR.1 he];exact⟨⟨a2,a3⟩,b2,b3⟩
theorem eqI_pack{s:GSignature}{rest:List UInt8}(hs:SigOK s):∀(l:List GEquation) (out:List GEquation),(∀e∈l,eqnG s e=0)->eqI s l.length (l.flatMap pkE++rest,false) out=(out++l,(rest,false))
 |[],out,_=>by rw[wL];rfl
 |e::l,out,h=>by
  obtain⟨t1,t2,_⟩:=zS (h e (List.mem_cons_self ..))
  have e0:(e::l).flatMap pkE++rest=kN e.left++(kN e.right++(l.flatMap pkE++rest)):=by
   rw[List.flatMap_cons];unfold pkE;simp only[xL]
  rw[xJ,eqI,if_neg (by simp),e0,trT_pack hs t1]
  simp only
  rw[trT_pack hs t2]
  simp only
  rw[eqI_pack hs l _ fun x hx=>h x (List.mem_cons_of_mem _ hx),xL]
  rfl
theorem eqR_pack{s:GSignature}{l:List GEquation}{rest:List UInt8}(hf:kE s=0)(hl:eqsG s l=0):eqR s (kH l++rest,false)=(l,(rest,false)):=by
 obtain⟨h1,h2⟩:=eqsG_zero hl
 have e:eqJ s (kH l++rest,false)=(l,(rest,false)):=by
  unfold eqJ
  have e1:kH l++rest=u8z (l.length:Int)::(l.flatMap pkE++rest):=rfl
  rw[e1,one_cons,tk_cons,u8n (by omega),Int.toNat_natCast,eqI_pack (yT hf) l [] h2];rfl
 have e2:eqsF s l=0:=by unfold eqsF;rw[if_neg (by simpa using hf),hl]
 unfold eqR
 rw[e]
 simp only[e2]
 rfl
def noTh:GTheory:=⟨[],[],[]⟩
def bI(b:UInt8):Int:=(b.toNat:Int)
def packO(l:List Int):List UInt8:=l.map u8z
def yV(x:GTheory):List UInt8:=packO x.order++(kH x.equations++kH x.rules)
def thE(s:GSignature)(data:List UInt8):List GEquation×Int:=raD s (data.drop s.symbols.length)
def thL(s:GSignature)(data:List UInt8):List GEquation×Int:=raD s (data.drop (s.symbols.length+(thE s data).2.toNat))
def thX(s:GSignature)(data:List UInt8):GTheory:=⟨(data.take s.symbols.length).map bI,(thE s data).1,(thL s data).1⟩
def thS(s:GSignature)(data:List UInt8):GTheory×Bool:=
 if data.length<s.symbols.length\/300<data.length then(noTh,false)
 else if(thE s data).2=0 then(noTh,false)
 else if(thL s data).2=0\/(s.symbols.length:Int)+(thE s data).2+(thL s data).2≠data.length then(noTh,false)
 else(thX s data,decide (thG s (thX s data)=0))
theorem bI_u8(b:UInt8):u8z (bI b)=b:=UInt8.toNat_inj.1 (u8n b.toNat_lt)
theorem packO_bI(l:List UInt8):packO (l.map bI)=l:=by
 unfold packO
 rw[List.map_map]
 have:∀b∈l,(u8z ∘ bI) b=b:=fun b _=>bI_u8 b
 rw[List.map_congr_left this,List.map_id']
theorem ordG_zero{s:GSignature}{o:List Int}(hs:SigOK s)(h:ordG s o=0):o.length=s.symbols.length/\∀n∈o,0<=n/\n<256:=by
 unfold ordG at h
 split at h
 ·cases h
 ·rename_i h1
  split at h
  ·cases h
  ·rename_i h2
   refine⟨by simpa using h1,fun n hn=> ?_⟩
   have h2:o.any (fun n=> !isSym s n)=false:=by simpa using h2
   have:=List.any_eq_false.1 h2 n hn
   unfold isSym at this
   simp only[Bool.not_eq_true',Bool.not_eq_true,Bool.not_eq_false',decide_eq_true_eq,Bool.not_eq_false,decide_eq_false_iff_not]at this
   have hl:=hs.len
   have h3:0<=n/\n<=(s.symbols.length:Int)-1:=by
    by_cases g:0<=n/\n<=(s.symbols.length:Int)-1
    ·exact g
    ·exact absurd g (by simpa using this)
   omega
theorem thG_zero{s:GSignature}{x:GTheory}(h:thG s x=0):ordG s x.order=0/\eqsG s x.equations=0/\vS s x.rules=0:=by
 unfold thG at h
 split at h
 ·rename_i h1;exact absurd h h1
 ·rename_i h1
  split at h
  ·rename_i h2;exact absurd h h2
  ·rename_i h2
   split at h
   ·rename_i h3;exact absurd h h3
   ·rename_i h3
    exact⟨by simpa using h1,by simpa using h2,by simpa using h3⟩
theorem rulesG_eqs{s:GSignature}{l:List GEquation}(h:vS s l=0):eqsG s l=0:=by
 unfold vS at h
 split at h
 ·rename_i h1;exact absurd h h1
 ·rename_i h1;simpa using h1
theorem packO_len(o:List Int):(packO o).length=o.length:=List.length_map ..
theorem bI_packO{o:List Int}(h:∀n∈o,0<=n/\n<256):(packO o).map bI=o:=by
 unfold packO
 rw[List.map_map]
 have:∀n∈o,(bI ∘ u8z) n=n:=fun n hn=>by
  have:=h n hn
  show((u8z n).toNat:Int)=n
  rw[kZ];omega
 rw[List.map_congr_left this,List.map_id']
theorem packE_pos(l:List GEquation):1<=(kH l).length:=by unfold kH;simp
theorem thS_pack{s:GSignature}{x:GTheory}(hs:SigOK s)(h:thG s x=0)(hl:(yV x).length<=300):thS s (yV x)=(x,true):=by
 obtain⟨h1,h2,h3⟩:=thG_zero h
 obtain⟨o1,o2⟩:=ordG_zero hs h1
 have h4:=rulesG_eqs h3
 have hL:(yV x).length=s.symbols.length+((kH x.equations).length+(kH x.rules).length):=by
  unfold yV;rw[xD,xD,packO_len,o1]
 have d1:(yV x).drop s.symbols.length=kH x.equations++kH x.rules:=by
  unfold yV
  rw[<-o1,<-packO_len,List.drop_left]
 have d2:(yV x).drop (s.symbols.length+(kH x.equations).length)=kH x.rules++[]:=by
  rw[<-List.drop_drop,d1,List.drop_left,wL]
 have d3:((yV x).take s.symbols.length).map bI=x.order:=by
  unfold yV
  rw[<-o1,<-packO_len,List.take_left,bI_packO o2]
 have e1:=packE_pos x.equations
 have e2:=packE_pos x.rules
 have f1:thE s (yV x)=(x.equations,((kH x.equations).length:Int)):=by unfold thE;rw[d1,raD_pack hs h2]
 have f2:thL s (yV x)=(x.rules,((kH x.rules).length:Int)):=by
  unfold thL
  rw[f1]
  simp only[Int.toNat_natCast]
  rw[d2,raD_pack hs h4]
 have f3:thX s (yV x)=x:=by unfold thX;rw[f1,f2,d3]
 unfold thS
 rw[f3,f1,f2]
 simp only
 rw[if_neg (by omega),if_neg (by omega),if_neg (by omega),decide_eq_true h]
theorem thS_ok{s:GSignature}{data:List UInt8}(h:(thS s data).2=true):thG s (thS s data).1=0/\yV (thS s data).1=data/\data.length<=300:=by
 unfold thS at h ⊢
 split at h
 ·cases h
 ·rename_i h1
  rw[if_neg h1]
  split at h
  ·cases h
  ·rename_i h2
   rw[if_neg h2]
   split at h
   ·cases h
   ·rename_i h3
    rw[if_neg h3]
    have h4:=of_decide_eq_true h
    obtain⟨_,a1,a2,a3⟩:_/\_<=(thE s data).2/\(thE s data).2.toNat<=_/\kH (thE s data).1=(data.drop s.symbols.length).take (thE s data).2.toNat:=raD_ok h2
    obtain⟨_,b1,b2,b3⟩:_/\_<=(thL s data).2/\(thL s data).2.toNat<=_/\kH (thL s data).1=(data.drop (s.symbols.length+(thE s data).2.toNat)).take (thL s data).2.toNat:=raD_ok (fun e=>h3 (.inl e))
    refine⟨h4,?_,by omega⟩
    have h3':=fun e=>h3 (.inr e)
    have h3':=Classical.not_not.1 h3'
    unfold yV thX
    simp only
    rw[packO_bI,a3,b3,<-List.drop_drop]
    rw[xI]at a2 b2
    generalize (thL s data).2=B at*
    generalize (thE s data).2=A at*
    rw[xO (l:=(data.drop s.symbols.length).drop A.toNat) (by rw[xI,xI];omega),List.take_append_drop,List.take_append_drop]
def ordI:Nat->RdS->List Int->List Int×RdS
 |0,q,out=>(out,q)
 |n+1,q,out=>ordI n (tkS q 1) (out++[yJ q])
def ordQ(n:Nat)(q:RdS):List Int×RdS:=ordI n q []
theorem ordI_succ:∀(n:Nat) (q:RdS) (out:List Int),ordI (n+1) q out=((ordI n q out).1++[yJ (ordI n q out).2],tkS (ordI n q out).2 1)
 |0,q,out=>rfl
 |n+1,q,out=>by rw[ordI,ordI_succ n];rfl
theorem ordQ_succ(n:Nat)(q:RdS):ordQ (n+1) q=((ordQ n q).1++[yJ (ordQ n q).2],tkS (ordQ n q).2 1):=ordI_succ n q []
theorem ordQ_le:∀(n:Nat) (q:RdS),(ordQ n q).1.length=n/\(ordQ n q).2.1.length<=q.1.length/\∀z∈(ordQ n q).1,0<=z/\z<=255
 |0,q=>⟨rfl,xC _,fun z h=>by cases h⟩
 |n+1,q=>by
  obtain⟨h1,h2,h3⟩:=ordQ_le n q
  rw[ordQ_succ]
  refine⟨by rw[xD,h1];rfl,wE (vR _ _) h2,fun z h=> ?_⟩
  rcases List.mem_append.1 h with h|h
  ·exact h3 z h
  ·rw[wR.1 h];exact vV _
theorem ordI_pack{rest:List UInt8}:∀(o:List Int) (out:List Int),(∀n∈o,0<=n/\n<256)->ordI o.length (packO o++rest,false) out=(out++o,(rest,false))
 |[],out,_=>by rw[wL];rfl
 |n::o,out,h=>by
  have:=h n (List.mem_cons_self ..)
  have e:packO (n::o)++rest=u8z n::(packO o++rest):=rfl
  have e1:((u8z n).toNat:Int)=n:=by rw[kZ];omega
  rw[xJ,ordI,e,one_cons,tk_cons,e1,ordI_pack o _ fun x hx=>h x (List.mem_cons_of_mem _ hx),xL]
  rfl
def uqO(s:GSignature)(data:List UInt8):List Int×RdS:=ordQ s.symbols.length (data,false)
def uqE(s:GSignature)(data:List UInt8):List GEquation×RdS:=eqR s (uqO s data).2
def uqR(s:GSignature)(data:List UInt8):List GEquation×RdS:=eqR s (uqE s data).2
def rTh(s:GSignature)(data:List UInt8):GTheory:=⟨(uqO s data).1,(uqE s data).1,(uqR s data).1⟩
theorem rTh_pack{s:GSignature}{x:GTheory}(hf:kE s=0)(h:thG s x=0):rTh s (yV x)=x/\(uqR s (yV x)).2=([],false):=by
 obtain⟨h1,h2,h3⟩:=thG_zero h
 obtain⟨o1,o2⟩:=ordG_zero (yT hf) h1
 have h4:=rulesG_eqs h3
 have a1:uqO s (yV x)=(x.order,(kH x.equations++kH x.rules,false)):=by
  unfold uqO ordQ yV
  rw[<-o1,ordI_pack _ _ o2];rfl
 have a2:uqE s (yV x)=(x.equations,(kH x.rules++[],false)):=by
  unfold uqE
  rw[a1,wL]
  exact eqR_pack hf h2
 have a3:uqR s (yV x)=(x.rules,([],false)):=by
  unfold uqR
  rw[a2]
  exact eqR_pack hf h4
 refine⟨?_,by rw[a3]⟩
 unfold rTh
 rw[a1,a2,a3]
def packR(s:GSignature)(x:GTheory):GBytesResult:=if thF s x≠0 then⟨thF s x,[]⟩else if 300<(yV x).length then⟨2,[]⟩else⟨0,yV x⟩
def unpR(s:GSignature)(data:List UInt8):GTheoryResult:=if kE s≠0 then⟨kE s,noTh⟩else if(thS s data).2=true then⟨0,(thS s data).1⟩else⟨5,noTh⟩
theorem unp_both{s:GSignature}{data:List UInt8}(hf:kE s=0):(thS s data).2=true↔endV (uqR s data).2=true/\thF s (rTh s data)=0/\(yV (rTh s data)).length<=300/\yV (rTh s data)=data:=by
 have hF:∀x,thF s x=thG s x:=fun x=>by unfold thF;rw[if_neg (by simpa using hf)]
 constructor
 ·intro h
  obtain⟨h1,h2,h3⟩:=thS_ok h
  obtain⟨a,b⟩:=rTh_pack hf h1
  rw[h2]at a b
  rw[a,b,hF,h2]
  exact⟨rfl,h1,h3,rfl⟩
 ·rintro⟨_,h1,h2,h3⟩
  rw[hF]at h1
  have:=thS_pack (yT hf) h1 h2
  rw[h3]at this
  rw[this]
theorem unp_same{s:GSignature}{data:List UInt8}(hf:kE s=0)(h:(thS s data).2=true):rTh s data=(thS s data).1:=by
 obtain⟨h1,h2,h3⟩:=thS_ok h
 obtain⟨a,b⟩:=rTh_pack hf h1
 rw[h2]at a
 exact a
def PV(H:AH)(S:Nat->Prop)(v u:Value):Prop:=Pub H S v u\/∃n off b,v= .pointer (some ⟨n,off,none⟩)/\S n/\H n=some b/\b.own=true/\off<b.cells.length/\u=VP (b.cells.drop off)
theorem VR.pv{A:Nat->Prop}{ι:Ren}{H:AH}{Bd:Nat}{w:World}(hr:Rel A ι H Bd w){S:Nat->Prop}{v u v':Value}(h:PV H S v u)(hv:VR ι w v v'):VR (frz ι H S) w u v':=by
 rcases h with h|⟨n,off,b,rfl,hS,hb,ho,hle,rfl⟩
 ·exact VR.pub hr h hv
 ·cases hv with
  |ptr hn=>
   rename_i B base
   rcases hr.blk n b hb with⟨hvd,_⟩|⟨B1,base1,cs1,e1,fr1,g1,g2,g3,g4,g5⟩
   ·rw[hn]at hvd;cases hvd
   rw[hn]at g1;cases g1
   have hsz:base+off+(b.cells.drop off).toArray.size<=cs1.size:=by
    obtain⟨y,p1,_⟩:=g5 (b.cells.length-1) _ (xA (by omega))
    have:=(xS.1 p1).1
    rw[List.size_toArray,xI];omega
   refine .vp (.inr ⟨n,b,base,hS,hb,ho,hn⟩) g2 hsz fun j x x' h1 h2=> ?_
   rw[wJ,wP]at h1
   obtain⟨y,p1,p2⟩:=g5 (off+j) x h1
   rw[show base+(off+j)=base+off+j by omega,h2]at p1
   cases p1
   exact p2.mono (zF ι H S) (Fro.refl ι w)
def LendP(k:Nat)(V:qH):qH:=fun args H Bd K=>∃ps rest,args=ps::rest/\Yld (qI H k ps) fun cs=>V (.agg cs.toArray::rest.map (giveA H)) H Bd K
theorem LendP_eq(k:Nat)(V:qH)(ps:Value)(rest:List Value)(H:AH)(Bd:Nat)(K:Value->AH->Nat->Prop):LendP k V (ps::rest) H Bd K=(Yld (qI H k ps) fun cs=>V (.agg cs.toArray::rest.map (giveA H)) H Bd K):=by
 refine propext ⟨fun h=> ?_,fun h=>⟨_,_,rfl,h⟩⟩
 obtain⟨_,_,e,h⟩:=h
 obtain⟨rfl,rfl⟩:=List.cons.inj e
 exact h
theorem ptr_give{H:AH}{k:Nat}{ps:Value}{cs:List Value}(hk:0<k)(h:qI H k ps=some cs):∃u,PV H (ownS H) ps u/\qI (mns H) k u=some cs:=by
 unfold qI at h
 split at h
 ·rename_i n off
  cases hb:H n with
  |none=>rw[hb]at h;cases h
  |some b=>
   rw[hb]at h
   have h:(if off+k<=b.cells.length then some ((b.cells.drop off).take k)else none)=some cs:=h
   split at h
   ·rename_i hle
    cases ho:b.own with
    |false=>
     refine⟨_, .inl (.same _),?_⟩
     show(mns H n).bind _=_
     rw[sees_mns H n b hb ho]
     show(if off+k<=b.cells.length then some ((b.cells.drop off).take k)else none)=some cs
     rw[if_pos hle];exact h
    |true=>
     refine⟨_, .inr ⟨n,off,b,rfl,⟨b,hb,ho⟩,hb,ho,by omega,rfl⟩,?_⟩
     show qI (mns H) k (VP _)=_
     rw[cellsAt_vp,if_pos (by rw[xI];omega)];exact h
   ·cases h
 ·refine⟨_, .inl (.same _),h⟩
 ·cases h
theorem LendP_ok{P:Program}{f:FuncId}{W V:qH}{k:Nat}(h:∀args H Bd K,W args H Bd K->SCalls P f args H Bd K)(hW:∀ps rest cs H Bd K,qI H k ps=some cs->V (.agg cs.toArray::rest) H Bd K->W (ps::rest) H Bd K)(hp:PureV V)(h0:0<k):∀args H Bd K,LendP k V args H Bd K->SCalls P f args H Bd K:=fun args H Bd K hk=>by
 obtain⟨ps,rest,rfl,cs,hcs,hV⟩:=hk
 obtain⟨r,h1,h2,h3⟩:=hp _ _ _ _ hV
 have he:=(h _ _ _ _ (hW ps _ cs H Bd K hcs hV)).1
 refine SCalls.of_hb he fun hb=> ?_
 obtain⟨u,hu,hc⟩:=ptr_give h0 hcs
 refine lendG (args':=u::rest.map (giveA H)) (fun A ι w vs hr hs=> ?_) (h _ _ _ _ (hW u _ cs _ _ _ hc (h3 _ _ (sees_mns H) ⟨h1,fun n _=>rfl,fun n b hn hx v hv=> ?_,?_⟩)))
 ·obtain⟨q1,q2⟩:=PubC.get _ _ (mapA_own H rest)
  refine⟨by rw[xJ,List.length_map];exact hs.1,fun i v v' g1 g2=> ?_⟩
  cases i with
  |zero=>
   simp only[wD,xE]at g1
   subst g1
   exact VR.pv hr hu (hs.2 0 ps v' rfl g2)
  |succ i=>
   rw[wM]at g1
   have hi:=(xR.1 g1).1
   rw[List.length_map]at hi
   have g3:rest[i]? =some (rest[i]'hi):=xA hi
   exact VR.pub hr (q2 i _ v g3 g1) (hs.2 (i+1) _ v' (by rw[wM];exact g3) g2)
 ·rw[mns_none hb hn]at hx;cases hx
 ·rw[mrg_mns hb];exact h2
theorem rt_le(s:GSignature)(data:List UInt8):(rt s data).length<=data.length:=by
 by_cases h:rt s data=[]
 ·rw[h];exact xT _
 ·exact(rt_ok h).2.1
theorem smallZ_rg{t:List Int}(h:smallZ t):rg t:=fun n hn=>by
 have:=h n hn
 exact⟨by omega,by omega⟩
theorem rt_sm(s:GSignature)(data:List UInt8):(rt s data).length<=24/\sm (rt s data)/\rg (rt s data):=by
 obtain⟨h1,h2⟩:=rtS_len (s:=s) (data:=data) 24 0 (xC _)
 exact⟨h1,(yU _).2 (show(rtS s data 24 0).length<=_ by omega),smallZ_rg h2⟩
theorem eqs_sm{s:GSignature}{l:List GEquation}(hs:SigOK s)(h:eqsG s l=0):l.length<=12/\sm l/\rg l:=by
 obtain⟨h1,h2⟩:=eqsG_zero h
 have ht:∀e∈l,(e.left.length<=24/\rg e.left)/\(e.right.length<=24/\rg e.right):=fun e he=>by
  obtain⟨t1,t2,_⟩:=zS (h2 e he)
  have hn:∀t:List Int,nodes s t->rg t:=fun t hn n hx=>by
   have:=nodes_small hs hn n hx
   exact⟨by omega,by omega⟩
  exact⟨⟨t1.len.2,hn _ t1.nodes⟩,t2.len.2,hn _ t2.nodes⟩
 refine⟨h1,⟨show l.length<=281474976710656 by omega,fun e he=> ?_⟩,fun e he=>⟨(ht e he).1.2,(ht e he).2.2⟩⟩
 exact⟨(yU _).2 (by have:=(ht e he).1.1;omega),(yU _).2 (by have:=(ht e he).2.1;omega)⟩
theorem bIs_rg(l:List UInt8):rg (l.map bI):=fun n hn=>by
 obtain⟨b,_,rfl⟩:=List.mem_map.1 hn
 have:=b.toNat_lt
 unfold bI
 exact⟨by omega,by omega⟩
theorem bIs_succ{l:List UInt8}{i:Nat}(h:i<l.length):(l.take (i+1)).map bI=(l.take i).map bI++[((l[i]).toNat:Int)]:=by
 rw[xP h,List.map_append];rfl
def PkT(t:List Int):Prop:=t.length<=24/\smallN t
def PkE(l:List GEquation):Prop:=l.length<=12/\∀e∈l,PkT e.left/\PkT e.right
theorem eqs_pk{s:GSignature}{l:List GEquation}(hs:SigOK s)(h:eqsG s l=0):PkE l:=by
 obtain⟨h1,h2⟩:=eqsG_zero h
 refine⟨h1,fun e he=> ?_⟩
 obtain⟨t1,t2,_⟩:=zS (h2 e he)
 exact⟨term_small hs t1,term_small hs t2⟩
theorem accE_len{l:List GEquation}(h:PkE l):∀i,i<=l.length->(accE l i).length<=1+48*i
 |0,_=>xC _
 |i+1,hi=>by
  have e1:l[i]? =some (l[i]'(by omega)):=xA (by omega)
  have h1:=accE_len h i (by omega)
  have h2:=h.2 _ (xH (show i<l.length by omega))
  have h3:=h2.1.1
  have h4:=h2.2.1
  have e:(pkE (l[i]'(by omega))).length=(l[i]'(by omega)).left.length+(l[i]'(by omega)).right.length:=by unfold pkE;rw[xD,vF,vF]
  rw[accE_succ e1,xD,e];omega
theorem PkT.sm{t:List Int}(h:PkT t):sm t/\t.length<=1000000/\smallN t:=⟨(yU _).2 (by have:=h.1;omega),by have:=h.1;omega,h.2⟩
theorem packE_le{l:List GEquation}(h:PkE l):(kH l).length<=577:=by
 have h1:=accE_len h l.length (xC _)
 have h2:=h.1
 rw[accE_all]at h1;omega
theorem packO_succ{l:List Int}{i:Nat}(h:i<l.length):packO (l.take (i+1))=packO (l.take i)++[u8z (l[i])]:=by
 unfold packO
 rw[xP h,List.map_append];rfl
theorem packO_take(l:List Int):packO (l.take l.length)=packO l:=by rw[wH]
def PkTh(t:GTheory):Prop:=t.order.length<=1000/\PkE t.equations/\PkE t.rules
theorem th_pk{s:GSignature}{x:GTheory}(hs:SigOK s)(h:thG s x=0):PkTh x:=by
 obtain⟨h1,h2,h3⟩:=thG_zero h
 obtain⟨o1,_⟩:=ordG_zero hs h1
 have:=hs.len
 exact⟨by omega,eqs_pk hs h2,eqs_pk hs (rulesG_eqs h3)⟩
theorem thF_zero{s:GSignature}{x:GTheory}(h:thF s x=0):kE s=0/\thG s x=0:=by
 unfold thF at h
 split at h
 ·rename_i h1;exact absurd h h1
 ·rename_i h1;exact⟨by simpa using h1,h⟩
theorem lst_unk{α:Type}[Enc α](xs:List α):lst xs≠unk:=fun h=>by
 unfold lst LST at h;cases h
theorem isNode_lt{s:GSignature}{n:Int}(h:kI s n=true):n<s.symbols.length/\ -12<=n:=by
 unfold kI isSym at h
 simp only[Bool.or_eq_true,decide_eq_true_eq]at h
 omega
theorem smE_sm{l:List GEquation}(h:smE l)(hl:l.length<=1000):sm l/\rg l:=by
 refine⟨⟨show l.length<=281474976710656 by omega,fun e he=> ?_⟩,fun e he=>⟨smallZ_rg (h e he).1.2,smallZ_rg (h e he).2.2⟩⟩
 exact⟨(yU _).2 (by have:=(h e he).1.1;omega),(yU _).2 (by have:=(h e he).2.1;omega)⟩
theorem smE_app{l:List GEquation}(h:smE l){s:GSignature}{q p:RdS}:smE (l++[⟨(trT s q).1,(trT s p).1⟩]):=fun e he=>by
 rcases List.mem_append.1 he with he|he
 ·exact h e he
 ·rw[wR.1 he]
  obtain⟨_,a2,a3⟩:=trT_le s q
  obtain⟨_,b2,b3⟩:=trT_le s p
  exact⟨⟨a2,a3⟩,b2,b3⟩
theorem eqI_fail{s:GSignature}{n:Nat}{xs:List UInt8}{out:List GEquation}:eqI s n (xs,true) out=(out,(xs,true)):=by
 cases n with
 |zero=>rfl
 |succ n=>rw[eqI,if_pos rfl]
theorem eqR_of{s:GSignature}{q r:RdS}{l:List GEquation}(h:eqJ s q=(l,r)):eqR s q=(l,(r.1,r.2||decide (eqsF s l≠0))):=by
 unfold eqR;rw[h]
theorem eqR_sm(s:GSignature)(q:RdS):smE (eqR s q).1/\(eqR s q).1.length<=255/\(eqR s q).2.1.length<=q.1.length:=by
 obtain⟨h1,h2,h3⟩:=eqI_le s (yJ q).toNat (tkS q 1) []
 have h4:=vV q
 simp only[xZ]at h2
 exact⟨h3 (fun e he=>by cases he),show(eqI s (yJ q).toNat (tkS q 1) []).1.length<=255 by omega,wE h1 (vR _ _)⟩
theorem unp_cases{s:GSignature}{data:List UInt8}(hf:kE s=0){o:List Int}{E L:List GEquation}{q:RdS}(hX:rTh s data=⟨o,E,L⟩)(hq:(uqR s data).2=q):
  (unpR s data=⟨0,⟨o,E,L⟩⟩/\endV q=true/\packR s ⟨o,E,L⟩=⟨0,data⟩)
  \/(unpR s data=⟨5,noTh⟩/\(endV q=false\/(endV q=true/\(packR s ⟨o,E,L⟩).code≠0)\/(endV q=true/\∃l,packR s ⟨o,E,L⟩=⟨0,l⟩/\¬l=data))):=by
 have hb:=unp_both (data:=data) hf
 rw[hX,hq]at hb
 by_cases h:(thS s data).2=true
 ·have hs:=unp_same hf h
  rw[hX]at hs
  obtain⟨h1,h2,h3,h4⟩:=hb.1 h
  refine .inl ⟨?_,h1,?_⟩
  ·unfold unpR;rw[if_neg (by simpa using hf),if_pos h,hs]
  ·unfold packR;rw[if_neg (by simpa using h2),if_neg (by omega),h4]
 ·refine .inr ⟨?_,?_⟩
  ·unfold unpR;rw[if_neg (by simpa using hf),if_neg h]
  ·cases h1:endV q with
   |false=>exact .inl rfl
   |true=>
    refine .inr ?_
    unfold packR
    by_cases h2:thF s ⟨o,E,L⟩=0
    ·rw[if_neg (by simpa using h2)]
     by_cases h3:300<(yV ⟨o,E,L⟩).length
     ·rw[if_pos h3];exact .inl ⟨rfl,by decide⟩
     ·rw[if_neg h3];exact .inr ⟨rfl,_,rfl,fun h4=>h (hb.2 ⟨h1,h2,by omega,h4⟩)⟩
    ·rw[if_pos h2];exact .inl ⟨rfl,h2⟩
theorem chn_dlen(d:GDisk):∀(f:Nat) (id:Int) (data:List UInt8) (pages:List Int),(chn d f id data pages).1.length<=400
 |0,_,_,_=>by simp[chn]
 |f+1,id,data,pages=>by
  rw[chn]
  split
  ·simp
  ·split
   ·simp
   ·split
    ·simp
    ·split
     ·simp
     ·split
      ·simp
      ·rename_i h
       split
       ·show(data++_).length<=400
        omega
       ·exact chn_dlen d f _ _ _
theorem chainD_dlen(d:GDisk)(h:Int):(qW d h).1.length<=1000000:=wE (chn_dlen d 401 h [] []) (by decide)
def thAt(d:GDisk)(p:GSuper)(h:Int):GTheory×Bool:=thS p.symbols (qW d h).1
def noSt:GL18State:=⟨yD,[],noTh,noTh⟩
noncomputable def scrD(d:GDisk):GL18State×Int:=
 if(jL d).2≠0 then(noSt,(jL d).2)
 else if(vW d (jL d).1).code≠0 then(noSt,(vW d (jL d).1).code)
 else if(thAt d (jL d).1 (jL d).1.theory).2=false then(noSt,5)
 else if(jL d).1.moving=true/\(thAt d (jL d).1 (jL d).1.next_).2=false then(noSt,5)
 else(⟨(jL d).1,(vW d (jL d).1).list,(thAt d (jL d).1 (jL d).1.theory).1,if(jL d).1.moving=true then(thAt d (jL d).1 (jL d).1.next_).1 else noTh⟩,0)
noncomputable def kM(d:GDisk):GBaseResult:=if yR d≠0 then⟨yR d,yD,noTh,noTh⟩else⟨(scrD d).2,(scrD d).1.super,(scrD d).1.theory,(scrD d).1.next_⟩
theorem unpR_yes{s:GSignature}{data:List UInt8}(hf:kE s=0)(h:(thS s data).2=true):unpR s data=⟨0,(thS s data).1⟩:=by unfold unpR;rw[if_neg (by simpa using hf),if_pos h]
theorem unpR_no{s:GSignature}{data:List UInt8}(hf:kE s=0)(h:(thS s data).2=false):unpR s data=⟨5,noTh⟩:=by unfold unpR;rw[if_neg (by simpa using hf),if_neg (by rw[h];decide)]
inductive OV
 |v (x:Value)
 |sl (k len:Nat) (cells:List OV)
namespace OV
mutual
def num:OV->Nat
 | .v _=>0
 | .sl _ _ cs=>numL cs+1
def numL:List OV->Nat
 |[]=>0
 |c::cs=>num c+numL cs
end
def val(b:Nat):OV->Value
 | .v x=>x
 | .sl k len _=> .slice (some ⟨b,0,some k⟩) len (len+1)
def valL:Nat->List OV->List Value
 |_,[]=>[]
 |b,c::cs=>val b c::valL (b+num c) cs
mutual
def bl:Nat->OV->List (List Value)
 |_, .v _=>[]
 |b, .sl _ _ cs=>valL (b+1) cs::blL (b+1) cs
def blL:Nat->List OV->List (List Value)
 |_,[]=>[]
 |b,c::cs=>bl b c++blL (b+num c) cs
end
mutual
def dat:OV->Value
 | .v x=>x
 | .sl k len cs=> .func (.yield k) #[] (rowsOf k len (datL cs)).toArray
def datL:List OV->List Value
 |[]=>[]
 |c::cs=>dat c::datL cs
end
mutual
def ok:OV->Prop
 | .v x=>(∀B,NB B x)/\VC x
 | .sl k len cs=>cs.length=len*k/\okL cs
def okL:List OV->Prop
 |[]=>True
 |c::cs=>ok c/\okL cs
end
mutual
def At(H:AH)(lo:Nat):OV->Value->List (Option Nat)->Prop
 | .v x,u,σ=>u=x/\σ=[]
 | .sl k len cs,u,σ=>(∃m c us τ,u= .slice (some ⟨m,0,some k⟩) len c/\σ=some m::τ/\lo<=m/\H m=some ⟨us,true⟩/\AtL H lo cs us τ)\/(u= .slice none 0 0/\σ=[none]/\len=0/\cs=[])
def AtL(H:AH)(lo:Nat):List OV->List Value->List (Option Nat)->Prop
 |[],us,σ=>us=[]/\σ=[]
 |c::cs,us,σ=>∃u vs σ1 σ2,us=u::vs/\σ=σ1++σ2/\At H lo c u σ1/\AtL H lo cs vs σ2
end
theorem valL_len:∀(cs:List OV) (b:Nat),(valL b cs).length=cs.length
 |[],_=>rfl
 |c::cs,b=>by simp[valL,valL_len cs]
theorem valL_app:∀(a c:List OV) (b:Nat),valL b (a++c)=valL b a++valL (b+numL a) c
 |[],c,b=>by simp[valL,numL]
 |x::a,c,b=>by simp[valL,numL,valL_app a,Nat.add_assoc]
theorem numL_app:∀(a c:List OV),numL (a++c)=numL a+numL c
 |[],c=>by simp[numL]
 |x::a,c=>by simp[numL,numL_app a,Nat.add_assoc]
theorem blL_app:∀(a c:List OV) (b:Nat),blL b (a++c)=blL b a++blL (b+numL a) c
 |[],c,b=>by simp[blL,numL]
 |x::a,c,b=>by simp[blL,numL,blL_app a,Nat.add_assoc]
theorem datL_app:∀(a c:List OV),datL (a++c)=datL a++datL c
 |[],c=>rfl
 |x::a,c=>by simp[datL,datL_app a]
theorem okL_app:∀(a c:List OV),okL (a++c)↔okL a/\okL c
 |[],c=>by simp[okL]
 |x::a,c=>by simp[okL,okL_app a,and_assoc]
theorem datL_len:∀(cs:List OV),(datL cs).length=cs.length
 |[]=>rfl
 |c::cs=>by simp[datL,datL_len cs]
mutual
theorem bl_len:∀(o:OV) (b:Nat),(bl b o).length=num o
 | .v _,_=>rfl
 | .sl _ _ cs,b=>by simp[bl,num,blL_len cs]
theorem blL_len:∀(cs:List OV) (b:Nat),(blL b cs).length=numL cs
 |[],_=>rfl
 |c::cs,b=>by simp[blL,numL,bl_len c,blL_len cs]
end
mutual
theorem At.len{H:AH}{lo:Nat}:∀ {o:OV} {u:Value} {σ:List (Option Nat)},At H lo o u σ->σ.length=num o
 | .v x,u,σ,h=>by obtain⟨_,rfl⟩:=h;rfl
 | .sl k len cs,u,σ,h=>by
  rcases h with⟨m,c,us,τ,_,rfl,_,_,h⟩|⟨_,rfl,_,rfl⟩
  ·simp[num,AtL.len h]
  ·rfl
theorem AtL.len{H:AH}{lo:Nat}:∀ {cs:List OV} {us:List Value} {σ:List (Option Nat)},AtL H lo cs us σ->σ.length=numL cs
 |[],us,σ,h=>by obtain⟨_,rfl⟩:=h;rfl
 |c::cs,us,σ,h=>by
  obtain⟨u,vs,σ1,σ2,rfl,rfl,h1,h2⟩:=h
  simp[numL,At.len h1,AtL.len h2]
end
theorem AtL.size{H:AH}{lo:Nat}:∀ {cs:List OV} {us:List Value} {σ:List (Option Nat)},AtL H lo cs us σ->us.length=cs.length
 |[],us,σ,h=>by obtain⟨rfl,_⟩:=h;rfl
 |c::cs,us,σ,h=>by
  obtain⟨u,vs,σ1,σ2,rfl,rfl,h1,h2⟩:=h
  simp[AtL.size h2]
mutual
theorem At.mono{H H':AH}{lo lo':Nat}(hlo:lo'<=lo):∀ {o:OV} {u:Value} {σ:List (Option Nat)},At H lo o u σ->(∀m,some m∈σ->H' m=H m)->At H' lo' o u σ
 | .v x,u,σ,h,_=>h
 | .sl k len cs,u,σ,h,hm=>by
  rcases h with⟨m,c,us,τ,rfl,rfl,h1,h2,h⟩|h
  ·exact .inl ⟨m,c,us,τ,rfl,rfl,wE hlo h1,by rw[hm m (by simp)];exact h2,AtL.mono hlo h fun q hq=>hm q (by simp[hq])⟩
  ·exact .inr h
theorem AtL.mono{H H':AH}{lo lo':Nat}(hlo:lo'<=lo):∀ {cs:List OV} {us:List Value} {σ:List (Option Nat)},AtL H lo cs us σ->(∀m,some m∈σ->H' m=H m)->AtL H' lo' cs us σ
 |[],us,σ,h,_=>h
 |c::cs,us,σ,h,hm=>by
  obtain⟨u,vs,σ1,σ2,rfl,rfl,h1,h2⟩:=h
  exact⟨u,vs,σ1,σ2,rfl,rfl,At.mono hlo h1 fun m hq=>hm m (by simp[hq]),AtL.mono hlo h2 fun m hq=>hm m (by simp[hq])⟩
end
mutual
theorem At.le{H H':AH}{lo:Nat}(hle:Le H H'):∀ {o:OV} {u:Value} {σ:List (Option Nat)},At H lo o u σ->At H' lo o u σ
 | .v x,u,σ,h=>h
 | .sl k len cs,u,σ,h=>by
  rcases h with⟨m,c,us,τ,rfl,rfl,h1,h2,h⟩|h
  ·exact .inl ⟨m,c,us,τ,rfl,rfl,h1,hle m _ h2,AtL.le hle h⟩
  ·exact .inr h
theorem AtL.le{H H':AH}{lo:Nat}(hle:Le H H'):∀ {cs:List OV} {us:List Value} {σ:List (Option Nat)},AtL H lo cs us σ->AtL H' lo cs us σ
 |[],us,σ,h=>h
 |c::cs,us,σ,h=>by
  obtain⟨u,vs,σ1,σ2,rfl,rfl,h1,h2⟩:=h
  exact⟨u,vs,σ1,σ2,rfl,rfl,At.le hle h1,AtL.le hle h2⟩
end
theorem AtL.app{H:AH}{lo:Nat}:∀ {a c:List OV} {us vs:List Value} {σ τ:List (Option Nat)},AtL H lo a us σ->AtL H lo c vs τ->AtL H lo (a++c) (us++vs) (σ++τ)
 |[],c,us,vs,σ,τ,h,h'=>by obtain⟨rfl,rfl⟩:=h;simpa using h'
 |x::a,c,us,vs,σ,τ,h,h'=>by
  obtain⟨u,ws,σ1,σ2,rfl,rfl,h1,h2⟩:=h
  exact⟨u,ws++vs,σ1,σ2++τ,rfl,by simp,h1,AtL.app h2 h'⟩
mutual
theorem At.lo{H:AH}{lo:Nat}:∀ {o:OV} {u:Value} {σ:List (Option Nat)},At H lo o u σ->∀m,some m∈σ->lo<=m/\∃us,H m=some ⟨us,true⟩
 | .v x,u,σ,h,m,hm=>by obtain⟨_,rfl⟩:=h;simp at hm
 | .sl k len cs,u,σ,h,m,hm=>by
  rcases h with⟨q,c,us,τ,rfl,rfl,h1,h2,h⟩|⟨_,rfl,_,_⟩
  ·rcases wG.1 hm with e|hm
   ·cases e;exact⟨h1,us,h2⟩
   ·exact AtL.lo h m hm
  ·simp at hm
theorem AtL.lo{H:AH}{lo:Nat}:∀ {cs:List OV} {us:List Value} {σ:List (Option Nat)},AtL H lo cs us σ->∀m,some m∈σ->lo<=m/\∃us,H m=some ⟨us,true⟩
 |[],us,σ,h,m,hm=>by obtain⟨_,rfl⟩:=h;simp at hm
 |c::cs,us,σ,h,m,hm=>by
  obtain⟨u,vs,σ1,σ2,rfl,rfl,h1,h2⟩:=h
  rcases List.mem_append.1 hm with hm|hm
  ·exact At.lo h1 m hm
  ·exact AtL.lo h2 m hm
end
mutual
theorem At.pubG{H:AH}{lo:Nat}{S:Nat->Prop}(hS:∀m us,lo<=m->H m=some ⟨us,true⟩->S m):∀ {o:OV} {u:Value} {σ:List (Option Nat)},At H lo o u σ->ok o->Pub H S u (dat o)
 | .v x,u,σ,h,_=>by obtain⟨rfl,_⟩:=h;exact .same _
 | .sl k len cs,u,σ,h,hk=>by
  rcases h with⟨m,c,us,τ,rfl,rfl,h1,h2,h⟩|⟨rfl,rfl,rfl,rfl⟩
  ·have hl:=hk.1
   have hus:=AtL.size h
   have hp:=AtL.pubG hS h hk.2
   refine .lst (b:=⟨us,true⟩) (hS m us h1 h2) h2 rfl (by simp[kY]) (by show 0+len*k<=us.length;omega) (fun i x hx=> ?_) (fun i j r v u h1 h2 h3=> ?_)
   ·have hi:i<len:=by have:=(xS.1 hx).1;simpa[kY]using this
    have:=rowsOf_get k len (datL cs) i hi
    rw[wJ,this]at hx
    cases hx
    refine⟨_,rfl,?_⟩
    have:(i+1)*k<=len*k:=Nat.mul_le_mul_right _ hi
    rw[Nat.succ_mul]at this
    have:=datL_len cs
    simp;omega
   ·have hi:i<len:=by have:=(xS.1 h1).1;simpa[kY]using this
    have h4:=rowsOf_get k len (datL cs) i hi
    rw[wJ,h4]at h1
    cases h1
    have hj:j<k:=by
     have:=(xS.1 h3).1
     simp at this;omega
    rw[wJ,List.getElem?_take,if_pos hj,wP]at h3
    rw[Nat.zero_add]at h2
    exact hp (i*k+j) v u h2 h3
  ·exact .empty
theorem AtL.pubG{H:AH}{lo:Nat}{S:Nat->Prop}(hS:∀m us,lo<=m->H m=some ⟨us,true⟩->S m):∀ {cs:List OV} {us:List Value} {σ:List (Option Nat)},AtL H lo cs us σ->okL cs->∀(i:Nat) v u,us[i]? =some v->(datL cs)[i]? =some u->Pub H S v u
 |[],us,σ,h,_=>by obtain⟨rfl,_⟩:=h;intro i v u h;simp at h
 |c::cs,us,σ,h,hk=>by
  obtain⟨u,vs,σ1,σ2,rfl,rfl,h1,h2⟩:=h
  intro i v w e1 e2
  cases i with
  |zero=>simp only[wD,xE,datL]at e1 e2;subst e1;subst e2;exact At.pubG hS h1 hk.1
  |succ i=>simp only[wM,datL]at e1 e2;exact AtL.pubG hS h2 hk.2 i v w e1 e2
end
theorem AtL.pub{H:AH}{lo:Nat}{cs:List OV}{us:List Value}{σ:List (Option Nat)}(h:AtL H lo cs us σ)(hk:okL cs):∀(i:Nat) v u,us[i]? =some v->(datL cs)[i]? =some u->Pub H (ownS H) v u:=AtL.pubG (fun m us _ h=>⟨_,h,rfl⟩) h hk
def blkOK(H:AH)(Bd:Nat)(F:List (Option Nat))(x:Option (Option Nat))(c:Option (List Value)):Prop:=match x with
 |some none=>c=some []
 |some (some m)=>Bd<=m/\∃us cc,H m=some ⟨us,true⟩/\c=some cc/\cc.length=us.length/\∀(j:Nat) v u,cc[j]? =some v->us[j]? =some u->RN F Bd v u
 |none=>True
mutual
theorem At.rn{H:AH}{Bd:Nat}{F:List (Option Nat)}:∀ {o:OV} {u:Value} {σ:List (Option Nat)} (i:Nat),At H Bd o u σ->ok o->(∀q,q<σ.length->F[i+q]? =σ[q]?)->RN F Bd (val (Bd+i) o) u/\∀q,q<σ.length->blkOK H Bd F σ[q]? (bl (Bd+i) o)[q]?
 | .v x,u,σ,i,h,hk,hF=>by
  obtain⟨rfl,rfl⟩:=h
  exact⟨.same (hk.1 Bd),fun q hq=>absurd hq (Nat.not_lt_zero _)⟩
 | .sl k len cs,u,σ,i,h,hk,hF=>by
  rcases h with⟨m,c,us,τ,rfl,rfl,h1,h2,h⟩|⟨rfl,rfl,rfl,rfl⟩
  ·have hi:=hF 0 (by simp)
   simp only[Nat.add_zero,wD]at hi
   have ih:=AtL.rn (F:=F) (i+1) h hk.2 fun q hq=>by
    have:=hF (q+1) (by simpa using hq)
    simp only[wM]at this
    rw[<-this];congr 1;omega
   refine⟨.sl hi,fun q hq=> ?_⟩
   cases q with
   |zero=>exact⟨h1,us,_,h2,rfl,by rw[valL_len,AtL.size h],fun j v u e1 e2=>ih.1 j v u (by rw[<-Nat.add_assoc];exact e1) e2⟩
   |succ q=>
    have:=ih.2 q (by simpa using hq)
    rw[<-Nat.add_assoc]at this
    simpa[bl]using this
  ·have hi:=hF 0 (by simp)
   simp only[Nat.add_zero,wD]at hi
   refine⟨.nil hi,fun q hq=> ?_⟩
   cases q with
   |zero=>rfl
   |succ q=>simp at hq
theorem AtL.rn{H:AH}{Bd:Nat}{F:List (Option Nat)}:∀ {cs:List OV} {us:List Value} {σ:List (Option Nat)} (i:Nat),AtL H Bd cs us σ->okL cs->(∀q,q<σ.length->F[i+q]? =σ[q]?)->(∀(j:Nat) v u,(valL (Bd+i) cs)[j]? =some v->us[j]? =some u->RN F Bd v u)/\∀q,q<σ.length->blkOK H Bd F σ[q]? (blL (Bd+i) cs)[q]?
 |[],us,σ,i,h,hk,hF=>by
  obtain⟨rfl,rfl⟩:=h
  exact⟨fun j v u h=>by simp[valL]at h,fun q hq=>absurd hq (Nat.not_lt_zero _)⟩
 |c::cs,us,σ,i,h,hk,hF=>by
  obtain⟨u,vs,σ1,σ2,rfl,rfl,h1,h2⟩:=h
  have hl:=At.len h1
  obtain⟨a1,a2⟩:=At.rn (F:=F) i h1 hk.1 fun q hq=>by
   rw[hF q (by rw[xD];omega),wF hq]
  obtain⟨b1,b2⟩:=AtL.rn (F:=F) (i+num c) h2 hk.2 fun q hq=>by
   rw[show i+num c+q=i+(num c+q) by omega,hF (num c+q) (by rw[xD];omega),wB (by omega),hl]
   congr 1;omega
  refine⟨fun j v w e1 e2=> ?_,fun q hq=> ?_⟩
  ·cases j with
   |zero=>simp only[wD,xE,valL]at e1 e2;subst e1;subst e2;exact a1
   |succ j=>simp only[wM,valL]at e1 e2;exact b1 j v w (by rw[<-Nat.add_assoc];exact e1) e2
  ·rw[blL]
   by_cases hq1:q<σ1.length
   ·rw[wF hq1,wF (by rw[bl_len];omega)]
    exact a2 q hq1
   ·rw[wB (by omega),wB (by rw[bl_len];omega),bl_len,<-hl]
    rw[xD]at hq
    have:=b2 (q-σ1.length) (by omega)
    rw[<-Nat.add_assoc,<-hl]at this
    exact this
end
def nd(σ:List (Option Nat)):Prop:=∀(i j m:Nat),σ[i]? =some (some m)->σ[j]? =some (some m)->i=j
end OV
inductive RV
 |one (o:OV)
 |agg (cs:List OV)
namespace RV
def cs:RV->List OV
 |one o=>[o]
 |agg cs=>cs
def val(b:Nat):RV->Value
 |one o=>o.val b
 |agg cs=> .agg (OV.valL b cs).toArray
def At(H:AH)(lo:Nat):RV->Value->List (Option Nat)->Prop
 |one o,u,σ=>OV.At H lo o u σ
 |agg cs,u,σ=>∃us,u= .agg us.toArray/\OV.AtL H lo cs us σ
theorem At.atL{H:AH}{lo:Nat}{r:RV}{u:Value}{σ:List (Option Nat)}(h:r.At H lo u σ):∃us,OV.AtL H lo r.cs us σ:=by
 cases r with
 |one o=>exact⟨[u],u,[],σ,[],rfl,by simp,h,rfl,rfl⟩
 |agg cs=>obtain⟨us,_,h⟩:=h;exact⟨us,h⟩
theorem At.anew{H H0:AH}{Bd:Nat}{r:RV}{u:Value}{σ:List (Option Nat)}(h:r.At H Bd u σ)(hk:OV.okL r.cs)(hn:OV.nd σ)(hle:Le H0 H):Anew H0 Bd u H σ (OV.blL Bd r.cs) (r.val Bd):=by
 have hF:∀q,q<σ.length->σ[0+q]? =σ[q]? :=fun q _=>by rw[Nat.zero_add]
 obtain⟨us,hL⟩:=h.atL
 obtain⟨a1,a2⟩:=OV.AtL.rn (F:=σ) 0 hL hk hF
 have hlen:σ.length=(OV.blL Bd r.cs).length:=by rw[OV.blL_len];exact OV.AtL.len hL
 refine⟨hlen,hle,?_,fun i hi=> ?_,fun i m hi=> ?_,hn⟩
 ·cases r with
  |one o=>exact(OV.At.rn (F:=σ) 0 h hk.1 hF).1
  |agg cs=>
   obtain⟨us,rfl,h⟩:=h
   refine .agg (by simp[OV.valL_len,OV.AtL.size h]) fun i v u e1 e2=> ?_
   exact(OV.AtL.rn (F:=σ) 0 h hk hF).1 i v u (by simpa using e1) (by simpa using e2)
 ·have hq:=(xR.1 hi).1
  have:=a2 i hq
  rw[hi]at this
  exact this
 ·have hq:=(xR.1 hi).1
  have:=a2 i hq
  rw[hi]at this
  obtain⟨g1,us,cc,g2,g3,g4,g5⟩:=this
  exact⟨g1,_,cc,g2,rfl,g3,g4,g5⟩
end RV
def OwnNQ(P:Program)(rs:List ResultVar)(H0:AH)(Bd0:Nat)(r0:RV)(s:List Value)(H:AH)(Bd:Nat):Prop:=
 Yld (yG P rs s H) fun vs=>OwnN H0 Bd0 r0 (vA vs) H
where
 OwnN (H0:AH) (Bd0:Nat) (r0:RV) (v:Value) (H:AH):Prop:=Le H0 H/\∃σ,r0.At H Bd0 v σ/\OV.nd σ
def ownNQ(P:Program)(rs:List ResultVar)(H0:AH)(Bd0:Nat)(r0:RV):yY
 | .normal=>OwnNQ P rs H0 Bd0 r0
 | .ret=>OwnNQ P rs H0 Bd0 r0
 |_=>fun _ _ _=>False
section
variable {P:Program} {s:List Value} {H:AH} {Bd:Nat}
@[go_sem ↓] theorem ownNQ_ret (rs:List ResultVar) (H0:AH) (B0:Nat) (r0:RV):ownNQ P rs H0 B0 r0 .ret=OwnNQ P rs H0 B0 r0:=(rfl)
@[go_sem ↓] theorem OwnNQ_eq (rs:List ResultVar) (H0:AH) (B0:Nat) (r0:RV):OwnNQ P rs H0 B0 r0 s H Bd=Yld (yG P rs s H) fun vs=>OwnNQ.OwnN H0 B0 r0 (vA vs) H:=(rfl)
end
theorem fn_ownN{P:Program}(hP:POk P)(E:Env P)(PL:List (Nat×List Nat×List Stp×JT)){f:FuncId}{fn:Func}{c:Code}{args:List Value}{H:AH}{Bd:Nat}{K:Value->AH->Nat->Prop}(r0:RV)(hr:OV.okL r0.cs)(hK:K (r0.val Bd) (putU H Bd (OV.blL Bd r0.cs)) (Bd+OV.numL r0.cs))
  (hf:P.funcs[f]? =some fn) (hb:fn.body=some c) {rs:List ResultVar} (hrs:fn.results.toList=rs) {m:Nat} (hm:fn.ntmps=m) (hm2:args.length<=m) (hent:Enters P f) (hp:kR PL c=true)
  (h:HB H Bd->(∀v∈args,NB Bd v)->vq E PL Bd c (ownNQ P rs H Bd r0) (aS m undef (idx 0 args)) H Bd):SCalls P f args H Bd K:=by
 refine SCalls.of_hb hent fun hH=>anew ?_
 rw[putU_eq hH,<-OV.blL_len r0.cs Bd]at hK
 subst hm
 rw[<-start_aS args _ hm2]at h
 refine scalls_of_tr hf hb hrs hent fun hh ha=>(zJ hP PL c _ _ H Bd hp (h hh ha)).conv fun e s' H' Bd' hle hq=> ?_
 have key:OwnNQ P rs H Bd r0 s' H' Bd'->RetQ P rs H Bd (fun r H' _=>∃σ L r0,Anew H Bd r H' σ L r0/\K r0 (putN H Bd L) (Bd+L.length)) s' H' Bd':=fun⟨vs,h1,h2,σ,h3,h4⟩=>
  ⟨vs,h1,vA vs,fun _=>False,H',Bd', .same _,fun _ _ _ h=>h,Le.refl _,hle, .inl ⟨xC _,fun hb2 _=>⟨σ,_,_,h3.anew hr h4 h2,hK⟩⟩⟩
 cases e with
 |normal=>exact key hq
 |ret=>exact key hq
 |_=>exact hq.elim
theorem tr_ownB{P:Program}{N0:Nat}{c:Code}{Q:yY}{s:List Value}{H:AH}{Bd:Nat}{X:Type}(k:Nat)(ps:List Pth)(hk:ps.length=k)(base:X->AH)(I:X->Prop)(μ:X->Nat)(sl:Nat->X->List (Nat×Value))(ml:Nat->X->List (Nat×Blk))(x0:X)(h0:I x0)
  (hs:∀N,Bd<=N->CanT N ps s H (sl N x0) (base x0) (ml N x0))
  (round:∀N x,Bd<=N->I x->HB (base x) N->HB (mem (base x) (ml N x)) (N+k)->∀F:List Value->AH->Nat->Prop,(∀y s' H' B',μ y<μ x->I y->s'.length=s.length->(∀N',B'<=N'->CanT N' ps s' H' (sl N' y) (base y) (ml N' y))->F s' H' B')->Tr P (N+k) c (thenQ F Q) (aS s.length unk (sl N x)) (mem (base x) (ml N x)) (N+k)):Tr P N0 (.loop c) Q s H Bd:=by
 intro hN A ι a w hst
 have sub:∀ {G H:AH} {B N:Nat},HB H B->Le G H->B<=N->(∀n b,G n=some b->n<N/\∀v∈b.cells,NB N v)/\HB G N:=fun{G H B N} hH hle hBN=>by
  have h1:∀n b,G n=some b->n<N/\∀v∈b.cells,NB N v:=fun n b hn=>⟨Nat.lt_of_lt_of_le (zI hH (hle n b hn)) hBN,fun v hv=>(hH.nb n b (hle n b hn) v hv).up hBN⟩
  refine⟨h1,fun n hn=> ?_,fun n b hn=>(h1 n b hn).2⟩
  cases hg:G n with
  |none=>rfl
  |some b=>have:=(h1 n b hg).1;omega
 let Inv:X->Act->World->Prop:=fun x a' w'=>∃N ι',Bd<=N/\I x/\HB (base x) N/\St A ι' (aS s.length unk (sl N x)) (mem (base x) (ml N x)) (N+k) a' w'/\Keep A ι w ι' w'/\Agr N0 ι ι'/\NI H (mem (base x) (ml N x))
 have hagr:∀ {ι:Ren} {σ:List (Option Nat)} {H:AH} {S:Nat->Prop} {N:Nat},N0<=N->Agr N0 ι (rnR (frz ι H S) N σ):=fun hN n hn=>(rnR_lt (by omega)).trans rfl
 refine wp_loop (I:=fun a' w'=>∃x,Inv x a' w') (μ:=fun a' w'=>leastN fun n=>∃x,μ x=n/\Inv x a' w') ?_ ?_
 ·have hct:=hs Bd (xC _)
  have hG:=sub hst.rel.hb hct.1 (xC _)
  have hc:=hct.can (Bd:=Bd) hG.1 (n:=s.length) rfl
  have h1:=hc.st hst
  rw[srcs_len,hk]at h1
  exact⟨x0,Bd,_,xC _,h0,hG.2,h1,Keep.rn (Keep.refl A w (zF ι H _).fz (hst.rel.frzA _)),hagr hN,hc.ni⟩
 ·rintro a1 w1 ⟨x1,hx1⟩
  obtain⟨⟨x,hμ,N,ι1,hBN,hI,hG1,hst1,hk1,hag1,hni1⟩,hmin⟩:=leastN_spec (p:=fun n=>∃x,μ x=n/\Inv x a1 w1) ⟨x1,rfl,hx1⟩
  refine wp_mono (round N x hBN hI hG1 hst1.rel.hb (fun s' H' B'=>∃y,μ y<μ x/\I y/\s'.length=s.length/\∀N',B'<=N'->CanT N' ps s' H' (sl N' y) (base y) (ml N' y)) (fun y s' H' B' q1 q2 q3 q4=>⟨y,q1,q2,q3,q4⟩) (xC _) A ι1 a1 w1 hst1) fun e a2 w2 ⟨ι2,s2,H2,Bd2,h1,h2,h3,h4,h5,h6⟩=> ?_
  have hag2:Agr N0 ι ι2:=fun n hn=>(h5 n (by omega)).trans (hag1 n hn)
  cases e with
  |normal=>
   obtain⟨y,hlt,hy,hl,hct⟩:=h1
   have hct:=hct Bd2 (xC _)
   have hG:=sub h3.rel.hb hct.1 (xC _)
   have hc:=hct.can (Bd:=Bd2) hG.1 hl
   have q1:=hc.st h3
   rw[srcs_len,hk]at q1
   have hinv:Inv y a2 w2:=⟨Bd2,_,by omega,hy,hG.2,q1,(hk1.trans h4).trans (Keep.rn (Keep.refl A w2 (zF ι2 H2 _).fz (h3.rel.frzA _))),fun n hn=>(hagr (by omega:N0<=Bd2) n hn).trans (hag2 n hn),(hni1.trans h6).trans hc.ni⟩
   refine⟨⟨y,hinv⟩,?_⟩
   rw[<-hμ]
   exact Nat.lt_of_le_of_lt ((leastN_spec (p:=fun n=>∃x,μ x=n/\Inv x a2 w2) ⟨y,rfl,hinv⟩).2 _ ⟨y,rfl,hinv⟩) hlt
  |_=>exact⟨ι2,s2,H2,Bd2,h1,by omega,h3,hk1.trans h4,hag2,hni1.trans h6⟩
end Go.SC
namespace Go.SC
open Go
def KeyOK(l:List GRow):Prop:=∀r∈l,r.key.length<=16
theorem nodeF_keys{n:GNode}(h:kS n=0):∀k∈n.keys,k.length<=16:=fun k hk=>by
 unfold kS at h
 split at h
 ·cases h
 ·split at h
  ·cases h
  ·rename_i h2
   have:¬(k.length<1\/16<k.length):=fun hb=>h2 (List.any_eq_true.2 ⟨k,hk,decide_eq_true hb⟩)
   omega
theorem rowsN_ok{n:GNode}(h:kS n=0):KeyOK (rowsN n n.keys.length):=fun r hr=>by
 obtain⟨i,hi,rfl⟩:=List.mem_map.1 hr
 have hi:=List.mem_range.1 hi
 show(n.keys.getD i []).length<=16
 rw[xF,xA hi]
 exact nodeF_keys h _ (xH hi)
theorem visK_ok{g:Vis}{n:GNode}{low high:List UInt8}(hg:∀k a b w,KeyOK w.rows->KeyOK (g k a b w).2.rows):∀(k i:Nat) (w:GL17Walk),KeyOK w.rows->KeyOK (visK g n low high k i w).2.rows
 |0,i,w,h=>h
 |k+1,i,w,h=>by
  rw[visK]
  split
  ·exact hg _ _ _ _ h
  ·exact visK_ok hg k (i+1) _ (hg _ _ _ _ h)
theorem vis_ok(ins:List Int->Int->List Int)(d:GDisk):∀(f:Nat) (id:Int) (low high:List UInt8) (depth:Int) (w:GL17Walk),KeyOK w.rows->KeyOK (vis ins d f id low high depth w).2.rows
 |0,_,_,_,_,_,h=>h
 |f+1,id,low,high,depth,w,h=>by
  by_cases h1:hasI w.pages id=true
  ·rw[vis_has h1];exact h
  by_cases h2:(jY d id).2=0
  case neg=>rw[vis_code h1 h2];exact h
  by_cases h3:badN (jY d id).1 depth low high=true
  ·rw[vis_bad h1 h2 h3];exact h
  by_cases h4:(jY d id).1.leaf=true
  ·by_cases h5:w.deep=0\/w.deep=depth
   ·rw[vis_leaf h1 h2 h3 h4 h5]
    intro r hr
    rcases List.mem_append.1 hr with hr|hr
    ·exact h r hr
    ·exact rowsN_ok (nodeD_ok h2) r hr
   ·rw[vis_leafN h1 h2 h3 h4 h5];exact h
  ·rw[vis_kids h1 h2 h3 h4]
   exact visK_ok (fun k a b w h=>vis_ok ins d f k a b (depth+1) w h) _ _ _ h
theorem noKey:KeyOK noWk.rows:=fun r hr=>by cases hr
theorem treeI_ok(d:GDisk)(root:Int):KeyOK (yB d root).2.rows:=by
 unfold yB
 split
 ·exact noKey
 ·exact vis_ok _ d 5 root [] [] 1 noWk noKey
def rowsI(d:GDisk)(root:Int):List GRow:=if(yB d root).1≠0 then []else(yB d root).2.rows
theorem treeS_rows(d:GDisk)(root:Int):(jV d root).1.rows=rowsI d root:=by
 obtain⟨h1,h2⟩:=tree_two d root
 unfold rowsI
 by_cases h:(yB d root).1=0
 ·rw[if_neg (by simpa using h),(h2 h).rows]
 ·rw[if_pos h]
  have:(jV d root).2≠0:=by rw[h1];exact h
  unfold jV at this ⊢
  split
  ·rfl
  ·rename_i h3
   rw[if_neg h3]at this
   split
   ·rfl
   ·rename_i h4
    rw[if_neg h4]at this
    exact absurd rfl this
theorem rowsI_ok(d:GDisk)(root:Int):KeyOK (rowsI d root)/\(rowsI d root).length<=31104:=by
 unfold rowsI
 split
 ·exact⟨fun r hr=>(by cases hr),xT _⟩
 ·exact⟨treeI_ok d root,(treeI_len d root).2⟩
theorem rows_sm{l:List GRow}(h:KeyOK l)(hl:l.length<=31104):sm l:=⟨by omega,fun r hr=>⟨⟨by have:=h r hr;omega,fun _ _=>trivial⟩,trivial⟩⟩
def yW(l:List GRow)(k:List UInt8):List GRow:=l.filter fun r=>decide (0<Lib.compareBytes r.key k)
theorem behind_ok{l:List GRow}(h:KeyOK l)(k:List UInt8):KeyOK (yW l k):=fun r hr=>h r (List.mem_filter.1 hr).1
theorem behind_len(l:List GRow)(k:List UInt8):(yW l k).length<=l.length:=List.length_filter_le _ _
theorem behind_not(l:List GRow)(k:List UInt8):(l.filter fun r=> !decide (Lib.compareBytes r.key k<=0))=yW l k:=by
 unfold yW
 congr 1
 funext r
 by_cases h:Lib.compareBytes r.key k<=0
 ·rw[decide_eq_true h,decide_eq_false (by omega)];rfl
 ·rw[decide_eq_false h,decide_eq_true (by omega)];rfl
noncomputable def openS(d:GDisk):GL18State×Int:=if yR d≠0 then(noSt,yR d)else scrD d
theorem openS_code(d:GDisk):(openS d).2=(kM d).code:=by unfold openS kM;split <;>rfl
theorem scrD_ok{d:GDisk}(h:(scrD d).2=0):(jL d).2=0/\(scrD d).1.super=(jL d).1:=by
 unfold scrD at h ⊢
 by_cases q1:(jL d).2=0
 ·rw[if_neg (by simpa using q1)]at h ⊢
  refine⟨q1,?_⟩
  split at h
  ·rename_i q;exact absurd h q
  ·rename_i q
   rw[if_neg q]
   split at h
   ·cases h
   ·rename_i q;rw[if_neg q]
    split at h
    ·cases h
    ·rename_i q;rw[if_neg q]
 ·rw[if_pos q1]at h;exact absurd h q1
theorem openS_ok{d:GDisk}(h:(openS d).2=0):yR d=0/\(openS d).1.super=(kM d).super/\SuperOK (openS d).1.super:=by
 unfold openS kM at*
 by_cases q:yR d=0
 ·rw[if_neg (by simpa using q)]at h ⊢
  rw[if_neg (by simpa using q)]
  obtain⟨h1,h2⟩:=scrD_ok h
  exact⟨q,rfl,by rw[h2];exact kJ (openD_ok h1)⟩
 ·rw[if_pos q]at h;exact absurd h q
def rowsO(d:GDisk)(root:Int):List GRow:=if(vU d root).1≠0 then []else(vU d root).2.2.rows
theorem rowsO_ok{d:GDisk}{root:Int}(h:yR d=0):rowsO d root=rowsI d root:=by
 have e:vU d root=((yB d root).1,d,(yB d root).2):=by unfold vU;rw[if_neg (by simpa using h)]
 unfold rowsO rowsI;rw[e]
theorem plain_ok{v:Value}(h:yI v=true):kP v=true:=by
 cases v with
 |agg _=>cases h
 |tuple _=>cases h
 |chan o=>cases o <;>cases h
 |_=>rfl
@[push_cast] theorem aclear_T{P:Program}{t e k:Nat}{z:List Value}[h:TySl P t e k z](H:AH)(n off len c:Nat):aclear P H [t] (.slice (some ⟨n,off,some k⟩) len c)=
  (H n).bind fun b=>if b.own=true/\off+len*k<=b.cells.length then some (upd H n (some ⟨lset b.cells off (jU len z),true⟩))else none:=by
 obtain⟨z0,h1,h2⟩:=h.hz
 subst h2
 have hu:ask P (underlying t)=some (.slice e):=h.h
 have hc:(cellsL z0).all kP=true:=List.all_eq_true.2 fun v hv=>plain_ok (List.all_eq_true.1 h.zp v hv)
 simp only[aclear,hu,h1]
 cases H n with
 |none=>rfl
 |some b=>simp[h.zk,h.zp,hc]
theorem lset_flat{α:Type}[Enc α](xs:List α){i:Nat}(hi:i<xs.length)(v:α):lset (qO xs) (i*Enc.k α) (enc v)=qO (xs.set i v):=by
 have h1:i*Enc.k α+Enc.k α<=xs.length*Enc.k α:=by rw[<-Nat.succ_mul];exact Nat.mul_le_mul_right _ hi
 have e1:xs.set i v=xs.take i++v::xs.drop (i+1):=List.set_eq_take_append_cons_drop.trans (if_pos hi)
 have hl:(qO (xs.take i)).length=i*Enc.k α:=by rw[jJ,xQ,Nat.min_eq_left (by omega)]
 have e2:qO xs=qO (xs.take i)++(enc xs[i]++qO (xs.drop (i+1))):=by
  conv=>lhs;rw[<-List.take_append_drop i xs,wI hi,qK,jO]
 rw[e1,qK,jO]
 refine List.ext_getElem? fun j=> ?_
 rw[lset_get _ _ _ _ (by rw[jJ,jN];omega),jN,e2]
 split
 ·rw[wF (by omega),wF (by omega)]
 ·split
  ·rw[wB (by omega),hl,wF (by rw[jN];omega)]
  ·rw[wB (by omega),hl,wB (by rw[jN];omega),wB (by omega),hl,wB (by rw[jN];omega),jN,jN]
theorem lset_two{xs:List GRow}{i:Nat}(hi:i<xs.length)(v:GRow):lset (qO xs) (i*2) [lst v.key, .int .i64 v.value]=qO (xs.set i v):=lset_flat xs hi v
theorem lset_tail(a b z:List Value)(h:z.length=b.length):lset (a++b) a.length z=a++z:=by
 refine List.ext_getElem? fun j=> ?_
 rw[lset_get _ _ _ _ (by simp;omega)]
 split
 ·rw[wF (by omega),wF (by omega)]
 ·split
  ·rw[wB (by omega)]
  ·rw[wB (by omega),wB (by omega),wQ (by omega),wQ (by omega)]
theorem pub_front{H:AH}{S:Nat->Prop}{α:Type}[Enc α]{n c k len:Nat}{xs:List α}{z:List Value}(hb:H n=some ⟨qO xs++z,true⟩)(hS:S n)(hk:Enc.k α=k)(hl:len=xs.length):Pub H S (.slice (some ⟨n,0,some k⟩) len c) (lst xs):=by
 subst hk;subst hl
 exact pub_flat hb rfl (by rw[List.drop_zero,<-jJ,List.take_left]) hS rfl rfl
def DfB(R:List GRow->GSuper->Nat->Nat->Nat->AH->Nat->(Value->AH->Nat->Prop)->Prop)(n l c m:Nat)(H:AH)(Bd:Nat)(K:Value->AH->Nat->Prop):Prop:=
 Yld (H n) fun b=>Yld (kF (flB (α:=GRow)) b) fun xs=>Yld (H m) fun b2=>Yld (dataOf (α:=GSuper) b2.cells) fun p=>(n≠m/\l=xs.length/\l<c/\sm xs/\sm p)/\R xs p n l c H Bd K
@[go_sem] theorem DfB_eq(R:List GRow->GSuper->Nat->Nat->Nat->AH->Nat->(Value->AH->Nat->Prop)->Prop)(n l c m:Nat)(H:AH)(Bd:Nat)(K:Value->AH->Nat->Prop):DfB R n l c m H Bd K=(Yld (H n) fun b=>Yld (kF (flB (α:=GRow)) b) fun xs=>Yld (H m) fun b2=>Yld (dataOf (α:=GSuper) b2.cells) fun p=>(n≠m/\l=xs.length/\l<c/\sm xs/\sm p)/\R xs p n l c H Bd K):=(rfl)
def DfT(g:Nat)(R:List GRow->GSuper->Nat->Nat->Nat->AH->Nat->(Value->AH->Nat->Prop)->Prop):qH:=fun args H Bd K=>∃(n l c m:Nat),args=[.slice (some ⟨n,0,some 2⟩) l c, .func (.func g) #[] #[.pointer (some ⟨m,0,none⟩)]]/\DfB R n l c m H Bd K
theorem DfT_eq(g:Nat)(R:List GRow->GSuper->Nat->Nat->Nat->AH->Nat->(Value->AH->Nat->Prop)->Prop)(n l c m:Nat)(H:AH)(Bd:Nat)(K:Value->AH->Nat->Prop):DfT g R [.slice (some ⟨n,0,some 2⟩) l c, .func (.func g) #[] #[.pointer (some ⟨m,0,none⟩)]] H Bd K=DfB R n l c m H Bd K:=by
 refine propext ⟨fun h=> ?_,fun h=>⟨n,l,c,m,rfl,h⟩⟩
 obtain⟨n',l',c',m',e,h⟩:=h
 simp only[xG,xY,Value.func.injEq,Value.pointer.injEq,xE,Addr.mk.injEq,Array.mk.injEq,true_and,and_true]at e
 obtain⟨⟨rfl,rfl,rfl⟩,rfl⟩:=e
 exact h
def keep(xs:List GRow)(q:GRow->Bool)(j:Nat):List GRow:=(xs.take j).filter fun r=> !q r
def kept(xs:List GRow)(q:GRow->Bool)(j:Nat):List GRow:=keep xs q j++xs.drop (keep xs q j).length
theorem keep_le(xs:List GRow)(q:GRow->Bool)(j:Nat):(keep xs q j).length<=j/\(keep xs q j).length<=xs.length:=by
 have:=List.length_filter_le (fun r=> !q r) (xs.take j)
 rw[xQ]at this
 unfold keep;omega
theorem kpt_len(xs:List GRow)(q:GRow->Bool)(j:Nat):(kept xs q j).length=xs.length:=by
 have:=keep_le xs q j
 unfold kept;rw[xD,xI];omega
theorem kpt_get(xs:List GRow)(q:GRow->Bool){j:Nat}(hj:j<xs.length):(kept xs q j)[j]? =some xs[j]:=by
 have:=keep_le xs q j
 unfold kept
 rw[wB this.1,wP,show(keep xs q j).length+(j-(keep xs q j).length)=j by omega,xA hj]
theorem keep_yes{xs:List GRow}{q:GRow->Bool}{j:Nat}(hj:j<xs.length)(h:q xs[j]=true):keep xs q (j+1)=keep xs q j:=by
 unfold keep
 rw[xP hj,List.filter_append,List.filter_cons_of_neg (by simp[h])];simp
theorem keep_no{xs:List GRow}{q:GRow->Bool}{j:Nat}(hj:j<xs.length)(h:q xs[j]=false):keep xs q (j+1)=keep xs q j++[xs[j]]:=by
 unfold keep
 rw[xP hj,List.filter_append,List.filter_cons_of_pos (by simp[h])];rfl
theorem kpt_set{xs:List GRow}{q:GRow->Bool}{j:Nat}(hj:j<xs.length)(h:q xs[j]=false)(hlt:(keep xs q j).length<xs.length):(kept xs q j).set (keep xs q j).length xs[j]=kept xs q (j+1):=by
 unfold kept
 rw[keep_no hj h,List.set_append_right _ _ (xC _),Nat.sub_self,wI hlt,List.set_cons_zero,xD,List.length_singleton,xL]
 rfl
theorem kpt_same{xs:List GRow}{q:GRow->Bool}{j:Nat}(hj:j<xs.length)(h:q xs[j]=true):kept xs q (j+1)=kept xs q j:=by
 unfold kept;rw[keep_yes hj h]
theorem keep_all{xs:List GRow}{q:GRow->Bool}{j:Nat}(h:∀i,i<j->∀x,xs[i]? =some x->q x=false):keep xs q j=xs.take j:=by
 unfold keep
 refine List.filter_eq_self.2 fun x hx=> ?_
 obtain⟨i,hi,rfl⟩:=List.mem_iff_getElem.1 hx
 rw[xQ]at hi
 rw[List.getElem_take]
 rw[h i (by omega) _ (xA (by omega))];rfl
theorem kpt_all{xs:List GRow}{q:GRow->Bool}{j:Nat}(hj:j<=xs.length)(h:∀i,i<j->∀x,xs[i]? =some x->q x=false):kept xs q j=xs:=by
 unfold kept;rw[keep_all h,xQ,Nat.min_eq_left hj,List.take_append_drop]
theorem hb_setZ{H:AH}{Bd n k:Nat}{b:Blk}{α:Type}[Enc α]{z:List Value}(hh:HB H Bd)(hb:H n=some b)(xs:List α)(hz:∀v∈z,NB Bd v):HB (upd H n (some ⟨qO xs++jU k z,true⟩)) Bd:=by
 have hn:=zI hh hb
 refine⟨fun m hm=> ?_,fun m c hm v hv=> ?_⟩
 ·rw[qD _ _ (by omega)];exact hh.fresh m hm
 ·by_cases e:m=n
  ·subst e;rw[qJ]at hm;cases hm
   rcases List.mem_append.1 hv with hv|hv
   ·exact flat_nb Bd xs v hv
   ·exact hz v (zmake_mem hv)
  ·rw[qD _ _ e]at hm;exact hh.nb m c hm v hv
theorem nb_row{Bd:Nat}:∀v∈[Value.slice none 0 0,Value.int .i64 0],NB Bd v:=fun v hv=>by
 simp only[wG,List.not_mem_nil,or_false]at hv
 rcases hv with rfl|rfl
 ·exact .nils
 ·exact .int _ _
@[go_sem] theorem dataOf_GSuper(a b c e f g:Int)(h:Bool)(x:List UInt8)(y:List GSymbol):dataOf (α:=GSuper) [.int .i64 a, .int .i64 b, .int .i64 c, .int .i64 e, .int .i64 f, .int .i64 g, .bool h,lst x,lst y]=some ⟨a,b,c,e,f,g,h,x,⟨y⟩⟩:=dataOf_enc (⟨a,b,c,e,f,g,h,x,⟨y⟩⟩:GSuper)
theorem row_cells{xs:List GRow}{i:Nat}{r:GRow}(h:xs[i]? =some r):List.take 2 (List.drop (i*2) (qO xs))=[lst r.key, .int .i64 r.value]:=flat_get xs i r h
theorem set_two{xs ys:List GRow}{i:Nat}(hi:i<xs.length){r:GRow}(h:xs.set i r=ys):((qO xs).set (i*2) (lst r.key)).set (i*2+1) (.int .i64 r.value)=qO ys:=by
 rw[<-h];exact lset_two hi r
theorem fidx_spec3{α:Type}(p:α->Bool)(xs:List α):(fidx p xs= -1/\∀x∈xs,p x=false)\/∃(i:Nat) (h:i<xs.length),fidx p xs=i/\p xs[i]=true/\∀(j:Nat) (hj:j<i),p (xs[j]'(by omega))=false:=by
 unfold fidx
 cases h:xs.findIdx? p with
 |none=>exact .inl ⟨rfl,by simpa[List.findIdx?_eq_none_iff]using h⟩
 |some i=>
  obtain⟨h1,h2,h3⟩:=List.findIdx?_eq_some_iff_getElem.1 h
  exact .inr ⟨i,h1,rfl,h2,fun j hj=>by simpa using h3 j hj⟩
theorem clear_tail{xs:List GRow}{q:GRow->Bool}(h:(keep xs q xs.length).length<=xs.length):lset (qO (kept xs q xs.length)) ((keep xs q xs.length).length*2) (jU (xs.length-(keep xs q xs.length).length) [.slice none 0 0, .int .i64 0])=qO (keep xs q xs.length)++jU (xs.length-(keep xs q xs.length).length) [.slice none 0 0, .int .i64 0]:=by
 unfold kept
 rw[qK]
 have e:(keep xs q xs.length).length*2=(qO (keep xs q xs.length)).length:=(jJ _).symm
 rw[e]
 refine lset_tail _ _ _ ?_
 rw[jJ,xI]
 simp[jU]
 rfl
theorem rowsO_sm(d:GDisk)(root:Int):KeyOK (rowsO d root)/\(rowsO d root).length<=31104:=by
 by_cases h:yR d=0
 ·rw[rowsO_ok h];exact rowsI_ok d root
 ·have e:vU d root=(yR d,⟨[],[]⟩,noWk):=by unfold vU;rw[if_pos h]
  unfold rowsO
  rw[e,if_pos h]
  exact⟨fun r hr=>(by cases hr),xT _⟩
namespace OV
def Has(H:AH)(n:Nat)(cs:List OV):Prop:=∀(q:Nat) (c:List Value),(blL n cs)[q]? =some c->H (n+q)=some ⟨c,true⟩
theorem Has.app{H:AH}{n:Nat}{a c:List OV}:Has H n (a++c)↔Has H n a/\Has H (n+numL a) c:=by
 unfold Has
 rw[blL_app]
 refine⟨fun h=>⟨fun q x hq=> ?_,fun q x hq=> ?_⟩,fun h q x hq=> ?_⟩
 ·exact h q x (by rw[wF (xR.1 hq).1];exact hq)
 ·have:=h (numL a+q) x (by rw[wB (by rw[blL_len];omega),blL_len,Nat.add_sub_cancel_left];exact hq)
  rw[<-Nat.add_assoc]at this;exact this
 ·by_cases hl:q<(blL n a).length
  ·rw[wF hl]at hq;exact h.1 q x hq
  ·rw[wB (by omega),blL_len]at hq
   rw[blL_len]at hl
   have:=h.2 _ x hq
   rw[show n+numL a+(q-numL a)=n+q by omega]at this;exact this
def canon(n k:Nat):List (Option Nat):=(List.range k).map fun q=>some (n+q)
theorem canon_succ(n k:Nat):canon n (k+1)=some n::canon (n+1) k:=by
 unfold canon
 rw[List.range_succ_eq_map,List.map_cons,List.map_map]
 congr 1
 refine List.map_congr_left fun q _=> ?_
 show some (n+(q+1))=some (n+1+q)
 congr 1;omega
theorem canon_add(n a b:Nat):canon n (a+b)=canon n a++canon (n+a) b:=by
 unfold canon
 rw[List.range_add,List.map_append,List.map_map]
 congr 1
 refine List.map_congr_left fun q _=> ?_
 show some (n+(a+q))=some (n+a+q)
 congr 1;omega
theorem canon_mem{n k m:Nat}:some m∈canon n k↔n<=m/\m<n+k:=by
 unfold canon
 rw[List.mem_map]
 refine⟨fun⟨q,h1,h2⟩=> ?_,fun h=>⟨m-n,List.mem_range.2 (by omega),by congr 1;omega⟩⟩
 have:=List.mem_range.1 h1
 cases h2;omega
theorem canon_get{n k q m:Nat}(h:(canon n k)[q]? =some (some m)):m=n+q:=by
 unfold canon at h
 rw[wN]at h
 cases hr:(List.range k)[q]? with
 |none=>rw[hr]at h;cases h
 |some x=>
  rw[hr]at h
  have:=List.getElem?_range (xR.1 hr).1 |>.symm.trans (by simpa using hr)
  cases h
  obtain⟨h1,h2⟩:=xR.1 hr
  simp at h2;omega
theorem canon_nd(n k:Nat):nd (canon n k):=fun i j m h1 h2=>by
 have:=canon_get h1;have:=canon_get h2;omega
mutual
theorem at_canon{H:AH}{lo:Nat}:∀(o:OV) (n:Nat),(∀(q:Nat) c,(bl n o)[q]? =some c->H (n+q)=some ⟨c,true⟩)->lo<=n->At H lo o (val n o) (canon n (num o))
 | .v x,n,_,_=>⟨rfl,rfl⟩
 | .sl k len cs,n,h,hlo=> .inl ⟨n,len+1,valL (n+1) cs,canon (n+1) (numL cs),rfl,canon_succ _ _,hlo,h 0 _ rfl,atL_canon cs (n+1) (fun q c hq=>by
  have:=h (q+1) c (by simpa[bl]using hq)
  rw[show n+(q+1)=n+1+q by omega]at this;exact this) (by omega)⟩
theorem atL_canon{H:AH}{lo:Nat}:∀(cs:List OV) (n:Nat),Has H n cs->lo<=n->AtL H lo cs (valL n cs) (canon n (numL cs))
 |[],n,_,_=>⟨rfl,rfl⟩
 |c::cs,n,h,hlo=>by
  have hc:Has H n ([c]++cs):=h
  obtain⟨h1,h2⟩:=Has.app.1 hc
  have e:numL [c]=num c:=by simp[numL]
  rw[e]at h2
  exact⟨val n c,valL (n+num c) cs,canon n (num c),canon (n+num c) (numL cs),rfl,canon_add _ _ _,at_canon c n (fun q x hq=>h1 q x (by simpa[blL]using hq)) hlo,atL_canon cs (n+num c) h2 (by omega)⟩
end
theorem Has.out{H H':AH}{n:Nat}{cs:List OV}(h:∀m,n<=m->m<n+numL cs->H' m=H m):Has H' n cs=Has H n cs:=by
 refine propext ⟨fun g q c hq=> ?_,fun g q c hq=> ?_⟩
 ·have:=(xR.1 hq).1
  rw[blL_len]at this
  rw[<-h _ (by omega) (by omega)];exact g q c hq
 ·have:=(xR.1 hq).1
  rw[blL_len]at this
  rw[h _ (by omega) (by omega)];exact g q c hq
@[go_sem] theorem has_upd{H:AH}{n m:Nat}{b:Option Blk}{cs:List OV}(h:m<n\/n+numL cs<=m):Has (upd H m b) n cs=Has H n cs:=Has.out fun q h1 h2=>qD _ _ (by omega)
end OV
theorem put_out:∀(L:List (List Value)) (H:AH) (b n:Nat),n<b\/b+L.length<=n->putU H b L n=H n
 |[],_,_,_,_=>rfl
 |c::L,H,b,n,h=>by
  rw[xJ]at h
  show putU (upd H b _) (b+1) L n=_
  rw[put_out L _ _ _ (by omega),qD _ _ (by omega)]
theorem put_in:∀(L:List (List Value)) (H:AH) (b q:Nat) (c:List Value),L[q]? =some c->putU H b L (b+q)=some ⟨c,true⟩
 |[],_,_,_,_,h=>by simp at h
 |c::L,H,b,0,x,h=>by
  show putU (upd H b _) (b+1) L b=_
  rw[put_out L _ _ _ (by omega),qJ];cases h;rfl
 |c::L,H,b,q+1,x,h=>by
  have:=put_in L (upd H b (some ⟨c,true⟩)) (b+1) q x (by simpa using h)
  rw[show b+1+q=b+(q+1) by omega]at this;exact this
def oput(H:AH)(n:Nat)(cs:List OV):AH:=putU H n (OV.blL n cs)
theorem zN{H:AH}{b n:Nat}{cs:List OV}(h:n<b\/b+OV.numL cs<=n):oput H b cs n=H n:=put_out _ _ _ _ (by rw[OV.blL_len];exact h)
theorem oput_in(H:AH)(n:Nat)(cs:List OV):OV.Has (oput H n cs) n cs:=fun q c hq=>put_in _ _ _ _ _ hq
@[go_sem] theorem oput_new(H:AH)(n:Nat)(cs:List OV):OV.Has (oput H n cs) n cs=True:=eq_true (oput_in H n cs)
@[go_sem low] theorem has_oput {H:AH} {n m:Nat} {cs ds:List OV} (h:m+OV.numL ds<=n\/n+OV.numL cs<=m):OV.Has (oput H m ds) n cs=OV.Has H n cs:=OV.Has.out fun q h1 h2=>zN (by omega)
@[go_sem low] theorem oput_lt {H:AH} {b n:Nat} {cs:List OV} (h:n<b\/b+OV.numL cs<=n):oput H b cs n=H n:=zN h
theorem free_oput{H:AH}{b n:Nat}{cs:List OV}(h:n<b\/b+OV.numL cs<=n):free (oput H b cs) n=free H n:=by
 unfold free;rw[zN h]
theorem Le_oput{G H:AH}(n:Nat)(cs:List OV)(h:Le G H):Le (oput G n cs) (oput H n cs):=fun m b hm=>by
 by_cases e:m<n\/n+OV.numL cs<=m
 ·rw[zN e]at hm ⊢;exact h m b hm
 ·obtain⟨q,rfl⟩:∃q,m=n+q:=⟨m-n,by omega⟩
  have hq:q<(OV.blL n cs).length:=by rw[OV.blL_len];omega
  have h1:=oput_in G n cs q _ (xA hq)
  have h2:=oput_in H n cs q _ (xA hq)
  rw[h1]at hm;rw[h2];exact hm
theorem Le_oputN{G H:AH}{n:Nat}{cs:List OV}(h:Le G H)(hf:∀m,n<=m->m<n+OV.numL cs->G m=none):Le G (oput H n cs):=fun m b hm=>by
 by_cases e:m<n\/n+OV.numL cs<=m
 ·rw[zN e];exact h m b hm
 ·rw[hf m (by omega) (by omega)]at hm;cases hm
class OEnc (α:Type) [Enc α] where
 oc:α->List OV
 dat:∀x,OV.datL (oc x)=enc x
 ok:∀x,OV.okL (oc x)
def ocL{α:Type}[Enc α][OEnc α](xs:List α):List OV:=xs.flatMap OEnc.oc
theorem ocL_cons{α:Type}[Enc α][OEnc α](x:α)(xs:List α):ocL (x::xs)=OEnc.oc x++ocL xs:=rfl
theorem ocL_app{α:Type}[Enc α][OEnc α](xs ys:List α):ocL (xs++ys)=ocL xs++ocL ys:=List.flatMap_append
theorem ocL_dat{α:Type}[Enc α][OEnc α]:∀xs:List α,OV.datL (ocL xs)=qO xs
 |[]=>rfl
 |x::xs=>by rw[ocL_cons,OV.datL_app,OEnc.dat,ocL_dat xs];rfl
theorem ocL_ok{α:Type}[Enc α][OEnc α]:∀xs:List α,OV.okL (ocL xs)
 |[]=>trivial
 |x::xs=>by rw[ocL_cons,OV.okL_app];exact⟨OEnc.ok x,ocL_ok xs⟩
theorem ocL_len{α:Type}[Enc α][OEnc α](xs:List α):(ocL xs).length=xs.length*Enc.k α:=by
 rw[<-OV.datL_len,ocL_dat,jJ]
def ols{α:Type}[Enc α][OEnc α](xs:List α):OV:= .sl (Enc.k α) xs.length (ocL xs)
theorem ols_dat{α:Type}[Enc α][OEnc α](xs:List α):OV.dat (ols xs)=lst xs:=by
 show Value.func _ _ (rowsOf _ _ (OV.datL (ocL xs))).toArray=_
 rw[ocL_dat,rowsOf_flat];rfl
theorem ols_ok{α:Type}[Enc α][OEnc α](xs:List α):OV.ok (ols xs):=⟨ocL_len xs,ocL_ok xs⟩
instance :OEnc Int:=⟨fun n=>[.v (.int .i64 n)],fun _=>rfl,fun _=>⟨⟨fun _=> .int _ _, .int _ _⟩,trivial⟩⟩
instance :OEnc UInt8:=⟨fun n=>[.v (.int .u8 (n.toNat:Int))],fun _=>rfl,fun _=>⟨⟨fun _=> .int _ _, .int _ _⟩,trivial⟩⟩
instance {α:Type} [Enc α] [OEnc α]:OEnc (List α):=⟨fun xs=>[ols xs],fun xs=>by show [OV.dat (ols xs)]=_;rw[ols_dat];rfl,fun xs=>⟨ols_ok xs,trivial⟩⟩
theorem Has_pub{H:AH}{n:Nat}{cs:List OV}(h:OV.Has H n cs)(hk:OV.okL cs):Pub H (ownS H) (.agg (OV.valL n cs).toArray) (.agg (OV.datL cs).toArray):=by
 refine .agg (by simp[OV.valL_len,OV.datL_len]) fun i v u h1 h2=> ?_
 exact OV.AtL.pub (OV.atL_canon cs n h (xT n)) hk i v u (by simpa using h1) (by simpa using h2)
theorem Has_pubX{α:Type}[Enc α][OEnc α]{H:AH}{n:Nat}{x:α}(h:OV.Has H n (OEnc.oc x)):Pub H (ownS H) (.agg (OV.valL n (OEnc.oc x)).toArray) (.agg (enc x).toArray):=by
 rw[<-OEnc.dat];exact Has_pub h (OEnc.ok x)
theorem pubc_nil{H:AH}{S:Nat->Prop}:PubC H S [] []:=PubC.of _ _ rfl fun i v u h _=>by simp at h
theorem kA{H:AH}{S:Nat->Prop}{v u:Value}{vs us:List Value}(h:Pub H S v u)(hs:PubC H S vs us):PubC H S (v::vs) (u::us):=by
 obtain⟨h1,h2⟩:=PubC.get _ _ hs
 refine PubC.of _ _ (by simp[h1]) fun i a b e1 e2=> ?_
 cases i with
 |zero=>cases e1;cases e2;exact h
 |succ i=>exact h2 i a b (by simpa using e1) (by simpa using e2)
def LendN(W:qH):qH:=fun args H Bd K=>∃args',PubC H (ownS H) args args'/\W args' H Bd K
theorem LendN_ok{P:Program}{f:FuncId}{W:qH}(h:∀args H Bd K,W args H Bd K->SCalls P f args H Bd K)(hp:PureV W):∀args H Bd K,LendN W args H Bd K->SCalls P f args H Bd K:=fun args H Bd K ⟨args',hc,hk⟩=>by
 obtain⟨r,h1,h2,h3⟩:=hp _ _ _ _ hk
 refine SCalls.of_hb (h _ _ _ _ hk).1 fun hb=> ?_
 refine lend hc (h _ _ _ _ (h3 _ _ (sees_mns H) ⟨h1,fun n _=>rfl,fun n b hn hx v hv=> ?_,?_⟩))
 ·rw[mns_none hb hn]at hx;cases hx
 ·rw[mrg_mns hb];exact h2
theorem LendNO_ok{P:Program}{f:FuncId}{W:qH}(h:∀args H Bd K,W args H Bd K->SCalls P f args H Bd K)(hp:PureO W):∀args H Bd K,LendN W args H Bd K->SCalls P f args H Bd K:=fun args H Bd K ⟨args',hc,hk⟩=>by
 obtain⟨r,L,h1,h4,h2,h3⟩:=hp _ _ _ _ hk
 refine SCalls.of_hb (h _ _ _ _ hk).1 fun hb=> ?_
 have hf:∀n,Bd<=n->mns H n=none:=fun n hn=>mns_none hb hn
 have hat:=putU_at L (mns H) Bd hf
 have hat2:=putU_at L H Bd hb.fresh
 refine lend hc (h _ _ _ _ (h3 _ _ (sees_mns H) ⟨h1,fun n hn=>by rw[hat n,if_pos hn],fun n b hn hx v hv=> ?_,?_⟩))
 ·rw[hat n,if_neg (by omega)]at hx
  cases hc:L[n-Bd]? with
  |none=>rw[hc]at hx;cases hx
  |some c=>rw[hc]at hx;cases hx;exact h4 c (wC hc) v hv
 ·have:mrg H (putU (mns H) Bd L) Bd=putU H Bd L:=by
   funext n
   unfold mrg
   rw[hat2 n]
   split
   ·rfl
   ·rename_i hn
    rw[hat n,if_neg hn]
  rw[this];exact h2
namespace OV
mutual
theorem At.nb{H:AH}{lo N:Nat}(hH:HB H N):∀ {o:OV} {u:Value} {σ:List (Option Nat)},At H lo o u σ->ok o->NB N u
 | .v x,u,σ,h,hk=>by obtain⟨rfl,_⟩:=h;exact hk.1 N
 | .sl k len cs,u,σ,h,hk=>by
  rcases h with⟨m,c,us,τ,rfl,rfl,h1,h2,h⟩|⟨rfl,rfl,rfl,rfl⟩
  ·exact .sl (zI hH h2)
  ·exact .nils
theorem AtL.nb{H:AH}{lo N:Nat}(hH:HB H N):∀ {cs:List OV} {us:List Value} {σ:List (Option Nat)},AtL H lo cs us σ->okL cs->∀v∈us,NB N v
 |[],us,σ,h,_,w,hv=>by obtain⟨rfl,_⟩:=h;cases hv
 |c::cs,us,σ,h,hk,w,hv=>by
  obtain⟨u,vs,σ1,σ2,rfl,rfl,h1,h2⟩:=h
  rcases wG.1 hv with rfl|hv
  ·exact At.nb hH h1 hk.1
  ·exact AtL.nb hH h2 hk.2 w hv
end
theorem nd_app{σ τ:List (Option Nat)}(h1:nd σ)(h2:nd τ)(h:∀m,some m∈σ->some m∉τ):nd (σ++τ):=fun i j m e1 e2=>by
 by_cases hi:i<σ.length
 ·rw[wF hi]at e1
  by_cases hj:j<σ.length
  ·rw[wF hj]at e2;exact h1 i j m e1 e2
  ·rw[wB (by omega)]at e2
   exact absurd (wC e2) (h m (wC e1))
 ·rw[wB (by omega)]at e1
  by_cases hj:j<σ.length
  ·rw[wF hj]at e2
   exact absurd (wC e1) (h m (wC e2))
  ·rw[wB (by omega)]at e2
   have:=h2 _ _ m e1 e2;omega
theorem nd_nil:nd []:=fun i j m h _=>by simp at h
theorem nd_cons{n:Nat}{σ:List (Option Nat)}(h:nd σ)(hn:some n∉σ):nd (some n::σ):=by
 have:=nd_app (σ:=[some n]) (τ:=σ) (fun i j m e1 e2=>by
  cases i <;>cases j <;>simp_all) h (fun m hm=>by simp at hm;subst hm;exact hn)
 exact this
def Parts(H:AH):Nat->List (Nat×List OV)->Prop
 |_,[]=>True
 |lo,(n,cs)::r=>lo<=n/\Has H n cs/\Parts H (n+numL cs) r
theorem Parts.at{H:AH}:∀ {l:List (Nat×List OV)} {lo:Nat},Parts H lo l->∃σ,AtL H lo (l.flatMap fun p=>p.2) (l.flatMap fun p=>valL p.1 p.2) σ/\nd σ/\∀m,some m∈σ->lo<=m
 |[],_,_=>⟨[],⟨rfl,rfl⟩,nd_nil,fun m h=>by cases h⟩
 |(n,cs)::r,lo,⟨h1,h2,h3⟩=>by
  obtain⟨σ,g1,g2,g3⟩:=Parts.at h3
  refine⟨canon n (numL cs)++σ,?_,nd_app (canon_nd _ _) g2 fun m hm hq=> ?_,fun m hm=> ?_⟩
  ·exact AtL.app (atL_canon cs n h2 h1) (AtL.mono (by omega) g1 fun _ _=>rfl)
  ·have:=canon_mem.1 hm;have:=g3 m hq;omega
  ·rcases List.mem_append.1 hm with hm|hm
   ·have:=canon_mem.1 hm;omega
   ·have:=g3 m hm;omega
end OV
theorem Le_new{G H:AH}{n:Nat}{b:Option Blk}(h:Le G H)(hn:G n=none):Le G (upd H n b):=fun m c hm=>by
 by_cases e:m=n
 ·subst e;rw[hn]at hm;cases hm
 ·rw[qD _ _ e];exact h m c hm
theorem own_one{α:Type}[Enc α][OEnc α]{H G:AH}{Bd N c k:Nat}{xs:List α}{us:List Value}{σ:List (Option Nat)}(hA:OV.AtL G Bd (ocL xs) us σ)(hn:OV.nd σ)(hG:HB G N)(hle:Le H G)(hN:Bd<=N)(hk:Enc.k α=k:=by rfl):
  OwnNQ.OwnN H Bd (.one (ols xs)) (.slice (some ⟨N,0,some k⟩) xs.length c) (upd G N (some ⟨us,true⟩)):=by
 subst hk
 have h0:=hG.fresh N (xC N)
 refine⟨Le_new hle (by cases e:H N with|none=>rfl|some b=>have:=hle N b e;rw[h0]at this;cases this),some N::σ, .inl ⟨N,c,us,σ,rfl,rfl,hN,qJ _ _ _,OV.AtL.le (Le_new (Le.refl _) h0) hA⟩,OV.nd_cons hn fun hm=> ?_⟩
 obtain⟨_,us',h1⟩:=OV.AtL.lo hA N hm
 rw[h0]at h1;cases h1
theorem own_agg{H H':AH}{Bd:Nat}{cs:List OV}{us:List Value}(l:List (Nat×List OV))(hp:OV.Parts H' Bd l)(hle:Le H H')(hc:(l.flatMap fun p=>p.2)=cs:=by rfl)(hu:(l.flatMap fun p=>OV.valL p.1 p.2)=us:=by rfl):OwnNQ.OwnN H Bd (.agg cs) (.agg us.toArray) H':=by
 subst hc;subst hu
 obtain⟨σ,h1,h2,_⟩:=hp.at
 exact⟨hle,σ,⟨_,rfl,h1⟩,h2⟩
theorem zmake_succ(z:List Value)(m:Nat):jU (m+1) z=z++jU m z:=by
 unfold jU
 apply List.ext_getElem
 ·simp[Nat.succ_mul];omega
 ·intro i h1 h2
  have hi:i<(m+1)*z.length:=by simpa using h1
  rw[List.getElem_map,List.getElem_range]
  by_cases h:i<z.length
  ·rw[List.getElem_append_left h,Nat.mod_eq_of_lt h,xF,xA h];rfl
  ·rw[List.getElem_append_right (by omega),List.getElem_map,List.getElem_range]
   congr 1
   rw[Nat.mod_eq_sub_mod (by omega)]
theorem lset_mid(a b c z:List Value)(h:z.length=b.length):lset (a++(b++c)) a.length z=a++(z++c):=by
 refine List.ext_getElem? fun j=> ?_
 rw[lset_get _ _ _ _ (by simp;omega)]
 split
 ·rw[wF (by omega),wF (by omega)]
 ·split
  ·rw[wB (by omega),wF (by omega)]
  ·rw[wB (by omega),wB (by omega),wB (by omega),wB (by omega),h]
theorem fill_lset{us z cs:List Value}{n i k:Nat}(h1:us.length=i*k)(h2:cs.length=k)(h3:z.length=k)(hi:i<n):lset (us++jU (n-i) z) (i*k) cs=(us++cs)++jU (n-(i+1)) z:=by
 rw[show n-i=(n-(i+1))+1 by omega,zmake_succ,<-h1,lset_mid _ _ _ _ (by omega),xL]
theorem fill_next{α:Type}[Enc α][OEnc α]{G:AH}{Bd N m:Nat}{xs:List α}{i:Nat}{us:List Value}{σ:List (Option Nat)}(hi:i<xs.length)(hA:OV.AtL G Bd (ocL (xs.take i)) us σ)(hn:OV.nd σ)(hG:HB G N)(hm:N<=m)(hB:Bd<=N):
  OV.AtL (oput G m (OEnc.oc xs[i])) Bd (ocL (xs.take (i+1))) (us++OV.valL m (OEnc.oc xs[i])) (σ++OV.canon m (OV.numL (OEnc.oc xs[i])))/\OV.nd (σ++OV.canon m (OV.numL (OEnc.oc xs[i]))):=by
 have hf:∀q,m<=q->q<m+OV.numL (OEnc.oc xs[i])->G q=none:=fun q hq _=>hG.fresh q (by omega)
 rw[xP hi,ocL_app,show ocL [xs[i]]=OEnc.oc xs[i]++[]from rfl,wL]
 refine⟨OV.AtL.app (OV.AtL.le (Le_oputN (Le.refl _) hf) hA) (OV.atL_canon _ m (oput_in _ _ _) (by omega)),OV.nd_app hn (OV.canon_nd _ _) fun q hq hq2=> ?_⟩
 obtain⟨_,us',h1⟩:=OV.AtL.lo hA q hq
 have:=OV.canon_mem.1 hq2
 rw[hG.fresh q (by omega)]at h1;cases h1
theorem fill_len{α:Type}[Enc α][OEnc α]{G:AH}{Bd:Nat}{xs:List α}{i:Nat}{us:List Value}{σ:List (Option Nat)}(hi:i<=xs.length)(hA:OV.AtL G Bd (ocL (xs.take i)) us σ):us.length=i*Enc.k α:=by
 rw[OV.AtL.size hA,ocL_len,xQ,Nat.min_eq_left hi]
class OFl (α:Type) [Enc α] [OEnc α]:Prop where
 h:∀x:α,OEnc.oc x=(enc x).map OV.v
theorem numL_v:∀l:List Value,OV.numL (l.map OV.v)=0
 |[]=>rfl
 |x::l=>by simp[OV.numL,OV.num,numL_v l]
theorem valL_v:∀(l:List Value) (n:Nat),OV.valL n (l.map OV.v)=l
 |[],_=>rfl
 |x::l,n=>by simp[OV.valL,OV.val,OV.num,valL_v l]
theorem blL_v:∀(l:List Value) (n:Nat),OV.blL n (l.map OV.v)=[]
 |[],_=>rfl
 |x::l,n=>by simp[OV.blL,OV.bl,blL_v l]
theorem ocL_fl{α:Type}[Enc α][OEnc α][h:OFl α]:∀xs:List α,ocL xs=(qO xs).map OV.v
 |[]=>rfl
 |x::xs=>by rw[ocL_cons,ocL_fl xs,h.h];simp[jO]
instance :OFl UInt8:=⟨fun _=>rfl⟩
section
variable {α:Type} [Enc α] [OEnc α]
@[go_sem] theorem numL_fl[OFl α](xs:List α):OV.numL (OEnc.oc xs)=1:=by
 show OV.num (ols xs)+0=1
 unfold ols OV.num
 rw[ocL_fl,numL_v]
@[go_sem] theorem oput_fl[OFl α](H:AH)(n:Nat)(xs:List α):oput H n (OEnc.oc xs)=upd H n (some ⟨qO xs,true⟩):=by
 have e:OV.blL n (OEnc.oc xs)=[qO xs]:=by
  show OV.bl n (ols xs)++[]=_
  rw[wL]
  unfold ols OV.bl
  rw[ocL_fl,valL_v,blL_v]
 unfold oput;rw[e];rfl
@[go_sem] theorem has_fl[OFl α](H:AH)(n:Nat)(xs:List α):OV.Has H n (OEnc.oc xs)=(H n=some ⟨qO xs,true⟩):=by
 have e:OV.blL n (OEnc.oc xs)=[qO xs]:=by
  show OV.bl n (ols xs)++[]=_
  rw[wL]
  unfold ols OV.bl
  rw[ocL_fl,valL_v,blL_v]
 unfold OV.Has;rw[e]
 exact propext ⟨fun h=>h 0 _ rfl,fun h q c hq=>by
  cases q with
  |zero=>cases hq;exact h
  |succ q=>simp at hq⟩
@[go_sem] theorem valL_list{k:Nat}[hk:EncK α k](n:Nat)(xs:List α):OV.valL n (OEnc.oc xs)=[.slice (some ⟨n,0,some k⟩) xs.length (xs.length+1)]:=by
 show [OV.val n (ols xs)]=_
 unfold ols OV.val;rw[hk.h]
end
@[go_sem] theorem numL_int(n:Int):OV.numL (OEnc.oc n)=0:=(rfl)
@[go_sem] theorem oput_int(H:AH)(b:Nat)(n:Int):oput H b (OEnc.oc n)=H:=(rfl)
theorem has_none(H:AH)(b:Nat)(l:List Value):OV.Has H b (l.map OV.v)=True:=eq_true fun q c hq=>by rw[blL_v]at hq;simp at hq
@[go_sem] theorem has_int(H:AH)(b:Nat)(n:Int):OV.Has H b (OEnc.oc n)=True:=has_none H b [.int .i64 n]
@[go_sem] theorem valL_int(b:Nat)(n:Int):OV.valL b (OEnc.oc n)=[.int .i64 n]:=(rfl)
theorem putU_app:∀(L M:List (List Value)) (H:AH) (n:Nat),putU H n (L++M)=putU (putU H n L) (n+L.length) M
 |[],M,H,n=>rfl
 |c::L,M,H,n=>by
  show putU (upd H n _) (n+1) (L++M)=putU (putU (upd H n _) (n+1) L) (n+(L.length+1)) M
  rw[putU_app L M,show n+1+L.length=n+(L.length+1) by omega]
@[go_sem] theorem oput_app(H:AH)(n:Nat)(a b:List OV):oput H n (a++b)=oput (oput H n a) (n+OV.numL a) b:=by
 unfold oput;rw[OV.blL_app,putU_app,OV.blL_len]
@[go_sem] theorem has_app(H:AH)(n:Nat)(a b:List OV):OV.Has H n (a++b)=(OV.Has H n a/\OV.Has H (n+OV.numL a) b):=propext OV.Has.app
@[go_sem] theorem numL_app'(a b:List OV):OV.numL (a++b)=OV.numL a+OV.numL b:=OV.numL_app a b
@[go_sem] theorem valL_app'(n:Nat)(a b:List OV):OV.valL n (a++b)=OV.valL n a++OV.valL (n+OV.numL a) b:=OV.valL_app a b n
theorem Le_oputB{G H:AH}{B n:Nat}{cs:List OV}(hb:HB G B)(h:B<=n):Le G (oput H n cs)=Le G H:=by
 refine propext ⟨fun g m b hm=> ?_,fun g=>Le_oputN g fun m h1 _=>hb.fresh m (by omega)⟩
 have hlt:=zI hb hm
 have:=g m b hm
 rw[zN (.inl (by omega))]at this;exact this
theorem rql_nb{B0:Nat}{xs:List Value}(h:∀v∈xs,NB B0 v):∀(σ:List (Option Nat)) (N:Nat) (S:Nat->Prop) (H:AH),B0<=N->rql σ N S H xs xs=True:=fun σ N S H hle=>eq_true ⟨rfl,fun i v u e1 e2=>by rw[e1]at e2;cases e2;exact .same ((h v (wC e1)).up hle)⟩
theorem nb_zmake{N k:Nat}{z:List Value}(h:∀v∈z,NB N v):∀v∈jU k z,NB N v:=fun v hv=>h v (zmake_mem hv)
theorem nb_app{N:Nat}{a b:List Value}(h:∀v∈a,NB N v)(k:∀v∈b,NB N v):∀v∈a++b,NB N v:=fun v hv=>(List.mem_append.1 hv).elim (h v) (k v)
theorem nb_up{N M:Nat}{a:List Value}(h:∀v∈a,NB N v)(hle:N<=M):∀v∈a,NB M v:=fun v hv=>(h v hv).up hle
theorem nbs_all{N:Nat}:∀ {l:List Value},NBs N l->∀v∈l,NB N v
 |[],_,v,h=>by cases h
 |x::l,hl,v,h=>by
  rcases wG.1 h with rfl|h
  ·exact hl.1
  ·exact nbs_all hl.2 v h
theorem valL_nb:∀ {cs:List OV} (n:Nat),OV.okL cs->∀v∈OV.valL n cs,NB (n+OV.numL cs) v
 |[],n,_,v,h=>by cases h
 |c::cs,n,hk,v,h=>by
  rcases wG.1 h with rfl|h
  ·cases c with
   |v x=>exact hk.1.1 _
   |sl k len ds=>exact .sl (by show n<n+(OV.numL ds+1+OV.numL cs);omega)
  ·have:=valL_nb (n+OV.num c) hk.2 v h
   rw[Nat.add_assoc]at this;exact this
theorem fill_all{us z:List Value}{n i k:Nat}(h1:us.length=i*k)(h3:z.length=k)(hi:i<n):(us++jU (n-i) z).length=n*k:=by
 have:(jU (n-i) z).length=(n-i)*k:=by simp[jU,h3]
 rw[xD,h1,this,<-Nat.add_mul]
 congr 1;omega
end Go.SC
namespace Go.SC
open Go
instance :OEnc GPut:=⟨fun x=>OEnc.oc x.sector++OEnc.oc x.bytes,fun x=>by simp only[OV.datL_app,OEnc.dat];rfl,fun x=>(OV.okL_app _ _).2 ⟨OEnc.ok x.sector,OEnc.ok x.bytes⟩⟩
@[go_sem] theorem oc_GPut(x:GPut):OEnc.oc x=OEnc.oc x.sector++OEnc.oc x.bytes:=(rfl)
instance :OEnc GDisk:=⟨fun x=>OEnc.oc x.sectors++OEnc.oc x.pending,fun x=>by simp only[OV.datL_app,OEnc.dat];rfl,fun x=>(OV.okL_app _ _).2 ⟨OEnc.ok x.sectors,OEnc.ok x.pending⟩⟩
@[go_sem] theorem oc_GDisk(x:GDisk):OEnc.oc x=OEnc.oc x.sectors++OEnc.oc x.pending:=(rfl)
instance :OEnc GAct:=⟨fun x=>OEnc.oc x.kind++OEnc.oc x.put,fun x=>by simp only[OV.datL_app,OEnc.dat];rfl,fun x=>(OV.okL_app _ _).2 ⟨OEnc.ok x.kind,OEnc.ok x.put⟩⟩
@[go_sem] theorem oc_GAct(x:GAct):OEnc.oc x=OEnc.oc x.kind++OEnc.oc x.put:=(rfl)
instance :OEnc GActsResult:=⟨fun x=>OEnc.oc x.code++OEnc.oc x.acts,fun x=>by simp only[OV.datL_app,OEnc.dat];rfl,fun x=>(OV.okL_app _ _).2 ⟨OEnc.ok x.code,OEnc.ok x.acts⟩⟩
@[go_sem] theorem oc_GActsResult(x:GActsResult):OEnc.oc x=OEnc.oc x.code++OEnc.oc x.acts:=(rfl)
class OW (α:Type) [Enc α] [OEnc α] (w:outParam Nat):Prop where
 h:∀x:α,OV.numL (OEnc.oc x)=w
instance {β:Type} [Enc β] [OEnc β] [OFl β]:OW (List β) 1:=⟨fun xs=>numL_fl xs⟩
section
variable {α:Type} {w:Nat} [Enc α] [OEnc α] [ho:OW α w]
theorem ocL_num(xs:List α):OV.numL (ocL xs)=xs.length*w:=by
 induction xs with
 |nil=>simp[ocL,OV.numL]
 |cons x xs ih=>rw[ocL_cons,OV.numL_app,ih,ho.h,xJ,Nat.succ_mul,Nat.add_comm]
theorem oc_num(xs:List α):OV.numL (OEnc.oc xs)=xs.length*w+1:=by
 show OV.num (ols xs)+0=_
 unfold ols OV.num
 rw[ocL_num]
theorem ocL_split{xs:List α}{i:Nat}(hi:i<xs.length):ocL xs=ocL (xs.take i)++(OEnc.oc xs[i]++ocL (xs.drop (i+1))):=by
 conv=>lhs;rw[<-List.take_append_drop i xs,wI hi,ocL_app,ocL_cons]
theorem valL_split(n:Nat){xs:List α}{i:Nat}(hi:i<xs.length):OV.valL n (ocL xs)=OV.valL n (ocL (xs.take i))++(OV.valL (n+i*w) (OEnc.oc xs[i])++OV.valL (n+i*w+w) (ocL (xs.drop (i+1)))):=by
 rw[ocL_split hi,OV.valL_app,OV.valL_app,ocL_num,xQ,Nat.min_eq_left (by omega),ho.h]
theorem valL_take(n:Nat){xs:List α}{i:Nat}(hi:i<xs.length):(OV.valL n (ocL (xs.take i))).length=i*Enc.k α:=by
 rw[OV.valL_len,ocL_len,xQ,Nat.min_eq_left (by omega)]
theorem oc_len(x:α):(OEnc.oc x).length=Enc.k α:=by rw[<-OV.datL_len,OEnc.dat,jN]
theorem valL_all(n:Nat)(xs:List α):(OV.valL n (ocL xs)).length=xs.length*Enc.k α:=by rw[OV.valL_len,ocL_len]
theorem valL_cell(n:Nat){xs:List α}{i j:Nat}(hi:i<xs.length)(hj:j<Enc.k α):(OV.valL n (ocL xs))[i*Enc.k α+j]? =(OV.valL (n+i*w) (OEnc.oc xs[i]))[j]? :=by
 have hl:=valL_take n hi
 rw[valL_split n hi,wB (by omega),hl,Nat.add_sub_cancel_left,wF (by rw[OV.valL_len,oc_len];exact hj)]
theorem valL_set(n:Nat){xs:List α}{i:Nat}(hi:i<xs.length)(y:α):lset (OV.valL n (ocL xs)) (i*Enc.k α) (OV.valL (n+i*w) (OEnc.oc y))=OV.valL n (ocL (xs.set i y)):=by
 have hi2:i<(xs.set i y).length:=by simpa using hi
 rw[valL_split n hi2,valL_split n hi,<-valL_take n hi,lset_mid _ _ _ _ (by rw[OV.valL_len,OV.valL_len,oc_len,oc_len])]
 congr 1
 ·congr 2;rw[List.take_set_of_le (xC i)]
 ·congr 1
  ·simp
  ·congr 2;rw[List.drop_set_of_lt (Nat.lt_succ_self i)]
theorem blL_cons_sl(n k len:Nat)(cs:List OV):OV.blL n [.sl k len cs]=OV.valL (n+1) cs::OV.blL (n+1) cs:=by
 show OV.bl n (.sl k len cs)++[]=_
 rw[wL];rfl
theorem has_ocL{H:AH}:∀ {xs:List α} {n:Nat},OV.Has H n (ocL xs)↔∀(i:Nat) (hi:i<xs.length),OV.Has H (n+i*w) (OEnc.oc xs[i])
 |[],n=>by
  refine⟨fun _ i hi=>absurd hi (Nat.not_lt_zero _),fun _ q c hq=>by simp[ocL,OV.blL]at hq⟩
 |x::xs,n=>by
  rw[ocL_cons,OV.Has.app,ho.h,has_ocL]
  refine⟨fun⟨h1,h2⟩ i hi=> ?_,fun h=>⟨by have:=h 0 (Nat.zero_lt_succ _);rw[Nat.zero_mul,Nat.add_zero]at this;exact this,fun i hi=> ?_⟩⟩
  ·cases i with
   |zero=>simpa using h1
   |succ i=>
    have:=h2 i (by simpa using hi)
    rw[show n+(i+1)*w=n+w+i*w by rw[Nat.succ_mul];omega];exact this
  ·have:=h (i+1) (by simpa using hi)
   rw[show n+(i+1)*w=n+w+i*w by rw[Nat.succ_mul];omega]at this;exact this
theorem has_elems{H:AH}{xs:List α}{n:Nat}:OV.Has H n (OEnc.oc xs)↔H n=some ⟨OV.valL (n+1) (ocL xs),true⟩/\∀(i:Nat) (hi:i<xs.length),OV.Has H (n+1+i*w) (OEnc.oc xs[i]):=by
 have e:OV.blL n (OEnc.oc xs)=OV.valL (n+1) (ocL xs)::OV.blL (n+1) (ocL xs):=blL_cons_sl n (Enc.k α) xs.length (ocL xs)
 rw[<-has_ocL]
 unfold OV.Has
 rw[e]
 refine⟨fun h=>⟨h 0 _ rfl,fun q c hq=> ?_⟩,fun⟨h1,h2⟩ q c hq=> ?_⟩
 ·have:=h (q+1) c (by simpa using hq)
  rw[show n+(q+1)=n+1+q by omega]at this;exact this
 ·cases q with
  |zero=>cases hq;exact h1
  |succ q=>
   have:=h2 q c (by simpa using hq)
   rw[show n+(q+1)=n+1+q by omega];exact this
theorem has_set{H H':AH}{xs:List α}{n i:Nat}(hi:i<xs.length){y:α}(h:OV.Has H n (OEnc.oc xs))(h1:H' n=some ⟨OV.valL (n+1) (ocL (xs.set i y)),true⟩)(h2:OV.Has H' (n+1+i*w) (OEnc.oc y))
  (h3:∀m,m≠n->m<n+1+i*w\/n+1+i*w+w<=m->H' m=H m):OV.Has H' n (OEnc.oc (xs.set i y)):=by
 obtain⟨_,g2⟩:=has_elems.1 h
 refine has_elems.2 ⟨h1,fun j hj=> ?_⟩
 by_cases e:i=j
 ·subst e;simpa using h2
 ·have hj':j<xs.length:=by simpa using hj
  rw[List.getElem_set_ne e]
  have:=g2 j hj'
  refine(OV.Has.out (H:=H) fun m m1 m2=>h3 m (by omega) ?_).mpr this
  rw[ho.h]at m2
  rcases Nat.lt_or_gt_of_ne e with hlt|hgt
  ·right
   have:(i+1)*w<=j*w:=Nat.mul_le_mul_right _ hlt
   rw[Nat.succ_mul]at this;omega
  ·left
   have:(j+1)*w<=i*w:=Nat.mul_le_mul_right _ hgt
   rw[Nat.succ_mul]at this;omega
end
theorem oput_eq{H H':AH}{n:Nat}{cs:List OV}(h:OV.Has H' n cs)(h2:∀m,m<n\/n+OV.numL cs<=m->H' m=H m):H'=oput H n cs:=by
 funext m
 by_cases e:m<n\/n+OV.numL cs<=m
 ·rw[h2 m e,zN e]
 ·obtain⟨q,rfl⟩:∃q,m=n+q:=⟨m-n,by omega⟩
  have hq:q<(OV.blL n cs).length:=by rw[OV.blL_len];omega
  rw[h q _ (xA hq),oput_in H n cs q _ (xA hq)]
class MkD (α:Type) where
 put:Int->α->α
 cnt:α->Nat
instance {β:Type} {w:Nat} [Mk β w]:MkD (List β):=⟨fun q xs=>mkL β q xs.length,fun xs=>xs.length*w⟩
section
variable {α:Type} [MkD α]
def kD(xs:List α):Nat:=(xs.map MkD.cnt).sum
def mkDL:Int->List α->List α
 |_,[]=>[]
 |q,x::xs=>MkD.put q x::mkDL (q+(MkD.cnt x:Nat)) xs
theorem zO:∀(q:Int) (xs:List α),(mkDL q xs).length=xs.length
 |_,[]=>rfl
 |q,x::xs=>by simp[mkDL,zO _ xs]
theorem mkDL_get:∀(q:Int) (xs:List α) (i:Nat) (hi:i<xs.length),(mkDL q xs)[i]? =some (MkD.put (q+(kD (xs.take i):Nat)) xs[i])
 |q,[],i,hi=>absurd hi (Nat.not_lt_zero _)
 |q,x::xs,0,hi=>by simp[mkDL,kD]
 |q,x::xs,i+1,hi=>by
  have:=mkDL_get (q+(MkD.cnt x:Nat)) xs i (by simpa using hi)
  simp only[mkDL,wM,this,List.take_succ_cons,List.getElem_cons_succ]
  congr 2
  unfold kD
  simp only[List.map_cons,List.sum_cons]
  omega
def mkTo(q:Int)(i:Nat)(xs:List α):List α:=(mkDL q xs).take i++xs.drop i
theorem mkTo_zero(q:Int)(xs:List α):mkTo q 0 xs=xs:=by simp[mkTo]
theorem mkTo_end(q:Int)(xs:List α):mkTo q xs.length xs=mkDL q xs:=by
 unfold mkTo
 rw[<-zO q xs,wH]
 simp[zO]
theorem mkTo_len(q:Int)(i:Nat)(xs:List α):(mkTo q i xs).length=xs.length:=by
 unfold mkTo
 simp[zO];omega
theorem mkTo_get(q:Int){i:Nat}{xs:List α}(hi:i<xs.length):(mkTo q i xs)[i]? =some xs[i]:=by
 unfold mkTo
 have hl:((mkDL q xs).take i).length=i:=by rw[xQ,zO];omega
 rw[wB (by omega),hl,Nat.sub_self,wP,Nat.add_zero,xA hi]
theorem mkTo_succ(q:Int){i:Nat}{xs:List α}(hi:i<xs.length):mkTo q (i+1) xs=(mkTo q i xs).set i (MkD.put (q+(kD (xs.take i):Nat)) xs[i]):=by
 unfold mkTo
 have hm:=mkDL_get q xs i hi
 have hl:((mkDL q xs).take i).length=i:=by rw[xQ,zO];omega
 have hi2:i<(mkDL q xs).length:=by rw[zO];exact hi
 rw[xA hi2]at hm
 rw[xP hi2,Option.some.inj hm,List.set_append_right _ _ (by omega),hl,Nat.sub_self,wI hi,List.set_cons_zero,xL]
 rfl
theorem cntD_succ{i:Nat}{xs:List α}(hi:i<xs.length):kD (xs.take (i+1))=kD (xs.take i)+MkD.cnt xs[i]:=by
 unfold kD
 rw[xP hi,List.map_append,List.sum_append];simp
theorem cntD_take(i:Nat)(xs:List α):kD (xs.take i)<=kD xs:=by
 have:kD xs=kD (xs.take i)+kD (xs.drop i):=by
  unfold kD
  rw[<-List.sum_append,<-List.map_append,List.take_append_drop]
 omega
end
mutual
theorem bl_nb:∀(o:OV) (n:Nat),OV.ok o->∀c∈OV.bl n o,∀w∈c,NB (n+OV.num o) w
 | .v x,n,hk,c,hc,w,hw=>by simp[OV.bl]at hc
 | .sl kk len ds,n,hk,c,hc,w,hw=>by
  rcases wG.1 hc with rfl|hc
  ·exact(valL_nb (n+1) hk.2 w hw).up (by show n+1+OV.numL ds<=n+(OV.numL ds+1);omega)
  ·exact(blL_nb ds (n+1) hk.2 c hc w hw).up (by show n+1+OV.numL ds<=n+(OV.numL ds+1);omega)
theorem blL_nb:∀(cs:List OV) (n:Nat),OV.okL cs->∀c∈OV.blL n cs,∀w∈c,NB (n+OV.numL cs) w
 |[],n,hk,c,hc,w,hw=>by simp[OV.blL]at hc
 |o::cs,n,hk,c,hc,w,hw=>by
  rcases List.mem_append.1 hc with hc|hc
  ·exact(bl_nb o n hk.1 c hc w hw).up (by show n+OV.num o<=n+(OV.num o+OV.numL cs);omega)
  ·exact(blL_nb cs (n+OV.num o) hk.2 c hc w hw).up (by show n+OV.num o+OV.numL cs<=n+(OV.num o+OV.numL cs);omega)
end
theorem HB_oput{H:AH}{Bd n:Nat}{cs ds:List OV}(hh:HB H Bd)(h:OV.Has H n cs)(hd:OV.okL ds)(hn:OV.numL ds=OV.numL cs):HB (oput H n ds) Bd:=by
 have hlt:OV.numL ds=0\/n+OV.numL ds<=Bd:=by
  rw[hn]
  by_cases e:OV.numL cs=0
  ·exact .inl e
  ·have hq:OV.numL cs-1<(OV.blL n cs).length:=by rw[OV.blL_len];omega
   have:=zI hh (h _ _ (xA hq))
   omega
 refine⟨fun m hm=> ?_,fun m b hm v hv=> ?_⟩
 ·rw[zN (by omega)];exact hh.fresh m hm
 ·by_cases e:m<n\/n+OV.numL ds<=m
  ·rw[zN e]at hm;exact hh.nb m b hm v hv
  ·obtain⟨q,rfl⟩:∃q,m=n+q:=⟨m-n,by omega⟩
   have hq:q<(OV.blL n ds).length:=by rw[OV.blL_len];omega
   rw[oput_in H n ds q _ (xA hq)]at hm
   cases hm
   exact(blL_nb ds n hd _ (xH hq) v hv).up (by omega)
instance :OW GPut 1:=⟨fun x=>by simp only[go_sem]⟩
instance :MkD GPut:=⟨fun q x=>⟨q,mkL UInt8 (q+1) x.bytes.length⟩,fun x=>x.bytes.length+1⟩
theorem cntD_nil{α:Type}[MkD α]:kD ([]:List α)=0:=rfl
theorem mkTo_at{α:Type}[MkD α](q:Int){i:Nat}{xs:List α}(hi:i<xs.length)(h:i<(mkTo q i xs).length):(mkTo q i xs)[i]=xs[i]:=by
 have:=mkTo_get q hi
 rw[xA h]at this
 exact Option.some.inj this
theorem set_lset2{cells:List Value}{i:Nat}{v s:Value}(h:cells[i+1]? =some s):cells.set i v=lset cells i [v,s]:=by
 show _=(cells.set i v).set (i+1) s
 refine List.ext_getElem? fun j=> ?_
 by_cases e:i+1=j
 ·subst e
  have hl:=(xR.1 h).1
  rw[wS (by omega),h,List.getElem?_set_self (by simpa using hl)]
 ·rw[wS e]
theorem vG{α:Type}{w:Nat}[Enc α][OEnc α][OW α w][MkD α](q:Int)(xs:List α):OV.numL (OEnc.oc (mkDL q xs))=OV.numL (OEnc.oc xs):=by rw[oc_num,oc_num,zO]
theorem set_same{cells:List Value}{i:Nat}{v:Value}(h:cells[i]? =some v):lset cells i [v]=cells:=by
 show cells.set i v=cells
 have hl:=(xR.1 h).1
 refine List.ext_getElem? fun j=> ?_
 by_cases e:i=j
 ·subst e;rw[List.getElem?_set_self hl,h]
 ·rw[wS e]
theorem has_lt{H:AH}{Bd n:Nat}{cs:List OV}(hh:HB H Bd)(h:OV.Has H n cs):OV.numL cs=0\/n+OV.numL cs<=Bd:=by
 by_cases e:OV.numL cs=0
 ·exact .inl e
 ·have hq:OV.numL cs-1<(OV.blL n cs).length:=by rw[OV.blL_len];omega
  have:=zI hh (h _ _ (xA hq))
  omega
theorem Has_pubB{α:Type}[Enc α][OEnc α]{H:AH}{b n:Nat}{x:α}(h:OV.Has H n (OEnc.oc x))(hn:b<=n):Pub H (fun m=>b<=m) (.agg (OV.valL n (OEnc.oc x)).toArray) (.agg (enc x).toArray):=by
 rw[<-OEnc.dat]
 refine .agg (by simp[OV.valL_len,OV.datL_len]) fun i v u h1 h2=> ?_
 exact OV.AtL.pubG (S:=fun m=>b<=m) (fun m _ hm _=>hm) (OV.atL_canon (OEnc.oc x) n h hn) (OEnc.ok x) i v u (by simpa using h1) (by simpa using h2)
def GiveN(W:qH):qH:=fun args H Bd K=>∃(args':List Value) (G:AH) (b:Nat),PubC H (fun m=>b<=m) args args'/\Le G H/\(∀n c,G n=some c->n<b)/\W args' G Bd K
theorem GiveN_ok{P:Program}{f:FuncId}{W:qH}(h:∀args H Bd K,W args H Bd K->SCalls P f args H Bd K):∀args H Bd K,GiveN W args H Bd K->SCalls P f args H Bd K:=fun args H Bd K ⟨args',G,b,hp,hle,hb,hk⟩=>
 give (fun m=>b<=m) hp hle (fun n c hn hs=>by have:=hb n c hn;omega) (h _ _ _ _ hk)
structure Bx (P:Prop):Type where
def Held(P:Prop)(_:Bx P):Prop:=P
theorem held{P:Prop}{x:Bx P}(h:P):Held P x:=h
theorem Le_hi{G M:AH}{b n:Nat}{x:Option Blk}(hG:∀m c,G m=some c->m<b)(h:b<=n):Le G (upd M n x)=Le G M:=by
 refine propext ⟨fun g m c hm=> ?_,fun g m c hm=> ?_⟩
 ·have hlt:=hG m c hm
  have:=g m c hm
  rw[qD _ _ (by omega)]at this;exact this
 ·have hlt:=hG m c hm
  rw[qD _ _ (by omega)];exact g m c hm
theorem Le_hiO{G M:AH}{b n:Nat}{cs:List OV}(hG:∀m c,G m=some c->m<b)(h:b<=n):Le G (oput M n cs)=Le G M:=by
 refine propext ⟨fun g m c hm=> ?_,fun g m c hm=> ?_⟩
 ·have hlt:=hG m c hm
  have:=g m c hm
  rw[zN (.inl (by omega))]at this;exact this
 ·have hlt:=hG m c hm
  rw[zN (.inl (by omega))];exact g m c hm
theorem names_upd{G:AH}{b n:Nat}{x:Option Blk}(hG:∀m c,G m=some c->m<b)(h:n<b):∀m c,upd G n x m=some c->m<b:=fun m c hm=>by
 by_cases e:m=n
 ·omega
 ·rw[qD _ _ e]at hm;exact hG m c hm
theorem pub_as{H:AH}{S:Nat->Prop}{v v' u:Value}(h:Pub H S v u)(e:v=v'):Pub H S v' u:=e▸h
theorem cntD_tot{α:Type}[MkD α][Sz α]:∀ {xs:List α},(∀x:α,MkD.cnt x<=tot x+1)->kD xs<=tot xs
 |xs,h=>by
  rw[tot_list]
  induction xs with
  |nil=>exact xT _
  |cons x xs ih=>
   have:=h x
   unfold kD at ih ⊢
   simp only[List.map_cons,List.sum_cons,xJ]
   omega
theorem cntD_bytes(xs:List (List UInt8)):kD xs<=tot xs:=cntD_tot fun x=>by
 have:tot x=x.length:=by simp
 show x.length*1<=_
 omega
theorem cntD_puts(xs:List GPut):kD xs<=tot xs:=cntD_tot fun x=>by
 have:tot x=x.bytes.length:=by simp[tot_GPut]
 show x.bytes.length+1<=_
 omega
end Go.SC
namespace Go.SC
open Go
mutual
theorem val_vc:∀(o:OV) (n:Nat),OV.ok o->VC (OV.val n o)
 | .v x,n,hk=>hk.2
 | .sl k len cs,n,hk=> .sl
theorem valL_vc:∀(cs:List OV) (n:Nat),OV.okL cs->∀v∈OV.valL n cs,VC v
 |[],n,hk,v,hv=>by cases hv
 |o::cs,n,hk,v,hv=>by
  rcases wG.1 hv with rfl|hv
  ·exact val_vc o n hk.1
  ·exact valL_vc cs _ hk.2 v hv
end
mutual
theorem bl_vc:∀(o:OV) (n:Nat),OV.ok o->∀c∈OV.bl n o,∀w∈c,VC w
 | .v x,n,hk,c,hc,w,hw=>by simp[OV.bl]at hc
 | .sl kk len ds,n,hk,c,hc,w,hw=>by
  rcases wG.1 hc with rfl|hc
  ·exact valL_vc ds (n+1) hk.2 w hw
  ·exact blL_vc ds (n+1) hk.2 c hc w hw
theorem blL_vc:∀(cs:List OV) (n:Nat),OV.okL cs->∀c∈OV.blL n cs,∀w∈c,VC w
 |[],n,hk,c,hc,w,hw=>by simp[OV.blL]at hc
 |o::cs,n,hk,c,hc,w,hw=>by
  rcases List.mem_append.1 hc with hc|hc
  ·exact bl_vc o n hk.1 c hc w hw
  ·exact blL_vc cs (n+OV.num o) hk.2 c hc w hw
end
theorem pub_cells{α:Type}[Enc α]{H:AH}{S:Nat->Prop}{n len c k:Nat}{cells:List Value}{xs:List α}(hb:H n=some ⟨cells,true⟩)(hc:PubC H S cells (qO xs))(hS:S n)(hk:Enc.k α=k)(hl:len=xs.length):
  Pub H S (.slice (some ⟨n,0,some k⟩) len c) (lst xs):=by
 subst hk;subst hl
 obtain⟨g1,g2⟩:=PubC.get _ _ hc
 rw[jJ]at g1
 refine .lst hS hb rfl (by simp) (by simp only[Nat.zero_add];omega) (fun i x hi=> ?_) fun i j r v u h1 h2 h3=> ?_
 ·simp only[wJ,wN]at hi
  cases hx:xs[i]? with
  |none=>rw[hx]at hi;cases hi
  |some y=>
   rw[hx]at hi
   simp only[wK,xE]at hi
   exact⟨_,hi.symm,by simp[jN]⟩
 ·simp only[wJ,wN]at h1
  cases hx:xs[i]? with
  |none=>rw[hx]at h1;cases h1
  |some y=>
   rw[hx]at h1
   simp only[wK,xE,Value.agg.injEq]at h1
   subst h1
   have hj:j<Enc.k α:=by
    have:=(xS.1 h3).1
    simpa[jN]using this
   have e:=flat_get xs i y hx
   have h4:(enc y)[j]? =some u:=by simpa using h3
   rw[<-e,List.getElem?_take,if_pos hj,wP]at h4
   rw[Nat.zero_add]at h2
   exact g2 _ _ _ h2 h4
def actsD(g:Int)(b:List UInt8):List GAct:=[⟨2,⟨0,[]⟩⟩,⟨1,⟨g,b⟩⟩,⟨2,⟨0,[]⟩⟩]
theorem own_act0{H M:AH}{Bd m c:Nat}(h1:Bd<=m)(h2:M m=some ⟨[.int .i64 2, .int .i64 0, .slice none 0 0],true⟩)(hle:Le H M):
  OwnNQ.OwnN H Bd (.one (ols [(⟨2,⟨0,[]⟩⟩:GAct)])) (.slice (some ⟨m,0,some 3⟩) 1 c) M:=
 ⟨hle,_, .inl ⟨m,c,_,_,rfl,rfl,h1,h2,_,_,[],[none],rfl,rfl,⟨rfl,rfl⟩,_,_,[],[none],rfl,rfl,⟨rfl,rfl⟩,_,_,[none],[],rfl,rfl, .inr ⟨rfl,rfl,rfl,rfl⟩,rfl,rfl⟩,OV.nd_cons (fun i j m h=>by cases i <;>simp at h) (by simp)⟩
theorem oput_act0(H:AH)(n:Nat):oput H n (OEnc.oc [(⟨2,⟨0,[]⟩⟩:GAct)])=upd (upd H n (some ⟨[.int .i64 2, .int .i64 0, .slice (some ⟨n+1,0,some 1⟩) 0 1],true⟩)) (n+1) (some ⟨[],true⟩):=rfl
theorem num_act0:OV.numL (OEnc.oc [(⟨2,⟨0,[]⟩⟩:GAct)])=2:=rfl
def nextS(p:GSuper):GSuper:=⟨p.gen+1,p.root,0,p.theory,0,p.version,false,[],p.symbols⟩
theorem nextS_sm{p:GSuper}(h:sm p):sm (nextS p):=⟨trivial,trivial,trivial,trivial,trivial,trivial,trivial,⟨by simp[nextS],fun _ h=>by cases h⟩,h.2.2.2.2.2.2.2.2⟩
theorem keptP_len(d:GDisk)(p:GSuper):(vW d p).list.length<=20000:=by
 have hk:=keptL_len d p
 have hs:=yS (keptL d p)
 unfold vW
 repeat' split
 all_goals first|exact xT _|(show(vN (keptL d p)).length<=20000;omega)
theorem openS_more{d:GDisk}(h:(openS d).2=0):d.pending=[]/\(openS d).1.kept.length<=20000:=by
 obtain⟨q,_,_⟩:=openS_ok h
 unfold openS at*
 rw[if_neg (by simpa using q)]at h ⊢
 constructor
 ·have h1:=(scrD_ok h).1
  unfold jL at h1
  split at h1
  ·cases h1
  ·rename_i h2
   exact List.length_eq_zero_iff.1 (by omega)
 ·unfold scrD
  have:=keptP_len d (jL d).1
  repeat' split
  all_goals first|exact xT _|exact this
instance :OW GAct 1:=⟨fun x=>by simp only[go_sem]⟩
instance :MkD GAct:=⟨fun q x=>⟨q,⟨q+1,mkL UInt8 (q+1+1) x.put.bytes.length⟩⟩,fun x=>x.put.bytes.length+2⟩
theorem mkA_same:∀(q:Int) (xs:List GAct),mkDL q (mkDL q xs)=mkDL q xs/\kD (mkDL q xs)=kD xs
 |q,[]=>⟨rfl,rfl⟩
 |q,x::xs=>by
  obtain⟨h1,h2⟩:=mkA_same (q+(MkD.cnt x:Nat)) xs
  have hl:(mkL UInt8 (q+1+1) x.put.bytes.length).length=x.put.bytes.length:=mkL_len ..
  have e1:MkD.put q (MkD.put q x)=MkD.put q x:=by
   show(⟨q,⟨q+1,mkL UInt8 (q+1+1) (mkL UInt8 (q+1+1) x.put.bytes.length).length⟩⟩:GAct)=⟨q,⟨q+1,mkL UInt8 (q+1+1) x.put.bytes.length⟩⟩
   rw[hl]
  have e2:MkD.cnt (MkD.put q x)=MkD.cnt x:=by
   show(mkL UInt8 (q+1+1) x.put.bytes.length).length+2=x.put.bytes.length+2
   rw[hl]
  constructor
  ·show MkD.put q (MkD.put q x)::mkDL (q+(MkD.cnt (MkD.put q x):Nat)) (mkDL (q+(MkD.cnt x:Nat)) xs)=MkD.put q x::mkDL (q+(MkD.cnt x:Nat)) xs
   rw[e1,e2,h1]
  ·show((MkD.put q x::mkDL (q+(MkD.cnt x:Nat)) xs).map MkD.cnt).sum=((x::xs).map MkD.cnt).sum
   rw[List.map_cons,List.map_cons,List.sum_cons,List.sum_cons,e2]
   exact congrArg _ h2
theorem mkA_le:∀(q:Int) {xs:List GAct},(∀r∈xs,r.put.bytes.length<=1000000)->∀r∈mkDL q xs,r.put.bytes.length<=1000000
 |q,[],h,r,hr=>by cases hr
 |q,x::xs,h,r,hr=>by
  rcases wG.1 hr with rfl|hr
  ·show(mkL UInt8 (q+1+1) x.put.bytes.length).length<=1000000
   rw[mkL_len];exact h x (List.mem_cons_self ..)
  ·exact mkA_le _ (fun r hr=>h r (List.mem_cons_of_mem _ hr)) r hr
theorem cntA_le:∀ {xs:List GAct},(∀r∈xs,r.put.bytes.length<=1000000)->kD xs<=xs.length*1000002
 |[],h=>xC _
 |x::xs,h=>by
  have h1:=cntA_le fun r hr=>h r (List.mem_cons_of_mem x hr)
  have h2:=h x (List.mem_cons_self ..)
  show((x::xs).map MkD.cnt).sum<=_
  rw[List.map_cons,List.sum_cons,xJ,Nat.succ_mul]
  have h3:MkD.cnt x=x.put.bytes.length+2:=rfl
  have h4:(xs.map MkD.cnt).sum=kD xs:=rfl
  omega
theorem acts_sm{l:List GAct}(h:l.length<=100000)(h2:∀r∈l,r.put.bytes.length<=1000000):sm l:=⟨by omega,fun r hr=>⟨trivial,trivial,by have:=h2 r hr;omega,fun _ _=>trivial⟩⟩
def ActsOK(r:GActsResult):Prop:=r.acts.length<=100000/\∀a∈r.acts,a.put.bytes.length<=1000000
theorem acts_bad(e:Int):ActsOK ⟨e,[]⟩:=⟨xT _,fun r hr=>by cases hr⟩
theorem actsR_sm{r:GActsResult}(h:ActsOK r):sm r:=⟨trivial,acts_sm h.1 h.2⟩
theorem actsD_ok(g:Int){b:List UInt8}(h:b.length=96):ActsOK ⟨0,actsD g b⟩:=by
 refine⟨by show 3<=100000;omega,fun r hr=> ?_⟩
 simp only[actsD,wG,List.not_mem_nil,or_false]at hr
 rcases hr with rfl|rfl|rfl
 ·exact xT _
 ·show b.length<=1000000;omega
 ·exact xT _
theorem own_ares0{H M:AH}{Bd:Nat}{e:Int}(hle:Le H M):OwnNQ.OwnN H Bd (.agg (OEnc.oc (⟨e,[]⟩:GActsResult))) (.agg #[.int .i64 e, .slice none 0 0]) M:=
 ⟨hle,[none],⟨_,rfl,_,_,[],[none],rfl,rfl,⟨rfl,rfl⟩,_,[],[none],[],rfl,rfl, .inr ⟨rfl,rfl,rfl,rfl⟩,rfl,rfl⟩,fun i j m h=>by cases i <;>simp at h⟩
theorem own_acts{H M:AH}{Bd n m1 m2 c c1 c2 l2:Nat}{g:Int}{b:List UInt8}(h0:Bd<=n)(h1:Bd<=m1)(h2:Bd<=m2)(e1:n≠m1)(e2:n≠m2)(e3:m1≠m2)(hl:l2=b.length)
  (hn:M n=some ⟨[.int .i64 2, .int .i64 0, .slice (some ⟨m1,0,some 1⟩) 0 c1, .int .i64 1, .int .i64 g, .slice (some ⟨m2,0,some 1⟩) l2 c2, .int .i64 2, .int .i64 0, .slice none 0 0],true⟩) (hm1:M m1=some ⟨[],true⟩) (hm2:M m2=some ⟨qO b,true⟩) (hle:Le H M):
  OwnNQ.OwnN H Bd (.one (ols (actsD g b))) (.slice (some ⟨n,0,some 3⟩) 3 c) M:=by
 subst hl
 have hb:ocL b=(qO b).map OV.v:=ocL_fl b
 have A2:OV.At M Bd (ols b) (.slice (some ⟨m2,0,some 1⟩) b.length c2) [some m2]:=by
  refine .inl ⟨m2,c2,qO b,[],rfl,rfl,h2,hm2,?_⟩
  rw[hb]
  generalize qO b=l
  induction l with
  |nil=>exact⟨rfl,rfl⟩
  |cons v l ih=>exact⟨v,l,[],[],rfl,rfl,⟨rfl,rfl⟩,ih⟩
 have A1:OV.At M Bd (ols ([]:List UInt8)) (.slice (some ⟨m1,0,some 1⟩) 0 c1) [some m1]:= .inl ⟨m1,c1,[],[],rfl,rfl,h1,hm1,rfl,rfl⟩
 have A0:OV.At M Bd (ols ([]:List UInt8)) (.slice none 0 0) [none]:= .inr ⟨rfl,rfl,rfl,rfl⟩
 refine⟨hle,[some n,some m1,some m2,none], .inl ⟨n,c,_,[some m1,some m2,none],rfl,rfl,h0,hn,?_⟩,?_⟩
 ·exact⟨_,_,[],_,rfl,rfl,⟨rfl,rfl⟩,_,_,[],_,rfl,rfl,⟨rfl,rfl⟩,_,_,[some m1],[some m2,none],rfl,rfl,A1,_,_,[],_,rfl,rfl,⟨rfl,rfl⟩,_,_,[],_,rfl,rfl,⟨rfl,rfl⟩,_,_,[some m2],[none],rfl,rfl,A2,_,_,[],_,rfl,rfl,⟨rfl,rfl⟩,_,_,[],_,rfl,rfl,⟨rfl,rfl⟩,_,_,[none],[],rfl,rfl,A0,rfl,rfl⟩
 ·refine OV.nd_cons (OV.nd_cons (OV.nd_cons (fun i j m h=>by cases i <;>simp at h) (by simp)) (by simp;omega)) (by simp;omega)
def incG(p:GSuper):GSuper:=⟨p.gen+1,p.root,p.shadow,p.theory,p.next_,p.version,p.moving,p.cursor,p.symbols⟩
def finX(full:Bool)(p:GSuper):GActsResult:=if full=true then⟨7,[]⟩else⟨0,actsD (Int.tmod (p.gen+1) 2) (kW (incG p))⟩
theorem set_lsetA{cells:List Value}{i:Nat}{v w s:Value}(h:cells[i+2]? =some s):(cells.set i v).set (i+1) w=lset cells i [v,w,s]:=by
 show _=((cells.set i v).set (i+1) w).set (i+2) s
 refine List.ext_getElem? fun j=> ?_
 by_cases e:i+2=j
 ·subst e
  have hl:=(xR.1 h).1
  rw[wS (by omega),wS (by omega),h,List.getElem?_set_self (by simpa using hl)]
 ·rw[wS e]
def finS(p:GSuper):GSuper:=⟨p.gen,p.shadow,p.shadow,p.next_,p.next_,p.version+1,p.moving,p.cursor,p.symbols⟩
noncomputable def finR(d:GDisk):GActsResult:=
 if(kM d).code≠0 then⟨(kM d).code,[]⟩
 else if(kM d).super.moving=false then⟨8,[]⟩
 else if(yW (rowsI d (kM d).super.root) (kM d).super.cursor)≠[]then⟨2,[]⟩
 else if 60000<=(kM d).super.gen\/60000<=(kM d).super.version then⟨7,[]⟩
 else⟨0,actsD (Int.tmod ((kM d).super.gen+1) 2) (kW (nextS (finS (kM d).super)))⟩
theorem finS_ok{p:GSuper}(h:SuperOK p)(hm:p.moving=true)(hg:¬(60000<=p.gen\/60000<=p.version)):SuperOK (nextS (finS p)) where
 gen:=by
  have:=h.gen
  show 1<=p.gen+1/\p.gen+1<=60000
  omega
 ver:=by
  have:=h.ver
  show 1<=p.version+1/\p.version+1<=60000
  omega
 root:=h.shadow
 shadow:=by show(0:Int)<=0/\(0:Int)<=63;omega
 next_:=by show(0:Int)<=0/\(0:Int)<=63;omega
 theory:=by
  have:=h.next_
  have:=h.mov hm
  have:=h.pgs.2.2
  show 2<=p.next_/\p.next_<=63
  omega
 cur:=xT _
 sig:=h.sig
 mov:=fun e=>by cases e
 rest:=fun _=>⟨rfl,rfl,rfl⟩
 pgs:=⟨h.pgs.2.1, .inl rfl, .inl rfl⟩
theorem finR_ok(d:GDisk):ActsOK (finR d):=by
 unfold finR
 split
 ·exact acts_bad _
 ·rename_i h
  split
  ·exact acts_bad _
  ·rename_i hm
   split
   ·exact acts_bad _
   ·split
    ·exact acts_bad _
    ·rename_i h3
     have h:=Decidable.not_not.1 h
     obtain⟨hd,hs,hS⟩:=openS_ok ((openS_code d).trans h)
     rw[hs]at hS
     exact actsD_ok _ (packS_len (finS_ok hS (by simpa using hm) h3))
theorem cj{a b:Prop}(x:a)(y:b):a/\b:=⟨x,y⟩
theorem At.fld2{H:AH}{v:Value}{l:List Value}(h:At H v l){m:Nat}(hl:l.length=m){P:Program}{t f p o k:Nat}{a:Bool}[hf:TyF P t f p k a](ho:o+p<=m):vD P t (vadd v o) f=some (vadd v (o+p)):=by
 rcases h with⟨r,rfl⟩|⟨n,off,b,rfl,_⟩
 ·rw[vadd_vp,afldAddr_V,if_pos (by simp;omega),vadd_vp,List.drop_drop]
 ·show vD P t (.pointer (some ⟨n,off+o,none⟩)) f=some (.pointer (some ⟨n,off+(o+p),none⟩))
  rw[afldAddr_ptr,Nat.add_assoc]
theorem At.all{H:AH}{v:Value}{l:List Value}(h:At H v l)(m:Nat)(hl:l.length=m):
  anilck v=some v/\(∀(P:Program) (t f o k:Nat) (a:Bool) [TyF P t f o k a],o<=m->vD P t v f=some (vadd v o))
  /\(∀(P:Program) (t o k:Nat) (a:Bool) (z:Value) [TyZ P t k a z] (H':AH),o+k<=m->o<m->Le H H'->aloadV P t H' (vadd v o)=vX P t ⟨l.drop o,false⟩ 0)
  /\(∀(P:Program) (t k:Nat) (a:Bool) (z:Value) [TyZ P t k a z] (H':AH),k<=m->0<m->Le H H'->aloadV P t H' v=vX P t ⟨l,false⟩ 0)
  /\(∀(k:Nat) (H':AH),k<=m->Le H H'->qI H' k v=some (l.take k))
  /\(∀(k o:Nat) (H':AH),o+k<=m->Le H H'->qI H' k (vadd v o)=some ((l.drop o).take k))
  /\∀(P:Program) (t f p o k:Nat) (a:Bool) [TyF P t f p k a],o+p<=m->vD P t (vadd v o) f=some (vadd v (o+p)):=
 ⟨h.nil,fun _ _ _ _ _ _=>h.fldL hl,fun _ _ _ _ _ _ _ _=>h.ldL hl,fun _ _ _ _ _ _ _=>h.ld0L hl,fun _ _=>h.cellsL hl,fun _ _ _=>h.cellsOL hl,fun _ _ _ _ _ _ _ _=>h.fld2 hl⟩
theorem R0{P Q:Prop}(q:Q)(e:P=Q:=by conv=>lhs;simp (maxSteps:=2000000) (disch:=first|assumption|(refine vK ?_;assumption)|exact xB _ _|exact xC _|omega|(simp (disch:=first|exact xB _ _|omega) only[qL hb,Le_app hb,qU,qE hb,qG];done)|fail) only[go_sem,push_cast,qB,qA,qL hb,qE hb]):P:=e.mpr q
theorem R{F P Q:Prop}(f:F)(q:Q)(e:F->P=Q:=by intro F_;conv=>lhs;simp (maxSteps:=2000000) (disch:=first|assumption|(refine vK ?_;assumption)|exact xB _ _|exact xC _|omega|(simp (disch:=first|exact xB _ _|omega) only[qL hb,Le_app hb,qU,qE hb,qG];done)|fail) only[go_sem,push_cast,qB,qA,qL hb,qE hb,F_]):P:=(e f).mpr q
theorem RA0{P Q:Prop}(q:Q)(e:P=Q:=by conv=>lhs;simp (maxSteps:=2000000) (disch:=first|assumption|(refine vK ?_;assumption)|exact xB _ _|exact xC _|omega|(simp (disch:=first|exact xB _ _|omega) only[qL hb,Le_app hb,qU,qE hb,qG];done)|fail) only[go_sem,push_cast,qB,qA,qL hb,qE hb,zB,yK,HB.no hb]):P:=e.mpr q
theorem RA{F P Q:Prop}(f:F)(q:Q)(e:F->P=Q:=by intro F_;conv=>lhs;simp (maxSteps:=2000000) (disch:=first|assumption|(refine vK ?_;assumption)|exact xB _ _|exact xC _|omega|(simp (disch:=first|exact xB _ _|omega) only[qL hb,Le_app hb,qU,qE hb,qG];done)|fail) only[go_sem,push_cast,qB,qA,qL hb,qE hb,zB,yK,HB.no hb,F_]):P:=(e f).mpr q
theorem RL{F P Q:Prop}(f:F)(q:Q)(e:F->P=Q:=by intro F_;conv=>lhs;simp (maxSteps:=2000000) (disch:=first|assumption|(refine vK ?_;assumption)|exact xB _ _|exact xC _|omega|(simp (disch:=first|exact xB _ _|omega) only[qL hb,Le_app hb,qU,qE hb,qG];done)|fail) only[go_sem,push_cast,qB,qA,qL hb,qE hb,zB,yK,HB.no hb,take_lo,len_lo,F_]):P:=(e f).mpr q
theorem S0{P Q:Prop}(q:Q)(e:P=Q:=by conv=>lhs;simp (maxSteps:=2000000) (disch:=first|assumption|(refine vK ?_;assumption)|exact xB _ _|exact xC _|omega|(simp (disch:=first|assumption|exact xB _ _|omega) only[qL hb,Le_app hb,qA,qU,qE hb,qG];done)|fail) only[go_sem,push_cast,qB,qA,qL hb,qE hb]):P:=e.mpr q
theorem S{F P Q:Prop}(f:F)(q:Q)(e:F->P=Q:=by intro F_;conv=>lhs;simp (maxSteps:=2000000) (disch:=first|assumption|(refine vK ?_;assumption)|exact xB _ _|exact xC _|omega|(simp (disch:=first|assumption|exact xB _ _|omega) only[qL hb,Le_app hb,qA,qU,qE hb,qG];done)|fail) only[go_sem,push_cast,qB,qA,qL hb,qE hb,F_]):P:=(e f).mpr q
theorem SA0{P Q:Prop}(q:Q)(e:P=Q:=by conv=>lhs;simp (maxSteps:=2000000) (disch:=first|assumption|(refine vK ?_;assumption)|exact xB _ _|exact xC _|omega|(simp (disch:=first|assumption|exact xB _ _|omega) only[qL hb,Le_app hb,qA,qU,qE hb,qG];done)|fail) only[go_sem,push_cast,qB,qA,qL hb,qE hb,zB,yK,HB.no hb]):P:=e.mpr q
theorem SA{F P Q:Prop}(f:F)(q:Q)(e:F->P=Q:=by intro F_;conv=>lhs;simp (maxSteps:=2000000) (disch:=first|assumption|(refine vK ?_;assumption)|exact xB _ _|exact xC _|omega|(simp (disch:=first|assumption|exact xB _ _|omega) only[qL hb,Le_app hb,qA,qU,qE hb,qG];done)|fail) only[go_sem,push_cast,qB,qA,qL hb,qE hb,zB,yK,HB.no hb,F_]):P:=(e f).mpr q
def Cv{P:Program}(E:Env P)(PL:List (Nat×List Nat×List Stp×JT)):Prop:=∀ {N0:Nat} {c:Code} {Q:yY} {s:List Value} {H:AH} {Bd:Nat},kR PL c=true->vq E PL N0 c Q s H Bd->Tr P N0 c Q s H Bd
theorem jF{P:Program}(hP:POk P){E:Env P}{PL:List (Nat×List Nat×List Stp×JT)}{N0:Nat}{c:Code}{Q:yY}{s:List Value}{H:AH}{Bd:Nat}(h:Cv E PL->vq E PL N0 c Q s H Bd):vq E PL N0 c Q s H Bd:=h fun h1 h2=>vq_conv hP h1 h2
theorem enc_ij{α:Type}[Enc α]{x y:α}:(enc x=enc y)=(x=y):=propext ⟨enc_inj,fun h=>by rw[h]⟩
theorem ex1{α0:Type}{args:List Value}{f:α0->List Value}{B:α0->Prop}(a0:α0)(h0:args=f a0)(hf:∀x0,f a0=f x0->a0=x0:=by intro x0 e;simp only[xG,Value.agg.injEq,jD,enc_ij,xK,Value.bool.injEq,Value.string.injEq,lst_inj,u8_inj,true_and,and_true]at e;exact e):(∃x0,args=f x0/\B x0)=B a0:=by
 subst h0
 refine propext ⟨fun h=> ?_,fun h=>⟨a0,rfl,h⟩⟩
 obtain⟨x0,e,h⟩:=h
 obtain rfl:=hf x0 e
 exact h
theorem ex2{α0 α1:Type}{args:List Value}{f:α0->α1->List Value}{B:α0->α1->Prop}(a0:α0)(a1:α1)(h0:args=f a0 a1)(hf:∀x0 x1,f a0 a1=f x0 x1->a0=x0/\a1=x1:=by intro x0 x1 e;simp only[xG,Value.agg.injEq,jD,enc_ij,xK,Value.bool.injEq,Value.string.injEq,lst_inj,u8_inj,true_and,and_true]at e;exact e):(∃x0 x1,args=f x0 x1/\B x0 x1)=B a0 a1:=by
 subst h0
 refine propext ⟨fun h=> ?_,fun h=>⟨a0,a1,rfl,h⟩⟩
 obtain⟨x0,x1,e,h⟩:=h
 obtain⟨rfl,rfl⟩:=hf x0 x1 e
 exact h
theorem ex3{α0 α1 α2:Type}{args:List Value}{f:α0->α1->α2->List Value}{B:α0->α1->α2->Prop}(a0:α0)(a1:α1)(a2:α2)(h0:args=f a0 a1 a2)(hf:∀x0 x1 x2,f a0 a1 a2=f x0 x1 x2->a0=x0/\a1=x1/\a2=x2:=by intro x0 x1 x2 e;simp only[xG,Value.agg.injEq,jD,enc_ij,xK,Value.bool.injEq,Value.string.injEq,lst_inj,u8_inj,true_and,and_true]at e;exact e):(∃x0 x1 x2,args=f x0 x1 x2/\B x0 x1 x2)=B a0 a1 a2:=by
 subst h0
 refine propext ⟨fun h=> ?_,fun h=>⟨a0,a1,a2,rfl,h⟩⟩
 obtain⟨x0,x1,x2,e,h⟩:=h
 obtain⟨rfl,rfl,rfl⟩:=hf x0 x1 x2 e
 exact h
theorem ex4{α0 α1 α2 α3:Type}{args:List Value}{f:α0->α1->α2->α3->List Value}{B:α0->α1->α2->α3->Prop}(a0:α0)(a1:α1)(a2:α2)(a3:α3)(h0:args=f a0 a1 a2 a3)(hf:∀x0 x1 x2 x3,f a0 a1 a2 a3=f x0 x1 x2 x3->a0=x0/\a1=x1/\a2=x2/\a3=x3:=by intro x0 x1 x2 x3 e;simp only[xG,Value.agg.injEq,jD,enc_ij,xK,Value.bool.injEq,Value.string.injEq,lst_inj,u8_inj,true_and,and_true]at e;exact e):(∃x0 x1 x2 x3,args=f x0 x1 x2 x3/\B x0 x1 x2 x3)=B a0 a1 a2 a3:=by
 subst h0
 refine propext ⟨fun h=> ?_,fun h=>⟨a0,a1,a2,a3,rfl,h⟩⟩
 obtain⟨x0,x1,x2,x3,e,h⟩:=h
 obtain⟨rfl,rfl,rfl,rfl⟩:=hf x0 x1 x2 x3 e
 exact h
theorem ex5{α0 α1 α2 α3 α4:Type}{args:List Value}{f:α0->α1->α2->α3->α4->List Value}{B:α0->α1->α2->α3->α4->Prop}(a0:α0)(a1:α1)(a2:α2)(a3:α3)(a4:α4)(h0:args=f a0 a1 a2 a3 a4)(hf:∀x0 x1 x2 x3 x4,f a0 a1 a2 a3 a4=f x0 x1 x2 x3 x4->a0=x0/\a1=x1/\a2=x2/\a3=x3/\a4=x4:=by intro x0 x1 x2 x3 x4 e;simp only[xG,Value.agg.injEq,jD,enc_ij,xK,Value.bool.injEq,Value.string.injEq,lst_inj,u8_inj,true_and,and_true]at e;exact e):(∃x0 x1 x2 x3 x4,args=f x0 x1 x2 x3 x4/\B x0 x1 x2 x3 x4)=B a0 a1 a2 a3 a4:=by
 subst h0
 refine propext ⟨fun h=> ?_,fun h=>⟨a0,a1,a2,a3,a4,rfl,h⟩⟩
 obtain⟨x0,x1,x2,x3,x4,e,h⟩:=h
 obtain⟨rfl,rfl,rfl,rfl,rfl⟩:=hf x0 x1 x2 x3 x4 e
 exact h
theorem cant{P:Prop}(e:P:=by simp (disch:=first|assumption|omega|(simp (disch:=omega) only[qG,qE hb];done)|(simp (disch:=first|omega|(simp (disch:=omega) only[qG,qE hb];done)) only[go_sem,push_cast,qB,qA,qG,qE hb];done)|fail) only[go_sem,push_cast,qB,qA,qU,qL hb,qG,qE hb,qZ,qK,qT,jS,jH,jB,jT,jK,xL,xD,xJ,xZ,Nat.zero_add,List.take_zero,List.map_nil,wL,u8_flat,List.replicate_zero];all_goals (try simp only[xK,xY,true_and,and_true]) <;>all_goals (try(first|trivial|omega|grind))):P:=e
theorem canf{F P:Prop}(f:F)(e:F->P:=by intro F_;simp (disch:=first|assumption|omega|(simp (disch:=omega) only[qG,qE hb];done)|(simp (disch:=first|omega|(simp (disch:=omega) only[qG,qE hb];done)) only[go_sem,push_cast,qB,qA,qG,qE hb];done)|fail) only[go_sem,push_cast,qB,qA,qU,qL hb,qG,qE hb,qZ,qK,qT,jS,jH,jB,jT,jK,xL,xD,xJ,xZ,Nat.zero_add,List.take_zero,List.map_nil,wL,u8_flat,List.replicate_zero,F_];all_goals (try simp only[xK,xY,true_and,and_true]) <;>all_goals (try(first|trivial|omega|grind))):P:=e f
theorem jE{B0:Nat}{v:Value}(h:NB B0 v):∀(σ:List (Option Nat)) (N:Nat) (S:Nat->Prop) (H:AH),B0<=N->RQ σ N S H v v=True:=fun _ _ _ _ hle=>rq_nb h hle
theorem fnp{P:Program}(hP:POk P)(E:Env P)(PL:List (Nat×List Nat×List Stp×JT)){f:FuncId}{fn:Func}{c:Code}{args:List Value}{H:AH}{Bd:Nat}{K:Value->AH->Nat->Prop}{r0:Value}(hK:K r0 H Bd)(hf:P.funcs[f]? =some fn){m:Nat}(hm:fn.ntmps=m)(hent:Enters P f)(rs:List ResultVar)
  (h:HB H Bd->(∀v∈args,NB Bd v)->vq E PL Bd c (pureQ P rs H r0) (aS m undef (idx 0 args)) H Bd)
  (hb:fn.body=some c:=by rfl) (hrs:fn.results.toList=rs:=by rfl) (hm2:args.length<=m:=by simp) (hp:kR PL c=true:=by kernel_rfl)
  (hnb:(∀v∈args,NB Bd v)->HB H Bd->NB Bd r0:=by intro _ _;first|exact .int _ _|exact .bool _|exact .string _|exact lst_nb _ _|exact agg_nb _ _):SCalls P f args H Bd K:=yF hP E PL r0 hK hf hb hrs hm hm2 hent hp hnb h
abbrev z0 (n:Nat):Stp:=⟨n,[],[]⟩
abbrev Tq:=AH->Nat->(Value->AH->Nat->Prop)->Prop
theorem px1 {P:Value->Prop} (a:Value):(∃x,[a]=[x]/\P x)=P a:=propext ⟨fun ⟨x,e,h⟩=>by cases e;exact h,fun h=>⟨_,rfl,h⟩⟩
theorem px2 {P:Value->Value->Prop} (a b:Value):(∃x y,[a,b]=[x,y]/\P x y)=P a b:=propext ⟨fun ⟨x,y,e,h⟩=>by cases e;exact h,fun h=>⟨_,_,rfl,h⟩⟩
theorem px3 {P:Value->Value->Value->Prop} (a b c:Value):(∃x y z,[a,b,c]=[x,y,z]/\P x y z)=P a b c:=propext ⟨fun ⟨x,y,z,e,h⟩=>by cases e;exact h,fun h=>⟨_,_,_,rfl,h⟩⟩
theorem px4 {P:Value->Value->Value->Value->Prop} (a b c d:Value):(∃x y z u,[a,b,c,d]=[x,y,z,u]/\P x y z u)=P a b c d:=propext ⟨fun ⟨x,y,z,u,e,h⟩=>by cases e;exact h,fun h=>⟨_,_,_,_,rfl,h⟩⟩
theorem px5 {P:Value->Value->Value->Value->Value->Prop} (a b c d f:Value):(∃x y z u v,[a,b,c,d,f]=[x,y,z,u,v]/\P x y z u v)=P a b c d f:=propext ⟨fun ⟨x,y,z,u,v,e,h⟩=>by cases e;exact h,fun h=>⟨_,_,_,_,_,rfl,h⟩⟩
theorem dq {P:Prop} (h:P:=by first|assumption|(refine vK ?_;assumption)|exact Nat.le_add_right _ _|exact Nat.le_refl _|omega|(simp (disch:=first|exact Nat.le_add_right _ _|omega) only[qL hb,Le_app hb,qU,qE hb,qG];done)):P:=h
theorem cT {P:Prop} (h:P:=by (try simp only[Value.int.injEq,Value.slice.injEq,true_and,and_true]) <;>(first|trivial|omega|grind)):P:=h
theorem dp {P:Prop} (h:P:=by first|assumption|(refine vK ?_;assumption)|exact Nat.le_add_right _ _|exact Nat.le_refl _|omega|(simp (disch:=first|assumption|exact Nat.le_add_right _ _|omega) only[qL hb,Le_app hb,qA,qU,qE hb,qG];done)):P:=h
abbrev iv (n:Int):Value:=.int .i64 n
abbrev pt (n:Nat):Value:=.pointer (some ⟨n,0,none⟩)
abbrev sv (n k l c:Nat):Value:=.slice (some ⟨n,0,some k⟩) l c
abbrev sn:Value:=.slice none 0 0
abbrev uA {P:Program}:Env P:=Env.base P
abbrev Env.uB {P:Program} {f:FuncId} {W:qH} (E:Env P) (h:∀args H Bd K,W args H Bd K->SCalls P f args H Bd K):Env P:=E.add f W h
theorem cj3 {a0 a1 a2:Prop} (x0:a0) (x1:a1) (x2:a2):a0/\a1/\a2:=⟨x0,x1,x2⟩
theorem cj4 {a0 a1 a2 a3:Prop} (x0:a0) (x1:a1) (x2:a2) (x3:a3):a0/\a1/\a2/\a3:=⟨x0,x1,x2,x3⟩
theorem cj5 {a0 a1 a2 a3 a4:Prop} (x0:a0) (x1:a1) (x2:a2) (x3:a3) (x4:a4):a0/\a1/\a2/\a3/\a4:=⟨x0,x1,x2,x3,x4⟩
theorem cj6 {a0 a1 a2 a3 a4 a5:Prop} (x0:a0) (x1:a1) (x2:a2) (x3:a3) (x4:a4) (x5:a5):a0/\a1/\a2/\a3/\a4/\a5:=⟨x0,x1,x2,x3,x4,x5⟩
theorem cj7 {a0 a1 a2 a3 a4 a5 a6:Prop} (x0:a0) (x1:a1) (x2:a2) (x3:a3) (x4:a4) (x5:a5) (x6:a6):a0/\a1/\a2/\a3/\a4/\a5/\a6:=⟨x0,x1,x2,x3,x4,x5,x6⟩
theorem cj8 {a0 a1 a2 a3 a4 a5 a6 a7:Prop} (x0:a0) (x1:a1) (x2:a2) (x3:a3) (x4:a4) (x5:a5) (x6:a6) (x7:a7):a0/\a1/\a2/\a3/\a4/\a5/\a6/\a7:=⟨x0,x1,x2,x3,x4,x5,x6,x7⟩
theorem cj9 {a0 a1 a2 a3 a4 a5 a6 a7 a8:Prop} (x0:a0) (x1:a1) (x2:a2) (x3:a3) (x4:a4) (x5:a5) (x6:a6) (x7:a7) (x8:a8):a0/\a1/\a2/\a3/\a4/\a5/\a6/\a7/\a8:=⟨x0,x1,x2,x3,x4,x5,x6,x7,x8⟩
theorem cj10 {a0 a1 a2 a3 a4 a5 a6 a7 a8 a9:Prop} (x0:a0) (x1:a1) (x2:a2) (x3:a3) (x4:a4) (x5:a5) (x6:a6) (x7:a7) (x8:a8) (x9:a9):a0/\a1/\a2/\a3/\a4/\a5/\a6/\a7/\a8/\a9:=⟨x0,x1,x2,x3,x4,x5,x6,x7,x8,x9⟩
theorem cj11 {a0 a1 a2 a3 a4 a5 a6 a7 a8 a9 a10:Prop} (x0:a0) (x1:a1) (x2:a2) (x3:a3) (x4:a4) (x5:a5) (x6:a6) (x7:a7) (x8:a8) (x9:a9) (x10:a10):a0/\a1/\a2/\a3/\a4/\a5/\a6/\a7/\a8/\a9/\a10:=⟨x0,x1,x2,x3,x4,x5,x6,x7,x8,x9,x10⟩
theorem cj12 {a0 a1 a2 a3 a4 a5 a6 a7 a8 a9 a10 a11:Prop} (x0:a0) (x1:a1) (x2:a2) (x3:a3) (x4:a4) (x5:a5) (x6:a6) (x7:a7) (x8:a8) (x9:a9) (x10:a10) (x11:a11):a0/\a1/\a2/\a3/\a4/\a5/\a6/\a7/\a8/\a9/\a10/\a11:=⟨x0,x1,x2,x3,x4,x5,x6,x7,x8,x9,x10,x11⟩
theorem cj13 {a0 a1 a2 a3 a4 a5 a6 a7 a8 a9 a10 a11 a12:Prop} (x0:a0) (x1:a1) (x2:a2) (x3:a3) (x4:a4) (x5:a5) (x6:a6) (x7:a7) (x8:a8) (x9:a9) (x10:a10) (x11:a11) (x12:a12):a0/\a1/\a2/\a3/\a4/\a5/\a6/\a7/\a8/\a9/\a10/\a11/\a12:=⟨x0,x1,x2,x3,x4,x5,x6,x7,x8,x9,x10,x11,x12⟩
theorem cj14 {a0 a1 a2 a3 a4 a5 a6 a7 a8 a9 a10 a11 a12 a13:Prop} (x0:a0) (x1:a1) (x2:a2) (x3:a3) (x4:a4) (x5:a5) (x6:a6) (x7:a7) (x8:a8) (x9:a9) (x10:a10) (x11:a11) (x12:a12) (x13:a13):a0/\a1/\a2/\a3/\a4/\a5/\a6/\a7/\a8/\a9/\a10/\a11/\a12/\a13:=⟨x0,x1,x2,x3,x4,x5,x6,x7,x8,x9,x10,x11,x12,x13⟩
theorem cj15 {a0 a1 a2 a3 a4 a5 a6 a7 a8 a9 a10 a11 a12 a13 a14:Prop} (x0:a0) (x1:a1) (x2:a2) (x3:a3) (x4:a4) (x5:a5) (x6:a6) (x7:a7) (x8:a8) (x9:a9) (x10:a10) (x11:a11) (x12:a12) (x13:a13) (x14:a14):a0/\a1/\a2/\a3/\a4/\a5/\a6/\a7/\a8/\a9/\a10/\a11/\a12/\a13/\a14:=⟨x0,x1,x2,x3,x4,x5,x6,x7,x8,x9,x10,x11,x12,x13,x14⟩
theorem cj16 {a0 a1 a2 a3 a4 a5 a6 a7 a8 a9 a10 a11 a12 a13 a14 a15:Prop} (x0:a0) (x1:a1) (x2:a2) (x3:a3) (x4:a4) (x5:a5) (x6:a6) (x7:a7) (x8:a8) (x9:a9) (x10:a10) (x11:a11) (x12:a12) (x13:a13) (x14:a14) (x15:a15):a0/\a1/\a2/\a3/\a4/\a5/\a6/\a7/\a8/\a9/\a10/\a11/\a12/\a13/\a14/\a15:=⟨x0,x1,x2,x3,x4,x5,x6,x7,x8,x9,x10,x11,x12,x13,x14,x15⟩
theorem cj17 {a0 a1 a2 a3 a4 a5 a6 a7 a8 a9 a10 a11 a12 a13 a14 a15 a16:Prop} (x0:a0) (x1:a1) (x2:a2) (x3:a3) (x4:a4) (x5:a5) (x6:a6) (x7:a7) (x8:a8) (x9:a9) (x10:a10) (x11:a11) (x12:a12) (x13:a13) (x14:a14) (x15:a15) (x16:a16):a0/\a1/\a2/\a3/\a4/\a5/\a6/\a7/\a8/\a9/\a10/\a11/\a12/\a13/\a14/\a15/\a16:=⟨x0,x1,x2,x3,x4,x5,x6,x7,x8,x9,x10,x11,x12,x13,x14,x15,x16⟩
theorem cj18 {a0 a1 a2 a3 a4 a5 a6 a7 a8 a9 a10 a11 a12 a13 a14 a15 a16 a17:Prop} (x0:a0) (x1:a1) (x2:a2) (x3:a3) (x4:a4) (x5:a5) (x6:a6) (x7:a7) (x8:a8) (x9:a9) (x10:a10) (x11:a11) (x12:a12) (x13:a13) (x14:a14) (x15:a15) (x16:a16) (x17:a17):a0/\a1/\a2/\a3/\a4/\a5/\a6/\a7/\a8/\a9/\a10/\a11/\a12/\a13/\a14/\a15/\a16/\a17:=⟨x0,x1,x2,x3,x4,x5,x6,x7,x8,x9,x10,x11,x12,x13,x14,x15,x16,x17⟩
theorem cj19 {a0 a1 a2 a3 a4 a5 a6 a7 a8 a9 a10 a11 a12 a13 a14 a15 a16 a17 a18:Prop} (x0:a0) (x1:a1) (x2:a2) (x3:a3) (x4:a4) (x5:a5) (x6:a6) (x7:a7) (x8:a8) (x9:a9) (x10:a10) (x11:a11) (x12:a12) (x13:a13) (x14:a14) (x15:a15) (x16:a16) (x17:a17) (x18:a18):a0/\a1/\a2/\a3/\a4/\a5/\a6/\a7/\a8/\a9/\a10/\a11/\a12/\a13/\a14/\a15/\a16/\a17/\a18:=⟨x0,x1,x2,x3,x4,x5,x6,x7,x8,x9,x10,x11,x12,x13,x14,x15,x16,x17,x18⟩
theorem cj20 {a0 a1 a2 a3 a4 a5 a6 a7 a8 a9 a10 a11 a12 a13 a14 a15 a16 a17 a18 a19:Prop} (x0:a0) (x1:a1) (x2:a2) (x3:a3) (x4:a4) (x5:a5) (x6:a6) (x7:a7) (x8:a8) (x9:a9) (x10:a10) (x11:a11) (x12:a12) (x13:a13) (x14:a14) (x15:a15) (x16:a16) (x17:a17) (x18:a18) (x19:a19):a0/\a1/\a2/\a3/\a4/\a5/\a6/\a7/\a8/\a9/\a10/\a11/\a12/\a13/\a14/\a15/\a16/\a17/\a18/\a19:=⟨x0,x1,x2,x3,x4,x5,x6,x7,x8,x9,x10,x11,x12,x13,x14,x15,x16,x17,x18,x19⟩
def ιw(w:World):Ren:=⟨fun _=>none,fun B=>B<w.heap.size,fun _=>none⟩
class Opn (P:Program) (t:TypeId) (α:Type) [Enc α] [Sz α]:Prop where
 k:P.cellsOf t=Enc.k α
 b:1<=P.bytesOf t
 op:∀ {H:Type} (enc0:TypeId×Value->H) (w:World) (fuel:Nat) (cs:List Value) (x:DataW H×List MemPlace),DataW.trod enc0 P w 0 (fun _=>true) true fuel t cs=some x->
  (x.1.weights P t).all (· <=reachBytes)=true->∃a:α,LR (ιw w) w (enc a) cs/\sm a/\rg a
theorem opn_int{P:Program}{t:TypeId}(hu:P.underlying t=some (.int .i64))(hk:P.cellsOf t=1)(hb:1<=P.bytesOf t):Opn P t Int:=by
 refine⟨hk,hb,fun enc0 w fuel cs x h _=> ?_⟩
 obtain⟨n,rfl,rfl,hw⟩:=DataW.trod_int hu h
 refine⟨n, .cons (.int _ _) (.nil _ _),trivial,?_⟩
 simp[Lit.wf,IntKind.min,IntKind.max,IntKind.signed,IntKind.bits]at hw
 exact hw
theorem opn_byte{P:Program}{t:TypeId}(hu:P.underlying t=some (.int .u8))(hk:P.cellsOf t=1)(hb:1<=P.bytesOf t):Opn P t UInt8:=by
 refine⟨hk,hb,fun enc0 w fuel cs x h _=> ?_⟩
 obtain⟨n,rfl,rfl,hw⟩:=DataW.trod_int hu h
 have hr:0<=n/\n<256:=by
  simp[Lit.wf,IntKind.min,IntKind.max,IntKind.bits,IntKind.signed]at hw
  omega
 refine⟨UInt8.ofNat n.toNat, .cons ?_ (.nil _ _),trivial,trivial⟩
 have:((UInt8.ofNat n.toNat).toNat:Int)=n:=by
  simp;omega
 rw[this]
 exact .int _ _
theorem choose_list{α:Type}(p:Nat->α->Prop):∀n:Nat,(∀i,i<n->∃a,p i a)->∃l:List α,l.length=n/\∀(i:Nat) (a:α),l[i]? =some a->p i a
 |0,_=>⟨[],rfl,fun i a h=>by simp at h⟩
 |n+1,h=>by
  obtain⟨l,hl,hp⟩:=choose_list p n fun i hi=>h i (Nat.lt_succ_of_lt hi)
  obtain⟨a,ha⟩:=h n (Nat.lt_succ_self n)
  refine⟨l++[a],by simp[hl],fun i x hx=> ?_⟩
  rw[List.getElem?_append]at hx
  split at hx
  ·exact hp i x hx
  ·rename_i hge
   have:i-l.length=0:=by
    have:=(xR.1 hx).1
    simpa using this
   rw[this]at hx
   simp at hx
   subst hx
   rwa[show i=n by omega]
theorem weightsAll_mem{H:Type}{P:Program}{e:TypeId}:∀(l:List (DataW H)) (d:DataW H),d∈l->(DataW.weightsAll P e l).all (· <=reachBytes)=true->(d.weights P e).all (· <=reachBytes)=true
 |[],d,h,_=>by cases h
 |x::xs,d,h,hw=>by
  simp only[DataW.weightsAll,List.all_append,Bool.and_eq_true]at hw
  rcases wG.1 h with rfl|h
  ·exact hw.1
  ·exact weightsAll_mem xs d h hw.2
theorem opn_list{P:Program}{t e:TypeId}{α:Type}[Enc α][Sz α](he:Opn P e α)(hu:P.underlying t=some (.slice e))(hk:P.cellsOf t=1)(hb:1<=P.bytesOf t):Opn P t (List α):=by
 refine⟨hk,hb,fun{H} enc0 w fuel cs x h hw=> ?_⟩
 rcases DataW.trod_slice hu h with⟨rfl,rfl⟩|⟨a,len,cap,elems,rest,n,rfl,rfl,rfl,_,hlc,_,hel,hget,hrest,_⟩
 ·exact⟨[], .cons .lst0 (.nil _ _),⟨by simp,by simp⟩,by simp[rg,Sz.r]⟩
 ·simp only[DataW.weights,hu,List.all_cons,List.all_append,Bool.and_eq_true,decide_eq_true_eq,List.length_map]at hw
  obtain⟨hw1,hw2,hw3⟩:=hw
  have hb1:=he.b
  have hlen:elems.length<=281474976710656:=by
   have:elems.length*1<=(elems.length+rest.length)*P.bytesOf e:=Nat.mul_le_mul (by omega) hb1
   have:reachBytes<=281474976710656:=by decide
   omega
  have hstep:∀i,i<len->∃a0:α,∃csi,w.cells? 0 (a.add (i*P.cellsOf e)) (P.cellsOf e)=some csi/\LR (ιw w) w (enc a0) csi/\sm a0/\rg a0:=fun i hi=>by
   have h1:=hget i hi
   have hlt:i<elems.length:=by omega
   rw[xA hlt]at h1
   obtain⟨csi,h2,h3⟩:=Option.bind_eq_some_iff.1 h1
   obtain⟨a0,q1,q2⟩:=he.op enc0 w n csi _ h3 (weightsAll_mem _ _ (List.mem_map_of_mem (xH hlt)) hw2)
   exact⟨a0,csi,h2,q1,q2⟩
  obtain⟨xs,hxl,hx⟩:=choose_list _ len hstep
  refine⟨xs, .cons ?_ (.nil _ _),⟨by omega,fun y hy=> ?_⟩,fun y hy=> ?_⟩
  ·rcases Nat.eq_zero_or_pos len with hz|hp
   ·subst hz
    obtain rfl:=List.eq_nil_of_length_eq_zero hxl
    exact .lst0
   ·obtain⟨cs0,hc0,hl0,_⟩:=hx 0 (xs[0]'(by omega)) (by simp[hxl,hp])
    obtain⟨_,hcl,hcg⟩:=World.cells?_some hc0
    have hkpos:0<P.cellsOf e:=by rw[he.k];exact Enc.pos
    have hg0:=hcg 0 hkpos
    rw[xA (by omega)]at hg0
    simp only[Nat.zero_mul]at hg0
    have e0:∀a:Addr,a.add 0=a:=fun a=>by unfold Addr.add;rfl
    rw[e0,e0]at hg0
    obtain⟨B,base,sp⟩:=a
    have hsp:sp=none:=World.cell?_spot hg0
    subst hsp
    obtain⟨cs,e1,fr,hB⟩:∃cs e1 fr,w.heap[B]? =some (.cells cs e1 fr):=by
     unfold World.cell? at hg0
     split at hg0
     ·rename_i cs e1 fr hh
      exact⟨_,_,_,hh⟩
     ·cases hg0
    have hcell:∀i,i<cap->∃csi,w.cells? 0 (Addr.add ⟨B,base,none⟩ (i*P.cellsOf e)) (P.cellsOf e)=some csi:=fun i hi=>by
     rcases xM i len with h1|h1
     ·obtain⟨_,csi,h2,_⟩:=hstep i h1;exact⟨csi,h2⟩
     ·obtain⟨hr1,hr2⟩:=hrest rfl
      have h2:=hr2 (i-len) (by omega)
      rw[xA (by omega),show len+(i-len)=i by omega]at h2
      obtain⟨csi,h3,_⟩:=Option.bind_eq_some_iff.1 h2
      exact⟨csi,h3⟩
    have hat:∀i csi,w.cells? 0 (Addr.add ⟨B,base,none⟩ (i*P.cellsOf e)) (P.cellsOf e)=some csi->csi.length=P.cellsOf e/\∀j,j<P.cellsOf e->cs[base+i*P.cellsOf e+j]? =csi[j]? :=fun i csi hi=>by
     obtain⟨_,h1,h2⟩:=World.cells?_some hi
     refine⟨h1,fun j hj=> ?_⟩
     have:=h2 j hj
     rw[zD,zD,cell_of hB]at this
     exact this
    have hsz:base+cap*P.cellsOf e<=cs.size:=by
     obtain⟨csi,hi⟩:=hcell (cap-1) (by omega)
     obtain⟨h1,h2⟩:=hat _ _ hi
     have h3:=h2 (P.cellsOf e-1) (by omega)
     rw[xA (by omega)]at h3
     have h4:=(xS.1 h3).1
     have h5:(cap-1)*P.cellsOf e+P.cellsOf e=cap*P.cellsOf e:=by
      rw[<-Nat.succ_mul];congr 1;omega
     omega
    have hlst:=VR.lst (ι:=ιw w) (w:=w) (k:=Enc.k α) (rows:=((xs.map enc).map fun r=>Value.agg r.toArray).toArray) (base:=base) (c':=cap) (B:=B) (cs:=cs) (e:=e1) (fr:=fr)
     (by show B<w.heap.size;exact(xS.1 hB).1) hB (by simp;omega) (by rw[<-he.k];exact hsz) (fun i x hi=>by
      simp only[wJ,wN]at hi
      cases hq:xs[i]? with
      |none=>rw[hq]at hi;cases hi
      |some y=>
       rw[hq]at hi
       simp only[wK,xE]at hi
       exact⟨_,hi.symm,by simp[jN]⟩) (fun i j r v v' h1 h2 h3=>by
      simp only[wJ,wN]at h1
      cases hq:xs[i]? with
      |none=>rw[hq]at h1;cases h1
      |some y=>
       rw[hq]at h1
       simp only[wK,xE,Value.agg.injEq]at h1
       subst h1
       obtain⟨csi,q1,q2,_⟩:=hx i y hq
       obtain⟨g1,g2⟩:=hat i csi q1
       have hj:j<(enc y).length:=by
        have:=(xS.1 h2).1;simpa using this
       rw[jN,<-he.k]at hj
       have g3:=g2 j hj
       rw[he.k]at g3
       rw[g3]at h3
       exact q2.2 j v v' (by simpa using h2) h3)
    have hs:((xs.map enc).map fun r=>Value.agg r.toArray).toArray.size=len:=by simp[hxl]
    rw[hs]at hlst
    exact hlst
  ·obtain⟨i,hi,rfl⟩:=wO hy
   obtain⟨_,_,_,q,_⟩:=hx i xs[i] (by simp[hi])
   exact q
  ·obtain⟨i,hi,rfl⟩:=wO hy
   obtain⟨_,_,_,_,q⟩:=hx i xs[i] (by simp[hi])
   exact q
structure OpnL (P:Program) (fs:List Field) (o:Nat) (β:Type) [Enc β] [Sz β]:Prop where
 op:∀ {H:Type} (enc0:TypeId×Value->H) (w:World) (n:Nat) (cs:List Value) (xs:List (DataW H×List MemPlace)),xs.length=fs.length->
  (∀(i:Nat) (f:Field),fs[i]? =some f->DataW.trod enc0 P w 0 (fun _=>true) true n f.type ((cs.drop f.offset).take (P.cellsOf f.type))=xs[i]?)->
  (DataW.weightsEach P (fs.map (·.type)) (xs.map (·.1))).all (· <=reachBytes)=true->∃y:β,LR (ιw w) w (enc y) ((cs.drop o).take (Enc.k β))/\sm y/\rg y
theorem OpnL.one{P:Program}{f:Field}{o:Nat}{α:Type}[Enc α][Sz α](h:Opn P f.type α)(ho:f.offset=o):OpnL P [f] o α:=by
 refine⟨fun enc0 w n cs xs hl hx hw=> ?_⟩
 match xs,hl with
 |[x],_=>
  have:=hx 0 f rfl
  simp only[List.map_cons,List.map_nil,DataW.weightsEach,wL]at hw
  rw[<-ho,<-h.k]
  exact h.op enc0 w n _ x this hw
theorem OpnL.cons{P:Program}{f:Field}{fs:List Field}{o o':Nat}{α β:Type}[Enc α][Sz α][Enc β][Sz β](h:Opn P f.type α)(ho:f.offset=o)(ho':o'=o+Enc.k α)(hs:OpnL P fs o' β):OpnL P (f::fs) o (α×β):=by
 refine⟨fun enc0 w n cs xs hl hx hw=> ?_⟩
 match xs,hl with
 |x::xs,hl=>
  have h0:=hx 0 f rfl
  simp only[List.map_cons,DataW.weightsEach,List.all_append,Bool.and_eq_true]at hw
  obtain⟨a,q1,q2,q3⟩:=h.op enc0 w n _ x h0 hw.1
  obtain⟨b,p1,p2,p3⟩:=hs.op enc0 w n cs xs (by simpa using hl) (fun i g hg=>hx (i+1) g hg) hw.2
  refine⟨(a,b),?_,⟨q2,p2⟩,⟨q3,p3⟩⟩
  rw[ho,h.k]at q1
  have:(cs.drop o).take (Enc.k (α×β))=(cs.drop o).take (Enc.k α)++(cs.drop o').take (Enc.k β):=by
   show(cs.drop o).take (Enc.k α+Enc.k β)=_
   rw[List.take_add,List.drop_drop,ho']
  rw[this]
  exact q1.append p1
theorem opn_struct{P:Program}{t:TypeId}{fs:Array Field}{α β:Type}[Enc α][Sz α][Enc β][Sz β](f:α->β)(g:β->α)(hfg:∀y,f (g y)=y)(henc:∀x:α,enc x=enc (f x))(hsm:∀x:α,sm (f x)->sm x)(hrg:∀x:α,rg (f x)->rg x)
  (hu:P.underlying t=some (.struct fs)) (hk:P.cellsOf t=Enc.k α) (hk':Enc.k α=Enc.k β) (hb:1<=P.bytesOf t) (h:OpnL P fs.toList 0 β):Opn P t α:=by
 refine⟨hk,hb,fun enc0 w fuel cs x hx hw=> ?_⟩
 obtain⟨xs,n,_,rfl,hl,hxl,hg⟩:=DataW.trod_struct hu hx
 simp only[DataW.weights,hu]at hw
 obtain⟨y,q1,q2,q3⟩:=h.op enc0 w n cs xs (by simpa using hxl) (fun i f hf=>hg i f (by simpa using hf)) hw
 refine⟨g y,?_,hsm _ (by rw[hfg];exact q2),hrg _ (by rw[hfg];exact q3)⟩
 rw[henc,hfg]
 rw[List.drop_zero,xO (by rw[hl,hk,hk'];exact xC _)]at q1
 exact q1
def ιg(w:World)(G:Nat):Ren:=⟨fun n=>if n<G then some (.at n 0)else none,fun B=>B<w.heap.size,fun _=>none⟩
theorem law_calls_g{P:Program}{f:FuncId}{vals:List Value}{H0:AH}{G:Nat}(h:SCalls P f vals H0 G (fun r _ _=>r= .bool true))(w:World)(args:Array Value)(hv:SR (ιw w) w vals args)
  (hg:∀n b,H0 n=some b->n<G/\b.own=false/\∃cs e fr,w.heap[n]? =some (.cells cs e fr)/\cs.size=b.cells.length/\∀i v,b.cells[i]? =some v->∃v',cs[0+i]? =some v'/\VR (ιw w) w v v'):
  Calls P f args w fun e w'=>e= .returned (.bool true)/\(∀B:Nat,B<w.heap.size->w'.heap[B]? =w.heap[B]?)/\w'.os=w.os/\w'.output=w.output:=by
 have hx:Ext (ιw w) (ιg w G):=⟨fun _ _ h=>(by cases h),fun _ h=>h,fun _ _ h=>h⟩
 have hr:Rel (fun B=>w.heap.size<=B) (ιg w G) H0 G w:=by
  refine⟨fun n hn=>if_neg (by omega),fun n b hn=> ?_,fun n _ b _ _ _ _ _ _ h1 _ ho=> ?_,fun _ h=>h,fun n b _ _ h1 ho=> ?_,fun _ h=>h,fun n b hn _=> ?_,fun _ _ h=>(by cases h)⟩
  ·obtain⟨g1,g2,cs,e,fr,g3,g4,g5⟩:=hg n b hn
   refine .inr ⟨n,0,cs,e,fr,if_pos g1,g3,fun ho=>(by rw[g2]at ho;cases ho),fun _ hA=> ?_,fun i v hi=> ?_⟩
   ·have:=(xS.1 g3).1
    exact absurd this (Nat.not_lt.2 hA)
   ·obtain⟨v',k1,k2⟩:=g5 i v hi
    exact⟨v',k1,k2.mono hx (Fro.refl _ w)⟩
  ·have:=(hg n b h1).2.1;rw[ho]at this;cases this
  ·have:=(hg n b h1).2.1;rw[ho]at this;cases this
  ·obtain⟨g1,g2,cs,e,fr,g3,g4,g5⟩:=hg n b hn
   exact⟨if_pos g1,cs,e,fr,g3,g4⟩
 refine(h.2 _ (ιg w G) args w hr (hv.mono hx (Fro.refl _ w))).mono fun e w' ⟨v,r,ι',H',Bd',he,hp,_,_,hvr,hk,_,_⟩=> ?_
 subst hp
 cases hvr
 exact⟨he,fun B hB=>hk.block B hB (Nat.not_le.2 hB),hk.os,hk.output⟩
theorem law_calls{P:Program}{f:FuncId}{vals:List Value}(h:SCalls P f vals (fun _=>none) 0 (fun r _ _=>r= .bool true))(w:World)(args:Array Value)(hv:SR (ιw w) w vals args):
  Calls P f args w fun e w'=>e= .returned (.bool true)/\(∀B:Nat,B<w.heap.size->w'.heap[B]? =w.heap[B]?)/\w'.os=w.os/\w'.output=w.output:=
 law_calls_g h w args hv fun _ _ h=>by cases h
theorem kept_same{w w':World}(h:∀B:Nat,B<w.heap.size->w'.heap[B]? =w.heap[B]?)(ho:w'.os=w.os)(hp:w'.output=w.output)(may:MemPlace->Prop):w.keptBut w' may:=by
 refine⟨ho,hp,fun i hi=> ?_⟩
 rw[h i hi]
 cases hx:w.heap[i]? with
 |none=>rfl
 |some o=>cases o <;>first|exact⟨rfl,rfl,rfl,fun _ _=>rfl⟩|exact .inr ⟨rfl,rfl⟩|rfl
theorem trodAll_stays{H:Type}{enc0:TypeId×Value->H}{P:Program}{w w':World}(K:Kids P (· <P.types.size))(hsz:∀ {t e:TypeId},t<P.types.size->P.underlying t=some (.slice e)->0<P.cellsOf e)
  (hh:∀B:Nat,B<w.heap.size->w'.heap[B]? =w.heap[B]?) {sp:Nat->Bool} (hs:∀B,B<w.heap.size->sp B=true):
  ∀ {ts:List TypeId} {vs:List Value} {ds:List (DataW H)} {p:List MemPlace},(∀t∈ts,t<P.types.size)->DataW.TrodAll enc0 P w 0 (fun _=>true) true ts vs ds p->DataW.TrodAll enc0 P w' 0 sp true ts vs ds p
 |[],[],[],_,_,h=>h
 |t::ts,v::vs,d::ds,ps,ht,⟨p,q,⟨fuel,h1⟩,h2,e⟩=>by
  refine⟨p,q,⟨fuel,DataW.trod_stays K hsz (fun h=>by cases h) (ht t (by simp)) h1 (fun x hx=> ?_) (fun x hx=>hs _ ?_)⟩,trodAll_stays K hsz hh hs (fun t h=>ht t (by simp[h])) h2,e⟩
  ·have hb:=DataW.trod_lt _ _ _ _ h1 x hx
   cases x with
   |cell b off=>
    show w'.cell? _=w.cell? _
    unfold World.cell?
    rw[hh b hb]
   |map b=>exact hh b hb
  ·exact DataW.trod_lt _ _ _ _ h1 x hx
theorem vr_struct{P:Program}{ι:Ren}{w:World}{l:List Value}{v:Value}{r:Reach}{base:Nat}{t:TypeId}{fs:Array Field}(ht:P.underlying t=some (.struct fs))(hk:Value.okWide P w r base t v)(h:LR ι w l v.cells.toList):VR ι w (.agg l.toArray) v:=by
 obtain⟨cs,rfl,_⟩:=WideShapes.okWide_struct ht hk
 exact h.agg
theorem sr_cons{ι:Ren}{w:World}{u v:Value}{us vs:List Value}(h:VR ι w u v)(hs:SR ι w us vs.toArray):SR ι w (u::us) (v::vs).toArray:=by
 refine⟨by have:=hs.1;simp at this ⊢;omega,fun i x y h1 h2=> ?_⟩
 cases i with
 |zero=>simp at h1 h2;subst h1;subst h2;exact h
 |succ i=>exact hs.2 i x y (by simpa using h1) (by simpa using h2)
theorem sr_nil{ι:Ren}{w:World}:SR ι w [] (#[]:Array Value):=⟨rfl,fun i x y h1 _=>by simp at h1⟩
theorem handed_and_shaped{H:Type}{enc:TypeId×Value->H}{a:Assume}{C:Checked}{os:Os}{f:FuncId}{fn:Func}{s:ChangeSpec}{conds:List PathCond}{apart fresh handsOn again:Bool}{X:World->Array Value->Prop}
  (hX:∀(w w':World) (args:Array Value),w.heap=w'.heap->X w args->X w' args)
  (own:ownKnob C.prog.godebug=none) (started:os.Started) (noInit:C.prog.inits.idxOf? f=none) (hfn:C.prog.funcs[f]? =some fn)
  (witness:∃(w:World) (tape:Tape) (i:Input),w.os=os/\(w.forCall tape i).Shaped C.prog/\i.vars=[]/\Input.okWide C.prog (w.forCall tape i) .any w.heap.size f i/\
   ((s.pre enc C.prog fn conds apart (w.forCall tape i).memory i.args/\X (w.forCall tape i).memory i.args)/\sizedMet enc C.prog fn (OpenSpec.ofChange s) apart (w.forCall tape i).memory i.args)/\a.holds C.prog (lone (Frame.enter C.prog f i.args .normal) [] (w.forCall tape i)))
  (contract:∀(W:World) (base:Nat) (args:Array Value) (ds gs:List (DataW H)) (before:List MemPlace),
   (∀(j:Nat) t v,fn.params[j]? =some t->args[j]? =some v->Value.okWide C.prog W .any base t v)->
   DataW.Whole enc C.prog fn.params.toList s.vars apart W args.toList ds gs before->
   conds.all (PathCond.test C.prog ⟨fn.params.toList,ds,s.plain.varTypes C.prog,gs⟩)=true->
   (DataW.weightsEach C.prog (fn.params.toList++s.plain.varTypes C.prog) (ds++gs)).all (· <=reachBytes)=true->X W args->W.ShapedOpen C.prog->
   Calls C.prog f args W fun e W'=>∃v,e= .returned v/\s.post enc C.prog fn apart fresh handsOn again W args v W'):
  ReturnsInHanded a C os f .any (fun w args=>(s.pre enc C.prog fn conds apart w args/\X w args)/\sizedMet enc C.prog fn (OpenSpec.ofChange s) apart w args) (s.post enc C.prog fn apart fresh handsOn again):=by
 refine returnsInHanded_of_calls own started noInit witness fun w tape i _ hsh _ hok hpre _=> ?_
 obtain⟨_,_,_,fn',hfn',_,_,_,_,hval⟩:=hok
 obtain rfl:fn'=fn:=Option.some.inj (hfn'.symm.trans hfn)
 obtain⟨⟨⟨ds,gs,before,hw,hc⟩,hx⟩,hz⟩:=hpre
 refine(contract (w.forCall tape i) w.heap.size i.args ds gs before hval (DataW.Whole.of_heap (w':=w.forCall tape i) (by rfl) hw) hc (hz.weights hw) (hX _ _ _ (by rfl) hx) hsh).mono fun e W' ⟨v,he,hp⟩=> ?_
 subst he
 exact ChangeSpec.post_blind hp
end Go.SC
