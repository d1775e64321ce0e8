/- Loops over own lists that keep their names: a state is named anew, and lists that are finished are published, at the end of each round. -/
import Derived.Test.YthoahlghegcfnaaGreatDoorLfCore3
import Derived.Lib.LaidTab
import Derived.ChangeArms
import Derived.ChangeStays
import Derived.SizedLaws
import Derived.ChangeSame
import Derived.ChangeOld
import Derived.OpenShut
import Derived.Handed
set_option linter.unusedSimpArgs false
set_option linter.unusedVariables false
namespace Go.SC
open Go
inductive RQ (σ:List (Option Nat)) (N:Nat) (S:Nat→Prop) (H:AH):Value→Value→Prop
 |same {v:Value} (h:NB N v):RQ σ N S H v v
 |pub {v u:Value} (hp:Pub H S u v) (h:NB N v):RQ σ N S H v u
 |sl {i m off k len c:Nat} (h:σ[i]? =some (some m)):RQ σ N S H (.slice (some ⟨N+i,off,some k⟩) len (len+1)) (.slice (some ⟨m,off,some k⟩) len c)
 |ptr {i m off:Nat} (h:σ[i]? =some (some m)):RQ σ N S H (.pointer (some ⟨N+i,off,none⟩)) (.pointer (some ⟨m,off,none⟩))
 |nil {i k:Nat} (h:σ[i]? =some none):RQ σ N S H (.slice (some ⟨N+i,0,some k⟩) 0 1) (.slice none 0 0)
 |agg {xs ys:Array Value} (hs:xs.size=ys.size) (h:∀(i:Nat) v u,xs[i]? =some v→ys[i]? =some u→RQ σ N S H v u):RQ σ N S H (.agg xs) (.agg ys)
 |tuple {xs ys:Array Value} (hs:xs.size=ys.size) (h:∀(i:Nat) v u,xs[i]? =some v→ys[i]? =some u→RQ σ N S H v u):RQ σ N S H (.tuple xs) (.tuple ys)
theorem NB.up{B B':Nat}(hle:B≤B'){v:Value}(h:NB B v):NB B' v:=by
 induction h with
 |unk=>exact .unk
 |bool b=>exact .bool b
 |int k n=>exact .int k n
 |string s=>exact .string s
 |nilp=>exact .nilp
 |ptr h=>exact .ptr (Nat.lt_of_lt_of_le h hle)
 |nils=>exact .nils
 |sl h=>exact .sl (Nat.lt_of_lt_of_le h hle)
 |agg _ ih=>exact .agg ih
 |tuple _ ih=>exact .tuple ih
 |func _ ih=>exact .func ih
 |nilf=>exact .nilf
 |nili=>exact .nili
 |iface _ ih=>exact .iface ih
 |lst _ ih=>exact .lst ih
 |vp _ ih=>exact .vp ih
 |mp=>exact .mp
theorem VR.rq{A:Nat→Prop}{ι:Ren}{H:AH}{Bd:Nat}{w:World}(hr:Rel A ι H Bd w){σ:List (Option Nat)}{N:Nat}{S:Nat→Prop}{v u:Value}(hq:RQ σ N S H v u):∀ {x:Value},VR ι w u x→VR (rnR (frz ι H S) N σ) w v x:=by
 have hcl:∀ {v x:Value},NB N v→VR (frz ι H S) w v x→VR (rnR (frz ι H S) N σ) w v x:=fun hn hx=>VR.rn (.same hn) hx
 have hup:∀ {v x:Value},VR ι w v x→VR (frz ι H S) w v x:=fun hx=>hx.mono (ext_frz ι H S) (Fro.refl ι w)
 induction hq with
 |same h=>exact fun hx=>hcl h (hup hx)
 |pub hp h=>exact fun hx=>hcl h (VR.pub hr hp hx)
 |sl h=>exact fun hx=>VR.rn (.sl h) (hup hx)
 |ptr h=>
  intro x hx
  cases hx with
  |ptr h1=>exact .ptr ((rnR_add h).trans h1)
 |nil h=>exact fun hx=>VR.rn (.nil h) (hup hx)
 |agg hs _ ih=>
  intro x hx
  rename_i xs ys _
  cases hx with
  |agg hs2 h2=>
   refine .agg (hs.trans hs2) fun i v u h3 h4=> ?_
   have hi:=(Array.getElem?_eq_some_iff.1 h3).1
   exact ih i v (ys[i]'(by omega)) h3 (Array.getElem?_eq_getElem (by omega)) (h2 i _ u (Array.getElem?_eq_getElem (by omega)) h4)
 |tuple hs _ ih=>
  intro x hx
  rename_i xs ys _
  cases hx with
  |tuple hs2 h2=>
   refine .tuple (hs.trans hs2) fun i v u h3 h4=> ?_
   have hi:=(Array.getElem?_eq_some_iff.1 h3).1
   exact ih i v (ys[i]'(by omega)) h3 (Array.getElem?_eq_getElem (by omega)) (h2 i _ u (Array.getElem?_eq_getElem (by omega)) h4)
def ntin(n:Nat):List (Option Nat)→Prop
 |[]=>True
 |some m::r=>m≠n∧ntin n r
 |none::r=>ntin n r
theorem ntin_spec{n:Nat}:∀ {σ:List (Option Nat)},ntin n σ→∀i:Nat,σ[i]? ≠some (some n)
 |[],_,i=>by simp
 |some m::r,h,0=>fun e=>by simp only[List.getElem?_cons_zero,Option.some.injEq]at e;exact h.1 e
 |none::r,h,0=>fun e=>by simp at e
 |some m::r,h,i+1=>fun e=>by rw[List.getElem?_cons_succ]at e;exact ntin_spec h.2 i e
 |none::r,h,i+1=>fun e=>by rw[List.getElem?_cons_succ]at e;exact ntin_spec (σ:=r) h i e
def rql(σ:List (Option Nat))(N:Nat)(S:Nat→Prop)(H:AH)(xs ys:List Value):Prop:=xs.length=ys.length∧∀(i:Nat) v u,xs[i]? =some v→ys[i]? =some u→RQ σ N S H v u
def gone(C:AH)(σ:List (Option Nat))(n:Nat):Prop:=C n=none∧ntin n σ
structure Can (N:Nat) (σ:List (Option Nat)) (s:List Value) (H:AH) (sc:List Value) (C:AH):Prop where
 len:s.length=sc.length
 slot:∀(i:Nat) v u,sc[i]? =some v→s[i]? =some u→v=unk∨RQ σ N (gone C σ) H v u
 low:∀n b,n<N→C n=some b→∃b',H n=some b'∧b'.own=b.own∧rql σ N (gone C σ) H b.cells b'.cells
 high:∀n b,N≤n→C n=some b→b.own=true∧((σ[n-N]? =some none∧b.cells=[])∨∃m b',σ[n-N]? =some (some m)∧H m=some b'∧b'.own=true∧rql σ N (gone C σ) H b.cells b'.cells)
 out:∀(i m:Nat),σ[i]? =some (some m)→N≤m∨C m=none
 nodup:∀(i j m:Nat),σ[i]? =some (some m)→σ[j]? =some (some m)→i=j
theorem Can.rel{N:Nat}{σ:List (Option Nat)}{s:List Value}{H:AH}{sc:List Value}{C:AH}(hc:Can N σ s H sc C){A:Nat→Prop}{ι:Ren}{Bd:Nat}{w:World}(hrel:Rel A ι H Bd w):
  Rel A (rnR (frz ι H (gone C σ)) N σ) C (N+σ.length) w:=by
 have hrq:∀ {v u x:Value},RQ σ N (gone C σ) H v u→VR ι w u x→VR (rnR (frz ι H (gone C σ)) N σ) w v x:=fun hq hx=>VR.rq hrel hq hx
 have hge:∀n,¬n<N→∃i,n=N+i:=fun n hn=>⟨n-N,by omega⟩
 have hfm:∀n,(frz ι H (gone C σ)) n=ι n:=fun n=>rfl
 have hold:∀ {n b},C n=some b→(∃m b',(rnR (frz ι H (gone C σ)) N σ) n=ι m∧H m=some b'∧b'.own=b.own∧rql σ N (gone C σ) H b.cells b'.cells∧¬gone C σ m∧((n<N∧m=n)∨(N≤n∧σ[n-N]? =some (some m))))∨((rnR (frz ι H (gone C σ)) N σ) n=some .void∧b.cells=[]∧b.own=true∧N≤n):=fun{n b} hn=>by
  rcases Nat.lt_or_ge n N with hlt|hge'
  ·obtain⟨b',h1,h2,h3⟩:=hc.low n b hlt hn
   exact .inl ⟨n,b',rnR_lt hlt,h1,h2,h3,fun h=>(by rw[h.1]at hn;cases hn), .inl ⟨hlt,rfl⟩⟩
  ·obtain⟨i,rfl⟩:=hge n (by omega)
   obtain⟨ho,h⟩:=hc.high _ b hge' hn
   rw[Nat.add_sub_cancel_left]at h
   rcases h with⟨h1,h2⟩|⟨m,b',h1,h2,h3,h4⟩
   ·exact .inr ⟨rnR_void h1,h2,ho,hge'⟩
   ·exact .inl ⟨m,b',rnR_add h1,h2,h3.trans ho.symm,h4,fun h=>ntin_spec h.2 i h1, .inr ⟨hge',by rw[Nat.add_sub_cancel_left];exact h1⟩⟩
 have hne:∀ {n n' m m':Nat} {b b':Blk},C n=some b→C n'=some b'→n≠n'→((n<N∧m=n)∨(N≤n∧σ[n-N]? =some (some m)))→((n'<N∧m'=n')∨(N≤n'∧σ[n'-N]? =some (some m')))→m≠m':=fun{n n' m m' b b'} hn hn' hd h1 h2 e=>by
  subst e
  rcases h1 with⟨a1,rfl⟩|⟨a1,a2⟩ <;>rcases h2 with⟨b1,b2⟩|⟨b1,b2⟩
  ·exact hd b2
  ·rcases hc.out _ _ b2 with h|h
   ·omega
   ·rw[hn]at h;cases h
  ·subst b2
   rcases hc.out _ _ a2 with h|h
   ·omega
   ·rw[hn']at h;cases h
  ·have:=hc.nodup _ _ _ a2 b2
   omega
 refine⟨fun n hn=> ?_,fun n b hn=> ?_,fun n m b b' B base B' base' hd h1 h2 ho i1 i2=> ?_,hrel.newA,fun n b B base h1 ho i1=> ?_,fun B hB=> ?_,fun n b hn hq=> ?_,hrel.mp⟩
 ·obtain⟨i,rfl⟩:=hge n (by omega)
  have:σ[i]? =none:=List.getElem?_eq_none (by omega)
  show(if N+i<N then _ else _)=_
  rw[if_neg (by omega),Nat.add_sub_cancel_left,this]
 ·rcases hold hn with⟨m,b',g0,g1,g2,g3,g4,g5⟩|⟨g1,g2,g3,g4⟩
  ·rcases hrel.blk m b' g1 with⟨hv,hcn⟩|⟨B,base,cs,e1,fr,k1,k2,k3,k4,k5⟩
   ·refine .inl ⟨g0.trans hv,?_⟩
    have:=g3.1
    rw[hcn]at this
    exact List.eq_nil_of_length_eq_zero this
   ·refine .inr ⟨B,base,cs,e1,fr,g0.trans k1,k2,fun h=>k3 (g2.trans h),fun h=>k4 (g2.trans h),fun j v hv=> ?_⟩
    have hj:j<b'.cells.length:=g3.1▸(List.getElem?_eq_some_iff.1 hv).1
    obtain⟨v',l1,l2⟩:=k5 j (b'.cells[j]'(by omega)) (List.getElem?_eq_getElem (by omega))
    exact⟨v',l1,hrq (g3.2 j v _ hv (List.getElem?_eq_getElem (by omega))) l2⟩
  ·exact .inl ⟨g1,g2⟩
 ·rcases hold h1 with⟨p,c1,g0,g1,g2,g3,g4,g5⟩|⟨g1,_⟩
  ·rcases hold h2 with⟨q,c2,k0,k1,k2,k3,k4,k5⟩|⟨k1,_⟩
   ·rw[g0]at i1;rw[k0]at i2
    exact hrel.apart p q c1 c2 B base B' base' (hne h1 h2 hd g5 k5) g1 k1 (g2.trans ho) i1 i2
   ·rw[k1]at i2;cases i2
  ·rw[g1]at i1;cases i1
 ·rcases hold h1 with⟨p,c1,g0,g1,g2,g3,g4,g5⟩|⟨g1,_⟩
  ·rw[g0]at i1
   rintro(hf|⟨n',b',base',q1,q2,q3,q4⟩)
   ·exact hrel.froz p c1 B base g1 (g2.trans ho) i1 hf
   ·by_cases e:n'=p
    ·subst e;exact g4 q1
    ·exact hrel.apart n' p b' c1 B base' B base e q2 g1 q3 q4 i1 rfl
  ·rw[g1]at i1;cases i1
 ·rcases hB with hf|⟨n',b',base',q1,q2,q3,q4⟩
  ·exact hrel.fzlt B hf
  ·rcases hrel.blk n' b' q2 with⟨hv,_⟩|⟨B2,base2,cs,e1,fr,k1,k2,_⟩
   ·rw[hv]at q4;cases q4
   ·rw[k1]at q4;cases q4
    exact(Array.getElem?_eq_some_iff.1 k2).1
 ·rcases hold hn with⟨p,c1,g0,g1,g2,g3,g4,g5⟩|⟨_,_,g3,_⟩
  ·rcases g5 with⟨hlt,rfl⟩|⟨hge',hs⟩
   ·obtain⟨q1,q2⟩:=hrel.glob p c1 g1 (g2.trans hq)
    exact⟨g0.trans q1,by rw[g3.1];exact q2⟩
   ·have:=(hc.high n b hge' hn).1
    rw[hq]at this;cases this
  ·rw[hq]at g3;cases g3
theorem Can.st{N:Nat}{σ:List (Option Nat)}{s:List Value}{H:AH}{sc:List Value}{C:AH}(hc:Can N σ s H sc C){A:Nat→Prop}{ι:Ren}{Bd:Nat}{a:Act}{w:World}(hst:St A ι s H Bd a w):
  St A (rnR (frz ι H (gone C σ)) N σ) sc C (N+σ.length) a w:=by
 refine⟨hc.rel hst.rel,⟨by rw[←hc.len];exact hst.slots.1,fun i v v' g1 g2=> ?_⟩,hst.defers⟩
 have hlt:i<s.length:=by have:=(List.getElem?_eq_some_iff.1 g1).1;have:=hc.len;omega
 rcases hc.slot i v s[i] g1 (List.getElem?_eq_getElem hlt)with rfl|hp
 ·exact .unk _
 ·exact VR.rq hst.rel hp (hst.slots.2 i _ v' (List.getElem?_eq_getElem hlt) g2)
theorem Can.ni{N:Nat}{σ:List (Option Nat)}{s:List Value}{H:AH}{sc:List Value}{C:AH}(hc:Can N σ s H sc C):NI H C:=fun n b hn ho=>by
 rcases Nat.lt_or_ge n N with hlt|hge
 ·obtain⟨b',h1,h2,h3⟩:=hc.low n b hlt hn
  exact⟨b',h1,h2.trans ho⟩
 ·have:=(hc.high n b hge hn).1
  rw[ho]at this;cases this
theorem Keep.rn{A:Nat→Prop}{ι ι':Ren}{w w':World}{N:Nat}{σ:List (Option Nat)}(k:Keep A ι w ι' w'):Keep A ι w (rnR ι' N σ) w':=⟨k.os,k.tape,k.output,k.size,k.block,k.rows,k.fz,k.fzA⟩
theorem Can.tr{P:Program}{N0:Nat}{c:Code}{Q:kA}{N:Nat}{σ:List (Option Nat)}{s:List Value}{H:AH}{Bd:Nat}{sc:List Value}{C:AH}(hN:N0≤N)(hc:Can N σ s H sc C)(h:Tr P N0 c Q sc C (N+σ.length)):Tr P N0 c Q s H Bd:=by
 intro hB A ι a w hst
 refine wp_mono (h (by omega) A _ a w (hc.st hst)) fun e a' w' ⟨ι',s2,H2,Bd2,g1,g2,g3,g4,g5,g6⟩=> ?_
 refine⟨ι',s2,H2,Bd2,g1,g2,g3,(Keep.rn (Keep.refl A w (ext_frz ι H _).fz (hst.rel.frzA _))).trans g4,fun n hn=> ?_,NI.trans hc.ni g6⟩
 rw[g5 n hn,rnR_lt (by omega)];rfl
inductive Pth
 |s (t:Nat)
 |m (n i:Nat)
def nmV:Value→Option Nat
 | .slice (some a) _ _=>some a.block
 | .pointer (some a)=>some a.block
 |_=>none
def cellV(b:Option Blk)(i:Nat):Value:=match b with|some b=>(b.cells[i]?).getD unk|none=>unk
def srcs:List Pth→List Value→AH→List (Option Nat)
 |[],_,_=>[]
 | .s t::r,s,H=>nmV (sget s t)::srcs r s H
 | .m n i::r,s,H=>nmV (cellV (H n) i)::srcs r s H
theorem srcs_len(s:List Value)(H:AH):∀ps,(srcs ps s H).length=ps.length
 |[]=>rfl
 | .s t::r=>congrArg Nat.succ (srcs_len s H r)
 | .m n i::r=>congrArg Nat.succ (srcs_len s H r)
def mem(H:AH):List (Nat×Blk)→AH
 |[]=>H
 |(n,b)::r=>upd (mem H r) n (some b)
def ninM(n:Nat):List (Nat×Blk)→Prop
 |[]=>True
 |(m,_)::r=>m≠n∧ninM n r
theorem ninM_spec{H:AH}{n:Nat}(h:H n=none):∀ {l},ninM n l→mem H l n=none
 |[],_=>h
 |(m,b)::r,q=>by
  show upd (mem H r) m (some b) n=none
  rw[qF _ _ (fun e=>q.1 e.symm)];exact ninM_spec h q.2
def goneL(H0:AH)(ml:List (Nat×Blk))(σ:List (Option Nat))(n:Nat):Prop:=free H0 n∧ninM n ml∧ntin n σ
theorem goneL_spec{H0:AH}{ml:List (Nat×Blk)}{σ:List (Option Nat)}{n:Nat}(h:goneL H0 ml σ n):gone (mem H0 ml) σ n:=⟨ninM_spec h.1 h.2.1,h.2.2⟩
def FitQ(σ:List (Option Nat))(N:Nat)(S:Nat→Prop)(H:AH)(s:List Value):List (Nat×Value)→Prop
 |[]=>True
 |(i,v)::l=>RQ σ N S H v (sget s i)∧FitQ σ N S H s l
def lowQ(σ:List (Option Nat))(N:Nat)(S:Nat→Prop)(H:AH)(o:Bool)(cs:List Value):Option Blk→Prop
 |some b=>b.own=o∧rql σ N S H cs b.cells
 |none=>False
def hiQ(σ:List (Option Nat))(N:Nat)(S:Nat→Prop)(H:AH)(cs:List Value):Option (Option Nat)→Prop
 |some (some m)=>lowQ σ N S H true cs (H m)
 |some none=>cs=[]
 |none=>False
def blkQ(σ:List (Option Nat))(N:Nat)(S:Nat→Prop)(H:AH)(n:Nat)(b:Blk):Prop:=
 (n<N∧lowQ σ N S H b.own b.cells (H n))∨(N≤n∧b.own=true∧hiQ σ N S H b.cells σ[n-N]?)
def memQ(σ:List (Option Nat))(N:Nat)(S:Nat→Prop)(H:AH):List (Nat×Blk)→Prop
 |[]=>True
 |(n,b)::r=>blkQ σ N S H n b∧memQ σ N S H r
def sgQ(N:Nat)(H0:AH)(ml:List (Nat×Blk)):List (Option Nat)→Prop
 |[]=>True
 |some m::r=>(N≤m∨(free H0 m∧ninM m ml))∧ntin m r∧sgQ N H0 ml r
 |none::r=>sgQ N H0 ml r
def CanS(N:Nat)(σ:List (Option Nat))(s:List Value)(H:AH)(l:List (Nat×Value))(H0:AH)(ml:List (Nat×Blk)):Prop:=
 sgQ N H0 ml σ∧FitQ σ N (goneL H0 ml σ) H s l∧memQ σ N (goneL H0 ml σ) H ml
def CanT(N:Nat)(ps:List Pth)(s:List Value)(H:AH)(l:List (Nat×Value))(H0:AH)(ml:List (Nat×Blk)):Prop:=
 Le H0 H∧CanS N (srcs ps s H) s H l H0 ml
theorem RQ.mono{σ:List (Option Nat)}{N:Nat}{S S':Nat→Prop}{H:AH}(hS:∀n,S n→S' n){v u:Value}(h:RQ σ N S H v u):RQ σ N S' H v u:=by
 have hp:∀ {v u:Value},Pub H S u v→Pub H S' u v:=fun hp=>by
  induction hp with
  |same v=>exact .same v
  |agg hs _ ih=>exact .agg hs ih
  |tuple hs _ ih=>exact .tuple hs ih
  |empty=>exact .empty
  |lst a b c d e f _ ih=>exact .lst (hS _ a) b c d e f ih
 induction h with
 |same h=>exact .same h
 |pub a b=>exact .pub (hp a) b
 |sl h=>exact .sl h
 |ptr h=>exact .ptr h
 |nil h=>exact .nil h
 |agg hs _ ih=>exact .agg hs ih
 |tuple hs _ ih=>exact .tuple hs ih
theorem FitQ.get{σ:List (Option Nat)}{N:Nat}{S:Nat→Prop}{H:AH}{s:List Value}:∀ {l:List (Nat×Value)},FitQ σ N S H s l→∀i,lk l i unk=unk∨RQ σ N S H (lk l i unk) (sget s i)
 |[],_,i=> .inl rfl
 |(j,v)::l,h,i=>by
  unfold lk
  split
  ·rename_i e
   have e:j=i:=by simpa using e
   subst e
   exact .inr h.1
  ·exact FitQ.get h.2 i
theorem memQ_get{σ:List (Option Nat)}{N:Nat}{S:Nat→Prop}{H H0:AH}:∀ {l:List (Nat×Blk)},memQ σ N S H l→∀n b,mem H0 l n=some b→(H0 n=some b)∨blkQ σ N S H n b
 |[],_,n,b,h=> .inl h
 |(m,b')::r,hq,n,b,h=>by
  by_cases e:n=m
  ·subst e
   have:upd (mem H0 r) n (some b') n=some b:=h
   rw[qN]at this
   cases this
   exact .inr hq.1
  ·have:upd (mem H0 r) m (some b') n=some b:=h
   rw[qF _ _ e]at this
   exact memQ_get hq.2 n b this
theorem sgQ_spec{N:Nat}{H0:AH}{ml:List (Nat×Blk)}:∀ {σ:List (Option Nat)},sgQ N H0 ml σ→(∀(i m:Nat),σ[i]? =some (some m)→N≤m∨mem H0 ml m=none)∧∀(i j m:Nat),σ[i]? =some (some m)→σ[j]? =some (some m)→i=j
 |[],_=>⟨fun i m h=>by simp at h,fun i j m h=>by simp at h⟩
 |none::r,h=>by
  obtain⟨h1,h2⟩:=sgQ_spec (σ:=r) h
  refine⟨fun i m hi=> ?_,fun i j m hi hj=> ?_⟩
  ·cases i with
   |zero=>simp at hi
   |succ i=>exact h1 i m (by simpa using hi)
  ·cases i with
   |zero=>simp at hi
   |succ i=>cases j with
    |zero=>simp at hj
    |succ j=>exact congrArg Nat.succ (h2 i j m (by simpa using hi) (by simpa using hj))
 |some q::r,h=>by
  obtain⟨h1,h2⟩:=sgQ_spec (σ:=r) h.2.2
  refine⟨fun i m hi=> ?_,fun i j m hi hj=> ?_⟩
  ·cases i with
   |zero=>
    simp only[List.getElem?_cons_zero,Option.some.injEq]at hi
    subst hi
    exact h.1.imp id fun g=>ninM_spec g.1 g.2
   |succ i=>exact h1 i m (by simpa using hi)
  ·cases i with
   |zero=>
    cases j with
    |zero=>rfl
    |succ j=>
     simp only[List.getElem?_cons_zero,Option.some.injEq]at hi
     subst hi
     exact absurd (by simpa using hj) (ntin_spec h.2.1 j)
   |succ i=>cases j with
    |zero=>
     simp only[List.getElem?_cons_zero,Option.some.injEq]at hj
     subst hj
     exact absurd (by simpa using hi) (ntin_spec h.2.1 i)
    |succ j=>exact congrArg Nat.succ (h2 i j m (by simpa using hi) (by simpa using hj))
theorem CanT.can{N:Nat}{ps:List Pth}{s:List Value}{H H0:AH}{l:List (Nat×Value)}{ml:List (Nat×Blk)}{n Bd:Nat}(hH:∀n b,H0 n=some b→n<N∧∀v∈b.cells,NB N v)(h:CanT N ps s H l H0 ml)(hn:s.length=n):Can N (srcs ps s H) s H (aS n unk l) (mem H0 ml):=by
 obtain⟨hle,h1,h2,h3⟩:=h
 obtain⟨g1,g2⟩:=sgQ_spec h1
 have hm:∀ {v u},RQ (srcs ps s H) N (goneL H0 ml (srcs ps s H)) H v u→RQ (srcs ps s H) N (gone (mem H0 ml) (srcs ps s H)) H v u:=fun hq=>hq.mono fun _=>goneL_spec
 have hml:∀ {xs ys},rql (srcs ps s H) N (goneL H0 ml (srcs ps s H)) H xs ys→rql (srcs ps s H) N (gone (mem H0 ml) (srcs ps s H)) H xs ys:=fun hq=>⟨hq.1,fun i v u a b=>hm (hq.2 i v u a b)⟩
 have hlow:∀ {o cs b},lowQ (srcs ps s H) N (goneL H0 ml (srcs ps s H)) H o cs b→∃b',b=some b'∧b'.own=o∧rql (srcs ps s H) N (gone (mem H0 ml) (srcs ps s H)) H cs b'.cells:=fun{o cs b} hq=>by
  cases b with
  |none=>exact hq.elim
  |some b=>exact⟨b,rfl,hq.1,hml hq.2⟩
 refine⟨by rw[aS_length,hn],fun i v u e1 e2=> ?_,fun k b hk hb=> ?_,fun k b hk hb=> ?_,g1,g2⟩
 ·rw[aS_get]at e1
  split at e1
  ·cases e1
   refine(h2.get i).imp id fun hq=> ?_
   have:sget s i=u:=by rw[vX,List.getD_eq_getElem?_getD,e2];rfl
   rw[←this];exact hm hq
  ·cases e1
 ·rcases memQ_get h3 k b hb with h0|hq
  ·exact⟨b,hle k b h0,rfl,rfl,fun i v u e1 e2=>by rw[e1]at e2;cases e2;exact .same ((hH k b h0).2 v (List.mem_of_getElem? e1))⟩
  ·rcases hq with⟨_,hq⟩|⟨hge,_⟩
   ·obtain⟨b',a1,a2,a3⟩:=hlow hq
    exact⟨b',a1,a2,a3⟩
   ·omega
 ·rcases memQ_get h3 k b hb with h0|hq
  ·exact absurd (hH k b h0).1 (by omega)
  ·rcases hq with⟨hlt,_⟩|⟨_,ho,hq⟩
   ·omega
   ·refine⟨ho,?_⟩
    unfold hiQ at hq
    split at hq
    ·rename_i m hs
     obtain⟨b',a1,a2,a3⟩:=hlow hq
     exact .inr ⟨m,b',hs,a1,a2,a3⟩
    ·rename_i hs
     exact .inl ⟨hs,hq⟩
    ·exact hq.elim
theorem kB{P:Program}{N0:Nat}{c:Code}{Q:kA}{s:List Value}{H H0:AH}{B0 Bd:Nat}{X:Type}(hb:HB H0 B0)(hB0:B0≤Bd)(k:Nat)(ps:List Pth)(hk:ps.length=k)(I:X→Prop)(μ:X→Nat)(sl:Nat→X→List (Nat×Value))(ml:Nat→X→List (Nat×Blk))(x0:X)(h0:I x0)
  (hs:∀N,Bd≤N→CanT N ps s H (sl N x0) H0 (ml N x0))
  (round:∀N x,Bd≤N→I x→HB (mem H0 (ml N x)) (N+k)→∀F:List Value→AH→Nat→Prop,(∀y s' H' B',μ y<μ x→I y→s'.length=s.length→CanT N ps s' H' (sl N y) H0 (ml N y)→F s' H' B')→Tr P (N+k) c (thenQ F Q) (aS s.length unk (sl N x)) (mem H0 (ml N x)) (N+k)):Tr P N0 (.loop c) Q s H Bd:=by
 intro hN A ι a w hst
 have hH:∀n b,H0 n=some b→n<Bd∧∀v∈b.cells,NB Bd v:=fun n b hn=>⟨Nat.lt_of_lt_of_le (hb_in hb hn) hB0,fun v hv=>(hb.nb n b hn v hv).up hB0⟩
 let Inv:X→Act→World→Prop:=fun x a' w'=>∃ι',I x∧St A ι' (aS s.length unk (sl Bd x)) (mem H0 (ml Bd x)) (Bd+k) a' w'∧Keep A ι w ι' w'∧Agr N0 ι ι'∧NI H (mem H0 (ml Bd x))
 have hagr:∀ {ι:Ren} {σ:List (Option Nat)} {H:AH} {S:Nat→Prop} {N:Nat},N0≤N→Agr N0 ι (rnR (frz ι H S) N σ):=fun hN n hn=>(rnR_lt (by omega)).trans rfl
 refine wp_loop (I:=fun a' w'=>∃x,Inv x a' w') (μ:=fun a' w'=>leastN fun n=>∃x,μ x=n∧Inv x a' w') ?_ ?_
 ·have hc:=(hs Bd (Nat.le_refl _)).can (Bd:=Bd) hH (n:=s.length) rfl
  have h1:=hc.st hst
  rw[srcs_len,hk]at h1
  exact⟨x0,_,h0,h1,Keep.rn (Keep.refl A w (ext_frz ι H _).fz (hst.rel.frzA _)),hagr hN,hc.ni⟩
 ·rintro a1 w1 ⟨x1,hx1⟩
  obtain⟨⟨x,hμ,ι1,hI,hst1,hk1,hag1,hni1⟩,hmin⟩:=leastN_spec (p:=fun n=>∃x,μ x=n∧Inv x a1 w1) ⟨x1,rfl,hx1⟩
  refine wp_mono (round Bd x (Nat.le_refl _) hI hst1.rel.hb (fun s' H' B'=>∃y,μ y<μ x∧I y∧s'.length=s.length∧CanT Bd ps s' H' (sl Bd y) H0 (ml Bd y)) (fun y s' H' B' q1 q2 q3 q4=>⟨y,q1,q2,q3,q4⟩) (Nat.le_refl _) A ι1 a1 w1 hst1) fun e a2 w2 ⟨ι2,s2,H2,Bd2,h1,h2,h3,h4,h5,h6⟩=> ?_
  have hag2:Agr N0 ι ι2:=fun n hn=>(h5 n (by omega)).trans (hag1 n hn)
  cases e with
  |normal=>
   obtain⟨y,hlt,hy,hl,hct⟩:=h1
   have hc:=hct.can (Bd:=Bd) hH hl
   have q1:=hc.st h3
   rw[srcs_len,hk]at q1
   have hinv:Inv y a2 w2:=⟨_,hy,q1,(hk1.trans h4).trans (Keep.rn (Keep.refl A w2 (ext_frz ι2 H2 _).fz (h3.rel.frzA _))),fun n hn=>(hagr hN n hn).trans (hag2 n hn),(hni1.trans h6).trans hc.ni⟩
   refine⟨⟨y,hinv⟩,?_⟩
   rw[←hμ]
   exact Nat.lt_of_le_of_lt ((leastN_spec (p:=fun n=>∃x,μ x=n∧Inv x a2 w2) ⟨y,rfl,hinv⟩).2 _ ⟨y,rfl,hinv⟩) hlt
  |_=>exact⟨ι2,s2,H2,Bd2,h1,by omega,h3,hk1.trans h4,hag2,hni1.trans h6⟩
variable {σ:List (Option Nat)} {N:Nat} {S:Nat→Prop} {H:AH}
@[go_sem] theorem jK(H:AH):mem H []=H:=(rfl)
@[go_sem] theorem mem_cons(H:AH)(n:Nat)(b:Blk)(r:List (Nat×Blk)):mem H ((n,b)::r)=upd (mem H r) n (some b):=(rfl)
@[go_sem] theorem CanT_eq(ps:List Pth)(s:List Value)(H:AH)(l:List (Nat×Value))(H0:AH)(ml:List (Nat×Blk)):CanT N ps s H l H0 ml=(Le H0 H∧CanS N (srcs ps s H) s H l H0 ml):=(rfl)
@[go_sem] theorem CanS_c(σ:List (Option Nat))(o:Option Nat)(s:List Value)(H:AH)(l:List (Nat×Value))(H0:AH)(ml:List (Nat×Blk)):CanS N (o::σ) s H l H0 ml=(sgQ N H0 ml (o::σ)∧FitQ (o::σ) N (goneL H0 ml (o::σ)) H s l∧memQ (o::σ) N (goneL H0 ml (o::σ)) H ml):=(rfl)
@[go_sem] theorem CanS_n(s:List Value)(H:AH)(l:List (Nat×Value))(H0:AH)(ml:List (Nat×Blk)):CanS N [] s H l H0 ml=(FitQ [] N (goneL H0 ml []) H s l∧memQ [] N (goneL H0 ml []) H ml):=by simp[CanS,sgQ]
@[go_sem] theorem srcs_nil(s:List Value)(H:AH):srcs [] s H=[]:=(rfl)
@[go_sem] theorem srcs_s(t:Nat)(r:List Pth)(s:List Value)(H:AH):srcs (.s t::r) s H=nmV (sget s t)::srcs r s H:=(rfl)
@[go_sem] theorem srcs_m(n i:Nat)(r:List Pth)(s:List Value)(H:AH):srcs (.m n i::r) s H=nmV (cellV (H n) i)::srcs r s H:=(rfl)
@[go_sem] theorem nmV_sl(n o:Nat)(k:Option Nat)(l c:Nat):nmV (.slice (some ⟨n,o,k⟩) l c)=some n:=(rfl)
@[go_sem] theorem nmV_ptr(n o:Nat)(k:Option Nat):nmV (.pointer (some ⟨n,o,k⟩))=some n:=(rfl)
@[go_sem] theorem nmV_nil(l c:Nat):nmV (.slice none l c)=none:=(rfl)
@[go_sem] theorem cellV_0(x:Value)(r:List Value)(o:Bool):cellV (some ⟨x::r,o⟩) 0=x:=(rfl)
@[go_sem] theorem cellV_s(x:Value)(r:List Value)(o:Bool)(i:Nat):cellV (some ⟨x::r,o⟩) (i+1)=cellV (some ⟨r,o⟩) i:=(rfl)
@[go_sem] theorem FitQ_nil(s:List Value):FitQ σ N S H s []=True:=(rfl)
@[go_sem] theorem FitQ_cons(s:List Value)(i:Nat)(v:Value)(l:List (Nat×Value)):FitQ σ N S H s ((i,v)::l)=(RQ σ N S H v (sget s i)∧FitQ σ N S H s l):=(rfl)
@[go_sem] theorem memQ_nil:memQ σ N S H []=True:=(rfl)
@[go_sem] theorem memQ_cons(n:Nat)(b:Blk)(r:List (Nat×Blk)):memQ σ N S H ((n,b)::r)=(blkQ σ N S H n b∧memQ σ N S H r):=(rfl)
@[go_sem high] theorem blkQ_hi (i:Nat) (b:Blk):blkQ σ N S H (N+i) b=(b.own=true∧hiQ σ N S H b.cells σ[i]?):=by
 unfold blkQ
 rw[Nat.add_sub_cancel_left]
 exact propext ⟨fun h=>h.elim (fun h=>absurd h.1 (by omega)) fun h=>h.2,fun h=> .inr ⟨by omega,h⟩⟩
@[go_sem high] theorem blkQ_hi0 (b:Blk):blkQ σ N S H N b=(b.own=true∧hiQ σ N S H b.cells σ[0]?):=blkQ_hi 0 b
@[go_sem low] theorem blkQ_low {n:Nat} (h:n<N) (b:Blk):blkQ σ N S H n b=lowQ σ N S H b.own b.cells (H n):=by
 unfold blkQ
 exact propext ⟨fun q=>q.elim (fun q=>q.2) fun q=>absurd q.1 (by omega),fun q=> .inl ⟨h,q⟩⟩
@[go_sem] theorem lowQ_some(o o':Bool)(cs cs':List Value):lowQ σ N S H o cs (some ⟨cs',o'⟩)=(o'=o∧rql σ N S H cs cs'):=(rfl)
@[go_sem] theorem hiQ_m(cs:List Value)(m:Nat):hiQ σ N S H cs (some (some m))=lowQ σ N S H true cs (H m):=(rfl)
@[go_sem] theorem hiQ_n(cs:List Value):hiQ σ N S H cs (some none)=(cs=[]):=(rfl)
attribute [go_sem] List.getElem?_cons_zero List.getElem?_cons_succ
@[go_sem] theorem sgQ_nil(H0:AH)(ml:List (Nat×Blk)):sgQ N H0 ml []=True:=(rfl)
@[go_sem] theorem sgQ_none(H0:AH)(ml:List (Nat×Blk))(r:List (Option Nat)):sgQ N H0 ml (none::r)=sgQ N H0 ml r:=(rfl)
@[go_sem] theorem sgQ_lo(H0:AH)(ml:List (Nat×Blk))(m:Nat)(r:List (Option Nat)):sgQ N H0 ml (some m::r)=((N≤m∨(free H0 m∧ninM m ml))∧ntin m r∧sgQ N H0 ml r):=(rfl)
@[go_sem] theorem ntin_nil(n:Nat):ntin n []=True:=(rfl)
@[go_sem] theorem ntin_some(n m:Nat)(r:List (Option Nat)):ntin n (some m::r)=(m≠n∧ntin n r):=(rfl)
@[go_sem] theorem ntin_none(n:Nat)(r:List (Option Nat)):ntin n (none::r)=ntin n r:=(rfl)
@[go_sem] theorem ninM_nil(n:Nat):ninM n []=True:=(rfl)
@[go_sem] theorem ninM_cons(n m:Nat)(b:Blk)(r:List (Nat×Blk)):ninM n ((m,b)::r)=(m≠n∧ninM n r):=(rfl)
@[go_sem] theorem goneL_eq(H0:AH)(ml:List (Nat×Blk))(n:Nat):goneL H0 ml σ n=(free H0 n∧ninM n ml∧ntin n σ):=(rfl)
@[go_sem] theorem pr_eta{α β:Type}(p:α×β):(p.1,p.2)=p:=(rfl)
theorem rq_inv{v u:Value}(hv:∀ {k:Nat} {rows:Array Value},v≠ .func (.yield k) #[] rows)(h1:∀xs,v≠ .agg xs)(h2:∀xs,v≠ .tuple xs)(h3:∀n o k l c,v≠ .slice (some ⟨n,o,some k⟩) l c)(h4:∀n o,N≤n→v≠ .pointer (some ⟨n,o,none⟩))(h:RQ σ N S H v u):v=u:=by
 cases h with
 |same h=>rfl
 |pub hp h=>cases hp with
  |same=>rfl
  |agg=>exact absurd rfl (h1 _)
  |tuple=>exact absurd rfl (h2 _)
  |empty=>exact absurd rfl hv
  |lst=>exact absurd rfl hv
 |sl=>exact absurd rfl (h3 _ _ _ _ _)
 |ptr=>exact absurd rfl (h4 _ _ (Nat.le_add_right _ _))
 |nil=>exact absurd rfl (h3 _ _ _ _ _)
 |agg=>exact absurd rfl (h1 _)
 |tuple=>exact absurd rfl (h2 _)
@[go_sem] theorem rq_int(k q:IntKind)(a b:Int):RQ σ N S H (.int k a) (.int q b)=(k=q∧a=b):=
 propext ⟨fun h=>by have:=rq_inv (by simp) (by simp) (by simp) (by simp) (by simp) h;simpa using this,fun⟨h1,h2⟩=>by subst h1;subst h2;exact .same (.int _ _)⟩
@[go_sem] theorem rq_bool(a b:Bool):RQ σ N S H (.bool a) (.bool b)=(a=b):=
 propext ⟨fun h=>by have:=rq_inv (by simp) (by simp) (by simp) (by simp) (by simp) h;simpa using this,fun h=>by subst h;exact .same (.bool _)⟩
@[go_sem] theorem rq_str(a b:ByteArray):RQ σ N S H (.string a) (.string b)=(a=b):=
 propext ⟨fun h=>by have:=rq_inv (by simp) (by simp) (by simp) (by simp) (by simp) h;simpa using this,fun h=>by subst h;exact .same (.string _)⟩
@[go_sem] theorem rq_ptr{n:Nat}(h:n<N)(o m p:Nat):RQ σ N S H (.pointer (some ⟨n,o,none⟩)) (.pointer (some ⟨m,p,none⟩))=(m=n∧p=o):=
 propext ⟨fun h=>by have:=rq_inv (by simp) (by simp) (by simp) (by simp) (fun a b hab e=>by simp only[Value.pointer.injEq,Option.some.injEq,Addr.mk.injEq,and_true]at e;omega) h;simp only[Value.pointer.injEq,Option.some.injEq,Addr.mk.injEq,and_true]at this;exact⟨this.1.symm,this.2.symm⟩,fun⟨h1,h2⟩=>by subst h1;subst h2;exact .same (.ptr h)⟩
@[go_sem] theorem rq_ptrN{i o m p:Nat}:RQ σ N S H (.pointer (some ⟨N+i,o,none⟩)) (.pointer (some ⟨m,p,none⟩))=(σ[i]? =some (some m)∧p=o):=by
 refine propext ⟨fun h=> ?_,fun⟨h1,h2⟩=>by subst h2;exact .ptr h1⟩
 generalize hv:Value.pointer (some ⟨N+i,o,none⟩)=v at h
 generalize hu:Value.pointer (some ⟨m,p,none⟩)=u at h
 cases h with
 |same h=>
  subst hv
  cases h with
  |ptr h=>omega
 |pub hp h=>
  subst hv
  cases h with
  |ptr h=>omega
 |ptr h=>
  simp only[Value.pointer.injEq,Option.some.injEq,Addr.mk.injEq,and_true]at hv hu
  obtain⟨h1,rfl⟩:=hv
  obtain⟨rfl,rfl⟩:=hu
  obtain rfl:i=_:=Nat.add_left_cancel h1
  exact⟨h,rfl⟩
 |_=>cases hv
@[go_sem] theorem rq_ptrN0{o m p:Nat}:RQ σ N S H (.pointer (some ⟨N,o,none⟩)) (.pointer (some ⟨m,p,none⟩))=(σ[0]? =some (some m)∧p=o):=rq_ptrN (i:=0)
@[go_sem] theorem rq_tuple(xs ys:List Value):RQ σ N S H (.tuple xs.toArray) (.tuple ys.toArray)=rql σ N S H xs ys:=by
 refine propext ⟨fun h=> ?_,fun⟨h1,h2⟩=> .tuple (by simpa using h1) fun i v u a b=>h2 i v u (by simpa using a) (by simpa using b)⟩
 generalize hv:Value.tuple xs.toArray=v at h
 generalize hu:Value.tuple ys.toArray=u at h
 cases h with
 |same h=>
  subst hv
  simp only[Value.tuple.injEq,jE]at hu
  subst hu
  cases h with
  |tuple h=>exact⟨rfl,fun i v u a b=>by rw[a]at b;cases b;exact .same (h i v (by simpa using a))⟩
 |pub hp h=>
  subst hv;subst hu
  cases h with
  |tuple h=>
   generalize hv:Value.tuple xs.toArray=v at hp
   generalize hu:Value.tuple ys.toArray=u at hp
   cases hp with
   |same=>
    subst hv
    simp only[Value.tuple.injEq,jE]at hu
    subst hu
    exact⟨rfl,fun i v u a b=>by rw[a]at b;cases b;exact .same (h i v (by simpa using a))⟩
   |tuple hs h2=>
    cases hv;cases hu
    exact⟨by simpa using hs.symm,fun i v u a b=> .pub (h2 i u v (by simpa using b) (by simpa using a)) (h i v (by simpa using a))⟩
   |agg=>cases hv
   |empty=>cases hv
   |lst=>cases hv
 |tuple hs h=>
  cases hv;cases hu
  exact⟨by simpa using hs,fun i v u a b=>h i v u (by simpa using a) (by simpa using b)⟩
 |_=>cases hv
theorem rq_nb{B0:Nat}{v:Value}(h:NB B0 v)(hle:B0≤N):RQ σ N S H v v=True:=eq_true (.same (h.up hle))
@[go_sem] theorem rq_nils:RQ σ N S H (.slice none 0 0) (.slice none 0 0)=True:=eq_true (.same .nils)
section
variable {α:Type} [Enc α]
@[go_sem] theorem rq_lst(xs ys:List α):RQ σ N S H (lst xs) (lst ys)=(xs=ys):=by
 refine propext ⟨fun h=> ?_,fun h=>by subst h;exact .same (lst_nb _ _)⟩
 have:lst xs=lst ys:=by
  unfold lst LST at h ⊢
  generalize hv:Value.func (.yield (Enc.k α)) #[] _=v at h ⊢
  generalize hu:Value.func (.yield (Enc.k α)) #[] _=u at h ⊢
  cases h with
  |same h=>rfl
  |pub hp h=>subst hu;cases hp with
   |same=>rfl
   |_=>cases hv
  |_=>cases hv
 exact lst_inj.mp this
@[go_sem] theorem rq_lnil(xs:List α):RQ σ N S H (lst xs) (.slice none 0 0)=(xs=[]):=by
 refine propext ⟨fun h=> ?_,fun h=>by subst h;exact .pub .empty (lst_nb _ _)⟩
 unfold lst LST at h
 generalize hv:Value.func (.yield (Enc.k α)) #[] _=v at h
 cases h with
 |same h=>cases hv
 |pub hp h=>cases hp with
  |same=>cases hv
  |empty=>
   simp only[Value.func.injEq]at hv
   have:=hv.2.2
   simpa using this
 |_=>cases hv
theorem rq_pubI{m c k len:Nat}{cells:List Value}{xs:List α}[hk:EncK α k](hb:H m=some ⟨cells,true⟩)(hc:cells=qQ xs)(hS:S m)(hl:len=xs.length):RQ σ N S H (lst xs) (.slice (some ⟨m,0,some k⟩) len c):=
 .pub (jA (by rw[hb,hc]) hS hk.h hl) (lst_nb _ _)
@[go_sem] theorem rq_pub{m c k len:Nat}{xs:List α}[hk:EncK α k](hb:H m=some ⟨qQ xs,true⟩)(hS:S m)(hl:len=xs.length):RQ σ N S H (lst xs) (.slice (some ⟨m,0,some k⟩) len c)=True:=eq_true (rq_pubI hb rfl hS hl)
end
theorem rq_slI{n o k l c m p q l' c':Nat}(hn:N≤n):RQ σ N S H (.slice (some ⟨n,o,some k⟩) l c) (.slice (some ⟨m,p,some q⟩) l' c')=(σ[n-N]? =some (some m)∧p=o∧q=k∧l'=l∧c=l+1):=by
 refine propext ⟨fun h=> ?_,fun⟨h1,h2,h3,h4,h5⟩=> ?_⟩
 ·generalize hv:Value.slice (some ⟨n,o,some k⟩) l c=v at h
  generalize hu:Value.slice (some ⟨m,p,some q⟩) l' c'=u at h
  cases h with
  |same h=>
   subst hv
   cases h with
   |sl h=>omega
  |pub hp h=>
   subst hv
   cases h with
   |sl h=>omega
  |sl h=>
   simp only[Value.slice.injEq,Option.some.injEq,Addr.mk.injEq]at hv hu
   obtain⟨⟨rfl,rfl,rfl⟩,rfl,rfl⟩:=hv
   obtain⟨⟨rfl,rfl,rfl⟩,rfl,rfl⟩:=hu
   rw[Nat.add_sub_cancel_left]
   exact⟨h,rfl,rfl,rfl,rfl⟩
  |nil h=>cases hu
  |ptr=>cases hv
  |agg=>cases hv
  |tuple=>cases hv
 ·subst h2;subst h3;subst h4;subst h5
  have e:n=N+(n-N):=by omega
  rw[e]
  exact .sl h1
@[go_sem] theorem rq_sl{i o k l c m p q l' c':Nat}:RQ σ N S H (.slice (some ⟨N+i,o,some k⟩) l c) (.slice (some ⟨m,p,some q⟩) l' c')=(σ[i]? =some (some m)∧p=o∧q=k∧l'=l∧c=l+1):=by
 rw[rq_slI (by omega),Nat.add_sub_cancel_left]
@[go_sem] theorem rq_sl0{o k l c m p q l' c':Nat}:RQ σ N S H (.slice (some ⟨N,o,some k⟩) l c) (.slice (some ⟨m,p,some q⟩) l' c')=(σ[0]? =some (some m)∧p=o∧q=k∧l'=l∧c=l+1):=rq_sl (i:=0)
theorem rq_sln{i k l c:Nat}:RQ σ N S H (.slice (some ⟨N+i,0,some k⟩) l c) (.slice none 0 0)=(σ[i]? =some none∧l=0∧c=1):=by
 refine propext ⟨fun h=> ?_,fun⟨h1,h2,h3⟩=>by subst h2;subst h3;exact .nil h1⟩
 generalize hv:Value.slice (some ⟨N+i,0,some k⟩) l c=v at h
 generalize hu:Value.slice none 0 0=u at h
 cases h with
 |same h=>subst hv;cases hu
 |pub hp h=>subst hv;cases h with|sl h=>omega
 |sl h=>cases hu
 |nil h=>
  simp only[Value.slice.injEq,Option.some.injEq,Addr.mk.injEq]at hv
  obtain⟨⟨h1,_,_⟩,rfl,rfl⟩:=hv
  obtain rfl:i=_:=Nat.add_left_cancel h1
  exact⟨h,rfl,rfl⟩
 |ptr=>cases hv
 |agg=>cases hv
 |tuple=>cases hv
@[go_sem] theorem rq_slN{i k l c:Nat}:RQ σ N S H (.slice (some ⟨N+i,0,some k⟩) l c) (.slice none 0 0)=(σ[i]? =some none∧l=0∧c=1):=rq_sln
@[go_sem] theorem rq_slN0{k l c:Nat}:RQ σ N S H (.slice (some ⟨N,0,some k⟩) l c) (.slice none 0 0)=(σ[0]? =some none∧l=0∧c=1):=rq_sln (i:=0)
@[go_sem low] theorem rq_slL {n:Nat} (hn:n<N) {o k l c m p q l' c':Nat}:RQ σ N S H (.slice (some ⟨n,o,some k⟩) l c) (.slice (some ⟨m,p,some q⟩) l' c')=(m=n∧p=o∧q=k∧l'=l∧c'=c):=by
 refine propext ⟨fun h=> ?_,fun⟨h1,h2,h3,h4,h5⟩=>by subst h1;subst h2;subst h3;subst h4;subst h5;exact .same (.sl hn)⟩
 generalize hv:Value.slice (some ⟨n,o,some k⟩) l c=v at h
 generalize hu:Value.slice (some ⟨m,p,some q⟩) l' c'=u at h
 have hh:v=u→m=n∧p=o∧q=k∧l'=l∧c'=c:=fun e=>by
  rw[←hv,←hu]at e
  simp only[Value.slice.injEq,Option.some.injEq,Addr.mk.injEq]at e
  obtain⟨⟨rfl,rfl,rfl⟩,rfl,rfl⟩:=e
  exact⟨rfl,rfl,rfl,rfl,rfl⟩
 cases h with
 |same h=>exact hh rfl
 |pub hp h=>subst hv;cases hp with|same=>exact hh rfl
 |sl h=>
  simp only[Value.slice.injEq,Option.some.injEq,Addr.mk.injEq]at hv
  have:=hv.1.1
  omega
 |ptr=>cases hv
 |nil h=>cases hu
 |agg=>cases hv
 |tuple=>cases hv
@[go_sem] theorem rql_nil:rql σ N S H [] []=True:=eq_true ⟨rfl,fun i v u h=>by simp at h⟩
@[go_sem] theorem rql_cons(x y:Value)(xs ys:List Value):rql σ N S H (x::xs) (y::ys)=(RQ σ N S H x y∧rql σ N S H xs ys):=by
 refine propext ⟨fun⟨h1,h2⟩=>⟨h2 0 x y rfl rfl,by simpa using h1,fun i v u a b=>h2 (i+1) v u (by simpa using a) (by simpa using b)⟩,fun⟨h1,h2,h3⟩=>⟨by simp[h2],fun i v u a b=> ?_⟩⟩
 cases i with
 |zero=>cases a;cases b;exact h1
 |succ i=>exact h3 i v u (by simpa using a) (by simpa using b)
theorem rql_flat{α:Type}[Enc α]{xs ys:List α}(h:xs=ys):rql σ N S H (qQ xs) (qQ ys):=by
 subst h
 exact⟨rfl,fun i v u a b=>by rw[a]at b;cases b;exact .same (flat_nb N xs v (List.mem_of_getElem? a))⟩
theorem rql_app{a b c d:List Value}(h:rql σ N S H a b)(k:rql σ N S H c d):rql σ N S H (a++c) (b++d):=by
 refine⟨by simp[h.1,k.1],fun i v u q1 q2=> ?_⟩
 rw[List.getElem?_append]at q1 q2
 by_cases hi:i<a.length
 ·rw[if_pos hi]at q1;rw[if_pos (by rw[←h.1];exact hi)]at q2;exact h.2 i v u q1 q2
 ·rw[if_neg hi]at q1;rw[if_neg (by rw[←h.1];exact hi),←h.1]at q2;exact k.2 _ v u q1 q2
@[go_sem] theorem rql_flat_eq{α:Type}[Enc α](xs:List α):rql σ N S H (qQ xs) (qQ xs)=True:=eq_true (rql_flat rfl)
@[go_sem] theorem rql_flat_app{α:Type}[Enc α](xs:List α)(c d:List Value):rql σ N S H (qQ xs++c) (qQ xs++d)=rql σ N S H c d:=by
 refine propext ⟨fun h=>⟨by have:=h.1;simpa using this,fun i v u a b=> ?_⟩,fun h=>rql_app (rql_flat rfl) h⟩
 refine h.2 ((qQ xs).length+i) v u ?_ ?_
 ·rw[List.getElem?_append_right (by omega),Nat.add_sub_cancel_left];exact a
 ·rw[List.getElem?_append_right (by omega),Nat.add_sub_cancel_left];exact b
@[go_sem] theorem rq_agg(xs ys:List Value):RQ σ N S H (.agg xs.toArray) (.agg ys.toArray)=rql σ N S H xs ys:=by
 refine propext ⟨fun h=> ?_,fun⟨h1,h2⟩=> .agg (by simpa using h1) fun i v u a b=>h2 i v u (by simpa using a) (by simpa using b)⟩
 generalize hv:Value.agg xs.toArray=v at h
 generalize hu:Value.agg ys.toArray=u at h
 cases h with
 |same h=>
  subst hv
  simp only[Value.agg.injEq,jE]at hu
  subst hu
  cases h with
  |agg h=>exact⟨rfl,fun i v u a b=>by rw[a]at b;cases b;exact .same (h i v (by simpa using a))⟩
 |pub hp h=>
  subst hv;subst hu
  cases h with
  |agg h=>
   generalize hv:Value.agg xs.toArray=v at hp
   generalize hu:Value.agg ys.toArray=u at hp
   cases hp with
   |same=>
    subst hv
    simp only[Value.agg.injEq,jE]at hu
    subst hu
    exact⟨rfl,fun i v u a b=>by rw[a]at b;cases b;exact .same (h i v (by simpa using a))⟩
   |agg hs h2=>
    cases hv;cases hu
    exact⟨by simpa using hs.symm,fun i v u a b=> .pub (h2 i u v (by simpa using b) (by simpa using a)) (h i v (by simpa using a))⟩
   |tuple=>cases hv
   |empty=>cases hv
   |lst=>cases hv
 |sl=>cases hv
 |ptr=>cases hv
 |nil=>cases hv
 |agg hs h=>
  cases hv;cases hu
  exact⟨by simpa using hs,fun i v u a b=>h i v u (by simpa using a) (by simpa using b)⟩
 |tuple=>cases hv
theorem Tr.to{P:Program}{N0:Nat}{c:Code}{Q:kA}{s:List Value}{H H0:AH}{B0 Bd:Nat}(hb:HB H0 B0)(hB0:B0≤Bd)(k:Nat)(ps:List Pth)(hk:ps.length=k)(sl:Nat→List (Nat×Value))(ml:Nat→List (Nat×Blk))
  (hs:∀N,Bd≤N→CanT N ps s H (sl N) H0 (ml N)) (h:∀N,Bd≤N→HB (mem H0 (ml N)) (N+k)→Tr P N0 c Q (aS s.length unk (sl N)) (mem H0 (ml N)) (N+k)):Tr P N0 c Q s H Bd:=by
 intro hN A ι a w hst
 have hH:∀n b,H0 n=some b→n<Bd∧∀v∈b.cells,NB Bd v:=fun n b hn=>⟨Nat.lt_of_lt_of_le (hb_in hb hn) hB0,fun v hv=>(hb.nb n b hn v hv).up hB0⟩
 have hc:=(hs Bd (Nat.le_refl _)).can (Bd:=Bd) hH (n:=s.length) rfl
 have h1:=hc.st hst
 have h2:=h Bd (Nat.le_refl _) (by have:=h1.rel.hb;rw[srcs_len,hk]at this;exact this)
 exact Can.tr hN hc (by rw[srcs_len,hk];exact h2) hN A ι a w hst
theorem canew{P:Program}{f:FuncId}{args:List Value}{H:AH}{Bd:Nat}{post:Value→AH→Nat→Prop}
  (h:SCalls P f args H Bd fun r H' _=>∃σ C r0,Can Bd σ [r] H' [r0] C∧r0≠unk∧post r0 C (Bd+σ.length)):SCalls P f args H Bd post:=by
 refine⟨h.1,fun A ι vs w hr hs=> ?_⟩
 refine(h.2 A ι vs w hr hs).mono fun e w' ⟨v,r,ι',H',Bd',he,⟨σ,C,r0,hc,hu,hK⟩,hB,hrel,hvr,hkp,hag,hni⟩=> ?_
 refine⟨v,r0,rnR (frz ι' H' (gone C σ)) Bd σ,C,Bd+σ.length,he,hK,Nat.le_add_right _ _,hc.rel hrel,?_,hkp.trans (Keep.rn (Keep.refl A w' (ext_frz ι' H' _).fz (hrel.frzA _))),fun n hn=>(rnR_lt hn).trans (hag n hn),hni.trans hc.ni⟩
 rcases hc.slot 0 r0 r rfl rfl with h|hp
 ·exact absurd h hu
 ·exact VR.rq hrel hp hvr
def CanW(N:Nat)(σ:List (Option Nat))(v:Value)(H:AH)(r0:Value)(G:AH)(ml:List (Nat×Blk)):Prop:=sgQ N G ml σ∧RQ σ N (goneL G ml σ) H r0 v∧memQ σ N (goneL G ml σ) H ml
def CanV(N:Nat)(ps:List Pth)(v:Value)(s:List Value)(H:AH)(r0:Value)(G:AH)(ml:List (Nat×Blk)):Prop:=Le G H∧CanW N (srcs ps s H) v H r0 G ml
theorem CanV.can{N:Nat}{ps:List Pth}{v:Value}{s:List Value}{H:AH}{r0:Value}{G:AH}{ml:List (Nat×Blk)}(hH:∀n b,G n=some b→n<N∧∀v∈b.cells,NB N v)(h:CanV N ps v s H r0 G ml):Can N (srcs ps s H) [v] H [r0] (mem G ml):=by
 obtain⟨hle,h1,h2,h3⟩:=h
 obtain⟨g1,g2⟩:=sgQ_spec h1
 have hm:∀ {v u},RQ (srcs ps s H) N (goneL G ml (srcs ps s H)) H v u→RQ (srcs ps s H) N (gone (mem G ml) (srcs ps s H)) H v u:=fun hq=>hq.mono fun _=>goneL_spec
 have hml:∀ {xs ys},rql (srcs ps s H) N (goneL G ml (srcs ps s H)) H xs ys→rql (srcs ps s H) N (gone (mem G ml) (srcs ps s H)) H xs ys:=fun hq=>⟨hq.1,fun i v u a b=>hm (hq.2 i v u a b)⟩
 have hlow:∀ {o cs b},lowQ (srcs ps s H) N (goneL G ml (srcs ps s H)) H o cs b→∃b',b=some b'∧b'.own=o∧rql (srcs ps s H) N (gone (mem G ml) (srcs ps s H)) H cs b'.cells:=fun{o cs b} hq=>by
  cases b with
  |none=>exact hq.elim
  |some b=>exact⟨b,rfl,hq.1,hml hq.2⟩
 refine⟨rfl,fun i v' u e1 e2=> ?_,fun k b hk hb=> ?_,fun k b hk hb=> ?_,g1,g2⟩
 ·cases i with
  |zero=>cases e1;cases e2;exact .inr (hm h2)
  |succ i=>simp at e1
 ·rcases memQ_get h3 k b hb with h0|hq
  ·exact⟨b,hle k b h0,rfl,rfl,fun i v u e1 e2=>by rw[e1]at e2;cases e2;exact .same ((hH k b h0).2 v (List.mem_of_getElem? e1))⟩
  ·rcases hq with⟨_,hq⟩|⟨hge,_⟩
   ·obtain⟨b',a1,a2,a3⟩:=hlow hq
    exact⟨b',a1,a2,a3⟩
   ·omega
 ·rcases memQ_get h3 k b hb with h0|hq
  ·exact absurd (hH k b h0).1 (by omega)
  ·rcases hq with⟨hlt,_⟩|⟨_,ho,hq⟩
   ·omega
   ·refine⟨ho,?_⟩
    unfold hiQ at hq
    split at hq
    ·rename_i m hs
     obtain⟨b',a1,a2,a3⟩:=hlow hq
     exact .inr ⟨m,b',hs,a1,a2,a3⟩
    ·rename_i hs
     exact .inl ⟨hs,hq⟩
    ·exact hq.elim
def CanQ(P:Program)(rs:List ResultVar)(N:Nat)(G:AH)(ps:List Pth)(r0:Value)(ml:List (Nat×Blk))(s:List Value)(H:AH)(Bd:Nat):Prop:=
 Yld (yQ P rs s H) fun vs=>CanV N ps (vW vs) s H r0 G ml
def canQ(P:Program)(rs:List ResultVar)(N:Nat)(G:AH)(ps:List Pth)(r0:Value)(ml:List (Nat×Blk)):kA
 | .normal=>CanQ P rs N G ps r0 ml
 | .ret=>CanQ P rs N G ps r0 ml
 |_=>fun _ _ _=>False
section
variable {P:Program} {s:List Value} {H:AH} {Bd:Nat}
@[go_sem ↓] theorem canQ_ret (rs:List ResultVar) (N:Nat) (G:AH) (ps:List Pth) (r0:Value) (ml:List (Nat×Blk)):canQ P rs N G ps r0 ml .ret=CanQ P rs N G ps r0 ml:=(rfl)
@[go_sem ↓] theorem CanQ_eq (rs:List ResultVar) (N:Nat) (G:AH) (ps:List Pth) (r0:Value) (ml:List (Nat×Blk)):CanQ P rs N G ps r0 ml s H Bd=Yld (yQ P rs s H) fun vs=>CanV N ps (vW vs) s H r0 G ml:=(rfl)
@[go_sem] theorem CanV_eq(N:Nat)(G:AH)(ps:List Pth)(v r0:Value)(ml:List (Nat×Blk)):CanV N ps v s H r0 G ml=(Le G H∧CanW N (srcs ps s H) v H r0 G ml):=(rfl)
@[go_sem] theorem CanW_c(N:Nat)(o:Option Nat)(σ:List (Option Nat))(G:AH)(v r0:Value)(ml:List (Nat×Blk)):CanW N (o::σ) v H r0 G ml=(sgQ N G ml (o::σ)∧RQ (o::σ) N (goneL G ml (o::σ)) H r0 v∧memQ (o::σ) N (goneL G ml (o::σ)) H ml):=(rfl)
@[go_sem] theorem CanW_n(N:Nat)(G:AH)(v r0:Value)(ml:List (Nat×Blk)):CanW N [] v H r0 G ml=(RQ [] N (goneL G ml []) H r0 v∧memQ [] N (goneL G ml []) H ml):=by simp[CanW,sgQ]
end
theorem fn_can{P:Program}(hP:POk P)(E:Env P)(PL:List (Nat×List Nat×List Stp×JT)){f:FuncId}{fn:Func}{c:Code}{args:List Value}{H:AH}{Bd:Nat}{K:Value→AH→Nat→Prop}(G:AH)(ps:List Pth)(r0:Value)(ml:List (Nat×Blk))(hK:K r0 (mem G ml) (Bd+ps.length))(hu:r0≠unk)
  (hG:HB H Bd→HB G Bd) (hf:P.funcs[f]? =some fn) (hb:fn.body=some c) {rs:List ResultVar} (hrs:fn.results.toList=rs) {m:Nat} (hm:fn.ntmps=m) (hm2:args.length≤m) (hent:Enters P f) (hp:kX PL c=true)
  (h:HB H Bd→HB G Bd→(∀v∈args,NB Bd v)→vq E PL Bd c (canQ P rs Bd G ps r0 ml) (aS m undef (idx 0 args)) H Bd):SCalls P f args H Bd K:=by
 refine SCalls.of_hb hent fun hH=>canew ?_
 have hg:=hG hH
 subst hm
 rw[←start_aS args _ hm2]at h
 refine scalls_of_tr hf hb hrs hent fun hh ha=>(vq_sound hP PL c _ _ H Bd hp (h hh hg ha)).conv fun e s' H' Bd' hle hq=> ?_
 have key:CanQ P rs Bd G ps r0 ml s' H' Bd'→RetQ P rs H Bd (fun r H' _=>∃σ C r0,Can Bd σ [r] H' [r0] C∧r0≠unk∧K r0 C (Bd+σ.length)) s' H' Bd':=fun⟨vs,h1,h2⟩=>by
  refine⟨vs,h1,vW vs,fun _=>False,H',Bd', .same _,fun _ _ _ h=>h,Le.refl _,hle, .inl ⟨Nat.le_refl _,fun hb2 _=>⟨srcs ps s' H',mem G ml,r0,h2.can fun n b hn=>⟨hb_in hg hn,hg.nb n b hn⟩,hu,by rw[srcs_len];exact hK⟩⟩⟩
 cases e with
 |normal=>exact key hq
 |ret=>exact key hq
 |_=>exact hq.elim
theorem out1{H:AH}{n:Nat}{b:Blk}(hn:H n=some b):∃G,H=upd G n (some b)∧free G n∧upd H n none=G∧∀Bd,HB H Bd→HB G Bd:=by
 refine⟨upd H n none,?_,qN _ _ _,rfl,fun Bd h=>⟨fun m hm=> ?_,fun m c hm v hv=> ?_⟩⟩
 ·funext q;unfold upd;split
  ·rename_i e;subst e;exact hn
  ·rfl
 ·unfold upd;split
  ·rfl
  ·exact h.fresh m hm
 ·unfold upd at hm;split at hm
  ·cases hm
  ·exact h.nb m c hm v hv
theorem out2{H:AH}{n m:Nat}{b c:Blk}(hn:H n=some b)(hm:H m=some c)(hd:n≠m):∃G,H=upd (upd G n (some b)) m (some c)∧(free G n∧free G m)∧upd (upd H n none) m none=G∧∀Bd,HB H Bd→HB G Bd:=by
 obtain⟨G1,e1,f1,g1,h1⟩:=out1 hn
 have hm1:G1 m=some c:=by rw[←g1,qF _ _ (fun e=>hd e.symm)];exact hm
 obtain⟨G,e2,f2,g2,h2⟩:=out1 hm1
 refine⟨G,?_,⟨?_,f2⟩,by rw[g1];exact g2,fun Bd h=>h2 Bd (h1 Bd h)⟩
 ·rw[e1,e2];exact upd_comm (fun e=>hd e.symm)
 ·have:G n=none:=by rw[←g2,qF _ _ hd];exact f1
  exact this
theorem SCalls.to{P:Program}{f:FuncId}{args args':List Value}{H C:AH}{Bd:Nat}{σ:List (Option Nat)}{K:Value→AH→Nat→Prop}(hc:Can Bd σ args H args' C)(h:SCalls P f args' C (Bd+σ.length) K):SCalls P f args H Bd K:=by
 refine⟨h.1,fun A ι vs w hr hs=> ?_⟩
 have hs':SR (rnR (frz ι H (gone C σ)) Bd σ) w args' vs:=by
  refine⟨by rw[←hc.len];exact hs.1,fun i v v' g1 g2=> ?_⟩
  have hlt:i<args.length:=by have:=(List.getElem?_eq_some_iff.1 g1).1;have:=hc.len;omega
  rcases hc.slot i v args[i] g1 (List.getElem?_eq_getElem hlt)with rfl|hp
  ·exact .unk _
  ·exact VR.rq hr hp (hs.2 i _ v' (List.getElem?_eq_getElem hlt) g2)
 refine(h.2 A _ vs w (hc.rel hr) hs').mono fun e w' ⟨v,r,ι',H',Bd',he,hK,hB,hrel,hvr,hkp,hag,hni⟩=> ?_
 refine⟨v,r,ι',H',Bd',he,hK,by omega,hrel,hvr,(Keep.rn (Keep.refl A w (ext_frz ι H _).fz (hr.frzA _))).trans hkp,fun n hn=> ?_,NI.trans hc.ni hni⟩
 rw[hag n (by omega),rnR_lt hn];rfl
def ToC(W:qJ):qJ:=fun args H Bd K=>∃σ args' C,Can Bd σ args H args' C∧W args' C (Bd+σ.length) K
theorem ToC_ok{P:Program}{f:FuncId}{W:qJ}(h:∀args H Bd K,W args H Bd K→SCalls P f args H Bd K):∀args H Bd K,ToC W args H Bd K→SCalls P f args H Bd K:=fun args H Bd K ⟨σ,args',C,hc,hw⟩=>SCalls.to hc (h _ _ _ _ hw)
def CanA(N:Nat)(ps:List Pth)(args args':List Value)(H H0:AH)(ml:List (Nat×Blk)):Prop:=Le H0 H∧CanB N (srcs ps args H) args args' H H0 ml
where
 CanB (N:Nat) (σ:List (Option Nat)) (args args':List Value) (H H0:AH) (ml:List (Nat×Blk)):Prop:=sgQ N H0 ml σ∧rql σ N (goneL H0 ml σ) H args' args∧memQ σ N (goneL H0 ml σ) H ml
@[go_sem] theorem CanA_eq(N:Nat)(ps:List Pth)(args args':List Value)(H H0:AH)(ml:List (Nat×Blk)):CanA N ps args args' H H0 ml=(Le H0 H∧CanA.CanB N (srcs ps args H) args args' H H0 ml):=(rfl)
@[go_sem] theorem CanB_c(N:Nat)(o:Option Nat)(σ:List (Option Nat))(args args':List Value)(H H0:AH)(ml:List (Nat×Blk)):CanA.CanB N (o::σ) args args' H H0 ml=(sgQ N H0 ml (o::σ)∧rql (o::σ) N (goneL H0 ml (o::σ)) H args' args∧memQ (o::σ) N (goneL H0 ml (o::σ)) H ml):=(rfl)
theorem toC{W:qJ}{args args':List Value}{H H0:AH}{B0 Bd:Nat}{K:Value→AH→Nat→Prop}(hb:HB H0 B0)(hB0:B0≤Bd)(k:Nat)(ps:List Pth)(hk:ps.length=k)(ml:List (Nat×Blk))(hs:CanA Bd ps args args' H H0 ml)(h:W args' (mem H0 ml) (Bd+k) K):ToC W args H Bd K:=by
 have hH:∀n b,H0 n=some b→n<Bd∧∀v∈b.cells,NB Bd v:=fun n b hn=>⟨Nat.lt_of_lt_of_le (hb_in hb hn) hB0,fun v hv=>(hb.nb n b hn v hv).up hB0⟩
 obtain⟨hle,h1,h2,h3⟩:=hs
 refine⟨srcs ps args H,args',mem H0 ml,?_,by rw[srcs_len,hk];exact h⟩
 obtain⟨g1,g2⟩:=sgQ_spec h1
 have hm:∀ {v u},RQ (srcs ps args H) Bd (goneL H0 ml (srcs ps args H)) H v u→RQ (srcs ps args H) Bd (gone (mem H0 ml) (srcs ps args H)) H v u:=fun hq=>hq.mono fun _=>goneL_spec
 have hml:∀ {xs ys},rql (srcs ps args H) Bd (goneL H0 ml (srcs ps args H)) H xs ys→rql (srcs ps args H) Bd (gone (mem H0 ml) (srcs ps args H)) H xs ys:=fun hq=>⟨hq.1,fun i v u a b=>hm (hq.2 i v u a b)⟩
 have hlow:∀ {o cs b},lowQ (srcs ps args H) Bd (goneL H0 ml (srcs ps args H)) H o cs b→∃b',b=some b'∧b'.own=o∧rql (srcs ps args H) Bd (gone (mem H0 ml) (srcs ps args H)) H cs b'.cells:=fun{o cs b} hq=>by
  cases b with
  |none=>exact hq.elim
  |some b=>exact⟨b,rfl,hq.1,hml hq.2⟩
 refine⟨h2.1.symm,fun i v u e1 e2=> .inr (hm (h2.2 i v u e1 e2)),fun k b hk hb=> ?_,fun k b hk hb=> ?_,g1,g2⟩
 ·rcases memQ_get h3 k b hb with h0|hq
  ·exact⟨b,hle k b h0,rfl,rfl,fun i v u e1 e2=>by rw[e1]at e2;cases e2;exact .same ((hH k b h0).2 v (List.mem_of_getElem? e1))⟩
  ·rcases hq with⟨_,hq⟩|⟨hge,_⟩
   ·obtain⟨b',a1,a2,a3⟩:=hlow hq
    exact⟨b',a1,a2,a3⟩
   ·omega
 ·rcases memQ_get h3 k b hb with h0|hq
  ·exact absurd (hH k b h0).1 (by omega)
  ·rcases hq with⟨hlt,_⟩|⟨_,ho,hq⟩
   ·omega
   ·refine⟨ho,?_⟩
    unfold hiQ at hq
    split at hq
    ·rename_i m hs
     obtain⟨b',a1,a2,a3⟩:=hlow hq
     exact .inr ⟨m,b',hs,a1,a2,a3⟩
    ·rename_i hs
     exact .inl ⟨hs,hq⟩
    ·exact hq.elim
section
variable {σ:List (Option Nat)} {S:Nat→Prop} {H:AH}
@[go_sem high] theorem blkQ_hiK {B k j:Nat} (h:k≤j) (b:Blk):blkQ σ (B+k) S H (B+j) b=(b.own=true∧hiQ σ (B+k) S H b.cells σ[j-k]?):=by
 have:=blkQ_hi (N:=B+k) (σ:=σ) (S:=S) (H:=H) (j-k) b
 rw[show B+k+(j-k)=B+j by omega]at this;exact this
@[go_sem] theorem rq_slNK{B n j k l c:Nat}(h:n≤j):RQ σ (B+n) S H (.slice (some ⟨B+j,0,some k⟩) l c) (.slice none 0 0)=(σ[j-n]? =some none∧l=0∧c=1):=by
 have:=rq_sln (N:=B+n) (σ:=σ) (S:=S) (H:=H) (i:=j-n) (k:=k) (l:=l) (c:=c)
 rw[show B+n+(j-n)=B+j by omega]at this;exact this
end
section
variable {σ:List (Option Nat)} {N:Nat} {S:Nat→Prop} {H:AH}
@[go_sem] theorem rq_two{m c:Nat}{a b:Int}(hb:H m=some ⟨[.int .i64 a, .int .i64 b],true⟩)(hS:S m):RQ σ N S H (lst [a,b]) (.slice (some ⟨m,0,some 1⟩) 2 c)=True:=
 eq_true (rq_pubI (k:=1) (xs:=[a,b]) hb (by simp[qQ,jS]) hS rfl)
end
attribute [go_sem] flat_ok
class LenOf (l:List Value) (n:outParam Nat):Prop where
 h:l.length=n
instance :LenOf [] 0:=⟨rfl⟩
instance {v:Value} {l:List Value} {n:Nat} [h:LenOf l n]:LenOf (v::l) (n+1):=⟨by rw[List.length_cons,h.h]⟩
instance {a b:List Value} {n m:Nat} [h:LenOf a n] [k:LenOf b m]:LenOf (a++b) (n+m):=⟨by rw[List.length_append,h.h,k.h]⟩
instance {α:Type} [Enc α] [hk:EncK α 1] (xs:List α):LenOf (qQ xs) xs.length:=⟨by rw[jT,hk.h,Nat.mul_one]⟩
theorem take_lo{l:List Value}{n k:Nat}[h:LenOf l k](e:k≤n):l.take n=l:=List.take_of_length_le (by rw[h.h];exact e)
theorem len_lo{l:List Value}{k:Nat}[h:LenOf l k]:l.length=k:=h.h
end Go.SC
namespace Go.SC
open Go
noncomputable def yG{X:Type}(f:X→Blk)(b:Blk):Option X:=open Classical in if h:∃x,b=f x then some (Classical.choose h)else none
theorem viewOf_eq{X:Type}{f:X→Blk}(hf:∀x y,f x=f y→x=y)(x:X):yG f (f x)=some x:=by
 have h:∃y,f x=f y:=⟨x,rfl⟩
 unfold yG
 rw[dif_pos h,←hf _ _ (Classical.choose_spec h)]
theorem kV{X:Type}{f:X→Blk}{b:Blk}{x:X}(h:yG f b=some x):b=f x:=by
 unfold yG at h
 split at h
 ·rename_i hq;cases h;exact Classical.choose_spec hq
 ·cases h
theorem flat_inj{α:Type}[Enc α]:∀ {xs ys:List α},qQ xs=qQ ys→xs=ys
 |[],[],_=>rfl
 |[],y::ys,h=>by
  have hk:0<Enc.k α:=Enc.pos
  have:=congrArg List.length h
  rw[jT,jT]at this
  simp only[List.length_nil,Nat.zero_mul,List.length_cons]at this
  rw[Nat.succ_mul]at this;omega
 |x::xs,[],h=>by
  have hk:0<Enc.k α:=Enc.pos
  have:=congrArg List.length h
  rw[jT,jT]at this
  simp only[List.length_nil,Nat.zero_mul,List.length_cons]at this
  rw[Nat.succ_mul]at this;omega
 |x::xs,y::ys,h=>by
  rw[jO,jO]at h
  have:=List.append_inj h (by rw[yC,yC])
  rw[enc_inj this.1,flat_inj this.2]
def flB{α:Type}[Enc α](xs:List α):Blk:=⟨qQ xs,true⟩
@[go_sem] theorem viewOf_fl{α:Type}[Enc α](xs:List α):yG (flB (α:=α)) ⟨qQ xs,true⟩=some xs:=
 viewOf_eq (f:=flB (α:=α)) (fun x y h=>flat_inj (Blk.mk.inj h).1) xs
@[go_sem] theorem viewOf_flnil{α:Type}[Enc α]:yG (flB (α:=α)) ⟨[],true⟩=some []:=viewOf_fl ([]:List α)
def badN(n:GNode)(depth:Int)(low high:List UInt8):Bool:=
 decide (4<depth)||(decide (1<depth)&&decide (n.keys.length<2))||decide (n.keys.length<1)||n.keys.any (fun k=> !inB k low high)
def rowN(n:GNode)(i:Nat):GRow:=⟨n.keys.getD i [],n.values.getD i 0⟩
def rowsN(n:GNode)(i:Nat):List GRow:=(List.range i).map (rowN n)
theorem rowsN_succ(n:GNode)(i:Nat):rowsN n (i+1)=rowsN n i++[rowN n i]:=by simp[rowsN,List.range_succ]
theorem rowsN_len(n:GNode)(i:Nat):(rowsN n i).length=i:=by simp[rowsN]
def loB(n:GNode)(low:List UInt8)(i:Nat):List UInt8:=if 0<i then n.keys.getD (i-1) []else low
def hiB(n:GNode)(high:List UInt8)(i:Nat):List UInt8:=if i<n.keys.length then n.keys.getD i []else high
abbrev Vis:=Int→List UInt8→List UInt8→GL17Walk→Int×GL17Walk
def visK(g:Vis)(n:GNode)(low high:List UInt8):Nat→Nat→GL17Walk→Int×GL17Walk
 |0,_,w=>(0,w)
 |k+1,i,w=>if(g (n.kids.getD i 0) (loB n low i) (hiB n high i) w).1≠0 then g (n.kids.getD i 0) (loB n low i) (hiB n high i) w else visK g n low high k (i+1) (g (n.kids.getD i 0) (loB n low i) (hiB n high i) w).2
def vis(ins:List Int→Int→List Int)(d:GDisk):Nat→Int→List UInt8→List UInt8→Int→GL17Walk→Int×GL17Walk
 |0,_,_,_,_,w=>(8,w)
 |f+1,id,low,high,depth,w=>
  if hasI w.pages id=true then(8,w)
  else if(jQ d id).2≠0 then((jQ d id).2,w)
  else if badN (jQ d id).1 depth low high=true then(8,w)
  else if(jQ d id).1.leaf=true then
   if w.deep=0∨w.deep=depth then(0,⟨ins w.pages id,w.rows++rowsN (jQ d id).1 (jQ d id).1.keys.length,depth⟩)else(8,⟨ins w.pages id,w.rows,w.deep⟩)
  else visK (fun k a b w=>vis ins d f k a b (depth+1) w) (jQ d id).1 low high (jQ d id).1.kids.length 0 ⟨ins w.pages id,w.rows,w.deep⟩
section
variable {ins:List Int→Int→List Int} {d:GDisk} {f:Nat} {id:Int} {low high:List UInt8} {depth:Int} {w:GL17Walk}
theorem vis_has(h:hasI w.pages id=true):vis ins d (f+1) id low high depth w=(8,w):=by rw[vis,if_pos h]
theorem vis_code(h:¬hasI w.pages id=true)(h2:(jQ d id).2≠0):vis ins d (f+1) id low high depth w=((jQ d id).2,w):=by rw[vis,if_neg h,if_pos h2]
theorem vis_bad(h:¬hasI w.pages id=true)(h2:(jQ d id).2=0)(h3:badN (jQ d id).1 depth low high=true):vis ins d (f+1) id low high depth w=(8,w):=by rw[vis,if_neg h,if_neg (by simpa using h2),if_pos h3]
theorem vis_leaf(h:¬hasI w.pages id=true)(h2:(jQ d id).2=0)(h3:¬badN (jQ d id).1 depth low high=true)(h4:(jQ d id).1.leaf=true)(h5:w.deep=0∨w.deep=depth):
  vis ins d (f+1) id low high depth w=(0,⟨ins w.pages id,w.rows++rowsN (jQ d id).1 (jQ d id).1.keys.length,depth⟩):=by rw[vis,if_neg h,if_neg (by simpa using h2),if_neg h3,if_pos h4,if_pos h5]
theorem vis_leafN(h:¬hasI w.pages id=true)(h2:(jQ d id).2=0)(h3:¬badN (jQ d id).1 depth low high=true)(h4:(jQ d id).1.leaf=true)(h5:¬(w.deep=0∨w.deep=depth)):
  vis ins d (f+1) id low high depth w=(8,⟨ins w.pages id,w.rows,w.deep⟩):=by rw[vis,if_neg h,if_neg (by simpa using h2),if_neg h3,if_pos h4,if_neg h5]
theorem vis_kids(h:¬hasI w.pages id=true)(h2:(jQ d id).2=0)(h3:¬badN (jQ d id).1 depth low high=true)(h4:¬(jQ d id).1.leaf=true):
  vis ins d (f+1) id low high depth w=visK (fun k a b w=>vis ins d f k a b (depth+1) w) (jQ d id).1 low high (jQ d id).1.kids.length 0 ⟨ins w.pages id,w.rows,w.deep⟩:=by rw[vis,if_neg h,if_neg (by simpa using h2),if_neg h3,if_neg h4]
theorem nodeD_ok(h:(jQ d id).2=0):kO (jQ d id).1=0:=by
 unfold jQ at h ⊢
 split at h
 ·cases h
 ·rename_i h1
  rw[if_neg h1]
  split at h
  ·rename_i h2;exact absurd h h2
  ·rename_i h2
   rw[if_neg h2]
   show kO (rdN _ _).node=0
   have h:(rdN (qV (yD d id) id).1.kind (qV (yD d id) id).1.body).code=0:=h
   generalize (qV (yD d id) id).1=p at h ⊢
   unfold rdN at h ⊢
   split at h
   ·cases h
   ·rename_i h3
    rw[if_neg h3]
    split at h
    ·rename_i h4
     rw[if_pos h4]
     have:=prsN_some (leaf:=decide (p.kind=1)) (body:=p.body) (n:=(prsN (decide (p.kind=1)) p.body).1) (Prod.ext rfl h4)
     obtain⟨_,p',ks,vs,_,_,_,hz⟩:=this
     exact hz
    ·cases h
end
structure Grow (f:Nat) (w w':GL17Walk):Prop where
 pages:w'.pages.length≤w.pages.length+f
 rows:w'.rows.length≤w.rows.length+4*f
theorem Grow.refl(f:Nat)(w:GL17Walk):Grow f w w:=⟨by omega,by omega⟩
theorem Grow.trans{f g:Nat}{a b c:GL17Walk}(h:Grow f a b)(k:Grow g b c):Grow (f+g) a c:=⟨by have:=h.pages;have:=k.pages;omega,by have:=h.rows;have:=k.rows;omega⟩
theorem Grow.up{f g:Nat}{a b:GL17Walk}(h:Grow f a b)(hle:f≤g):Grow g a b:=⟨by have:=h.pages;omega,by have:=h.rows;omega⟩
theorem visK_grow{g:Vis}{n:GNode}{low high:List UInt8}{F:Nat}(hg:∀k a b w,Grow F w (g k a b w).2):∀(k i:Nat) (w:GL17Walk),Grow (k*F) w (visK g n low high k i w).2
 |0,i,w=>Grow.refl _ _
 |k+1,i,w=>by
  have h1:=hg (n.kids.getD i 0) (loB n low i) (hiB n high i) w
  rw[visK]
  split
  ·exact h1.up (by rw[Nat.succ_mul];omega)
  ·have:=h1.trans (visK_grow (n:=n) (low:=low) (high:=high) hg k (i+1) _)
   rw[Nat.succ_mul,Nat.add_comm];exact this
theorem vis_grow{ins:List Int→Int→List Int}(hi:∀l n,(ins l n).length≤l.length+1)(d:GDisk):∀(f:Nat) (id:Int) (low high:List UInt8) (depth:Int) (w:GL17Walk),Grow (6^f) w (vis ins d f id low high depth w).2
 |0,_,_,_,_,w=>Grow.refl _ _
 |f+1,id,low,high,depth,w=>by
  have hpos:0<6^f:=Nat.pow_pos (by omega)
  have h6:6^(f+1)=6*6^f:=by rw[Nat.pow_succ];omega
  have hp:=hi w.pages id
  by_cases h1:hasI w.pages id=true
  ·rw[vis_has h1];exact Grow.refl _ _
  by_cases h2:(jQ d id).2=0
  case neg=>rw[vis_code h1 h2];exact Grow.refl _ _
  by_cases h3:badN (jQ d id).1 depth low high=true
  ·rw[vis_bad h1 h2 h3];exact Grow.refl _ _
  have hN:=node_ok (nodeD_ok h2)
  have hkl:=hN.kl
  by_cases h4:(jQ d id).1.leaf=true
  ·by_cases h5:w.deep=0∨w.deep=depth
   ·rw[vis_leaf h1 h2 h3 h4 h5]
    exact⟨show(ins w.pages id).length≤_ by omega,show(w.rows++rowsN _ _).length≤_ by rw[List.length_append,rowsN_len];omega⟩
   ·rw[vis_leafN h1 h2 h3 h4 h5]
    exact⟨show(ins w.pages id).length≤_ by omega,show w.rows.length≤_ by omega⟩
  ·rw[vis_kids h1 h2 h3 h4]
   have hk:=(hN.kids (by simpa using h4)).2.2.1
   have h5:=visK_grow (n:=(jQ d id).1) (low:=low) (high:=high) (fun k a b w=>vis_grow hi d f k a b (depth+1) w) (jQ d id).1.kids.length 0 ⟨ins w.pages id,w.rows,w.deep⟩
   have h6':(jQ d id).1.kids.length*6^f≤5*6^f:=Nat.mul_le_mul_right _ (by omega)
   refine⟨Nat.le_trans h5.pages ?_,Nat.le_trans h5.rows ?_⟩
   ·show(ins w.pages id).length+_≤_;omega
   ·show w.rows.length+_≤_;omega
theorem oneV_cnt{body:List UInt8}(h:1≤body.length):yI (body,false)=((body.getD 0 0).toNat:Int):=oneV_at (p:=0) h
theorem rd_fin{leaf:Bool}{body rest:List UInt8}{ks:List (List UInt8)}{vs kids:List Int}{fd:Bool}{kind:Int}(hk:kind=1∨kind=2)(hl:decide (kind=1)=leaf)
  (h:(fd=false∧1≤body.length∧∃p,prs leaf body (body.getD 0 0).toNat=some (p,ks,vs)∧kids=kidsE leaf body p ((body.getD 0 0).toNat+1)∧rest=body.drop (p+kids.length))∨(fd=true∧(prsN leaf body).2=false)):
  (endV (rest,fd)=true→kO ⟨leaf,ks,vs,kids⟩=0→packN' ⟨leaf,ks,vs,kids⟩=body∧rdN kind body=⟨0,⟨leaf,ks,vs,kids⟩⟩)∧((endV (rest,fd)=false∨kO ⟨leaf,ks,vs,kids⟩≠0)→rdN kind body=⟨5,noNd⟩):=by
 subst hl
 rcases h with⟨rfl,hb,p,hp,rfl,rfl⟩|⟨rfl,hn⟩
 ·have hple:p≤body.length:=prs_le hb hp
  have hkb:(kidsE (decide (kind=1)) body p ((body.getD 0 0).toNat+1)).length≤body.length-p:=by
   unfold kidsE vI
   split
   ·simp
   ·rw[List.length_map,List.length_take,List.length_drop];omega
  refine⟨fun h1 h2=> ?_,fun h=>rdN_F hk ?_⟩
  ·have he:p+(kidsE (decide (kind=1)) body p ((body.getD 0 0).toNat+1)).length=body.length:=by
    unfold endV at h1
    simp only[Bool.not_false,Bool.true_and,decide_eq_true_eq,List.length_drop]at h1
    omega
   obtain⟨g1,g2⟩:=prsN_T hb hp he h2
   exact⟨g2,rdN_T hk g1⟩
  ·refine prsN_bad hp fun⟨h1,h2⟩=>h.elim (fun h=> ?_) fun h=>h h2
   unfold endV at h
   simp only[Bool.not_false,Bool.true_and,decide_eq_false_iff_not,List.length_drop]at h
   omega
 ·exact⟨fun h=>by unfold endV at h;simp at h,fun _=>rdN_F hk hn⟩
noncomputable def dataOf{α:Type}[Enc α](cs:List Value):Option α:=open Classical in if h:∃x:α,cs=enc x then some (Classical.choose h)else none
theorem dataOf_enc{α:Type}[Enc α](x:α):dataOf (enc x)=some x:=by
 have h:∃y:α,enc x=enc y:=⟨x,rfl⟩
 unfold dataOf
 rw[dif_pos h,←enc_inj (Classical.choose_spec h)]
theorem dataOf_out{α:Type}[Enc α]{cs:List Value}{x:α}(h:dataOf cs=some x):cs=enc x:=by
 unfold dataOf at h
 split at h
 ·rename_i hq;cases h;exact Classical.choose_spec hq
 ·cases h
@[go_sem] theorem dataOf_GDisk(a:List (List UInt8))(b:List GPut):dataOf (α:=GDisk) [lst a,lst b]=some ⟨a,b⟩:=dataOf_enc (⟨a,b⟩:GDisk)
def wkB(x:List Int×Nat×Nat×Nat×Int):Blk:=⟨[lst x.1, .slice (some ⟨x.2.1,0,some 2⟩) x.2.2.1 x.2.2.2.1, .int .i64 x.2.2.2.2],true⟩
@[go_sem] theorem viewOf_wk(p:List Int)(m l c:Nat)(z:Int):yG wkB ⟨[lst p, .slice (some ⟨m,0,some 2⟩) l c, .int .i64 z],true⟩=some (p,m,l,c,z):=
 viewOf_eq (f:=wkB) (fun x y h=>by
  unfold wkB at h
  simp only[Blk.mk.injEq,List.cons.injEq,lst_inj,Value.slice.injEq,Option.some.injEq,Addr.mk.injEq,Value.int.injEq,true_and,and_true]at h
  obtain⟨h1,⟨h2,h3,h4⟩,h5⟩:=h
  exact Prod.ext h1 (Prod.ext h2 (Prod.ext h3 (Prod.ext h4 h5)))) (p,m,l,c,z)
theorem rowsN_zero(n:GNode):rowsN n 0=[]:=rfl
theorem getD_some{α:Type}{l:List α}{i:Nat}{x d:α}(h:l[i]? =some x):l.getD i d=x:=by rw[List.getD_eq_getElem?_getD,h];rfl
theorem visK_succ{g:Vis}{n:GNode}{low high:List UInt8}{k i:Nat}{w:GL17Walk}(h:¬(g (n.kids.getD i 0) (loB n low i) (hiB n high i) w).1≠0):visK g n low high (k+1) i w=visK g n low high k (i+1) (g (n.kids.getD i 0) (loB n low i) (hiB n high i) w).2:=by rw[visK,if_neg h]
theorem visK_stop{g:Vis}{n:GNode}{low high:List UInt8}{k i:Nat}{w:GL17Walk}(h:(g (n.kids.getD i 0) (loB n low i) (hiB n high i) w).1≠0):visK g n low high (k+1) i w=g (n.kids.getD i 0) (loB n low i) (hiB n high i) w:=by rw[visK,if_pos h]
def noWk:GL17Walk:=⟨[],[],0⟩
def jR(d:GDisk)(root:Int):GL17Walk×Int:=if root=0 then(noWk,0)else if(vis kJ d 5 root [] [] 1 noWk).1≠0 then(noWk,(vis kJ d 5 root [] [] 1 noWk).1)else((vis kJ d 5 root [] [] 1 noWk).2,0)
def chn(d:GDisk):Nat→Int→List UInt8→List Int→List UInt8×List Int×Int
 |0,_,_,_=>([],[],2)
 |f+1,id,data,pages=>
  if ¬(2≤id∧id≤(d.sectors.length:Int)-1)then([],[],3)
  else if hasI pages id=true then([],[],8)
  else if(qV (yD d id) id).2≠0 then([],[],(qV (yD d id) id).2)
  else if(qV (yD d id) id).1.kind≠3∨(qV (yD d id) id).1.body.length<2 then([],[],1)
  else if 400<(data++(qV (yD d id) id).1.body.drop 1).length then([],[],2)
  else if((qV (yD d id) id).1.body.getD 0 0).toNat=0 then(data++(qV (yD d id) id).1.body.drop 1,pages++[id],0)
  else chn d f ((qV (yD d id) id).1.body.getD 0 0).toNat (data++(qV (yD d id) id).1.body.drop 1) (pages++[id])
def qT(d:GDisk)(head:Int):List UInt8×List Int×Int:=chn d 401 head [] []
def chainR(d:GDisk)(head:Int):GChainResult:=if yN d≠0 then⟨yN d,[],[]⟩else⟨(qT d head).2.2,(qT d head).1,(qT d head).2.1⟩
theorem kK(l:List Int)(n:Int):(l.any fun x=>decide (n=x))=hasI l n:=by
 unfold hasI
 congr 1
 funext x
 exact decide_eq_decide.2 ⟨fun h=>h.symm,fun h=>h.symm⟩
theorem cmpB_anti:∀(a b:List UInt8),Lib.compareBytes a b= -Lib.compareBytes b a
 |[],[]=>rfl
 |[],b::ys=>rfl
 |a::xs,[]=>rfl
 |a::xs,b::ys=>by
  have ih:=cmpB_anti xs ys
  unfold Lib.compareBytes
  rcases Nat.lt_trichotomy a.toNat b.toNat with h|h|h
  ·have h1:a<b:=h
   have h2:¬b<a:=fun g=>Nat.lt_asymm h g
   simp[h1,h2]
  ·obtain rfl:=UInt8.toNat_inj.1 h
   have h1:¬a<a:=Nat.lt_irrefl _
   simp[h1,ih]
  ·have h1:b<a:=h
   have h2:¬a<b:=fun g=>Nat.lt_asymm h g
   simp[h1,h2]
def bvV(l:List UInt8):Value:=if l=[]then .slice none 0 0 else lst l
theorem bvV_inj{a b:List UInt8}(h:bvV a=bvV b):a=b:=by
 unfold bvV at h
 split at h <;>split at h
 ·rename_i h1 h2;rw[h1,h2]
 ·unfold lst LST at h;cases h
 ·unfold lst LST at h;cases h
 ·exact lst_inj.1 h
noncomputable def bvOf(v:Value):Option (List UInt8):=open Classical in if h:∃x,v=bvV x then some (Classical.choose h)else none
theorem bvOf_eq(x:List UInt8):bvOf (bvV x)=some x:=by
 have h:∃y,bvV x=bvV y:=⟨x,rfl⟩
 unfold bvOf
 rw[dif_pos h,←bvV_inj (Classical.choose_spec h)]
theorem bvOf_out{v:Value}{x:List UInt8}(h:bvOf v=some x):v=bvV x:=by
 unfold bvOf at h
 split at h
 ·rename_i hq;cases h;exact Classical.choose_spec hq
 ·cases h
@[go_sem] theorem bvOf_nil:bvOf (.slice none 0 0)=some []:=by
 have:=bvOf_eq []
 simpa[bvV]using this
@[go_sem] theorem bvOf_lst{xs:List UInt8}(h:xs≠[]):bvOf (lst xs)=some xs:=by
 have:=bvOf_eq xs
 simpa[bvV,h]using this
def twB(x:List (List UInt8)×List GPut×Nat×Nat×Nat×Nat×Nat×Nat×Int):Blk:=
 ⟨[lst x.1,lst x.2.1, .slice (some ⟨x.2.2.1,0,some 1⟩) x.2.2.2.1 x.2.2.2.2.1, .slice (some ⟨x.2.2.2.2.2.1,0,some 2⟩) x.2.2.2.2.2.2.1 x.2.2.2.2.2.2.2.1, .int .i64 x.2.2.2.2.2.2.2.2],true⟩
@[go_sem] theorem viewOf_tw(s:List (List UInt8))(p:List GPut)(m l c m2 l2 c2:Nat)(z:Int):yG twB ⟨[lst s,lst p, .slice (some ⟨m,0,some 1⟩) l c, .slice (some ⟨m2,0,some 2⟩) l2 c2, .int .i64 z],true⟩=some (s,p,m,l,c,m2,l2,c2,z):=
 viewOf_eq (f:=twB) (fun x y h=>by
  obtain⟨x1,x2,x3,x4,x5,x6,x7,x8,x9⟩:=x
  obtain⟨y1,y2,y3,y4,y5,y6,y7,y8,y9⟩:=y
  unfold twB at h
  simp only[Blk.mk.injEq,List.cons.injEq,lst_inj,Value.slice.injEq,Option.some.injEq,Addr.mk.injEq,Value.int.injEq,true_and,and_true]at h
  obtain⟨h1,h2,⟨h3,h4,h5⟩,⟨h6,h7,h8⟩,h9⟩:=h
  subst h1;subst h2;subst h3;subst h4;subst h5;subst h6;subst h7;subst h8;subst h9;rfl) (s,p,m,l,c,m2,l2,c2,z)
theorem out3{H:AH}{n m k:Nat}{b c e:Blk}(hn:H n=some b)(hm:H m=some c)(hk:H k=some e)(hd:n≠m)(hd2:n≠k)(hd3:m≠k):∃G,H=upd (upd (upd G n (some b)) m (some c)) k (some e)∧(free G n∧free G m∧free G k)∧upd (upd (upd H n none) m none) k none=G∧∀Bd,HB H Bd→HB G Bd:=by
 obtain⟨G1,e1,⟨f1,f2⟩,g1,h1⟩:=out2 hn hm hd
 have hk1:G1 k=some e:=by rw[←g1,qF _ _ (fun q=>hd3 q.symm),qF _ _ (fun q=>hd2 q.symm)];exact hk
 obtain⟨G,e2,f3,g2,h2⟩:=out1 hk1
 refine⟨G,?_,⟨?_,?_,f3⟩,by rw[g1];exact g2,fun Bd h=>h2 Bd (h1 Bd h)⟩
 ·rw[e1,e2,upd_comm (m:=k) (n:=n) (fun q=>hd2 q.symm),upd_comm (m:=k) (n:=m) (fun q=>hd3 q.symm)]
 ·have:G n=none:=by rw[←g2,qF _ _ hd2];exact f1
  exact this
 ·have:G m=none:=by rw[←g2,qF _ _ hd3];exact f2
  exact this
theorem inB_yes{k low high:List UInt8}(h1:low=[]∨¬Lib.compareBytes k low<0)(h2:high=[]∨¬0≤Lib.compareBytes k high):(!inB k low high)=false:=by
 have:=cmpB_anti k low
 unfold inB
 have g1:(decide (low.length=0)||decide (Lib.compareBytes low k≤0))=true:=by
  rcases h1 with rfl|h
  ·rfl
  ·simp only[Bool.or_eq_true,decide_eq_true_eq];omega
 have g2:(decide (high.length=0)||decide (Lib.compareBytes k high<0))=true:=by
  rcases h2 with rfl|h
  ·rfl
  ·simp only[Bool.or_eq_true,decide_eq_true_eq];omega
 rw[g1,g2];rfl
theorem inB_no1{k low high:List UInt8}(h:low≠[])(h1:Lib.compareBytes k low<0):(!inB k low high)=true:=by
 have:=cmpB_anti k low
 unfold inB
 have g1:(decide (low.length=0)||decide (Lib.compareBytes low k≤0))=false:=by
  simp only[Bool.or_eq_false_iff,decide_eq_false_iff_not]
  exact⟨fun e=>h (List.eq_nil_of_length_eq_zero e),by omega⟩
 rw[g1];rfl
theorem inB_no2{k low high:List UInt8}(h:high≠[])(h1:0≤Lib.compareBytes k high):(!inB k low high)=true:=by
 unfold inB
 have g2:(decide (high.length=0)||decide (Lib.compareBytes k high<0))=false:=by
  simp only[Bool.or_eq_false_iff,decide_eq_false_iff_not]
  exact⟨fun e=>h (List.eq_nil_of_length_eq_zero e),by omega⟩
 rw[g2];simp
theorem bvV_ne{l:List UInt8}(h:l≠[]):bvV l=lst l:=if_neg h
end Go.SC
namespace Go.SC
theorem len_pos{α:Type}{l:List α}(h:l≠[]):0<l.length:=List.length_pos_iff.2 h
@[go_sem] theorem anil_nn:anil (.slice none 0 0) (.slice none 0 0)=some true:=(rfl)
def jU(d:GDisk)(root:Int):Int×GL17Walk:=if root=0 then(0,noWk)else vis (fun l n=>l++[n]) d 5 root [] [] 1 noWk
def twC(d:GDisk)(w:GL17Walk)(a b:Nat):List Value:=[lst d.sectors,lst d.pending, .slice (some ⟨a,0,some 1⟩) w.pages.length (w.pages.length+1), .slice (some ⟨b,0,some 2⟩) w.rows.length (w.rows.length+1), .int .i64 w.deep]
@[go_sem] theorem twC_eq(d:GDisk)(w:GL17Walk)(a b:Nat):twC d w a b=[lst d.sectors,lst d.pending, .slice (some ⟨a,0,some 1⟩) w.pages.length (w.pages.length+1), .slice (some ⟨b,0,some 2⟩) w.rows.length (w.rows.length+1), .int .i64 w.deep]:=(rfl)
def kR(d:GDisk)(root:Int):Int×GDisk×GL17Walk:=if yN d≠0 then(yN d,⟨[],[]⟩,noWk)else((jU d root).1,d,(jU d root).2)
def pagesR(d:GDisk)(root:Int):GIntsResult:=if(kR d root).1≠0 then⟨(kR d root).1,[]⟩else⟨0,vM (jU d root).2.pages⟩
theorem treeI_len(d:GDisk)(root:Int):(jU d root).2.pages.length≤7776∧(jU d root).2.rows.length≤31104:=by
 unfold jU
 split
 ·exact⟨Nat.zero_le _,Nat.zero_le _⟩
 ·have h:=vis_grow (ins:=fun l n=>l++[n]) (fun l n=>by simp) d 5 root [] [] 1 noWk
  have h1:=h.pages
  have h2:=h.rows
  have e1:noWk.pages.length=0:=rfl
  have e2:noWk.rows.length=0:=rfl
  rw[e1]at h1;rw[e2]at h2
  exact⟨by omega,by omega⟩
def keptA(d:GDisk)(p:GSuper):List Int:=vM (jU d p.root).2.pages
def keptB(d:GDisk)(p:GSuper):List Int:=vM (jU d p.root).2.pages++vM (jU d p.shadow).2.pages
def keptN(d:GDisk)(p:GSuper):List Int:=if p.next_=0 then []else(qT d p.next_).2.1
def keptL(d:GDisk)(p:GSuper):List Int:=keptB d p++(qT d p.theory).2.1++keptN d p
def vO(d:GDisk)(p:GSuper):GIntsResult:=
 if(jU d p.root).1≠0 then⟨(jU d p.root).1,[]⟩
 else if(jU d p.shadow).1≠0 then⟨(jU d p.shadow).1,[]⟩
 else if(qT d p.theory).2.2≠0 then⟨(qT d p.theory).2.2,[]⟩
 else if p.next_≠0∧(qT d p.next_).2.2≠0 then⟨(qT d p.next_).2.2,[]⟩
 else if incI (vM (keptL d p))=true then⟨0,vM (keptL d p)⟩else⟨6,[]⟩
def keptR(d:GDisk)(p:GSuper):GIntsResult:=if yN d≠0 then⟨yN d,[]⟩else if yO p≠0 then⟨yO p,[]⟩else vO d p
theorem chn_len(d:GDisk):∀(f:Nat) (id:Int) (data:List UInt8) (pages:List Int),(chn d f id data pages).2.1.length≤pages.length+f
 |0,_,_,_=>by simp[chn]
 |f+1,id,data,pages=>by
  rw[chn]
  split
  ·simp
  ·split
   ·simp
   ·split
    ·simp
    ·split
     ·simp
     ·split
      ·simp
      ·split
       ·simp <;>omega
       ·have:=chn_len d f ((qV (yD d id) id).1.body.getD 0 0).toNat (data++(qV (yD d id) id).1.body.drop 1) (pages++[id])
        rw[List.length_append]at this
        simp only[List.length_cons,List.length_nil]at this
        omega
theorem chainD_len(d:GDisk)(h:Int):(qT d h).2.1.length≤401:=by
 have:=chn_len d 401 h [] []
 simpa[qT]using this
theorem keptL_len(d:GDisk)(p:GSuper):(keptL d p).length≤20000:=by
 have h1:=(treeI_len d p.root).1
 have h2:=(treeI_len d p.shadow).1
 have h3:=chainD_len d p.theory
 have h4:=chainD_len d p.next_
 unfold keptL keptB keptN
 rw[List.length_append,List.length_append,List.length_append,kI,kI]
 split
 ·simp only[List.length_nil];omega
 ·omega
structure SuperOK (p:GSuper):Prop where
 gen:1≤p.gen∧p.gen≤60000
 ver:1≤p.version∧p.version≤60000
 root:0≤p.root∧p.root≤63
 shadow:0≤p.shadow∧p.shadow≤63
 next_:0≤p.next_∧p.next_≤63
 theory:2≤p.theory∧p.theory≤63
 cur:p.cursor.length≤16
 sig:yK p.symbols=0
 mov:p.moving=true→p.next_≠0
 rest:p.moving=false→p.shadow=0∧p.next_=0∧p.cursor=[]
theorem isRt_rg{n:Int}(h:isRt n=true):0≤n∧n≤63:=by
 unfold isRt isPg at h
 simp only[Bool.or_eq_true,decide_eq_true_eq]at h
 omega
theorem kH{p:GSuper}(h:yO p=0):SuperOK p:=by
 unfold yO at h
 split at h
 ·rename_i h1
  obtain⟨⟨g,v⟩,a,b,c,t⟩:=h1
  split at h
  ·omega
  ·rename_i h2
   split at h
   ·omega
   ·rename_i h3
    have ht:2≤p.theory∧p.theory≤63:=of_decide_eq_true t
    refine⟨g,v,isRt_rg a,isRt_rg b,isRt_rg c,ht,by omega,h,fun hm hn=>h3 (.inl ⟨hm,hn⟩),fun hm=> ?_⟩
    refine⟨Decidable.not_not.1 fun hq=>h3 (.inr ⟨hm, .inl hq⟩),Decidable.not_not.1 fun hq=>h3 (.inr ⟨hm, .inr (.inl hq)⟩),?_⟩
    exact List.eq_nil_of_length_eq_zero (Nat.eq_zero_of_not_pos fun hq=>h3 (.inr ⟨hm, .inr (.inr hq)⟩))
 ·omega
theorem pagesR_ok{d:GDisk}{root:Int}(hd:yN d=0):pagesR d root=if(jU d root).1≠0 then⟨(jU d root).1,[]⟩else⟨0,vM (jU d root).2.pages⟩:=by
 have e:kR d root=((jU d root).1,d,(jU d root).2):=by unfold kR;rw[if_neg (by simpa using hd)]
 unfold pagesR
 rw[e]
theorem chainR_ok{d:GDisk}{h:Int}(hd:yN d=0):chainR d h=⟨(qT d h).2.2,(qT d h).1,(qT d h).2.1⟩:=by
 unfold chainR
 rw[if_neg (by simpa using hd)]
abbrev Rise(l:List Int):Prop:=l.Pairwise (· < ·)
theorem rise_ext:∀ {a b:List Int},Rise a→Rise b→(∀x,x∈a↔x∈b)→a=b
 |[],[],_,_,_=>rfl
 |[],b::bs,_,_,h=>absurd ((h b).2 (List.mem_cons_self)) (by simp)
 |a::xs,[],_,_,h=>absurd ((h a).1 (List.mem_cons_self)) (by simp)
 |a::xs,b::ys,ha,hb,h=>by
  have ha':=List.pairwise_cons.1 ha
  have hb':=List.pairwise_cons.1 hb
  have hab:a=b:=by
   have h1:=(h a).1 List.mem_cons_self
   have h2:=(h b).2 List.mem_cons_self
   rcases List.mem_cons.1 h1 with e|h1
   ·exact e
   ·rcases List.mem_cons.1 h2 with e|h2
    ·exact e.symm
    ·have:=hb'.1 a h1
     have:=ha'.1 b h2
     omega
  subst hab
  rw[rise_ext ha'.2 hb'.2 fun x=> ?_]
  constructor
  ·intro hx
   rcases List.mem_cons.1 ((h x).1 (List.mem_cons_of_mem _ hx))with e|h'
   ·subst e;exact absurd (ha'.1 _ hx) (by omega)
   ·exact h'
  ·intro hx
   rcases List.mem_cons.1 ((h x).2 (List.mem_cons_of_mem _ hx))with e|h'
   ·subst e;exact absurd (hb'.1 _ hx) (by omega)
   ·exact h'
theorem vZ{l:List Int}(h:Rise l):l.Nodup:=h.imp fun h=>by omega
theorem incI_iff:∀ {l:List Int},incI l=true↔Rise l:=fun{l}=>by
 constructor
 ·intro h
  refine List.pairwise_iff_getElem.2 ?_
  have step:∀k (hk:k+1<l.length),l[k]<l[k+1]:=fun k hk=>by
   apply Decidable.byContradiction
   intro hn
   have:=incI_no (List.getElem?_eq_getElem (show k<l.length by omega)) (List.getElem?_eq_getElem hk) hn
   rw[h]at this;cases this
  intro i j hi hj hij
  induction j with
  |zero=>omega
  |succ j ih=>
   rcases Nat.lt_or_ge i j with hq|hq
   ·exact Int.lt_trans (ih (by omega) hq) (step j hj)
   ·obtain rfl:i=j:=by omega
    exact step i hj
 ·intro h
  exact incI_yes fun k x y h1 h2=>by
   obtain⟨hk1,rfl⟩:=List.getElem?_eq_some_iff.1 h1
   obtain⟨hk2,rfl⟩:=List.getElem?_eq_some_iff.1 h2
   exact List.pairwise_iff_getElem.1 h _ _ hk1 hk2 (by omega)
theorem sortI_mem(l:List Int)(x:Int):x∈vM l↔x∈l:=by unfold vM;exact List.mem_mergeSort
theorem sortI_nd(l:List Int):(vM l).Nodup↔l.Nodup:=(List.mergeSort_perm l _).nodup_iff
theorem sortI_le(l:List Int):(vM l).Pairwise (· ≤ ·):=by
 have:=List.pairwise_mergeSort (le:=fun x y:Int=>decide (x≤y)) (fun a b c h1 h2=>by simp at *;omega) (fun a b=>by simp;omega) l
 exact this.imp fun h=>by simpa using h
theorem sortI_rise{l:List Int}:Rise (vM l)↔l.Nodup:=by
 constructor
 ·intro h;exact(sortI_nd l).1 (vZ h)
 ·intro h
  exact((sortI_le l).and ((sortI_nd l).2 h)).imp fun⟨h1,h2⟩=>by omega
theorem putS_inv{l:List Int}(hl:Rise l)(n:Int):∀i,i≤l.length→
  ((kS l n i).2=false→(kS l n i).1=l.take i∧∀x∈l.take i,x<n)∧
  ((kS l n i).2=true→Rise (kS l n i).1∧(∀x,x∈(kS l n i).1↔x=n∨x∈l.take i)∧∃y∈l.take i,n≤y)
 |0,_=>⟨fun _=>⟨by simp[kS],by simp⟩,fun h=>by simp[kS]at h⟩
 |i+1,hi=>by
  obtain⟨h1,h2⟩:=putS_inv hl n i (by omega)
  have hlt:i<l.length:=by omega
  have hg:l.getD i 0=l[i]:=getD_some (List.getElem?_eq_getElem hlt)
  have htk:l.take (i+1)=l.take i++[l[i]]:=List.take_succ_eq_append_getElem hlt
  have hup:∀x∈l.take i,x<l[i]:=fun x hx=>by
   obtain⟨j,hj,rfl⟩:=List.getElem_of_mem hx
   have hj':j<i:=by rw[List.length_take]at hj;omega
   rw[List.getElem_take]
   exact List.pairwise_iff_getElem.1 hl _ _ _ _ hj'
  have htr:Rise (l.take i):=hl.sublist (List.take_sublist _ _)
  rw[kS,hg]
  cases hd:(kS l n i).2 with
  |false=>
   obtain⟨g1,g2⟩:=h1 hd
   by_cases hn:n≤l[i]
   ·rw[if_pos ⟨rfl,hn⟩]
    refine⟨(fun h=>by cases h),fun _=> ?_⟩
    rw[g1,htk]
    by_cases he:l[i]=n
    ·rw[if_pos he]
     refine⟨?_,fun x=> ?_,l[i],List.mem_append_right _ (List.mem_singleton.2 rfl),hn⟩
     ·simp only[List.append_nil]
      exact List.pairwise_append.2 ⟨htr,List.pairwise_singleton _ _,fun x hx y hy=>by rw[List.mem_singleton.1 hy];exact hup x hx⟩
     ·simp only[List.append_nil,List.mem_append,List.mem_singleton]
      rw[he]
      constructor
      ·rintro(h|h)
       ·exact .inr (.inl h)
       ·exact .inl h
      ·rintro(h|h|h)
       ·exact .inr h
       ·exact .inl h
       ·exact .inr h
    ·rw[if_neg he]
     have hlt2:n<l[i]:=by omega
     refine⟨?_,fun x=> ?_,l[i],List.mem_append_right _ (List.mem_singleton.2 rfl),hn⟩
     ·rw[List.append_assoc]
      refine List.pairwise_append.2 ⟨htr,by simp[hlt2],fun x hx y hy=> ?_⟩
      simp only[List.mem_append,List.mem_singleton]at hy
      rcases hy with rfl|rfl
      ·exact g2 x hx
      ·exact hup x hx
     ·simp only[List.mem_append,List.mem_singleton]
      constructor
      ·rintro((h|h)|h)
       ·exact .inr (.inl h)
       ·exact .inl h
       ·exact .inr (.inr h)
      ·rintro(h|h|h)
       ·exact .inl (.inr h)
       ·exact .inl (.inl h)
       ·exact .inr h
   ·rw[if_neg (fun h=>hn h.2)]
    refine⟨fun _=>⟨by rw[g1,htk],fun x hx=> ?_⟩,(fun h=>by cases h)⟩
    rw[htk]at hx
    rcases List.mem_append.1 hx with h|h
    ·exact g2 x h
    ·rw[List.mem_singleton.1 h];omega
  |true=>
   obtain⟨g1,g2,y,g3,g4⟩:=h2 hd
   rw[if_neg (fun h=>by cases h.1)]
   refine⟨(fun h=>by cases h),fun _=> ?_⟩
   refine⟨List.pairwise_append.2 ⟨g1,List.pairwise_singleton _ _,fun x hx z hz=> ?_⟩,fun x=> ?_,y,by rw[htk];exact List.mem_append_left _ g3,g4⟩
   ·rw[List.mem_singleton.1 hz]
    have:=hup y g3
    rcases(g2 x).1 hx with rfl|hx
    ·omega
    ·exact hup x hx
   ·rw[htk,List.mem_append,List.mem_append,g2 x]
    constructor
    ·rintro((h|h)|h)
     ·exact .inl h
     ·exact .inr (.inl h)
     ·exact .inr (.inr h)
    ·rintro(h|h|h)
     ·exact .inl (.inl h)
     ·exact .inl (.inr h)
     ·exact .inr h
theorem putL_inv{l:List Int}(hl:Rise l)(n:Int):Rise (kJ l n)∧∀x,x∈kJ l n↔x=n∨x∈l:=by
 obtain⟨h1,h2⟩:=putS_inv hl n l.length (Nat.le_refl _)
 rw[List.take_length]at h1 h2
 unfold kJ
 cases hd:(kS l n l.length).2 with
 |false=>
  obtain⟨g1,g2⟩:=h1 hd
  rw[if_neg (by simp),g1]
  refine⟨List.pairwise_append.2 ⟨hl,List.pairwise_singleton _ _,fun x hx y hy=>by rw[List.mem_singleton.1 hy];exact g2 x hx⟩,fun x=> ?_⟩
  rw[List.mem_append,List.mem_singleton];exact or_comm
 |true=>
  obtain⟨g1,g2,_⟩:=h2 hd
  rw[if_pos rfl]
  exact⟨g1,g2⟩
theorem hasI_iff{l:List Int}{n:Int}:hasI l n=true↔n∈l:=by
 unfold hasI
 rw[List.any_eq_true]
 constructor
 ·rintro⟨x,h1,h2⟩
  have:x=n:=by simpa using h2
  subst this;exact h1
 ·intro h;exact⟨n,h,by simp⟩
theorem addS_inv{l:List Int}(hl:Rise l)(more:List Int):∀i,i≤more.length→
  Rise (addS l more i).1∧(∀x,x∈(addS l more i).1↔x∈l∨x∈more.take i)∧((addS l more i).2=true↔(l++more.take i).Nodup)
 |0,_=>by
  refine⟨hl,fun x=>by simp[addS],?_⟩
  simp only[List.take_zero,List.append_nil]
  exact⟨fun _=>vZ hl,fun _=>rfl⟩
 |i+1,hi=>by
  obtain⟨h1,h2,h3⟩:=addS_inv hl more i (by omega)
  have hlt:i<more.length:=by omega
  have hg:more.getD i 0=more[i]:=getD_some (List.getElem?_eq_getElem hlt)
  have htk:more.take (i+1)=more.take i++[more[i]]:=List.take_succ_eq_append_getElem hlt
  obtain⟨k1,k2⟩:=putL_inv h1 more[i]
  have e1:(addS l more (i+1)).1=kJ (addS l more i).1 more[i]:=by show kJ _ _=_;rw[hg]
  have e2:(addS l more (i+1)).2=if hasI (addS l more i).1 more[i]=true then false else(addS l more i).2:=by show(if _ then false else _)=_;rw[hg]
  rw[e1,e2,htk]
  refine⟨k1,fun x=> ?_,?_⟩
  ·rw[k2 x,h2 x,List.mem_append,List.mem_singleton]
   constructor
   ·rintro(h|h|h)
    ·exact .inr (.inr h)
    ·exact .inl h
    ·exact .inr (.inl h)
   ·rintro(h|h|h)
    ·exact .inr (.inl h)
    ·exact .inr (.inr h)
    ·exact .inl h
  ·rw[←List.append_assoc,List.nodup_append]
   by_cases hh:hasI (addS l more i).1 more[i]=true
   ·rw[if_pos hh]
    refine⟨(fun h=>by cases h),fun h=> ?_⟩
    have:=(h2 more[i]).1 (hasI_iff.1 hh)
    exact absurd rfl (h.2.2 more[i] (List.mem_append.2 this) more[i] (List.mem_singleton.2 rfl))
   ·rw[if_neg hh,h3]
    refine⟨fun h=>⟨h,by simp,fun a ha b hb e=> ?_⟩,fun h=>h.1⟩
    rw[List.mem_singleton.1 hb]at e
    subst e
    exact hh (hasI_iff.2 ((h2 _).2 (List.mem_append.1 ha)))
theorem addL_inv{l:List Int}(hl:Rise l)(more:List Int):Rise (addL l more).1∧(∀x,x∈(addL l more).1↔x∈l∨x∈more)∧((addL l more).2=true↔(l++more).Nodup):=by
 have h:=addS_inv hl more more.length (Nat.le_refl _)
 rw[List.take_length]at h
 exact h
structure Two (w w':GL17Walk):Prop where
 rise:Rise w.pages
 mem:∀x,x∈w.pages↔x∈w'.pages
 nd:w'.pages.Nodup
 rows:w.rows=w'.rows
 deep:w.deep=w'.deep
abbrev app1:List Int→Int→List Int:=fun l n=>l++[n]
theorem Two.put{w w':GL17Walk}(h:Two w w'){id:Int}(hn:¬hasI w.pages id=true)(rows:List GRow)(deep:Int):Two ⟨kJ w.pages id,rows,deep⟩ ⟨app1 w'.pages id,rows,deep⟩:=by
 obtain⟨k1,k2⟩:=putL_inv h.rise id
 refine⟨k1,fun x=> ?_,?_,rfl,rfl⟩
 ·show x∈kJ w.pages id↔x∈w'.pages++[id]
  rw[k2 x,List.mem_append,List.mem_singleton,h.mem x];exact or_comm
 ·show(w'.pages++[id]).Nodup
  refine List.nodup_append.2 ⟨h.nd,by simp,fun a ha b hb e=> ?_⟩
  rw[List.mem_singleton.1 hb]at e
  subst e
  exact hn (hasI_iff.2 ((h.mem _).2 ha))
theorem Two.has{w w':GL17Walk}(h:Two w w')(id:Int):hasI w.pages id=hasI w'.pages id:=by
 rw[Bool.eq_iff_iff,hasI_iff,hasI_iff];exact h.mem id
theorem visK_two{g g':Vis}{n:GNode}{low high:List UInt8}(hg:∀k a b w w',Two w w'→(g k a b w).1=(g' k a b w').1∧Two (g k a b w).2 (g' k a b w').2):
  ∀(k i:Nat) (w w':GL17Walk),Two w w'→(visK g n low high k i w).1=(visK g' n low high k i w').1∧Two (visK g n low high k i w).2 (visK g' n low high k i w').2
 |0,i,w,w',h=>⟨rfl,h⟩
 |k+1,i,w,w',h=>by
  obtain⟨h1,h2⟩:=hg (n.kids.getD i 0) (loB n low i) (hiB n high i) w w' h
  rw[visK,visK,←h1]
  split
  ·exact⟨h1,h2⟩
  ·exact visK_two hg k (i+1) _ _ h2
theorem vis_two(d:GDisk):∀(f:Nat) (id:Int) (low high:List UInt8) (depth:Int) (w w':GL17Walk),Two w w'→
  (vis kJ d f id low high depth w).1=(vis app1 d f id low high depth w').1∧Two (vis kJ d f id low high depth w).2 (vis app1 d f id low high depth w').2
 |0,_,_,_,_,_,_,h=>⟨rfl,h⟩
 |f+1,id,low,high,depth,w,w',h=>by
  have hh:=h.has id
  by_cases h1:hasI w.pages id=true
  ·rw[vis_has h1,vis_has (by rw[←hh];exact h1)];exact⟨rfl,h⟩
  have h1':¬hasI w'.pages id=true:=by rw[←hh];exact h1
  by_cases h2:(jQ d id).2=0
  case neg=>rw[vis_code h1 h2,vis_code h1' h2];exact⟨rfl,h⟩
  by_cases h3:badN (jQ d id).1 depth low high=true
  ·rw[vis_bad h1 h2 h3,vis_bad h1' h2 h3];exact⟨rfl,h⟩
  by_cases h4:(jQ d id).1.leaf=true
  ·by_cases h5:w.deep=0∨w.deep=depth
   ·rw[vis_leaf h1 h2 h3 h4 h5,vis_leaf h1' h2 h3 h4 (by rw[←h.deep];exact h5),h.rows]
    exact⟨rfl,h.put h1 _ _⟩
   ·rw[vis_leafN h1 h2 h3 h4 h5,vis_leafN h1' h2 h3 h4 (by rw[←h.deep];exact h5),h.rows,h.deep]
    exact⟨rfl,h.put h1 _ _⟩
  ·rw[vis_kids h1 h2 h3 h4,vis_kids h1' h2 h3 h4,h.rows,h.deep]
   exact visK_two (fun k a b w w' h=>vis_two d f k a b (depth+1) w w' h) _ _ _ _ (h.put h1 _ _)
theorem no_two:Two noWk noWk:=⟨List.Pairwise.nil,fun _=>Iff.rfl,List.Pairwise.nil,rfl,rfl⟩
theorem tree_two(d:GDisk)(root:Int):(jR d root).2=(jU d root).1∧((jU d root).1=0→Two (jR d root).1 (jU d root).2):=by
 unfold jR jU
 by_cases h:root=0
 ·rw[if_pos h,if_pos h];exact⟨rfl,fun _=>no_two⟩
 ·rw[if_neg h,if_neg h]
  obtain⟨h1,h2⟩:=vis_two d 5 root [] [] 1 noWk noWk no_two
  by_cases hc:(vis kJ d 5 root [] [] 1 noWk).1=0
  ·simp only[ne_eq,hc,not_true_eq_false,if_false]
   rw[hc]at h1
   exact⟨h1,fun _=>h2⟩
  ·simp only[ne_eq,hc,not_false_eq_true,if_true]
   exact⟨h1,fun h=>absurd (h1.trans h) hc⟩
theorem chn_nd(d:GDisk):∀(f:Nat) (id:Int) (data:List UInt8) (pages:List Int),pages.Nodup→(chn d f id data pages).2.1.Nodup
 |0,_,_,_,_=>List.Pairwise.nil
 |f+1,id,data,pages,h=>by
  rw[chn]
  split
  ·exact List.Pairwise.nil
  ·split
   ·exact List.Pairwise.nil
   ·rename_i hh
    have hn:(pages++[id]).Nodup:=List.nodup_append.2 ⟨h,by simp,fun a ha b hb e=>by
     rw[List.mem_singleton.1 hb]at e
     subst e
     exact hh (hasI_iff.2 ha)⟩
    split
    ·exact List.Pairwise.nil
    ·split
     ·exact List.Pairwise.nil
     ·split
      ·exact List.Pairwise.nil
      ·split
       ·exact hn
       ·exact chn_nd d f _ _ _ hn
theorem chainD_nd(d:GDisk)(h:Int):(qT d h).2.1.Nodup:=chn_nd d 401 h [] [] List.Pairwise.nil
def keptS(d:GDisk)(p:GSuper):List Int×Int:=
 if(jR d p.root).2≠0 then([],(jR d p.root).2)
 else if(jR d p.shadow).2≠0 then([],(jR d p.shadow).2)
 else if(qT d p.theory).2.2≠0 then([],(qT d p.theory).2.2)
 else if p.next_≠0∧(qT d p.next_).2.2≠0 then([],(qT d p.next_).2.2)
 else if(addL (jR d p.root).1.pages (jR d p.shadow).1.pages).2=true∧(addL (addL (jR d p.root).1.pages (jR d p.shadow).1.pages).1 (qT d p.theory).2.1).2=true∧
  (addL (addL (addL (jR d p.root).1.pages (jR d p.shadow).1.pages).1 (qT d p.theory).2.1).1 (keptN d p)).2=true then
  ((addL (addL (addL (jR d p.root).1.pages (jR d p.shadow).1.pages).1 (qT d p.theory).2.1).1 (keptN d p)).1,0)
 else([],6)
theorem nd_app{a b a' b':List Int}(ha:∀x,x∈a↔x∈a')(hb:∀x,x∈b↔x∈b')(h1:a.Nodup)(h2:a'.Nodup)(h3:b.Nodup)(h4:b'.Nodup):(a++b).Nodup↔(a'++b').Nodup:=by
 rw[List.nodup_append,List.nodup_append]
 constructor
 ·rintro⟨_,_,h⟩;exact⟨h2,h4,fun x hx y hy=>h x ((ha x).2 hx) y ((hb y).2 hy)⟩
 ·rintro⟨_,_,h⟩;exact⟨h1,h3,fun x hx y hy=>h x ((ha x).1 hx) y ((hb y).1 hy)⟩
theorem kept_two(d:GDisk)(p:GSuper):keptS d p=((vO d p).list,(vO d p).code):=by
 obtain⟨r1,r2⟩:=tree_two d p.root
 obtain⟨s1,s2⟩:=tree_two d p.shadow
 unfold keptS vO
 rw[r1,s1]
 by_cases h1:(jU d p.root).1=0
 case neg=>simp only[ne_eq,h1,not_false_eq_true,if_true]
 simp only[ne_eq,h1,not_true_eq_false,if_false]
 by_cases h2:(jU d p.shadow).1=0
 case neg=>simp only[ne_eq,h2,not_false_eq_true,if_true]
 simp only[ne_eq,h2,not_true_eq_false,if_false]
 by_cases h3:(qT d p.theory).2.2=0
 case neg=>simp only[ne_eq,h3,not_false_eq_true,if_true]
 simp only[ne_eq,h3,not_true_eq_false,if_false]
 by_cases h4:¬p.next_=0∧¬(qT d p.next_).2.2=0
 ·simp only[h4,not_false_eq_true,and_self,if_true]
 simp only[h4,if_false]
 have tr:=r2 h1
 have ts:=s2 h2
 obtain⟨a1,a2,a3⟩:=addL_inv tr.rise (jR d p.shadow).1.pages
 obtain⟨b1,b2,b3⟩:=addL_inv a1 (qT d p.theory).2.1
 obtain⟨c1,c2,c3⟩:=addL_inv b1 (keptN d p)
 have hnd:(keptN d p).Nodup:=by unfold keptN;split;exact List.Pairwise.nil;exact chainD_nd _ _
 have hcd:=chainD_nd d p.theory
 have m1:∀x,x∈(addL (jR d p.root).1.pages (jR d p.shadow).1.pages).1↔x∈keptB d p:=fun x=>by
  rw[a2 x,tr.mem x,ts.mem x];unfold keptB;rw[List.mem_append,sortI_mem,sortI_mem]
 have m2:∀x,x∈(addL (addL (jR d p.root).1.pages (jR d p.shadow).1.pages).1 (qT d p.theory).2.1).1↔x∈keptB d p++(qT d p.theory).2.1:=fun x=>by
  rw[b2 x,m1 x,List.mem_append]
 have m3:∀x,x∈(addL (addL (addL (jR d p.root).1.pages (jR d p.shadow).1.pages).1 (qT d p.theory).2.1).1 (keptN d p)).1↔x∈keptL d p:=fun x=>by
  rw[c2 x,m2 x];exact List.mem_append.symm
 have n1:(addL (jR d p.root).1.pages (jR d p.shadow).1.pages).2=true↔(keptB d p).Nodup:=by
  rw[a3]
  exact nd_app (fun x=>by rw[tr.mem x,sortI_mem]) (fun x=>by rw[ts.mem x,sortI_mem]) (vZ tr.rise) ((sortI_nd _).2 tr.nd) (vZ ts.rise) ((sortI_nd _).2 ts.nd)
 have key:((addL (jR d p.root).1.pages (jR d p.shadow).1.pages).2=true∧(addL (addL (jR d p.root).1.pages (jR d p.shadow).1.pages).1 (qT d p.theory).2.1).2=true∧
  (addL (addL (addL (jR d p.root).1.pages (jR d p.shadow).1.pages).1 (qT d p.theory).2.1).1 (keptN d p)).2=true)↔(keptL d p).Nodup:=by
  constructor
  ·rintro⟨g1,g2,g3⟩
   have k1:=n1.1 g1
   have k2:(keptB d p++(qT d p.theory).2.1).Nodup:=(nd_app m1 (fun _=>Iff.rfl) (vZ a1) k1 hcd hcd).1 (b3.1 g2)
   exact(nd_app m2 (fun _=>Iff.rfl) (vZ b1) k2 hnd hnd).1 (c3.1 g3)
  ·intro h
   have k2:(keptB d p++(qT d p.theory).2.1).Nodup:=(List.nodup_append.1 h).1
   have k1:(keptB d p).Nodup:=(List.nodup_append.1 k2).1
   exact⟨n1.2 k1,b3.2 ((nd_app m1 (fun _=>Iff.rfl) (vZ a1) k1 hcd hcd).2 k2),c3.2 ((nd_app m2 (fun _=>Iff.rfl) (vZ b1) k2 hnd hnd).2 h)⟩
 by_cases hn:(keptL d p).Nodup
 ·rw[if_pos (key.2 hn),if_pos (incI_iff.2 (sortI_rise.2 hn))]
  have:(addL (addL (addL (jR d p.root).1.pages (jR d p.shadow).1.pages).1 (qT d p.theory).2.1).1 (keptN d p)).1=vM (keptL d p):=rise_ext c1 (sortI_rise.2 hn) fun x=>by rw[m3 x,sortI_mem]
  rw[this]
 ·rw[if_neg (fun h=>hn (key.1 h)),if_neg (fun h=>hn (sortI_rise.1 (incI_iff.1 h)))]
theorem treeS_len(d:GDisk)(root:Int):(jR d root).1.pages.length≤7776:=by
 unfold jR
 split
 ·exact Nat.zero_le _
 ·split
  ·exact Nat.zero_le _
  ·have h:=(vis_grow putL_len d 5 root [] [] 1 noWk).pages
   have e1:noWk.pages.length=0:=rfl
   rw[e1]at h
   show(vis kJ d 5 root [] [] 1 noWk).2.pages.length≤7776
   omega
theorem addL_len(l more:List Int):(addL l more).1.length≤l.length+more.length:=addS_len l more more.length
theorem giveR_nilI(v:Value):giveR (some ⟨[],true⟩) 1 0 v=lst ([]:List Int):=giveR_flat (α:=Int) [] rfl rfl v
theorem map_byteV(xs:List UInt8):xs.map byteV=qQ xs:=by
 induction xs with
 |nil=>rfl
 |cons x xs ih=>rw[List.map_cons,ih,jO];rfl
attribute [go_sem] map_byteV
theorem u8_flat(z:Int):[Value.int .u8 (z%256)]=qQ [u8z z]:=by rw[qU];show _=[Value.int .u8 ((u8z z).toNat:Int)];rw[vA]
theorem vT(b:ByteArray):b.data.toList.length=b.size:=Array.length_toList
instance (priority:=high) (b:ByteArray):LenOf (qQ b.data.toList) b.size:=⟨by rw[jT];show b.data.toList.length*1=_;rw[Nat.mul_one,vT]⟩
def symB(x:GSymbol):List UInt8:=u8z (x.name.size:Int)::(x.name.data.toList++[u8z x.arity])
def sigA(s:GSignature)(i:Nat):List UInt8:=u8z (s.symbols.length:Int)::(s.symbols.take i).flatMap symB
def sigB(s:GSignature):List UInt8:=u8z (s.symbols.length:Int)::s.symbols.flatMap symB
theorem sigA_zero(s:GSignature):sigA s 0=[u8z (s.symbols.length:Int)]:=rfl
theorem sigA_all(s:GSignature):sigA s s.symbols.length=sigB s:=by unfold sigA sigB;rw[List.take_length]
theorem sigA_succ{s:GSignature}{i:Nat}{x:GSymbol}(h:s.symbols[i]? =some x):sigA s (i+1)=sigA s i++symB x:=by
 obtain⟨hi,rfl⟩:=List.getElem?_eq_some_iff.1 h
 unfold sigA
 rw[List.take_succ_eq_append_getElem hi,List.flatMap_append,List.flatMap_cons,List.flatMap_nil,List.append_nil,List.cons_append]
theorem symB_len{x:GSymbol}(h:isNm x.name=true):(symB x).length≤5:=by
 have:=isNm_size h
 unfold symB
 simp only[List.length_cons,List.length_append,List.length_nil]
 have e:x.name.data.toList.length=x.name.size:=vT _
 omega
theorem sigA_len{s:GSignature}(hs:∀x∈s.symbols,isNm x.name=true):∀i,i≤s.symbols.length→(sigA s i).length≤1+5*i
 |0,_=>Nat.le_refl _
 |i+1,hi=>by
  have e1:s.symbols[i]? =some s.symbols[i]:=List.getElem?_eq_getElem (by omega)
  have h1:=sigA_len hs i (by omega)
  have h2:=symB_len (hs _ (List.getElem_mem (show i<s.symbols.length by omega)))
  rw[sigA_succ e1,List.length_append];omega
def packGR(s:GSignature):GBytesResult:=if yK s≠0 then⟨yK s,[]⟩else⟨0,sigB s⟩
def movB(p:GSuper):UInt8:=if p.moving=true then 1 else 0
def supH(p:GSuper):List UInt8:=jP p.gen++([u8z p.root,u8z p.shadow,u8z p.theory,u8z p.next_]++(jP p.version++([movB p,u8z (p.cursor.length:Int)]++(p.cursor++sigB p.symbols))))
def padS(l:List UInt8):List UInt8:=l++List.replicate (92-l.length) 0
def supP(p:GSuper):List UInt8:=padS (supH p)
def packS(p:GSuper):List UInt8:=supP p++(jP (sumB 29 (supP p))++jP p.gen)
theorem sigB_len{s:GSignature}(h:SigOK s):(sigB s).length≤31:=by
 rw[←sigA_all]
 have:=sigA_len (fun y hy=>(h.nm y hy).1) s.symbols.length (Nat.le_refl _)
 have:=h.len
 omega
theorem supH_len{p:GSuper}:(supH p).length=10+p.cursor.length+(sigB p.symbols).length:=by
 unfold supH
 simp only[List.length_append,List.length_cons,List.length_nil,jZ]
 omega
theorem supP_len{p:GSuper}(h:SuperOK p):(supP p).length=92:=by
 have h1:=supH_len (p:=p)
 have h2:=sigB_len (yW h.sig)
 have h3:=h.cur
 unfold supP padS
 rw[List.length_append,List.length_replicate];omega
theorem packS_len{p:GSuper}(h:SuperOK p):(packS p).length=96:=by
 unfold packS
 rw[List.length_append,List.length_append,supP_len h,jZ,jZ]
theorem zeros_flat(n:Nat):yZ n [Value.int .u8 0]=qQ (List.replicate n (0:UInt8)):=(zmake_one _ _).trans (flat_zeros _).symm
theorem lenS{p:GSuper}(h:(supP p).length=92):96=(supP p++(jP (sumB 29 (supP p))++jP p.gen)).length:=by
 rw[List.length_append,List.length_append,h,jZ,jZ]
@[go_sem] theorem viewOf_rd(xs:List UInt8)(f:Bool):yG rdB ⟨[lst xs, .bool f],true⟩=some (xs,f):=viewOf_eq (f:=rdB) (fun x y h=>rdB_inj h) (xs,f)
def symR(q:RdS):GSymbol×RdS:=(⟨bstr (rky q),yI (rq2 q)⟩,tkS (rq2 q) 1)
def symsR:Nat→RdS→List GSymbol→List GSymbol×RdS
 |0,q,out=>(out,q)
 |n+1,q,out=>if q.2=true then(out,q)else symsR n (symR q).2 (out++[(symR q).1])
def sigR(q:RdS):List GSymbol×RdS:=symsR (yI q).toNat (tkS q 1) []
theorem symsR_fail{n:Nat}{xs:List UInt8}{out:List GSymbol}:symsR n (xs,true) out=(out,(xs,true)):=by
 cases n with
 |zero=>rfl
 |succ n=>rw[symsR,if_pos rfl]
theorem rq2_le(q:RdS):(rq2 q).1.length≤q.1.length:=Nat.le_trans (vK _ _) (vK _ _)
theorem symR_le(q:RdS):(symR q).2.1.length≤q.1.length:=Nat.le_trans (vK _ _) (rq2_le q)
theorem rky_len(q:RdS):(rky q).length=(yI q).toNat:=kW _ _
theorem symsR_le:∀(n:Nat) (q:RdS) (out:List GSymbol),(symsR n q out).2.1.length≤q.1.length∧(symsR n q out).1.length≤out.length+n
 |0,q,out=>⟨Nat.le_refl _,Nat.le_refl _⟩
 |n+1,q,out=>by
  rw[symsR]
  split
  ·exact⟨Nat.le_refl _,by show out.length≤_;omega⟩
  ·obtain⟨h1,h2⟩:=symsR_le n (symR q).2 (out++[(symR q).1])
   rw[List.length_append]at h2
   simp only[List.length_cons,List.length_nil]at h2
   exact⟨Nat.le_trans h1 (symR_le q),by omega⟩
theorem symsR_sm:∀(n:Nat) (q:RdS) (out:List GSymbol),(∀x∈out,x.name.size≤255)→∀x∈(symsR n q out).1,x.name.size≤255
 |0,q,out,h=>h
 |n+1,q,out,h=>by
  rw[symsR]
  split
  ·exact h
  ·refine symsR_sm n _ _ fun x hx=> ?_
   rcases List.mem_append.1 hx with hx|hx
   ·exact h x hx
   ·rw[List.mem_singleton.1 hx]
    show(rky q).toArray.size≤255
    have:=vN q
    rw[List.size_toArray,rky_len];omega
theorem sigR_sm(q:RdS):sm (⟨(sigR q).1⟩:GSignature):=by
 have h1:=(symsR_le (yI q).toNat (tkS q 1) []).2
 have h2:=vN q
 refine⟨?_,fun x hx=> ?_⟩
 ·show(symsR _ _ _).1.length≤281474976710656
  simp only[List.length_nil]at h1;omega
 ·have:=symsR_sm _ _ _ (by simp) x hx
  exact⟨show x.name.size≤281474976710656 by omega,trivial⟩
def sp2(data:List UInt8):Nat→Option (List GSymbol×Nat)
 |0=>some ([],1)
 |i+1=>match sp2 data i with
  |none=>none
  |some (l,p)=>if data.length≤p then none else if data.length<p+(data.getD p 0).toNat+2 then none
   else some (l++[⟨bstr ((data.drop (p+1)).take (data.getD p 0).toNat),((data.getD (p+1+(data.getD p 0).toNat) 0).toNat:Int)⟩],p+(data.getD p 0).toNat+2)
def rd2(data:List UInt8):GSignature×Int:=
 if data.length<1 then(⟨[]⟩,0)
 else match sp2 data (min (data.getD 0 0).toNat 7)with
  |none=>(⟨[]⟩,0)
  |some (l,p)=>if yK ⟨l⟩≠0 then(⟨[]⟩,0)else(⟨l⟩,(p:Int))
theorem sp2_len{data:List UInt8}:∀ {i:Nat} {l:List GSymbol} {p:Nat},sp2 data i=some (l,p)→l.length=i∧(1≤data.length→p≤data.length)∧1≤p∧∀x∈l,x.name.size≤255
 |0,l,p,h=>by simp only[sp2,Option.some.injEq,Prod.mk.injEq]at h;obtain⟨rfl,rfl⟩:=h;exact⟨rfl,fun h=>h,Nat.le_refl _,by simp⟩
 |i+1,l,p,h=>by
  unfold sp2 at h
  split at h
  ·cases h
  ·rename_i l0 p0 h0
   obtain⟨h1,h2,h3,h4⟩:=sp2_len h0
   split at h
   ·cases h
   ·split at h
    ·cases h
    ·simp only[Option.some.injEq,Prod.mk.injEq]at h
     obtain⟨rfl,rfl⟩:=h
     refine⟨by rw[List.length_append,h1];rfl,fun _=>by omega,by omega,fun x hx=> ?_⟩
     rcases List.mem_append.1 hx with hx|hx
     ·exact h4 x hx
     ·rw[List.mem_singleton.1 hx]
      show(List.take _ _).toArray.size≤255
      have:=(data.getD p0 0).toNat_lt
      rw[List.size_toArray,List.length_take];omega
theorem sp2_none{data:List UInt8}{i:Nat}(h:sp2 data i=none):∀j,i≤j→sp2 data j=none
 |0,hj=>by
  obtain rfl:i=0:=by omega
  exact h
 |j+1,hj=>by
  by_cases e:i=j+1
  ·subst e;exact h
  ·unfold sp2;rw[sp2_none h j (by omega)]
theorem zB{z:Int}(h0:0≤z)(h1:z<256):((u8z z).toNat:Int)=z:=by rw[vA];omega
theorem bstr_back(b:ByteArray):bstr b.data.toList=b:=by
 unfold bstr
 rw[Array.toArray_toList]
structure SymAt (X:List UInt8) (x:GSymbol) (R:List UInt8):Prop where
 len:X.length=x.name.size+2+R.length
 cnt:(X.getD 0 0).toNat=x.name.size
 name:(X.drop 1).take x.name.size=x.name.data.toList
 ar:((X.getD (1+x.name.size) 0).toNat:Int)=x.arity
 rest:X.drop (x.name.size+2)=R
theorem symAt{x:GSymbol}(hn:isNm x.name=true)(ha:0≤x.arity∧x.arity≤2)(R:List UInt8):SymAt (symB x++R) x R:=by
 have h1:=isNm_size hn
 have hs:=vT x.name
 have e:symB x++R=u8z (x.name.size:Int)::(x.name.data.toList++(u8z x.arity::R)):=by unfold symB;simp only[List.cons_append,List.append_assoc,List.nil_append]
 rw[e]
 refine⟨?_,?_,?_,?_,?_⟩
 ·simp only[List.length_cons,List.length_append,hs];omega
 ·have:=zB (z:=(x.name.size:Int)) (by omega) (by omega)
  show(u8z (x.name.size:Int)).toNat=_
  omega
 ·show(x.name.data.toList++(u8z x.arity::R)).take x.name.size=_
  rw[←hs,List.take_left']
  rfl
 ·rw[Nat.add_comm 1,List.getD_eq_getElem?_getD,List.getElem?_cons_succ,List.getElem?_append_right (by rw[hs];exact Nat.le_refl _),hs,Nat.sub_self]
  exact zB (by omega) (by omega)
 ·rw[show x.name.size+2=(x.name.size+1)+1 by omega,List.drop_succ_cons,List.drop_append,hs]
  rw[List.drop_of_length_le (by rw[hs];omega),show x.name.size+1-x.name.size=1 by omega];rfl
theorem getD_drop{α:Type}(l:List α)(p i:Nat)(d:α):(l.drop p).getD i d=l.getD (p+i) d:=by
 rw[List.getD_eq_getElem?_getD,List.getD_eq_getElem?_getD,List.getElem?_drop]
theorem sigA_drop{s:GSignature}(rest:List UInt8)(i:Nat)(hi:i≤s.symbols.length):(sigB s++rest).drop (sigA s i).length=(s.symbols.drop i).flatMap symB++rest:=by
 have e:sigB s=sigA s i++(s.symbols.drop i).flatMap symB:=by
  unfold sigB sigA
  rw[List.cons_append,←List.flatMap_append,List.take_append_drop]
 rw[e,List.append_assoc,List.drop_left']
 rfl
theorem sp2_pack{s:GSignature}(h:SigOK s)(rest:List UInt8):∀i,i≤s.symbols.length→sp2 (sigB s++rest) i=some (s.symbols.take i,(sigA s i).length)
 |0,_=>rfl
 |i+1,hi=>by
  have hlt:i<s.symbols.length:=by omega
  have e1:s.symbols[i]? =some s.symbols[i]:=List.getElem?_eq_getElem hlt
  obtain⟨hn,ha⟩:=h.nm _ (List.getElem_mem hlt)
  have hd:=sigA_drop (s:=s) rest i (by omega)
  rw[List.drop_eq_getElem_cons hlt,List.flatMap_cons,List.append_assoc]at hd
  have hS:=symAt hn ha ((s.symbols.drop (i+1)).flatMap symB++rest)
  rw[←hd]at hS
  have hl:(sigB s++rest).length=(sigA s i).length+((sigB s++rest).drop (sigA s i).length).length:=by
   rw[List.length_drop]
   have:=hS.len
   rw[List.length_drop]at this
   omega
  rw[hS.len]at hl
  have hc:=hS.cnt
  rw[getD_drop,Nat.add_zero]at hc
  have hnm:=hS.name
  rw[List.drop_drop]at hnm
  have har:=hS.ar
  rw[getD_drop,←Nat.add_assoc]at har
  unfold sp2
  rw[sp2_pack h rest i (by omega)]
  simp only
  rw[if_neg (by omega),if_neg (by rw[hc];omega),hc,hnm,har,bstr_back,List.take_succ_eq_append_getElem hlt,sigA_succ e1,List.length_append]
  have:(symB s.symbols[i]).length=s.symbols[i].name.size+2:=by
   unfold symB;simp only[List.length_cons,List.length_append,List.length_nil,vT]
  rw[this];rfl
theorem rd2_pack{s:GSignature}(h:yK s=0)(rest:List UInt8):rd2 (sigB s++rest)=(s,((sigB s).length:Int)):=by
 have hs:=yW h
 have hl:=hs.len
 have hc:(((sigB s++rest).getD 0 0).toNat:Int)=s.symbols.length:=zB (by omega) (by omega)
 unfold rd2
 rw[if_neg (by unfold sigB;simp),show min ((sigB s++rest).getD 0 0).toNat 7=s.symbols.length by omega,sp2_pack hs rest _ (Nat.le_refl _),List.take_length,sigA_all]
 show(if yK s≠0 then _ else _)=_
 rw[if_neg (by simpa using h)]
theorem rd2_ok{data:List UInt8}(h:(rd2 data).2≠0):yK (rd2 data).1=0:=by
 unfold rd2 at h ⊢
 split at h
 ·exact absurd rfl h
 ·rename_i h0
  rw[if_neg h0]
  split at h
  ·exact absurd rfl h
  ·rename_i l p hp
   split at h
   ·exact absurd rfl h
   ·rename_i h1
    rw[if_neg h1]
    exact Decidable.not_not.1 h1
theorem symR_pack{x:GSymbol}(hn:isNm x.name=true)(ha:0≤x.arity∧x.arity≤2)(R:List UInt8):symR (symB x++R,false)=(x,(R,false)):=by
 have hS:=symAt hn ha R
 have hl:=hS.len
 have h1:yI (symB x++R,false)=(x.name.size:Int):=by
  have:=oneV_at (body:=symB x++R) (p:=0) (by omega)
  rw[List.drop_zero,hS.cnt]at this;exact this
 have h2:tkS (symB x++R,false) 1=((symB x++R).drop 1,false):=tkS_ok (by omega)
 have h3:rky (symB x++R,false)=x.name.data.toList:=by
  unfold rky
  rw[h1,h2,Int.toNat_natCast,tkV_ok (by rw[List.length_drop];omega),hS.name]
 have h4:rq2 (symB x++R,false)=((symB x++R).drop (1+x.name.size),false):=by
  unfold rq2
  rw[h1,h2,Int.toNat_natCast,tkS_ok (by rw[List.length_drop];omega),List.drop_drop]
 unfold symR
 rw[h3,h4,bstr_back,oneV_at (by omega),hS.ar,tkS_ok (by rw[List.length_drop];omega),List.drop_drop,show 1+x.name.size+1=x.name.size+2 by omega,hS.rest]
theorem symsR_pack:∀(l:List GSymbol) (R:List UInt8) (out:List GSymbol),(∀x∈l,isNm x.name=true∧0≤x.arity∧x.arity≤2)→symsR l.length (l.flatMap symB++R,false) out=(out++l,(R,false))
 |[],R,out,_=>by rw[List.length_nil,symsR,List.append_nil];rfl
 |x::l,R,out,h=>by
  obtain⟨hn,ha⟩:=h x List.mem_cons_self
  rw[List.length_cons,symsR,if_neg (by simp),List.flatMap_cons,List.append_assoc,symR_pack hn ha,symsR_pack l R _ fun y hy=>h y (List.mem_cons_of_mem _ hy),List.append_assoc];rfl
theorem sigR_pack{s:GSignature}(h:SigOK s)(R:List UInt8):sigR (sigB s++R,false)=(s.symbols,(R,false)):=by
 have hl:=h.len
 have h1:yI (sigB s++R,false)=(s.symbols.length:Int):=by
  have:=oneV_at (body:=sigB s++R) (p:=0) (by unfold sigB;simp)
  rw[List.drop_zero]at this
  rw[this];exact zB (by omega) (by omega)
 have h2:tkS (sigB s++R,false) 1=(s.symbols.flatMap symB++R,false):=tkS_ok (by unfold sigB;simp)
 unfold sigR
 rw[h1,h2,Int.toNat_natCast,symsR_pack _ _ _ h.nm,List.nil_append]
def yB:GSuper:=⟨0,0,0,0,0,0,false,[],⟨[]⟩⟩
def SupAt(data:List UInt8)(p:GSuper):Prop:=yO p=0∧packS p=data
def b8(data:List UInt8)(i:Nat):Int:=((data.getD i 0).toNat:Int)
def candS(data cur:List UInt8)(sy:GSignature):GSuper:=
 ⟨b8 data 0*256+b8 data 1,b8 data 2,b8 data 3,b8 data 4,b8 data 5,b8 data 6*256+b8 data 7,decide (b8 data 8=1),cur,sy⟩
theorem pairB_val{n:Int}(h0:0≤n)(h1:n≤65535):((UInt8.ofNat (n/256%256).toNat).toNat:Int)*256+((UInt8.ofNat (n%256).toNat).toNat:Int)=n:=by
 rw[u8_of (by omega) (by omega),u8_of (by omega) (by omega)];omega
theorem sup_bytes{data:List UInt8}{p:GSuper}(h:SupAt data p):∃T,data=UInt8.ofNat (p.gen/256%256).toNat::UInt8.ofNat (p.gen%256).toNat::u8z p.root::u8z p.shadow::u8z p.theory::u8z p.next_::
  UInt8.ofNat (p.version/256%256).toNat::UInt8.ofNat (p.version%256).toNat::movB p::u8z (p.cursor.length:Int)::(p.cursor++(sigB p.symbols++T))∧T.length+(sigB p.symbols).length+p.cursor.length=86:=by
 have hS:=kH h.1
 have hl:=packS_len hS
 have e:packS p=UInt8.ofNat (p.gen/256%256).toNat::UInt8.ofNat (p.gen%256).toNat::u8z p.root::u8z p.shadow::u8z p.theory::u8z p.next_::
  UInt8.ofNat (p.version/256%256).toNat::UInt8.ofNat (p.version%256).toNat::movB p::u8z (p.cursor.length:Int)::(p.cursor++(sigB p.symbols++(List.replicate (92-(supH p).length) 0++(jP (sumB 29 (supP p))++jP p.gen)))):=by
  unfold packS
  show padS (supH p)++_=_
  unfold padS
  rw[List.append_assoc]
  conv=>lhs;arg 1;unfold supH
  unfold jP
  simp only[List.append_assoc,List.cons_append,List.nil_append]
 refine⟨List.replicate (92-(supH p).length) 0++(jP (sumB 29 (supP p))++jP p.gen),by rw[←h.2];exact e,?_⟩
 rw[e]at hl
 simp only[List.length_cons,List.length_append]at hl ⊢
 omega
theorem cand_eq{data:List UInt8}{p:GSuper}(h:SupAt data p):candS data p.cursor p.symbols=p∧(data.getD 9 0).toNat=p.cursor.length∧data.length=96∧
  (∃T,data.drop 10=p.cursor++(sigB p.symbols++T)∧T.length+(sigB p.symbols).length+p.cursor.length=86):=by
 have hS:=kH h.1
 obtain⟨T,hd,hT⟩:=sup_bytes h
 have hsl:=sigB_len (yW hS.sig)
 have hg:=hS.gen
 have hv:=hS.ver
 have hr:=hS.root
 have hsh:=hS.shadow
 have ht:=hS.theory
 have hn:=hS.next_
 have hc:=hS.cur
 refine⟨?_,?_,by rw[←h.2];exact packS_len hS,T,by rw[hd];rfl,hT⟩
 ·unfold candS b8
  rw[hd]
  show GSuper.mk (((UInt8.ofNat (p.gen/256%256).toNat).toNat:Int)*256+((UInt8.ofNat (p.gen%256).toNat).toNat:Int)) ((u8z p.root).toNat:Int) ((u8z p.shadow).toNat:Int) ((u8z p.theory).toNat:Int) ((u8z p.next_).toNat:Int)
   (((UInt8.ofNat (p.version/256%256).toNat).toNat:Int)*256+((UInt8.ofNat (p.version%256).toNat).toNat:Int)) (decide (((movB p).toNat:Int)=1)) p.cursor p.symbols=p
  rw[pairB_val (by omega) (by omega),pairB_val (by omega) (by omega),zB (by omega) (by omega),zB (by omega) (by omega),zB (by omega) (by omega),zB (by omega) (by omega)]
  have hm:decide (((movB p).toNat:Int)=1)=p.moving:=by
   unfold movB
   cases p.moving <;>rfl
  rw[hm]
 ·rw[hd]
  show(u8z (p.cursor.length:Int)).toNat=_
  have:=zB (z:=(p.cursor.length:Int)) (by omega) (by omega)
  omega
noncomputable def rdS5(data:List UInt8):GSuper×Int:=open Classical in if h:∃p,SupAt data p then(Classical.choose h,0)else(yB,5)
noncomputable def rdS(data:List UInt8):GSuper×Int:=
 if ¬(data.getD 94 0=data.getD 0 0∧data.getD 95 0=data.getD 1 0)then(yB,8)
 else if jP (sumB 29 (data.take 92))≠(data.drop 92).take 2 then(yB,11)else rdS5 data
theorem supAt_uniq{data:List UInt8}{p q:GSuper}(h:SupAt data p)(k:SupAt data q):p=q:=by
 obtain⟨h1,h2,_,T,h3,h4⟩:=cand_eq h
 obtain⟨k1,k2,_,U,k3,k4⟩:=cand_eq k
 rw[h3]at k3
 obtain⟨e1,e2⟩:=List.append_inj k3 (by omega)
 have r1:=rd2_pack (kH h.1).sig T
 have r2:=rd2_pack (kH k.1).sig U
 rw[e2,r2]at r1
 have e3:q.symbols=p.symbols:=(Prod.mk.inj r1).1
 rw[←h1,←k1,e1,e3]
theorem rdS5_yes{data:List UInt8}{p:GSuper}(h:SupAt data p):rdS5 data=(p,0):=by
 have hx:∃p,SupAt data p:=⟨p,h⟩
 unfold rdS5
 rw[dif_pos hx,supAt_uniq (Classical.choose_spec hx) h]
theorem rdS5_no{data:List UInt8}(h:∀p,¬SupAt data p):rdS5 data=(yB,5):=by
 unfold rdS5
 rw[dif_neg (fun⟨p,hp⟩=>h p hp)]
theorem take_drop_at{data T:List UInt8}{a b:List UInt8}(h:data.drop 10=a++(b++T))(hl:T.length+b.length+a.length=86)(hb:b.length≤31)(ha:a.length≤16):
  (data.drop 10).take a.length=a∧∃T',(data.take 92).drop (10+a.length)=b++T':=by
 constructor
 ·rw[h,List.take_left'];rfl
 ·refine⟨T.take (82-a.length-b.length),?_⟩
  rw[←List.drop_drop,List.drop_take,h,List.take_append,List.drop_append]
  rw[List.take_of_length_le (by omega),List.drop_of_length_le (Nat.le_refl _),List.nil_append,Nat.sub_self,List.drop_zero,List.take_append,List.take_of_length_le (by omega)]
theorem supS_fin{data:List UInt8}(h9:(data.getD 9 0).toNat≤16):
  (∀p,SupAt data p→(rd2 ((data.take 92).drop (10+(data.getD 9 0).toNat))).2≠0∧candS data ((data.drop 10).take (data.getD 9 0).toNat) (rd2 ((data.take 92).drop (10+(data.getD 9 0).toNat))).1=p):=fun p h=>by
 obtain⟨h1,h2,_,T,h3,h4⟩:=cand_eq h
 have hS:=kH h.1
 obtain⟨e1,T',e2⟩:=take_drop_at h3 h4 (sigB_len (yW hS.sig)) hS.cur
 rw[h2,e1,e2,rd2_pack hS.sig]
 refine⟨?_,h1⟩
 show((sigB p.symbols).length:Int)≠0
 unfold sigB
 simp only[List.length_cons];omega
theorem sup9{data:List UInt8}{p:GSuper}(h:SupAt data p):(data.getD 9 0).toNat≤16:=by
 rw[(cand_eq h).2.1];exact(kH h.1).cur
theorem candS_eq(data cur:List UInt8)(sy:GSignature):candS data cur sy=⟨b8 data 0*256+b8 data 1,b8 data 2,b8 data 3,b8 data 4,b8 data 5,b8 data 6*256+b8 data 7,decide (b8 data 8=1),cur,sy⟩:=rfl
theorem supS_last{data cur:List UInt8}{sy:GSignature}{C:GSuper}(hC:C=candS data cur sy)(hF:∀p,SupAt data p→candS data cur sy=p):
  (yO C=0→packS C=data→rdS5 data=(C,0))∧((yO C≠0∨packS C≠data)→rdS5 data=(yB,5)):=by
 refine⟨fun h1 h2=>rdS5_yes ⟨h1,h2⟩,fun h=>rdS5_no fun p hp=> ?_⟩
 have:=hF p hp
 rw[←hC]at this
 subst this
 exact h.elim (fun h=>h hp.1) fun h=>h hp.2
noncomputable def rdSR(data:List UInt8):GSuperResult:=if data.length≠96 then⟨1,yB⟩else⟨(rdS data).2,(rdS data).1⟩
theorem ends_eq{data:List UInt8}(h:data.length=96):(data.take 2=data.drop 94)↔(data.getD 94 0=data.getD 0 0∧data.getD 95 0=data.getD 1 0):=by
 have e1:data.take 2=[data[0],data[1]]:=by
  rw[show 2=0+1+1 from rfl,List.take_succ_eq_append_getElem (by omega),List.take_succ_eq_append_getElem (by omega)];rfl
 have e2:data.drop 94=[data[94],data[95]]:=by
  rw[List.drop_eq_getElem_cons (by omega),List.drop_eq_getElem_cons (by omega),List.drop_of_length_le (by omega)]
 rw[e1,e2,getD_some (List.getElem?_eq_getElem (show 94<data.length by omega)),getD_some (List.getElem?_eq_getElem (show 0<data.length by omega)),getD_some (List.getElem?_eq_getElem (show 95<data.length by omega)),getD_some (List.getElem?_eq_getElem (show 1<data.length by omega))]
 simp only[List.cons.injEq,and_true]
 exact⟨fun⟨a,b⟩=>⟨a.symm,b.symm⟩,fun⟨a,b⟩=>⟨a.symm,b.symm⟩⟩
theorem supI_fin{data:List UInt8}{p:GSuper}(h:SupAt data p):(sigR (tkS (data.drop 10,false) (data.getD 9 0).toNat)).2.2=false∧
  candS data (tkV (data.drop 10,false) (data.getD 9 0).toNat) ⟨(sigR (tkS (data.drop 10,false) (data.getD 9 0).toNat)).1⟩=p:=by
 obtain⟨h1,h2,h3,T,h4,h5⟩:=cand_eq h
 have hS:=kH h.1
 have hl:(data.drop 10).length=86:=by rw[List.length_drop];omega
 have hc:=hS.cur
 rw[h2,tkS_ok (by omega),tkV_ok (by omega),h4,List.take_left',List.drop_left',sigR_pack (yW hS.sig)]
 ·exact⟨rfl,h1⟩
 ·rfl
 ·rfl
theorem supI_last{data cur:List UInt8}{sy:GSignature}{f:Bool}{C:GSuper}(hC:C=candS data cur sy)(hF:∀p,SupAt data p→f=false∧candS data cur sy=p):
  (f=false→yO C=0→packS C=data→rdS5 data=(C,0))∧((f=true∨yO C≠0∨packS C≠data)→rdS5 data=(yB,5)):=by
 refine⟨fun _ h1 h2=>rdS5_yes ⟨h1,h2⟩,fun h=>rdS5_no fun p hp=> ?_⟩
 obtain⟨h0,this⟩:=hF p hp
 rw[←hC]at this
 subst this
 rcases h with h|h|h
 ·rw[h0]at h;cases h
 ·exact h hp.1
 ·exact h hp.2
theorem candS_eq2(data cur:List UInt8)(sy:GSignature):candS data cur sy=⟨((data.getD 0 0).toNat:Int)*256+((data.getD 1 0).toNat:Int),((data.getD 2 0).toNat:Int),((data.getD 3 0).toNat:Int),((data.getD 4 0).toNat:Int),((data.getD 5 0).toNat:Int),((data.getD 6 0).toNat:Int)*256+((data.getD 7 0).toNat:Int),decide (((data.getD 8 0).toNat:Int)=1),cur,sy⟩:=rfl
noncomputable def opB(d:GDisk):Nat→GSuper
 |0=>yB
 |i+1=>if(rdS (d.sectors.getD i [])).2=0∧(rdS (d.sectors.getD i [])).1.gen%2=(i:Int)∧(opB d i).gen<(rdS (d.sectors.getD i [])).1.gen then(rdS (d.sectors.getD i [])).1 else opB d i
theorem opB_zero(d:GDisk):opB d 0=yB:=rfl
noncomputable def jM(d:GDisk):GSuper×Int:=if 0<d.pending.length then(yB,8)else if(opB d 2).gen=0 then(yB,4)else(opB d 2,0)
noncomputable def opnR(d:GDisk):GSuperResult:=if yN d≠0 then⟨yN d,yB⟩else⟨(jM d).2,(jM d).1⟩
theorem rdS_ok{data:List UInt8}(h:(rdS data).2=0):yO (rdS data).1=0:=by
 unfold rdS at h ⊢
 split at h
 ·cases h
 ·rename_i h1
  rw[if_neg h1]
  split at h
  ·cases h
  ·rename_i h2
   rw[if_neg h2]
   by_cases hx:∃p,SupAt data p
   ·obtain⟨p,hp⟩:=hx
    rw[rdS5_yes hp];exact hp.1
   ·rw[rdS5_no fun p hp=>hx ⟨p,hp⟩]at h;cases h
theorem opB_ok(d:GDisk):∀i,opB d i=yB∨yO (opB d i)=0
 |0=> .inl rfl
 |i+1=>by
  rw[opB]
  split
  ·rename_i h;exact .inr (rdS_ok h.1)
  ·exact opB_ok d i
theorem opB_gen(d:GDisk)(i:Nat):0≤(opB d i).gen∧((opB d i).gen=0→opB d i=yB):=by
 rcases opB_ok d i with h|h
 ·rw[h];exact⟨Int.le_refl _,fun _=>rfl⟩
 ·have:=(kH h).gen
  exact⟨by omega,fun h=>by omega⟩
theorem openD_ok{d:GDisk}(h:(jM d).2=0):yO (jM d).1=0:=by
 unfold jM at h ⊢
 split at h
 ·cases h
 ·rename_i h1
  rw[if_neg h1]
  split at h
  ·cases h
  ·rename_i h2
   rw[if_neg h2]
   rcases opB_ok d 2 with e|e
   ·rw[e]at h2;exact absurd rfl h2
   ·exact e
def nodeB(b:UInt8):Int:=if b.toNat<32 then(b.toNat:Int)-1 else 31-(b.toNat:Int)
def nodeZ(z:Int):Int:=if 32≤z then 31-z else z-1
theorem nodeZ_B(b:UInt8):nodeZ (b.toNat:Int)=nodeB b:=by
 unfold nodeZ nodeB
 by_cases h:b.toNat<32
 ·rw[if_neg (by omega),if_pos h]
 ·rw[if_pos (by omega),if_neg h]
def okB(s:GSignature)(b:UInt8):Bool:=if b.toNat<32 then isSym s ((b.toNat:Int)-1)else kF s (31-(b.toNat:Int))
theorem okB_node{s:GSignature}{b:UInt8}(h:okB s b=true):kF s (nodeB b)=true∧b.toNat≠0:=by
 unfold okB at h
 unfold nodeB
 by_cases h1:b.toNat<32
 ·rw[if_pos h1]at h ⊢
  refine⟨by unfold kF;rw[h];rfl,?_⟩
  unfold isSym at h
  have:=of_decide_eq_true h
  omega
 ·rw[if_neg h1]at h ⊢
  exact⟨h,by omega⟩
theorem okB_pack{s:GSignature}{b:UInt8}(h:okB s b=true):packN (nodeB b)=b:=by
 have h0:=(okB_node h).2
 apply UInt8.toNat_inj.1
 unfold packN nodeB
 have:=b.toNat_lt
 rw[UInt8.toNat_ofNat']
 by_cases h1:b.toNat<32
 ·rw[if_pos h1,if_neg (by omega)];omega
 ·rw[if_neg h1,if_pos (by omega)];omega
theorem nodeB_pack{n:Int}(h: -12≤n)(h2:n<6):nodeB (packN n)=n:=by
 unfold nodeB
 by_cases h0:n<0
 ·have:=packN_neg h h0
  rw[if_neg (by omega)];omega
 ·have:=packN_pos (by omega:0≤n) h2
  rw[if_pos (by omega)];omega
theorem nodes_isNode{s:GSignature}{t:List Int}(hn:nodes s t){n:Int}(h:n∈t):kF s n=true:=by
 have:=hn n h
 unfold kF isSym
 by_cases h0:0≤n
 ·rw[decide_eq_true (by omega:0≤n∧n≤(s.symbols.length:Int)-1)];rfl
 ·rw[decide_eq_true (by omega: -12≤n∧n≤ -1),Bool.or_true]
theorem okB_packN{s:GSignature}{t:List Int}(hs:SigOK s)(hn:nodes s t){n:Int}(h:n∈t):okB s (packN n)=true:=by
 have h1:=nodes_small hs hn n h
 have h2:=nodes_isNode hn h
 have h3:=hn n h
 unfold okB
 by_cases h0:n<0
 ·have:=packN_neg h1.1 h0
  rw[if_neg (by omega),this,show(31:Int)-(31-n)=n by omega];exact h2
 ·have:=packN_pos (by omega:0≤n) h1.2
  rw[if_pos (by omega),this,show n+1-1=n by omega]
  unfold isSym
  exact decide_eq_true (by omega)
theorem skip_app(s:GSignature)(m:List Int):∀(l:List Int) (k:Nat) (r:List Int),skip s k l=some r→skip s k (l++m)=some (r++m)
 |l,0,r,h=>by rw[skip_zero]at h ⊢;cases h;rfl
 |[],k+1,r,h=>by cases h
 |x::l,k+1,r,h=>by
  rw[skip_cons]at h
  rw[List.cons_append,skip_cons]
  exact skip_app s m l _ r h
theorem term_skip{s:GSignature}{t:List Int}(h:TermOK s t):skip s 1 t=some []:=by
 have h1:=h.ends
 have hl:=h.len
 unfold ep at h1
 rw[List.drop_zero]at h1
 cases hs:skip s 1 t with
 |none=>rw[hs]at h1;simp only at h1;omega
 |some r=>
  rw[hs]at h1
  simp only at h1
  have:r.length=0:=by omega
  rw[List.length_eq_zero_iff.1 this]
theorem term_take{s:GSignature}{t:List Int}(h:TermOK s t){j:Nat}(hj:j<t.length):zA s (t.take j)≠0:=fun e=>by
 have h1:=skip_app s (t.drop j) _ _ _ (term_skip (term_ok e))
 rw[List.take_append_drop,term_skip h,List.nil_append,Option.some.injEq]at h1
 have:=congrArg List.length h1
 rw[List.length_drop,List.length_nil]at this
 omega
theorem term_zero{s:GSignature}{t:List Int}(h:TermOK s t):zA s t=0:=by
 have hl:=h.len
 unfold zA
 rw[if_neg (by omega),if_neg,if_pos h.ends]
 intro e
 obtain⟨n,hn,h1⟩:=List.any_eq_true.1 e
 rw[nodes_isNode h.nodes hn]at h1
 cases h1
def smallZ(t:List Int):Prop:=∀n∈t,-224≤n∧n≤224
def rtT(data:List UInt8)(i:Nat):List Int:=(data.take i).map nodeB
def rtS(s:GSignature)(data:List UInt8):Nat→Nat→List Int
 |0,_=>[]
 |f+1,i=>if data.length≤i then []else if okB s (data.getD i 0)=true then(if zA s (rtT data (i+1))=0 then rtT data (i+1)else rtS s data f (i+1))else []
def rt(s:GSignature)(data:List UInt8):List Int:=rtS s data 24 0
theorem rtT_len{data:List UInt8}{i:Nat}(h:i≤data.length):(rtT data i).length=i:=by unfold rtT;rw[List.length_map,List.length_take];omega
theorem rtT_succ{data:List UInt8}{i:Nat}(h:i<data.length):rtT data (i+1)=rtT data i++[nodeB (data.getD i 0)]:=by
 unfold rtT
 rw[List.take_succ_eq_append_getElem h,List.map_append,getD_some (List.getElem?_eq_getElem h)];rfl
theorem rtS_ok{s:GSignature}{data:List UInt8}:∀(f i:Nat),(∀j,j<i→okB s (data.getD j 0)=true)→rtS s data f i≠[]→zA s (rtS s data f i)=0∧(rtS s data f i).length≤data.length∧kN (rtS s data f i)=data.take (rtS s data f i).length
 |0,i,_,h=>absurd rfl h
 |f+1,i,hk,h=>by
  rw[rtS]at h ⊢
  split at h
  ·exact absurd rfl h
  ·rename_i h1
   rw[if_neg h1]
   split at h
   ·rename_i h2
    rw[if_pos h2]
    have hk':∀j,j<i+1→okB s (data.getD j 0)=true:=fun j hj=>by
     rcases Nat.lt_or_ge j i with g|g
     ·exact hk j g
     ·rw[show j=i by omega];exact h2
    split at h
    ·rename_i h3
     rw[if_pos h3]
     have hl:=rtT_len (data:=data) (i:=i+1) (by omega)
     refine⟨h3,by omega,?_⟩
     rw[hl]
     unfold kN rtT
     rw[List.map_map]
     have:∀b∈data.take (i+1),(packN ∘ nodeB) b=b:=fun b hb=>by
      obtain⟨j,hj,rfl⟩:=List.getElem_of_mem hb
      rw[List.length_take]at hj
      have:=hk' j (by omega)
      rw[getD_some (List.getElem?_eq_getElem (show j<data.length by omega))]at this
      rw[List.getElem_take]
      exact okB_pack this
     rw[List.map_congr_left this,List.map_id']
    ·rename_i h3
     rw[if_neg h3]
     exact rtS_ok f (i+1) hk' h
   ·exact absurd rfl h
theorem rt_ok{s:GSignature}{data:List UInt8}(h:rt s data≠[]):zA s (rt s data)=0∧(rt s data).length≤data.length∧kN (rt s data)=data.take (rt s data).length:=rtS_ok 24 0 (fun j hj=>by omega) h
theorem rtS_len{s:GSignature}{data:List UInt8}:∀(f i:Nat),i+f≤24→(rtS s data f i).length≤24∧smallZ (rtS s data f i)
 |0,i,_=>⟨Nat.zero_le _,fun n h=>by cases h⟩
 |f+1,i,hf=>by
  rw[rtS]
  split
  ·exact⟨Nat.zero_le _,fun n h=>by cases h⟩
  ·rename_i h1
   split
   ·split
    ·refine⟨by rw[rtT_len (by omega)];omega,fun n h=> ?_⟩
     unfold rtT at h
     obtain⟨b,_,rfl⟩:=List.mem_map.1 h
     have:=b.toNat_lt
     unfold nodeB
     split <;>omega
    ·exact rtS_len f (i+1) (by omega)
   ·exact⟨Nat.zero_le _,fun n h=>by cases h⟩
theorem rtS_pack{s:GSignature}{t:List Int}{rest:List UInt8}(hs:SigOK s)(ht:TermOK s t):∀(f i:Nat),i<t.length→t.length≤i+f→rtS s (kN t++rest) f i=t
 |0,i,h1,h2=>by omega
 |f+1,i,h1,h2=>by
  have hl:(kN t++rest).length=t.length+rest.length:=by rw[List.length_append,vD]
  have hg:(kN t++rest).getD i 0=packN (t[i]'h1):=by
   refine getD_some ?_
   rw[List.getElem?_append_left (by rw[vD];exact h1)]
   unfold kN
   rw[List.getElem?_map,List.getElem?_eq_getElem h1];rfl
  have hT:rtT (kN t++rest) (i+1)=t.take (i+1):=by
   unfold rtT
   rw[List.take_append_of_le_length (by rw[vD];omega)]
   unfold kN
   rw[←List.map_take,List.map_map]
   have:∀n∈t.take (i+1),(nodeB ∘ packN) n=n:=fun n hn=>by
    have:=nodes_small hs ht.nodes n (List.mem_of_mem_take hn)
    exact nodeB_pack this.1 this.2
   rw[List.map_congr_left this,List.map_id']
  rw[rtS,if_neg (by omega),hg,if_pos (okB_packN hs ht.nodes (List.getElem_mem h1)),hT]
  rcases Nat.lt_or_ge (i+1) t.length with g|g
  ·rw[if_neg (term_take ht g)]
   exact rtS_pack hs ht f (i+1) g (by omega)
  ·rw[List.take_of_length_le g]
   split
   ·rfl
   ·rename_i h3
    exact absurd (term_zero ht) h3
theorem rt_pack{s:GSignature}{t:List Int}{rest:List UInt8}(hs:SigOK s)(ht:TermOK s t):rt s (kN t++rest)=t:=rtS_pack hs ht 24 0 (by have:=ht.len;omega) (by have:=ht.len;omega)
def trI(s:GSignature):Nat→RdS→List Int→Nat→List Int×RdS
 |0,q,out,_=>(out,q)
 |f+1,q,out,m=>if m=0∨q.2=true then(out,q)
  else if yI q=0∨kF s (nodeZ (yI q))=false∨out.length=24 then(out,((tkS q 1).1,true))
  else trI s f (tkS q 1) (out++[nodeZ (yI q)]) (m-1+arN s (nodeZ (yI q)))
def trT(s:GSignature)(q:RdS):List Int×RdS:=trI s 25 q [] 1
theorem one_cons(b:UInt8)(l:List UInt8):yI (b::l,false)=(b.toNat:Int):=oneV_at (body:=b::l) (p:=0) (by simp)
theorem tk_cons(b:UInt8)(l:List UInt8):tkS (b::l,false) 1=(l,false):=tkS_ok (by simp)
theorem trI_pack{s:GSignature}{rest:List UInt8}:∀(l:List Int) (f:Nat) (out:List Int) (m:Nat),skip s m l=some []→(∀n∈l,kF s n=true∧ -12≤n∧n<6)→out.length+l.length≤24→l.length<f→trI s f (kN l++rest,false) out m=(out++l,(rest,false))
 |[],f,out,0,h,_,_,hf=>by
  obtain⟨f,rfl⟩:∃g,f=g+1:=⟨f-1,by simp only[List.length_nil]at hf;omega⟩
  rw[trI,if_pos (.inl rfl),List.append_nil];rfl
 |[],f,out,m+1,h,_,_,hf=>by cases h
 |n::l,f,out,0,h,_,_,hf=>by rw[skip_zero]at h;cases h
 |n::l,f,out,m+1,h,hn,ho,hf=>by
  obtain⟨f,rfl⟩:∃g,f=g+1:=⟨f-1,by simp only[List.length_cons]at hf;omega⟩
  rw[skip_cons]at h
  obtain⟨h1,h2,h3⟩:=hn n (List.mem_cons_self ..)
  simp only[List.length_cons]at ho hf
  have e:kN (n::l)++rest=packN n::(kN l++rest):=rfl
  have ez:nodeZ (yI (kN (n::l)++rest,false))=n:=by rw[e,one_cons,nodeZ_B,nodeB_pack h2 h3]
  have e0:yI (kN (n::l)++rest,false)≠0:=by
   rw[e,one_cons]
   by_cases g:n<0
   ·rw[packN_neg h2 g];omega
   ·rw[packN_pos (by omega) h3];omega
  rw[trI,if_neg (by rintro(g|g) <;>cases g),ez,if_neg (by rintro(g|g|g);exact e0 g;(rw[h1]at g;cases g);omega),e,tk_cons,Nat.add_sub_cancel,trI_pack l f (out++[n]) _ h (fun x hx=>hn x (List.mem_cons_of_mem _ hx)) (by rw[List.length_append,List.length_singleton];omega) (by omega),List.append_assoc]
  rfl
theorem trT_pack{s:GSignature}{t:List Int}{rest:List UInt8}(hs:SigOK s)(ht:TermOK s t):trT s (kN t++rest,false)=(t,(rest,false)):=by
 have hl:=ht.len
 refine trI_pack t 25 [] 1 (term_skip ht) (fun n hn=> ?_) (by simp only[List.length_nil];omega) (by omega)
 have:=nodes_small hs ht.nodes n hn
 exact⟨nodes_isNode ht.nodes hn,this.1,this.2⟩
theorem trI_le{s:GSignature}:∀(f:Nat) (q:RdS) (out:List Int) (m:Nat),(trI s f q out m).2.1.length≤q.1.length∧(out.length≤24→(trI s f q out m).1.length≤24)∧(smallZ out→smallZ (trI s f q out m).1)
 |0,q,out,m=>⟨Nat.le_refl _,fun h=>h,fun h=>h⟩
 |f+1,q,out,m=>by
  rw[trI]
  split
  ·exact⟨Nat.le_refl _,fun h=>h,fun h=>h⟩
  ·split
   ·exact⟨vK _ _,fun h=>h,fun h=>h⟩
   ·rename_i h1
    obtain⟨g1,g2,g3⟩:=trI_le f (tkS q 1) (out++[nodeZ (yI q)]) (m-1+arN s (nodeZ (yI q)))
    refine⟨Nat.le_trans g1 (vK _ _),fun h=>g2 (by rw[List.length_append,List.length_singleton];omega),fun h=>g3 fun n hn=> ?_⟩
    rcases List.mem_append.1 hn with hn|hn
    ·exact h n hn
    ·rw[List.mem_singleton.1 hn]
     have:=vN q
     unfold nodeZ
     split <;>omega
def pkE(e:GEquation):List UInt8:=kN e.left++kN e.right
def kE(l:List GEquation):List UInt8:=u8z (l.length:Int)::l.flatMap pkE
def accE(l:List GEquation)(i:Nat):List UInt8:=u8z (l.length:Int)::(l.take i).flatMap pkE
theorem accE_zero(l:List GEquation):accE l 0=[u8z (l.length:Int)]:=rfl
theorem accE_all(l:List GEquation):accE l l.length=kE l:=by unfold accE kE;rw[List.take_length]
theorem accE_succ{l:List GEquation}{i:Nat}{x:GEquation}(h:l[i]? =some x):accE l (i+1)=accE l i++pkE x:=by
 obtain⟨hi,rfl⟩:=List.getElem?_eq_some_iff.1 h
 unfold accE
 rw[List.take_succ_eq_append_getElem hi,List.flatMap_append,List.flatMap_cons,List.flatMap_nil,List.append_nil,List.cons_append]
def rvS(s:GSignature)(data:List UInt8):Nat→Option (List GEquation×Nat)
 |0=>some ([],1)
 |i+1=>match rvS s data i with
  |none=>none
  |some (l,p)=>if eqnG s ⟨rt s (data.drop p),rt s (data.drop (p+(rt s (data.drop p)).length))⟩≠0 then none
   else some (l++[⟨rt s (data.drop p),rt s (data.drop (p+(rt s (data.drop p)).length))⟩],p+(rt s (data.drop p)).length+(rt s (data.drop (p+(rt s (data.drop p)).length))).length)
def raD(s:GSignature)(data:List UInt8):List GEquation×Int:=
 if data.length<1∨12<(data.getD 0 0).toNat then([],0)
 else match rvS s data (data.getD 0 0).toNat with
  |none=>([],0)
  |some (l,p)=>(l,(p:Int))
theorem eqn_parts{s:GSignature}{l r:List Int}(h:eqnG s ⟨l,r⟩=0):l≠[]∧r≠[]:=by
 obtain⟨h1,h2,_⟩:=zG h
 have:=h1.len
 have:=h2.len
 exact⟨fun e=>by simp_all,fun e=>by simp_all⟩
theorem take_split{α:Type}{l:List α}{p k:Nat}:l.take (p+k)=l.take p++(l.drop p).take k:=List.take_add
theorem rvS_ok{s:GSignature}{data:List UInt8}(h1:1≤data.length):∀ {i:Nat} {l:List GEquation} {p:Nat},rvS s data i=some (l,p)→l.length=i∧(∀e∈l,eqnG s e=0)∧1≤p∧p≤data.length∧data.take p=data.take 1++l.flatMap pkE
 |0,l,p,h=>by
  simp only[rvS,Option.some.injEq,Prod.mk.injEq]at h
  obtain⟨rfl,rfl⟩:=h
  exact⟨rfl,by simp,Nat.le_refl _,h1,by simp⟩
 |i+1,l,p,h=>by
  unfold rvS at h
  split at h
  ·cases h
  ·rename_i l0 p0 h0
   obtain⟨g1,g2,g3,g4,g5⟩:=rvS_ok h1 h0
   split at h
   ·cases h
   ·rename_i he
    have he:eqnG s ⟨rt s (data.drop p0),rt s (data.drop (p0+(rt s (data.drop p0)).length))⟩=0:=by simpa using he
    obtain⟨n1,n2⟩:=eqn_parts he
    obtain⟨_,a2,a3⟩:=rt_ok n1
    obtain⟨_,b2,b3⟩:=rt_ok n2
    rw[List.length_drop]at a2 b2
    generalize rt s (data.drop (p0+(rt s (data.drop p0)).length))=R at*
    generalize rt s (data.drop p0)=L at*
    simp only[Option.some.injEq,Prod.mk.injEq]at h
    obtain⟨rfl,rfl⟩:=h
    have q1:L.length≠0:=fun e=>n1 (List.length_eq_zero_iff.1 e)
    have q2:R.length≠0:=fun e=>n2 (List.length_eq_zero_iff.1 e)
    refine⟨by rw[List.length_append,g1];rfl,fun e hm=> ?_,by omega,by omega,?_⟩
    ·rcases List.mem_append.1 hm with hm|hm
     ·exact g2 e hm
     ·rw[List.mem_singleton.1 hm];exact he
    ·rw[take_split,take_split,g5,←a3,←b3,List.flatMap_append,List.append_assoc,List.append_assoc]
     congr 1
     simp[pkE]
theorem rvS_none{s:GSignature}{data:List UInt8}{i:Nat}(h:rvS s data i=none):∀j,i≤j→rvS s data j=none
 |0,hj=>by
  obtain rfl:i=0:=by omega
  exact h
 |j+1,hj=>by
  by_cases e:i=j+1
  ·subst e;exact h
  ·unfold rvS;rw[rvS_none h j (by omega)]
theorem u8n{n:Nat}(h:n<256):(u8z (n:Int)).toNat=n:=by have:=vA (n:Int);omega
theorem raD_ok{s:GSignature}{data:List UInt8}(h:(raD s data).2≠0):eqsG s (raD s data).1=0∧1≤(raD s data).2∧(raD s data).2.toNat≤data.length∧kE (raD s data).1=data.take (raD s data).2.toNat:=by
 unfold raD at h ⊢
 split at h
 ·exact absurd rfl h
 ·rename_i h1
  rw[if_neg h1]
  split at h
  ·exact absurd rfl h
  ·rename_i l p h2
   obtain⟨g1,g2,g3,g4,g5⟩:=rvS_ok (by omega) h2
   simp only
   refine⟨?_,by omega,by omega,?_⟩
   ·unfold eqsG
    rw[if_neg (by omega)]
    exact firstF_all g2
   ·rw[Int.toNat_natCast,g5]
    unfold kE
    have e0:data.take 1=[data.getD 0 0]:=by
     cases data with
     |nil=>simp at h1
     |cons a b=>rfl
    rw[e0,List.singleton_append,g1]
    congr 1
    exact UInt8.toNat_inj.1 (by rw[u8n (by omega)])
theorem rvS_pack{s:GSignature}{l:List GEquation}{rest:List UInt8}(hs:SigOK s)(hl:∀e∈l,eqnG s e=0):∀i,i≤l.length→rvS s (kE l++rest) i=some (l.take i,(accE l i).length)
 |0,_=>by simp[rvS,accE]
 |i+1,hi=>by
  have e1:l[i]? =some (l[i]'(by omega)):=List.getElem?_eq_getElem (by omega)
  have he:=hl _ (List.getElem_mem (show i<l.length by omega))
  obtain⟨t1,t2,_⟩:=zG he
  have hd:(kE l++rest).drop (accE l i).length=kN (l[i]'(by omega)).left++(kN (l[i]'(by omega)).right++((l.drop (i+1)).flatMap pkE++rest)):=by
   have:kE l++rest=accE l i++(pkE (l[i]'(by omega))++((l.drop (i+1)).flatMap pkE++rest)):=by
    unfold kE accE
    have e2:l.flatMap pkE=(l.take i).flatMap pkE++(pkE (l[i]'(by omega))++(l.drop (i+1)).flatMap pkE):=by
     rw[←List.flatMap_cons,←List.drop_eq_getElem_cons,←List.flatMap_append,List.take_append_drop]
    rw[e2]
    simp only[List.cons_append,List.append_assoc]
   rw[this,List.drop_left]
   unfold pkE
   rw[List.append_assoc]
  have hd2:(kE l++rest).drop ((accE l i).length+(l[i]'(by omega)).left.length)=kN (l[i]'(by omega)).right++((l.drop (i+1)).flatMap pkE++rest):=by
   rw[←List.drop_drop,hd]
   conv=>lhs;arg 1;rw[←vD]
   rw[List.drop_left]
  unfold rvS
  rw[rvS_pack hs hl i (by omega)]
  simp only
  rw[hd,rt_pack hs t1,hd2,rt_pack hs t2,if_neg (by simpa using he),List.take_succ_eq_append_getElem (by omega),accE_succ e1]
  congr 2
  unfold pkE
  rw[List.length_append,List.length_append,vD,vD]
  omega
theorem raD_pack{s:GSignature}{l:List GEquation}{rest:List UInt8}(hs:SigOK s)(hl:eqsG s l=0):raD s (kE l++rest)=(l,((kE l).length:Int)):=by
 obtain⟨h1,h2⟩:=eqsG_zero hl
 have e:(kE l++rest).getD 0 0=u8z (l.length:Int):=rfl
 unfold raD
 rw[e,u8n (by omega),if_neg (by rintro(g|g);(unfold kE at g;simp at g);omega),rvS_pack hs h2 l.length (Nat.le_refl _),List.take_length,accE_all]
def eqI(s:GSignature):Nat→RdS→List GEquation→List GEquation×RdS
 |0,q,out=>(out,q)
 |n+1,q,out=>if q.2=true then(out,q)else eqI s n (trT s (trT s q).2).2 (out++[⟨(trT s q).1,(trT s (trT s q).2).1⟩])
def eqJ(s:GSignature)(q:RdS):List GEquation×RdS:=eqI s (yI q).toNat (tkS q 1) []
def eqR(s:GSignature)(q:RdS):List GEquation×RdS:=((eqJ s q).1,((eqJ s q).2.1,(eqJ s q).2.2||decide (eqsF s (eqJ s q).1≠0)))
def smE(l:List GEquation):Prop:=∀e∈l,(e.left.length≤24∧smallZ e.left)∧(e.right.length≤24∧smallZ e.right)
theorem trT_le(s:GSignature)(q:RdS):(trT s q).2.1.length≤q.1.length∧(trT s q).1.length≤24∧smallZ (trT s q).1:=by
 obtain⟨h1,h2,h3⟩:=trI_le (s:=s) 25 q [] 1
 exact⟨h1,h2 (Nat.zero_le _),h3 fun n h=>by cases h⟩
theorem eqI_le(s:GSignature):∀(n:Nat) (q:RdS) (out:List GEquation),(eqI s n q out).2.1.length≤q.1.length∧(eqI s n q out).1.length≤out.length+n∧(smE out→smE (eqI s n q out).1)
 |0,q,out=>⟨Nat.le_refl _,Nat.le_refl _,fun h=>h⟩
 |n+1,q,out=>by
  rw[eqI]
  split
  ·exact⟨Nat.le_refl _,by show out.length≤_;omega,fun h=>h⟩
  ·obtain⟨h1,h2,h3⟩:=eqI_le s n (trT s (trT s q).2).2 (out++[⟨(trT s q).1,(trT s (trT s q).2).1⟩])
   obtain⟨a1,a2,a3⟩:=trT_le s q
   obtain⟨b1,b2,b3⟩:=trT_le s (trT s q).2
   rw[List.length_append,List.length_singleton]at h2
   refine⟨by omega,by omega,fun h=>h3 fun e he=> ?_⟩
   rcases List.mem_append.1 he with he|he
   ·exact h e he
   ·rw[List.mem_singleton.1 he];exact⟨⟨a2,a3⟩,b2,b3⟩
theorem eqI_pack{s:GSignature}{rest:List UInt8}(hs:SigOK s):∀(l:List GEquation) (out:List GEquation),(∀e∈l,eqnG s e=0)→eqI s l.length (l.flatMap pkE++rest,false) out=(out++l,(rest,false))
 |[],out,_=>by rw[List.append_nil];rfl
 |e::l,out,h=>by
  obtain⟨t1,t2,_⟩:=zG (h e (List.mem_cons_self ..))
  have e0:(e::l).flatMap pkE++rest=kN e.left++(kN e.right++(l.flatMap pkE++rest)):=by
   rw[List.flatMap_cons];unfold pkE;simp only[List.append_assoc]
  rw[List.length_cons,eqI,if_neg (by simp),e0,trT_pack hs t1]
  simp only
  rw[trT_pack hs t2]
  simp only
  rw[eqI_pack hs l _ fun x hx=>h x (List.mem_cons_of_mem _ hx),List.append_assoc]
  rfl
theorem eqR_pack{s:GSignature}{l:List GEquation}{rest:List UInt8}(hf:yK s=0)(hl:eqsG s l=0):eqR s (kE l++rest,false)=(l,(rest,false)):=by
 obtain⟨h1,h2⟩:=eqsG_zero hl
 have e:eqJ s (kE l++rest,false)=(l,(rest,false)):=by
  unfold eqJ
  have e1:kE l++rest=u8z (l.length:Int)::(l.flatMap pkE++rest):=rfl
  rw[e1,one_cons,tk_cons,u8n (by omega),Int.toNat_natCast,eqI_pack (yW hf) l [] h2];rfl
 have e2:eqsF s l=0:=by unfold eqsF;rw[if_neg (by simpa using hf),hl]
 unfold eqR
 rw[e]
 simp only[e2]
 rfl
def noTh:GTheory:=⟨[],[],[]⟩
def bI(b:UInt8):Int:=(b.toNat:Int)
def packO(l:List Int):List UInt8:=l.map u8z
def yT(x:GTheory):List UInt8:=packO x.order++(kE x.equations++kE x.rules)
def thE(s:GSignature)(data:List UInt8):List GEquation×Int:=raD s (data.drop s.symbols.length)
def thL(s:GSignature)(data:List UInt8):List GEquation×Int:=raD s (data.drop (s.symbols.length+(thE s data).2.toNat))
def thX(s:GSignature)(data:List UInt8):GTheory:=⟨(data.take s.symbols.length).map bI,(thE s data).1,(thL s data).1⟩
def thS(s:GSignature)(data:List UInt8):GTheory×Bool:=
 if data.length<s.symbols.length∨300<data.length then(noTh,false)
 else if(thE s data).2=0 then(noTh,false)
 else if(thL s data).2=0∨(s.symbols.length:Int)+(thE s data).2+(thL s data).2≠data.length then(noTh,false)
 else(thX s data,decide (thG s (thX s data)=0))
theorem bI_u8(b:UInt8):u8z (bI b)=b:=UInt8.toNat_inj.1 (u8n b.toNat_lt)
theorem packO_bI(l:List UInt8):packO (l.map bI)=l:=by
 unfold packO
 rw[List.map_map]
 have:∀b∈l,(u8z ∘ bI) b=b:=fun b _=>bI_u8 b
 rw[List.map_congr_left this,List.map_id']
theorem ordG_zero{s:GSignature}{o:List Int}(hs:SigOK s)(h:ordG s o=0):o.length=s.symbols.length∧∀n∈o,0≤n∧n<256:=by
 unfold ordG at h
 split at h
 ·cases h
 ·rename_i h1
  split at h
  ·cases h
  ·rename_i h2
   refine⟨by simpa using h1,fun n hn=> ?_⟩
   have h2:o.any (fun n=> !isSym s n)=false:=by simpa using h2
   have:=List.any_eq_false.1 h2 n hn
   unfold isSym at this
   simp only[Bool.not_eq_true',Bool.not_eq_true,Bool.not_eq_false',decide_eq_true_eq,Bool.not_eq_false,decide_eq_false_iff_not]at this
   have hl:=hs.len
   have h3:0≤n∧n≤(s.symbols.length:Int)-1:=by
    by_cases g:0≤n∧n≤(s.symbols.length:Int)-1
    ·exact g
    ·exact absurd g (by simpa using this)
   omega
theorem thG_zero{s:GSignature}{x:GTheory}(h:thG s x=0):ordG s x.order=0∧eqsG s x.equations=0∧vC s x.rules=0:=by
 unfold thG at h
 split at h
 ·rename_i h1;exact absurd h h1
 ·rename_i h1
  split at h
  ·rename_i h2;exact absurd h h2
  ·rename_i h2
   split at h
   ·rename_i h3;exact absurd h h3
   ·rename_i h3
    exact⟨by simpa using h1,by simpa using h2,by simpa using h3⟩
theorem rulesG_eqs{s:GSignature}{l:List GEquation}(h:vC s l=0):eqsG s l=0:=by
 unfold vC at h
 split at h
 ·rename_i h1;exact absurd h h1
 ·rename_i h1;simpa using h1
theorem packO_len(o:List Int):(packO o).length=o.length:=List.length_map ..
theorem bI_packO{o:List Int}(h:∀n∈o,0≤n∧n<256):(packO o).map bI=o:=by
 unfold packO
 rw[List.map_map]
 have:∀n∈o,(bI ∘ u8z) n=n:=fun n hn=>by
  have:=h n hn
  show((u8z n).toNat:Int)=n
  rw[vA];omega
 rw[List.map_congr_left this,List.map_id']
theorem packE_pos(l:List GEquation):1≤(kE l).length:=by unfold kE;simp
theorem thS_pack{s:GSignature}{x:GTheory}(hs:SigOK s)(h:thG s x=0)(hl:(yT x).length≤300):thS s (yT x)=(x,true):=by
 obtain⟨h1,h2,h3⟩:=thG_zero h
 obtain⟨o1,o2⟩:=ordG_zero hs h1
 have h4:=rulesG_eqs h3
 have hL:(yT x).length=s.symbols.length+((kE x.equations).length+(kE x.rules).length):=by
  unfold yT;rw[List.length_append,List.length_append,packO_len,o1]
 have d1:(yT x).drop s.symbols.length=kE x.equations++kE x.rules:=by
  unfold yT
  rw[←o1,←packO_len,List.drop_left]
 have d2:(yT x).drop (s.symbols.length+(kE x.equations).length)=kE x.rules++[]:=by
  rw[←List.drop_drop,d1,List.drop_left,List.append_nil]
 have d3:((yT x).take s.symbols.length).map bI=x.order:=by
  unfold yT
  rw[←o1,←packO_len,List.take_left,bI_packO o2]
 have e1:=packE_pos x.equations
 have e2:=packE_pos x.rules
 have f1:thE s (yT x)=(x.equations,((kE x.equations).length:Int)):=by unfold thE;rw[d1,raD_pack hs h2]
 have f2:thL s (yT x)=(x.rules,((kE x.rules).length:Int)):=by
  unfold thL
  rw[f1]
  simp only[Int.toNat_natCast]
  rw[d2,raD_pack hs h4]
 have f3:thX s (yT x)=x:=by unfold thX;rw[f1,f2,d3]
 unfold thS
 rw[f3,f1,f2]
 simp only
 rw[if_neg (by omega),if_neg (by omega),if_neg (by omega),decide_eq_true h]
theorem thS_ok{s:GSignature}{data:List UInt8}(h:(thS s data).2=true):thG s (thS s data).1=0∧yT (thS s data).1=data∧data.length≤300:=by
 unfold thS at h ⊢
 split at h
 ·cases h
 ·rename_i h1
  rw[if_neg h1]
  split at h
  ·cases h
  ·rename_i h2
   rw[if_neg h2]
   split at h
   ·cases h
   ·rename_i h3
    rw[if_neg h3]
    have h4:=of_decide_eq_true h
    obtain⟨_,a1,a2,a3⟩:_∧_≤(thE s data).2∧(thE s data).2.toNat≤_∧kE (thE s data).1=(data.drop s.symbols.length).take (thE s data).2.toNat:=raD_ok h2
    obtain⟨_,b1,b2,b3⟩:_∧_≤(thL s data).2∧(thL s data).2.toNat≤_∧kE (thL s data).1=(data.drop (s.symbols.length+(thE s data).2.toNat)).take (thL s data).2.toNat:=raD_ok (fun e=>h3 (.inl e))
    refine⟨h4,?_,by omega⟩
    have h3':=fun e=>h3 (.inr e)
    have h3':=Classical.not_not.1 h3'
    unfold yT thX
    simp only
    rw[packO_bI,a3,b3,←List.drop_drop]
    rw[List.length_drop]at a2 b2
    generalize (thL s data).2=B at*
    generalize (thE s data).2=A at*
    rw[List.take_of_length_le (l:=(data.drop s.symbols.length).drop A.toNat) (by rw[List.length_drop,List.length_drop];omega),List.take_append_drop,List.take_append_drop]
def ordI:Nat→RdS→List Int→List Int×RdS
 |0,q,out=>(out,q)
 |n+1,q,out=>ordI n (tkS q 1) (out++[yI q])
def ordQ(n:Nat)(q:RdS):List Int×RdS:=ordI n q []
theorem ordI_succ:∀(n:Nat) (q:RdS) (out:List Int),ordI (n+1) q out=((ordI n q out).1++[yI (ordI n q out).2],tkS (ordI n q out).2 1)
 |0,q,out=>rfl
 |n+1,q,out=>by rw[ordI,ordI_succ n];rfl
theorem ordQ_succ(n:Nat)(q:RdS):ordQ (n+1) q=((ordQ n q).1++[yI (ordQ n q).2],tkS (ordQ n q).2 1):=ordI_succ n q []
theorem ordQ_le:∀(n:Nat) (q:RdS),(ordQ n q).1.length=n∧(ordQ n q).2.1.length≤q.1.length∧∀z∈(ordQ n q).1,0≤z∧z≤255
 |0,q=>⟨rfl,Nat.le_refl _,fun z h=>by cases h⟩
 |n+1,q=>by
  obtain⟨h1,h2,h3⟩:=ordQ_le n q
  rw[ordQ_succ]
  refine⟨by rw[List.length_append,h1];rfl,Nat.le_trans (vK _ _) h2,fun z h=> ?_⟩
  rcases List.mem_append.1 h with h|h
  ·exact h3 z h
  ·rw[List.mem_singleton.1 h];exact vN _
theorem ordI_pack{rest:List UInt8}:∀(o:List Int) (out:List Int),(∀n∈o,0≤n∧n<256)→ordI o.length (packO o++rest,false) out=(out++o,(rest,false))
 |[],out,_=>by rw[List.append_nil];rfl
 |n::o,out,h=>by
  have:=h n (List.mem_cons_self ..)
  have e:packO (n::o)++rest=u8z n::(packO o++rest):=rfl
  have e1:((u8z n).toNat:Int)=n:=by rw[vA];omega
  rw[List.length_cons,ordI,e,one_cons,tk_cons,e1,ordI_pack o _ fun x hx=>h x (List.mem_cons_of_mem _ hx),List.append_assoc]
  rfl
def uqO(s:GSignature)(data:List UInt8):List Int×RdS:=ordQ s.symbols.length (data,false)
def uqE(s:GSignature)(data:List UInt8):List GEquation×RdS:=eqR s (uqO s data).2
def uqR(s:GSignature)(data:List UInt8):List GEquation×RdS:=eqR s (uqE s data).2
def rTh(s:GSignature)(data:List UInt8):GTheory:=⟨(uqO s data).1,(uqE s data).1,(uqR s data).1⟩
theorem rTh_pack{s:GSignature}{x:GTheory}(hf:yK s=0)(h:thG s x=0):rTh s (yT x)=x∧(uqR s (yT x)).2=([],false):=by
 obtain⟨h1,h2,h3⟩:=thG_zero h
 obtain⟨o1,o2⟩:=ordG_zero (yW hf) h1
 have h4:=rulesG_eqs h3
 have a1:uqO s (yT x)=(x.order,(kE x.equations++kE x.rules,false)):=by
  unfold uqO ordQ yT
  rw[←o1,ordI_pack _ _ o2];rfl
 have a2:uqE s (yT x)=(x.equations,(kE x.rules++[],false)):=by
  unfold uqE
  rw[a1,List.append_nil]
  exact eqR_pack hf h2
 have a3:uqR s (yT x)=(x.rules,([],false)):=by
  unfold uqR
  rw[a2]
  exact eqR_pack hf h4
 refine⟨?_,by rw[a3]⟩
 unfold rTh
 rw[a1,a2,a3]
def packR(s:GSignature)(x:GTheory):GBytesResult:=if thF s x≠0 then⟨thF s x,[]⟩else if 300<(yT x).length then⟨2,[]⟩else⟨0,yT x⟩
def unpR(s:GSignature)(data:List UInt8):GTheoryResult:=if yK s≠0 then⟨yK s,noTh⟩else if(thS s data).2=true then⟨0,(thS s data).1⟩else⟨5,noTh⟩
theorem unp_both{s:GSignature}{data:List UInt8}(hf:yK s=0):(thS s data).2=true↔endV (uqR s data).2=true∧thF s (rTh s data)=0∧(yT (rTh s data)).length≤300∧yT (rTh s data)=data:=by
 have hF:∀x,thF s x=thG s x:=fun x=>by unfold thF;rw[if_neg (by simpa using hf)]
 constructor
 ·intro h
  obtain⟨h1,h2,h3⟩:=thS_ok h
  obtain⟨a,b⟩:=rTh_pack hf h1
  rw[h2]at a b
  rw[a,b,hF,h2]
  exact⟨rfl,h1,h3,rfl⟩
 ·rintro⟨_,h1,h2,h3⟩
  rw[hF]at h1
  have:=thS_pack (yW hf) h1 h2
  rw[h3]at this
  rw[this]
theorem unp_same{s:GSignature}{data:List UInt8}(hf:yK s=0)(h:(thS s data).2=true):rTh s data=(thS s data).1:=by
 obtain⟨h1,h2,h3⟩:=thS_ok h
 obtain⟨a,b⟩:=rTh_pack hf h1
 rw[h2]at a
 exact a
def PV(H:AH)(S:Nat→Prop)(v u:Value):Prop:=Pub H S v u∨∃n off b,v= .pointer (some ⟨n,off,none⟩)∧S n∧H n=some b∧b.own=true∧off<b.cells.length∧u=VP (b.cells.drop off)
theorem VR.pv{A:Nat→Prop}{ι:Ren}{H:AH}{Bd:Nat}{w:World}(hr:Rel A ι H Bd w){S:Nat→Prop}{v u v':Value}(h:PV H S v u)(hv:VR ι w v v'):VR (frz ι H S) w u v':=by
 rcases h with h|⟨n,off,b,rfl,hS,hb,ho,hle,rfl⟩
 ·exact VR.pub hr h hv
 ·cases hv with
  |ptr hn=>
   rename_i B base
   rcases hr.blk n b hb with⟨hvd,_⟩|⟨B1,base1,cs1,e1,fr1,g1,g2,g3,g4,g5⟩
   ·rw[hn]at hvd;cases hvd
   rw[hn]at g1;cases g1
   have hsz:base+off+(b.cells.drop off).toArray.size≤cs1.size:=by
    obtain⟨y,p1,_⟩:=g5 (b.cells.length-1) _ (List.getElem?_eq_getElem (by omega))
    have:=(Array.getElem?_eq_some_iff.1 p1).1
    rw[List.size_toArray,List.length_drop];omega
   refine .vp (.inr ⟨n,b,base,hS,hb,ho,hn⟩) g2 hsz fun j x x' h1 h2=> ?_
   rw[List.getElem?_toArray,List.getElem?_drop]at h1
   obtain⟨y,p1,p2⟩:=g5 (off+j) x h1
   rw[show base+(off+j)=base+off+j by omega,h2]at p1
   cases p1
   exact p2.mono (ext_frz ι H S) (Fro.refl ι w)
def LendP(k:Nat)(V:qJ):qJ:=fun args H Bd K=>∃ps rest,args=ps::rest∧Yld (qK H k ps) fun cs=>V (.agg cs.toArray::rest.map (giveA H)) H Bd K
theorem LendP_eq(k:Nat)(V:qJ)(ps:Value)(rest:List Value)(H:AH)(Bd:Nat)(K:Value→AH→Nat→Prop):LendP k V (ps::rest) H Bd K=(Yld (qK H k ps) fun cs=>V (.agg cs.toArray::rest.map (giveA H)) H Bd K):=by
 refine propext ⟨fun h=> ?_,fun h=>⟨_,_,rfl,h⟩⟩
 obtain⟨_,_,e,h⟩:=h
 obtain⟨rfl,rfl⟩:=List.cons.inj e
 exact h
theorem ptr_give{H:AH}{k:Nat}{ps:Value}{cs:List Value}(hk:0<k)(h:qK H k ps=some cs):∃u,PV H (ownS H) ps u∧qK (mns H) k u=some cs:=by
 unfold qK at h
 split at h
 ·rename_i n off
  cases hb:H n with
  |none=>rw[hb]at h;cases h
  |some b=>
   rw[hb]at h
   have h:(if off+k≤b.cells.length then some ((b.cells.drop off).take k)else none)=some cs:=h
   split at h
   ·rename_i hle
    cases ho:b.own with
    |false=>
     refine⟨_, .inl (.same _),?_⟩
     show(mns H n).bind _=_
     rw[sees_mns H n b hb ho]
     show(if off+k≤b.cells.length then some ((b.cells.drop off).take k)else none)=some cs
     rw[if_pos hle];exact h
    |true=>
     refine⟨_, .inr ⟨n,off,b,rfl,⟨b,hb,ho⟩,hb,ho,by omega,rfl⟩,?_⟩
     show qK (mns H) k (VP _)=_
     rw[cellsAt_vp,if_pos (by rw[List.length_drop];omega)];exact h
   ·cases h
 ·refine⟨_, .inl (.same _),h⟩
 ·cases h
theorem LendP_ok{P:Program}{f:FuncId}{W V:qJ}{k:Nat}(h:∀args H Bd K,W args H Bd K→SCalls P f args H Bd K)(hW:∀ps rest cs H Bd K,qK H k ps=some cs→V (.agg cs.toArray::rest) H Bd K→W (ps::rest) H Bd K)(hp:PureV V)(h0:0<k):∀args H Bd K,LendP k V args H Bd K→SCalls P f args H Bd K:=fun args H Bd K hk=>by
 obtain⟨ps,rest,rfl,cs,hcs,hV⟩:=hk
 obtain⟨r,h1,h2,h3⟩:=hp _ _ _ _ hV
 have he:=(h _ _ _ _ (hW ps _ cs H Bd K hcs hV)).1
 refine SCalls.of_hb he fun hb=> ?_
 obtain⟨u,hu,hc⟩:=ptr_give h0 hcs
 refine lendG (args':=u::rest.map (giveA H)) (fun A ι w vs hr hs=> ?_) (h _ _ _ _ (hW u _ cs _ _ _ hc (h3 _ _ (sees_mns H) ⟨h1,fun n _=>rfl,fun n b hn hx v hv=> ?_,?_⟩)))
 ·obtain⟨q1,q2⟩:=PubC.get _ _ (mapA_own H rest)
  refine⟨by rw[List.length_cons,List.length_map];exact hs.1,fun i v v' g1 g2=> ?_⟩
  cases i with
  |zero=>
   simp only[List.getElem?_cons_zero,Option.some.injEq]at g1
   subst g1
   exact VR.pv hr hu (hs.2 0 ps v' rfl g2)
  |succ i=>
   rw[List.getElem?_cons_succ]at g1
   have hi:=(List.getElem?_eq_some_iff.1 g1).1
   rw[List.length_map]at hi
   have g3:rest[i]? =some (rest[i]'hi):=List.getElem?_eq_getElem hi
   exact VR.pub hr (q2 i _ v g3 g1) (hs.2 (i+1) _ v' (by rw[List.getElem?_cons_succ];exact g3) g2)
 ·rw[mns_none hb hn]at hx;cases hx
 ·rw[mrg_mns hb];exact h2
theorem rt_le(s:GSignature)(data:List UInt8):(rt s data).length≤data.length:=by
 by_cases h:rt s data=[]
 ·rw[h];exact Nat.zero_le _
 ·exact(rt_ok h).2.1
theorem smallZ_rg{t:List Int}(h:smallZ t):rg t:=fun n hn=>by
 have:=h n hn
 exact⟨by omega,by omega⟩
theorem rt_sm(s:GSignature)(data:List UInt8):(rt s data).length≤24∧sm (rt s data)∧rg (rt s data):=by
 obtain⟨h1,h2⟩:=rtS_len (s:=s) (data:=data) 24 0 (Nat.le_refl _)
 exact⟨h1,(yR _).2 (show(rtS s data 24 0).length≤_ by omega),smallZ_rg h2⟩
theorem eqs_sm{s:GSignature}{l:List GEquation}(hs:SigOK s)(h:eqsG s l=0):l.length≤12∧sm l∧rg l:=by
 obtain⟨h1,h2⟩:=eqsG_zero h
 have ht:∀e∈l,(e.left.length≤24∧rg e.left)∧(e.right.length≤24∧rg e.right):=fun e he=>by
  obtain⟨t1,t2,_⟩:=zG (h2 e he)
  have hn:∀t:List Int,nodes s t→rg t:=fun t hn n hx=>by
   have:=nodes_small hs hn n hx
   exact⟨by omega,by omega⟩
  exact⟨⟨t1.len.2,hn _ t1.nodes⟩,t2.len.2,hn _ t2.nodes⟩
 refine⟨h1,⟨show l.length≤281474976710656 by omega,fun e he=> ?_⟩,fun e he=>⟨(ht e he).1.2,(ht e he).2.2⟩⟩
 exact⟨(yR _).2 (by have:=(ht e he).1.1;omega),(yR _).2 (by have:=(ht e he).2.1;omega)⟩
theorem bIs_rg(l:List UInt8):rg (l.map bI):=fun n hn=>by
 obtain⟨b,_,rfl⟩:=List.mem_map.1 hn
 have:=b.toNat_lt
 unfold bI
 exact⟨by omega,by omega⟩
theorem bIs_succ{l:List UInt8}{i:Nat}(h:i<l.length):(l.take (i+1)).map bI=(l.take i).map bI++[((l[i]).toNat:Int)]:=by
 rw[List.take_succ_eq_append_getElem h,List.map_append];rfl
def PkT(t:List Int):Prop:=t.length≤24∧vQ t
def PkE(l:List GEquation):Prop:=l.length≤12∧∀e∈l,PkT e.left∧PkT e.right
theorem eqs_pk{s:GSignature}{l:List GEquation}(hs:SigOK s)(h:eqsG s l=0):PkE l:=by
 obtain⟨h1,h2⟩:=eqsG_zero h
 refine⟨h1,fun e he=> ?_⟩
 obtain⟨t1,t2,_⟩:=zG (h2 e he)
 exact⟨term_small hs t1,term_small hs t2⟩
theorem accE_len{l:List GEquation}(h:PkE l):∀i,i≤l.length→(accE l i).length≤1+48*i
 |0,_=>Nat.le_refl _
 |i+1,hi=>by
  have e1:l[i]? =some (l[i]'(by omega)):=List.getElem?_eq_getElem (by omega)
  have h1:=accE_len h i (by omega)
  have h2:=h.2 _ (List.getElem_mem (show i<l.length by omega))
  have h3:=h2.1.1
  have h4:=h2.2.1
  have e:(pkE (l[i]'(by omega))).length=(l[i]'(by omega)).left.length+(l[i]'(by omega)).right.length:=by unfold pkE;rw[List.length_append,vD,vD]
  rw[accE_succ e1,List.length_append,e];omega
theorem PkT.sm{t:List Int}(h:PkT t):sm t∧t.length≤1000000∧vQ t:=⟨(yR _).2 (by have:=h.1;omega),by have:=h.1;omega,h.2⟩
theorem packE_le{l:List GEquation}(h:PkE l):(kE l).length≤577:=by
 have h1:=accE_len h l.length (Nat.le_refl _)
 have h2:=h.1
 rw[accE_all]at h1;omega
theorem packO_succ{l:List Int}{i:Nat}(h:i<l.length):packO (l.take (i+1))=packO (l.take i)++[u8z (l[i])]:=by
 unfold packO
 rw[List.take_succ_eq_append_getElem h,List.map_append];rfl
theorem packO_take(l:List Int):packO (l.take l.length)=packO l:=by rw[List.take_length]
def PkTh(t:GTheory):Prop:=t.order.length≤1000∧PkE t.equations∧PkE t.rules
theorem th_pk{s:GSignature}{x:GTheory}(hs:SigOK s)(h:thG s x=0):PkTh x:=by
 obtain⟨h1,h2,h3⟩:=thG_zero h
 obtain⟨o1,_⟩:=ordG_zero hs h1
 have:=hs.len
 exact⟨by omega,eqs_pk hs h2,eqs_pk hs (rulesG_eqs h3)⟩
theorem thF_zero{s:GSignature}{x:GTheory}(h:thF s x=0):yK s=0∧thG s x=0:=by
 unfold thF at h
 split at h
 ·rename_i h1;exact absurd h h1
 ·rename_i h1;exact⟨by simpa using h1,h⟩
theorem lst_unk{α:Type}[Enc α](xs:List α):lst xs≠unk:=fun h=>by
 unfold lst LST at h;cases h
theorem isNode_lt{s:GSignature}{n:Int}(h:kF s n=true):n<s.symbols.length∧ -12≤n:=by
 unfold kF isSym at h
 simp only[Bool.or_eq_true,decide_eq_true_eq]at h
 omega
theorem smE_sm{l:List GEquation}(h:smE l)(hl:l.length≤1000):sm l∧rg l:=by
 refine⟨⟨show l.length≤281474976710656 by omega,fun e he=> ?_⟩,fun e he=>⟨smallZ_rg (h e he).1.2,smallZ_rg (h e he).2.2⟩⟩
 exact⟨(yR _).2 (by have:=(h e he).1.1;omega),(yR _).2 (by have:=(h e he).2.1;omega)⟩
theorem smE_app{l:List GEquation}(h:smE l){s:GSignature}{q p:RdS}:smE (l++[⟨(trT s q).1,(trT s p).1⟩]):=fun e he=>by
 rcases List.mem_append.1 he with he|he
 ·exact h e he
 ·rw[List.mem_singleton.1 he]
  obtain⟨_,a2,a3⟩:=trT_le s q
  obtain⟨_,b2,b3⟩:=trT_le s p
  exact⟨⟨a2,a3⟩,b2,b3⟩
theorem eqI_fail{s:GSignature}{n:Nat}{xs:List UInt8}{out:List GEquation}:eqI s n (xs,true) out=(out,(xs,true)):=by
 cases n with
 |zero=>rfl
 |succ n=>rw[eqI,if_pos rfl]
theorem eqR_of{s:GSignature}{q r:RdS}{l:List GEquation}(h:eqJ s q=(l,r)):eqR s q=(l,(r.1,r.2||decide (eqsF s l≠0))):=by
 unfold eqR;rw[h]
theorem eqR_sm(s:GSignature)(q:RdS):smE (eqR s q).1∧(eqR s q).1.length≤255∧(eqR s q).2.1.length≤q.1.length:=by
 obtain⟨h1,h2,h3⟩:=eqI_le s (yI q).toNat (tkS q 1) []
 have h4:=vN q
 simp only[List.length_nil]at h2
 exact⟨h3 (fun e he=>by cases he),show(eqI s (yI q).toNat (tkS q 1) []).1.length≤255 by omega,Nat.le_trans h1 (vK _ _)⟩
theorem unp_cases{s:GSignature}{data:List UInt8}(hf:yK s=0){o:List Int}{E L:List GEquation}{q:RdS}(hX:rTh s data=⟨o,E,L⟩)(hq:(uqR s data).2=q):
  (unpR s data=⟨0,⟨o,E,L⟩⟩∧endV q=true∧packR s ⟨o,E,L⟩=⟨0,data⟩)
  ∨(unpR s data=⟨5,noTh⟩∧(endV q=false∨(endV q=true∧(packR s ⟨o,E,L⟩).code≠0)∨(endV q=true∧∃l,packR s ⟨o,E,L⟩=⟨0,l⟩∧¬l=data))):=by
 have hb:=unp_both (data:=data) hf
 rw[hX,hq]at hb
 by_cases h:(thS s data).2=true
 ·have hs:=unp_same hf h
  rw[hX]at hs
  obtain⟨h1,h2,h3,h4⟩:=hb.1 h
  refine .inl ⟨?_,h1,?_⟩
  ·unfold unpR;rw[if_neg (by simpa using hf),if_pos h,hs]
  ·unfold packR;rw[if_neg (by simpa using h2),if_neg (by omega),h4]
 ·refine .inr ⟨?_,?_⟩
  ·unfold unpR;rw[if_neg (by simpa using hf),if_neg h]
  ·cases h1:endV q with
   |false=>exact .inl rfl
   |true=>
    refine .inr ?_
    unfold packR
    by_cases h2:thF s ⟨o,E,L⟩=0
    ·rw[if_neg (by simpa using h2)]
     by_cases h3:300<(yT ⟨o,E,L⟩).length
     ·rw[if_pos h3];exact .inl ⟨rfl,by decide⟩
     ·rw[if_neg h3];exact .inr ⟨rfl,_,rfl,fun h4=>h (hb.2 ⟨h1,h2,by omega,h4⟩)⟩
    ·rw[if_pos h2];exact .inl ⟨rfl,h2⟩
theorem chn_dlen(d:GDisk):∀(f:Nat) (id:Int) (data:List UInt8) (pages:List Int),(chn d f id data pages).1.length≤400
 |0,_,_,_=>by simp[chn]
 |f+1,id,data,pages=>by
  rw[chn]
  split
  ·simp
  ·split
   ·simp
   ·split
    ·simp
    ·split
     ·simp
     ·split
      ·simp
      ·rename_i h
       split
       ·show(data++_).length≤400
        omega
       ·exact chn_dlen d f _ _ _
theorem chainD_dlen(d:GDisk)(h:Int):(qT d h).1.length≤1000000:=Nat.le_trans (chn_dlen d 401 h [] []) (by decide)
def thAt(d:GDisk)(p:GSuper)(h:Int):GTheory×Bool:=thS p.symbols (qT d h).1
def noSt:GL18State:=⟨yB,[],noTh,noTh⟩
noncomputable def scrD(d:GDisk):GL18State×Int:=
 if(jM d).2≠0 then(noSt,(jM d).2)
 else if(vO d (jM d).1).code≠0 then(noSt,(vO d (jM d).1).code)
 else if(thAt d (jM d).1 (jM d).1.theory).2=false then(noSt,5)
 else if(jM d).1.moving=true∧(thAt d (jM d).1 (jM d).1.next_).2=false then(noSt,5)
 else(⟨(jM d).1,(vO d (jM d).1).list,(thAt d (jM d).1 (jM d).1.theory).1,if(jM d).1.moving=true then(thAt d (jM d).1 (jM d).1.next_).1 else noTh⟩,0)
noncomputable def baseR(d:GDisk):GBaseResult:=if yN d≠0 then⟨yN d,yB,noTh,noTh⟩else⟨(scrD d).2,(scrD d).1.super,(scrD d).1.theory,(scrD d).1.next_⟩
theorem unpR_yes{s:GSignature}{data:List UInt8}(hf:yK s=0)(h:(thS s data).2=true):unpR s data=⟨0,(thS s data).1⟩:=by unfold unpR;rw[if_neg (by simpa using hf),if_pos h]
theorem unpR_no{s:GSignature}{data:List UInt8}(hf:yK s=0)(h:(thS s data).2=false):unpR s data=⟨5,noTh⟩:=by unfold unpR;rw[if_neg (by simpa using hf),if_neg (by rw[h];decide)]
def KeyOK(l:List GRow):Prop:=∀r∈l,r.key.length≤16
theorem nodeF_keys{n:GNode}(h:kO n=0):∀k∈n.keys,k.length≤16:=fun k hk=>by
 unfold kO at h
 split at h
 ·cases h
 ·split at h
  ·cases h
  ·rename_i h2
   have:¬(k.length<1∨16<k.length):=fun hb=>h2 (List.any_eq_true.2 ⟨k,hk,decide_eq_true hb⟩)
   omega
theorem rowsN_ok{n:GNode}(h:kO n=0):KeyOK (rowsN n n.keys.length):=fun r hr=>by
 obtain⟨i,hi,rfl⟩:=List.mem_map.1 hr
 have hi:=List.mem_range.1 hi
 show(n.keys.getD i []).length≤16
 rw[List.getD_eq_getElem?_getD,List.getElem?_eq_getElem hi]
 exact nodeF_keys h _ (List.getElem_mem hi)
theorem visK_ok{g:Vis}{n:GNode}{low high:List UInt8}(hg:∀k a b w,KeyOK w.rows→KeyOK (g k a b w).2.rows):∀(k i:Nat) (w:GL17Walk),KeyOK w.rows→KeyOK (visK g n low high k i w).2.rows
 |0,i,w,h=>h
 |k+1,i,w,h=>by
  rw[visK]
  split
  ·exact hg _ _ _ _ h
  ·exact visK_ok hg k (i+1) _ (hg _ _ _ _ h)
theorem vis_ok(ins:List Int→Int→List Int)(d:GDisk):∀(f:Nat) (id:Int) (low high:List UInt8) (depth:Int) (w:GL17Walk),KeyOK w.rows→KeyOK (vis ins d f id low high depth w).2.rows
 |0,_,_,_,_,_,h=>h
 |f+1,id,low,high,depth,w,h=>by
  by_cases h1:hasI w.pages id=true
  ·rw[vis_has h1];exact h
  by_cases h2:(jQ d id).2=0
  case neg=>rw[vis_code h1 h2];exact h
  by_cases h3:badN (jQ d id).1 depth low high=true
  ·rw[vis_bad h1 h2 h3];exact h
  by_cases h4:(jQ d id).1.leaf=true
  ·by_cases h5:w.deep=0∨w.deep=depth
   ·rw[vis_leaf h1 h2 h3 h4 h5]
    intro r hr
    rcases List.mem_append.1 hr with hr|hr
    ·exact h r hr
    ·exact rowsN_ok (nodeD_ok h2) r hr
   ·rw[vis_leafN h1 h2 h3 h4 h5];exact h
  ·rw[vis_kids h1 h2 h3 h4]
   exact visK_ok (fun k a b w h=>vis_ok ins d f k a b (depth+1) w h) _ _ _ h
theorem noKey:KeyOK noWk.rows:=fun r hr=>by cases hr
theorem treeI_ok(d:GDisk)(root:Int):KeyOK (jU d root).2.rows:=by
 unfold jU
 split
 ·exact noKey
 ·exact vis_ok _ d 5 root [] [] 1 noWk noKey
def rowsI(d:GDisk)(root:Int):List GRow:=if(jU d root).1≠0 then []else(jU d root).2.rows
theorem treeS_rows(d:GDisk)(root:Int):(jR d root).1.rows=rowsI d root:=by
 obtain⟨h1,h2⟩:=tree_two d root
 unfold rowsI
 by_cases h:(jU d root).1=0
 ·rw[if_neg (by simpa using h),(h2 h).rows]
 ·rw[if_pos h]
  have:(jR d root).2≠0:=by rw[h1];exact h
  unfold jR at this ⊢
  split
  ·rfl
  ·rename_i h3
   rw[if_neg h3]at this
   split
   ·rfl
   ·rename_i h4
    rw[if_neg h4]at this
    exact absurd rfl this
theorem rowsI_ok(d:GDisk)(root:Int):KeyOK (rowsI d root)∧(rowsI d root).length≤31104:=by
 unfold rowsI
 split
 ·exact⟨fun r hr=>(by cases hr),Nat.zero_le _⟩
 ·exact⟨treeI_ok d root,(treeI_len d root).2⟩
theorem rows_sm{l:List GRow}(h:KeyOK l)(hl:l.length≤31104):sm l:=⟨by omega,fun r hr=>⟨⟨by have:=h r hr;omega,fun _ _=>trivial⟩,trivial⟩⟩
def kG(l:List GRow)(k:List UInt8):List GRow:=l.filter fun r=>decide (0<Lib.compareBytes r.key k)
theorem behind_ok{l:List GRow}(h:KeyOK l)(k:List UInt8):KeyOK (kG l k):=fun r hr=>h r (List.mem_filter.1 hr).1
theorem behind_len(l:List GRow)(k:List UInt8):(kG l k).length≤l.length:=List.length_filter_le _ _
theorem behind_not(l:List GRow)(k:List UInt8):(l.filter fun r=> !decide (Lib.compareBytes r.key k≤0))=kG l k:=by
 unfold kG
 congr 1
 funext r
 by_cases h:Lib.compareBytes r.key k≤0
 ·rw[decide_eq_true h,decide_eq_false (by omega)];rfl
 ·rw[decide_eq_false h,decide_eq_true (by omega)];rfl
noncomputable def leftR(d:GDisk):GIntResult:=if(baseR d).code≠0 then⟨(baseR d).code,0⟩else if(baseR d).super.moving=false then⟨8,0⟩else⟨0,((kG (rowsI d (baseR d).super.root) (baseR d).super.cursor).length:Int)⟩
noncomputable def openS(d:GDisk):GL18State×Int:=if yN d≠0 then(noSt,yN d)else scrD d
theorem openS_code(d:GDisk):(openS d).2=(baseR d).code:=by unfold openS baseR;split <;>rfl
theorem scrD_ok{d:GDisk}(h:(scrD d).2=0):(jM d).2=0∧(scrD d).1.super=(jM d).1:=by
 unfold scrD at h ⊢
 by_cases q1:(jM d).2=0
 ·rw[if_neg (by simpa using q1)]at h ⊢
  refine⟨q1,?_⟩
  split at h
  ·rename_i q;exact absurd h q
  ·rename_i q
   rw[if_neg q]
   split at h
   ·cases h
   ·rename_i q;rw[if_neg q]
    split at h
    ·cases h
    ·rename_i q;rw[if_neg q]
 ·rw[if_pos q1]at h;exact absurd h q1
theorem openS_ok{d:GDisk}(h:(openS d).2=0):yN d=0∧(openS d).1.super=(baseR d).super∧SuperOK (openS d).1.super:=by
 unfold openS baseR at*
 by_cases q:yN d=0
 ·rw[if_neg (by simpa using q)]at h ⊢
  rw[if_neg (by simpa using q)]
  obtain⟨h1,h2⟩:=scrD_ok h
  exact⟨q,rfl,by rw[h2];exact kH (openD_ok h1)⟩
 ·rw[if_pos q]at h;exact absurd h q
def rowsO(d:GDisk)(root:Int):List GRow:=if(kR d root).1≠0 then []else(kR d root).2.2.rows
theorem rowsO_ok{d:GDisk}{root:Int}(h:yN d=0):rowsO d root=rowsI d root:=by
 have e:kR d root=((jU d root).1,d,(jU d root).2):=by unfold kR;rw[if_neg (by simpa using h)]
 unfold rowsO rowsI;rw[e]
theorem plain_ok{v:Value}(h:yH v=true):kQ v=true:=by
 cases v with
 |agg _=>cases h
 |tuple _=>cases h
 |chan o=>cases o <;>cases h
 |_=>rfl
@[push_cast] theorem aclear_T{P:Program}{t e k:Nat}{z:List Value}[h:TySl P t e k z](H:AH)(n off len c:Nat):aclear P H [t] (.slice (some ⟨n,off,some k⟩) len c)=
  (H n).bind fun b=>if b.own=true∧off+len*k≤b.cells.length then some (upd H n (some ⟨lset b.cells off (yZ len z),true⟩))else none:=by
 obtain⟨z0,h1,h2⟩:=h.hz
 subst h2
 have hu:ask P (underlying t)=some (.slice e):=h.h
 have hc:(cellsL z0).all kQ=true:=List.all_eq_true.2 fun v hv=>plain_ok (List.all_eq_true.1 h.zp v hv)
 simp only[aclear,hu,h1]
 cases H n with
 |none=>rfl
 |some b=>simp[h.zk,h.zp,hc]
theorem lset_flat{α:Type}[Enc α](xs:List α){i:Nat}(hi:i<xs.length)(v:α):lset (qQ xs) (i*Enc.k α) (enc v)=qQ (xs.set i v):=by
 have h1:i*Enc.k α+Enc.k α≤xs.length*Enc.k α:=by rw[←Nat.succ_mul];exact Nat.mul_le_mul_right _ hi
 have e1:xs.set i v=xs.take i++v::xs.drop (i+1):=List.set_eq_take_append_cons_drop.trans (if_pos hi)
 have hl:(qQ (xs.take i)).length=i*Enc.k α:=by rw[jT,List.length_take,Nat.min_eq_left (by omega)]
 have e2:qQ xs=qQ (xs.take i)++(enc xs[i]++qQ (xs.drop (i+1))):=by
  conv=>lhs;rw[←List.take_append_drop i xs,List.drop_eq_getElem_cons hi,qL,jO]
 rw[e1,qL,jO]
 refine List.ext_getElem? fun j=> ?_
 rw[lset_get _ _ _ _ (by rw[jT,yC];omega),yC,e2]
 split
 ·rw[List.getElem?_append_left (by omega),List.getElem?_append_left (by omega)]
 ·split
  ·rw[List.getElem?_append_right (by omega),hl,List.getElem?_append_left (by rw[yC];omega)]
  ·rw[List.getElem?_append_right (by omega),hl,List.getElem?_append_right (by rw[yC];omega),List.getElem?_append_right (by omega),hl,List.getElem?_append_right (by rw[yC];omega),yC,yC]
theorem lset_two{xs:List GRow}{i:Nat}(hi:i<xs.length)(v:GRow):lset (qQ xs) (i*2) [lst v.key, .int .i64 v.value]=qQ (xs.set i v):=lset_flat xs hi v
theorem lset_tail(a b z:List Value)(h:z.length=b.length):lset (a++b) a.length z=a++z:=by
 refine List.ext_getElem? fun j=> ?_
 rw[lset_get _ _ _ _ (by simp;omega)]
 split
 ·rw[List.getElem?_append_left (by omega),List.getElem?_append_left (by omega)]
 ·split
  ·rw[List.getElem?_append_right (by omega)]
  ·rw[List.getElem?_append_right (by omega),List.getElem?_append_right (by omega),List.getElem?_eq_none (by omega),List.getElem?_eq_none (by omega)]
theorem pub_front{H:AH}{S:Nat→Prop}{α:Type}[Enc α]{n c k len:Nat}{xs:List α}{z:List Value}(hb:H n=some ⟨qQ xs++z,true⟩)(hS:S n)(hk:Enc.k α=k)(hl:len=xs.length):Pub H S (.slice (some ⟨n,0,some k⟩) len c) (lst xs):=by
 subst hk;subst hl
 exact pub_flat hb rfl (by rw[List.drop_zero,←jT,List.take_left]) hS rfl rfl
def DfB(R:List GRow→GSuper→Nat→Nat→Nat→AH→Nat→(Value→AH→Nat→Prop)→Prop)(n l c m:Nat)(H:AH)(Bd:Nat)(K:Value→AH→Nat→Prop):Prop:=
 Yld (H n) fun b=>Yld (yG (flB (α:=GRow)) b) fun xs=>Yld (H m) fun b2=>Yld (dataOf (α:=GSuper) b2.cells) fun p=>(n≠m∧l=xs.length∧l<c∧sm xs∧sm p)∧R xs p n l c H Bd K
@[go_sem] theorem DfB_eq(R:List GRow→GSuper→Nat→Nat→Nat→AH→Nat→(Value→AH→Nat→Prop)→Prop)(n l c m:Nat)(H:AH)(Bd:Nat)(K:Value→AH→Nat→Prop):DfB R n l c m H Bd K=(Yld (H n) fun b=>Yld (yG (flB (α:=GRow)) b) fun xs=>Yld (H m) fun b2=>Yld (dataOf (α:=GSuper) b2.cells) fun p=>(n≠m∧l=xs.length∧l<c∧sm xs∧sm p)∧R xs p n l c H Bd K):=(rfl)
def DfT(g:Nat)(R:List GRow→GSuper→Nat→Nat→Nat→AH→Nat→(Value→AH→Nat→Prop)→Prop):qJ:=fun args H Bd K=>∃(n l c m:Nat),args=[.slice (some ⟨n,0,some 2⟩) l c, .func (.func g) #[] #[.pointer (some ⟨m,0,none⟩)]]∧DfB R n l c m H Bd K
theorem DfT_eq(g:Nat)(R:List GRow→GSuper→Nat→Nat→Nat→AH→Nat→(Value→AH→Nat→Prop)→Prop)(n l c m:Nat)(H:AH)(Bd:Nat)(K:Value→AH→Nat→Prop):DfT g R [.slice (some ⟨n,0,some 2⟩) l c, .func (.func g) #[] #[.pointer (some ⟨m,0,none⟩)]] H Bd K=DfB R n l c m H Bd K:=by
 refine propext ⟨fun h=> ?_,fun h=>⟨n,l,c,m,rfl,h⟩⟩
 obtain⟨n',l',c',m',e,h⟩:=h
 simp only[List.cons.injEq,Value.slice.injEq,Value.func.injEq,Value.pointer.injEq,Option.some.injEq,Addr.mk.injEq,Array.mk.injEq,true_and,and_true]at e
 obtain⟨⟨rfl,rfl,rfl⟩,rfl⟩:=e
 exact h
def keep(xs:List GRow)(q:GRow→Bool)(j:Nat):List GRow:=(xs.take j).filter fun r=> !q r
def kept(xs:List GRow)(q:GRow→Bool)(j:Nat):List GRow:=keep xs q j++xs.drop (keep xs q j).length
theorem keep_le(xs:List GRow)(q:GRow→Bool)(j:Nat):(keep xs q j).length≤j∧(keep xs q j).length≤xs.length:=by
 have:=List.length_filter_le (fun r=> !q r) (xs.take j)
 rw[List.length_take]at this
 unfold keep;omega
theorem kpt_len(xs:List GRow)(q:GRow→Bool)(j:Nat):(kept xs q j).length=xs.length:=by
 have:=keep_le xs q j
 unfold kept;rw[List.length_append,List.length_drop];omega
theorem kpt_get(xs:List GRow)(q:GRow→Bool){j:Nat}(hj:j<xs.length):(kept xs q j)[j]? =some xs[j]:=by
 have:=keep_le xs q j
 unfold kept
 rw[List.getElem?_append_right this.1,List.getElem?_drop,show(keep xs q j).length+(j-(keep xs q j).length)=j by omega,List.getElem?_eq_getElem hj]
theorem keep_yes{xs:List GRow}{q:GRow→Bool}{j:Nat}(hj:j<xs.length)(h:q xs[j]=true):keep xs q (j+1)=keep xs q j:=by
 unfold keep
 rw[List.take_succ_eq_append_getElem hj,List.filter_append,List.filter_cons_of_neg (by simp[h])];simp
theorem keep_no{xs:List GRow}{q:GRow→Bool}{j:Nat}(hj:j<xs.length)(h:q xs[j]=false):keep xs q (j+1)=keep xs q j++[xs[j]]:=by
 unfold keep
 rw[List.take_succ_eq_append_getElem hj,List.filter_append,List.filter_cons_of_pos (by simp[h])];rfl
theorem kpt_set{xs:List GRow}{q:GRow→Bool}{j:Nat}(hj:j<xs.length)(h:q xs[j]=false)(hlt:(keep xs q j).length<xs.length):(kept xs q j).set (keep xs q j).length xs[j]=kept xs q (j+1):=by
 unfold kept
 rw[keep_no hj h,List.set_append_right _ _ (Nat.le_refl _),Nat.sub_self,List.drop_eq_getElem_cons hlt,List.set_cons_zero,List.length_append,List.length_singleton,List.append_assoc]
 rfl
theorem kpt_same{xs:List GRow}{q:GRow→Bool}{j:Nat}(hj:j<xs.length)(h:q xs[j]=true):kept xs q (j+1)=kept xs q j:=by
 unfold kept;rw[keep_yes hj h]
theorem keep_all{xs:List GRow}{q:GRow→Bool}{j:Nat}(h:∀i,i<j→∀x,xs[i]? =some x→q x=false):keep xs q j=xs.take j:=by
 unfold keep
 refine List.filter_eq_self.2 fun x hx=> ?_
 obtain⟨i,hi,rfl⟩:=List.mem_iff_getElem.1 hx
 rw[List.length_take]at hi
 rw[List.getElem_take]
 rw[h i (by omega) _ (List.getElem?_eq_getElem (by omega))];rfl
theorem kpt_all{xs:List GRow}{q:GRow→Bool}{j:Nat}(hj:j≤xs.length)(h:∀i,i<j→∀x,xs[i]? =some x→q x=false):kept xs q j=xs:=by
 unfold kept;rw[keep_all h,List.length_take,Nat.min_eq_left hj,List.take_append_drop]
theorem hb_setZ{H:AH}{Bd n k:Nat}{b:Blk}{α:Type}[Enc α]{z:List Value}(hh:HB H Bd)(hb:H n=some b)(xs:List α)(hz:∀v∈z,NB Bd v):HB (upd H n (some ⟨qQ xs++yZ k z,true⟩)) Bd:=by
 have hn:=hb_in hh hb
 refine⟨fun m hm=> ?_,fun m c hm v hv=> ?_⟩
 ·rw[qF _ _ (by omega)];exact hh.fresh m hm
 ·by_cases e:m=n
  ·subst e;rw[qN]at hm;cases hm
   rcases List.mem_append.1 hv with hv|hv
   ·exact flat_nb Bd xs v hv
   ·exact hz v (zmake_mem hv)
  ·rw[qF _ _ e]at hm;exact hh.nb m c hm v hv
theorem nb_row{Bd:Nat}:∀v∈[Value.slice none 0 0,Value.int .i64 0],NB Bd v:=fun v hv=>by
 simp only[List.mem_cons,List.not_mem_nil,or_false]at hv
 rcases hv with rfl|rfl
 ·exact .nils
 ·exact .int _ _
@[go_sem] theorem dataOf_GSuper(a b c e f g:Int)(h:Bool)(x:List UInt8)(y:List GSymbol):dataOf (α:=GSuper) [.int .i64 a, .int .i64 b, .int .i64 c, .int .i64 e, .int .i64 f, .int .i64 g, .bool h,lst x,lst y]=some ⟨a,b,c,e,f,g,h,x,⟨y⟩⟩:=dataOf_enc (⟨a,b,c,e,f,g,h,x,⟨y⟩⟩:GSuper)
theorem row_cells{xs:List GRow}{i:Nat}{r:GRow}(h:xs[i]? =some r):List.take 2 (List.drop (i*2) (qQ xs))=[lst r.key, .int .i64 r.value]:=flat_get xs i r h
theorem set_two{xs ys:List GRow}{i:Nat}(hi:i<xs.length){r:GRow}(h:xs.set i r=ys):((qQ xs).set (i*2) (lst r.key)).set (i*2+1) (.int .i64 r.value)=qQ ys:=by
 rw[←h];exact lset_two hi r
theorem fidx_spec3{α:Type}(p:α→Bool)(xs:List α):(fidx p xs= -1∧∀x∈xs,p x=false)∨∃(i:Nat) (h:i<xs.length),fidx p xs=i∧p xs[i]=true∧∀(j:Nat) (hj:j<i),p (xs[j]'(by omega))=false:=by
 unfold fidx
 cases h:xs.findIdx? p with
 |none=>exact .inl ⟨rfl,by simpa[List.findIdx?_eq_none_iff]using h⟩
 |some i=>
  obtain⟨h1,h2,h3⟩:=List.findIdx?_eq_some_iff_getElem.1 h
  exact .inr ⟨i,h1,rfl,h2,fun j hj=>by simpa using h3 j hj⟩
theorem clear_tail{xs:List GRow}{q:GRow→Bool}(h:(keep xs q xs.length).length≤xs.length):lset (qQ (kept xs q xs.length)) ((keep xs q xs.length).length*2) (yZ (xs.length-(keep xs q xs.length).length) [.slice none 0 0, .int .i64 0])=qQ (keep xs q xs.length)++yZ (xs.length-(keep xs q xs.length).length) [.slice none 0 0, .int .i64 0]:=by
 unfold kept
 rw[qL]
 have e:(keep xs q xs.length).length*2=(qQ (keep xs q xs.length)).length:=(jT _).symm
 rw[e]
 refine lset_tail _ _ _ ?_
 rw[jT,List.length_drop]
 simp[yZ]
 rfl
theorem rowsO_sm(d:GDisk)(root:Int):KeyOK (rowsO d root)∧(rowsO d root).length≤31104:=by
 by_cases h:yN d=0
 ·rw[rowsO_ok h];exact rowsI_ok d root
 ·have e:kR d root=(yN d,⟨[],[]⟩,noWk):=by unfold kR;rw[if_pos h]
  unfold rowsO
  rw[e,if_pos h]
  exact⟨fun r hr=>(by cases hr),Nat.zero_le _⟩
theorem cj{a b:Prop}(x:a)(y:b):a∧b:=⟨x,y⟩
theorem At.fld2{H:AH}{v:Value}{l:List Value}(h:At H v l){m:Nat}(hl:l.length=m){P:Program}{t f p o k:Nat}{a:Bool}[hf:TyF P t f p k a](ho:o+p≤m):kZ P t (vadd v o) f=some (vadd v (o+p)):=by
 rcases h with⟨r,rfl⟩|⟨n,off,b,rfl,_⟩
 ·rw[vadd_vp,afldAddr_V,if_pos (by simp;omega),vadd_vp,List.drop_drop]
 ·show kZ P t (.pointer (some ⟨n,off+o,none⟩)) f=some (.pointer (some ⟨n,off+(o+p),none⟩))
  rw[afldAddr_ptr,Nat.add_assoc]
theorem At.all{H:AH}{v:Value}{l:List Value}(h:At H v l)(m:Nat)(hl:l.length=m):
  anilck v=some v∧(∀(P:Program) (t f o k:Nat) (a:Bool) [TyF P t f o k a],o≤m→kZ P t v f=some (vadd v o))
  ∧(∀(P:Program) (t o k:Nat) (a:Bool) (z:Value) [TyZ P t k a z] (H':AH),o+k≤m→o<m→Le H H'→aloadV P t H' (vadd v o)=vP P t ⟨l.drop o,false⟩ 0)
  ∧(∀(P:Program) (t k:Nat) (a:Bool) (z:Value) [TyZ P t k a z] (H':AH),k≤m→0<m→Le H H'→aloadV P t H' v=vP P t ⟨l,false⟩ 0)
  ∧(∀(k:Nat) (H':AH),k≤m→Le H H'→qK H' k v=some (l.take k))
  ∧(∀(k o:Nat) (H':AH),o+k≤m→Le H H'→qK H' k (vadd v o)=some ((l.drop o).take k))
  ∧∀(P:Program) (t f p o k:Nat) (a:Bool) [TyF P t f p k a],o+p≤m→kZ P t (vadd v o) f=some (vadd v (o+p)):=
 ⟨h.nil,fun _ _ _ _ _ _=>h.fldL hl,fun _ _ _ _ _ _ _ _=>h.ldL hl,fun _ _ _ _ _ _ _=>h.ld0L hl,fun _ _=>h.cellsL hl,fun _ _ _=>h.cellsOL hl,fun _ _ _ _ _ _ _ _=>h.fld2 hl⟩
theorem R0{P Q:Prop}(q:Q)(e:P=Q:=by conv=>lhs;simp (maxSteps:=2000000) (disch:=first|assumption|(refine qI ?_;assumption)|exact Nat.le_add_right _ _|exact Nat.le_refl _|omega|(simp (disch:=first|exact Nat.le_add_right _ _|omega) only[qG hb,qR hb,qM,qE hb,qC];done)|fail) only[go_sem,push_cast,qB,qA,qG hb,qE hb]):P:=e.mpr q
theorem R{F P Q:Prop}(f:F)(q:Q)(e:F→P=Q:=by intro F_;conv=>lhs;simp (maxSteps:=2000000) (disch:=first|assumption|(refine qI ?_;assumption)|exact Nat.le_add_right _ _|exact Nat.le_refl _|omega|(simp (disch:=first|exact Nat.le_add_right _ _|omega) only[qG hb,qR hb,qM,qE hb,qC];done)|fail) only[go_sem,push_cast,qB,qA,qG hb,qE hb,F_]):P:=(e f).mpr q
theorem RA0{P Q:Prop}(q:Q)(e:P=Q:=by conv=>lhs;simp (maxSteps:=2000000) (disch:=first|assumption|(refine qI ?_;assumption)|exact Nat.le_add_right _ _|exact Nat.le_refl _|omega|(simp (disch:=first|exact Nat.le_add_right _ _|omega) only[qG hb,qR hb,qM,qE hb,qC];done)|fail) only[go_sem,push_cast,qB,qA,qG hb,qE hb,appVal,yU,HB.no hb]):P:=e.mpr q
theorem RA{F P Q:Prop}(f:F)(q:Q)(e:F→P=Q:=by intro F_;conv=>lhs;simp (maxSteps:=2000000) (disch:=first|assumption|(refine qI ?_;assumption)|exact Nat.le_add_right _ _|exact Nat.le_refl _|omega|(simp (disch:=first|exact Nat.le_add_right _ _|omega) only[qG hb,qR hb,qM,qE hb,qC];done)|fail) only[go_sem,push_cast,qB,qA,qG hb,qE hb,appVal,yU,HB.no hb,F_]):P:=(e f).mpr q
theorem RL{F P Q:Prop}(f:F)(q:Q)(e:F→P=Q:=by intro F_;conv=>lhs;simp (maxSteps:=2000000) (disch:=first|assumption|(refine qI ?_;assumption)|exact Nat.le_add_right _ _|exact Nat.le_refl _|omega|(simp (disch:=first|exact Nat.le_add_right _ _|omega) only[qG hb,qR hb,qM,qE hb,qC];done)|fail) only[go_sem,push_cast,qB,qA,qG hb,qE hb,appVal,yU,HB.no hb,take_lo,len_lo,F_]):P:=(e f).mpr q
theorem S0{P Q:Prop}(q:Q)(e:P=Q:=by conv=>lhs;simp (maxSteps:=2000000) (disch:=first|assumption|(refine qI ?_;assumption)|exact Nat.le_add_right _ _|exact Nat.le_refl _|omega|(simp (disch:=first|assumption|exact Nat.le_add_right _ _|omega) only[qG hb,qR hb,qA,qM,qE hb,qC];done)|fail) only[go_sem,push_cast,qB,qA,qG hb,qE hb]):P:=e.mpr q
theorem S{F P Q:Prop}(f:F)(q:Q)(e:F→P=Q:=by intro F_;conv=>lhs;simp (maxSteps:=2000000) (disch:=first|assumption|(refine qI ?_;assumption)|exact Nat.le_add_right _ _|exact Nat.le_refl _|omega|(simp (disch:=first|assumption|exact Nat.le_add_right _ _|omega) only[qG hb,qR hb,qA,qM,qE hb,qC];done)|fail) only[go_sem,push_cast,qB,qA,qG hb,qE hb,F_]):P:=(e f).mpr q
theorem SA0{P Q:Prop}(q:Q)(e:P=Q:=by conv=>lhs;simp (maxSteps:=2000000) (disch:=first|assumption|(refine qI ?_;assumption)|exact Nat.le_add_right _ _|exact Nat.le_refl _|omega|(simp (disch:=first|assumption|exact Nat.le_add_right _ _|omega) only[qG hb,qR hb,qA,qM,qE hb,qC];done)|fail) only[go_sem,push_cast,qB,qA,qG hb,qE hb,appVal,yU,HB.no hb]):P:=e.mpr q
theorem SA{F P Q:Prop}(f:F)(q:Q)(e:F→P=Q:=by intro F_;conv=>lhs;simp (maxSteps:=2000000) (disch:=first|assumption|(refine qI ?_;assumption)|exact Nat.le_add_right _ _|exact Nat.le_refl _|omega|(simp (disch:=first|assumption|exact Nat.le_add_right _ _|omega) only[qG hb,qR hb,qA,qM,qE hb,qC];done)|fail) only[go_sem,push_cast,qB,qA,qG hb,qE hb,appVal,yU,HB.no hb,F_]):P:=(e f).mpr q
def Cv{P:Program}(E:Env P)(PL:List (Nat×List Nat×List Stp×JT)):Prop:=∀ {N0:Nat} {c:Code} {Q:kA} {s:List Value} {H:AH} {Bd:Nat},kX PL c=true→vq E PL N0 c Q s H Bd→Tr P N0 c Q s H Bd
theorem jH{P:Program}(hP:POk P){E:Env P}{PL:List (Nat×List Nat×List Stp×JT)}{N0:Nat}{c:Code}{Q:kA}{s:List Value}{H:AH}{Bd:Nat}(h:Cv E PL→vq E PL N0 c Q s H Bd):vq E PL N0 c Q s H Bd:=h fun h1 h2=>vq_conv hP h1 h2
theorem enc_ij{α:Type}[Enc α]{x y:α}:(enc x=enc y)=(x=y):=propext ⟨enc_inj,fun h=>by rw[h]⟩
theorem ex1{α0:Type}{args:List Value}{f:α0→List Value}{B:α0→Prop}(a0:α0)(h0:args=f a0)(hf:∀x0,f a0=f x0→a0=x0:=by intro x0 e;simp only[List.cons.injEq,Value.agg.injEq,jE,enc_ij,Value.int.injEq,Value.bool.injEq,Value.string.injEq,lst_inj,u8_inj,true_and,and_true]at e;exact e):(∃x0,args=f x0∧B x0)=B a0:=by
 subst h0
 refine propext ⟨fun h=> ?_,fun h=>⟨a0,rfl,h⟩⟩
 obtain⟨x0,e,h⟩:=h
 obtain rfl:=hf x0 e
 exact h
theorem ex2{α0 α1:Type}{args:List Value}{f:α0→α1→List Value}{B:α0→α1→Prop}(a0:α0)(a1:α1)(h0:args=f a0 a1)(hf:∀x0 x1,f a0 a1=f x0 x1→a0=x0∧a1=x1:=by intro x0 x1 e;simp only[List.cons.injEq,Value.agg.injEq,jE,enc_ij,Value.int.injEq,Value.bool.injEq,Value.string.injEq,lst_inj,u8_inj,true_and,and_true]at e;exact e):(∃x0 x1,args=f x0 x1∧B x0 x1)=B a0 a1:=by
 subst h0
 refine propext ⟨fun h=> ?_,fun h=>⟨a0,a1,rfl,h⟩⟩
 obtain⟨x0,x1,e,h⟩:=h
 obtain⟨rfl,rfl⟩:=hf x0 x1 e
 exact h
theorem ex3{α0 α1 α2:Type}{args:List Value}{f:α0→α1→α2→List Value}{B:α0→α1→α2→Prop}(a0:α0)(a1:α1)(a2:α2)(h0:args=f a0 a1 a2)(hf:∀x0 x1 x2,f a0 a1 a2=f x0 x1 x2→a0=x0∧a1=x1∧a2=x2:=by intro x0 x1 x2 e;simp only[List.cons.injEq,Value.agg.injEq,jE,enc_ij,Value.int.injEq,Value.bool.injEq,Value.string.injEq,lst_inj,u8_inj,true_and,and_true]at e;exact e):(∃x0 x1 x2,args=f x0 x1 x2∧B x0 x1 x2)=B a0 a1 a2:=by
 subst h0
 refine propext ⟨fun h=> ?_,fun h=>⟨a0,a1,a2,rfl,h⟩⟩
 obtain⟨x0,x1,x2,e,h⟩:=h
 obtain⟨rfl,rfl,rfl⟩:=hf x0 x1 x2 e
 exact h
theorem ex4{α0 α1 α2 α3:Type}{args:List Value}{f:α0→α1→α2→α3→List Value}{B:α0→α1→α2→α3→Prop}(a0:α0)(a1:α1)(a2:α2)(a3:α3)(h0:args=f a0 a1 a2 a3)(hf:∀x0 x1 x2 x3,f a0 a1 a2 a3=f x0 x1 x2 x3→a0=x0∧a1=x1∧a2=x2∧a3=x3:=by intro x0 x1 x2 x3 e;simp only[List.cons.injEq,Value.agg.injEq,jE,enc_ij,Value.int.injEq,Value.bool.injEq,Value.string.injEq,lst_inj,u8_inj,true_and,and_true]at e;exact e):(∃x0 x1 x2 x3,args=f x0 x1 x2 x3∧B x0 x1 x2 x3)=B a0 a1 a2 a3:=by
 subst h0
 refine propext ⟨fun h=> ?_,fun h=>⟨a0,a1,a2,a3,rfl,h⟩⟩
 obtain⟨x0,x1,x2,x3,e,h⟩:=h
 obtain⟨rfl,rfl,rfl,rfl⟩:=hf x0 x1 x2 x3 e
 exact h
theorem ex5{α0 α1 α2 α3 α4:Type}{args:List Value}{f:α0→α1→α2→α3→α4→List Value}{B:α0→α1→α2→α3→α4→Prop}(a0:α0)(a1:α1)(a2:α2)(a3:α3)(a4:α4)(h0:args=f a0 a1 a2 a3 a4)(hf:∀x0 x1 x2 x3 x4,f a0 a1 a2 a3 a4=f x0 x1 x2 x3 x4→a0=x0∧a1=x1∧a2=x2∧a3=x3∧a4=x4:=by intro x0 x1 x2 x3 x4 e;simp only[List.cons.injEq,Value.agg.injEq,jE,enc_ij,Value.int.injEq,Value.bool.injEq,Value.string.injEq,lst_inj,u8_inj,true_and,and_true]at e;exact e):(∃x0 x1 x2 x3 x4,args=f x0 x1 x2 x3 x4∧B x0 x1 x2 x3 x4)=B a0 a1 a2 a3 a4:=by
 subst h0
 refine propext ⟨fun h=> ?_,fun h=>⟨a0,a1,a2,a3,a4,rfl,h⟩⟩
 obtain⟨x0,x1,x2,x3,x4,e,h⟩:=h
 obtain⟨rfl,rfl,rfl,rfl,rfl⟩:=hf x0 x1 x2 x3 x4 e
 exact h
theorem cant{P:Prop}(e:P:=by simp (disch:=first|assumption|omega|(simp (disch:=omega) only[qC,qE hb];done)|(simp (disch:=first|omega|(simp (disch:=omega) only[qC,qE hb];done)) only[go_sem,push_cast,qB,qA,qC,qE hb];done)|fail) only[go_sem,push_cast,qB,qA,qM,qG hb,qC,qE hb,jC,qL,qU,jS,jI,jD,jX,jL,List.append_assoc,List.length_append,List.length_cons,List.length_nil,Nat.zero_add,List.take_zero,List.map_nil,List.append_nil,u8_flat,List.replicate_zero];all_goals (try simp only[Value.int.injEq,Value.slice.injEq,true_and,and_true]) <;>all_goals (try(first|trivial|omega|grind))):P:=e
theorem canf{F P:Prop}(f:F)(e:F→P:=by intro F_;simp (disch:=first|assumption|omega|(simp (disch:=omega) only[qC,qE hb];done)|(simp (disch:=first|omega|(simp (disch:=omega) only[qC,qE hb];done)) only[go_sem,push_cast,qB,qA,qC,qE hb];done)|fail) only[go_sem,push_cast,qB,qA,qM,qG hb,qC,qE hb,jC,qL,qU,jS,jI,jD,jX,jL,List.append_assoc,List.length_append,List.length_cons,List.length_nil,Nat.zero_add,List.take_zero,List.map_nil,List.append_nil,u8_flat,List.replicate_zero,F_];all_goals (try simp only[Value.int.injEq,Value.slice.injEq,true_and,and_true]) <;>all_goals (try(first|trivial|omega|grind))):P:=e f
theorem jJ{B0:Nat}{v:Value}(h:NB B0 v):∀(σ:List (Option Nat)) (N:Nat) (S:Nat→Prop) (H:AH),B0≤N→RQ σ N S H v v=True:=fun _ _ _ _ hle=>rq_nb h hle
theorem fnp{P:Program}(hP:POk P)(E:Env P)(PL:List (Nat×List Nat×List Stp×JT)){f:FuncId}{fn:Func}{c:Code}{args:List Value}{H:AH}{Bd:Nat}{K:Value→AH→Nat→Prop}{r0:Value}(hK:K r0 H Bd)(hf:P.funcs[f]? =some fn){m:Nat}(hm:fn.ntmps=m)(hent:Enters P f)(rs:List ResultVar)
  (h:HB H Bd→(∀v∈args,NB Bd v)→vq E PL Bd c (pureQ P rs H r0) (aS m undef (idx 0 args)) H Bd)
  (hb:fn.body=some c:=by rfl) (hrs:fn.results.toList=rs:=by rfl) (hm2:args.length≤m:=by simp) (hp:kX PL c=true:=by kernel_rfl)
  (hnb:(∀v∈args,NB Bd v)→HB H Bd→NB Bd r0:=by intro _ _;first|exact .int _ _|exact .bool _|exact .string _|exact lst_nb _ _|exact agg_nb _ _):SCalls P f args H Bd K:=yE hP E PL r0 hK hf hb hrs hm hm2 hent hp hnb h
def ιw(w:World):Ren:=⟨fun _=>none,fun B=>B<w.heap.size,fun _=>none⟩
class Opn (P:Program) (t:TypeId) (α:Type) [Enc α] [Sz α]:Prop where
 k:P.cellsOf t=Enc.k α
 b:1≤P.bytesOf t
 op:∀ {H:Type} (enc0:TypeId×Value→H) (w:World) (fuel:Nat) (cs:List Value) (x:DataW H×List MemPlace),DataW.trod enc0 P w 0 (fun _=>true) true fuel t cs=some x→
  (x.1.weights P t).all (· ≤reachBytes)=true→∃a:α,LR (ιw w) w (enc a) cs∧sm a∧rg a
theorem opn_int{P:Program}{t:TypeId}(hu:P.underlying t=some (.int .i64))(hk:P.cellsOf t=1)(hb:1≤P.bytesOf t):Opn P t Int:=by
 refine⟨hk,hb,fun enc0 w fuel cs x h _=> ?_⟩
 obtain⟨n,rfl,rfl,hw⟩:=DataW.trod_int hu h
 refine⟨n, .cons (.int _ _) (.nil _ _),trivial,?_⟩
 simp[Lit.wf,IntKind.min,IntKind.max,IntKind.signed,IntKind.bits]at hw
 exact hw
theorem opn_byte{P:Program}{t:TypeId}(hu:P.underlying t=some (.int .u8))(hk:P.cellsOf t=1)(hb:1≤P.bytesOf t):Opn P t UInt8:=by
 refine⟨hk,hb,fun enc0 w fuel cs x h _=> ?_⟩
 obtain⟨n,rfl,rfl,hw⟩:=DataW.trod_int hu h
 have hr:0≤n∧n<256:=by
  simp[Lit.wf,IntKind.min,IntKind.max,IntKind.bits,IntKind.signed]at hw
  omega
 refine⟨UInt8.ofNat n.toNat, .cons ?_ (.nil _ _),trivial,trivial⟩
 have:((UInt8.ofNat n.toNat).toNat:Int)=n:=by
  simp;omega
 rw[this]
 exact .int _ _
theorem choose_list{α:Type}(p:Nat→α→Prop):∀n:Nat,(∀i,i<n→∃a,p i a)→∃l:List α,l.length=n∧∀(i:Nat) (a:α),l[i]? =some a→p i a
 |0,_=>⟨[],rfl,fun i a h=>by simp at h⟩
 |n+1,h=>by
  obtain⟨l,hl,hp⟩:=choose_list p n fun i hi=>h i (Nat.lt_succ_of_lt hi)
  obtain⟨a,ha⟩:=h n (Nat.lt_succ_self n)
  refine⟨l++[a],by simp[hl],fun i x hx=> ?_⟩
  rw[List.getElem?_append]at hx
  split at hx
  ·exact hp i x hx
  ·rename_i hge
   have:i-l.length=0:=by
    have:=(List.getElem?_eq_some_iff.1 hx).1
    simpa using this
   rw[this]at hx
   simp at hx
   subst hx
   rwa[show i=n by omega]
theorem weightsAll_mem{H:Type}{P:Program}{e:TypeId}:∀(l:List (DataW H)) (d:DataW H),d∈l→(DataW.weightsAll P e l).all (· ≤reachBytes)=true→(d.weights P e).all (· ≤reachBytes)=true
 |[],d,h,_=>by cases h
 |x::xs,d,h,hw=>by
  simp only[DataW.weightsAll,List.all_append,Bool.and_eq_true]at hw
  rcases List.mem_cons.1 h with rfl|h
  ·exact hw.1
  ·exact weightsAll_mem xs d h hw.2
theorem opn_list{P:Program}{t e:TypeId}{α:Type}[Enc α][Sz α](he:Opn P e α)(hu:P.underlying t=some (.slice e))(hk:P.cellsOf t=1)(hb:1≤P.bytesOf t):Opn P t (List α):=by
 refine⟨hk,hb,fun{H} enc0 w fuel cs x h hw=> ?_⟩
 rcases DataW.trod_slice hu h with⟨rfl,rfl⟩|⟨a,len,cap,elems,rest,n,rfl,rfl,rfl,_,hlc,_,hel,hget,hrest,_⟩
 ·exact⟨[], .cons .lst0 (.nil _ _),⟨by simp,by simp⟩,by simp[rg,Sz.r]⟩
 ·simp only[DataW.weights,hu,List.all_cons,List.all_append,Bool.and_eq_true,decide_eq_true_eq,List.length_map]at hw
  obtain⟨hw1,hw2,hw3⟩:=hw
  have hb1:=he.b
  have hlen:elems.length≤281474976710656:=by
   have:elems.length*1≤(elems.length+rest.length)*P.bytesOf e:=Nat.mul_le_mul (by omega) hb1
   have:reachBytes≤281474976710656:=by decide
   omega
  have hstep:∀i,i<len→∃a0:α,∃csi,w.cells? 0 (a.add (i*P.cellsOf e)) (P.cellsOf e)=some csi∧LR (ιw w) w (enc a0) csi∧sm a0∧rg a0:=fun i hi=>by
   have h1:=hget i hi
   have hlt:i<elems.length:=by omega
   rw[List.getElem?_eq_getElem hlt]at h1
   obtain⟨csi,h2,h3⟩:=Option.bind_eq_some_iff.1 h1
   obtain⟨a0,q1,q2⟩:=he.op enc0 w n csi _ h3 (weightsAll_mem _ _ (List.mem_map_of_mem (List.getElem_mem hlt)) hw2)
   exact⟨a0,csi,h2,q1,q2⟩
  obtain⟨xs,hxl,hx⟩:=choose_list _ len hstep
  refine⟨xs, .cons ?_ (.nil _ _),⟨by omega,fun y hy=> ?_⟩,fun y hy=> ?_⟩
  ·rcases Nat.eq_zero_or_pos len with hz|hp
   ·subst hz
    obtain rfl:=List.eq_nil_of_length_eq_zero hxl
    exact .lst0
   ·obtain⟨cs0,hc0,hl0,_⟩:=hx 0 (xs[0]'(by omega)) (by simp[hxl,hp])
    obtain⟨_,hcl,hcg⟩:=World.cells?_some hc0
    have hkpos:0<P.cellsOf e:=by rw[he.k];exact Enc.pos
    have hg0:=hcg 0 hkpos
    rw[List.getElem?_eq_getElem (by omega)]at hg0
    simp only[Nat.zero_mul]at hg0
    have e0:∀a:Addr,a.add 0=a:=fun a=>by unfold Addr.add;rfl
    rw[e0,e0]at hg0
    obtain⟨B,base,sp⟩:=a
    have hsp:sp=none:=World.cell?_spot hg0
    subst hsp
    obtain⟨cs,e1,fr,hB⟩:∃cs e1 fr,w.heap[B]? =some (.cells cs e1 fr):=by
     unfold World.cell? at hg0
     split at hg0
     ·rename_i cs e1 fr hh
      exact⟨_,_,_,hh⟩
     ·cases hg0
    have hcell:∀i,i<cap→∃csi,w.cells? 0 (Addr.add ⟨B,base,none⟩ (i*P.cellsOf e)) (P.cellsOf e)=some csi:=fun i hi=>by
     rcases Nat.lt_or_ge i len with h1|h1
     ·obtain⟨_,csi,h2,_⟩:=hstep i h1;exact⟨csi,h2⟩
     ·obtain⟨hr1,hr2⟩:=hrest rfl
      have h2:=hr2 (i-len) (by omega)
      rw[List.getElem?_eq_getElem (by omega),show len+(i-len)=i by omega]at h2
      obtain⟨csi,h3,_⟩:=Option.bind_eq_some_iff.1 h2
      exact⟨csi,h3⟩
    have hat:∀i csi,w.cells? 0 (Addr.add ⟨B,base,none⟩ (i*P.cellsOf e)) (P.cellsOf e)=some csi→csi.length=P.cellsOf e∧∀j,j<P.cellsOf e→cs[base+i*P.cellsOf e+j]? =csi[j]? :=fun i csi hi=>by
     obtain⟨_,h1,h2⟩:=World.cells?_some hi
     refine⟨h1,fun j hj=> ?_⟩
     have:=h2 j hj
     rw[vV,vV,cell_of hB]at this
     exact this
    have hsz:base+cap*P.cellsOf e≤cs.size:=by
     obtain⟨csi,hi⟩:=hcell (cap-1) (by omega)
     obtain⟨h1,h2⟩:=hat _ _ hi
     have h3:=h2 (P.cellsOf e-1) (by omega)
     rw[List.getElem?_eq_getElem (by omega)]at h3
     have h4:=(Array.getElem?_eq_some_iff.1 h3).1
     have h5:(cap-1)*P.cellsOf e+P.cellsOf e=cap*P.cellsOf e:=by
      rw[←Nat.succ_mul];congr 1;omega
     omega
    have hlst:=VR.lst (ι:=ιw w) (w:=w) (k:=Enc.k α) (rows:=((xs.map enc).map fun r=>Value.agg r.toArray).toArray) (base:=base) (c':=cap) (B:=B) (cs:=cs) (e:=e1) (fr:=fr)
     (by show B<w.heap.size;exact(Array.getElem?_eq_some_iff.1 hB).1) hB (by simp;omega) (by rw[←he.k];exact hsz) (fun i x hi=>by
      simp only[List.getElem?_toArray,List.getElem?_map]at hi
      cases hq:xs[i]? with
      |none=>rw[hq]at hi;cases hi
      |some y=>
       rw[hq]at hi
       simp only[Option.map_some,Option.some.injEq]at hi
       exact⟨_,hi.symm,by simp[yC]⟩) (fun i j r v v' h1 h2 h3=>by
      simp only[List.getElem?_toArray,List.getElem?_map]at h1
      cases hq:xs[i]? with
      |none=>rw[hq]at h1;cases h1
      |some y=>
       rw[hq]at h1
       simp only[Option.map_some,Option.some.injEq,Value.agg.injEq]at h1
       subst h1
       obtain⟨csi,q1,q2,_⟩:=hx i y hq
       obtain⟨g1,g2⟩:=hat i csi q1
       have hj:j<(enc y).length:=by
        have:=(Array.getElem?_eq_some_iff.1 h2).1;simpa using this
       rw[yC,←he.k]at hj
       have g3:=g2 j hj
       rw[he.k]at g3
       rw[g3]at h3
       exact q2.2 j v v' (by simpa using h2) h3)
    have hs:((xs.map enc).map fun r=>Value.agg r.toArray).toArray.size=len:=by simp[hxl]
    rw[hs]at hlst
    exact hlst
  ·obtain⟨i,hi,rfl⟩:=List.getElem_of_mem hy
   obtain⟨_,_,_,q,_⟩:=hx i xs[i] (by simp[hi])
   exact q
  ·obtain⟨i,hi,rfl⟩:=List.getElem_of_mem hy
   obtain⟨_,_,_,_,q⟩:=hx i xs[i] (by simp[hi])
   exact q
structure OpnL (P:Program) (fs:List Field) (o:Nat) (β:Type) [Enc β] [Sz β]:Prop where
 op:∀ {H:Type} (enc0:TypeId×Value→H) (w:World) (n:Nat) (cs:List Value) (xs:List (DataW H×List MemPlace)),xs.length=fs.length→
  (∀(i:Nat) (f:Field),fs[i]? =some f→DataW.trod enc0 P w 0 (fun _=>true) true n f.type ((cs.drop f.offset).take (P.cellsOf f.type))=xs[i]?)→
  (DataW.weightsEach P (fs.map (·.type)) (xs.map (·.1))).all (· ≤reachBytes)=true→∃y:β,LR (ιw w) w (enc y) ((cs.drop o).take (Enc.k β))∧sm y∧rg y
theorem OpnL.one{P:Program}{f:Field}{o:Nat}{α:Type}[Enc α][Sz α](h:Opn P f.type α)(ho:f.offset=o):OpnL P [f] o α:=by
 refine⟨fun enc0 w n cs xs hl hx hw=> ?_⟩
 match xs,hl with
 |[x],_=>
  have:=hx 0 f rfl
  simp only[List.map_cons,List.map_nil,DataW.weightsEach,List.append_nil]at hw
  rw[←ho,←h.k]
  exact h.op enc0 w n _ x this hw
theorem OpnL.cons{P:Program}{f:Field}{fs:List Field}{o o':Nat}{α β:Type}[Enc α][Sz α][Enc β][Sz β](h:Opn P f.type α)(ho:f.offset=o)(ho':o'=o+Enc.k α)(hs:OpnL P fs o' β):OpnL P (f::fs) o (α×β):=by
 refine⟨fun enc0 w n cs xs hl hx hw=> ?_⟩
 match xs,hl with
 |x::xs,hl=>
  have h0:=hx 0 f rfl
  simp only[List.map_cons,DataW.weightsEach,List.all_append,Bool.and_eq_true]at hw
  obtain⟨a,q1,q2,q3⟩:=h.op enc0 w n _ x h0 hw.1
  obtain⟨b,p1,p2,p3⟩:=hs.op enc0 w n cs xs (by simpa using hl) (fun i g hg=>hx (i+1) g hg) hw.2
  refine⟨(a,b),?_,⟨q2,p2⟩,⟨q3,p3⟩⟩
  rw[ho,h.k]at q1
  have:(cs.drop o).take (Enc.k (α×β))=(cs.drop o).take (Enc.k α)++(cs.drop o').take (Enc.k β):=by
   show(cs.drop o).take (Enc.k α+Enc.k β)=_
   rw[List.take_add,List.drop_drop,ho']
  rw[this]
  exact q1.append p1
theorem opn_struct{P:Program}{t:TypeId}{fs:Array Field}{α β:Type}[Enc α][Sz α][Enc β][Sz β](f:α→β)(g:β→α)(hfg:∀y,f (g y)=y)(henc:∀x:α,enc x=enc (f x))(hsm:∀x:α,sm (f x)→sm x)(hrg:∀x:α,rg (f x)→rg x)
  (hu:P.underlying t=some (.struct fs)) (hk:P.cellsOf t=Enc.k α) (hk':Enc.k α=Enc.k β) (hb:1≤P.bytesOf t) (h:OpnL P fs.toList 0 β):Opn P t α:=by
 refine⟨hk,hb,fun enc0 w fuel cs x hx hw=> ?_⟩
 obtain⟨xs,n,_,rfl,hl,hxl,hg⟩:=DataW.trod_struct hu hx
 simp only[DataW.weights,hu]at hw
 obtain⟨y,q1,q2,q3⟩:=h.op enc0 w n cs xs (by simpa using hxl) (fun i f hf=>hg i f (by simpa using hf)) hw
 refine⟨g y,?_,hsm _ (by rw[hfg];exact q2),hrg _ (by rw[hfg];exact q3)⟩
 rw[henc,hfg]
 rw[List.drop_zero,List.take_of_length_le (by rw[hl,hk,hk'];exact Nat.le_refl _)]at q1
 exact q1
def ιg(w:World)(G:Nat):Ren:=⟨fun n=>if n<G then some (.at n 0)else none,fun B=>B<w.heap.size,fun _=>none⟩
theorem law_calls_g{P:Program}{f:FuncId}{vals:List Value}{H0:AH}{G:Nat}(h:SCalls P f vals H0 G (fun r _ _=>r= .bool true))(w:World)(args:Array Value)(hv:SR (ιw w) w vals args)
  (hg:∀n b,H0 n=some b→n<G∧b.own=false∧∃cs e fr,w.heap[n]? =some (.cells cs e fr)∧cs.size=b.cells.length∧∀i v,b.cells[i]? =some v→∃v',cs[0+i]? =some v'∧VR (ιw w) w v v'):
  Calls P f args w fun e w'=>e= .returned (.bool true)∧(∀B:Nat,B<w.heap.size→w'.heap[B]? =w.heap[B]?)∧w'.os=w.os∧w'.output=w.output:=by
 have hx:Ext (ιw w) (ιg w G):=⟨fun _ _ h=>(by cases h),fun _ h=>h,fun _ _ h=>h⟩
 have hr:Rel (fun B=>w.heap.size≤B) (ιg w G) H0 G w:=by
  refine⟨fun n hn=>if_neg (by omega),fun n b hn=> ?_,fun n _ b _ _ _ _ _ _ h1 _ ho=> ?_,fun _ h=>h,fun n b _ _ h1 ho=> ?_,fun _ h=>h,fun n b hn _=> ?_,fun _ _ h=>(by cases h)⟩
  ·obtain⟨g1,g2,cs,e,fr,g3,g4,g5⟩:=hg n b hn
   refine .inr ⟨n,0,cs,e,fr,if_pos g1,g3,fun ho=>(by rw[g2]at ho;cases ho),fun _ hA=> ?_,fun i v hi=> ?_⟩
   ·have:=(Array.getElem?_eq_some_iff.1 g3).1
    exact absurd this (Nat.not_lt.2 hA)
   ·obtain⟨v',k1,k2⟩:=g5 i v hi
    exact⟨v',k1,k2.mono hx (Fro.refl _ w)⟩
  ·have:=(hg n b h1).2.1;rw[ho]at this;cases this
  ·have:=(hg n b h1).2.1;rw[ho]at this;cases this
  ·obtain⟨g1,g2,cs,e,fr,g3,g4,g5⟩:=hg n b hn
   exact⟨if_pos g1,cs,e,fr,g3,g4⟩
 refine(h.2 _ (ιg w G) args w hr (hv.mono hx (Fro.refl _ w))).mono fun e w' ⟨v,r,ι',H',Bd',he,hp,_,_,hvr,hk,_,_⟩=> ?_
 subst hp
 cases hvr
 exact⟨he,fun B hB=>hk.block B hB (Nat.not_le.2 hB),hk.os,hk.output⟩
theorem law_calls{P:Program}{f:FuncId}{vals:List Value}(h:SCalls P f vals (fun _=>none) 0 (fun r _ _=>r= .bool true))(w:World)(args:Array Value)(hv:SR (ιw w) w vals args):
  Calls P f args w fun e w'=>e= .returned (.bool true)∧(∀B:Nat,B<w.heap.size→w'.heap[B]? =w.heap[B]?)∧w'.os=w.os∧w'.output=w.output:=
 law_calls_g h w args hv fun _ _ h=>by cases h
theorem kept_same{w w':World}(h:∀B:Nat,B<w.heap.size→w'.heap[B]? =w.heap[B]?)(ho:w'.os=w.os)(hp:w'.output=w.output)(may:MemPlace→Prop):w.keptBut w' may:=by
 refine⟨ho,hp,fun i hi=> ?_⟩
 rw[h i hi]
 cases hx:w.heap[i]? with
 |none=>rfl
 |some o=>cases o <;>first|exact⟨rfl,rfl,rfl,fun _ _=>rfl⟩|exact .inr ⟨rfl,rfl⟩|rfl
theorem trodAll_stays{H:Type}{enc0:TypeId×Value→H}{P:Program}{w w':World}(K:Kids P (· <P.types.size))(hsz:∀ {t e:TypeId},t<P.types.size→P.underlying t=some (.slice e)→0<P.cellsOf e)
  (hh:∀B:Nat,B<w.heap.size→w'.heap[B]? =w.heap[B]?) {sp:Nat→Bool} (hs:∀B,B<w.heap.size→sp B=true):
  ∀ {ts:List TypeId} {vs:List Value} {ds:List (DataW H)} {p:List MemPlace},(∀t∈ts,t<P.types.size)→DataW.TrodAll enc0 P w 0 (fun _=>true) true ts vs ds p→DataW.TrodAll enc0 P w' 0 sp true ts vs ds p
 |[],[],[],_,_,h=>h
 |t::ts,v::vs,d::ds,ps,ht,⟨p,q,⟨fuel,h1⟩,h2,e⟩=>by
  refine⟨p,q,⟨fuel,DataW.trod_stays K hsz (fun h=>by cases h) (ht t (by simp)) h1 (fun x hx=> ?_) (fun x hx=>hs _ ?_)⟩,trodAll_stays K hsz hh hs (fun t h=>ht t (by simp[h])) h2,e⟩
  ·have hb:=DataW.trod_lt _ _ _ _ h1 x hx
   cases x with
   |cell b off=>
    show w'.cell? _=w.cell? _
    unfold World.cell?
    rw[hh b hb]
   |map b=>exact hh b hb
  ·exact DataW.trod_lt _ _ _ _ h1 x hx
theorem vr_struct{P:Program}{ι:Ren}{w:World}{l:List Value}{v:Value}{r:Reach}{base:Nat}{t:TypeId}{fs:Array Field}(ht:P.underlying t=some (.struct fs))(hk:Value.okWide P w r base t v)(h:LR ι w l v.cells.toList):VR ι w (.agg l.toArray) v:=by
 obtain⟨cs,rfl,_⟩:=WideShapes.okWide_struct ht hk
 exact h.agg
theorem sr_cons{ι:Ren}{w:World}{u v:Value}{us vs:List Value}(h:VR ι w u v)(hs:SR ι w us vs.toArray):SR ι w (u::us) (v::vs).toArray:=by
 refine⟨by have:=hs.1;simp at this ⊢;omega,fun i x y h1 h2=> ?_⟩
 cases i with
 |zero=>simp at h1 h2;subst h1;subst h2;exact h
 |succ i=>exact hs.2 i x y (by simpa using h1) (by simpa using h2)
theorem sr_nil{ι:Ren}{w:World}:SR ι w [] (#[]:Array Value):=⟨rfl,fun i x y h1 _=>by simp at h1⟩
theorem handed_and_shaped{H:Type}{enc:TypeId×Value→H}{a:Assume}{C:Checked}{os:Os}{f:FuncId}{fn:Func}{s:ChangeSpec}{conds:List PathCond}{apart fresh handsOn again:Bool}{X:World→Array Value→Prop}
  (hX:∀(w w':World) (args:Array Value),w.heap=w'.heap→X w args→X w' args)
  (own:ownKnob C.prog.godebug=none) (started:os.Started) (noInit:C.prog.inits.idxOf? f=none) (hfn:C.prog.funcs[f]? =some fn)
  (witness:∃(w:World) (tape:Tape) (i:Input),w.os=os∧(w.forCall tape i).Shaped C.prog∧i.vars=[]∧Input.okWide C.prog (w.forCall tape i) .any w.heap.size f i∧
   ((s.pre enc C.prog fn conds apart (w.forCall tape i).memory i.args∧X (w.forCall tape i).memory i.args)∧sizedMet enc C.prog fn (OpenSpec.ofChange s) apart (w.forCall tape i).memory i.args)∧a.holds C.prog (lone (Frame.enter C.prog f i.args .normal) [] (w.forCall tape i)))
  (contract:∀(W:World) (base:Nat) (args:Array Value) (ds gs:List (DataW H)) (before:List MemPlace),
   (∀(j:Nat) t v,fn.params[j]? =some t→args[j]? =some v→Value.okWide C.prog W .any base t v)→
   DataW.Whole enc C.prog fn.params.toList s.vars apart W args.toList ds gs before→
   conds.all (PathCond.test C.prog ⟨fn.params.toList,ds,s.plain.varTypes C.prog,gs⟩)=true→
   (DataW.weightsEach C.prog (fn.params.toList++s.plain.varTypes C.prog) (ds++gs)).all (· ≤reachBytes)=true→X W args→W.ShapedOpen C.prog→
   Calls C.prog f args W fun e W'=>∃v,e= .returned v∧s.post enc C.prog fn apart fresh handsOn again W args v W'):
  ReturnsInHanded a C os f .any (fun w args=>(s.pre enc C.prog fn conds apart w args∧X w args)∧sizedMet enc C.prog fn (OpenSpec.ofChange s) apart w args) (s.post enc C.prog fn apart fresh handsOn again):=by
 refine returnsInHanded_of_calls own started noInit witness fun w tape i _ hsh _ hok hpre _=> ?_
 obtain⟨_,_,_,fn',hfn',_,_,_,_,hval⟩:=hok
 obtain rfl:fn'=fn:=Option.some.inj (hfn'.symm.trans hfn)
 obtain⟨⟨⟨ds,gs,before,hw,hc⟩,hx⟩,hz⟩:=hpre
 refine(contract (w.forCall tape i) w.heap.size i.args ds gs before hval (DataW.Whole.of_heap (w':=w.forCall tape i) (by rfl) hw) hc (hz.weights hw) (hX _ _ _ (by rfl) hx) hsh).mono fun e W' ⟨v,he,hp⟩=> ?_
 subst he
 exact ChangeSpec.post_blind hp
end Go.SC
