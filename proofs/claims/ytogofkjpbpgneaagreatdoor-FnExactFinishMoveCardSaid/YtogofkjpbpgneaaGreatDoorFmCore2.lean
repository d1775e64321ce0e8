/- Operations that ask nothing of their order; blocks set aside. -/
import Derived.Test.YtogofkjpbpgneaaGreatDoorFmCore1
import Derived.StillTail
set_option linter.unusedSimpArgs false
set_option linter.unusedVariables false
namespace Go.SC
open Go
def isEff:Op->Bool
 | .store .. =>true
 | .call c=>match c.callee with
  | .builtin .append=>true
  | .builtin .clear=>true
  | .builtin _=>false
  |_=>true
 |_=>false
def kL:Op->Bool
 | .load .. =>true
 | .convert .. =>true
 |_=>false
def addB(H:AH)(m:Nat):Option (List Value)->AH
 |none=>H
 |some c=>upd H m (some ⟨c,true⟩)
def aq(P:Program)(s:List Value)(H:AH)(m:Nat):Op->Option (Value×Option (List Value))
 | .load t x=>match ev s x with
  | .pointer (some ⟨n,off,none⟩)=>match H n with
   |some b=>(vX P t b off).map (·,none)
   |none=>none
  | .func (.method _) _ cs=>(vX P t ⟨cs.toList,false⟩ 0).map (·,none)
  |_=>none
 | .convert src dst x=>(aconv P H src dst (ev s x)).map (·,none)
 | .alloc t=>match ask P (zeroValue t)with
  |some z=>if(cellsL z).all yI=true then some (.pointer (some ⟨m,0,none⟩),some (cellsL z))else none
  |none=>none
 | .box _ x=>if isUnk (ev s x)=false then some (.pointer (some ⟨m,0,none⟩),some (cellsL (ev s x)))else none
 | .buildSlice t len parts=>(kU P t len (parts.toList.map fun x=>(x.1,ev s x.2))).map fun r=>(.slice (some ⟨m,0,some r.1⟩) len (len+1),some r.2)
 | .makeSlice t l c=>(amake P t (ev s l) (ev s c)).map fun r=>(.slice (some ⟨m,0,some r.1⟩) r.2.2.1 (r.2.2.2+1),some r.2.1)
 |op=>(aval P s op).map (·,none)
theorem acellsOf_in{ι:Ren}{w:World}{Hf Hc:AH}(hH:∀n l,ι n=some l->Hc n=Hf n){k:Nat}{x x':Value}(hx:VR ι w x x'){r:Nat×List Value}(h:jZ Hf k x=some r):jZ Hc k x=some r:=by
 unfold jZ at h ⊢
 split at h
 ·exact h
 ·rename_i n off k' len c
  cases hx with
  |sl hn=>obtain⟨l,hl⟩:=hn;simp only[hH n l hl];exact h
 ·exact h
 ·exact h
 ·cases h
theorem aq_run{P:Program}(hP:POk P){A:Nat->Prop}{ι:Ren}{s:List Value}{Hc Hf:AH}{Bd:Nat}{a:Act}{w:World}(hr:Rel A ι Hc Bd w)(hs:SR ι w s a.tmps)(hH:∀n l,ι n=some l->Hc n=Hf n)
  {m:Nat} (hm:ι m=none) (hmb:m<Bd) {o:Oper} {v:Value} {blk:Option (List Value)} (h:aq P s Hf m o.op=some (v,blk)):
  ∃v' ι' w',(execOp a.eval o).run P w= .ok (.value v') w'/\Rel A ι' (addB Hc m blk) Bd w'/\VR ι' w' v v'/\Keep A ι w ι' w'/\(∀n,n≠m->ι' n=ι n)/\(blk=none->ι'=ι):=by
 obtain⟨dst,op,type,pos,after,guard⟩:=o
 simp only at h
 have hval:∀ {u},aval P s op=some u->v=u->blk=none->∃v' ι' w',(execOp a.eval ⟨dst,op,type,pos,after,guard⟩).run P w= .ok (.value v') w'/\Rel A ι' (addB Hc m blk) Bd w'/\VR ι' w' v v'/\Keep A ι w ι' w'/\(∀n,n≠m->ι' n=ι n)/\(blk=none->ι'=ι):=by
  rintro u hu rfl rfl
  obtain⟨v',h1,h2⟩:=aval_sound (P:=P) hs (o:=⟨dst,op,type,pos,after,guard⟩) hu
  exact⟨v',ι,w,h1,hr,h2,Keep.refl A w,fun _ _=>rfl,fun _=>rfl⟩
 unfold aq at h
 split at h
 ·rename_i t x
  split at h
  ·rename_i n off hx
   split at h
   ·rename_i b hb
    obtain⟨u,hu,he⟩:=Option.map_eq_some_iff.1 h
    cases he
    have hxv:=hs.ev x
    rw[hx]at hxv
    obtain⟨B,base,hι,hxe⟩:=ev_ptr hxv
    obtain⟨v',h1,h2⟩:=aload_sound (P:=P) hr ((hH n _ hι).trans hb) hxv hu
    exact⟨v',ι,w,by simp only[execOp,xW,h1,xV,xX],hr,h2,Keep.refl A w,fun _ _=>rfl,fun _=>rfl⟩
   ·cases h
  ·rename_i m fs cs hx
   obtain⟨u,hu,he⟩:=Option.map_eq_some_iff.1 h
   cases he
   have hxv:=hs.ev x
   rw[hx]at hxv
   obtain⟨v',h1,h2⟩:=vload_sound (P:=P) hxv hu
   exact⟨v',ι,w,by simp only[execOp,xW,h1,xV,xX],hr,h2,Keep.refl A w,fun _ _=>rfl,fun _=>rfl⟩
  ·cases h
 ·rename_i src dst' x
  obtain⟨u,hu,he⟩:=Option.map_eq_some_iff.1 h
  cases he
  cases hsl:isSl (ev s x)with
  |true=>
   have hu':astring P Hf src dst' (ev s x)=some v:=by
    cases hx:ev s x with
    |slice=>rw[hx]at hu;exact hu
    |func f a b=>
     rw[hx]at hsl hu
     cases f <;>simp[isSl]at hsl
     exact hu
    |_=>rw[hx]at hsl;simp[isSl]at hsl
   have hu2:astring P Hc src dst' (ev s x)=some v:=by
    unfold astring at hu' ⊢
    split at hu'
    ·rename_i hc
     rw[if_pos hc]
     split at hu'
     ·rename_i l xs hxs
      rw[acellsOf_in hH (hs.ev x) hxs]
      exact hu'
     ·cases hu'
    ·cases hu'
   obtain⟨h1,h2⟩:=astring_sound (P:=P) hr (hs.ev x) (fun s hs=>by rw[hs]at hsl;simp[isSl]at hsl) hu2
   exact⟨v,ι,w,by simp only[execOp,xW,h1,xV,xX],hr,VR.plain h2,Keep.refl A w,fun _ _=>rfl,fun _=>rfl⟩
  |false=>
   refine hval (u:=v) ?_ rfl rfl
   unfold aval
   unfold aconv at hu
   cases hx:ev s x with
   |func f a b=>cases f <;>simp only[hx]at hu hsl ⊢ <;>first|exact hu|(simp[isSl]at hsl)|cases hu
   |_=>simp only[hx]at hu hsl ⊢ <;>first|exact hu|(simp[isSl]at hsl)|cases hu
 ·rename_i t
  split at h
  ·rename_i z hz
   simp only[xU,xE,Prod.mk.injEq]at h
   obtain⟨hp,rfl,rfl⟩:=h
   obtain⟨v,w',ι',h1,h2,h3,h4,h5⟩:=alloc_var (P:=P) hr hz hp hm hmb
   exact⟨v,ι',w',by simp only[execOp,xW,h1,xV,xX],h2,h3,h4,h5,fun h=>by cases h⟩
  ·cases h
 ·rename_i t x
  simp only[xU,xE,Prod.mk.injEq]at h
  obtain⟨hu,rfl,rfl⟩:=h
  obtain⟨v,w',ι',h1,h2,h3,h4,h5⟩:=new_var (P:=P) (t:=t) hr (hs.ev x) hu hm hmb
  exact⟨v,ι',w',by simp only[execOp,xW,h1,xV,xX],h2,h3,h4,h5,fun h=>by cases h⟩
 ·rename_i t len parts
  obtain⟨⟨k,L⟩,hb,he⟩:=Option.map_eq_some_iff.1 h
  cases he
  obtain⟨v,w',ι',h1,h2,h3,h4,h5⟩:=abuildSlice_sound (P:=P) hr hs parts hm hmb hb
  exact⟨v,ι',w',by simp only[execOp,xW,h1,xV,xX],h2,h3,h4,h5,fun h=>by cases h⟩
 ·rename_i t l c
  obtain⟨⟨k,L,n,c0⟩,hb,he⟩:=Option.map_eq_some_iff.1 h
  cases he
  obtain⟨v,w',ι',h1,h2,h3,h4,h5⟩:=amake_sound hP hr (hs.ev l) (hs.ev c) hm hmb hb
  exact⟨v,ι',w',by simp only[execOp,xW,h1,xV,xX],h2,h3,h4,h5,fun h=>by cases h⟩
 ·obtain⟨u,hu,he⟩:=Option.map_eq_some_iff.1 h
  cases he
  exact hval hu rfl rfl
theorem acellsOf_mono{H H':AH}(hle:Le H H'){k:Nat}{x:Value}{r:Nat×List Value}(h:jZ H k x=some r):jZ H' k x=some r:=by
 unfold jZ at h ⊢
 split at h
 ·exact h
 ·rename_i n off k' len c
  split at h
  ·rename_i b hb;simp only[hle n b hb];exact h
  ·cases h
 ·exact h
 ·exact h
 ·cases h
theorem aq_mono{P:Program}{s:List Value}{H H':AH}{m:Nat}{op:Op}{r:Value×Option (List Value)}(hle:Le H H')(h:aq P s H m op=some r):aq P s H' m op=some r:=by
 unfold aq at h ⊢
 split at h
 ·split at h
  ·split at h
   ·rename_i b hb;simp only[hle _ b hb];exact h
   ·cases h
  ·exact h
  ·cases h
 ·rename_i src dst x
  obtain⟨u,hu,rfl⟩:=Option.map_eq_some_iff.1 h
  have:aconv P H' src dst (ev s x)=some u:=by
   unfold aconv at hu ⊢
   split at hu
   ·unfold astring at hu ⊢
    split at hu
    ·rename_i hc
     rw[if_pos hc]
     split at hu
     ·rename_i hxs;rw[acellsOf_mono hle hxs];exact hu
     ·cases hu
    ·cases hu
   ·unfold astring at hu ⊢
    split at hu
    ·rename_i hc
     rw[if_pos hc]
     split at hu
     ·rename_i hxs;rw[acellsOf_mono hle hxs];exact hu
     ·cases hu
    ·cases hu
   ·exact hu
   ·exact hu
   ·exact hu
  simp only[this];rfl
 all_goals exact h
theorem aq_noheap{P:Program}{s:List Value}{H H':AH}{m:Nat}{op:Op}(hn:kL op=false):aq P s H m op=aq P s H' m op:=by
 cases op <;>first|rfl|(simp[kL]at hn)
def join(F H:AH):AH:=fun n=>match F n with
 |some b=>some b
 |none=>H n
theorem kB{F H:AH}{n:Nat}{b:Blk}(h:F n=some b):join F H n=some b:=by simp[join,h]
theorem vH{F H:AH}{n:Nat}(h:F n=none):join F H n=H n:=by simp[join,h]
def lessA(A:Nat->Prop)(ι:Ren)(F:AH):Nat->Prop:=fun B=>A B/\¬ ∃n b base,F n=some b/\ι n=some (.at B base)
theorem frame_in{A:Nat->Prop}{ι:Ren}{F H:AH}{Bd:Nat}{w:World}(hr:Rel A ι (join F H) Bd w)(hd:∀n b,F n=some b->H n=none):Rel (lessA A ι F) ι H Bd w:=by
 have hj:∀n b,H n=some b->join F H n=some b/\F n=none:=fun n b hn=>by
  cases hf:F n with
  |none=>exact⟨by rw[vH hf,hn],rfl⟩
  |some c=>rw[hd n c hf]at hn;cases hn
 refine⟨hr.bound,fun n b hn=> ?_,fun n m b b' B base B' base' hne h1 h2=>hr.apart n m b b' B base B' base' hne (hj n b h1).1 (hj m b' h2).1,fun B hB=>⟨hr.newA B hB,?_⟩,fun n b B base h1=>hr.froz n b B base (hj n b h1).1,hr.fzlt,fun n b h1=>hr.glob n b (hj n b h1).1,fun B p hp=>⟨⟨(hr.mp B p hp).1,fun⟨n,b,base,g1,g2⟩=>by
  rcases hr.blk n b (kB g1)with⟨hv,_⟩|⟨B1,base1,cs,e,fr,h1,h2,_⟩
  ·rw[g2]at hv;cases hv
  ·rw[g2]at h1;cases h1
   obtain⟨es,c,h3,_⟩:=(hr.mp B p hp).2
   rw[h3]at h2;cases h2⟩,(hr.mp B p hp).2⟩⟩
 ·obtain⟨hn1,hn2⟩:=hj n b hn
  rcases hr.blk n b hn1 with h|⟨B,base,cs,e,fr,h1,h2,h3,h4,h5⟩
  ·exact .inl h
  ·refine .inr ⟨B,base,cs,e,fr,h1,h2,fun ho=>⟨⟨(h3 ho).1,?_⟩,(h3 ho).2⟩,fun ho hA=>h4 ho hA.1,h5⟩
   rintro⟨m,b',base',g1,g2⟩
   have hne:n≠m:=fun e=>by subst e;rw[hn2]at g1;cases g1
   exact hr.apart n m b b' B base B base' hne hn1 (kB g1) ho h1 g2 rfl
 ·rintro⟨m,b',base',g1,g2⟩
  have:=hr.lt (kB g1) g2
  omega
theorem Keep.wide{A A':Nat->Prop}{ι ι':Ren}{w w':World}(h:Keep A' ι w ι' w')(hA:∀B,A' B->A B):Keep A ι w ι' w':=
 ⟨h.os,h.tape,h.output,h.size,fun B hB hn=>h.block B hB fun k=>hn (hA B k),h.rows,h.fz,fun B hB=>(h.fzA B hB).imp id (hA B)⟩
theorem frame_out{A:Nat->Prop}{ι ι':Ren}{F H H':AH}{Bd Bd':Nat}{w w':World}(hr:Rel A ι (join F H) Bd w)(hd:∀n b,F n=some b->H n=none)(ho:∀n b,F n=some b->b.own=true)
  (hr':Rel (lessA A ι F) ι' H' Bd' w') (hk:Keep (lessA A ι F) ι w ι' w') (hag:Agr Bd ι ι') (hni:NI H H') (hd':∀n b,F n=some b->H' n=none):Rel A ι' (join F H') Bd' w':=by
 have hx:=hag.ext hr hk.fz
 have hF:∀n b,F n=some b->n<Bd:=fun n b hf=>hr.named (kB hf)
 have hj:∀n b,H n=some b->join F H n=some b/\F n=none:=fun n b hn=>by
  cases hf:F n with
  |none=>exact⟨by rw[vH hf,hn],rfl⟩
  |some c=>rw[hd n c hf]at hn;cases hn
 have hpart:∀n b B base,join F H' n=some b->F n=none->ι' n=some (.at B base)->b.own=true->lessA A ι F B:=fun n b B base hn hf hι hown=>by
  rw[vH hf]at hn
  rcases hr'.blk n b hn with⟨hv,_⟩|⟨B1,base1,cs,e,fr,h1,h2,h3,h4,h5⟩
  ·rw[hι]at hv;cases hv
  ·rw[hι]at h1;cases h1;exact(h3 hown).1
 have himm:∀n b,H' n=some b->b.own=false->∃b',join F H n=some b'/\b'.own=false/\ι' n=ι n:=fun n b hn hown=>by
  obtain⟨b',h1,h2⟩:=hni n b hn hown
  have h3:=(hj n b' h1).1
  exact⟨b',h3,h2,hag n (hr.named h3)⟩
 refine⟨hr'.bound,fun n b hn=> ?_,fun n m b b' B base B' base' hne h1 h2 hown i1 i2=> ?_,fun B hB=>(hr'.newA B hB).1,fun n b B base h1 hown i1 hz=> ?_,hr'.fzlt,fun n b hn hq=> ?_,fun B p hp=>⟨(hr'.mp B p hp).1.1,(hr'.mp B p hp).2⟩⟩
 ·cases hf:F n with
  |some c=>
   rw[kB hf]at hn
   cases hn
   have hι:=hag n (hF n _ hf)
   rcases hr.blk n b (kB hf)with⟨hv,hc⟩|⟨B,base,cs,e,fr,h1,h2,h3,h4,h5⟩
   ·exact .inl ⟨hι.trans hv,hc⟩
   ·have hlt:=hr.lt (kB hf) h1
    refine .inr ⟨B,base,cs,e,fr,hι.trans h1,(hk.block B hlt fun k=>k.2 ⟨n,b,base,hf,h1⟩).trans h2,h3,h4,fun i v hv=> ?_⟩
    obtain⟨v',g1,g2⟩:=h5 i v hv
    exact⟨v',g1,g2.mono hx hk.rows⟩
  |none=>
   rw[vH hf]at hn
   rcases hr'.blk n b hn with h|⟨B,base,cs,e,fr,h1,h2,h3,h4,h5⟩
   ·exact .inl h
   ·refine .inr ⟨B,base,cs,e,fr,h1,h2,fun hown=>⟨(h3 hown).1.1,(h3 hown).2⟩,fun hown hA=> ?_,h5⟩
    obtain⟨b',g1,g2,g3⟩:=himm n b hn hown
    rw[h1]at g3
    rcases hr.blk n b' g1 with⟨hv,_⟩|⟨B1,base1,cs1,e1,fr1,q1,q2,q3,q4,q5⟩
    ·rw[hv]at g3;cases g3
    ·rw[q1]at g3;cases g3;exact q4 g2 hA
 ·cases hf:F n with
  |some c=>
   rw[kB hf]at h1
   cases h1
   have hιn:=hag n (hF n _ hf)
   rw[hιn]at i1
   cases hg:F m with
   |some c'=>
    rw[hag m (hF m _ hg)]at i2
    exact hr.apart n m b c' B base B' base' hne (kB hf) (kB hg) hown i1 i2
   |none=>
    intro he
    subst he
    cases hb':b'.own with
    |true=>exact(hpart m b' B base' h2 hg i2 hb').2 ⟨n,b,base,hf,i1⟩
    |false=>
     rw[vH hg]at h2
     obtain⟨b2,g1,g2,g3⟩:=himm m b' h2 hb'
     rw[i2]at g3
     exact hr.apart n m b b2 B base B base' hne (kB hf) g1 hown i1 g3.symm rfl
  |none=>
   cases hg:F m with
   |some c'=>
    rw[hag m (hF m _ hg)]at i2
    intro he
    subst he
    exact(hpart n b B base h1 hf i1 hown).2 ⟨m,c',base',hg,i2⟩
   |none=>
    rw[vH hf]at h1
    rw[vH hg]at h2
    exact hr'.apart n m b b' B base B' base' hne h1 h2 hown i1 i2
 ·cases hf:F n with
  |some c=>
   rw[kB hf]at h1
   cases h1
   rw[hag n (hF n _ hf)]at i1
   rcases hk.fzA B hz with h|h
   ·exact hr.froz n b B base (kB hf) hown i1 h
   ·exact h.2 ⟨n,b,base,hf,i1⟩
  |none=>
   rw[vH hf]at h1
   exact hr'.froz n b B base h1 hown i1 hz
 ·cases hf:F n with
  |some c=>
   rw[kB hf]at hn
   cases hn
   rw[ho n _ hf]at hq;cases hq
  |none=>
   rw[vH hf]at hn
   exact hr'.glob n b hn hq
theorem parts_congr{s s':List Value}(parts:Array (Nat×Operand))(h:∀x∈(parts.toList.map (·.2)),ev s x=ev s' x):
  (parts.toList.map fun x=>(x.1,ev s x.2))=parts.toList.map fun x=>(x.1,ev s' x.2):=
 List.map_congr_left fun x hx=>by rw[h x.2 (List.mem_map_of_mem hx)]
theorem args_congr{s s':List Value}(xs:Array Operand)(h:∀x∈xs.toList,ev s x=ev s' x):xs.toList.map (ev s)=xs.toList.map (ev s'):=
 List.map_congr_left h
theorem abound_congr{s s':List Value}(d:Int)(o:Option Operand)(h:∀x∈o.toArray.toList,ev s x=ev s' x):yA s d o=yA s' d o:=by
 cases o with
 |none=>rfl
 |some x=>simp only[yA,h x (by simp)]
theorem aval_congr{P:Program}{s s':List Value}{op:Op}(h:∀x∈op.operands.toList,ev s x=ev s' x):aval P s op=aval P s' op:=by
 cases op with
 |slice t x lo hi mx=>
  have hx:=h x (by simp[Op.operands])
  have hlo:∀d,yA s d lo=yA s' d lo:=fun d=>abound_congr d lo fun y hy=>h y (by simp only[Op.operands,Array.toList_append,List.mem_append];exact .inl (.inl (.inr hy)))
  have hhi:∀d,yA s d hi=yA s' d hi:=fun d=>abound_congr d hi fun y hy=>h y (by simp only[Op.operands,Array.toList_append,List.mem_append];exact .inl (.inr hy))
  have hmx:∀y,mx=some y->ev s y=ev s' y:=fun y hy=>h y (by subst hy;simp[Op.operands])
  simp only[aval,hx,aslice,hlo,hhi]
  have fin:∀y,mx=some y->aint? (ev s y)=aint? (ev s' y):=fun y hy=>by rw[hmx y hy]
  cases ev s' x with
  |string b=>cases yA s' 0 lo <;>cases yA s' b.size hi <;>cases mx <;>rfl
  |slice A len c=>
   cases A with
   |none=>
    cases len <;>cases c <;>first|rfl|(cases yA s' 0 lo <;>cases yA s' 0 hi <;>cases mx <;>first|rfl|simp only[fin _ rfl])
   |some a=>
    obtain⟨n,off,sp⟩:=a
    cases sp with
    |none=>rfl
    |some k=>
     dsimp only
     cases yA s' 0 lo <;>cases yA s' len hi <;>cases mx <;>first|rfl|simp only[fin _ rfl]
  |func f a b=>cases f <;>first|rfl|(dsimp only;cases yA s' 0 lo <;>cases yA s' b.size hi <;>cases mx <;>rfl)
  |_=>rfl
 |build t parts=>simp only[aval,parts_congr parts (fun x hx=>h x (by simpa[Op.operands]using hx))]
 |makeFunc fn first caps=>simp only[aval,args_congr caps (fun x hx=>h x (by simp only[Op.operands,Array.toList_append,List.mem_append];exact .inr hx))]
 |call c=>
  obtain⟨callee,args,ts⟩:=c
  simp only[aval]
  cases hb:callee with
  |builtin b=>
   have ha:∀x∈args.toList,ev s x=ev s' x:=fun x hx=>h x (by simp only[Op.operands,Call.operands,hb];first|exact hx|simpa using hx)
   split <;>first|rfl|(simp_all;done)
  |_=>simp
 |_=>
  simp only[Op.operands,wG,List.not_mem_nil,or_false,forall_eq_or_imp,forall_eq,wR]at h
  try simp only[aval,h]
theorem aq_congr{P:Program}{s s':List Value}{H:AH}{m:Nat}{op:Op}(h:∀x∈op.operands.toList,ev s x=ev s' x):aq P s H m op=aq P s' H m op:=by
 have hv:=aval_congr (P:=P) h
 cases op with
 |buildSlice t len parts=>simp only[aq,parts_congr parts (fun x hx=>h x (by simpa[Op.operands]using hx))]
 |load t x=>simp only[aq,h x (by simp[Op.operands])]
 |convert t u x=>simp only[aq,h x (by simp[Op.operands])]
 |box t x=>simp only[aq,h x (by simp[Op.operands])]
 |makeSlice t x y=>simp only[aq,h x (by simp[Op.operands]),h y (by simp[Op.operands])]
 |alloc t=>rfl
 |_=>simp only[aq,hv]
theorem astep_congr_eff{P:Program}{E:Env P}{o:Oper}{s s':List Value}{H:AH}{Bd:Nat}{K:Value->AH->Nat->Prop}(he:isEff o.op=true)(h:∀x∈o.op.operands.toList,ev s x=ev s' x):
  jW E o s H Bd K=jW E o s' H Bd K:=by
 obtain⟨dst,op,type,pos,after,guard⟩:=o
 simp only at h he
 cases op with
 |store t x y=>simp only[jW,h x (by simp[Op.operands]),h y (by simp[Op.operands])]
 |call c=>
  obtain⟨callee,args,ts⟩:=c
  cases hb:callee with
  |value f=>
   subst hb
   have ha:∀x∈args.toList,ev s x=ev s' x:=fun x hx=>h x (by simp only[Op.operands,Call.operands];simp;simp at hx;first|exact .inl hx|exact .inr hx)
   have hf:ev s f=ev s' f:=h f (by simp[Op.operands,Call.operands])
   simp only[jW,hf,args_congr args ha]
  |builtin b=>
   subst hb
   have ha:∀x∈args.toList,ev s x=ev s' x:=fun x hx=>h x (by simp only[Op.operands,Call.operands];first|exact hx|simpa using hx)
   cases b <;>simp[isEff]at he
   all_goals (simp only[jW];split <;>first|rfl|(simp_all;done))
  |_=>simp[jW]
 |_=>simp[isEff]at he
def kT(ops:Array Oper)(j:Nat):List Nat:=
 match ops[j]? with
 |some o=>(o.after.toList.filter fun e=>Region.binds .any e).map (·.on)
 |none=>[]
inductive Rch (ops:Array Oper):Nat->Nat->Prop
 |direct {j k:Nat} (h:k∈kT ops j):Rch ops j k
 |step {j m k:Nat} (h:m∈kT ops j) (h':Rch ops m k):Rch ops j k
structure Stp where
 i:Nat
 act:List Nat
 wat:List Nat
inductive PlanOK (ops:Array Oper):List Nat->Option (List Nat)->List Stp->Prop
 |done {pre:List Nat} {seg:Option (List Nat)} (h:∀i,i<ops.size->i∈pre):PlanOK ops pre seg []
 |step {pre:List Nat} {seg:Option (List Nat)} {i:Nat} {act wat:List Nat} {rest:List Stp} {o:Oper} (ho:ops[i]? =some o) (hn:i∉pre) (he:∀k∈kT ops i,k∈pre)
   (hp:∀j∈pre,∀p,ops[j]? =some p->o.apart ops p=true\/Rch ops i j) (hs:∀l,seg=some l->∃k∈kT ops i,k∈l)
   (ha:isEff o.op=true->(∀j∈act,Rch ops i j)/\∀j∈pre,∀p,ops[j]? =some p->kL p.op=true->j∈wat\/Rch ops i j)
   (hr:PlanOK ops (i::pre) (if isEff o.op=true then some [i]else seg.map (i:: ·)) rest):PlanOK ops pre seg (⟨i,act,wat⟩::rest)
def lookA:List (Nat×List Nat)->Nat->List Nat
 |[],_=>[]
 |(j,l)::r,k=>if j=k then l else lookA r k
def insNew(l:List Nat)(k:Nat):List Nat:=if l.contains k then l else k::l
def ancOf(ops:Array Oper)(acc:List (Nat×List Nat))(i:Nat):List Nat:=
 (kT ops i).foldl (fun l k=>(lookA acc k).foldl insNew (insNew l k)) []
def heapAt(ops:Array Oper)(j:Nat):Bool:=match ops[j]? with|some p=>kL p.op|none=>false
def isFresh:Op->Bool
 | .alloc _| .box .. | .buildSlice .. | .makeSlice .. =>true
 |_=>false
def freshAt(ops:Array Oper)(j:Nat):Bool:=match ops[j]? with|some p=>isFresh p.op|none=>false
def apartAt(ops:Array Oper)(o:Oper)(j:Nat):Bool:=match ops[j]? with|some p=>o.apart ops p|none=>false
def segOK(ops:Array Oper)(i:Nat)(seg:Option (List Nat)):Bool:=match seg with|none=>true|some l=>(kT ops i).any l.contains
def mk(ops:Array Oper):List Nat->List Nat->List (Nat×List Nat)->Option (List Nat)->Option (List Stp)
 |[],pre,_,_=>if(List.range ops.size).all pre.contains then some []else none
 |i::rest,pre,acc,seg=>
  match ops[i]? with
  |none=>none
  |some o=>
   if !pre.contains i&&(kT ops i).all pre.contains&&pre.all (fun j=>apartAt ops o j||(ancOf ops acc i).contains j)&&segOK ops i seg then
    (mk ops rest (i::pre) ((i,ancOf ops acc i)::acc) (if isEff o.op=true then some [i]else seg.map (i:: ·))).map fun r=>
     (⟨i,if isEff o.op=true then pre.filter (fun j=>freshAt ops j&&(ancOf ops acc i).contains j)else [],if isEff o.op=true then pre.filter (fun j=>heapAt ops j&& !(ancOf ops acc i).contains j)else []⟩:Stp)::r
   else none
theorem mem_insNew{l:List Nat}{k x:Nat}(h:x∈insNew l k):x∈l\/x=k:=by
 unfold insNew at h
 split at h
 ·exact .inl h
 ·rcases wG.1 h with h|h
  ·exact .inr h
  ·exact .inl h
theorem mem_foldNew{x:Nat}:∀(m l:List Nat),x∈m.foldl insNew l->x∈l\/x∈m
 |[],l,h=> .inl h
 |k::m,l,h=>by
  rcases mem_foldNew m _ h with h|h
  ·rcases mem_insNew h with h|h
   ·exact .inl h
   ·exact .inr (by simp[h])
  ·exact .inr (by simp[h])
theorem lookA_sound{ops:Array Oper}:∀(acc:List (Nat×List Nat)) (k x:Nat),(∀p∈acc,∀x∈p.2,Rch ops p.1 x)->x∈lookA acc k->Rch ops k x
 |[],k,x,_,h=>by cases h
 |(j,l)::r,k,x,hacc,h=>by
  unfold lookA at h
  split at h
  ·rename_i e;subst e;exact hacc (j,l) (by simp) x h
  ·exact lookA_sound r k x (fun p hp=>hacc p (by simp[hp])) h
theorem ancOf_sound{ops:Array Oper}{acc:List (Nat×List Nat)}(hacc:∀p∈acc,∀x∈p.2,Rch ops p.1 x){i x:Nat}(h:x∈ancOf ops acc i):Rch ops i x:=by
 have key:∀(m l:List Nat),(∀k∈m,k∈kT ops i)->(∀x∈l,Rch ops i x)->∀x∈m.foldl (fun l k=>(lookA acc k).foldl insNew (insNew l k)) l,Rch ops i x:=by
  intro m
  induction m with
  |nil=>intro l _ hl x hx;exact hl x hx
  |cons k m ih=>
   intro l hm hl x hx
   refine ih _ (fun k' hk'=>hm k' (by simp[hk'])) (fun y hy=> ?_) x hx
   have hk:=hm k (by simp)
   rcases mem_foldNew _ _ hy with hy|hy
   ·rcases mem_insNew hy with hy|rfl
    ·exact hl y hy
    ·exact .direct hk
   ·exact .step hk (lookA_sound acc k y hacc hy)
 exact key _ [] (fun _ h=>h) (fun _ h=>by cases h) x h
theorem mk_sound{ops:Array Oper}:∀(order pre:List Nat) (acc:List (Nat×List Nat)) (seg:Option (List Nat)) (plan:List Stp),(∀p∈acc,∀x∈p.2,Rch ops p.1 x)->mk ops order pre acc seg=some plan->PlanOK ops pre seg plan
 |[],pre,acc,seg,plan,hacc,h=>by
  unfold mk at h
  split at h
  ·rename_i hc
   cases h
   refine .done fun i hi=> ?_
   have:=List.all_eq_true.1 hc i (List.mem_range.2 hi)
   simpa using this
  ·cases h
 |i::rest,pre,acc,seg,plan,hacc,h=>by
  unfold mk at h
  split at h
  ·cases h
  ·rename_i o ho
   split at h
   ·rename_i hc
    obtain⟨r,hr,rfl⟩:=Option.map_eq_some_iff.1 h
    simp only[Bool.and_eq_true,Bool.not_eq_true']at hc
    obtain⟨⟨⟨h1,h2⟩,h3⟩,h4⟩:=hc
    refine .step ho (by simpa using h1) (fun k hk=>by simpa using List.all_eq_true.1 h2 k hk) (fun j hj p hp=> ?_) (fun l hl=> ?_) (fun he=>⟨fun j hj=> ?_,fun j hj p hp hh=> ?_⟩)
     (mk_sound rest (i::pre) _ _ r (fun p hp x hx=> ?_) hr)
    ·have:=List.all_eq_true.1 h3 j hj
     simp only[Bool.or_eq_true,apartAt,hp]at this
     rcases this with h|h
     ·exact .inl h
     ·exact .inr (ancOf_sound hacc (by simpa using h))
    ·subst hl
     obtain⟨k,hk,hk2⟩:=List.any_eq_true.1 (show(kT ops i).any l.contains=true from h4)
     exact⟨k,hk,by simpa using hk2⟩
    ·rw[if_pos he]at hj
     have:=(List.mem_filter.1 hj).2
     simp only[Bool.and_eq_true]at this
     exact ancOf_sound hacc (by simpa using this.2)
    ·rw[if_pos he]
     cases hc:(ancOf ops acc i).contains j with
     |true=>exact .inr (ancOf_sound hacc (by simpa using hc))
     |false=>exact .inl (List.mem_filter.2 ⟨hj,by rw[hc];simp[heapAt,hp,hh]⟩)
    ·rcases wG.1 hp with rfl|hp
     ·exact ancOf_sound hacc hx
     ·exact hacc p hp x hx
   ·cases h
def full(B0:Nat)(H:AH)(L:List (Nat×List Value)):AH:=fun n=>
 match L.find? (fun p=>B0+p.1==n)with
 |some p=>some ⟨p.2,true⟩
 |none=>H n
theorem full_cons(B0:Nat)(H:AH)(i:Nat)(c:List Value)(r:List (Nat×List Value)):full B0 H ((i,c)::r)=upd (full B0 H r) (B0+i) (some ⟨c,true⟩):=by
 funext n
 simp only[full,List.find?_cons,upd]
 by_cases h:B0+i=n
 ·simp[h]
 ·have:(B0+i==n)=false:=by simp[h]
  rw[this]
  simp[Ne.symm h]
def watched(P:Program):List (Nat×Op×List Value×Value)->List Nat->AH->Prop
 |[],_,_=>True
 |(i,op,s,v)::r,wat,H=>(if wat.contains i=true then aq P s H 0 op=some (v,none)else True)/\watched P r wat H
def clearOf(B0:Nat):List (Nat×List Value)->AH->Prop
 |[],_=>True
 |(i,_)::r,H=>H (B0+i)=none/\clearOf B0 r H
def addP(i:Nat)(b:Option (List Value))(pend:List (Nat×List Value)):List (Nat×List Value):=
 match b with
 |none=>pend
 |some c=>(i,c)::pend
def gd(ops:List Oper)(s:List Value)(g:Option (Nat×Bool))(A B:Prop):Prop:=
 match g with
 |none=>A
 |some (j,want)=>guardK (agard ops s j) want A B
def opAt:List Oper->Nat->(Oper->Prop)->Prop
 |[],_,_=>False
 |o::_,0,K=>K o
 |_::l,n+1,K=>opAt l n K
def vd{P:Program}(E:Env P)(ops:List Oper)(B0:Nat):List Stp->List Value->AH->Nat->List (Nat×List Value)->List (Nat×Op×List Value×Value)->(List Value->AH->Nat->Prop)->Prop
 |[],s,H,Bd,pend,wt,Q=>Q s (full B0 H pend) Bd
 |⟨i,act,wat⟩::rest,s,H,Bd,pend,wt,Q=>
  opAt ops i fun o=>gd ops s o.guard
   (if isEff o.op=true then
    jW E o s (full B0 H (pend.filter fun p=>act.contains p.1)) Bd fun v H' Bd'=>
     clearOf B0 (pend.filter fun p=> !act.contains p.1) H'/\watched P wt wat (full B0 H' (pend.filter fun p=> !act.contains p.1))/\
      vd E ops B0 rest (sput s o.dst v) H' Bd' (pend.filter fun p=> !act.contains p.1) wt Q
   else
    Yld (aq P s (full B0 H pend) (B0+i) o.op) fun r=>
     vd E ops B0 rest (sput s o.dst r.1) H Bd (addP i r.2 pend) (if kL o.op=true then(i,o.op,s,r.1)::wt else wt) Q)
   (vd E ops B0 rest (sput s o.dst undef) H Bd pend wt Q)
def dstOf(ops:Array Oper)(i:Nat):Option Nat:=(ops[i]?).bind (·.dst)
structure Ent where
 i:Nat
 s:List Value
 v:Value
 blk:Option (List Value)
 run:Bool
def yZ(ops:Array Oper)(s0:List Value):List Ent->List Value
 |[]=>s0
 |e::r=>sput (yZ ops s0 r) (dstOf ops e.i) e.v
def TrOK(ops:Array Oper)(s0:List Value):List Ent->Prop
 |[]=>True
 |e::r=>e.s=yZ ops s0 r/\TrOK ops s0 r
theorem sput_length(s:List Value)(d:Option Nat)(v:Value):(sput s d v).length=s.length:=by
 cases d with
 |none=>rfl
 |some d=>simp only[sput,sset_eq];simp
theorem sput_get(s:List Value)(d:Option Nat)(v:Value)(t:Nat):sget (sput s d v) t=if d=some t then(if t<s.length then v else undef)else sget s t:=by
 cases d with
 |none=>simp[sput]
 |some d=>
  simp only[sput,sset_eq,zE,xF,xE]
  by_cases h:d=t
  ·subst h
   by_cases hl:d<s.length
   ·simp[hl]
   ·simp[hl]
  ·simp[h,wS h]
theorem sget_ext{s s':List Value}(hl:s.length=s'.length)(h:∀t,sget s t=sget s' t):s=s':=by
 refine List.ext_getElem hl fun i h1 h2=> ?_
 have:=h i
 simpa[zE,xF,h1,h2]using this
theorem zL(ops:Array Oper)(s0:List Value):∀L,(yZ ops s0 L).length=s0.length
 |[]=>rfl
 |e::r=>by rw[yZ,sput_length,zL ops s0 r]
theorem slotsR_get(ops:Array Oper)(s0:List Value)(t:Nat):∀L:List Ent,sget (yZ ops s0 L) t=match L.find? (fun e=>dstOf ops e.i==some t)with
  |some e=>if t<s0.length then e.v else undef
  |none=>sget s0 t
 |[]=>rfl
 |e::r=>by
  rw[yZ,sput_get,zL,List.find?_cons]
  by_cases h:dstOf ops e.i=some t
  ·simp[h]
  ·have h':(dstOf ops e.i==some t)=false:=by simpa using h
   rw[if_neg h,h',slotsR_get ops s0 t r]
theorem find?_filter{α:Type}(p q:α->Bool):∀L:List α,(∀x∈L,p x=true->q x=true)->(L.filter q).find? p=L.find? p
 |[],_=>rfl
 |x::L,h=>by
  have ih:=find?_filter p q L fun y hy=>h y (by simp[hy])
  by_cases hq:q x=true
  ·rw[List.filter_cons_of_pos hq,List.find?_cons,List.find?_cons,ih]
  ·rw[List.filter_cons_of_neg hq,List.find?_cons,ih]
   have:p x=false:=by
    cases hp:p x with
    |false=>rfl
    |true=>exact absurd (h x (by simp) hp) hq
   rw[this]
theorem find?_filter_none{α:Type}(p q:α->Bool):∀L:List α,(∀x∈L,p x=true->q x=false)->(L.filter q).find? p=none
 |L,h=>by
  rw[List.find?_eq_none]
  intro x hx hp
  have h1:=List.mem_filter.1 hx
  have:=h x h1.1 (by simpa using hp)
  rw[this]at h1
  simp at h1
theorem ev_agree{s s':List Value}{x:Operand}(h:∀t,x= .tmp t->sget s t=sget s' t):ev s x=ev s' x:=by
 cases x with
 |tmp t=>exact h t rfl
 |_=>rfl
theorem looks_op{ops:Array Oper}{o:Oper}{x:Operand}{t:Nat}(hx:x∈o.op.operands.toList)(e:x= .tmp t):t∈o.looksAt ops:=by
 subst e
 unfold Oper.looksAt
 refine List.mem_append.2 (.inl (List.mem_filterMap.2 ⟨_,hx,rfl⟩))
theorem looks_guard{ops:Array Oper}{o:Oper}{j t:Nat}{want:Bool}(hg:o.guard=some (j,want))(hd:dstOf ops j=some t):t∈o.looksAt ops:=by
 unfold Oper.looksAt
 unfold dstOf at hd
 refine List.mem_append.2 (.inr ?_)
 rw[hg]
 simp only[hd]
 simp
def gdRun(ops:List Oper)(s:List Value)(g:Option (Nat×Bool)):Prop:=
 match g with
 |none=>True
 |some (j,want)=>∃b,agard ops s j=some (.bool b)/\b=want
def gdSkip(ops:List Oper)(s:List Value)(g:Option (Nat×Bool)):Prop:=
 match g with
 |none=>False
 |some (j,want)=>(∃b,agard ops s j=some (.bool b)/\b≠want)\/∃vs,agard ops s j=some (.tuple vs)
theorem gd_cases{ops:List Oper}{s:List Value}{g:Option (Nat×Bool)}{A B:Prop}(h:gd ops s g A B):(gdRun ops s g/\A)\/(gdSkip ops s g/\B):=by
 unfold gd at h
 unfold gdRun gdSkip
 split at h
 ·exact .inl ⟨trivial,h⟩
 ·rename_i j want
  unfold guardK at h
  split at h
  ·rename_i b hb
   by_cases hbw:b=want
   ·exact .inl ⟨⟨b,hb,hbw⟩,h.1 (by simp[hbw])⟩
   ·exact .inr ⟨.inl ⟨b,hb,hbw⟩,h.2 (by simp[hbw])⟩
  ·rename_i vs hb
   exact .inr ⟨.inr ⟨vs,hb⟩,h⟩
  ·cases h
theorem agard_agree{ops:Array Oper}{o:Oper}{j:Nat}{want:Bool}{s s':List Value}(hg:o.guard=some (j,want))(h:∀t,t∈o.looksAt ops->sget s t=sget s' t):agard ops.toList s j=agard ops.toList s' j:=by
 unfold agard
 rw[odst_eq,Array.getElem?_toList]
 cases hd:(ops[j]?).bind (·.dst)with
 |none=>rfl
 |some t=>simp only[h t (looks_guard hg hd)]
theorem gdRun_agree{ops:Array Oper}{o:Oper}{s s':List Value}(h:∀t,t∈o.looksAt ops->sget s t=sget s' t)(hr:gdRun ops.toList s o.guard):gdRun ops.toList s' o.guard:=by
 cases hg:o.guard with
 |none=>trivial
 |some p=>obtain⟨j,want⟩:=p;rw[hg]at hr;simp only[gdRun]at hr ⊢;rw[<-agard_agree hg h];exact hr
theorem gdSkip_agree{ops:Array Oper}{o:Oper}{s s':List Value}(h:∀t,t∈o.looksAt ops->sget s t=sget s' t)(hr:gdSkip ops.toList s o.guard):gdSkip ops.toList s' o.guard:=by
 cases hg:o.guard with
 |none=>rw[hg]at hr;exact hr
 |some p=>obtain⟨j,want⟩:=p;rw[hg]at hr;simp only[gdSkip]at hr ⊢;rw[<-agard_agree hg h];exact hr
theorem gdRun_wanted{ι:Ren}{w:World}{s:List Value}{ops:Array Oper}{a:Act}{o:Oper}(hs:SR ι w s a.tmps)(h:gdRun ops.toList s o.guard):Region.wanted o (yielded ops a.tmps)=true:=by
 cases hg:o.guard with
 |none=>simp[Region.wanted,hg]
 |some p=>
  obtain⟨j,want⟩:=p
  rw[hg]at h
  obtain⟨b,hb,rfl⟩:=h
  have hy:yielded ops a.tmps j=some b:=by
   rcases yL hs hb with⟨v',h1,h2⟩|⟨h1,_⟩
   ·cases h2;simp only[yielded,h1]
   ·cases h1
  simp[Region.wanted,hg,hy]
theorem gdSkip_wanted{ι:Ren}{w:World}{s:List Value}{ops:Array Oper}{a:Act}{o:Oper}(hs:SR ι w s a.tmps)(h:gdSkip ops.toList s o.guard):Region.wanted o (yielded ops a.tmps)=false:=by
 cases hg:o.guard with
 |none=>rw[hg]at h;exact h.elim
 |some p=>
  obtain⟨j,want⟩:=p
  rw[hg]at h
  rcases h with⟨b,hb,hne⟩|⟨vs,hb⟩
  ·have hy:yielded ops a.tmps j=some b:=by
    rcases yL hs hb with⟨v',h1,h2⟩|⟨h1,_⟩
    ·cases h2;simp only[yielded,h1]
    ·cases h1
   simp[Region.wanted,hg,hy,hne]
  ·have hy:yielded ops a.tmps j=none:=by
    rcases yL hs hb with⟨v',h1,h2⟩|⟨_,h1⟩
    ·cases h2;simp only[yielded,h1]
    ·simp only[yielded,h1]
   simp[Region.wanted,hg,hy]
theorem opAt_out:∀ {l:List Oper} {i:Nat} {K:Oper->Prop},opAt l i K->∃o,l[i]? =some o/\K o
 |[],_,_,h=>h.elim
 |o::_,0,K,h=>⟨o,rfl,h⟩
 |_::l,n+1,K,h=>by
  obtain⟨o,h1,h2⟩:=opAt_out (l:=l) h
  exact⟨o,by simpa using h1,h2⟩
theorem full_mem{B0:Nat}{H:AH}:∀ {L:List (Nat×List Value)},(L.map (·.1)).Nodup->∀ {p:Nat×List Value},p∈L->full B0 H L (B0+p.1)=some ⟨p.2,true⟩
 |[],_,p,h=>by cases h
 |q::L,hn,p,h=>by
  obtain⟨i,c⟩:=q
  rw[full_cons]
  simp only[List.map_cons,List.nodup_cons]at hn
  rcases wG.1 h with rfl|h
  ·exact qJ _ _ _
  ·have:i≠p.1:=fun e=>hn.1 (by rw[e];exact List.mem_map_of_mem h)
   rw[qD _ _ (by omega)]
   exact full_mem hn.2 h
theorem vP{B0:Nat}{H:AH}{n:Nat}:∀ {L:List (Nat×List Value)},(∀p∈L,B0+p.1≠n)->full B0 H L n=H n
 |[],_=>rfl
 |q::L,h=>by
  obtain⟨i,c⟩:=q
  rw[full_cons,qD _ _ (fun e=>h (i,c) (by simp) e.symm)]
  exact vP fun p hp=>h p (by simp[hp])
theorem yQ{L:List (Nat×List Value)}(h:(L.map (·.1)).Nodup)(q:Nat×List Value->Bool):((L.filter q).map (·.1)).Nodup:=
 List.Nodup.sublist (List.Sublist.map _ List.filter_sublist) h
theorem NI.full{H G:AH}(h:NI H G)(B0:Nat):∀L,NI H (SC.full B0 G L)
 |[]=>h
 |(i,c)::r=>by rw[full_cons];exact(NI.full h B0 r).upd _ _
theorem clearOf_out{B0:Nat}:∀ {L:List (Nat×List Value)} {H:AH},clearOf B0 L H->∀p∈L,H (B0+p.1)=none
 |[],_,_,p,h=>by cases h
 |(i,c)::r,H,hc,p,h=>by
  rcases wG.1 h with rfl|h
  ·exact hc.1
  ·exact clearOf_out hc.2 p h
theorem watched_out{P:Program}:∀ {wt:List (Nat×Op×List Value×Value)} {wat:List Nat} {H:AH},watched P wt wat H->∀ {x:Nat×Op×List Value×Value},x∈wt->x.1∈wat->aq P x.2.2.1 H 0 x.2.1=some (x.2.2.2,none)
 |[],_,_,_,x,h,_=>by cases h
 |(i,op,s,v)::r,wat,H,hc,x,h,hx=>by
  rcases wG.1 h with rfl|h
  ·have:=hc.1
   rw[if_pos (by simpa using hx)]at this
   exact this
  ·exact watched_out hc.2 h hx
theorem aq_heap_m{P:Program}{s:List Value}{H:AH}{m m':Nat}{op:Op}(h:kL op=true):aq P s H m op=aq P s H m' op:=by
 cases op <;>first|rfl|(simp[kL]at h)
abbrev Ls(listed:Array Bool)(i:Nat):Bool:=listed.getD i false
def EntOK(P:Program)(ops:Array Oper)(B0:Nat)(H:AH)(pend:List (Nat×List Value))(e:Ent):Prop:=
 ∃o,ops[e.i]? =some o/\isEff o.op=false/\
  ((e.run=true/\gdRun ops.toList e.s o.guard/\aq P e.s (full B0 H pend) (B0+e.i) o.op=some (e.v,e.blk)/\∀c,e.blk=some c->(e.i,c)∈pend)\/
   (e.run=false/\gdSkip ops.toList e.s o.guard/\e.v=undef/\e.blk=none))
def TrEd(ops:Array Oper):List Ent->Prop
 |[]=>True
 |e::r=>(∀k∈kT ops e.i,k∈r.map (·.i))/\TrEd ops r
structure Sim {P:Program} (E:Env P) (ops:Array Oper) (s0:List Value) (B0:Nat) (H0:AH) (A:Nat->Prop) (ι0:Ren) (w0:World) (Q:List Value->AH->Nat->Prop)
  (listed:Array Bool) (a:Act) (w:World) (tr:List Ent) (rest:List Stp) (H:AH) (Bd:Nat) (pend:List (Nat×List Value)) (wt:List (Nat×Op×List Value×Value)) (ι:Ren):Prop where
 plan:∃seg,PlanOK ops (tr.map (·.i)) seg rest
 trok:TrOK ops s0 tr
 nodup:(tr.map (·.i)).Nodup
 pair:tr.Pairwise fun x y=>∀p o,ops[x.i]? =some p->ops[y.i]? =some o->p.apart ops o=true\/Rch ops x.i y.i
 size:listed.size=ops.size
 sub:∀k,Ls listed k=true->k∈tr.map (·.i)
 eff:∀e∈tr,∀o,ops[e.i]? =some o->isEff o.op=true->Ls listed e.i=true
 ex:∀e∈tr,e.i<ops.size
 edges:TrEd ops tr
 closed:∀j,Ls listed j=true->∀k∈kT ops j,Ls listed k=true
 slots:SR ι w (yZ ops s0 (tr.filter fun e=>Ls listed e.i)) a.tmps
 rel:Rel A ι (full B0 H (pend.filter fun p=>Ls listed p.1)) Bd w
 bd:B0+ops.size<=Bd
 free:∀i,i<ops.size->Ls listed i=false->ι (B0+i)=none
 ent:∀e∈tr,Ls listed e.i=false->EntOK P ops B0 H pend e
 pnodup:(pend.map (·.1)).Nodup
 pin:∀p∈pend,(∃e∈tr,e.i=p.1/\e.blk=some p.2)/\H (B0+p.1)=none/\p.1<ops.size
 wat:∀e∈tr,Ls listed e.i=false->e.run=true->∀o,ops[e.i]? =some o->kL o.op=true->(e.i,o.op,e.s,e.v)∈wt
 cond:vd E ops.toList B0 rest (yZ ops s0 tr) H Bd pend wt Q
 defers:a.defers=[]
 keep:Keep A ι0 w0 ι w
 agr:Agr B0 ι0 ι
 ni:NI H0 H
theorem Rch.listed{ops:Array Oper}{listed:Array Bool}(hc:∀j,Ls listed j=true->∀k∈kT ops j,Ls listed k=true){i j:Nat}(hr:Rch ops i j)(he:∀k∈kT ops i,Ls listed k=true):Ls listed j=true:=by
 induction hr with
 |direct h=>exact he _ h
 |step h _ ih=>exact ih (fun k hk=>hc _ (he _ h) k hk)
theorem vZ{ops:Array Oper}{listed:Array Bool}{i:Nat}(h:i∈Region.ready .any ops listed):Ls listed i=false/\i<ops.size/\(∃o,ops[i]? =some o)/\∀k∈kT ops i,Ls listed k=true:=by
 obtain⟨h1,o,ho,h2⟩:=mem_ready.1 h
 refine⟨getD_both h1,(xS.1 ho).1,⟨o,ho⟩,fun k hk=> ?_⟩
 unfold kT at hk
 rw[ho]at hk
 obtain⟨e,he,rfl⟩:=List.mem_map.1 hk
 obtain⟨he1,he2⟩:=List.mem_filter.1 he
 exact h2 e (by simpa using he1) he2
theorem ready_of_edges{ops:Array Oper}{listed:Array Bool}{i:Nat}(hs:listed.size=ops.size)(hi:i<ops.size)(hn:Ls listed i=false)(he:∀k∈kT ops i,Ls listed k=true):i∈Region.ready .any ops listed:=by
 refine mem_ready.2 ⟨getD_in (by omega) hn,ops[i],by simp[hi],fun e hm hb=>he e.on ?_⟩
 unfold kT
 rw[show ops[i]? =some ops[i] by simp[hi]]
 exact List.mem_map.2 ⟨e,List.mem_filter.2 ⟨by simpa using hm,hb⟩,rfl⟩
theorem zV{listed:Array Bool}{i j:Nat}(h:i≠j):Ls (listed.setIfInBounds i true) j=Ls listed j:=getD_set_ne false h
theorem vM{listed:Array Bool}{i:Nat}(h:i<listed.size):Ls (listed.setIfInBounds i true) i=true:=by
 simp[Ls,h]
section
variable {P:Program} {E:Env P} {ops:Array Oper} {s0:List Value} {B0:Nat} {H0:AH} {A:Nat->Prop} {ι0:Ren} {w0:World} {Q:List Value->AH->Nat->Prop}
 {listed:Array Bool} {a:Act} {w:World} {tr:List Ent} {rest:List Stp} {H:AH} {Bd:Nat} {pend:List (Nat×List Value)} {wt:List (Nat×Op×List Value×Value)} {ι:Ren}
theorem PlanOK.all{pre:List Nat}{seg:Option (List Nat)}{rest:List Stp}(h:PlanOK ops pre seg rest):∀i,i<ops.size->i∈pre\/∃st∈rest,st.i=i:=by
 induction h with
 |done h=>exact fun i hi=> .inl (h i hi)
 |step ho hn he hp hs ha hr ih=>
  intro i hi
  rcases ih i hi with h|⟨st,h1,h2⟩
  ·rcases wG.1 h with rfl|h
   ·exact .inr ⟨_,List.mem_cons_self,rfl⟩
   ·exact .inl h
  ·exact .inr ⟨st,by simp[h1],h2⟩
theorem PlanOK.waits{pre:List Nat}{seg:Option (List Nat)}{rest:List Stp}(h:PlanOK ops pre seg rest){listed:Array Bool}:∀l,seg=some l->l≠[]->(∀k∈l,Ls listed k=false)->(∀st∈rest,Ls listed st.i=false)->
  ∀st∈rest,∃k∈kT ops st.i,Ls listed k=false:=by
 induction h with
 |done h=>intro l _ _ _ _ st hst;cases hst
 | @step pre seg i act wat rest o ho hn he hp hs ha hr ih=>
  intro l hl hne hun hrest st hst
  have hi:Ls listed i=false:=hrest ⟨i,act,wat⟩ List.mem_cons_self
  rcases wG.1 hst with rfl|hst
  ·obtain⟨k,hk,hk2⟩:=hs l hl
   exact⟨k,hk,hun k hk2⟩
  ·by_cases heff:isEff o.op=true
   ·exact ih [i] (by rw[if_pos heff]) (by simp) (fun k hk=>by simp at hk;rw[hk];exact hi) (fun st h=>hrest st (by simp[h])) st hst
   ·exact ih (i::l) (by rw[if_neg heff,hl];rfl) (by simp) (fun k hk=>by
     rcases wG.1 hk with rfl|hk
     ·exact hi
     ·exact hun k hk) (fun st h=>hrest st (by simp[h])) st hst
theorem apart_reads{o p:Oper}{t:Nat}(h:o.apart ops p=true)(ht:t∈o.looksAt ops)(hd:p.dst=some t):False:=(Oper.apart_spec h).2.2 t hd ht
theorem apart_reads'{o p:Oper}{t:Nat}(h:o.apart ops p=true)(ht:t∈p.looksAt ops)(hd:o.dst=some t):False:=(Oper.apart_spec h).1 t hd ht
theorem dstOf_eq{i:Nat}{o:Oper}(h:ops[i]? =some o):dstOf ops i=o.dst:=by simp[dstOf,h]
theorem Sim.advance{st:Stp}(h:Sim E ops s0 B0 H0 A ι0 w0 Q listed a w tr (st::rest) H Bd pend wt ι){o:Oper}(ho:ops[st.i]? =some o)(hq:isEff o.op=false):
  ∃e pend' wt',Sim E ops s0 B0 H0 A ι0 w0 Q listed a w (e::tr) rest H Bd pend' wt' ι:=by
 obtain⟨i,act,wat⟩:=st
 simp only at ho
 obtain⟨seg,hplan⟩:=h.plan
 cases hplan with
 |step ho' hn he hp hs ha hr=>
 rw[ho]at ho'
 cases ho'
 have hcond:=h.cond
 unfold vd at hcond
 obtain⟨o2,ho2,hcond⟩:=opAt_out hcond
 rw[Array.getElem?_toList,ho]at ho2
 cases ho2
 have hun:Ls listed i=false:=by
  cases hl:Ls listed i with
  |false=>rfl
  |true=>exact absurd (h.sub i hl) hn
 have hi:i<ops.size:=(xS.1 ho).1
 have hdst:=dstOf_eq ho
 have hHi:H (B0+i)=none:=by
  have hf:=h.free i hi hun
  cases hx:H (B0+i)with
  |none=>rfl
  |some b=>
   have hno:∀p∈pend.filter (fun p=>Ls listed p.1),B0+p.1≠B0+i:=fun p hp e=>by
    obtain⟨h1,h2⟩:=List.mem_filter.1 hp
    have:p.1=i:=by omega
    rw[this,hun]at h2
    cases h2
   obtain⟨l,hl⟩:=h.rel.mapped ((vP hno).trans hx)
   rw[hf]at hl
   cases hl
 have hpi:∀p∈pend,p.1≠i:=fun p hp e=>by
  obtain⟨⟨e',he',h1,_⟩,_⟩:=h.pin p hp
  exact hn (by rw[<-e,<-h1];exact List.mem_map_of_mem he')
 have base:∀(e:Ent) (pend':List (Nat×List Value)) (wt':List (Nat×Op×List Value×Value)),e.i=i->e.s=yZ ops s0 tr->
   (∀p∈pend,p∈pend')->(pend'.filter (fun p=>Ls listed p.1)=pend.filter fun p=>Ls listed p.1)->Le (full B0 H pend) (full B0 H pend')->(pend'.map (·.1)).Nodup->
   (∀p∈pend',p∈pend\/(p.1=i/\e.blk=some p.2))->EntOK P ops B0 H pend' e->(∀x∈wt,x∈wt')->(e.run=true->kL o.op=true->(e.i,o.op,e.s,e.v)∈wt')->
   vd E ops.toList B0 rest (yZ ops s0 (e::tr)) H Bd pend' wt' Q->Sim E ops s0 B0 H0 A ι0 w0 Q listed a w (e::tr) rest H Bd pend' wt' ι:=by
  intro e pend' wt' hei hes hp1 hp2 hp3 hp4 hp5 hent hw1 hw2 hc
  have hfil:((e::tr).filter fun e=>Ls listed e.i)=tr.filter fun e=>Ls listed e.i:=by
   rw[List.filter_cons_of_neg (by rw[hei,hun];simp)]
  refine {plan:=⟨(if isEff o.op=true then some [i]else seg.map (i:: ·)),?_⟩,trok:=⟨hes,h.trok⟩,nodup:= ?_,pair:= ?_,size:=h.size,sub:= ?_,eff:= ?_,ex:= ?_,edges:=⟨by rw[hei];exact he,h.edges⟩,closed:=h.closed,slots:= ?_,rel:= ?_,bd:=h.bd,free:=h.free,ent:= ?_,pnodup:=hp4,pin:= ?_,wat:= ?_,cond:=hc,defers:=h.defers,keep:=h.keep,agr:=h.agr,ni:=h.ni}
  ·simp only[List.map_cons,hei];exact hr
  ·simp only[List.map_cons,hei,List.nodup_cons];exact⟨hn,h.nodup⟩
  ·refine List.Pairwise.cons (fun y hy p q h1 h2=> ?_) h.pair
   rw[hei,ho]at h1
   cases h1
   rw[hei]
   exact hp y.i (List.mem_map_of_mem hy) q h2
  ·intro k hk
   simp only[List.map_cons,wG]
   exact .inr (h.sub k hk)
  ·intro x hx q h1 h2
   rcases wG.1 hx with rfl|hx
   ·rw[hei,ho]at h1;cases h1;rw[hq]at h2;cases h2
   ·exact h.eff x hx q h1 h2
  ·intro x hx
   rcases wG.1 hx with rfl|hx
   ·rw[hei];exact hi
   ·exact h.ex x hx
  ·rw[hfil];exact h.slots
  ·rw[hp2];exact h.rel
  ·intro x hx hxu
   rcases wG.1 hx with rfl|hx
   ·exact hent
   ·obtain⟨q,h1,h2,h3⟩:=h.ent x hx hxu
    refine⟨q,h1,h2,?_⟩
    rcases h3 with⟨g1,g2,g3,g4⟩|h3
    ·exact .inl ⟨g1,g2,aq_mono hp3 g3,fun c hc=>hp1 _ (g4 c hc)⟩
    ·exact .inr h3
  ·intro p hp
   rcases hp5 p hp with hp|⟨h1,h2⟩
   ·obtain⟨⟨x,hx,g⟩,g2⟩:=h.pin p hp
    exact⟨⟨x,by simp[hx],g⟩,g2⟩
   ·exact⟨⟨e,by simp,by rw[hei,h1],h2⟩,by rw[h1];exact hHi,by rw[h1];exact hi⟩
  ·intro x hx hxu hrun q h1 h2
   rcases wG.1 hx with rfl|hx
   ·rw[hei,ho]at h1;cases h1;exact hw2 hrun h2
   ·exact hw1 _ (h.wat x hx hxu hrun q h1 h2)
 rcases gd_cases hcond with⟨hg,hc⟩|⟨hg,hc⟩
 ·rw[if_neg (by rw[hq];simp)]at hc
  obtain⟨⟨v,blk⟩,haq,hc⟩:=hc
  simp only at hc
  have hs':yZ ops s0 (⟨i,yZ ops s0 tr,v,blk,true⟩::tr)=sput (yZ ops s0 tr) o.dst v:=by simp only[yZ,hdst]
  refine⟨⟨i,yZ ops s0 tr,v,blk,true⟩,addP i blk pend,_,base _ _ _ rfl rfl ?_ ?_ ?_ ?_ ?_ ?_ ?_ ?_ (by rw[hs'];exact hc)⟩
  ·intro p hp;cases blk with
   |none=>exact hp
   |some c=>exact List.mem_cons_of_mem _ hp
  ·cases blk with
   |none=>rfl
   |some c=>simp only[addP];rw[List.filter_cons_of_neg (by simp only[hun];simp)]
  ·cases blk with
   |none=>exact Le.refl _
   |some c=>
    simp only[addP,full_cons]
    exact(Le.refl _).fresh (by rw[vP (fun p hp e=>hpi p hp (by omega))];exact hHi) _
  ·cases blk with
   |none=>exact h.pnodup
   |some c=>
    simp only[addP,List.map_cons,List.nodup_cons]
    refine⟨fun hm=> ?_,h.pnodup⟩
    obtain⟨p,hp,e⟩:=List.mem_map.1 hm
    exact hpi p hp e
  ·intro p hp
   cases blk with
   |none=>exact .inl hp
   |some c=>
    rcases wG.1 hp with rfl|hp
    ·exact .inr ⟨rfl,rfl⟩
    ·exact .inl hp
  ·refine⟨o,ho,hq, .inl ⟨rfl,hg,?_,fun c hc=> ?_⟩⟩
   ·cases blk with
    |none=>exact haq
    |some c=>
     simp only[addP,full_cons]
     exact aq_mono ((Le.refl _).fresh (by rw[vP (fun p hp e=>hpi p hp (by omega))];exact hHi) _) haq
   ·simp only at hc;subst hc;simp[addP]
  ·intro x hx;split
   ·exact List.mem_cons_of_mem _ hx
   ·exact hx
  ·intro _ hh;rw[if_pos hh];simp
 ·have hs':yZ ops s0 (⟨i,yZ ops s0 tr,undef,none,false⟩::tr)=sput (yZ ops s0 tr) o.dst undef:=by simp only[yZ,hdst]
  refine⟨⟨i,yZ ops s0 tr,undef,none,false⟩,pend,wt,base _ _ _ rfl rfl (fun _ h=>h) rfl (Le.refl _) h.pnodup (fun _ h=> .inl h) ⟨o,ho,hq, .inr ⟨rfl,hg,rfl,rfl⟩⟩ (fun _ h=>h) (fun h=>by cases h) (by rw[hs'];exact hc)⟩
end
end Go.SC
namespace Go.SC
open Go
theorem map_nodup_inj{α β:Type}{f:α->β}:∀ {L:List α},(L.map f).Nodup->∀ {x y},x∈L->y∈L->f x=f y->x=y
 |[],_,x,y,h,_,_=>by cases h
 |r::L,hn,p,q,hp,hq,e=>by
  simp only[List.map_cons,List.nodup_cons]at hn
  rcases wG.1 hp with rfl|hp' <;>rcases wG.1 hq with rfl|hq'
  ·rfl
  ·exact absurd (by rw[e];exact List.mem_map_of_mem hq') hn.1
  ·exact absurd (by rw[<-e];exact List.mem_map_of_mem hp') hn.1
  ·exact map_nodup_inj hn.2 hp' hq' e
theorem TrOK.at_{ops:Array Oper}{s0:List Value}{e:Ent}{tr2:List Ent}:∀ {tr1:List Ent},TrOK ops s0 (tr1++e::tr2)->e.s=yZ ops s0 tr2
 |[],h=>h.1
 |_::tr1,h=>TrOK.at_ (tr1:=tr1) h.2
theorem Ls_mono{listed:Array Bool}{i j:Nat}(h:Ls listed j=true):Ls (listed.setIfInBounds i true) j=true:=getD_set_true h
theorem Ls_unset{listed:Array Bool}{i j:Nat}(h:Ls (listed.setIfInBounds i true) j=false):Ls listed j=false:=by
 cases hl:Ls listed j with
 |false=>rfl
 |true=>rw[Ls_mono hl]at h;cases h
theorem Ls_set{listed:Array Bool}{i j:Nat}(h:Ls (listed.setIfInBounds i true) j=true):j=i\/Ls listed j=true:=by
 by_cases e:i=j
 ·exact .inl e.symm
 ·rw[zV e]at h;exact .inr h
section
variable {P:Program} {E:Env P} {ops:Array Oper} {s0:List Value} {B0:Nat} {H0:AH} {A:Nat->Prop} {ι0:Ren} {w0:World} {Q:List Value->AH->Nat->Prop}
 {listed:Array Bool} {a:Act} {w:World} {tr:List Ent} {rest:List Stp} {H:AH} {Bd:Nat} {pend:List (Nat×List Value)} {wt:List (Nat×Op×List Value×Value)} {ι:Ren}
theorem Sim.sees(h:Sim E ops s0 B0 H0 A ι0 w0 Q listed a w tr rest H Bd pend wt ι):∀n l,ι n=some l->full B0 H (pend.filter fun p=>Ls listed p.1) n=full B0 H pend n:=by
 intro n l hl
 by_cases hx:∃p∈pend,B0+p.1=n
 ·obtain⟨p,hp,rfl⟩:=hx
  rw[full_mem h.pnodup hp]
  cases hls:Ls listed p.1 with
  |false=>rw[h.free p.1 (h.pin p hp).2.2 hls]at hl;cases hl
  |true=>exact full_mem (yQ h.pnodup _) (List.mem_filter.2 ⟨hp,hls⟩)
 ·rw[vP fun p hp e=>hx ⟨p,hp,e⟩,vP fun p hp e=>hx ⟨p,(List.mem_filter.1 hp).1,e⟩]
theorem Sim.newer(h:Sim E ops s0 B0 H0 A ι0 w0 Q listed a w tr rest H Bd pend wt ι){tr1 tr2:List Ent}{e:Ent}(ht:tr=tr1++e::tr2)(hun:Ls listed e.i=false){x:Ent}(hx:x∈tr1)(hl:Ls listed x.i=true){p o:Oper}(hp:ops[x.i]? =some p)(ho:ops[e.i]? =some o):p.apart ops o=true:=by
 subst ht
 have hpair:=(List.pairwise_append.1 h.pair).2.2 x hx e List.mem_cons_self p o hp ho
 rcases hpair with hpair|hr
 ·exact hpair
 ·have:=hr.listed h.closed (h.closed x.i hl)
  rw[hun]at this
  cases this
theorem Sim.older(h:Sim E ops s0 B0 H0 A ι0 w0 Q listed a w tr rest H Bd pend wt ι){tr1 tr2:List Ent}{e:Ent}(ht:tr=tr1++e::tr2)(he:∀k∈kT ops e.i,Ls listed k=true){x:Ent}(hx:x∈tr2)(hl:Ls listed x.i=false){p o:Oper}(hp:ops[x.i]? =some p)(ho:ops[e.i]? =some o):o.apart ops p=true:=by
 subst ht
 have hpair:=(List.pairwise_cons.1 (List.pairwise_append.1 h.pair).2.1).1 x hx o p ho hp
 rcases hpair with hpair|hr
 ·exact hpair
 ·have:=hr.listed h.closed he
  rw[hl]at this
  cases this
theorem Sim.op(h:Sim E ops s0 B0 H0 A ι0 w0 Q listed a w tr rest H Bd pend wt ι){x:Ent}(hx:x∈tr):∃p,ops[x.i]? =some p:=⟨ops[x.i]'(h.ex x hx),by simp[h.ex x hx]⟩
theorem Sim.pickQuiet(hP:POk P){Q':Exit->Act->World->Prop}(h:Sim E ops s0 B0 H0 A ι0 w0 Q listed a w tr rest H Bd pend wt ι){e:Ent}(he:e∈tr)(hr:e.i∈Region.ready .any ops listed):
  wpOp P ops Q' e.i (fun a' w'=>∃ι',Sim E ops s0 B0 H0 A ι0 w0 Q (listed.setIfInBounds e.i true) a' w' tr rest H Bd pend wt ι') a w:=by
 obtain⟨hun,hi,⟨o,ho⟩,hed⟩:=vZ hr
 obtain⟨tr1,tr2,ht⟩:=List.append_of_mem he
 have hs:=TrOK.at_ (ht▸h.trok)
 have hnd:(tr.map (·.i)).Nodup:=h.nodup
 have hne1:∀x∈tr1,x.i≠e.i:=fun x hx hxe=>by
  subst ht
  rw[List.map_append,List.map_cons]at hnd
  exact(List.nodup_append.1 hnd).2.2 _ (List.mem_map_of_mem hx) _ (by rw[hxe];exact List.mem_cons_self) rfl
 have hne2:∀x∈tr2,x.i≠e.i:=fun x hx hxe=>by
  subst ht
  rw[List.map_append,List.map_cons]at hnd
  have:=(List.nodup_cons.1 (List.nodup_append.1 hnd).2.1).1
  exact this (by rw[<-hxe];exact List.mem_map_of_mem hx)
 have hm1:∀x∈tr1,x∈tr:=fun x hx=>by rw[ht];simp[hx]
 have hm2:∀x∈tr2,x∈tr:=fun x hx=>by rw[ht];simp[hx]
 have hfil:(tr.filter fun x=>Ls listed x.i)=(tr1.filter fun x=>Ls listed x.i)++tr2.filter fun x=>Ls listed x.i:=by
  rw[ht,List.filter_append,List.filter_cons_of_neg (by rw[hun];simp)]
 have hfil':(tr.filter fun x=>Ls (listed.setIfInBounds e.i true) x.i)=(tr1.filter fun x=>Ls listed x.i)++e::tr2.filter fun x=>Ls listed x.i:=by
  have hlt:e.i<listed.size:=by rw[h.size];exact hi
  rw[ht,List.filter_append,List.filter_cons_of_pos (p:=fun x:Ent=>Ls (listed.setIfInBounds e.i true) x.i) (by exact vM hlt)]
  rw[List.filter_congr (p:=fun x=>Ls (listed.setIfInBounds e.i true) x.i) (l:=tr1) (fun x hx=>zV (Ne.symm (hne1 x hx))),List.filter_congr (p:=fun x=>Ls (listed.setIfInBounds e.i true) x.i) (fun x hx=>zV (Ne.symm (hne2 x hx)))]
 have hagree:∀t,t∈o.looksAt ops->sget e.s t=sget (yZ ops s0 (tr.filter fun x=>Ls listed x.i)) t:=by
  intro t hto
  rw[hs,slotsR_get,slotsR_get,hfil,List.find?_append,find?_filter_none,Option.none_or,find?_filter]
  ·intro x hx hd
   cases hl:Ls listed x.i with
   |true=>rfl
   |false=>
    obtain⟨p,hp⟩:=h.op (hm2 x hx)
    have:=h.older ht hed hx hl hp ho
    rw[dstOf_eq hp]at hd
    exact(apart_reads this hto (by simpa using hd)).elim
  ·intro x hx hd
   cases hl:Ls listed x.i with
   |false=>rfl
   |true=>
    obtain⟨p,hp⟩:=h.op (hm1 x hx)
    have:=h.newer ht hun hx hl hp ho
    rw[dstOf_eq hp]at hd
    exact(apart_reads' this hto (by simpa using hd)).elim
 have hslots:yZ ops s0 (tr.filter fun x=>Ls (listed.setIfInBounds e.i true) x.i)=sput (yZ ops s0 (tr.filter fun x=>Ls listed x.i)) o.dst e.v:=by
  refine sget_ext (by rw[sput_length,zL,zL]) fun t=> ?_
  rw[sput_get,slotsR_get,zL,hfil',List.find?_append,List.find?_cons]
  by_cases hd:o.dst=some t
  ·have hn:(tr1.filter fun x=>Ls listed x.i).find? (fun x=>dstOf ops x.i==some t)=none:=find?_filter_none _ _ _ fun x hx hdx=>by
    cases hl:Ls listed x.i with
    |false=>rfl
    |true=>
     obtain⟨p,hp⟩:=h.op (hm1 x hx)
     have:=h.newer ht hun hx hl hp ho
     rw[dstOf_eq hp]at hdx
     exact((Oper.apart_spec this).2.1 t (by simpa using hdx) hd).elim
   rw[hn,Option.none_or,if_pos hd]
   have:(dstOf ops e.i==some t)=true:=by rw[dstOf_eq ho,hd];simp
   rw[this]
  ·have:(dstOf ops e.i==some t)=false:=by rw[dstOf_eq ho];simpa using hd
   rw[this,if_neg hd,slotsR_get,hfil,List.find?_append]
 have done:∀(ι':Ren) (v':Value) (w':World),(∀n,n≠B0+e.i->ι' n=ι n)->Rel A ι' (full B0 H (pend.filter fun p=>Ls (listed.setIfInBounds e.i true) p.1)) Bd w'->VR ι' w' e.v v'->Keep A ι w ι' w'->
   Sim E ops s0 B0 H0 A ι0 w0 Q (listed.setIfInBounds e.i true) (a.put o.dst v') w' tr rest H Bd pend wt ι':=by
  intro ι' v' w' hι hrel hv hk
  have hx:Ext ι ι':=⟨fun n l hl=>by
   by_cases en:n=B0+e.i
   ·rw[en,h.free e.i hi hun]at hl;cases hl
   ·rw[hι n en,hl],hk.fz⟩
  refine {plan:=h.plan,trok:=h.trok,nodup:=h.nodup,pair:=h.pair,size:=by rw[Array.size_setIfInBounds];exact h.size,sub:= ?_,eff:=fun x hx p hp hq=>Ls_mono (h.eff x hx p hp hq),ex:=h.ex,edges:=h.edges,closed:= ?_,slots:= ?_,rel:=hrel,bd:=h.bd,free:= ?_,ent:=fun x hx hu=>h.ent x hx (Ls_unset hu),pnodup:=h.pnodup,pin:=h.pin,wat:=fun x hx hu=>h.wat x hx (Ls_unset hu),cond:=h.cond,defers:= ?_,keep:=h.keep.trans hk,agr:= ?_,ni:=h.ni}
  ·intro k hk
   rcases Ls_set hk with rfl|hk
   ·exact List.mem_map_of_mem he
   ·exact h.sub k hk
  ·intro j hj k hk
   rcases Ls_set hj with rfl|hj
   ·exact Ls_mono (hed k hk)
   ·exact Ls_mono (h.closed j hj k hk)
  ·rw[hslots]
   exact(h.slots.mono hx hk.rows).sput o.dst hv
  ·intro j hj hu
   have hje:j≠e.i:=fun x=>by
    subst x
    rw[vM (by rw[h.size];exact hi)]at hu
    cases hu
   rw[hι _ (by omega)]
   exact h.free j hj (Ls_unset hu)
  ·have:=h.defers
   cases o.dst <;>exact this
  ·exact fun n hn=>(hι n (by omega)).trans (h.agr n hn)
 obtain⟨o',ho',hq,hent⟩:=h.ent e he hun
 rw[ho]at ho'
 cases ho'
 unfold wpOp
 simp only[ho]
 rcases hent with⟨hrun,hg,haq,hblk⟩|⟨hrun,hg,hv,hblk⟩
 ·rw[if_pos (gdRun_wanted h.slots (gdRun_agree hagree hg))]
  refine .inl ?_
  rw[aq_congr (s':=yZ ops s0 (tr.filter fun x=>Ls listed x.i)) (fun x hx=>ev_agree fun t ex=>hagree t (looks_op hx ex))]at haq
  obtain⟨v',ι',w',h1,h2,h3,h4,h5,h6⟩:=aq_run hP h.rel h.slots h.sees (h.free e.i hi hun) (by have:=h.bd;omega) haq
  unfold Oper.wp
  rw[h1,Oper.upon_value]
  refine⟨ι',done ι' v' w' h5 ?_ h3 h4⟩
  have hfeq:addB (full B0 H (pend.filter fun p=>Ls listed p.1)) (B0+e.i) e.blk=full B0 H (pend.filter fun p=>Ls (listed.setIfInBounds e.i true) p.1):=by
   cases hb:e.blk with
   |none=>
    simp only[addB]
    congr 1
    refine List.filter_congr fun p hp=> ?_
    refine(zV fun ep=> ?_).symm
    obtain⟨⟨x,hx,g1,g2⟩,_⟩:=h.pin p hp
    have:=map_nodup_inj h.nodup hx he (g1.trans ep.symm)
    rw[this,hb]at g2
    cases g2
   |some c=>
    simp only[addB]
    funext n
    by_cases hn:n=B0+e.i
    ·subst hn
     rw[qJ]
     exact(full_mem (p:=(e.i,c)) (yQ h.pnodup _) (List.mem_filter.2 ⟨hblk c hb,vM (by rw[h.size];exact hi)⟩)).symm
    ·rw[qD _ _ hn]
     by_cases hx:∃p∈pend,B0+p.1=n/\Ls listed p.1=true
     ·obtain⟨p,hp,rfl,hl⟩:=hx
      rw[full_mem (yQ h.pnodup _) (List.mem_filter.2 ⟨hp,hl⟩),full_mem (yQ h.pnodup _) (List.mem_filter.2 ⟨hp,Ls_mono hl⟩)]
     ·rw[vP,vP]
      ·intro p hp ep
       obtain⟨g1,g2⟩:=List.mem_filter.1 hp
       rcases Ls_set g2 with g2|g2
       ·exact hn (by rw[<-ep,g2])
       ·exact hx ⟨p,g1,ep,g2⟩
      ·intro p hp ep
       obtain⟨g1,g2⟩:=List.mem_filter.1 hp
       exact hx ⟨p,g1,ep,g2⟩
  rw[<-hfeq]
  exact h2
 ·rw[if_neg (by rw[gdSkip_wanted h.slots (gdSkip_agree hagree hg)];simp)]
  refine⟨ι,done ι undef w (fun _ _=>rfl) ?_ (by rw[hv];exact vr_undef ι w) (Keep.refl A w)⟩
  have:(pend.filter fun p=>Ls (listed.setIfInBounds e.i true) p.1)=pend.filter fun p=>Ls listed p.1:=by
   refine List.filter_congr fun p hp=>zV fun ep=> ?_
   obtain⟨⟨x,hx,g1,g2⟩,_⟩:=h.pin p hp
   have:=map_nodup_inj h.nodup hx he (g1.trans ep.symm)
   rw[this,hblk]at g2
   cases g2
  rw[this]
  exact h.rel
end
end Go.SC
namespace Go.SC
open Go
theorem join_full(B0:Nat)(H:AH)(L:List (Nat×List Value)):join (full B0 (fun _=>none) L) H=full B0 H L:=by
 funext n
 unfold join full
 cases L.find? (fun p=>B0+p.1==n) <;>rfl
section
variable {P:Program} {E:Env P} {ops:Array Oper} {s0:List Value} {B0:Nat} {H0:AH} {A:Nat->Prop} {ι0:Ren} {w0:World} {Q:List Value->AH->Nat->Prop}
 {listed:Array Bool} {a:Act} {w:World} {tr:List Ent} {rest:List Stp} {H:AH} {Bd:Nat} {pend:List (Nat×List Value)} {wt:List (Nat×Op×List Value×Value)} {ι:Ren}
theorem Sim.pickEff(hP:POk P){Q':Exit->Act->World->Prop}{st:Stp}(h:Sim E ops s0 B0 H0 A ι0 w0 Q listed a w tr (st::rest) H Bd pend wt ι){o:Oper}(ho:ops[st.i]? =some o)(hq:isEff o.op=true)(hr:st.i∈Region.ready .any ops listed):
  wpOp P ops Q' st.i (fun a' w'=>∃tr' H' Bd' pend' ι',Sim E ops s0 B0 H0 A ι0 w0 Q (listed.setIfInBounds st.i true) a' w' tr' rest H' Bd' pend' wt ι') a w:=by
 obtain⟨i,act,wat⟩:=st
 simp only at ho hr ⊢
 obtain⟨hun,hi,_,hed⟩:=vZ hr
 obtain⟨seg,hplan⟩:=h.plan
 cases hplan with
 |step ho' hn he hp hs ha hrest=>
 rw[ho]at ho'
 cases ho'
 have hcond:=h.cond
 unfold vd at hcond
 obtain⟨o2,ho2,hcond⟩:=opAt_out hcond
 rw[Array.getElem?_toList,ho]at ho2
 cases ho2
 obtain⟨ha1,ha2⟩:=ha hq
 have hrch:∀ {j},Rch ops i j->Ls listed j=true:=fun hj=>hj.listed h.closed hed
 have hlt:i<listed.size:=by rw[h.size];exact hi
 have hne:∀x∈tr,x.i≠i:=fun x hx e=>hn (by rw[<-e];exact List.mem_map_of_mem hx)
 have hpne:∀p∈pend,p.1≠i:=fun p hp e=>by
  obtain⟨⟨x,hx,g1,_⟩,_⟩:=h.pin p hp
  exact hne x hx (g1.trans e)
 have hagree:∀t,t∈o.looksAt ops->sget (yZ ops s0 tr) t=sget (yZ ops s0 (tr.filter fun x=>Ls listed x.i)) t:=by
  intro t hto
  rw[slotsR_get,slotsR_get,find?_filter]
  intro x hx hd
  obtain⟨p,hpx⟩:=h.op hx
  rw[dstOf_eq hpx]at hd
  rcases hp x.i (List.mem_map_of_mem hx) p hpx with hap|hap
  ·exact(apart_reads hap hto (by simpa using hd)).elim
  ·exact hrch hap
 have base:∀(r v:Value) (ι':Ren) (w':World) (H':AH) (Bd':Nat) (pend':List (Nat×List Value)),Rel A ι' (full B0 H' (pend'.filter fun p=>Ls listed p.1)) Bd' w'->VR ι' w' r v->Keep A ι w ι' w'->Agr Bd ι ι'->Ext ι ι'->NI H0 H'->Bd<=Bd'->
   (∀p∈pend',p∈pend/\H' (B0+p.1)=none)->(pend'.map (·.1)).Nodup->(∀x∈tr,Ls listed x.i=false->EntOK P ops B0 H' pend' x)->vd E ops.toList B0 rest (sput (yZ ops s0 tr) o.dst r) H' Bd' pend' wt Q->
   ∃tr' H' Bd' pend' ι',Sim E ops s0 B0 H0 A ι0 w0 Q (listed.setIfInBounds i true) (a.put o.dst v) w' tr' rest H' Bd' pend' wt ι':=by
  intro r v ι' w' H' Bd' pend' hrel hv hk hag hx hni hle hpin hpn hent hc
  have hf:(tr.filter fun x=>Ls (listed.setIfInBounds i true) x.i)=tr.filter fun x=>Ls listed x.i:=List.filter_congr fun x hx=>zV (Ne.symm (hne x hx))
  have hpf:(pend'.filter fun p=>Ls (listed.setIfInBounds i true) p.1)=pend'.filter fun p=>Ls listed p.1:=List.filter_congr fun p hp=>zV (Ne.symm (hpne p (hpin p hp).1))
  refine⟨⟨i,yZ ops s0 tr,r,none,true⟩::tr,H',Bd',pend',ι',{plan:=⟨_,hrest⟩,trok:=⟨rfl,h.trok⟩,nodup:=List.nodup_cons.2 ⟨hn,h.nodup⟩,pair:=List.Pairwise.cons (fun y hy p q h1 h2=> ?_) h.pair,size:=by rw[Array.size_setIfInBounds];exact h.size,sub:= ?_,eff:= ?_,ex:= ?_,edges:=⟨he,h.edges⟩,closed:= ?_,slots:= ?_,rel:=by rw[hpf];exact hrel,bd:=wE h.bd hle,free:= ?_,ent:= ?_,pnodup:=hpn,pin:= ?_,wat:= ?_,cond:= ?_,defers:= ?_,keep:=h.keep.trans hk,agr:=h.agr.trans hag (by have:=h.bd;omega),ni:=hni}⟩
  ·simp only at h1
   rw[ho]at h1
   cases h1
   exact hp y.i (List.mem_map_of_mem hy) q h2
  ·intro k hk
   simp only[List.map_cons,wG]
   rcases Ls_set hk with rfl|hk
   ·exact .inl rfl
   ·exact .inr (h.sub k hk)
  ·intro x hx p h1 h2
   rcases wG.1 hx with rfl|hx
   ·exact vM hlt
   ·exact Ls_mono (h.eff x hx p h1 h2)
  ·intro x hx
   rcases wG.1 hx with rfl|hx
   ·exact hi
   ·exact h.ex x hx
  ·intro j hj k hk
   rcases Ls_set hj with rfl|hj
   ·exact Ls_mono (hed k hk)
   ·exact Ls_mono (h.closed j hj k hk)
  ·rw[List.filter_cons_of_pos (p:=fun x:Ent=>Ls (listed.setIfInBounds i true) x.i) (by exact vM hlt),hf]
   simp only[yZ,dstOf_eq ho]
   exact(h.slots.mono hx hk.rows).sput o.dst hv
  ·intro j hj hu
   rw[hag _ (by have:=h.bd;omega)]
   exact h.free j hj (Ls_unset hu)
  ·intro x hx hu
   rcases wG.1 hx with rfl|hx
   ·rw[vM hlt]at hu;cases hu
   ·exact hent x hx (Ls_unset hu)
  ·intro p hp
   obtain⟨g1,g2⟩:=hpin p hp
   obtain⟨⟨x,hx,g⟩,_,g3⟩:=h.pin p g1
   exact⟨⟨x,List.mem_cons_of_mem _ hx,g⟩,g2,g3⟩
  ·intro x hx hu
   rcases wG.1 hx with rfl|hx
   ·rw[vM hlt]at hu;cases hu
   ·exact h.wat x hx (Ls_unset hu)
  ·simp only[yZ,dstOf_eq ho];exact hc
  ·have:=h.defers
   cases o.dst <;>exact this
 unfold wpOp
 simp only[ho]
 rcases gd_cases hcond with⟨hg,hc⟩|⟨hg,hc⟩
 ·rw[if_pos (gdRun_wanted h.slots (gdRun_agree hagree hg))]
  refine .inl ?_
  rw[if_pos hq]at hc
  rw[astep_congr_eff hq (fun x hx=>ev_agree fun t ex=>hagree t (looks_op hx ex))]at hc
  have hFo:∀n b,full B0 (fun _=>none) ((pend.filter fun p=> !act.contains p.1).filter fun p=>Ls listed p.1) n=some b->∃p∈pend,act.contains p.1=false/\B0+p.1=n/\b=⟨p.2,true⟩:=by
   intro n b hb
   by_cases hx:∃p∈((pend.filter fun p=> !act.contains p.1).filter fun p=>Ls listed p.1),B0+p.1=n
   ·obtain⟨p,hp,rfl⟩:=hx
    rw[full_mem (yQ (yQ h.pnodup _) _) hp]at hb
    obtain⟨g1,g2⟩:=List.mem_filter.1 (List.mem_filter.1 hp).1
    exact⟨p,g1,by simpa using g2,rfl,by cases hb;rfl⟩
   ·rw[vP fun p hp e=>hx ⟨p,hp,e⟩]at hb
    cases hb
  have hHc:full B0 H (pend.filter fun p=>Ls listed p.1)=join (full B0 (fun _=>none) ((pend.filter fun p=> !act.contains p.1).filter fun p=>Ls listed p.1)) (full B0 H (pend.filter fun p=>act.contains p.1)):=by
   funext n
   by_cases hx:∃p∈pend,B0+p.1=n/\Ls listed p.1=true
   ·obtain⟨p,hp,rfl,hl⟩:=hx
    rw[full_mem (yQ h.pnodup _) (List.mem_filter.2 ⟨hp,hl⟩)]
    cases hact:act.contains p.1 with
    |true=>
     rw[vH,full_mem (yQ h.pnodup _) (List.mem_filter.2 ⟨hp,hact⟩)]
     cases hf:full B0 (fun _=>none) ((pend.filter fun p=> !act.contains p.1).filter fun p=>Ls listed p.1) (B0+p.1)with
     |none=>rfl
     |some b=>
      obtain⟨q,hq1,hq2,hq3,_⟩:=hFo _ b hf
      have hqp:q.1=p.1:=by omega
      rw[hqp,hact]at hq2
      cases hq2
    |false=>
     rw[kB]
     exact full_mem (yQ (yQ h.pnodup _) _) (List.mem_filter.2 ⟨List.mem_filter.2 ⟨hp,by rw[hact];rfl⟩,hl⟩)
   ·rw[vP fun p hp e=>hx ⟨p,(List.mem_filter.1 hp).1,e,(List.mem_filter.1 hp).2⟩,vH,vP]
    ·intro p hp e
     obtain⟨g1,g2⟩:=List.mem_filter.1 hp
     exact hx ⟨p,g1,e,hrch (ha1 p.1 (by simpa using g2))⟩
    ·rw[vP]
     intro p hp e
     obtain⟨g1,g2⟩:=List.mem_filter.1 hp
     exact hx ⟨p,(List.mem_filter.1 g1).1,e,g2⟩
  have hd:∀n b,full B0 (fun _=>none) ((pend.filter fun p=> !act.contains p.1).filter fun p=>Ls listed p.1) n=some b->full B0 H (pend.filter fun p=>act.contains p.1) n=none:=by
   intro n b hb
   obtain⟨p,hp,hpa,rfl,_⟩:=hFo n b hb
   rw[vP,(h.pin p hp).2.1]
   intro q hq e
   obtain⟨g1,g2⟩:=List.mem_filter.1 hq
   have hqp:q.1=p.1:=by omega
   rw[hqp,hpa]at g2
   cases g2
  have hrel0:=h.rel
  rw[hHc]at hrel0
  refine astep_sound hP hc _ ι a w ⟨frame_in hrel0 hd,h.slots,h.defers⟩ _ _ fun v r ι' H' Bd' w' hk hle hr' hv hkeep hag hni=> ?_
  obtain⟨hk1,hk2,hk3⟩:=hk
  have hcl:=clearOf_out hk1
  have hout:=frame_out hrel0 hd (fun n b hb=>by obtain⟨p,_,_,_,rfl⟩:=hFo n b hb;rfl) hr' hkeep hag hni (fun n b hb=>by
   obtain⟨p,hp,hpa,rfl,_⟩:=hFo n b hb
   exact hcl p (List.mem_filter.2 ⟨hp,by rw[hpa];rfl⟩))
  rw[join_full]at hout
  refine base r v ι' w' H' Bd' _ hout hv (hkeep.wide fun _ hA=>hA.1) hag (hag.ext hrel0 hkeep.fz) ((h.ni.full B0 _).trans hni) hle (fun p hp=>⟨(List.mem_filter.1 hp).1,hcl p hp⟩) (yQ h.pnodup _) (fun x hx hu=> ?_) hk3
  obtain⟨p,g1,g2,g3⟩:=h.ent x hx hu
  refine⟨p,g1,g2,?_⟩
  rcases g3 with⟨q1,q2,q3,q4⟩|g3
  ·refine .inl ⟨q1,q2,?_,fun c hc=>List.mem_filter.2 ⟨q4 c hc,?_⟩⟩
   ·cases hh:kL p.op with
    |false=>rw[aq_noheap hh];exact q3
    |true=>
     rcases ha2 x.i (List.mem_map_of_mem hx) p g1 hh with hw|hw
     ·have hwt:=watched_out hk2 (h.wat x hx hu q1 p g1 hh) hw
      simp only at hwt
      have hb:x.blk=none:=by
       cases hop:p.op <;>rw[hop]at hh <;>simp[kL]at hh
       ·rw[hop]at q3
        simp only[aq]at q3
        split at q3
        ·split at q3
         ·obtain⟨_,_,e⟩:=Option.map_eq_some_iff.1 q3;exact(Prod.mk.inj e).2.symm
         ·cases q3
        ·obtain⟨_,_,e⟩:=Option.map_eq_some_iff.1 q3;exact(Prod.mk.inj e).2.symm
        ·cases q3
       ·rw[hop]at q3
        simp only[aq]at q3
        obtain⟨_,_,e⟩:=Option.map_eq_some_iff.1 q3;exact(Prod.mk.inj e).2.symm
      rw[aq_heap_m hh (m':=0),hwt,hb]
     ·rw[hrch hw]at hu;cases hu
   ·cases hact:act.contains x.i with
    |false=>rfl
    |true=>rw[hrch (ha1 x.i (by simpa using hact))]at hu;cases hu
  ·exact .inr g3
 ·rw[if_neg (by rw[gdSkip_wanted h.slots (gdSkip_agree hagree hg)];simp)]
  exact base undef undef ι w H Bd pend h.rel (vr_undef ι w) (Keep.refl A w) (Agr.refl _ _) (Ext.refl ι) h.ni (xC _) (fun p hp=>⟨hp,(h.pin p hp).2.1⟩) h.pnodup h.ent hc
end
end Go.SC
namespace Go.SC
open Go
def cntL(n:Nat)(listed:Array Bool):Nat:=(List.range n).countP fun k=> !Ls listed k
theorem cntL_set{listed:Array Bool}{i:Nat}(hi:i<listed.size)(hu:Ls listed i=false):∀n,(i<n->cntL n (listed.setIfInBounds i true)+1=cntL n listed)/\(n<=i->cntL n (listed.setIfInBounds i true)=cntL n listed)
 |0=>⟨fun h=>by omega,fun _=>rfl⟩
 |n+1=>by
  obtain⟨h1,h2⟩:=cntL_set hi hu n
  have hstep:∀l:Array Bool,cntL (n+1) l=cntL n l+if(!Ls l n)=true then 1 else 0:=fun l=>by
   unfold cntL
   rw[List.range_succ,List.countP_append]
   simp[List.countP_cons]
  rw[hstep,hstep]
  constructor
  ·intro h
   by_cases e:i=n
   ·subst e
    rw[h2 (xC _),vM hi,hu]
    simp
   ·rw[zV e]
    have:=h1 (by omega)
    omega
  ·intro h
   rw[zV (by omega),h2 (by omega)]
theorem cntL_zero{n:Nat}{listed:Array Bool}(h:cntL n listed=0):∀k,k<n->Ls listed k=true:=by
 intro k hk
 unfold cntL at h
 have:=List.countP_eq_zero.1 h k (List.mem_range.2 hk)
 simpa using this
section
variable {P:Program} {E:Env P} {ops:Array Oper} {s0:List Value} {B0:Nat} {H0:AH} {A:Nat->Prop} {ι0:Ren} {w0:World} {Q:List Value->AH->Nat->Prop}
 {listed:Array Bool} {a:Act} {w:World} {tr:List Ent} {rest:List Stp} {H:AH} {Bd:Nat} {pend:List (Nat×List Value)} {wt:List (Nat×Op×List Value×Value)} {ι:Ren}
def Sim'{P:Program}(E:Env P)(ops:Array Oper)(s0:List Value)(B0:Nat)(H0:AH)(A:Nat->Prop)(ι0:Ren)(w0:World)(Q:List Value->AH->Nat->Prop)(listed:Array Bool)(a:Act)(w:World):Prop:=
 ∃tr rest H Bd pend wt ι,Sim E ops s0 B0 H0 A ι0 w0 Q listed a w tr rest H Bd pend wt ι/\∀st r,rest=st::r->∃o,ops[st.i]? =some o/\isEff o.op=true
theorem Sim.eager:∀(rest:List Stp) (tr:List Ent) (pend:List (Nat×List Value)) (wt:List (Nat×Op×List Value×Value)),Sim E ops s0 B0 H0 A ι0 w0 Q listed a w tr rest H Bd pend wt ι->Sim' E ops s0 B0 H0 A ι0 w0 Q listed a w
 |[],tr,pend,wt,h=>⟨tr,[],H,Bd,pend,wt,ι,h,fun _ _ e=>by cases e⟩
 |st::rest,tr,pend,wt,h=>by
  obtain⟨seg,hplan⟩:=h.plan
  have:∃o,ops[st.i]? =some o:=by cases hplan with|step ho=>exact⟨_,ho⟩
  obtain⟨o,ho⟩:=this
  cases hq:isEff o.op with
  |true=>exact⟨tr,st::rest,H,Bd,pend,wt,ι,h,fun st' r e=>by cases e;exact⟨o,ho,hq⟩⟩
  |false=>
   obtain⟨e,pend',wt',h'⟩:=h.advance ho hq
   exact Sim.eager rest (e::tr) pend' wt' h'
theorem Sim.pick(hP:POk P){Q':Exit->Act->World->Prop}(h:Sim' E ops s0 B0 H0 A ι0 w0 Q listed a w){i:Nat}(hr:i∈Region.ready .any ops listed):
  wpOp P ops Q' i (fun a' w'=>Sim' E ops s0 B0 H0 A ι0 w0 Q (listed.setIfInBounds i true) a' w') a w:=by
 obtain⟨tr,rest,H,Bd,pend,wt,ι,h,hE⟩:=h
 obtain⟨hun,hi,⟨o,ho⟩,hed⟩:=vZ hr
 by_cases hm:i∈tr.map (·.i)
 ·obtain⟨e,he,rfl⟩:=List.mem_map.1 hm
  exact wpOp_mono (fun a' w' ⟨ι',h'⟩=>⟨tr,rest,H,Bd,pend,wt,ι',h',hE⟩) (h.pickQuiet hP he hr)
 ·obtain⟨seg,hplan⟩:=h.plan
  rcases hplan.all i hi with h1|⟨st,hst,hsi⟩
  ·exact absurd h1 hm
  ·cases rest with
   |nil=>cases hst
   |cons st0 rest=>
    obtain⟨o0,ho0,hq0⟩:=hE st0 rest rfl
    have hst0:st=st0\/st∈rest:=by simpa using hst
    have hi0:st0.i=i:=by
     rcases hst0 with rfl|hst'
     ·exact hsi
     ·exfalso
      have hunl:∀s∈st0::rest,Ls listed s.i=false:=by
       have key:∀ {pre:List Nat} {seg:Option (List Nat)} {l:List Stp},PlanOK ops pre seg l->∀s∈l,s.i∉pre:=by
        intro pre seg l hl
        induction hl with
        |done _=>intro s hs;cases hs
        | @step pre seg i act wat rest o ho hn he hp hs ha hr ih=>
         intro s hs'
         rcases wG.1 hs' with rfl|hs'
         ·exact hn
         ·exact fun hm=>ih s hs' (List.mem_cons_of_mem _ hm)
       intro s hs
       cases hl:Ls listed s.i with
       |false=>rfl
       |true=>exact absurd (h.sub _ hl) (key hplan s hs)
      cases hplan with
      | @step _ _ i1 act1 wat1 _ o1 ho' hn he hp hs ha hrest=>
       have:isEff o1.op=true:=by
        have e:=ho'.symm.trans ho0
        injection e with e
        rw[e];exact hq0
       rw[if_pos this]at hrest
       obtain⟨k,hk,hku⟩:=hrest.waits _ rfl (by simp) (fun k hk=>by simp at hk;rw[hk];exact hunl _ List.mem_cons_self) (fun s hs=>hunl s (List.mem_cons_of_mem _ hs)) st hst'
       rw[hsi]at hk
       rw[hed k hk]at hku
       cases hku
    subst hi0
    exact wpOp_mono (fun a' w' ⟨tr',H',Bd',pend',ι',h'⟩=>Sim.eager rest tr' pend' wt h') (h.pickEff hP ho0 hq0 hr)
theorem Sim.done(h:Sim' E ops s0 B0 H0 A ι0 w0 Q listed a w)(hr:Region.ready .any ops listed=[]):
  ∃ι' s' H' Bd',Q s' H' Bd'/\B0<=Bd'/\St A ι' s' H' Bd' a w/\Keep A ι0 w0 ι' w/\Agr B0 ι0 ι'/\NI H0 H':=by
 obtain⟨tr,rest,H,Bd,pend,wt,ι,h,hE⟩:=h
 have hall:∀l:List Ent,TrEd ops l->(∀e∈l,e.i<ops.size)->∀e∈l,Ls listed e.i=true:=by
  intro l
  induction l with
  |nil=>intro _ _ e he;cases he
  |cons x l ih=>
   intro hed hex e he
   have ihl:=ih hed.2 fun e he=>hex e (List.mem_cons_of_mem _ he)
   rcases wG.1 he with rfl|he
   ·cases hl:Ls listed e.i with
    |true=>rfl
    |false=>
     have:=ready_of_edges h.size (hex e List.mem_cons_self) hl fun k hk=>by
      obtain⟨y,hy,rfl⟩:=List.mem_map.1 (hed.1 k hk)
      exact ihl y hy
     rw[hr]at this
     cases this
   ·exact ihl e he
 have hlist:=hall tr h.edges h.ex
 have hrest:rest=[]:=by
  cases rest with
  |nil=>rfl
  |cons st rest=>
   obtain⟨seg,hplan⟩:=h.plan
   cases hplan with
   |step ho hn he hp hs ha hrest=>
    have hi:=(xS.1 ho).1
    have:=ready_of_edges h.size hi (by
     cases hl:Ls listed _ with
     |false=>rfl
     |true=>exact absurd (h.sub _ hl) hn) fun k hk=>by
      obtain⟨y,hy,rfl⟩:=List.mem_map.1 (he k hk)
      exact hlist y hy
    rw[hr]at this
    cases this
 subst hrest
 have h1:(tr.filter fun e=>Ls listed e.i)=tr:=List.filter_eq_self.2 fun e he=>hlist e he
 have h2:(pend.filter fun p=>Ls listed p.1)=pend:=List.filter_eq_self.2 fun p hp=>by
  obtain⟨⟨x,hx,g,_⟩,_⟩:=h.pin p hp
  rw[<-g];exact hlist x hx
 have hc:=h.cond
 unfold vd at hc
 have hs:=h.slots
 have hrel:=h.rel
 rw[h1]at hs
 rw[h2]at hrel
 exact⟨ι,_,_,Bd,hc,wE (xB _ _) h.bd,⟨hrel,hs,h.defers⟩,h.keep,h.agr,h.ni.full _ _⟩
theorem Sim.any(hP:POk P){Q':Exit->Act->World->Prop}(hQ:∀a w ι' s' H' Bd',Q s' H' Bd'->B0<=Bd'->St A ι' s' H' Bd' a w->Keep A ι0 w0 ι' w->Agr B0 ι0 ι'->NI H0 H'->Q' .normal a w):
  ∀(fuel:Nat) (listed:Array Bool) (a:Act) (w:World),listed.size=ops.size->cntL ops.size listed=fuel->Sim' E ops s0 B0 H0 A ι0 w0 Q listed a w->wpAny P .any ops Q' fuel listed a w
 |0,listed,a,w,hs,hc,h=>by
  have hr:Region.ready .any ops listed=[]:=by
   cases hx:Region.ready .any ops listed with
   |nil=>rfl
   |cons i l=>
    obtain⟨hun,hi,_⟩:=vZ (i:=i) (by rw[hx];exact List.mem_cons_self)
    rw[cntL_zero hc i hi]at hun
    cases hun
  obtain⟨ι',s',H',Bd',g1,g2,g3,g4,g5,g6⟩:=Sim.done h hr
  exact⟨hr,hQ a w ι' s' H' Bd' g1 g2 g3 g4 g5 g6⟩
 |fuel+1,listed,a,w,hs,hc,h=>by
  refine⟨fun hr=> ?_,fun i hi=> ?_⟩
  ·obtain⟨ι',s',H',Bd',g1,g2,g3,g4,g5,g6⟩:=Sim.done h hr
   exact hQ a w ι' s' H' Bd' g1 g2 g3 g4 g5 g6
  ·obtain⟨hun,hlt,_⟩:=vZ hi
   refine wpOp_mono (fun a' w' h'=> ?_) (Sim.pick hP h hi)
   refine Sim.any hP hQ fuel _ a' w' (by rw[Array.size_setIfInBounds];exact hs) ?_ h'
   have:=(cntL_set (by rw[hs];exact hlt) hun ops.size).1 hlt
   omega
end
theorem tr_draw{P:Program}(hP:POk P)(E:Env P){N0 id:Nat}{ops:Array Oper}(order:List Nat)(plan:List Stp)(hm:mk ops order [] [] none=some plan){Q:yY}{s:List Value}{H:AH}{Bd:Nat}
  (h:vd E ops.toList Bd plan s H (Bd+ops.size) [] [] (Q .normal)):Tr P N0 (.region id ops true) Q s H Bd:=by
 intro hN A ι a w hst
 refine wp_region_any hP.mixed ?_
 have hrel:Rel A ι H (Bd+ops.size) w.drew:=(hst.rel.drew).raise (xB _ _)
 have hsim:Sim E ops s Bd H A ι w (Q .normal) (Array.replicate ops.size false) a w.drew [] plan H (Bd+ops.size) [] [] ι:=
  {plan:=⟨none,mk_sound _ _ _ _ _ (fun p hp=>(by cases hp)) hm⟩,trok:=trivial,nodup:=List.nodup_nil,pair:=List.Pairwise.nil,size:=(by simp),
   sub:=fun k hk=>(by rw[Ls,getD_replicate_false]at hk;cases hk),eff:=fun e he=>(by cases he),ex:=fun e he=>(by cases he),edges:=trivial,
   closed:=fun j hj=>(by rw[Ls,getD_replicate_false]at hj;cases hj),slots:=hst.slots.mono (Ext.refl ι) (Keep.drew A w).rows,rel:=hrel,bd:=xC _,
   free:=fun i hi _=>hst.rel.bound _ (xB _ _),ent:=fun e he=>(by cases he),pnodup:=List.nodup_nil,pin:=fun p hp=>(by cases hp),wat:=fun e he=>(by cases he),
   cond:=h,defers:=hst.defers,keep:=Keep.drew A w,agr:=Agr.refl _ _,ni:=NI.refl _}
 refine Sim.any hP (fun a' w' ι' s' H' Bd' g1 g2 g3 g4 g5 g6=> ?_) ops.size _ a w.drew (by simp) ?_ (Sim.eager plan [] [] [] hsim)
 ·exact⟨ι',s',H',Bd',g1,wE hN g2,g3,g4,fun n hn=>g5 n (Nat.lt_of_lt_of_le hn hN),g6⟩
 ·unfold cntL
  rw[List.countP_eq_length.2 fun k _=>(by rw[Ls,getD_replicate_false];rfl),List.length_range]
end Go.SC
namespace Go.SC
open Go
inductive JT where
 |nil
 |op (t:JT)
 |grp (want:Bool) (c d n:Nat) (D:List Nat) (pd:Nat) (pg:Option (Nat×Bool)) (g t:JT)
def JT.k:Nat->JT->JT
 |0,t=>t
 |n+1,t=> .op (JT.k n t)
def JT.cnt:JT->Nat
 | .nil=>0
 | .op t=>t.cnt+1
 | .grp _ _ _ n _ _ _ _ t=>n+1+t.cnt
def dstsOf(l:List Oper):List Nat:=l.flatMap fun o=>o.dst.toList
def skipOK(ops:List Oper)(want:Bool)(c:Nat):List Nat->List Oper->Bool
 |_,[]=>true
 |D,q::r=>(match q.guard with
  |some (j,w)=>match odst ops j with
   |some s=>((s==c)&&(w==want))||D.contains s
   |none=>false
  |none=>false)&&skipOK ops want c (q.dst.toList++D) r
def pickShape(want:Bool)(c d:Nat):Op->Bool
 | .pick (.tmp c') (.const (.bool true)) (.tmp d')=> !want&&c'==c&&d'==d
 | .pick (.tmp c') (.tmp d') (.const (.bool false))=>want&&c'==c&&d'==d
 |_=>false
def pgOK(ops:List Oper):Option (Nat×Bool)->Option (Nat×Bool)->Bool
 |none,none=>true
 |some (j,w),some (s,w')=>(w==w')&&decide (odst ops j=some s)
 |_,_=>false
def jtOK(ops:List Oper):JT->List Oper->Bool
 | .nil,_=>true
 | .op t,_::rest=>jtOK ops t rest
 | .op _,[]=>false
 | .grp want c d n D pd pg g t,l=>decide (g.cnt=n)&&jtOK ops g l&&decide (D=dstsOf (l.take n))&& !D.contains c&&skipOK ops want c [] (l.take n)&&
  (match l.drop n with
   |p::rest=>decide (p.dst=some pd)&&pickShape want c d p.op&&pgOK ops p.guard pg&&jtOK ops t rest
   |[]=>false)
def forget:List Nat->List Value->List Value
 |[],s=>s
 |d::D,s=>forget D (sset s d unk)
def Fr(D:List Nat)(s s':List Value):Prop:=s'.length=s.length/\∀i,i∉D->s'[i]? =s[i]?
theorem Fr.refl(s:List Value):Fr [] s s:=⟨rfl,fun _ _=>rfl⟩
theorem Fr.trans{D E:List Nat}{a b c:List Value}(h:Fr D a b)(k:Fr E b c):Fr (D++E) a c:=
 ⟨k.1.trans h.1,fun i hi=>(k.2 i fun x=>hi (List.mem_append_right _ x)).trans (h.2 i fun x=>hi (List.mem_append_left _ x))⟩
theorem Fr.put(s:List Value)(d:Option Nat)(v:Value):Fr d.toList s (sput s d v):=by
 cases d with
 |none=>exact Fr.refl s
 |some d=>
  simp only[sput,sset_eq,Option.toList]
  exact⟨by simp,fun i hi=>by rw[wS];simpa[eq_comm]using hi⟩
theorem forget_get:∀(D:List Nat) (s:List Value),(forget D s).length=s.length/\∀i v,(forget D s)[i]? =some v->v=unk\/(i∉D/\s[i]? =some v)
 |[],s=>⟨rfl,fun i v h=> .inr ⟨by simp,h⟩⟩
 |d::D,s=>by
  obtain⟨h1,h2⟩:=forget_get D (sset s d unk)
  rw[forget]
  refine⟨by rw[h1,sset_eq,List.length_set],fun i v h=> ?_⟩
  rcases h2 i v h with rfl|⟨hi,hv⟩
  ·exact .inl rfl
  ·rw[sset_eq,List.getElem?_set]at hv
   by_cases e:d=i
   ·rw[if_pos e]at hv
    split at hv
    ·cases hv;exact .inl rfl
    ·cases hv
   ·rw[if_neg e]at hv
    exact .inr ⟨by simp only[wG,not_or];exact⟨fun x=>e x.symm,hi⟩,hv⟩
theorem SR.forget{ι:Ren}{w:World}{s s':List Value}{t:Array Value}{D:List Nat}(h:SR ι w s' t)(hf:Fr D s s'):SR ι w (forget D s) t:=by
 obtain⟨h1,h2⟩:=forget_get D s
 refine⟨by rw[h1,<-hf.1];exact h.1,fun i v v' hv hv'=> ?_⟩
 rcases h2 i v hv with rfl|⟨hi,hs⟩
 ·exact .unk _
 ·exact h.2 i v v' (by rw[hf.2 i hi];exact hs) hv'
def abool':Value->Option Bool
 | .bool b=>some b
 |_=>none
def JE(want:Bool)(p:Prop)(X K:Bool->Prop):Prop:=∃r:Bool,(match want with|false=>(p->r=true)/\(¬p->X r)|true=>(p->X r)/\(¬p->r=false))/\K r
def gK(pg:Option (Nat×Bool))(s:List Value)(A B:Prop):Prop:=
 match pg with
 |none=>A
 |some (c,w)=>match sget s c with
  | .bool b=>Cnd (b==w) A B
  | .tuple _=>B
  |_=>False
def vT{P:Program}(E:Env P)(ops:List Oper):JT->List Oper->List Value->AH->Nat->(List Value->AH->Nat->Prop)->Prop
 | .nil,_,s,H,Bd,Q=>Q s H Bd
 | .op _,[],_,_,_,_=>False
 | .op t,o::rest,s,H,Bd,Q=>
  match o.guard with
  |none=>jW E o s H Bd fun v H Bd=>vT E ops t rest (sput s o.dst v) H Bd Q
  |some (j,want)=>
   match agard ops s j with
   |some (.bool b)=>Cnd (b==want) (jW E o s H Bd fun v H Bd=>vT E ops t rest (sput s o.dst v) H Bd Q) (vT E ops t rest (sput s o.dst undef) H Bd Q)
   |some (.tuple _)=>vT E ops t rest (sput s o.dst undef) H Bd Q
   |_=>False
 | .grp want c d n D pd pg g t,l,s,H,Bd,Q=>Yld (abool' (sget s c)) fun b=>JE want (b=true) (fun r=>vT E ops g l s H Bd fun s' H' Bd'=>H'=H/\Bd'=Bd/\sget s' d= .bool r)
   fun r=>gK pg (forget D s) (vT E ops t (l.drop (n+1)) (sset (forget D s) pd (.bool r)) H Bd Q) (vT E ops t (l.drop (n+1)) (sset (forget D s) pd undef) H Bd Q)
theorem astep_pick_val{P:Program}{E:Env P}{o:Oper}{s:List Value}{H:AH}{Bd:Nat}{K:Value->AH->Nat->Prop}{c:Nat}{x y:Operand}(ho:o.op= .pick (.tmp c) x y){b:Bool}(hc:sget s c= .bool b)
  (hk:K (if b=true then ev s x else ev s y) H Bd):jW E o s H Bd K:=by
 unfold jW
 rw[ho]
 have:ev s (.tmp c)= .bool b:=hc
 simp only[aval,this]
 cases b <;>exact⟨_,rfl,by simpa using hk⟩
theorem skip_sound{P:Program}{ops:Array Oper}{Qc:Exit->Act->World->Prop}{want b:Bool}{c:Nat}(hbw:b≠want){A:Nat->Prop}{ι:Ren}{H:AH}{Bd:Nat}{w:World}(R:List Oper):
  ∀(l:List Oper) (D0:List Nat) (s:List Value) (a:Act),skipOK ops.toList want c D0 l=true->(∀o∈l,o.dst≠some c)->St A ι s H Bd a w->sget s c= .bool b->(∀d∈D0,sget s d=undef)->
   (∀s' a',Fr (dstsOf l) s s'->St A ι s' H Bd a' w->wpList P ops Qc R a' w)->wpList P ops Qc (l++R) a w
 |[],D0,s,a,_,_,hst,_,_,hQ=>hQ s a (Fr.refl s) hst
 |q::r,D0,s,a,hk,hc,hst,hb,hD,hQ=>by
  simp only[skipOK,Bool.and_eq_true]at hk
  obtain⟨hk1,hk2⟩:=hk
  have hqc:=hc q (List.mem_cons_self ..)
  have hput:∀(x:Nat) (v:Value),sget s x=v->q.dst≠some x->sget (sput s q.dst undef) x=v:=by
   intro x v hx hq
   cases hd:q.dst with
   |none=>exact hx
   |some d=>
    simp only[sput,zE,sset_eq,xF]at hx ⊢
    rw[wS (by intro e;subst e;exact hq hd)]
    exact hx
  have hund:∀x,q.dst=some x->sget (sput s q.dst undef) x=undef:=by
   intro x hx
   rw[hx]
   simp only[sput,zE,sset_eq,xF,List.getElem?_set]
   split
   ·split <;>rfl
   ·rename_i h;exact absurd trivial h
  have hnext:wpList P ops Qc (r++R) (a.put q.dst undef) w:=by
   refine skip_sound hbw R r (q.dst.toList++D0) (sput s q.dst undef) _ hk2 (fun o ho=>hc o (List.mem_cons_of_mem _ ho)) (hst.put hst.rel (Keep.refl A w) (Agr.refl _ _) q.dst (vr_undef ι w)) (hput c _ hb hqc) ?_ ?_
   ·intro d hd
    rcases List.mem_append.1 hd with h|h
    ·exact hund d (by simpa using h)
    ·by_cases e:q.dst=some d
     ·exact hund d e
     ·exact hput d _ (hD d h) e
   ·intro s' a' hf hs
    exact hQ s' a' ((Fr.put s q.dst undef).trans hf) hs
  unfold wpList
  cases hg:q.guard with
  |none=>rw[hg]at hk1;simp at hk1
  |some jw=>
   obtain⟨j,w2⟩:=jw
   rw[hg]at hk1
   simp only at hk1
   cases ho:odst ops.toList j with
   |none=>rw[ho]at hk1;simp at hk1
   |some sj=>
    rw[ho]at hk1
    simp only[Bool.or_eq_true,Bool.and_eq_true,beq_iff_eq]at hk1
    have hag:agard ops.toList s j=some (sget s sj):=by unfold agard;rw[ho]
    have hy:yielded ops a.tmps j≠some w2:=by
     rcases hk1 with⟨rfl,rfl⟩|hd
     ·rw[hb]at hag
      rcases yL hst.slots hag with⟨v',h1,h2⟩|⟨h1,_⟩
      ·cases h2;simp only[yielded,h1];intro e;exact hbw (Option.some.inj e)
      ·cases h1
     ·rw[hD sj (by simpa using hd)]at hag
      rcases yL hst.slots hag with⟨v',h1,h2⟩|⟨_,h1⟩
      ·cases h2;simp only[yielded,h1];intro e;cases e
      ·simp only[yielded,h1];intro e;cases e
    simp only[List.cons_append]
    rw[if_neg (by simp only[Region.wanted,hg];intro e;exact hy (by simpa using e))]
    exact hnext
theorem drop_cons{l:List Oper}{n:Nat}{p:Oper}{rest:List Oper}(h:l.drop n=p::rest):l.drop (n+1)=rest:=by
 rw[<-List.drop_drop,h];rfl
theorem zT(a b:List Oper):dstsOf (a++b)=dstsOf a++dstsOf b:=by simp[dstsOf]
theorem Fr.sget{D:List Nat}{s s':List Value}(h:Fr D s s'){c:Nat}(hc:c∉D):SC.sget s' c=SC.sget s c:=by
 simp only[zE,xF,h.2 c hc]
theorem fr_forget(D:List Nat)(s:List Value):Fr D s (forget D s):=by
 induction D generalizing s with
 |nil=>exact Fr.refl s
 |cons d D ih=>
  obtain⟨h1,h2⟩:=ih (sset s d unk)
  rw[forget]
  refine⟨by rw[h1,sset_eq,List.length_set],fun i hi=> ?_⟩
  simp only[wG,not_or]at hi
  rw[h2 i hi.2,sset_eq,wS fun e=>hi.1 e.symm]
theorem vopsJ_sound{P:Program}(hP:POk P){E:Env P}{ops:Array Oper}{Qc:Exit->Act->World->Prop}:
  ∀(t:JT) (l:List Oper) (s:List Value) (H:AH) (Bd:Nat) (Q:List Value->AH->Nat->Prop),jtOK ops.toList t l=true->vT E ops.toList t l s H Bd Q->∀(A:Nat->Prop) (ι:Ren) (a:Act) (w:World),St A ι s H Bd a w->
   (∀s' H' Bd' ι' a' w',Q s' H' Bd'->Fr (dstsOf (l.take t.cnt)) s s'->Bd<=Bd'->St A ι' s' H' Bd' a' w'->Keep A ι w ι' w'->Agr Bd ι ι'->NI H H'->wpList P ops Qc (l.drop t.cnt) a' w')->wpList P ops Qc l a w
 | .nil,l,s,H,Bd,Q,_,h,A,ι,a,w,hst,hQ=>hQ s H Bd ι a w h (by simp[JT.cnt,dstsOf];exact Fr.refl s) (xC _) hst (Keep.refl A w) (Agr.refl _ _) (NI.refl _)
 | .op _,[],s,H,Bd,Q,_,h,A,ι,a,w,hst,hQ=>h.elim
 | .op t,o::rest,s,H,Bd,Q,hj,h,A,ι,a,w,hst,hQ=>by
  have hj':jtOK ops.toList t rest=true:=hj
  have hcomp:∀(v:Value) (s':List Value),Fr (dstsOf (rest.take t.cnt)) (sput s o.dst v) s'->Fr (dstsOf ((o::rest).take (t.cnt+1))) s s':=by
   intro v s' hf
   rw[List.take_succ_cons,show o::rest.take t.cnt=[o]++rest.take t.cnt from rfl,zT]
   have:=(Fr.put s o.dst v).trans hf
   simpa[dstsOf]using this
  have hstep:∀(hs:jW E o s H Bd fun v H Bd=>vT E ops.toList t rest (sput s o.dst v) H Bd Q),o.wp P a w (wpList P ops Qc rest) Qc:=fun hs=>
   astep_sound hP hs A ι a w hst _ _ fun v r ι' H' Bd' w' h1 h2 h3 h4 h5 h6 h7=>
    vopsJ_sound hP t rest _ H' Bd' Q hj' h1 A ι' _ w' (hst.put h3 h5 h6 o.dst h4) fun s2 H2 Bd2 ι2 a2 w2 g1 gf g2 g3 g4 g5 g6=>
     hQ s2 H2 Bd2 ι2 a2 w2 g1 (hcomp _ _ gf) (wE h2 g2) g3 (h5.trans g4) (h6.trans g5 h2) (h7.trans g6)
  have hskip:vT E ops.toList t rest (sput s o.dst undef) H Bd Q->wpList P ops Qc rest (a.put o.dst undef) w:=fun hs=>
   vopsJ_sound hP t rest _ H Bd Q hj' hs A ι _ w (hst.put hst.rel (Keep.refl A w) (Agr.refl _ _) o.dst (vr_undef ι w)) fun s2 H2 Bd2 ι2 a2 w2 g1 gf g2 g3 g4 g5 g6=>
     hQ s2 H2 Bd2 ι2 a2 w2 g1 (hcomp _ _ gf) g2 g3 g4 g5 g6
  unfold vT at h
  unfold wpList
  cases hg:o.guard with
  |none=>
   rw[hg]at h
   rw[if_pos (by simp[Region.wanted,hg])]
   exact .inl (hstep h)
  |some jw=>
   obtain⟨j,want⟩:=jw
   rw[hg]at h
   simp only at h
   split at h
   ·rename_i b hb
    have hy:yielded ops a.tmps j=some b:=by
     rcases yL hst.slots hb with⟨v',h1,h2⟩|⟨h1,_⟩
     ·cases h2;simp only[yielded,h1]
     ·cases h1
    by_cases hbw:b=want
    ·subst hbw
     rw[if_pos (by simp[Region.wanted,hg,hy])]
     exact .inl (hstep (h.1 (by simp)))
    ·rw[if_neg (by simp[Region.wanted,hg,hy,hbw])]
     exact hskip (h.2 (by simp[hbw]))
   ·rename_i vs hb
    have hy:yielded ops a.tmps j=none:=by
     rcases yL hst.slots hb with⟨v',h1,h2⟩|⟨_,h1⟩
     ·cases h2;simp only[yielded,h1]
     ·simp only[yielded,h1]
    rw[if_neg (by simp[Region.wanted,hg,hy])]
    exact hskip h
   ·cases h
 | .grp want c d n D pd pg g t,l,s,H,Bd,Q,hj,h,A,ι,a,w,hst,hQ=>by
  simp only[jtOK,Bool.and_eq_true,decide_eq_true_eq]at hj
  obtain⟨⟨⟨⟨⟨hn,hjg⟩,hD⟩,hcD⟩,hsk⟩,hp⟩:=hj
  have hcD':c∉D:=by simpa using hcD
  cases hl:l.drop n with
  |nil=>rw[hl]at hp;cases hp
  |cons p rest=>
   rw[hl]at hp
   simp only[Bool.and_eq_true,decide_eq_true_eq]at hp
   obtain⟨⟨⟨hpd,hps⟩,hpg⟩,hjt⟩:=hp
   have hl1:l.drop (n+1)=rest:=drop_cons hl
   obtain⟨b,hb,r,hr,hk⟩:=h
   have hb':sget s c= .bool b:=by
    revert hb;generalize sget s c=x;intro hb
    cases x <;>simp[abool']at hb
    rw[hb]
   rw[hl1]at hk
   have hafter:∀(s':List Value) (ι':Ren) (a':Act) (w':World),Fr D s s'->St A ι' s' H Bd a' w'->Keep A ι w ι' w'->Agr Bd ι ι'->(b=want->sget s' d= .bool r)->(b≠want->r=b)->wpList P ops Qc (p::rest) a' w':=by
    intro s' ι' a' w' hf hs' hkp hag hv1 hv2
    have hsf:St A ι' (forget D s) H Bd a' w':=⟨hs'.rel,hs'.slots.forget hf,hs'.defers⟩
    have hc':sget s' c= .bool b:=by rw[hf.sget hcD',hb']
    have hgo:vT E ops.toList t rest (sset (forget D s) pd (.bool r)) H Bd Q->p.wp P a' w' (wpList P ops Qc rest) Qc:=by
     intro hk
     have hpick:jW E p s' H Bd fun v H' Bd'=>v= .bool r/\H'=H/\Bd'=Bd:=by
      revert hps
      cases hpo:p.op <;>intro hps <;>try(simp[pickShape]at hps;done)
      rename_i cc x y
      cases want with
      |false=>
       unfold pickShape at hps
       split at hps
       ·rename_i c' d' heq
        cases heq
        simp only[Bool.not_false,Bool.true_and,Bool.and_eq_true,beq_iff_eq]at hps
        obtain⟨rfl,rfl⟩:=hps
        refine astep_pick_val hpo hc' ?_
        cases b with
        |true=>exact⟨by rw[hv2 (by simp)];rfl,rfl,rfl⟩
        |false=>exact⟨by rw[if_neg (by simp)];exact hv1 rfl,rfl,rfl⟩
       ·simp at hps
       ·cases hps
      |true=>
       unfold pickShape at hps
       split at hps
       ·simp at hps
       ·rename_i c' d' heq
        cases heq
        simp only[Bool.true_and,Bool.and_eq_true,beq_iff_eq]at hps
        obtain⟨rfl,rfl⟩:=hps
        refine astep_pick_val hpo hc' ?_
        cases b with
        |true=>exact⟨by rw[if_pos rfl];exact hv1 rfl,rfl,rfl⟩
        |false=>exact⟨by rw[hv2 (by simp)];rfl,rfl,rfl⟩
       ·cases hps
     refine astep_sound hP hpick A ι' a' w' hs' _ _ fun v r' ι2 H2 Bd2 w2 h1 h2 h3 h4 h5 h6 h7=> ?_
     obtain⟨rfl,rfl,rfl⟩:=h1
     have hst2:=hsf.put h3 h5 h6 p.dst h4
     rw[hpd]at hst2 ⊢
     refine vopsJ_sound hP t rest _ _ _ Q hjt hk A ι2 _ w2 hst2 fun s2 H2 Bd2 ι2 a2 w2 g1 gf g2 g3 g4 g5 g6=> ?_
     have e:=hQ s2 H2 Bd2 ι2 a2 w2 g1 ?_ g2 g3 ((hkp.trans h5).trans g4) ((hag.trans h6 (xC _)).trans g5 (xC _)) g6
     ·simp only[JT.cnt]at e
      rw[<-List.drop_drop,hl1]at e
      exact e
     ·have e2:l.take (JT.grp want c d n D pd pg g t).cnt=l.take n++(p::rest.take t.cnt):=by
       conv=>lhs;rw[<-List.take_append_drop n l]
       rw[hl]
       have hln:(l.take n).length=n:=by
        rw[xQ]
        have:(l.drop n).length≠0:=by rw[hl];simp
        rw[xI]at this;omega
       simp only[JT.cnt]
       rw[List.take_append,hln,xO (by omega),show n+1+t.cnt-n=t.cnt+1 by omega,List.take_succ_cons]
      rw[e2,zT,<-hD]
      refine(fr_forget D s).trans ?_
      have:=(Fr.put (forget D s) (some pd) (.bool r)).trans gf
      rw[show p::rest.take t.cnt=[p]++rest.take t.cnt from rfl,zT]
      have e3:dstsOf [p]=[pd]:=by simp[dstsOf,hpd]
      rw[e3]
      simpa using this
    have hno:vT E ops.toList t rest (sset (forget D s) pd undef) H Bd Q->wpList P ops Qc rest (a'.put p.dst undef) w':=by
     intro hk
     have hst2:=hsf.put hs'.rel (Keep.refl A w') (Agr.refl _ _) p.dst (vr_undef ι' w')
     rw[hpd]at hst2 ⊢
     refine vopsJ_sound hP t rest _ _ _ Q hjt hk A ι' _ w' hst2 fun s2 H2 Bd2 ι2 a2 w2 g1 gf g2 g3 g4 g5 g6=> ?_
     have e:=hQ s2 H2 Bd2 ι2 a2 w2 g1 ?_ g2 g3 (hkp.trans g4) (hag.trans g5 (xC _)) g6
     ·simp only[JT.cnt]at e
      rw[<-List.drop_drop,hl1]at e
      exact e
     ·have e2:l.take (JT.grp want c d n D pd pg g t).cnt=l.take n++(p::rest.take t.cnt):=by
       conv=>lhs;rw[<-List.take_append_drop n l]
       rw[hl]
       have hln:(l.take n).length=n:=by
        rw[xQ]
        have:(l.drop n).length≠0:=by rw[hl];simp
        rw[xI]at this;omega
       simp only[JT.cnt]
       rw[List.take_append,hln,xO (by omega),show n+1+t.cnt-n=t.cnt+1 by omega,List.take_succ_cons]
      rw[e2,zT,<-hD]
      refine(fr_forget D s).trans ?_
      have:=(Fr.put (forget D s) (some pd) undef).trans gf
      rw[show p::rest.take t.cnt=[p]++rest.take t.cnt from rfl,zT]
      have e3:dstsOf [p]=[pd]:=by simp[dstsOf,hpd]
      rw[e3]
      simpa using this
    unfold wpList
    unfold gK at hk
    cases hpgd:p.guard with
    |none=>
     rw[hpgd]at hpg
     cases pg with
     |some x=>cases hpg
     |none=>
      rw[if_pos (by simp[Region.wanted,hpgd])]
      exact .inl (hgo hk)
    |some jw=>
     obtain⟨j,w2⟩:=jw
     rw[hpgd]at hpg
     cases pg with
     |none=>cases hpg
     |some x=>
      obtain⟨sl,w3⟩:=x
      simp only[pgOK,Bool.and_eq_true,beq_iff_eq,decide_eq_true_eq]at hpg
      obtain⟨rfl,hod⟩:=hpg
      have hag':agard ops.toList (forget D s) j=some (sget (forget D s) sl):=by unfold agard;rw[hod]
      simp only at hk
      split at hk
      ·rename_i b2 hb2
       rw[hb2]at hag'
       have hy:yielded ops a'.tmps j=some b2:=by
        rcases yL hsf.slots hag' with⟨v',h1,h2⟩|⟨h1,_⟩
        ·cases h2;simp only[yielded,h1]
        ·cases h1
       by_cases hbw:b2=w2
       ·subst hbw
        rw[if_pos (by simp[Region.wanted,hpgd,hy])]
        exact .inl (hgo (hk.1 (by simp)))
       ·rw[if_neg (by simp[Region.wanted,hpgd,hy,hbw])]
        exact hno (hk.2 (by simp[hbw]))
      ·rename_i vs hb2
       rw[hb2]at hag'
       have hy:yielded ops a'.tmps j=none:=by
        rcases yL hsf.slots hag' with⟨v',h1,h2⟩|⟨_,h1⟩
        ·cases h2;simp only[yielded,h1]
        ·simp only[yielded,h1]
       rw[if_neg (by simp[Region.wanted,hpgd,hy])]
       exact hno hk
      ·cases hk
   by_cases hbw:b=want
   ·subst hbw
    have hx:vT E ops.toList g l s H Bd fun s' H' Bd'=>H'=H/\Bd'=Bd/\sget s' d= .bool r:=by
     cases b with
     |false=>exact hr.2 (by simp)
     |true=>exact hr.1 rfl
    refine vopsJ_sound hP g l s H Bd _ hjg hx A ι a w hst fun s' H' Bd' ι' a' w' h1 hf h2 h3 h4 h5 h6=> ?_
    obtain⟨rfl,rfl,h1⟩:=h1
    rw[hn,hl]
    rw[hn,<-hD]at hf
    exact hafter s' ι' a' w' hf h3 h4 h5 (fun _=>h1) (fun h=>absurd rfl h)
   ·have hrb:r=b:=by
     cases b <;>cases want <;>simp_all
    have hc:∀o∈l.take n,o.dst≠some c:=by
     intro o ho e
     refine hcD' ?_
     rw[hD]
     exact List.mem_flatMap.2 ⟨o,ho,by simp[e]⟩
    rw[<-List.take_append_drop n l,hl]
    refine skip_sound hbw (p::rest) (l.take n) [] s a hsk hc hst hb' (fun d hd=>by cases hd) fun s' a' hf hs'=> ?_
    rw[<-hD]at hf
    exact hafter s' ι a' w hf hs' (Keep.refl A w) (Agr.refl _ _) (fun h=>absurd h hbw) (fun _=>hrb)
end Go.SC
