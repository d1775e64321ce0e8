/- How conditions are worked out: one rule an operation, for the tactic push_cast. -/
import Derived.Test.YtogofkjpbpgneaaGreatDoorFmCore0
import Derived.Laws.Strings
set_option linter.unusedSimpArgs false
set_option linter.unusedVariables false
namespace Go.SC
open Go
section
variable {α β:Type}
@[go_sem high] theorem length_nil':([]:List α).length=0:=(rfl)
@[go_sem high] theorem length_cons' (x:α) (l:List α):(x::l).length=l.length+1:=(rfl)
@[go_sem high] theorem get_zero' (x:α) (l:List α):(x::l)[0]? =some x:=(rfl)
@[go_sem high] theorem get_succ' (x:α) (l:List α) (n:Nat):(x::l)[n+1]? =l[n]? :=(rfl)
@[go_sem high] theorem take_zero' (l:List α):l.take 0=[]:=(rfl)
@[go_sem high] theorem take_succ' (x:α) (l:List α) (n:Nat):(x::l).take (n+1)=x::l.take n:=(rfl)
@[go_sem high] theorem drop_zero' (l:List α):l.drop 0=l:=(rfl)
@[go_sem high] theorem drop_succ' (x:α) (l:List α) (n:Nat):(x::l).drop (n+1)=l.drop n:=(rfl)
@[go_sem high] theorem map_nil' (f:α->β):[].map f=[]:=(rfl)
@[go_sem high] theorem map_cons' (f:α->β) (x:α) (l:List α):(x::l).map f=f x::l.map f:=(rfl)
@[go_sem high] theorem append_nil' (l:List α):l++[]=l:=by simp
@[go_sem high] theorem nil_append' (l:List α):[]++l=l:=(rfl)
@[go_sem high] theorem cons_append' (x:α) (l k:List α):(x::l)++k=x::(l++k):=(rfl)
@[go_sem high] theorem zero_add' (n:Nat):0+n=n:=by omega
@[go_sem high] theorem add_zero' (n:Nat):n+0=n:=by omega
end
@[go_sem ↓] theorem sput_some (s:List Value) (d:Nat) (v:Value):sput s (some d) v=sset s d v:=(rfl)
@[go_sem ↓] theorem sput_none (s:List Value) (v:Value):sput s none v=s:=(rfl)
@[go_sem ↓] theorem ev_tmp (s:List Value) (t:Nat):ev s (.tmp t)=sget s t:=(rfl)
@[go_sem ↓] theorem ev_int (s:List Value) (k:IntKind) (n:Int):ev s (.const (.int k n))= .int k n:=(rfl)
@[go_sem ↓] theorem ev_bool (s:List Value) (b:Bool):ev s (.const (.bool b))= .bool b:=(rfl)
@[go_sem ↓] theorem ev_str (s:List Value) (b:ByteArray):ev s (.const (.string b))= .string b:=(rfl)
@[go_sem ↓] theorem ev_nils (s:List Value):ev s (.const (.slice none 0 0))= .slice none 0 0:=(rfl)
@[go_sem ↓] theorem ev_nilp (s:List Value):ev s (.const (.pointer none))= .pointer none:=(rfl)
@[go_sem ↓] theorem ev_func (s:List Value) (f:FuncId):ev s (.func f)= .func (.func f) #[] #[]:=(rfl)
@[go_sem ↓] theorem odst_z (o:Oper) (l:List Oper):odst (o::l) 0=o.dst:=(rfl)
@[go_sem ↓] theorem odst_s (o:Oper) (l:List Oper) (n:Nat):odst (o::l) (n+1)=odst l n:=(rfl)
def Cnp(c:Prop)(A B:Prop):Prop:=(c->A)/\(¬c->B)
@[congr] theorem Cnp_congr{c A B A' B':Prop}(h1:c->A=A')(h2:¬c->B=B'):Cnp c A B=Cnp c A' B':=by
 unfold Cnp
 refine propext ⟨fun h=>⟨fun hc=>(h1 hc)▸h.1 hc,fun hc=>(h2 hc)▸h.2 hc⟩,fun h=>⟨fun hc=>(h1 hc).symm▸h.1 hc,fun hc=>(h2 hc).symm▸h.2 hc⟩⟩
def Asm(c:Prop):Prop:=c
theorem vK{c:Prop}(h:c):Asm c:=h
@[push_cast] theorem Cnp_True'(A B:Prop):Cnp True A B=A:=by simp[Cnp]
@[push_cast] theorem Cnp_False'(A B:Prop):Cnp False A B=B:=by simp[Cnp]
@[go_sem ↓] theorem Cnd_true (A B:Prop):Cnd true A B=A:=by simp[Cnd]
@[go_sem ↓] theorem Cnd_false (A B:Prop):Cnd false A B=B:=by simp[Cnd]
def CnpU(c:Prop)(A B:Prop):Prop:=Cnp c A B
@[congr] theorem CnpU_congr{c c':Prop}(h:c=c')(A B:Prop):CnpU c A B=CnpU c' A B:=by rw[h]
@[go_sem high] theorem CnpU_True (A B:Prop):CnpU True A B=A:=by simp[CnpU,Cnp]
@[go_sem high] theorem CnpU_False (A B:Prop):CnpU False A B=B:=by simp[CnpU,Cnp]
@[go_sem 790] theorem CnpU_not (c A B:Prop):CnpU (¬c) A B=Cnp c B A:=by
 by_cases h:c <;>simp[CnpU,Cnp,h]
def Kn(p:Prop):Prop:=p
@[go_sem ↓ high] theorem Kn_and (p q:Prop):Kn (p/\q)=(Kn p/\Kn q):=(rfl)
@[go_sem ↓ high] theorem Kn_or (p q:Prop):Kn (p\/q)=(Kn p\/Kn q):=(rfl)
@[go_sem ↓ high] theorem Kn_not (p:Prop):Kn (¬p)=¬Kn p:=(rfl)
@[go_sem 900] theorem Kn_posA {p:Prop} (h:Asm p):Kn p=True:=eq_true h
@[go_sem 880] theorem Kn_pos {p:Prop} (h:p):Kn p=True:=eq_true h
@[go_sem 870] theorem Kn_neg {p:Prop} (h:¬p):Kn p=False:=eq_false h
@[go_sem 860] theorem Kn_eq (p:Prop):Kn p=p:=(rfl)
def PB(b:Bool):Prop:=b=true
@[go_sem] theorem PB_true:PB true=True:=by simp[PB]
@[go_sem] theorem PB_false:PB false=False:=by simp[PB]
@[go_sem] theorem PB_not(b:Bool):PB (!b)=¬PB b:=by cases b <;>simp[PB]
@[go_sem] theorem PB_and(a b:Bool):PB (a&&b)=(PB a/\PB b):=by cases a <;>cases b <;>simp[PB]
@[go_sem] theorem PB_or(a b:Bool):PB (a||b)=(PB a\/PB b):=by cases a <;>cases b <;>simp[PB]
@[go_sem] theorem PB_beq_true(b:Bool):PB (b==true)=PB b:=by cases b <;>simp[PB]
@[go_sem] theorem PB_beq_false(b:Bool):PB (b==false)=¬PB b:=by cases b <;>simp[PB]
@[go_sem] theorem PB_dec(c:Prop)[Decidable c]:PB (decide c)=c:=by simp[PB]
@[go_sem 10] theorem PB_var (b:Bool):PB b=(b=true):=(rfl)
@[go_sem high] theorem eqT_not (b:Bool):PB (!b)=¬PB b:=PB_not b
def CnpR(c:Prop)(A B:Prop):Prop:=Cnp c A B
@[congr] theorem CnpR_congr{c c':Prop}(h:c=c')(A B:Prop):CnpR c A B=CnpR c' A B:=by rw[h]
@[go_sem 900] theorem CnpR_posA {c:Prop} (h:Asm c) (A B:Prop):CnpR c A B=A:=by
 have h:c:=h
 simp[CnpR,Cnp,h]
@[go_sem 890] theorem CnpR_negA {c:Prop} (h:Asm (¬c)) (A B:Prop):CnpR c A B=B:=by
 have h:¬c:=h
 simp[CnpR,Cnp,h]
@[go_sem high] theorem CnpR_True (A B:Prop):CnpR True A B=A:=by simp[CnpR,Cnp]
@[go_sem high] theorem CnpR_False (A B:Prop):CnpR False A B=B:=by simp[CnpR,Cnp]
@[go_sem low] theorem CnpR_eq (c A B:Prop):CnpR c A B=CnpU (Kn c) A B:=(rfl)
def Imp(p A:Prop):Prop:=p->A
@[congr] theorem Imp_congr{p A A':Prop}(h:p->A=A'):Imp p A=Imp p A':=propext ⟨fun k hp=>h hp▸k hp,fun k hp=>(h hp).symm▸k hp⟩
@[go_sem ↓ high] theorem Imp_and (p q A:Prop):Imp (p/\q) A=Imp p (Imp q A):=propext ⟨fun h a b=>h ⟨a,b⟩,fun h a=>h a.1 a.2⟩
@[go_sem ↓ high] theorem Imp_nor (p q A:Prop):Imp (¬(p\/q)) A=Imp (¬p) (Imp (¬q) A):=propext ⟨fun h a b=>h fun c=>c.elim a b,fun h a=>h (fun b=>a (.inl b)) fun b=>a (.inr b)⟩
@[go_sem ↓ high] theorem Imp_nn (p A:Prop):Imp (¬ ¬p) A=Imp p A:=by simp[Imp]
@[go_sem] theorem Imp_T(p:Prop):Imp p True=True:=by simp[Imp]
@[go_sem 800] theorem CnpU_nand (p q A B:Prop):CnpU (¬(p/\q)) A B=(Imp (¬(p/\q)) A/\Imp (p/\q) B):=by
 by_cases h:p/\q <;>simp[CnpU,Cnp,Imp,h]
@[go_sem low] theorem CnpU_and (p q A B:Prop):CnpU (p/\q) A B=(Imp (p/\q) A/\Imp (¬(p/\q)) B):=(rfl)
@[go_sem low] theorem CnpU_or (p q A B:Prop):CnpU (p\/q) A B=(Imp (p\/q) A/\Imp (¬(p\/q)) B):=(rfl)
@[go_sem 1] theorem CnpU_eq (c A B:Prop):CnpU c A B=Cnp c A B:=(rfl)
@[go_sem ↓ 10] theorem Cnd_PB (b:Bool) (A B:Prop):Cnd b A B=CnpR (PB b) A B:=by
 cases b <;>simp[Cnd,CnpR,Cnp,PB]
theorem Cnd.of{b:Bool}{A B:Prop}(h1:b=true->A)(h2:b=false->B):Cnd b A B:=⟨h1,h2⟩
theorem Cnp.of{c:Prop}{A B:Prop}(h1:c->A)(h2:¬c->B):Cnp c A B:=⟨h1,h2⟩
@[go_sem ↓] theorem Yld_some' {α:Type} (v:α) (K:α->Prop):Yld (some v) K=K v:=propext ⟨fun⟨_,h,k⟩=>by cases h;exact k,fun h=>⟨v,rfl,h⟩⟩
def idP(c:Prop):Prop:=c
@[go_sem] theorem idP_eq(c:Prop):idP c=c:=(rfl)
def YI{α:Type}(c:Prop)(x:Option α)(K:α->Prop):Prop:=c/\Yld x K
@[congr] theorem YI_congr{α:Type}{c c':Prop}(h:c=c')(x:Option α)(K:α->Prop):YI c x K=YI c' x K:=by rw[h]
@[go_sem] theorem YI_pos{α:Type}{c:Prop}(h:c)(x:Option α)(K:α->Prop):YI c x K=Yld x K:=by simp[YI,h]
@[go_sem low] theorem YI_eq {α:Type} (c:Prop) (x:Option α) (K:α->Prop):YI c x K=(c/\Yld x K):=(rfl)
@[go_sem ↓] theorem Yld_if {α:Type} {c:Prop} [Decidable c] (x:Option α) (K:α->Prop):Yld (if c then x else none) K=YI (idP c) x K:=by
 by_cases h:c <;>simp[h,Yld,YI,idP]
@[congr] theorem Yld_congr{α:Type}{a a':Option α}(h:a=a')(K:α->Prop):Yld a K=Yld a' K:=by rw[h]
def abool:Value->Option Bool
 | .bool b=>some b
 |_=>none
@[go_sem ↓] theorem abool_eq (b:Bool):abool (.bool b)=some b:=(rfl)
def aptr(v:Value)(K:Nat->Nat->Prop):Prop:=
 match v with
 | .pointer (some ⟨n,off,none⟩)=>K n off
 |_=>False
@[go_sem ↓] theorem aptr_eq (n off:Nat) (K:Nat->Nat->Prop):aptr (.pointer (some ⟨n,off,none⟩)) K=K n off:=(rfl)
@[congr] theorem aptr_congr{v v':Value}(h:v=v')(K:Nat->Nat->Prop):aptr v K=aptr v' K:=by rw[h]
def LST(k:Nat)(rows:List (List Value)):Value:= .func (.yield k) #[] (rows.map fun r=>Value.agg r.toArray).toArray
def VP(cells:List Value):Value:= .func (.method "") #[] cells.toArray
def aloadV(P:Program)(t:TypeId)(H:AH)(v:Value):Option Value:=
 match v with
 | .pointer (some ⟨n,off,none⟩)=>(H n).bind fun b=>vX P t b off
 | .func (.method _) _ cs=>vX P t ⟨cs.toList,false⟩ 0
 |_=>none
@[go_sem ↓] theorem aloadV_ptr (P:Program) (t:TypeId) (H:AH) (n off:Nat):aloadV P t H (.pointer (some ⟨n,off,none⟩))=(H n).bind fun b=>vX P t b off:=(rfl)
@[go_sem ↓] theorem aloadV_vp (P:Program) (t:TypeId) (H:AH) (cs:List Value):aloadV P t H (VP cs)=vX P t ⟨cs,false⟩ 0:=by simp[aloadV,VP]
def afun(v:Value)(K:FuncId->List Value->Prop):Prop:=
 match v with
 | .func (.func g) first caps=>first= #[]/\K g caps.toList
 |_=>False
@[go_sem ↓] theorem afun_eq (g:FuncId) (caps:Array Value) (K:FuncId->List Value->Prop):afun (.func (.func g) #[] caps) K=K g caps.toList:=by simp[afun]
@[congr] theorem afun_congr{v v':Value}(h:v=v')(K:FuncId->List Value->Prop):afun v K=afun v' K:=by rw[h]
def idS(s:List Value):List Value:=s
@[push_cast] theorem idS_eq(s:List Value):idS s=s:=(rfl)
section
variable {P:Program} (E:Env P) (N0:Nat) (Q:yY) (s:List Value) (H:AH) (Bd:Nat)
@[congr] theorem Tr_congr{s s':List Value}(h:s=s')(c:Code):Tr P N0 c Q s H Bd=Tr P N0 c Q s' H Bd:=by rw[h]
@[go_sem ↓] theorem thenQ_normal' (n:List Value->AH->Nat->Prop):thenQ n Q .normal=n:=(rfl)
@[go_sem ↓] theorem thenQ_ret' (n:List Value->AH->Nat->Prop):thenQ n Q .ret=Q .ret:=(rfl)
@[go_sem ↓] theorem thenQ_exit' (n:List Value->AH->Nat->Prop) (i:Nat):thenQ n Q (.exit i)=Q (.exit i):=(rfl)
@[go_sem ↓] theorem inBlockQ_normal' (id:Nat):inBlockQ id Q .normal=Q .normal:=(rfl)
@[go_sem ↓] theorem inBlockQ_ret' (id:Nat):inBlockQ id Q .ret=Q .ret:=(rfl)
@[go_sem ↓] theorem inBlockQ_exit' (id i:Nat):inBlockQ id Q (.exit i)=if i=id then Q .normal else Q (.exit i):=(rfl)
@[go_sem ↓] theorem pureQ_ret (rs:List ResultVar) (H0:AH) (r0:Value):pureQ P rs H0 r0 .ret=PureQ P rs H0 r0:=(rfl)
@[go_sem ↓] theorem PureQ_eq (rs:List ResultVar) (H0:AH) (r0:Value):PureQ P rs H0 r0 s H Bd=Yld (yG P rs s H) fun vs=>Le H0 H/\Pub H (free H0) (vA vs) r0:=(rfl)
@[push_cast] theorem aresults_nil:yG P [] s H=some []:=(rfl)
@[push_cast] theorem aresults_tmp(t:Nat)(rs:List ResultVar):yG P (.tmp t::rs) s H=(yG P rs s H).map (sget s t:: ·):=by
 simp only[yG,aresult]
 cases yG P rs s H <;>rfl
@[push_cast] theorem tupleOf_one(v:Value):vA [v]=v:=(rfl)
@[push_cast] theorem tupleOf_two(v w:Value)(l:List Value):vA (v::w::l)= .tuple (v::w::l).toArray:=(rfl)
@[push_cast] theorem omap_some{α β:Type}(f:α->β)(x:α):Option.map f (some x)=some (f x):=(rfl)
variable (ops rest:List Oper) (K:List Value->AH->Nat->Prop)
@[go_sem ↓] theorem vops_nil:vops E ops [] s H Bd K=K s H Bd:=(rfl)
@[push_cast] theorem vops_cons(d:Option Nat)(op:Op)(ty:TypeId)(p:String)(af:Array Edge):vops E ops (⟨d,op,ty,p,af,none⟩::rest) s H Bd K=
  jW E ⟨d,op,ty,p,af,none⟩ s H Bd fun v H Bd=>vops E ops rest (sput s d v) H Bd K:=(rfl)
def guardK(g:Option Value)(want:Bool)(A B:Prop):Prop:=
 match g with
 |some (.bool b)=>Cnd (b==want) A B
 |some (.tuple _)=>B
 |_=>False
@[go_sem ↓] theorem guardK_bool (b want:Bool) (A B:Prop):guardK (some (.bool b)) want A B=Cnd (b==want) A B:=(rfl)
@[congr] theorem guardK_congr{g g':Option Value}(h:g=g')(want:Bool)(A B:Prop):guardK g want A B=guardK g' want A B:=by rw[h]
@[congr] theorem vops_congr{s s':List Value}{H H':AH}{Bd Bd':Nat}(h:s=s')(hH:H=H')(hB:Bd=Bd'):vops E ops rest s H Bd K=vops E ops rest s' H' Bd' K:=by rw[h,hH,hB]
def agardOf(d:Option Nat)(s:List Value):Option Value:=d.map (sget s)
@[go_sem ↓] theorem agard_eq (j:Nat):agard ops s j=agardOf (odst ops j) s:=by
 unfold agard agardOf;cases odst ops j <;>rfl
@[go_sem ↓] theorem agardOf_some (d:Nat):agardOf (some d) s=some (sget s d):=(rfl)
end
def callS{P:Program}(E:Env P)(g:FuncId)(args:List Value)(H:AH)(Bd:Nat)(K:Value->AH->Nat->Prop):Prop:=E.S g args H Bd K
@[congr] theorem callS_congr{P:Program}(E:Env P)(g:FuncId){args args':List Value}{H H':AH}{Bd Bd':Nat}(h:args=args')(hH:H=H')(hB:Bd=Bd')(K:Value->AH->Nat->Prop):callS E g args H Bd K=callS E g args' H' Bd' K:=by rw[h,hH,hB]
def qQ(W:qH)(args:List Value)(H:AH)(Bd:Nat)(K:Value->AH->Nat->Prop):Prop:=W args H Bd K
@[congr] theorem callW_congr(W:qH){args args':List Value}{H H':AH}{Bd Bd':Nat}(h:args=args')(hH:H=H')(hB:Bd=Bd')(K:Value->AH->Nat->Prop):qQ W args H Bd K=qQ W args' H' Bd' K:=by rw[h,hH,hB]
@[push_cast] theorem callW_eq(W:qH)(args:List Value)(H:AH)(Bd:Nat)(K:Value->AH->Nat->Prop):qQ W args H Bd K=W args H Bd K:=(rfl)
def MkMap(s:List Value)(H:AH)(Bd:Nat)(K:Value->AH->Nat->Prop):Prop:=∃rows:Array Value,K (.func (.methodOf 0 "") #[] rows) H Bd
@[congr] theorem MkMap_congr{s s':List Value}(h:s=s')(H:AH)(Bd:Nat)(K:Value->AH->Nat->Prop):MkMap s H Bd K=MkMap s' H Bd K:=by rw[h]
theorem MkMap.use{s:List Value}{H:AH}{Bd:Nat}{K:Value->AH->Nat->Prop}(rows:Array Value)(h:K (.func (.methodOf 0 "") #[] rows) H Bd):MkMap s H Bd K:=⟨rows,h⟩
section
variable {P:Program} (E:Env P) (s:List Value) (H:AH) (Bd:Nat) (K:Value->AH->Nat->Prop) (d:Option Nat) (ty:TypeId) (p:String) (af:Array Edge) (g:Option (Nat×Bool))
@[go_sem ↓] theorem astep_load (t:TypeId) (x:Operand):jW E ⟨d, .load t x,ty,p,af,g⟩ s H Bd K=Yld (aloadV P t H (ev s x)) fun v=>K v H Bd:=by
 simp only[jW,aloadV]
 split
 ·rename_i n off hx
  cases hH:H n <;>simp[Yld,hH,hx]
 ·rename_i hx
  simp only[hx]
 ·rename_i h1 h2
  split
  ·rename_i n off hx;exact absurd hx (h1 _ _)
  ·rename_i hx;exact absurd hx (h2 _ _ _)
  ·simp[Yld]
def astoreK(P:Program)(t:TypeId)(H:AH)(n off:Nat)(vs:List Value)(K:AH->Prop):Prop:=
 Yld (H n) fun b=>(b.own=true/\ask P (sizeOf t)=some vs.length/\vs.all kP=true/\off+vs.length<=b.cells.length)/\K (upd H n (some ⟨lset b.cells off vs,true⟩))
@[go_sem ↓] theorem astep_store (t:TypeId) (x y:Operand):jW E ⟨d, .store t x y,ty,p,af,g⟩ s H Bd K=aptr (ev s x) fun n off=>astoreK P t H n off (cellsL (ev s y)) fun H=>K undef H Bd:=by
 simp only[jW,aptr,astoreK];rfl
@[go_sem ↓] theorem astep_alloc (t:TypeId):jW E ⟨d, .alloc t,ty,p,af,g⟩ s H Bd K=Yld (ask P (zeroValue t)) fun z=>(cellsL z).all yI=true/\K (.pointer (some ⟨Bd,0,none⟩)) (upd H Bd (some ⟨cellsL z,true⟩)) (Bd+1):=(rfl)
@[go_sem ↓] theorem astep_box (t:TypeId) (x:Operand):jW E ⟨d, .box t x,ty,p,af,g⟩ s H Bd K=(isUnk (ev s x)=false/\K (.pointer (some ⟨Bd,0,none⟩)) (upd H Bd (some ⟨cellsL (ev s x),true⟩)) (Bd+1)):=(rfl)
@[go_sem ↓] theorem astep_buildSlice (t:TypeId) (len:Nat) (parts:Array (Nat×Operand)):jW E ⟨d, .buildSlice t len parts,ty,p,af,g⟩ s H Bd K=
  Yld (kU P t len (parts.toList.map fun x=>(x.1,ev s x.2))) fun r=>K (.slice (some ⟨Bd,0,some r.1⟩) len (len+1)) (upd H Bd (some ⟨r.2,true⟩)) (Bd+1):=(rfl)
@[go_sem ↓] theorem astep_makeSlice (t:TypeId) (l c:Operand):jW E ⟨d, .makeSlice t l c,ty,p,af,g⟩ s H Bd K=
  Yld (amake P t (ev s l) (ev s c)) fun r=>K (.slice (some ⟨Bd,0,some r.1⟩) r.2.2.1 (r.2.2.2+1)) (upd H Bd (some ⟨r.2.1,true⟩)) (Bd+1):=(rfl)
@[go_sem ↓] theorem astep_makeMap (t:TypeId):jW E ⟨d, .makeMap t none,ty,p,af,g⟩ s H Bd K=MkMap (idS []) H Bd K:=(rfl)
@[go_sem ↓] theorem astep_lookup (t:TypeId) (x i:Operand):jW E ⟨d, .lookup t x i true,ty,p,af,g⟩ s H Bd K=Yld (alookup P t (ev s x) (ev s i)) fun b=>K (.tuple [.bool b, .bool true].toArray) H Bd/\K (.tuple [.bool false, .bool false].toArray) H Bd:=(rfl)
@[go_sem ↓] theorem astep_mapUpdate (t:TypeId) (x k v:Operand):jW E ⟨d, .mapUpdate t x k v,ty,p,af,g⟩ s H Bd K=(amapset P t (ev s x) (ev s k) (ev s v)=true/\K undef H Bd):=(rfl)
@[go_sem ↓] theorem astep_call (f:Operand) (args:Array Operand) (ts:Array TypeId):jW E ⟨d, .call ⟨.value f,args,ts⟩,ty,p,af,g⟩ s H Bd K=
  afun (ev s f) fun g caps=>callS E g (args.toList.map (ev s)++caps) H Bd K:=by
 simp only[jW,afun,callS];rfl
@[go_sem ↓] theorem astep_clear (x:Operand) (ts:Array TypeId):jW E ⟨d, .call ⟨.builtin .clear,#[x],ts⟩,ty,p,af,g⟩ s H Bd K=
  Yld (aclear P H ts.toList (ev s x)) fun H'=>K (.tuple #[]) H' Bd:=(rfl)
@[go_sem ↓] theorem astep_append (x y:Operand) (ts:Array TypeId):jW E ⟨d, .call ⟨.builtin .append,#[x,y],ts⟩,ty,p,af,g⟩ s H Bd K=
  Yld (aappend P H ts.toList (ev s x) (ev s y)) fun r=>r.need<=1073741824/\K (zB r Bd) (yK H r Bd) (Bd+1):=(rfl)
@[go_sem ↓] theorem astep_move (x:Operand):jW E ⟨d, .move x,ty,p,af,g⟩ s H Bd K=K (ev s x) H Bd:=by simp[jW,aval,Yld]
@[go_sem ↓] theorem astep_assign (x:Operand):jW E ⟨d, .assign x,ty,p,af,g⟩ s H Bd K=K (ev s x) H Bd:=by simp[jW,aval,Yld]
@[go_sem ↓] theorem astep_binOp (op:BinOp) (t1 t2:TypeId) (x y:Operand):jW E ⟨d, .binOp op t1 x y t2,ty,p,af,g⟩ s H Bd K=Yld (kO P op t1 (ev s x) (ev s y)) fun v=>K v H Bd:=(rfl)
def aunop(op:UnOp)(x:Value):Option Value:=
 match op,x with
 | .not, .bool b=>some (.bool !b)
 | .neg, .int k n=>chk k (0-n)
 |_,_=>none
@[push_cast] theorem aunop_not(b:Bool):aunop .not (.bool b)=some (.bool !b):=(rfl)
@[go_sem ↓] theorem astep_unOp (op:UnOp) (t:TypeId) (x:Operand):jW E ⟨d, .unOp op t x,ty,p,af,g⟩ s H Bd K=Yld (aunop op (ev s x)) fun v=>K v H Bd:=(rfl)
def aconv(P:Program)(H:AH)(src dst:TypeId)(x:Value):Option Value:=
 match x with
 | .slice .. =>astring P H src dst x
 | .func (.yield _) _ _=>astring P H src dst x
 | .int _ n=>match ask P (underlying src),ask P (underlying dst)with
   |some _,some (.int k)=>chk k n
   |_,_=>none
 | .string b=>match ask P (underlying src),ask P (underlying dst)with
   |some _,some .string=>some (.string b)
   |_,_=>none
 |_=>none
@[go_sem ↓] theorem astep_convert (t u:TypeId) (x:Operand):jW E ⟨d, .convert t u x,ty,p,af,g⟩ s H Bd K=Yld (aconv P H t u (ev s x)) fun v=>K v H Bd:=by
 simp only[jW,aval,aconv]
 cases ev s x with
 |func f a b=>cases f <;>simp[isSl]
 |_=>simp[isSl] <;>exact Iff.rfl
def afld(P:Program)(t:TypeId)(x:Value)(f:Nat):Option Value:=
 match ask P (underlying t),x with
  |some (.struct fs), .agg cs=>match fs[f]? with
   |some fd=>apartV P fd.type cs fd.offset
   |none=>none
  |_,_=>none
def vD(P:Program)(t:TypeId)(x:Value)(f:Nat):Option Value:=
 match ask P (underlying t),x with
  |some (.struct fs), .pointer (some ⟨n,off,none⟩)=>match fs[f]? with
   |some fd=>match ask P (sizeOf fd.type)with
    |some k=>if k≠0 then some (.pointer (some ⟨n,off+fd.offset,none⟩))else none
    |none=>none
   |none=>none
  |some (.struct fs), .func (.method _) _ cs=>match fs[f]? with
   |some fd=>match ask P (sizeOf fd.type)with
    |some k=>if k≠0/\fd.offset<=cs.size then some (.func (.method "") #[] (cs.extract fd.offset cs.size))else none
    |none=>none
   |none=>none
  |_,_=>none
def aidxAddr(P:Program)(t:TypeId)(x i:Value):Option Value:=
 match ask P (underlying t),x,aint? i with
  |some (.slice e), .slice (some ⟨n,off,some k⟩) len _,some i=>match ask P (sizeOf e)with
   |some k'=>if k'=k/\0<=i/\i<len then some (.pointer (some ⟨n,off+i.toNat*k,none⟩))else none
   |none=>none
  |some (.slice e), .func (.yield k) _ rows,some i=>match ask P (sizeOf e)with
   |some k'=>if k'=k/\0<=i then match rows[i.toNat]? with
    |some (.agg r)=>some (.func (.method "") #[] r)
    |_=>none
    else none
   |none=>none
  |some (.array len e), .pointer (some ⟨n,off,none⟩),some i=>match ask P (sizeOf e)with
   |some k=>if 0<=i/\i<len then some (.pointer (some ⟨n,off+i.toNat*k,none⟩))else none
   |none=>none
  |_,_,_=>none
def aidx(P:Program)(t:TypeId)(x i:Value):Option Value:=
 match ask P (underlying t),x,aint? i with
  |some .string, .string b,some i=>if 0<=i/\i<b.size then some (.int .u8 (byteAt b i.toNat))else none
  |some (.array len e), .agg cs,some i=>match ask P (sizeOf e)with
   |some k=>if 0<=i/\i<len then apartV P e cs (i.toNat*k)else none
   |none=>none
  |_,_,_=>none
def anilck(x:Value):Option Value:=
 match x with
 | .pointer (some a)=>some (.pointer (some a))
 | .func (.method m) fs cs=>some (.func (.method m) fs cs)
 |_=>none
@[push_cast] theorem anilck_eq(a:Addr):anilck (.pointer (some a))=some (.pointer (some a)):=(rfl)
def aextract(x:Value)(i:Nat):Option Value:=
 match x with
 | .tuple vs=>vs[i]?
 |_=>none
@[push_cast] theorem aextract_eq(l:List Value)(i:Nat):aextract (.tuple l.toArray) i=l[i]? :=by simp[aextract]
@[go_sem ↓] theorem astep_field (t:TypeId) (x:Operand) (f:Nat):jW E ⟨d, .field t x f,ty,p,af,g⟩ s H Bd K=Yld (afld P t (ev s x) f) fun v=>K v H Bd:=(rfl)
@[go_sem ↓] theorem astep_fieldAddr (t:TypeId) (x:Operand) (f:Nat):jW E ⟨d, .fieldAddr t x f,ty,p,af,g⟩ s H Bd K=Yld (vD P t (ev s x) f) fun v=>K v H Bd:=(rfl)
@[go_sem ↓] theorem astep_index (t:TypeId) (x i:Operand):jW E ⟨d, .index t x i,ty,p,af,g⟩ s H Bd K=Yld (aidx P t (ev s x) (ev s i)) fun v=>K v H Bd:=(rfl)
@[go_sem ↓] theorem astep_indexAddr (t:TypeId) (x i:Operand):jW E ⟨d, .indexAddr t x i,ty,p,af,g⟩ s H Bd K=Yld (aidxAddr P t (ev s x) (ev s i)) fun v=>K v H Bd:=(rfl)
@[go_sem ↓] theorem astep_nilCheck (x:Operand):jW E ⟨d, .nilCheck x,ty,p,af,g⟩ s H Bd K=Yld (anilck (ev s x)) fun v=>K v H Bd:=(rfl)
@[go_sem ↓] theorem astep_extract (x:Operand) (i:Nat):jW E ⟨d, .extract x i,ty,p,af,g⟩ s H Bd K=Yld (aextract (ev s x) i) fun v=>K v H Bd:=(rfl)
@[go_sem ↓] theorem astep_makeFunc (f:FuncId) (caps:Array Operand):jW E ⟨d, .makeFunc (.func f) #[] caps,ty,p,af,g⟩ s H Bd K=K (.func (.func f) #[] (caps.toList.map (ev s)).toArray) H Bd:=by
 simp[jW,aval,Yld]
@[go_sem ↓] theorem astep_build (t:TypeId) (parts:Array (Nat×Operand)):jW E ⟨d, .build t parts,ty,p,af,g⟩ s H Bd K=Yld (abuild P t (parts.toList.map fun x=>(x.1,ev s x.2))) fun v=>K v H Bd:=(rfl)
@[go_sem ↓] theorem astep_slice (t:TypeId) (x:Operand) (lo hi mx:Option Operand):jW E ⟨d, .slice t x lo hi mx,ty,p,af,g⟩ s H Bd K=Yld (aslice P s t (ev s x) lo hi mx) fun v=>K v H Bd:=(rfl)
@[go_sem ↓] theorem astep_len (x:Operand) (t:TypeId):jW E ⟨d, .call ⟨.builtin .len,#[x],#[t]⟩,ty,p,af,g⟩ s H Bd K=Yld (alen P t (ev s x)) fun v=>K v H Bd:=(rfl)
end
section
variable {P:Program}
theorem qC{α:Type}{s:Sem α}{x:α}(h:∀w,s.run P w= .ok x w):ask P s=some x:=by simp[ask,h]
theorem yE{t:TypeId}{d:TypeDesc}(h:P.underlying t=some d):ask P (underlying t)=some d:=qC (fun w=>by
 unfold underlying;simp only[xW,run_program,xV,h];rfl)
theorem aload_cell{t:TypeId}(h:ask P (isAgg t)=some false)(b:Blk)(off:Nat):vX P t b off=b.cells[off]? :=by simp[vX,h]
theorem aload_agg{t:TypeId}{k:Nat}(h:ask P (isAgg t)=some true)(hk:ask P (sizeOf t)=some k)(b:Blk)(off:Nat):
  vX P t b off=if 0<k/\off+k<=b.cells.length then some (.agg ((b.cells.drop off).take k).toArray)else none:=by simp[vX,h,hk]
theorem alen_slice{t e:TypeId}(h:ask P (underlying t)=some (.slice e))(A:Option Addr)(n c:Nat):alen P t (.slice A n c)=some (.int .i64 n):=by simp[alen,h]
theorem alen_lst{t e:TypeId}(h:ask P (underlying t)=some (.slice e))(k:Nat)(rows:List (List Value)):alen P t (LST k rows)=some (.int .i64 rows.length):=by simp[alen,h,LST]
theorem aidxAddr_lst{t e:TypeId}{k:Nat}(h:ask P (underlying t)=some (.slice e))(hk:ask P (sizeOf e)=some k)(rows:List (List Value))(q:IntKind)(i:Int):
  aidxAddr P t (LST k rows) (.int q i)=if 0<=i then(rows[i.toNat]?).map VP else none:=by
 simp only[aidxAddr,h,hk,aint?,LST,true_and,wJ,wN]
 by_cases h0:0<=i
 ·rw[if_pos h0,if_pos h0]
  cases rows[i.toNat]? <;>rfl
 ·rw[if_neg h0,if_neg h0]
theorem afldAddr_vp{t u:TypeId}{fs:Array Field}{f k o:Nat}(h:ask P (underlying t)=some (.struct fs))(hf:(fs[f]?).map (fun x=>(x.type,x.offset))=some (u,o))(hk:ask P (sizeOf u)=some k)(h0:k≠0)(cs:List Value):
  vD P t (VP cs) f=if o<=cs.length then some (VP (cs.drop o))else none:=by
 cases hx:fs[f]? with
 |none=>rw[hx]at hf;cases hf
 |some fd=>
  rw[hx]at hf
  simp only[wK,xE,Prod.mk.injEq]at hf
  obtain⟨rfl,rfl⟩:=hf
  simp[vD,h,hx,hk,h0,VP,List.extract_eq_take_drop]
  congr 2
  rw[xO (by simp)]
theorem alen_string{t:TypeId}(h:ask P (underlying t)=some .string)(b:ByteArray):alen P t (.string b)=some (.int .i64 b.size):=by simp[alen,h]
theorem aidxAddr_slice{t e:TypeId}{k:Nat}(h:ask P (underlying t)=some (.slice e))(hk:ask P (sizeOf e)=some k)(n off len c:Nat)(q:IntKind)(i:Int):
  aidxAddr P t (.slice (some ⟨n,off,some k⟩) len c) (.int q i)=if 0<=i/\i<len then some (.pointer (some ⟨n,off+i.toNat*k,none⟩))else none:=by simp[aidxAddr,h,hk,aint?]
theorem aidx_string{t:TypeId}(h:ask P (underlying t)=some .string)(b:ByteArray)(q:IntKind)(i:Int):
  aidx P t (.string b) (.int q i)=if 0<=i/\i<b.size then some (.int .u8 (byteAt b i.toNat))else none:=by simp[aidx,h,aint?]
theorem afldAddr_at{t u:TypeId}{fs:Array Field}{f k o:Nat}(h:ask P (underlying t)=some (.struct fs))(hf:(fs[f]?).map (fun x=>(x.type,x.offset))=some (u,o))(hk:ask P (sizeOf u)=some k)(h0:k≠0)(n off:Nat):
  vD P t (.pointer (some ⟨n,off,none⟩)) f=some (.pointer (some ⟨n,off+o,none⟩)):=by
 cases hx:fs[f]? with
 |none=>rw[hx]at hf;cases hf
 |some fd=>
  rw[hx]at hf
  simp only[wK,xE,Prod.mk.injEq]at hf
  obtain⟨rfl,rfl⟩:=hf
  simp[vD,h,hx,hk,h0]
theorem afld_cell{t u:TypeId}{fs:Array Field}{f o:Nat}(h:ask P (underlying t)=some (.struct fs))(hf:(fs[f]?).map (fun x=>(x.type,x.offset))=some (u,o))(ha:ask P (isAgg u)=some false)(l:List Value):
  afld P t (.agg l.toArray) f=l[o]? :=by
 cases hx:fs[f]? with
 |none=>rw[hx]at hf;cases hf
 |some fd=>
  rw[hx]at hf
  simp only[wK,xE,Prod.mk.injEq]at hf
  obtain⟨rfl,rfl⟩:=hf
  simp[afld,h,hx,apartV,ha]
theorem qF{f:Field}{fs:List Field}{n:Nat}{r:List (Nat×Nat)}(h1:ask P (sizeOf f.type)=some n)(h2:placesOf P fs=some r):placesOf P (f::fs)=some ((f.offset,n)::r):=by
 simp[placesOf,h1,h2]
theorem qP{t:TypeId}{fs:Array Field}{z:List Value}{ps:List (Nat×Nat)}(hz:ask P (zeroValue t)=some (.agg z.toArray))(h:ask P (underlying t)=some (.struct fs))(hp:placesOf P fs.toList=some ps)
  (hpl:z.all yI=true) (parts:List (Nat×Value)):abuild P t parts=(lfill (ps[·]?) z parts).map fun l=> .agg l.toArray:=by
 simp[abuild,hz,h,hp,plainU_all hpl]
theorem abuild_structU{t:TypeId}{fs:Array Field}{z:List Value}{ps:List (Nat×Nat)}(hz:ask P (zeroValue t)=some (.agg z.toArray))(h:ask P (underlying t)=some (.struct fs))(hp:placesOf P fs.toList=some ps)
  (parts:List (Nat×Value)):abuild P t parts=(lfill (ps[·]?) (z.map plainU) parts).map fun l=> .agg l.toArray:=by
 simp[abuild,hz,h,hp]
theorem abuildSlice_eq{t e:TypeId}{k:Nat}{z:Value}(h:ask P (underlying t)=some (.slice e))(hk:ask P (sizeOf e)=some k)(hz:ask P (zeroValue e)=some z)(len:Nat)(parts:List (Nat×Value)):
  kU P t len parts=if len*k<=16777216/\parts.length=len then(adense k 0 parts).map fun L=>(k,L)else none:=by
 simp[kU,h,hk,hz]
theorem undFits_slice{t e:TypeId}(h:P.underlying t=some (.slice e))(A:Option Addr)(n c:Nat):undFits P t (.slice A n c)=true:=by simp[undFits,undNilS,h]
theorem undString_eq{t:TypeId}(h:P.underlying t=some .string):undString P t=true:=by simp[undString,h]
theorem undBytes_eq{t e:TypeId}(h:P.underlying t=some (.slice e))(he:P.underlying e=some (.int .u8)):undBytes P t=true:=by simp[undBytes,h,he]
theorem aconv_int{t u:TypeId}{d:TypeDesc}{k:IntKind}(h:ask P (underlying t)=some d)(h':ask P (underlying u)=some (.int k))(H:AH)(q:IntKind)(n:Int):aconv P H t u (.int q n)=chk k n:=by simp[aconv,h,h']
theorem undFits_lst{t e:TypeId}(h:P.underlying t=some (.slice e))(k:Nat)(rows:List (List Value)):undFits P t (LST k rows)=true:=by simp[undFits,undNilS,h,LST]
end
section
variable {P:Program}
@[push_cast] theorem cellsL_agg(l:List Value):cellsL (.agg l.toArray)=l:=by simp[cellsL]
@[push_cast] theorem cellsL_int(k:IntKind)(n:Int):cellsL (.int k n)=[.int k n]:=(rfl)
@[push_cast] theorem cellsL_bool(b:Bool):cellsL (.bool b)=[.bool b]:=(rfl)
@[push_cast] theorem cellsL_string(b:ByteArray):cellsL (.string b)=[.string b]:=(rfl)
@[push_cast] theorem cellsL_slice(A:Option Addr)(n c:Nat):cellsL (.slice A n c)=[.slice A n c]:=(rfl)
@[push_cast] theorem cellsL_ptr(a:Option Addr):cellsL (.pointer a)=[.pointer a]:=(rfl)
@[push_cast] theorem cellsL_func(f:Fn)(a b:Array Value):cellsL (.func f a b)=[.func f a b]:=(rfl)
@[push_cast] theorem isUnk_agg(l:Array Value):isUnk (.agg l)=false:=(rfl)
@[push_cast] theorem isUnk_int(k:IntKind)(n:Int):isUnk (.int k n)=false:=(rfl)
@[push_cast] theorem isUnk_bool(b:Bool):isUnk (.bool b)=false:=(rfl)
@[push_cast] theorem isUnk_string(b:ByteArray):isUnk (.string b)=false:=(rfl)
@[push_cast] theorem isUnk_slice(A:Option Addr)(n c:Nat):isUnk (.slice A n c)=false:=(rfl)
@[push_cast] theorem isUnk_ptr(a:Option Addr):isUnk (.pointer a)=false:=(rfl)
@[push_cast] theorem isUnk_func(f:Fn)(a b:Array Value):isUnk (.func f a b)=false:=(rfl)
@[push_cast] theorem cellOK_int(k:IntKind)(n:Int):kP (.int k n)=true:=(rfl)
@[push_cast] theorem cellOK_bool(b:Bool):kP (.bool b)=true:=(rfl)
@[push_cast] theorem cellOK_string(b:ByteArray):kP (.string b)=true:=(rfl)
@[push_cast] theorem cellOK_slice(A:Option Addr)(n c:Nat):kP (.slice A n c)=true:=(rfl)
@[push_cast] theorem plainV_int(k:IntKind)(n:Int):yI (.int k n)=true:=(rfl)
@[push_cast] theorem plainV_bool(b:Bool):yI (.bool b)=true:=(rfl)
@[push_cast] theorem plainV_string(b:ByteArray):yI (.string b)=true:=(rfl)
@[push_cast] theorem plainV_nils:yI (.slice none 0 0)=true:=(rfl)
@[go_sem ↓] theorem abinX_add (t:TypeId) (k:IntKind) (a b:Int):kO P .add t (.int k a) (.int k b)=aint .add k a b:=by simp[kO,abin]
@[go_sem ↓] theorem abinX_sub (t:TypeId) (k:IntKind) (a b:Int):kO P .sub t (.int k a) (.int k b)=aint .sub k a b:=by simp[kO,abin]
@[go_sem ↓] theorem abinX_mul (t:TypeId) (k:IntKind) (a b:Int):kO P .mul t (.int k a) (.int k b)=aint .mul k a b:=by simp[kO,abin]
@[go_sem ↓] theorem abinX_quo (t:TypeId) (k:IntKind) (a b:Int):kO P .quo t (.int k a) (.int k b)=aint .quo k a b:=by simp[kO,abin]
@[go_sem ↓] theorem abinX_rem (t:TypeId) (k:IntKind) (a b:Int):kO P .rem t (.int k a) (.int k b)=aint .rem k a b:=by simp[kO,abin]
@[go_sem ↓] theorem abinX_eql (t:TypeId) (k:IntKind) (a b:Int):kO P .eql t (.int k a) (.int k b)=aint .eql k a b:=by simp[kO,abin]
@[go_sem ↓] theorem abinX_neq (t:TypeId) (k:IntKind) (a b:Int):kO P .neq t (.int k a) (.int k b)=aint .neq k a b:=by simp[kO,abin]
@[go_sem ↓] theorem abinX_lss (t:TypeId) (k:IntKind) (a b:Int):kO P .lss t (.int k a) (.int k b)=aint .lss k a b:=by simp[kO,abin]
@[go_sem ↓] theorem abinX_leq (t:TypeId) (k:IntKind) (a b:Int):kO P .leq t (.int k a) (.int k b)=aint .leq k a b:=by simp[kO,abin]
@[go_sem ↓] theorem abinX_gtr (t:TypeId) (k:IntKind) (a b:Int):kO P .gtr t (.int k a) (.int k b)=aint .gtr k a b:=by simp[kO,abin]
@[go_sem ↓] theorem abinX_geq (t:TypeId) (k:IntKind) (a b:Int):kO P .geq t (.int k a) (.int k b)=aint .geq k a b:=by simp[kO,abin]
@[go_sem ↓] theorem abinX_or (t:TypeId) (k:IntKind) (a b:Int):kO P .or t (.int k a) (.int k b)=aint .or k a b:=by simp[kO,abin]
@[push_cast] theorem abinX_shl(t:TypeId)(k q:IntKind)(a b:Int):kO P .shl t (.int k a) (.int q b)=ashift .shl k a b:=by simp[kO,abin]
@[push_cast] theorem abinX_shr(t:TypeId)(k q:IntKind)(a b:Int):kO P .shr t (.int k a) (.int q b)=ashift .shr k a b:=by simp[kO,abin]
theorem bytes_beq(a b:ByteArray):(a.toList==b.toList)=decide (a=b):=by
 by_cases h:a=b
 ·subst h;simp
 ·have:a.toList≠b.toList:=fun e=>h (by
   rw[ByteArray.toList_eq,ByteArray.toList_eq]at e
   exact ByteArray.ext (Array.toList_inj.1 e))
  simp[h,this]
@[push_cast] theorem astr_eql(a b:ByteArray):astr .eql a b=some (.bool (decide (a=b))):=by simp only[astr,bytes_beq]
@[push_cast] theorem astr_neq(a b:ByteArray):astr .neq a b=some (.bool (!decide (a=b))):=by simp only[astr,bytes_beq]
@[push_cast] theorem byte_eq(a b:UInt8):((a.toNat:Int)=(b.toNat:Int))=(a=b):=propext ⟨fun h=>UInt8.toNat_inj.1 (by omega),fun h=>by rw[h]⟩
@[push_cast] theorem abinX_str(op:BinOp)(t:TypeId)(a b:ByteArray):kO P op t (.string a) (.string b)=astr op a b:=by simp[kO,abin]
@[push_cast] theorem aint_add(k:IntKind)(a b:Int):aint .add k a b=chk k (a+b):=(rfl)
@[push_cast] theorem aint_sub(k:IntKind)(a b:Int):aint .sub k a b=chk k (a-b):=(rfl)
@[push_cast] theorem aint_mul(k:IntKind)(a b:Int):aint .mul k a b=chk k (a*b):=(rfl)
@[push_cast] theorem aint_quo(k:IntKind)(a b:Int):aint .quo k a b=if b≠0 then chk k (a.tdiv b)else none:=(rfl)
@[push_cast] theorem aint_rem(k:IntKind)(a b:Int):aint .rem k a b=if b≠0 then some (.int k (a.tmod b))else none:=(rfl)
@[push_cast] theorem aint_eql(k:IntKind)(a b:Int):aint .eql k a b=some (.bool (decide (a=b))):=(rfl)
@[push_cast] theorem aint_neq(k:IntKind)(a b:Int):aint .neq k a b=some (.bool (!decide (a=b))):=(rfl)
@[push_cast] theorem aint_lss(k:IntKind)(a b:Int):aint .lss k a b=some (.bool (decide (a<b))):=(rfl)
@[push_cast] theorem aint_leq(k:IntKind)(a b:Int):aint .leq k a b=some (.bool (decide (a<=b))):=(rfl)
@[push_cast] theorem aint_gtr(k:IntKind)(a b:Int):aint .gtr k a b=some (.bool (decide (b<a))):=(rfl)
@[push_cast] theorem aint_or(k:IntKind)(a b:Int):aint .or k a b=abits .or k a b:=(rfl)
@[push_cast] theorem aint_geq(k:IntKind)(a b:Int):aint .geq k a b=some (.bool (decide (b<=a))):=(rfl)
@[push_cast] theorem ashift_shl(k:IntKind)(a b:Int):ashift .shl k a b=if 0<=b then chk k (a*2^(min b.toNat k.bits))else none:=(rfl)
@[push_cast] theorem ashift_shr(k:IntKind)(a b:Int):ashift .shr k a b=if 0<=b then some (.int k (a.fdiv (2^(min b.toNat k.bits))))else none:=(rfl)
@[push_cast] theorem chk_64(x:Int):chk .i64 x=if -9223372036854775808<=x/\x<=9223372036854775807 then some (.int .i64 x)else none:=(rfl)
@[push_cast] theorem chk_u8(x:Int):chk .u8 x=some (.int .u8 (x%256)):=(rfl)
@[push_cast] theorem abinX_lsne(t:TypeId)(k:Nat)(rows:List (List Value)):kO P .neq t (LST k rows) (.slice none 0 0)=if undFits P t (LST k rows)=true then(if 0<rows.length then some (.bool true)else none)else none:=by
 simp only[kO,abin,LST,anil,List.size_toArray,List.length_map]
 by_cases h1:undFits P t (.func (.yield k) #[] (List.map (fun r=>Value.agg r.toArray) rows).toArray)=true <;>by_cases h2:0<rows.length <;>simp[h1,h2]
@[push_cast] theorem abinX_sne(t:TypeId)(A:Option Addr)(n c:Nat):kO P .neq t (.slice A n c) (.slice none 0 0)=if undFits P t (.slice A n c)=true then(anil (.slice A n c) (.slice none 0 0)).map fun b=>Value.bool (!b)else none:=by
 simp[kO,abin]
@[go_sem ↓] theorem callS_add (E:Env P) {f g:FuncId} (W:qH) (h:∀args H Bd K,W args H Bd K->SCalls P f args H Bd K) (args:List Value) (H:AH) (Bd:Nat) (K:Value->AH->Nat->Prop):
  callS (E.add f W h) g args H Bd K=if g=f then qQ W args H Bd K else callS E g args H Bd K:=by
 by_cases e:g=f
 ·subst e;simp[callS,qQ,Env.add]
 ·simp[callS,Env.add,e]
@[push_cast] theorem callS_base(g:FuncId)(args:List Value)(H:AH)(Bd:Nat)(K:Value->AH->Nat->Prop):callS (Env.base P) g args H Bd K=SCalls P g (idS args) H Bd K:=(rfl)
@[congr] theorem SCalls_congr{args args':List Value}(h:args=args')(f:FuncId)(H:AH)(Bd:Nat)(K:Value->AH->Nat->Prop):SCalls P f args H Bd K=SCalls P f args' H Bd K:=by rw[h]
@[go_sem ↓] theorem lfill_nil (place:Nat->Option (Nat×Nat)) (cells:List Value):lfill place cells []=some cells:=(rfl)
def lfill1(pl:Option (Nat×Nat))(v:Value)(cells:List Value)(K:List Value->Option (List Value)):Option (List Value):=
 match pl with
 |none=>none
 |some (off,size)=>if isUnk v=false/\(cellsL v).length=size/\off+size<=cells.length then K (cells.take off++cellsL v++cells.drop (off+size))else none
@[go_sem ↓] theorem lfill_cons (place:Nat->Option (Nat×Nat)) (cells:List Value) (i:Nat) (v:Value) (r:List (Nat×Value)):
  lfill place cells ((i,v)::r)=lfill1 (place i) v cells fun c=>lfill place c r:=(rfl)
@[go_sem ↓] theorem lfill1_some (off size:Nat) (v:Value) (cells:List Value) (K:List Value->Option (List Value)):
  lfill1 (some (off,size)) v cells K=if isUnk v=false/\(cellsL v).length=size/\off+size<=cells.length then K (cells.take off++cellsL v++cells.drop (off+size))else none:=(rfl)
@[push_cast] theorem adense_nil(k i:Nat):adense k i []=some []:=(rfl)
@[push_cast] theorem adense_cons(k i j:Nat)(v:Value)(r:List (Nat×Value)):adense k i ((j,v)::r)=if j=i/\isUnk v=false/\(cellsL v).length=k then(adense k (i+1) r).map (cellsL v++ ·)else none:=(rfl)
@[go_sem high] theorem upd_hit (H:AH) (n:Nat) (b:Option Blk):upd H n b n=b:=by simp[upd]
@[go_sem high] theorem upd_lit (H:AH) (B j k:Nat) (b:Option Blk):upd H (B+k) b (B+j)=if j=k then b else H (B+j):=by simp[upd]
@[go_sem high] theorem upd_lit0 (H:AH) (B k:Nat) (b:Option Blk):upd H (B+k) b B=if k=0 then b else H B:=by
 simp only[upd]
 by_cases h:k=0
 ·subst h;simp
 ·rw[if_neg h,if_neg (by omega)]
@[go_sem high] theorem upd_lit1 (H:AH) (B k:Nat) (b:Option Blk):upd H B b (B+k)=if k=0 then b else H (B+k):=by
 simp only[upd]
 by_cases h:k=0
 ·subst h;simp
 ·rw[if_neg h,if_neg (by omega)]
@[push_cast] theorem add_lits(B k:Nat):B+k+1=B+(k+1):=(rfl)
@[go_sem low] theorem upd_eq (H:AH) {n m:Nat} (b:Option Blk) (h:m=n):upd H n b m=b:=by simp[upd,h]
@[go_sem low] theorem upd_ne (H:AH) {n m:Nat} (b:Option Blk) (h:m≠n):upd H n b m=H m:=by simp[upd,h]
@[push_cast] theorem upd_twice(H:AH)(n:Nat)(b c:Option Blk):upd (upd H n b) n c=upd H n c:=upd_upd H n b c
@[push_cast] theorem lset_nil(cells:List Value)(off:Nat):lset cells off []=cells:=(rfl)
@[push_cast] theorem lset_cons(cells:List Value)(off:Nat)(v:Value)(r:List Value):lset cells off (v::r)=lset (cells.set off v) (off+1) r:=(rfl)
end
attribute [push_cast] List.map_cons List.map_nil List.cons_append List.nil_append wL List.take_succ_cons List.take_zero List.take_nil List.drop_succ_cons List.drop_zero List.drop_nil xJ xZ
 wD wM List.set_cons_zero List.set_cons_succ List.all_cons List.all_nil List.replicate_succ List.replicate_zero xE
end Go.SC
namespace Go.SC
open Go
class Enc (α:Type) where
 k:Nat
 e:α->List Value
 len:∀x,(e x).length=k
 pos:0<k
 nb:∀x Bd v,v∈e x->NB Bd v
 ok:∀x,(e x).all kP=true
 inj:∀x y,e x=e y->x=y
def enc{α:Type}[Enc α](x:α):List Value:=Enc.e x
theorem jN{α:Type}[Enc α](x:α):(enc x).length=Enc.k α:=Enc.len x
theorem enc_nb{α:Type}[Enc α](x:α)(Bd:Nat)(v:Value)(h:v∈enc x):NB Bd v:=Enc.nb x Bd v h
theorem enc_inj{α:Type}[Enc α]{x y:α}(h:enc x=enc y):x=y:=Enc.inj x y h
theorem enc_ok{α:Type}[Enc α](x:α):(enc x).all kP=true:=Enc.ok x
section
variable {α β:Type} [Enc α] [Enc β]
def lst(xs:List α):Value:=LST (Enc.k α) (xs.map enc)
def qO(xs:List α):List Value:=xs.flatMap enc
theorem lst_nb(Bd:Nat)(xs:List α):NB Bd (lst xs):=by
 refine .lst fun i j r v h1 h2=> ?_
 simp only[wJ,wN]at h1
 cases hx:xs[i]? with
 |none=>rw[hx]at h1;cases h1
 |some x=>
  rw[hx]at h1
  simp only[wK,xE,Value.agg.injEq]at h1
  subst h1
  exact enc_nb x Bd v (wC (by simpa using h2))
end
theorem lst_inj{α:Type}[Enc α]{xs ys:List α}:lst xs=lst ys↔xs=ys:=by
 refine⟨fun h=> ?_,fun h=>by rw[h]⟩
 unfold lst LST at h
 simp only[Value.func.injEq,true_and,List.map_map]at h
 have h2:xs.map (fun x=>Value.agg (enc x).toArray)=ys.map (fun x=>Value.agg (enc x).toArray):=List.toArray_inj h
 clear h
 induction xs generalizing ys with
 |nil=>cases ys with
  |nil=>rfl
  |cons=>simp at h2
 |cons x xs ih=>cases ys with
  |nil=>simp at h2
  |cons y ys=>
   simp only[List.map_cons,xG,Value.agg.injEq]at h2
   rw[enc_inj (List.toArray_inj h2.1),ih h2.2]
instance :Enc Int:=⟨1,fun n=>[.int .i64 n],fun _=>rfl,by decide,fun x Bd v h=>by simp at h;subst h;exact .int _ _,fun _=>rfl,fun x y h=>by simpa using h⟩
instance :Enc UInt8:=⟨1,fun n=>[.int .u8 (n.toNat:Int)],fun _=>rfl,by decide,fun x Bd v h=>by simp at h;subst h;exact .int _ _,fun _=>rfl,fun x y h=>UInt8.toNat_inj.1 (by simp only[xG,xK,true_and,and_true]at h;omega)⟩
instance :Enc Bool:=⟨1,fun n=>[.bool n],fun _=>rfl,by decide,fun x Bd v h=>by simp at h;subst h;exact .bool _,fun _=>rfl,fun x y h=>by simpa using h⟩
instance :Enc ByteArray:=⟨1,fun n=>[.string n],fun _=>rfl,by decide,fun x Bd v h=>by simp at h;subst h;exact .string _,fun _=>rfl,fun x y h=>by simpa using h⟩
section
variable {α β:Type} [Enc α] [Enc β]
instance :Enc (List α):=⟨1,fun xs=>[lst xs],fun _=>rfl,by decide,fun x Bd v h=>by simp at h;subst h;exact lst_nb _ _,fun _=>rfl,fun x y h=>lst_inj.1 (by simpa using h)⟩
instance :Enc (α×β):=⟨Enc.k α+Enc.k β,fun x=>enc x.1++enc x.2,fun x=>by simp[jN],by have:=Enc.pos (α:=α);omega,
 fun x Bd v h=>by
  rcases List.mem_append.1 h with h|h
  ·exact enc_nb _ _ _ h
  ·exact enc_nb _ _ _ h,fun x=>by simp[List.all_append,enc_ok],fun x y h=>by
  have h1:=List.append_inj h (by rw[jN,jN])
  exact Prod.ext (enc_inj h1.1) (enc_inj h1.2)⟩
@[reducible] def Enc.of{α β:Type}[Enc β](f:α->β)(hf:∀x y,f x=f y->x=y):Enc α:=⟨Enc.k β,fun x=>enc (f x),fun x=>jN _,Enc.pos,fun x=>enc_nb _,fun x=>enc_ok _,fun x y h=>hf x y (enc_inj h)⟩
@[push_cast] theorem k_int:Enc.k Int=1:=(rfl)
@[push_cast] theorem k_byte:Enc.k UInt8=1:=(rfl)
@[push_cast] theorem k_list:Enc.k (List α)=1:=(rfl)
@[push_cast] theorem jS(n:Int):enc n=[.int .i64 n]:=(rfl)
@[push_cast] theorem jB(n:UInt8):enc n=[.int .u8 (n.toNat:Int)]:=(rfl)
@[push_cast] theorem jK(n:Bool):enc n=[.bool n]:=(rfl)
@[push_cast] theorem jT(n:ByteArray):enc n=[.string n]:=(rfl)
@[push_cast] theorem jH(xs:List α):enc xs=[lst xs]:=(rfl)
@[push_cast] theorem cellsL_L(xs:List α):cellsL (lst xs)=[lst xs]:=(rfl)
@[push_cast] theorem isUnk_L(xs:List α):isUnk (lst xs)=false:=(rfl)
@[push_cast] theorem cellOK_L(xs:List α):kP (lst xs)=true:=(rfl)
theorem qZ:qO ([]:List α)=[]:=rfl
theorem jO(x:α)(xs:List α):qO (x::xs)=enc x++qO xs:=by simp[qO]
theorem qK(xs ys:List α):qO (xs++ys)=qO xs++qO ys:=by simp[qO]
theorem qT(x:α):qO [x]=enc x:=by simp[qO]
@[push_cast] theorem jJ(xs:List α):(qO xs).length=xs.length*Enc.k α:=by
 induction xs with
 |nil=>simp[qO]
 |cons x xs ih=>rw[jO,xD,ih,jN,xJ,Nat.succ_mul];omega
theorem flat_ok(xs:List α):(qO xs).all kP=true:=by
 induction xs with
 |nil=>rfl
 |cons x xs ih=>rw[jO,List.all_append,ih,enc_ok];rfl
theorem flat_take(xs:List α)(n:Nat):(qO xs).take (n*Enc.k α)=qO (xs.take n):=by
 induction xs generalizing n with
 |nil=>simp[qO]
 |cons x xs ih=>
  cases n with
  |zero=>simp[qO]
  |succ n=>
   rw[jO,List.take_succ_cons,jO,Nat.succ_mul,List.take_append,xO (by rw[jN];omega),jN,Nat.add_sub_cancel,ih]
theorem flat_drop(xs:List α)(n:Nat):(qO xs).drop (n*Enc.k α)=qO (xs.drop n):=by
 induction xs generalizing n with
 |nil=>simp[qO]
 |cons x xs ih=>
  cases n with
  |zero=>simp[qO]
  |succ n=>
   rw[jO,List.drop_succ_cons,Nat.succ_mul,List.drop_append,List.drop_eq_nil_of_le (by rw[jN];omega),jN,Nat.add_sub_cancel,ih,List.nil_append]
theorem flat_all(xs:List α):(qO xs).take (xs.length*Enc.k α)=qO xs:=by rw[flat_take,wH]
theorem flat_get(xs:List α)(i:Nat)(x:α)(h:xs[i]? =some x):((qO xs).drop (i*Enc.k α)).take (Enc.k α)=enc x:=by
 have hi:=(xR.1 h).1
 rw[flat_drop,wI hi,jO,(xR.1 h).2,List.take_append_of_le_length (by rw[jN];exact xC _),xO (by rw[jN];exact xC _)]
theorem acellsOf_lst(H:AH)(xs:List α):jZ H (Enc.k α) (lst xs)=some (xs.length,qO xs):=by
 simp only[jZ,lst,LST,if_true]
 congr 2
 ·simp
 ·induction xs with
  |nil=>rfl
  |cons x xs ih=>simp only[List.map_cons,List.flatMap_cons,jO,ih];rfl
end
class TyZ (P:Program) (t:TypeId) (k:outParam Nat) (a:outParam Bool) (z:outParam Value):Prop where
 hk:ask P (sizeOf t)=some k
 ha:ask P (isAgg t)=some a
 hz:ask P (zeroValue t)=some z
class TySl (P:Program) (t:TypeId) (e k:outParam Nat) (z:outParam (List Value)):Prop where
 u:P.underlying t=some (.slice e)
 hk:ask P (sizeOf e)=some k
 hz:∃z0,ask P (zeroValue e)=some z0/\cellsL z0=z
 zk:z.length=k
 zp:z.all yI=true
 lt:e<P.types.size
class TyI (P:Program) (t:TypeId) (k:outParam IntKind):Prop where
 u:P.underlying t=some (.int k)
class TyS (P:Program) (t:TypeId):Prop where
 u:P.underlying t=some .string
class TyBy (P:Program) (t:TypeId):Prop where
 u:∃e,P.underlying t=some (.slice e)/\P.underlying e=some (.int .u8)
class TyF (P:Program) (t f:Nat) (o k:outParam Nat) (a:outParam Bool):Prop where
 fs:∃(fs:Array Field) (u:TypeId),ask P (underlying t)=some (.struct fs)/\(fs[f]?).map (fun x=>(x.type,x.offset))=some (u,o)/\ask P (sizeOf u)=some k/\ask P (isAgg u)=some a
 h0:k≠0
class TyBd (P:Program) (t:TypeId) (ps:outParam (List (Nat×Nat))) (z:outParam (List Value)):Prop where
 h:∀parts,abuild P t parts=(lfill (ps[·]?) z parts).map fun l=> .agg l.toArray
class EncK (α:Type) [Enc α] (k:outParam Nat):Prop where
 h:Enc.k α=k
instance :EncK Int 1:=⟨rfl⟩
instance :EncK UInt8 1:=⟨rfl⟩
instance :EncK Bool 1:=⟨rfl⟩
instance {α:Type} [Enc α]:EncK (List α) 1:=⟨rfl⟩
section
variable {P:Program}
theorem TySl.h{t e k:Nat}{z:List Value}(h:TySl P t e k z):ask P (underlying t)=some (.slice e):=yE h.u
@[push_cast] theorem sizeOf_T{t k:Nat}{a:Bool}{z:Value}[h:TyZ P t k a z]:ask P (sizeOf t)=some k:=h.hk
@[push_cast] theorem zero_T{t k:Nat}{a:Bool}{z:Value}[h:TyZ P t k a z]:ask P (zeroValue t)=some z:=h.hz
@[push_cast] theorem aload_c{t k:Nat}{z:Value}[h:TyZ P t k false z](b:Blk)(off:Nat):vX P t b off=b.cells[off]? :=aload_cell h.ha b off
@[push_cast] theorem aload_a{t k:Nat}{z:Value}[h:TyZ P t k true z](b:Blk)(off:Nat):vX P t b off=if 0<k/\off+k<=b.cells.length then some (.agg ((b.cells.drop off).take k).toArray)else none:=aload_agg h.ha h.hk b off
@[push_cast] theorem alen_sl{t e k:Nat}{z:List Value}[h:TySl P t e k z](A:Option Addr)(n c:Nat):alen P t (.slice A n c)=some (.int .i64 n):=alen_slice h.h A n c
@[push_cast] theorem alen_str{t:Nat}[h:TyS P t](b:ByteArray):alen P t (.string b)=some (.int .i64 b.size):=alen_string (yE h.u) b
@[push_cast] theorem undFits_sl{t e k:Nat}{z:List Value}[h:TySl P t e k z](A:Option Addr)(n c:Nat):undFits P t (.slice A n c)=true:=undFits_slice h.u A n c
@[push_cast] theorem undString_T{t:Nat}[h:TyS P t]:undString P t=true:=undString_eq h.u
@[push_cast] theorem undBytes_T{t:Nat}[h:TyBy P t]:undBytes P t=true:=by obtain⟨e,h1,h2⟩:=h.u;exact undBytes_eq h1 h2
@[push_cast] theorem aidxAddr_sl{t e k:Nat}{z:List Value}[h:TySl P t e k z](n off len c:Nat)(q:IntKind)(i:Int):
  aidxAddr P t (.slice (some ⟨n,off,some k⟩) len c) (.int q i)=if 0<=i/\i<len then some (.pointer (some ⟨n,off+i.toNat*k,none⟩))else none:=aidxAddr_slice h.h h.hk n off len c q i
@[push_cast] theorem aidx_str{t:Nat}[h:TyS P t](b:ByteArray)(q:IntKind)(i:Int):aidx P t (.string b) (.int q i)=if 0<=i/\i<b.size then some (.int .u8 (byteAt b i.toNat))else none:=aidx_string (yE h.u) b q i
@[push_cast] theorem abuildSlice_T{t e k:Nat}{z:List Value}[h:TySl P t e k z](len:Nat)(parts:List (Nat×Value)):
  kU P t len parts=if len*k<=16777216/\parts.length=len then(adense k 0 parts).map fun L=>(k,L)else none:=by obtain⟨z0,h1,_⟩:=h.hz;exact abuildSlice_eq h.h h.hk h1 len parts
@[push_cast] theorem afldAddr_ptr{t f o k:Nat}{a:Bool}[h:TyF P t f o k a](n off:Nat):vD P t (.pointer (some ⟨n,off,none⟩)) f=some (.pointer (some ⟨n,off+o,none⟩)):=by
 obtain⟨fs,u,h1,h2,h3,_⟩:=h.fs;exact afldAddr_at h1 h2 h3 h.h0 n off
@[push_cast] theorem afld_c{t f o k:Nat}[h:TyF P t f o k false](l:List Value):afld P t (.agg l.toArray) f=l[o]? :=by
 obtain⟨fs,u,h1,h2,_,h4⟩:=h.fs;exact afld_cell h1 h2 h4 l
@[push_cast] theorem abuild_T{t:Nat}{ps:List (Nat×Nat)}{z:List Value}[h:TyBd P t ps z](parts:List (Nat×Value)):abuild P t parts=(lfill (ps[·]?) z parts).map fun l=> .agg l.toArray:=h.h parts
@[push_cast] theorem aconv_i{t u:Nat}{q k:IntKind}[h:TyI P t q][h':TyI P u k](H:AH)(r:IntKind)(n:Int):aconv P H t u (.int r n)=chk k n:=aconv_int (yE h.u) (yE h'.u) H r n
def appRest(H:AH)(k:Nat)(A:Option Addr)(len c:Nat)(l:Nat)(xs:List Value):Option App:=
 match A with
 |none=>if len=0/\c=0 then some ⟨none,xs,l,0,k⟩else none
 |some ⟨n,off,sp⟩=>
  if sp=some k then
   if c=0 then(if len=0 then some ⟨none,xs,l,0,k⟩else none)
   else(H n).bind fun b=>if b.own=true/\off+len*k<=b.cells.length then some ⟨some n,(b.cells.drop off).take (len*k)++xs,len+l,c-1,k⟩else none
  else none
theorem aappend_eq{t e k:Nat}{z:List Value}(h:TySl P t e k z){xt:Nat}{d:TypeDesc}(hd:P.underlying xt=some d)(hni:∀q,d≠ .int q)(H:AH)(A:Option Addr)(len c:Nat)(x:Value):
  aappend P H [t,xt] (.slice A len c) x=(jZ H k x).bind fun r=>if r.2.all kP=true then appRest H k A len c r.1 r.2 else none:=by
 obtain⟨z0,h1,h2⟩:=h.hz
 have h3:=h.zk
 have h4:=h.lt
 have hX:appX P H xt k z0 x=jZ H k x:=by
  unfold appX
  rw[yE hd]
  cases d <;>first|exact absurd rfl (hni _)|rfl
 unfold aappend
 simp only[h.h,hX,h.hk,h1,h2,h3,h4,and_true,true_and]
 all_goals
  cases jZ H k x with
  |none=>rfl
  |some r=>
   obtain⟨l,xs⟩:=r
   simp only[Option.bind_some]
   by_cases hx:xs.all kP=true
   ·rw[if_pos hx,if_pos hx]
    cases A with
    |none=>
     unfold appRest
     cases len <;>cases c <;>simp
    |some a=>
     obtain⟨n,off,sp⟩:=a
     unfold appRest
     cases sp with
     |none=>simp
     |some k'=>
      by_cases hk:k'=k
      ·subst hk
       simp only[if_true]
       by_cases hc:c=0
       ·simp[hc]
       ·simp only[if_neg hc]
        cases H n <;>simp
      ·simp[hk]
   ·rw[if_neg hx,if_neg hx]
theorem appRest_z(H:AH){k:Nat}{l:Nat}{xs:List Value}(A:Option Addr)(len c:Nat):
  (match(Value.slice A len c)with
      | .slice none 0 0=>some (⟨none,xs,l,0,k⟩:App)
      | .slice (some ⟨n,off,some k'⟩) len c=>
       if k'=k then
        if c=0 then(if len=0 then some ⟨none,xs,l,0,k⟩else none)
        else
         match H n with
         |some b=>if b.own=true/\off+len*k<=b.cells.length then some ⟨some n,(b.cells.drop off).take (len*k)++xs,len+l,c-1,k⟩else none
         |none=>none
       else none
      |_=>none)=appRest H k A len c l xs:=by
 cases A with
 |none=>
  unfold appRest
  cases len <;>cases c <;>simp
 |some a=>
  obtain⟨n,off,sp⟩:=a
  unfold appRest
  cases sp with
  |none=>simp
  |some k'=>
   by_cases hk:k'=k
   ·subst hk
    simp only[if_true]
    by_cases hc:c=0
    ·simp[hc]
    ·simp only[if_neg hc]
     cases H n <;>simp
   ·simp[hk]
@[push_cast] theorem aappend_Z{t e k:Nat}{z:List Value}[h:TySl P t e k z]{xt:Nat}{q:IntKind}[h':TyI P xt q](H:AH)(A:Option Addr)(len c:Nat)(r:IntKind)(n:Int):
  aappend P H [t,xt] (.slice A len c) (.int r n)=if 0<=n/\n<=1073741824/\z.all yI=true/\(jU n.toNat z).all kP=true then appRest H k A len c n.toNat (jU n.toNat z)else none:=by
 obtain⟨z0,h1,h2⟩:=h.hz
 have h3:=h.zk
 have h4:=h.lt
 subst h2
 have hX:appX P H xt k z0 (.int r n)=if 0<=n/\n<=1073741824/\(cellsL z0).all yI=true then some (n.toNat,jU n.toNat (cellsL z0))else none:=by
  unfold appX
  rw[yE h'.u]
 unfold aappend
 simp only[h.h,hX,h.hk,h1,h3,h4,and_true,true_and]
 by_cases hc:0<=n/\n<=1073741824/\(cellsL z0).all yI=true
 ·rw[if_pos hc]
  simp only
  by_cases ho:(jU n.toNat (cellsL z0)).all kP=true
  ·rw[if_pos ho,if_pos ⟨hc.1,hc.2.1,hc.2.2,ho⟩]
   exact appRest_z H A len c
  ·rw[if_neg ho,if_neg (fun q=>ho q.2.2.2)]
 ·rw[if_neg hc,if_neg (fun q=>hc ⟨q.1,q.2.1,q.2.2.1⟩)]
@[push_cast] theorem aappend_T{t e k:Nat}{z:List Value}[h:TySl P t e k z]{xt e' k':Nat}{z':List Value}[h':TySl P xt e' k' z'](H:AH)(A:Option Addr)(len c:Nat)(x:Value):
  aappend P H [t,xt] (.slice A len c) x=(jZ H k x).bind fun r=>if r.2.all kP=true then appRest H k A len c r.1 r.2 else none:=aappend_eq h h'.u (fun q e=>by cases e) H A len c x
@[push_cast] theorem aappend_TS{t e k:Nat}{z:List Value}[h:TySl P t e k z]{xt:Nat}[h':TyS P xt](H:AH)(A:Option Addr)(len c:Nat)(x:Value):
  aappend P H [t,xt] (.slice A len c) x=(jZ H k x).bind fun r=>if r.2.all kP=true then appRest H k A len c r.1 r.2 else none:=aappend_eq h h'.u (fun q e=>by cases e) H A len c x
@[push_cast] theorem appRest_own(H:AH)(k n off len c l:Nat)(xs:List Value):appRest H k (some ⟨n,off,some k⟩) len c l xs=
  if c=0 then(if len=0 then some ⟨none,xs,l,0,k⟩else none)else(H n).bind fun b=>if b.own=true/\off+len*k<=b.cells.length then some ⟨some n,(b.cells.drop off).take (len*k)++xs,len+l,c-1,k⟩else none:=by
 simp[appRest]
@[push_cast] theorem acellsOf_sl(H:AH)(k n off len c:Nat):jZ H k (.slice (some ⟨n,off,some k⟩) len c)=(H n).bind fun b=>if off+len*k<=b.cells.length then some (len,(b.cells.drop off).take (len*k))else none:=by
 simp only[jZ,true_and];cases H n <;>rfl
@[push_cast] theorem acellsOf_str(H:AH)(b:ByteArray):jZ H 1 (.string b)=some (b.size,b.data.toList.map byteV):=(rfl)
section
variable {α:Type} [Enc α]
@[push_cast] theorem acellsOf_L(H:AH){k:Nat}[hk:EncK α k](xs:List α):jZ H k (lst xs)=some (xs.length,qO xs):=by have:=hk.h;subst this;exact acellsOf_lst H xs
@[push_cast] theorem alen_L{t e k:Nat}{z:List Value}[h:TySl P t e k z](xs:List α):alen P t (lst xs)=some (.int .i64 xs.length):=by
 rw[lst,alen_lst h.h,List.length_map]
@[push_cast] theorem aidxAddr_L{t e k:Nat}{z:List Value}[h:TySl P t e k z][hk:EncK α k](xs:List α)(q:IntKind)(i:Int):aidxAddr P t (lst xs) (.int q i)=if 0<=i then(xs[i.toNat]?).map (fun x=>VP (enc x))else none:=by
 have hk':=hk.h
 subst hk'
 rw[lst,aidxAddr_lst h.h h.hk,wN,Option.map_map];rfl
@[push_cast] theorem afldAddr_V{t f o k:Nat}{a:Bool}[h:TyF P t f o k a](cs:List Value):vD P t (VP cs) f=if o<=cs.length then some (VP (cs.drop o))else none:=by
 obtain⟨fs,u,h1,h2,h3,_⟩:=h.fs
 exact afldAddr_vp h1 h2 h3 h.h0 cs
@[push_cast] theorem aslice_L{t e k:Nat}{z:List Value}[h:TySl P t e k z][hk:EncK α k](s:List Value)(xs:List α)(lo hi:Option Operand):aslice P s t (lst xs) lo hi none=
  (yA s 0 lo).bind fun l=>(yA s xs.length hi).bind fun h=>if 0<=l/\l<=h/\h<=xs.length then some (lst ((xs.take h.toNat).drop l.toNat))else none:=by
 have hk':=hk.h
 subst hk'
 simp only[aslice,lst,LST,h.h,h.hk,if_true,List.size_toArray,List.length_map]
 cases yA s 0 lo with
 |none=>rfl
 |some l=>
  cases yA s xs.length hi with
  |none=>rfl
  |some h=>
   simp only[Option.bind_some]
   congr 3
   simp[List.extract_eq_take_drop,List.map_drop,List.map_take,List.drop_take]
@[go_sem ↓] theorem abound_none (s:List Value) (d:Int):yA s d none=some d:=(rfl)
@[go_sem ↓] theorem abound_some (s:List Value) (d:Int) (x:Operand):yA s d (some x)=aint? (ev s x):=(rfl)
@[go_sem] theorem aint_int(k:IntKind)(i:Int):aint? (.int k i)=some i:=(rfl)
@[push_cast] theorem aslice_own{t e k:Nat}{z:List Value}[h:TySl P t e k z](s:List Value)(n off len c:Nat)(lo hi:Option Operand):aslice P s t (.slice (some ⟨n,off,some k⟩) len c) lo hi none=
  (yA s 0 lo).bind fun l=>(yA s len hi).bind fun h=>if 0<=l/\l<=h/\h<=(c-1:Nat)then some (.slice (some ⟨n,off+l.toNat*k,some k⟩) (h-l).toNat (c-l.toNat))else none:=by
 simp only[aslice,h.h,h.hk,if_true]
 cases yA s 0 lo with
 |none=>rfl
 |some l=>
  cases yA s len hi with
  |none=>rfl
  |some h=>rfl
@[push_cast] theorem abinX_Lne{t e k:Nat}{z:List Value}[h:TySl P t e k z](xs:List α):kO P .neq t (lst xs) (.slice none 0 0)=if 0<xs.length then some (.bool true)else none:=by
 rw[lst,abinX_lsne,if_pos (undFits_lst h.u _ _),List.length_map]
end
end
def lk:List (Nat×Value)->Nat->Value->Value
 |[],_,d=>d
 |(j,v)::l,i,d=>if j=i then v else lk l i d
noncomputable def lkP(p:Prop)(v:Value)(l:List (Nat×Value))(i:Nat)(d:Value):Value:=open Classical in if p then v else lk l i d
noncomputable def selV(p:Prop)(v:Value):Value:=open Classical in if p then v else undef
def aS(n:Nat)(d:Value)(l:List (Nat×Value)):List Value:=(List.range n).map fun i=>lk l i d
theorem aS_length(n:Nat)(d:Value)(l:List (Nat×Value)):(aS n d l).length=n:=by simp[aS]
theorem aS_get(n:Nat)(d:Value)(l:List (Nat×Value))(i:Nat):(aS n d l)[i]? =if i<n then some (lk l i d)else none:=by
 unfold aS
 rw[wN]
 by_cases h:i<n
 ·rw[if_pos h,List.getElem?_range h];rfl
 ·rw[if_neg h,wQ (by simpa using h)];rfl
@[go_sem ↓] theorem aS_len (n:Nat) (d:Value) (l:List (Nat×Value)):(aS n d l).length=n:=by rw[aS_length]
@[go_sem ↓] theorem aS_sset (n:Nat) (d:Value) (l:List (Nat×Value)) (i:Nat) (v:Value):sset (aS n d l) i v=aS n d ((i,v)::l):=by
 rw[sset_eq]
 refine List.ext_getElem? fun j=> ?_
 rw[List.getElem?_set,aS_get,aS_get,aS_length,lk]
 by_cases e:i=j
 ·subst e
  rw[if_pos rfl,if_pos rfl]
 ·rw[if_neg e,if_neg e]
@[go_sem ↓] theorem aS_sget (n:Nat) (d:Value) (l:List (Nat×Value)) (i:Nat):sget (aS n d l) i=selV (i<n) (lk l i d):=by
 rw[zE,xF,aS_get]
 unfold selV
 by_cases h:i<n
 ·rw[if_pos h,if_pos h];rfl
 ·rw[if_neg h,if_neg h];rfl
@[go_sem ↓] theorem selV_true (v:Value):selV True v=v:=by simp[selV]
@[go_sem ↓] theorem lk_hit (i:Nat) (v:Value) (l:List (Nat×Value)) (d:Value):lk ((i,v)::l) i d=v:=by simp[lk]
@[go_sem ↓ low] theorem lk_cons (j i:Nat) (v:Value) (l:List (Nat×Value)) (d:Value):lk ((j,v)::l) i d=lkP (j=i) v l i d:=by
 unfold lkP
 rw[lk]
 by_cases h:j=i
 ·rw[if_pos h,if_pos h]
 ·rw[if_neg h,if_neg h]
@[go_sem ↓] theorem lkP_false (v:Value) (l:List (Nat×Value)) (i:Nat) (d:Value):lkP False v l i d=lk l i d:=by simp[lkP]
def idx:Nat->List Value->List (Nat×Value)
 |_,[]=>[]
 |k,v::l=>(k,v)::idx (k+1) l
theorem lk_idx(d:Value):∀(l:List Value) (k i:Nat),lk (idx k l) i d=if k<=i then l.getD (i-k) d else d
 |[],k,i=>by simp[idx,lk]
 |v::l,k,i=>by
  rw[idx,lk,lk_idx d l (k+1) i]
  by_cases e:k=i
  ·subst e;simp
  ·rw[if_neg e]
   by_cases h:k<=i
   ·rw[if_pos h,if_pos (by omega)]
    have:i-k=(i-(k+1))+1:=by omega
    rw[this];simp
   ·rw[if_neg h,if_neg (by omega)]
theorem start_aS(args:List Value)(m:Nat)(h:args.length<=m):args++List.replicate (m-args.length) undef=aS m undef (idx 0 args):=by
 refine List.ext_getElem? fun i=> ?_
 rw[aS_get,lk_idx,List.getElem?_append,if_pos (xT _),Nat.sub_zero,xF]
 by_cases h1:i<args.length
 ·rw[if_pos h1,if_pos (by omega),xA h1];rfl
 ·rw[if_neg h1,List.getElem?_replicate,wQ (Nat.le_of_not_lt h1)]
  by_cases h2:i<m
  ·rw[if_pos h2,if_pos (by omega)];rfl
  ·rw[if_neg h2,if_neg (by omega)]
@[go_sem ↓] theorem idx_nil (k:Nat):idx k []=[]:=(rfl)
@[go_sem ↓] theorem idx_cons (k:Nat) (v:Value) (l:List Value):idx k (v::l)=(k,v)::idx (k+1) l:=(rfl)
def FitL(s:List Value):List (Nat×Value)->Prop
 |[]=>True
 |(i,v)::l=>sget s i=v/\FitL s l
@[go_sem ↓] theorem FitL_nil (s:List Value):FitL s []=True:=(rfl)
@[go_sem ↓] theorem FitL_cons (s:List Value) (i:Nat) (v:Value) (l:List (Nat×Value)):FitL s ((i,v)::l)=(sget s i=v/\FitL s l):=(rfl)
theorem FitL.get{s:List Value}:∀ {l:List (Nat×Value)},FitL s l->∀i,lk l i unk=unk\/sget s i=lk l i unk
 |[],_,_=> .inl rfl
 |(j,v)::l,h,i=>by
  rw[lk]
  by_cases e:j=i
  ·subst e;rw[if_pos rfl];exact .inr h.1
  ·rw[if_neg e];exact h.2.get i
theorem fits_of_get:∀ {s s':List Value},s.length=s'.length->(∀(i:Nat) (x y:Value),s[i]? =some x->s'[i]? =some y->y=unk\/x=y)->fits s s'
 |[],[],_,_=>trivial
 |x::xs,y::ys,hl,h=>⟨h 0 x y rfl rfl,fits_of_get (by simpa using hl) fun i a b h1 h2=>h (i+1) a b (by simpa using h1) (by simpa using h2)⟩
 |[],_::_,hl,_=>by simp at hl
 |_::_,[],hl,_=>by simp at hl
theorem FitL.fits{s:List Value}{n:Nat}{l:List (Nat×Value)}(h:FitL s l)(hn:s.length=n):fits s (aS n unk l):=by
 refine fits_of_get (by rw[aS_length];exact hn) fun i x y h1 h2=> ?_
 rw[aS_get]at h2
 by_cases hi:i<n
 ·rw[if_pos hi]at h2
  cases h2
  have:=h.get i
  rw[zE,xF,h1]at this
  exact this
 ·rw[if_neg hi]at h2;cases h2
theorem Tr.lower{P:Program}{N0:Nat}{c:Code}{Q:yY}{s:List Value}{H:AH}{B:Nat}(h:Tr P B c Q s H B)(hN:N0<=B):Tr P N0 c (fun e s' H' Bd'=>Q e s' H' Bd'/\B<=Bd') s H B:=
 fun _ A ι a w hst=>wp_mono (h (xC _) A ι a w hst) fun e a' w' ⟨ι',s',H',Bd',h1,h2,h3,h4,h5,h6⟩=>
  ⟨ι',s',H',Bd',⟨h1,h2⟩,wE hN h2,h3,h4,fun n hn=>h5 n (Nat.lt_of_lt_of_le hn hN),h6⟩
theorem jA{P:Program}{N0:Nat}{c:Code}{Q:yY}{s:List Value}{H:AH}{Bd:Nat}(I:Nat->Prop)(N:Nat)(sl:Nat->List (Nat×Value))(h0:I 0)
  (hs:FitL s (sl 0))
  (round:∀i B,I i->i<=N->Bd<=B->Tr P B c (thenQ (fun s' H' Bd'=>i<N/\Le H H'/\I (i+1)/\s'.length=s.length/\FitL s' (sl (i+1))) Q) (aS s.length unk (sl i)) H B):
  Tr P N0 (.loop c) Q s H Bd:=by
 intro hN
 refine tr_loop (X:=Nat×Nat) (I:=fun x=>I x.1/\x.1<=N/\Bd<=x.2) (fun x=>aS s.length unk (sl x.1)) (fun _=>H) (fun x=>x.2) (fun x=>N-x.1) (0,Bd) ⟨h0,xT _,xC _⟩ ⟨hs.fits rfl,Le.refl H,xC _⟩ ?_ hN
 rintro⟨i,B⟩ ⟨hI,hi,hB⟩ hN0
 refine((round i B hI hi hB).lower hN0).mono fun e s' H' Bd' hq=> ?_
 obtain⟨hq,hle⟩:=hq
 cases e with
 |normal=>
  obtain⟨h1,h2,h3,h5,h4⟩:=hq
  exact⟨(i+1,Bd'),⟨h3,h1,wE hB hle⟩,by simp only;omega,h4.fits h5,h2,xC _⟩
 |_=>exact hq
end Go.SC
