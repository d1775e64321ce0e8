/- Code with its drawn regions' plans, and how conditions over it are worked out. -/
import Derived.Test.YthoahlghegcfnaaGreatDoorKbCore2
import Derived.Lib.ItoaNum
import Derived.Lib.LaidTab
import Derived.Sort.Grow
import Derived.WalkSmall
import Derived.Below
import Derived.Lib.Join
import Derived.Lib.SlTrimSet
import Derived.StillTail
import Derived.Lib.Bytealg
import Derived.Lib.RowBridge
import Derived.Lib.SplitLaws
import Derived.Shelf.SlicesE.DeleteFunc
import Derived.Shelf.SlicesE.Clone
set_option linter.unusedSimpArgs false
set_option linter.unusedVariables false
namespace Go.SC
open Go
def memN:List Nat→Nat→Bool
 |[],_=>false
 |j::l,i=>if i=j then true else memN l i
theorem memN_eq(l:List Nat)(i:Nat):l.contains i=memN l i:=by
 induction l with
 |nil=>rfl
 |cons j l ih=>
  simp only[memN,List.contains_cons,ih]
  by_cases h:i=j <;>simp[h]
def selA(act:List Nat)(pend:List (Nat×List Value)):List (Nat×List Value):=pend.filter fun p=>act.contains p.1
def dropA(act:List Nat)(pend:List (Nat×List Value)):List (Nat×List Value):=pend.filter fun p=> !act.contains p.1
def addW(i:Nat)(op:Op)(s:List Value)(v:Value)(wt:List (Nat×Op×List Value×Value)):List (Nat×Op×List Value×Value):=if readsHeap op=true then(i,op,s,v)::wt else wt
@[push_cast] theorem memN_nil(i:Nat):memN [] i=false:=(rfl)
@[push_cast] theorem memN_cons(j:Nat)(l:List Nat)(i:Nat):memN (j::l) i=if i=j then true else memN l i:=(rfl)
@[push_cast] theorem selA_nil(act:List Nat):selA act []=[]:=(rfl)
@[push_cast] theorem selA_cons(act:List Nat)(i:Nat)(c:List Value)(r:List (Nat×List Value)):selA act ((i,c)::r)=if memN act i=true then(i,c)::selA act r else selA act r:=by
 simp only[selA,List.filter_cons,memN_eq]
@[push_cast] theorem dropA_nil(act:List Nat):dropA act []=[]:=(rfl)
@[push_cast] theorem dropA_cons(act:List Nat)(i:Nat)(c:List Value)(r:List (Nat×List Value)):dropA act ((i,c)::r)=if memN act i=true then dropA act r else(i,c)::dropA act r:=by
 simp only[dropA,List.filter_cons,memN_eq]
 cases memN act i <;>simp
@[push_cast] theorem full_nil'(B0:Nat)(H:AH):full B0 H []=H:=(rfl)
@[push_cast] theorem full_cons'(B0:Nat)(H:AH)(i:Nat)(c:List Value)(r:List (Nat×List Value)):full B0 H ((i,c)::r)=upd (full B0 H r) (B0+i) (some ⟨c,true⟩):=full_cons B0 H i c r
@[push_cast] theorem addP_none(i:Nat)(pend:List (Nat×List Value)):addP i none pend=pend:=(rfl)
@[push_cast] theorem addP_some(i:Nat)(c:List Value)(pend:List (Nat×List Value)):addP i (some c) pend=(i,c)::pend:=(rfl)
@[push_cast] theorem clearOf_nil(B0:Nat)(H:AH):clearOf B0 [] H=True:=(rfl)
@[push_cast] theorem clearOf_cons(B0 i:Nat)(c:List Value)(r:List (Nat×List Value))(H:AH):clearOf B0 ((i,c)::r) H=(H (B0+i)=none∧clearOf B0 r H):=(rfl)
section
variable {P:Program} (E:Env P) (ops:List Oper) (B0:Nat) (rest:List Stp) (s:List Value) (H:AH) (Bd:Nat) (pend:List (Nat×List Value)) (wt:List (Nat×Op×List Value×Value)) (Q:List Value→AH→Nat→Prop)
@[push_cast] theorem watched_nil(wat:List Nat):watched P [] wat H=True:=(rfl)
@[push_cast] theorem watched_cons(i:Nat)(op:Op)(v:Value)(wat:List Nat):watched P ((i,op,s,v)::wt) wat H=((if memN wat i=true then aq P s H 0 op=some (v,none)else True)∧watched P wt wat H):=by
 simp only[watched,memN_eq]
def vdR{P:Program}(E:Env P)(ops:List Oper)(B0:Nat)(i:Nat)(act wat:List Nat)(rest:List Stp)(s:List Value)(H:AH)(Bd:Nat)(pend:List (Nat×List Value))(wt:List (Nat×Op×List Value×Value))(Q:List Value→AH→Nat→Prop)(o:Oper):Prop:=
 if isEff o.op=true then
  astep E o s (full B0 H (selA act pend)) Bd fun v H' Bd'=>
   clearOf B0 (dropA act pend) H'∧watched P wt wat (full B0 H' (dropA act pend))∧vd E ops B0 rest (sput s o.dst v) H' Bd' (dropA act pend) wt Q
 else
  Yld (aq P s (full B0 H pend) (B0+i) o.op) fun r=>vd E ops B0 rest (sput s o.dst r.1) H Bd (addP i r.2 pend) (addW i o.op s r.1 wt) Q
@[go_sem ↓] theorem vd_nil:vd E ops B0 [] s H Bd pend wt Q=Q s (full B0 H pend) Bd:=(rfl)
def vdO{P:Program}(E:Env P)(ops:List Oper)(B0:Nat)(i:Nat)(act wat:List Nat)(rest:List Stp)(s:List Value)(H:AH)(Bd:Nat)(pend:List (Nat×List Value))(wt:List (Nat×Op×List Value×Value))(Q:List Value→AH→Nat→Prop)(l:List Oper)(n:Nat):Prop:=
 opAt l n fun o=>gd ops s o.guard (vdR E ops B0 i act wat rest s H Bd pend wt Q o) (vd E ops B0 rest (sput s o.dst undef) H Bd pend wt Q)
@[push_cast] theorem vd_cons(i:Nat)(act wat:List Nat):vd E ops B0 (⟨i,act,wat⟩::rest) s H Bd pend wt Q=vdO E ops B0 i act wat rest s H Bd pend wt Q ops i:=(rfl)
@[go_sem ↓] theorem vdO_s (i:Nat) (act wat:List Nat) (o:Oper) (l:List Oper) (n:Nat):vdO E ops B0 i act wat rest s H Bd pend wt Q (o::l) (n+1)=vdO E ops B0 i act wat rest s H Bd pend wt Q l n:=(rfl)
@[go_sem ↓] theorem vdO_z (i:Nat) (act wat:List Nat) (d:Option Nat) (op:Op) (ty:TypeId) (p:String) (af:Array Edge) (l:List Oper):vdO E ops B0 i act wat rest s H Bd pend wt Q (⟨d,op,ty,p,af,none⟩::l) 0=
  vdR E ops B0 i act wat rest s H Bd pend wt Q ⟨d,op,ty,p,af,none⟩:=(rfl)
@[go_sem ↓] theorem vdO_g (i:Nat) (act wat:List Nat) (d:Option Nat) (op:Op) (ty:TypeId) (p:String) (af:Array Edge) (j:Nat) (want:Bool) (l:List Oper):vdO E ops B0 i act wat rest s H Bd pend wt Q (⟨d,op,ty,p,af,some (j,want)⟩::l) 0=
  guardK (agard ops s j) want (vdR E ops B0 i act wat rest s H Bd pend wt Q ⟨d,op,ty,p,af,some (j,want)⟩) (vd E ops B0 rest (sput s d undef) H Bd pend wt Q):=(rfl)
@[congr] theorem vd_congr{s s':List Value}{H H':AH}{Bd Bd':Nat}{pend pend':List (Nat×List Value)}(h:s=s')(hH:H=H')(hB:Bd=Bd')(hp:pend=pend'):vd E ops B0 rest s H Bd pend wt Q=vd E ops B0 rest s' H' Bd' pend' wt Q:=by rw[h,hH,hB,hp]
end
section
variable {P:Program} (E:Env P) (ops:List Oper) (B0 i:Nat) (act wat:List Nat) (rest:List Stp) (s:List Value) (H:AH) (Bd:Nat) (pend:List (Nat×List Value)) (wt:List (Nat×Op×List Value×Value)) (Q:List Value→AH→Nat→Prop)
 (d:Option Nat) (ty:TypeId) (p:String) (af:Array Edge) (g:Option (Nat×Bool))
theorem vdR_eff{o:Oper}(h:isEff o.op=true):vdR E ops B0 i act wat rest s H Bd pend wt Q o=
  astep E o s (full B0 H (selA act pend)) Bd fun v H' Bd'=>
   clearOf B0 (dropA act pend) H'∧watched P wt wat (full B0 H' (dropA act pend))∧vd E ops B0 rest (sput s o.dst v) H' Bd' (dropA act pend) wt Q:=by rw[vdR,if_pos h]
theorem vdR_quiet{o:Oper}(h:isEff o.op=false):vdR E ops B0 i act wat rest s H Bd pend wt Q o=
  Yld (aq P s (full B0 H pend) (B0+i) o.op) fun r=>vd E ops B0 rest (sput s o.dst r.1) H Bd (addP i r.2 pend) (addW i o.op s r.1 wt) Q:=by rw[vdR,if_neg (by rw[h];simp)]
@[go_sem ↓] theorem vdR_store (t:TypeId) (x y:Operand):vdR E ops B0 i act wat rest s H Bd pend wt Q ⟨d, .store t x y,ty,p,af,g⟩=astep E ⟨d, .store t x y,ty,p,af,g⟩ s (full B0 H (selA act pend)) Bd fun v H' Bd'=>
  clearOf B0 (dropA act pend) H'∧watched P wt wat (full B0 H' (dropA act pend))∧vd E ops B0 rest (sput s d v) H' Bd' (dropA act pend) wt Q:=vdR_eff (h:=rfl) ..
@[go_sem ↓] theorem vdR_callv (f:Operand) (args:Array Operand) (ts:Array TypeId):vdR E ops B0 i act wat rest s H Bd pend wt Q ⟨d, .call ⟨.value f,args,ts⟩,ty,p,af,g⟩=astep E ⟨d, .call ⟨.value f,args,ts⟩,ty,p,af,g⟩ s (full B0 H (selA act pend)) Bd fun v H' Bd'=>
  clearOf B0 (dropA act pend) H'∧watched P wt wat (full B0 H' (dropA act pend))∧vd E ops B0 rest (sput s d v) H' Bd' (dropA act pend) wt Q:=vdR_eff (h:=rfl) ..
@[go_sem ↓] theorem vdR_append (args:Array Operand) (ts:Array TypeId):vdR E ops B0 i act wat rest s H Bd pend wt Q ⟨d, .call ⟨.builtin .append,args,ts⟩,ty,p,af,g⟩=astep E ⟨d, .call ⟨.builtin .append,args,ts⟩,ty,p,af,g⟩ s (full B0 H (selA act pend)) Bd fun v H' Bd'=>
  clearOf B0 (dropA act pend) H'∧watched P wt wat (full B0 H' (dropA act pend))∧vd E ops B0 rest (sput s d v) H' Bd' (dropA act pend) wt Q:=vdR_eff (h:=rfl) ..
@[go_sem ↓] theorem vdR_move (x:Operand):vdR E ops B0 i act wat rest s H Bd pend wt Q ⟨d, .move x,ty,p,af,g⟩=Yld (aq P s (full B0 H pend) (B0+i) (.move x)) fun r=>vd E ops B0 rest (sput s d r.1) H Bd (addP i r.2 pend) wt Q:=vdR_quiet (h:=rfl) ..
@[go_sem ↓] theorem vdR_assign (x:Operand):vdR E ops B0 i act wat rest s H Bd pend wt Q ⟨d, .assign x,ty,p,af,g⟩=Yld (aq P s (full B0 H pend) (B0+i) (.assign x)) fun r=>vd E ops B0 rest (sput s d r.1) H Bd (addP i r.2 pend) wt Q:=vdR_quiet (h:=rfl) ..
@[go_sem ↓] theorem vdR_pick (c x y:Operand):vdR E ops B0 i act wat rest s H Bd pend wt Q ⟨d, .pick c x y,ty,p,af,g⟩=
  Yld (abool (ev s c)) fun b=>Cnd b (vd E ops B0 rest (sput s d (ev s x)) H Bd pend wt Q) (vd E ops B0 rest (sput s d (ev s y)) H Bd pend wt Q):=by
 rw[vdR_quiet (h:=rfl)]
 simp only[aq,aval]
 cases ev s c <;>simp[abool,Yld,Cnd,addP,addW,readsHeap]
 rename_i b;cases b <;>simp
@[go_sem ↓] theorem vdR_load (t:TypeId) (x:Operand):vdR E ops B0 i act wat rest s H Bd pend wt Q ⟨d, .load t x,ty,p,af,g⟩=Yld (aq P s (full B0 H pend) (B0+i) (.load t x)) fun r=>vd E ops B0 rest (sput s d r.1) H Bd (addP i r.2 pend) ((i, .load t x,s,r.1)::wt) Q:=vdR_quiet (h:=rfl) ..
@[go_sem ↓] theorem vdR_alloc (t:TypeId):vdR E ops B0 i act wat rest s H Bd pend wt Q ⟨d, .alloc t,ty,p,af,g⟩=Yld (aq P s (full B0 H pend) (B0+i) (.alloc t)) fun r=>vd E ops B0 rest (sput s d r.1) H Bd (addP i r.2 pend) wt Q:=vdR_quiet (h:=rfl) ..
@[go_sem ↓] theorem vdR_build (t:TypeId) (parts:Array (Nat×Operand)):vdR E ops B0 i act wat rest s H Bd pend wt Q ⟨d, .build t parts,ty,p,af,g⟩=Yld (aq P s (full B0 H pend) (B0+i) (.build t parts)) fun r=>vd E ops B0 rest (sput s d r.1) H Bd (addP i r.2 pend) wt Q:=vdR_quiet (h:=rfl) ..
@[go_sem ↓] theorem vdR_buildSlice (t:TypeId) (len:Nat) (parts:Array (Nat×Operand)):vdR E ops B0 i act wat rest s H Bd pend wt Q ⟨d, .buildSlice t len parts,ty,p,af,g⟩=Yld (aq P s (full B0 H pend) (B0+i) (.buildSlice t len parts)) fun r=>vd E ops B0 rest (sput s d r.1) H Bd (addP i r.2 pend) wt Q:=vdR_quiet (h:=rfl) ..
@[go_sem ↓] theorem vdR_nilCheck (x:Operand):vdR E ops B0 i act wat rest s H Bd pend wt Q ⟨d, .nilCheck x,ty,p,af,g⟩=Yld (aq P s (full B0 H pend) (B0+i) (.nilCheck x)) fun r=>vd E ops B0 rest (sput s d r.1) H Bd (addP i r.2 pend) wt Q:=vdR_quiet (h:=rfl) ..
@[go_sem ↓] theorem vdR_binOp (op:BinOp) (t1 t2:TypeId) (x y:Operand):vdR E ops B0 i act wat rest s H Bd pend wt Q ⟨d, .binOp op t1 x y t2,ty,p,af,g⟩=Yld (aq P s (full B0 H pend) (B0+i) (.binOp op t1 x y t2)) fun r=>vd E ops B0 rest (sput s d r.1) H Bd (addP i r.2 pend) wt Q:=vdR_quiet (h:=rfl) ..
@[go_sem ↓] theorem vdR_unOp (op:UnOp) (t:TypeId) (x:Operand):vdR E ops B0 i act wat rest s H Bd pend wt Q ⟨d, .unOp op t x,ty,p,af,g⟩=Yld (aq P s (full B0 H pend) (B0+i) (.unOp op t x)) fun r=>vd E ops B0 rest (sput s d r.1) H Bd (addP i r.2 pend) wt Q:=vdR_quiet (h:=rfl) ..
@[go_sem ↓] theorem vdR_convert (t u:TypeId) (x:Operand):vdR E ops B0 i act wat rest s H Bd pend wt Q ⟨d, .convert t u x,ty,p,af,g⟩=Yld (aq P s (full B0 H pend) (B0+i) (.convert t u x)) fun r=>vd E ops B0 rest (sput s d r.1) H Bd (addP i r.2 pend) ((i, .convert t u x,s,r.1)::wt) Q:=vdR_quiet (h:=rfl) ..
@[go_sem ↓] theorem vdR_slice (t:TypeId) (x:Operand) (lo hi mx:Option Operand):vdR E ops B0 i act wat rest s H Bd pend wt Q ⟨d, .slice t x lo hi mx,ty,p,af,g⟩=Yld (aq P s (full B0 H pend) (B0+i) (.slice t x lo hi mx)) fun r=>vd E ops B0 rest (sput s d r.1) H Bd (addP i r.2 pend) wt Q:=vdR_quiet (h:=rfl) ..
@[go_sem ↓] theorem vdR_fieldAddr (t:TypeId) (x:Operand) (f:Nat):vdR E ops B0 i act wat rest s H Bd pend wt Q ⟨d, .fieldAddr t x f,ty,p,af,g⟩=Yld (aq P s (full B0 H pend) (B0+i) (.fieldAddr t x f)) fun r=>vd E ops B0 rest (sput s d r.1) H Bd (addP i r.2 pend) wt Q:=vdR_quiet (h:=rfl) ..
@[go_sem ↓] theorem vdR_field (t:TypeId) (x:Operand) (f:Nat):vdR E ops B0 i act wat rest s H Bd pend wt Q ⟨d, .field t x f,ty,p,af,g⟩=Yld (aq P s (full B0 H pend) (B0+i) (.field t x f)) fun r=>vd E ops B0 rest (sput s d r.1) H Bd (addP i r.2 pend) wt Q:=vdR_quiet (h:=rfl) ..
@[go_sem ↓] theorem vdR_indexAddr (t:TypeId) (x y:Operand):vdR E ops B0 i act wat rest s H Bd pend wt Q ⟨d, .indexAddr t x y,ty,p,af,g⟩=Yld (aq P s (full B0 H pend) (B0+i) (.indexAddr t x y)) fun r=>vd E ops B0 rest (sput s d r.1) H Bd (addP i r.2 pend) wt Q:=vdR_quiet (h:=rfl) ..
@[go_sem ↓] theorem vdR_len (args:Array Operand) (ts:Array TypeId):vdR E ops B0 i act wat rest s H Bd pend wt Q ⟨d, .call ⟨.builtin .len,args,ts⟩,ty,p,af,g⟩=Yld (aq P s (full B0 H pend) (B0+i) (.call ⟨.builtin .len,args,ts⟩)) fun r=>vd E ops B0 rest (sput s d r.1) H Bd (addP i r.2 pend) wt Q:=vdR_quiet (h:=rfl) ..
end
section
variable (P:Program) (s:List Value) (H:AH) (m:Nat)
def aptrO{α:Type}(v:Value)(K:Nat→Nat→Option α):Option α:=
 match v with
 | .pointer (some ⟨n,off,none⟩)=>K n off
 |_=>none
@[go_sem ↓] theorem aptrO_eq {α:Type} (n off:Nat) (K:Nat→Nat→Option α):aptrO (.pointer (some ⟨n,off,none⟩)) K=K n off:=(rfl)
@[go_sem ↓] theorem aq_load (t:TypeId) (x:Operand):aq P s H m (.load t x)=(aloadV P t H (ev s x)).map (·,none):=by
 simp only[aq,aloadV]
 split
 ·rename_i n off hx
  cases hH:H n <;>simp[hx,hH]
 ·rename_i m fs cs hx
  simp[hx]
 ·rename_i h1 h2
  split
  ·rename_i n off hx;exact absurd hx (h1 _ _)
  ·rename_i hx;exact absurd hx (h2 _ _ _)
  ·rfl
@[go_sem ↓] theorem aq_convert (t u:TypeId) (x:Operand):aq P s H m (.convert t u x)=(aconv P H t u (ev s x)).map (·,none):=(rfl)
@[go_sem ↓] theorem aq_alloc (t:TypeId):aq P s H m (.alloc t)=(ask P (zeroValue t)).bind fun z=>if(cellsL z).all plainV=true then some (.pointer (some ⟨m,0,none⟩),some (cellsL z))else none:=by
 simp only[aq];cases ask P (zeroValue t) <;>rfl
@[go_sem ↓] theorem aq_buildSlice (t:TypeId) (len:Nat) (parts:Array (Nat×Operand)):aq P s H m (.buildSlice t len parts)=(abuildSlice P t len (parts.toList.map fun x=>(x.1,ev s x.2))).map fun r=>(.slice (some ⟨m,0,some r.1⟩) len (len+1),some r.2):=(rfl)
@[go_sem ↓] theorem aq_move (x:Operand):aq P s H m (.move x)=some (ev s x,none):=(rfl)
@[go_sem ↓] theorem aq_assign (x:Operand):aq P s H m (.assign x)=some (ev s x,none):=(rfl)
@[go_sem ↓] theorem aq_binOp (op:BinOp) (t1 t2:TypeId) (x y:Operand):aq P s H m (.binOp op t1 x y t2)=(abinX P op t1 (ev s x) (ev s y)).map (·,none):=(rfl)
@[go_sem ↓] theorem aq_unOp (op:UnOp) (t:TypeId) (x:Operand):aq P s H m (.unOp op t x)=(aunop op (ev s x)).map (·,none):=(rfl)
@[go_sem ↓] theorem aq_field (t:TypeId) (x:Operand) (f:Nat):aq P s H m (.field t x f)=(afld P t (ev s x) f).map (·,none):=(rfl)
@[go_sem ↓] theorem aq_fieldAddr (t:TypeId) (x:Operand) (f:Nat):aq P s H m (.fieldAddr t x f)=(afldAddr P t (ev s x) f).map (·,none):=(rfl)
@[go_sem ↓] theorem aq_indexAddr (t:TypeId) (x i:Operand):aq P s H m (.indexAddr t x i)=(aidxAddr P t (ev s x) (ev s i)).map (·,none):=(rfl)
@[go_sem ↓] theorem aq_nilCheck (x:Operand):aq P s H m (.nilCheck x)=(anilck (ev s x)).map (·,none):=(rfl)
@[go_sem ↓] theorem aq_build (t:TypeId) (parts:Array (Nat×Operand)):aq P s H m (.build t parts)=(abuild P t (parts.toList.map fun x=>(x.1,ev s x.2))).map (·,none):=(rfl)
@[go_sem ↓] theorem aq_slice (t:TypeId) (x:Operand) (lo hi mx:Option Operand):aq P s H m (.slice t x lo hi mx)=(aslice P s t (ev s x) lo hi mx).map (·,none):=(rfl)
@[go_sem ↓] theorem aq_len (x:Operand) (t:TypeId):aq P s H m (.call ⟨.builtin .len,#[x],#[t]⟩)=(alen P t (ev s x)).map (·,none):=(rfl)
@[push_cast] theorem obind_some{α β:Type}(x:α)(f:α→Option β):(some x).bind f=f x:=(rfl)
@[go_sem ↓] theorem Yld_map {α β:Type} (f:α→β) (x:Option α) (K:β→Prop):Yld (x.map f) K=Yld x fun v=>K (f v):=by
 cases x <;>simp[Yld]
@[go_sem ↓] theorem Yld_bind {α β:Type} (f:α→Option β) (x:Option α) (K:β→Prop):Yld (x.bind f) K=Yld x fun v=>Yld (f v) K:=by
 cases x <;>simp[Yld]
end
def lookP:List (Nat×List Nat×List Stp×JT)→Nat→Option (List Stp)
 |[],_=>none
 |(i,_,p,_)::r,j=>if j=i then some p else lookP r j
def lookO:List (Nat×List Nat×List Stp×JT)→Nat→List Nat
 |[],_=>[]
 |(i,o,_,_)::r,j=>if j=i then o else lookO r j
def lookJ:List (Nat×List Nat×List Stp×JT)→Nat→Option JT
 |[],_=>none
 |(i,_,_,t)::r,j=>if j=i then some t else lookJ r j
deriving instance DecidableEq for Stp
def plansOK(PL:List (Nat×List Nat×List Stp×JT)):Code→Bool
 | .seq x y=>plansOK PL x&&plansOK PL y
 | .cond _ x y=>plansOK PL x&&plansOK PL y
 | .block _ x=>plansOK PL x
 | .region id ops true=>match lookP PL id with
  |some plan=>decide (mk ops (lookO PL id) [] [] none=some plan)
  |none=>true
 | .region id ops false=>match lookJ PL id with
  |some t=>jtOK ops.toList t ops.toList&&decide (t.cnt=ops.size)
  |none=>true
 |_=>true
def isLp:Code→Bool
 | .block _ (.loop _)=>true
 | .seq _ y=>isLp y
 |_=>false
def selT(b:Bool)(A B:List Value→AH→Nat→Prop):List Value→AH→Nat→Prop:=
 match b with
 |true=>A
 |false=>B
@[go_sem ↓] theorem selT_true (A B:List Value→AH→Nat→Prop):selT true A B=A:=(rfl)
@[go_sem ↓] theorem selT_false (A B:List Value→AH→Nat→Prop):selT false A B=B:=(rfl)
@[congr] theorem selT_congr{b b':Bool}(h:b=b')(A B:List Value→AH→Nat→Prop):selT b A B=selT b' A B:=by rw[h]
@[go_sem ↓] theorem isLp_loop (i:Nat) (c:Code):isLp (.block i (.loop c))=true:=(rfl)
@[go_sem ↓] theorem isLp_region (i:Nat) (ops:Array Oper) (d:Bool):isLp (.region i ops d)=false:=(rfl)
@[go_sem ↓] theorem isLp_cond (c:Operand) (x y:Code):isLp (.cond c x y)=false:=(rfl)
@[go_sem ↓] theorem isLp_seq (x y:Code):isLp (.seq x y)=isLp y:=(rfl)
@[go_sem ↓] theorem isLp_bseq (i:Nat) (x y:Code):isLp (.block i (.seq x y))=false:=(rfl)
@[go_sem ↓] theorem isLp_bregion (i j:Nat) (ops:Array Oper) (d:Bool):isLp (.block i (.region j ops d))=false:=(rfl)
def vq{P:Program}(E:Env P)(PL:List (Nat×List Nat×List Stp×JT))(N0:Nat):Code→APost→List Value→AH→Nat→Prop
 | .skip,Q=>Q .normal
 | .seq x y,Q=>vq E PL N0 x (thenQ (selT (isLp x) (Tr P N0 y Q) (vq E PL N0 y Q)) Q)
 | .cond c x y,Q=>fun s H Bd=>match ev s c with
  | .bool b=>Cnd b (vq E PL N0 x Q s H Bd) (vq E PL N0 y Q s H Bd)
  |_=>False
 | .block id c,Q=>vq E PL N0 c (inBlockQ id Q)
 | .loop c,Q=>fun s H Bd=>Tr P N0 (.loop c) Q s H Bd
 | .exit id,Q=>Q (.exit id)
 | .ret,Q=>Q .ret
 | .region id ops false,Q=>fun s H Bd=>match lookJ PL id with
  |some t=>vopsJ E ops.toList t ops.toList s H Bd (Q .normal)
  |none=>vops E ops.toList ops.toList s H Bd (Q .normal)
 | .region id ops true,Q=>fun s H Bd=>match lookP PL id with
  |some plan=>vd E ops.toList Bd plan s H (Bd+ops.size) [] [] (Q .normal)
  |none=>Tr P N0 (.region id ops true) Q s H Bd
 |c,Q=>fun s H Bd=>Tr P N0 c Q s H Bd
theorem vq_sound{P:Program}(hP:POk P){E:Env P}(PL:List (Nat×List Nat×List Stp×JT)){N0:Nat}:∀(c:Code) (Q:APost) (s:List Value) (H:AH) (Bd:Nat),plansOK PL c=true→vq E PL N0 c Q s H Bd→Tr P N0 c Q s H Bd
 | .skip,Q,s,H,Bd,_,h=>fun hN A ι a w hst=>wp_skip ⟨ι,s,H,Bd,h,hN,hst,Keep.refl A w,Agr.refl _ _,NI.refl _⟩
 | .seq x y,Q,s,H,Bd,hp,h=>fun hN A ι a w hst=>by
  simp only[plansOK,Bool.and_eq_true]at hp
  refine wp_seq (wp_mono (vq_sound hP PL x _ s H Bd hp.1 h hN A ι a w hst) fun e a' w' ⟨ι',s',H',Bd',h1,h2,h3,h4,h5,h6⟩=> ?_)
  cases e with
  |normal=>
   simp only[Exit.then]
   have h1':Tr P N0 y Q s' H' Bd':=by
    simp only[thenQ_normal]at h1
    cases hl:isLp x with
    |true=>rw[hl]at h1;exact h1
    |false=>rw[hl]at h1;exact vq_sound hP PL y Q s' H' Bd' hp.2 h1
   refine wp_mono (h1' h2 A ι' a' w' h3) fun e2 a2 w2 ⟨ι2,s2,H2,Bd2,g1,g2,g3,g4,g5,g6⟩=> ?_
   exact⟨ι2,s2,H2,Bd2,g1,g2,g3,h4.trans g4,h5.trans g5 (Nat.le_refl _),h6.trans g6⟩
  |_=>exact⟨ι',s',H',Bd',h1,h2,h3,h4,h5,h6⟩
 | .cond c x y,Q,s,H,Bd,hp,h=>fun hN A ι a w hst=>by
  simp only[plansOK,Bool.and_eq_true]at hp
  unfold vq at h
  split at h
  ·rename_i b hb
   have hc:=hst.slots.ev c
   rw[hb]at hc
   generalize hcv:a.eval c=cv at hc
   cases hc
   refine wp_cond hcv ?_
   cases b with
   |true=>exact vq_sound hP PL x Q s H Bd hp.1 (h.1 rfl) hN A ι a w hst
   |false=>exact vq_sound hP PL y Q s H Bd hp.2 (h.2 rfl) hN A ι a w hst
  ·cases h
 | .block id c,Q,s,H,Bd,hp,h=>fun hN A ι a w hst=>by
  simp only[plansOK]at hp
  refine wp_block (wp_mono (vq_sound hP PL c _ s H Bd hp h hN A ι a w hst) fun e a' w' ⟨ι',s',H',Bd',h1,h2⟩=> ?_)
  cases e with
  |exit id'=>
   simp only[inBlockQ,Exit.inBlock]at h1 ⊢
   by_cases hid:id'=id
   ·rw[if_pos hid]at h1;rw[if_pos hid];exact⟨ι',s',H',Bd',h1,h2⟩
   ·rw[if_neg hid]at h1;rw[if_neg hid];exact⟨ι',s',H',Bd',h1,h2⟩
  |_=>exact⟨ι',s',H',Bd',h1,h2⟩
 | .loop c,Q,s,H,Bd,_,h=>h
 | .exit id,Q,s,H,Bd,_,h=>fun hN A ι a w hst=>wp_exit ⟨ι,s,H,Bd,h,hN,hst,Keep.refl A w,Agr.refl _ _,NI.refl _⟩
 | .ret,Q,s,H,Bd,_,h=>fun hN A ι a w hst=>wp_ret ⟨ι,s,H,Bd,h,hN,hst,Keep.refl A w,Agr.refl _ _,NI.refl _⟩
 | .region id ops false,Q,s,H,Bd,hp,h=>fun hN A ι a w hst=>by
  unfold vq at h
  simp only[plansOK]at hp
  split at h
  ·rename_i t hl
   rw[hl]at hp
   simp only[Bool.and_eq_true,decide_eq_true_eq]at hp
   refine wp_region_list (vopsJ_sound hP t ops.toList s H Bd _ hp.1 h A ι a w hst fun s' H' Bd' ι' a' w' h1 _ h2 h3 h4 h5 h6=> ?_)
   rw[hp.2,List.drop_of_length_le (by simp)]
   exact⟨ι',s',H',Bd',h1,Nat.le_trans hN h2,h3,h4,fun n hn=>h5 n (Nat.lt_of_lt_of_le hn hN),h6⟩
  ·refine wp_region_list (vops_sound hP ops.toList s H Bd h A ι a w hst fun s' H' Bd' ι' a' w' h1 h2 h3 h4 h5 h6=> ?_)
   exact⟨ι',s',H',Bd',h1,Nat.le_trans hN h2,h3,h4,fun n hn=>h5 n (Nat.lt_of_lt_of_le hn hN),h6⟩
 | .region id ops true,Q,s,H,Bd,hp,h=>by
  unfold vq at h
  simp only[plansOK]at hp
  split at h
  ·rename_i plan hl
   rw[hl]at hp
   exact tr_draw hP E _ plan (of_decide_eq_true hp) h
  ·exact h
 | .rangeFunc ..,_,_,_,_,_,h=>h
 | .scope _,_,_,_,_,_,h=>h
 | .label _,_,_,_,_,_,h=>h
 | .goto _,_,_,_,_,_,h=>h
 | .refuse _,_,_,_,_,_,h=>h
section
variable {P:Program} (E:Env P) (PL:List (Nat×List Nat×List Stp×JT)) (N0:Nat) (Q:APost) (s:List Value) (H:AH) (Bd:Nat)
@[go_sem ↓] theorem vq_skip:vq E PL N0 .skip Q s H Bd=Q .normal s H Bd:=(rfl)
@[go_sem ↓] theorem vq_seq (x y:Code):vq E PL N0 (.seq x y) Q s H Bd=vq E PL N0 x (thenQ (selT (isLp x) (Tr P N0 y Q) (vq E PL N0 y Q)) Q) s H Bd:=(rfl)
@[go_sem ↓] theorem vq_cond (c:Operand) (x y:Code):vq E PL N0 (.cond c x y) Q s H Bd=Yld (abool (ev s c)) fun b=>Cnd b (vq E PL N0 x Q s H Bd) (vq E PL N0 y Q s H Bd):=by
 simp only[vq]
 cases ev s c <;>simp[abool,Yld]
@[go_sem ↓] theorem vq_block (id:Nat) (c:Code):vq E PL N0 (.block id c) Q s H Bd=vq E PL N0 c (inBlockQ id Q) s H Bd:=(rfl)
@[go_sem ↓] theorem vq_loop (c:Code):vq E PL N0 (.loop c) Q s H Bd=Tr P N0 (.loop c) Q s H Bd:=(rfl)
@[go_sem ↓] theorem vq_exit (id:Nat):vq E PL N0 (.exit id) Q s H Bd=Q (.exit id) s H Bd:=(rfl)
@[go_sem ↓] theorem vq_ret:vq E PL N0 .ret Q s H Bd=Q .ret s H Bd:=(rfl)
def regn{P:Program}(E:Env P)(t:Option JT)(ops:List Oper)(s:List Value)(H:AH)(Bd:Nat)(K:List Value→AH→Nat→Prop):Prop:=
 match t with
 |some t=>vopsJ E ops t ops s H Bd K
 |none=>vops E ops ops s H Bd K
@[go_sem ↓] theorem vq_region (id:Nat) (ops:List Oper):vq E PL N0 (.region id ops.toArray false) Q s H Bd=regn E (lookJ PL id) ops (idS s) H Bd (Q .normal):=by
 simp only[vq,regn,idS]
@[congr] theorem regn_congr{t t':Option JT}(h:t=t')(ops:List Oper)(K:List Value→AH→Nat→Prop):regn E t ops s H Bd K=regn E t' ops s H Bd K:=by rw[h]
@[go_sem ↓] theorem regn_some (t:JT) (ops:List Oper) (K:List Value→AH→Nat→Prop):regn E (some t) ops s H Bd K=vopsJ E ops t ops (idS s) H Bd K:=(rfl)
@[go_sem ↓] theorem regn_none (ops:List Oper) (K:List Value→AH→Nat→Prop):regn E none ops s H Bd K=vops E ops ops (idS s) H Bd K:=(rfl)
@[push_cast] theorem lookJ_cons(i:Nat)(o:List Nat)(p:List Stp)(t:JT)(r:List (Nat×List Nat×List Stp×JT))(j:Nat):lookJ ((i,o,p,t)::r) j=if j=i then some t else lookJ r j:=(rfl)
@[push_cast] theorem lookJ_nil(j:Nat):lookJ [] j=none:=(rfl)
section
variable (ops rest:List Oper) (K:List Value→AH→Nat→Prop)
@[congr] theorem vopsJ_congr{s s':List Value}{H H':AH}{Bd Bd':Nat}(h:s=s')(hH:H=H')(hB:Bd=Bd')(t:JT):vopsJ E ops t rest s H Bd K=vopsJ E ops t rest s' H' Bd' K:=by rw[h,hH,hB]
@[go_sem ↓] theorem vopsJ_nil (l:List Oper):vopsJ E ops .nil l s H Bd K=K s H Bd:=(rfl)
@[go_sem ↓] theorem vopsJ_k0 (t:JT) (l:List Oper):vopsJ E ops (.k 0 t) l s H Bd K=vopsJ E ops t l s H Bd K:=(rfl)
@[go_sem] theorem vopsJ_op(n:Nat)(t:JT)(d:Option Nat)(op:Op)(ty:TypeId)(p:String)(af:Array Edge):vopsJ E ops (.k (n+1) t) (⟨d,op,ty,p,af,none⟩::rest) s H Bd K=
  astep E ⟨d,op,ty,p,af,none⟩ s H Bd fun v H Bd=>vopsJ E ops (.k n t) rest (idS (sput s d v)) H Bd K:=(rfl)
@[go_sem] theorem vopsJ_guard(n:Nat)(t:JT)(d:Option Nat)(op:Op)(ty:TypeId)(p:String)(af:Array Edge)(j:Nat)(want:Bool):vopsJ E ops (.k (n+1) t) (⟨d,op,ty,p,af,some (j,want)⟩::rest) s H Bd K=
  guardK (agard ops s j) want (astep E ⟨d,op,ty,p,af,some (j,want)⟩ s H Bd fun v H Bd=>vopsJ E ops (.k n t) rest (idS (sput s d v)) H Bd K) (vopsJ E ops (.k n t) rest (idS (sput s d undef)) H Bd K):=by
 simp only[JT.k,vopsJ,guardK,idS];rfl
def dropL:Nat→List Oper→List Oper
 |0,l=>l
 |_+1,[]=>[]
 |n+1,_::l=>dropL n l
theorem dropL_eq:∀(n:Nat) (l:List Oper),l.drop n=dropL n l
 |0,l=>rfl
 |_+1,[]=>rfl
 |n+1,_::l=>by rw[dropL,←dropL_eq n l];rfl
@[go_sem ↓] theorem dropL_z (l:List Oper):dropL 0 l=l:=(rfl)
@[go_sem ↓] theorem dropL_s (n:Nat) (o:Oper) (l:List Oper):dropL (n+1) (o::l)=dropL n l:=(rfl)
def JS(want:Bool)(p:Prop)(X K:Bool→Prop):Prop:=JE want p X K
@[congr] theorem JS_congr{p p':Prop}(h:p=p')(want:Bool)(X K:Bool→Prop):JS want p X K=JS want p' X K:=by rw[h]
def JX(X K:Bool→Prop):Prop:=∃r:Bool,X r∧K r
def JU(want:Bool)(p:Prop)(X K:Bool→Prop):Prop:=JE want p X K
def JR(E:Env P)(ops:List Oper)(t:JT)(l:List Oper)(s:List Value)(H:AH)(Bd:Nat)(K:List Value→AH→Nat→Prop):Prop:=vopsJ E ops t l s H Bd K
@[congr] theorem JR_congr(t:JT){l l':List Oper}{s s':List Value}(hl:l=l')(hs:s=s'):JR E ops t l s H Bd K=JR E ops t l' s' H Bd K:=by rw[hl,hs]
@[go_sem] theorem JR_eq(t:JT)(l:List Oper):JR E ops t l s H Bd K=vopsJ E ops t l (idS s) H Bd K:=(rfl)
def gKs(pg:Option (Nat×Bool))(s:List Value)(A B:Prop):Prop:=gK pg s A B
@[go_sem ↓] theorem gKs_none (A B:Prop):gKs none s A B=A:=(rfl)
def gKv(v:Value)(w:Bool)(A B:Prop):Prop:=
 match v with
 | .bool b=>Cnd (b==w) A B
 | .tuple _=>B
 |_=>False
@[congr] theorem gKv_congr{v v':Value}(h:v=v')(w:Bool)(A B:Prop):gKv v w A B=gKv v' w A B:=by rw[h]
@[go_sem ↓] theorem gKs_some (c:Nat) (w:Bool) (A B:Prop):gKs (some (c,w)) s A B=gKv (sget s c) w A B:=(rfl)
@[go_sem ↓] theorem gKv_bool (b w:Bool) (A B:Prop):gKv (.bool b) w A B=Cnd (b==w) A B:=(rfl)
@[go_sem] theorem vopsJ_grp(want:Bool)(c d n:Nat)(D:List Nat)(pd:Nat)(pg:Option (Nat×Bool))(g t:JT)(l:List Oper):vopsJ E ops (.grp want c d n D pd pg g t) l s H Bd K=
  Yld (abool (sget s c)) fun b=>JS want (PB b) (fun r=>vopsJ E ops g l (idS s) H Bd fun s' H' Bd'=>H'=H∧Bd'=Bd∧sget s' d= .bool r)
   fun r=>gKs pg (forget D s) (JR E ops t (dropL (n+1) l) (sset (forget D s) pd (.bool r)) H Bd K) (JR E ops t (dropL (n+1) l) (sset (forget D s) pd undef) H Bd K):=by
 simp only[vopsJ,dropL_eq];rfl
end
@[go_sem ↓] theorem forget_nil:forget [] s=s:=(rfl)
@[go_sem ↓] theorem forget_cons (d:Nat) (D:List Nat):forget (d::D) s=forget D (sset s d unk):=(rfl)
@[congr] theorem JU_congr{p p':Prop}(h:p=p')(want:Bool)(X K:Bool→Prop):JU want p X K=JU want p' X K:=by rw[h]
@[go_sem high] theorem JS_tT (X K:Bool→Prop):JS true True X K=JX X K:=by simp[JS,JE,JX]
@[go_sem high] theorem JS_tF (X K:Bool→Prop):JS true False X K=K false:=by simp[JS,JE]
@[go_sem high] theorem JS_fT (X K:Bool→Prop):JS false True X K=K true:=by simp[JS,JE]
@[go_sem high] theorem JS_fF (X K:Bool→Prop):JS false False X K=JX X K:=by simp[JS,JE,JX]
@[go_sem low] theorem JS_eq (want:Bool) (p:Prop) (X K:Bool→Prop):JS want p X K=JU want (Kn p) X K:=(rfl)
def JH(h:Prop)(c:Bool)(X K:Bool→Prop):Prop:=∃r:Bool,(h→X r)∧(¬h→r=c)∧K r
@[go_sem high] theorem JU_tT (X K:Bool→Prop):JU true True X K=JX X K:=by simp[JU,JE,JX]
@[go_sem high] theorem JU_fT (X K:Bool→Prop):JU false True X K=K true:=by simp[JU,JE]
@[go_sem high] theorem JU_fF (X K:Bool→Prop):JU false False X K=JX X K:=by simp[JU,JE,JX]
@[go_sem] theorem JU_fn(p:Prop)(X K:Bool→Prop):JU false (¬p) X K=JH p true X K:=by
 by_cases h:p <;>simp[JU,JE,JH,h]
@[go_sem low] theorem JU_f (p:Prop) (X K:Bool→Prop):JU false p X K=JH (¬p) true X K:=by
 by_cases h:p <;>simp[JU,JE,JH,h]
@[go_sem low] theorem JU_t (p:Prop) (X K:Bool→Prop):JU true p X K=JH p false X K:=by
 by_cases h:p <;>simp[JU,JE,JH,h]
@[congr] theorem JH_congr{p:Prop}{X X':Bool→Prop}(c:Bool)(K:Bool→Prop)(h:p→∀r,X r=X' r):JH p c X K=JH p c X' K:=by
 unfold JH
 refine propext ⟨fun⟨r,a,b⟩=>⟨r,fun hp=>h hp r▸a hp,b⟩,fun⟨r,a,b⟩=>⟨r,fun hp=>(h hp r).symm▸a hp,b⟩⟩
@[congr] theorem JX_congr{X X':Bool→Prop}(K:Bool→Prop)(h:∀r,X r=X' r):JX X K=JX X' K:=by
 unfold JX
 simp only[h]
@[go_sem] theorem JX_eq(e:Bool)(K:Bool→Prop):JX (fun r=>e=r) K=K e:=by simp[JX]
@[go_sem] theorem JH_and(h q:Prop)(c:Bool)(Y K:Bool→Prop):JH h c (fun r=>q∧Y r) K=(Imp h q∧JH h c Y K):=by
 unfold JH Imp
 refine propext ⟨fun⟨r,a,b⟩=>⟨fun hp=>(a hp).1,r,fun hp=>(a hp).2,b⟩,fun⟨k,r,a,b⟩=>⟨r,fun hp=>⟨k hp,a hp⟩,b⟩⟩
@[go_sem] theorem JH_eqA(h:Prop)[Decidable h](e:Bool)(K:Bool→Prop):JH h false (fun r=>e=r) K=K (decide h&&e):=by
 by_cases hp:h <;>simp[JH,hp]
@[go_sem] theorem JH_eqO(p:Prop)[Decidable p](e:Bool)(K:Bool→Prop):JH (¬p) true (fun r=>e=r) K=K (decide p||e):=by
 by_cases hp:p <;>simp[JH,hp]
@[go_sem low] theorem JH_eqN (p:Prop) [Decidable p] (e:Bool) (K:Bool→Prop):JH p true (fun r=>e=r) K=K (!decide p||e):=by
 by_cases hp:p <;>simp[JH,hp]
def lenN(l:List Oper):Nat:=l.length
@[push_cast] theorem lenN_nil:lenN []=0:=(rfl)
@[push_cast] theorem lenN_cons(o:Oper)(l:List Oper):lenN (o::l)=lenN l+1:=(rfl)
def drawn{P:Program}(E:Env P)(N0:Nat)(pl:Option (List Stp))(id:Nat)(ops:List Oper)(n:Nat)(Q:APost)(s:List Value)(H:AH)(Bd:Nat):Prop:=
 match pl with
 |some plan=>vd E ops Bd plan (idS s) H (Bd+n) [] [] (Q .normal)
 |none=>Tr P N0 (.region id ops.toArray true) Q s H Bd
@[go_sem ↓] theorem vq_draw (id:Nat) (ops:List Oper):vq E PL N0 (.region id ops.toArray true) Q s H Bd=drawn E N0 (lookP PL id) id ops (lenN ops) Q s H Bd:=by
 have hl:lenN ops=ops.length:=(rfl)
 simp only[vq,drawn,idS,hl,List.size_toArray]
@[go_sem ↓] theorem drawn_some (plan:List Stp) (id n:Nat) (ops:List Oper):drawn E N0 (some plan) id ops n Q s H Bd=vd E ops Bd plan (idS s) H (Bd+n) [] [] (Q .normal):=(rfl)
@[congr] theorem drawn_congr{pl pl':Option (List Stp)}{n n':Nat}(h:pl=pl')(hn:n=n')(id:Nat)(ops:List Oper):drawn E N0 pl id ops n Q s H Bd=drawn E N0 pl' id ops n' Q s H Bd:=by rw[h,hn]
@[push_cast] theorem lookP_cons(i:Nat)(o:List Nat)(p:List Stp)(t:JT)(r:List (Nat×List Nat×List Stp×JT))(j:Nat):lookP ((i,o,p,t)::r) j=if j=i then some p else lookP r j:=(rfl)
end
@[push_cast] theorem Le_rfl(H:AH):Le H H=True:=eq_true (Le.refl H)
theorem Le_upd{H G:AH}{B n:Nat}(hb:HB H B)(b:Option Blk)(h:B≤n):Le H (upd G n b)=Le H G:=by
 refine propext ⟨fun k m c hm=> ?_,fun k m c hm=> ?_⟩
 all_goals
  have hne:m≠n:=by
   intro e
   subst e
   rw[hb.fresh m h]at hm
   cases hm
 ·have:=k m c hm
  rwa[upd_ne _ _ hne]at this
 ·rw[upd_ne _ _ hne]
  exact k m c hm
theorem and_pos{p q:Prop}(h:p):(p∧q)=q:=by simp[h]
theorem HB.lt{H:AH}{B n:Nat}(hb:HB H B){b:Blk}(h:H n=some b):n<B:=by
 rcases Nat.lt_or_ge n B with h1|h1
 ·exact h1
 ·rw[hb.fresh n h1]at h;cases h
@[go_sem ↓] theorem astoreK_eq (P:Program) (t:TypeId) (H:AH) (n off:Nat) (vs:List Value) (K:AH→Prop):astoreK P t H n off vs K=
  Yld (H n) fun b=>(b.own=true∧ask P (sizeOf t)=some vs.length∧vs.all cellOK=true∧off+vs.length≤b.cells.length)∧K (upd H n (some ⟨lset b.cells off vs,true⟩)):=(rfl)
theorem zmake_len(c:Nat)(z:List Value):(zmake c z).length=c*z.length:=by simp[zmake]
theorem amake_eq{P:Program}{t e:TypeId}{k:Nat}{z:Value}(h:ask P (underlying t)=some (.slice e))(hk:ask P (sizeOf e)=some k)(hz:ask P (zeroValue e)=some z)(h1:(cellsL z).length=k)(h2:(cellsL z).all plainV=true)(h3:e<P.types.size)(q q':IntKind)(n c:Int):
  amake P t (.int q n) (.int q' c)=if 0≤n∧n≤c∧c≤1073741824 then some (k,zmake c.toNat (cellsL z),n.toNat,c.toNat)else none:=by
 simp[amake,h,hk,hz,h1,h2,h3]
@[go_sem ↓] theorem aresults_cell (P:Program) (s:List Value) (H:AH) (a:Nat) (t:TypeId) (rs:List ResultVar):aresults P (.cell a t::rs) s H=aptrO (sget s a) fun n off=>(H n).bind fun b=>(aload P t b off).bind fun v=>(aresults P rs s H).map (v:: ·):=by
 have key:aresult P s H (.cell a t)=aptrO (sget s a) fun n off=>(H n).bind fun b=>aload P t b off:=by
  simp only[aresult,aptrO]
  split
  ·split <;>simp_all
  ·split <;>simp_all
 simp only[aresults,key]
 generalize aresults P rs s H=q
 unfold aptrO
 generalize sget s a=y
 cases y with
 |pointer p=>
  cases p with
  |none=>rfl
  |some p=>
   obtain⟨n,off,sp⟩:=p
   cases sp with
   |some _=>rfl
   |none=>
    simp only
    cases H n with
    |none=>rfl
    |some b=>
     simp only[Option.bind_some]
     cases aload P t b off with
     |none=>rfl
     |some v=>cases q <;>rfl
 |_=>rfl
attribute [push_cast] Nat.zero_add
attribute [push_cast] Bool.and_self Bool.true_and Bool.and_true
attribute [push_cast] Int.toNat_natCast Nat.mul_one Nat.add_zero Value.int.injEq Value.bool.injEq Value.string.injEq true_and and_true decide_eq_true_eq decide_eq_false_iff_not if_true if_false
theorem vq_conv{P:Program}(hP:POk P){E:Env P}{PL:List (Nat×List Nat×List Stp×JT)}{N0:Nat}{c:Code}{Q:APost}{s:List Value}{H:AH}{Bd:Nat}(hp:plansOK PL c=true)(h:vq E PL N0 c Q s H Bd):Tr P N0 c Q s H Bd:=vq_sound hP PL c Q s H Bd hp h
theorem fn_pure{P:Program}(hP:POk P)(E:Env P)(PL:List (Nat×List Nat×List Stp×JT)){f:FuncId}{fn:Func}{c:Code}{args:List Value}{H:AH}{Bd:Nat}{K:Value→AH→Nat→Prop}(r0:Value)(hK:K r0 H Bd)
  (hf:P.funcs[f]? =some fn) (hb:fn.body=some c) {rs:List ResultVar} (hrs:fn.results.toList=rs) {m:Nat} (hm:fn.ntmps=m) (hm2:args.length≤m) (hent:Enters P f) (hp:plansOK PL c=true) (hnb:(∀v∈args,NB Bd v)→HB H Bd→NB Bd r0)
  (h:HB H Bd→(∀v∈args,NB Bd v)→vq E PL Bd c (pureQ P rs H r0) (aS m undef (idx 0 args)) H Bd):SCalls P f args H Bd K:=by
 subst hm
 rw[←start_aS args _ hm2]at h
 refine scalls_of_tr hf hb hrs hent fun hh ha=>(vq_sound hP PL c _ _ H Bd hp (h hh ha)).conv fun e s' H' Bd' hle hq=> ?_
 have key:PureQ P rs H r0 s' H' Bd'→RetQ P rs H Bd K s' H' Bd':=fun⟨vs,h1,h2,h3⟩=>
  ⟨vs,h1,r0,_,H,Bd,h3,fun n b hn (hx:H n=none)=>(by rw[hx]at hn;cases hn),h2,Nat.le_refl _, .inr ⟨hnb ha hh,hh,hK⟩⟩
 cases e with
 |normal=>exact key hq
 |ret=>exact key hq
 |_=>exact hq.elim
def PubL(H:AH)(S:Nat→Prop):List Value→List Value→Prop
 |[],[]=>True
 |x::xs,y::ys=>(y=unk∨Pub H S x y)∧PubL H S xs ys
 |_,_=>False
theorem PubL.get{H:AH}{S:Nat→Prop}:∀(s s':List Value),PubL H S s s'→s.length=s'.length∧∀(i:Nat) x y,s[i]? =some x→s'[i]? =some y→y=unk∨Pub H S x y
 |[],[],_=>⟨rfl,fun i x y h=>by simp at h⟩
 |x::xs,y::ys,h=>by
  obtain⟨h1,h2⟩:=PubL.get xs ys h.2
  refine⟨by simp[h1],fun i a b ha hb=> ?_⟩
  cases i with
  |zero=>
   simp only[List.getElem?_cons_zero,Option.some.injEq]at ha hb
   subst ha;subst hb
   exact h.1
  |succ i=>exact h2 i a b (by simpa using ha) (by simpa using hb)
 |[],_::_,h=>h.elim
 |_::_,[],h=>h.elim
theorem Tr.pub{P:Program}{N0:Nat}{c:Code}{Q:APost}{s s':List Value}{H H':AH}{Bd Bd':Nat}(S:Nat→Prop)(hs:PubL H S s s')(hle:Le H' H)(hS:∀n b,H' n=some b→¬S n)(hB:Bd≤Bd')(h:Tr P N0 c Q s' H' Bd'):
  Tr P N0 c Q s H Bd:=by
 intro hN A ι a w hst
 obtain⟨h1,h2⟩:=PubL.get s s' hs
 have hst':St A (frz ι H S) s' H' Bd' a w:=by
  refine⟨(hst.rel.pub hle hS).raise hB,⟨by rw[←h1];exact hst.slots.1,fun i v v' g1 g2=> ?_⟩,hst.defers⟩
  have hlt:i<s.length:=by have:=(List.getElem?_eq_some_iff.1 g1).1;omega
  rcases h2 i s[i] v (List.getElem?_eq_getElem hlt) g1 with rfl|hp
  ·exact .unk _
  ·exact VR.pub hst.rel hp (hst.slots.2 i _ v' (List.getElem?_eq_getElem hlt) g2)
 refine wp_mono (h (Nat.le_trans hN hB) A (frz ι H S) a w hst') fun e a' w' ⟨ι',s2,H2,Bd2,g1,g2,g3,g4,g5,g6⟩=> ?_
 refine⟨ι',s2,H2,Bd2,g1,g2,g3,(Keep.refl A w (ext_frz ι H S).fz (hst.rel.frzA S)).trans g4,g5,NI.trans ?_ g6⟩
 exact(NI.refl H).sub hle
end Go.SC
namespace Go.SC
attribute [go_sem] Nat.reduceAdd Nat.reduceSub Nat.reduceMul Nat.reduceEqDiff Nat.reduceLeDiff Int.reduceNeg Int.reduceAdd Int.reduceSub Int.reduceLE Int.reduceLT Int.reduceToNat Nat.reduceLT
attribute [go_sem] reduceCtorEq false_or or_false true_or or_true ne_eq not_true_eq_false not_false_eq_true Nat.lt_irrefl eq_self decide_true decide_false Bool.not_true Bool.not_false Bool.decide_eq_true Bool.false_or Bool.or_false Bool.true_or Bool.or_true Bool.true_and Bool.and_true Bool.false_and Bool.and_false Bool.decide_and Bool.decide_or
attribute [go_sem ↓] reduceIte
@[push_cast] theorem amake_T{P:Program}{t e k:Nat}{z:List Value}[h:TySl P t e k z](q q':IntKind)(n c:Int):amake P t (.int q n) (.int q' c)=if 0≤n∧n≤c∧c≤1073741824 then some (k,zmake c.toNat z,n.toNat,c.toNat)else none:=by
 obtain⟨z0,h1,h2⟩:=h.hz
 subst h2
 exact amake_eq h.h h.hk h1 h.zk h.zp h.lt q q' n c
def aeqK(P:Program)(xs ys:Array Value):List (Nat×Nat)→Option Bool
 |[]=>some true
 |(t,o)::r=>
  match xs[o]?,ys[o]? with
  |some a,some b=>
   match acell P t a b,aeqK P xs ys r with
   |some q,some p=>some (q&&p)
   |_,_=>none
  |_,_=>none
section
variable {P:Program}
end
section
variable {H:AH} {S:Nat→Prop}
@[go_sem high] theorem Pub_rfl (v:Value):Pub H S v v=True:=eq_true (.same v)
def PubC(H:AH)(S:Nat→Prop):List Value→List Value→Prop
 |[],[]=>True
 |x::xs,y::ys=>Pub H S x y∧PubC H S xs ys
 |_,_=>False
@[push_cast] theorem PubC_nil:PubC H S [] []=True:=(rfl)
@[push_cast] theorem PubC_cons(x y:Value)(xs ys:List Value):PubC H S (x::xs) (y::ys)=(Pub H S x y∧PubC H S xs ys):=(rfl)
theorem PubC.get:∀(xs ys:List Value),PubC H S xs ys→xs.length=ys.length∧∀(i:Nat) v u,xs[i]? =some v→ys[i]? =some u→Pub H S v u
 |[],[],_=>⟨rfl,fun i x y h=>by simp at h⟩
 |x::xs,y::ys,h=>by
  obtain⟨h1,h2⟩:=PubC.get xs ys h.2
  refine⟨by simp[h1],fun i a b ha hb=> ?_⟩
  cases i with
  |zero=>
   simp only[List.getElem?_cons_zero,Option.some.injEq]at ha hb
   subst ha;subst hb
   exact h.1
  |succ i=>exact h2 i a b (by simpa using ha) (by simpa using hb)
 |[],_::_,h=>h.elim
 |_::_,[],h=>h.elim
theorem PubC.of:∀(xs ys:List Value),xs.length=ys.length→(∀(i:Nat) v u,xs[i]? =some v→ys[i]? =some u→Pub H S v u)→PubC H S xs ys
 |[],[],_,_=>trivial
 |x::xs,y::ys,h,k=>⟨k 0 x y rfl rfl,PubC.of xs ys (by simpa using h) fun i v u h1 h2=>k (i+1) v u (by simpa using h1) (by simpa using h2)⟩
 |[],_::_,h,_=>by simp at h
 |_::_,[],h,_=>by simp at h
@[push_cast] theorem Pub_agg(xs ys:List Value):Pub H S (.agg xs.toArray) (.agg ys.toArray)=PubC H S xs ys:=by
 refine propext ⟨fun h=> ?_,fun h=> ?_⟩
 ·generalize hx:Value.agg xs.toArray=x at h
  generalize hy:Value.agg ys.toArray=y at h
  cases h with
  |same=>rw[←hx]at hy;cases hy;exact PubC.of _ _ rfl fun i v u h1 h2=>by rw[h1]at h2;cases h2;exact .same _
  |agg hs h=>cases hx;cases hy;exact PubC.of _ _ (by simpa using hs) fun i v u h1 h2=>h i v u (by simpa using h1) (by simpa using h2)
  |_=>cases hx
 ·obtain⟨h1,h2⟩:=PubC.get _ _ h
  exact .agg (by simpa using h1) fun i v u g1 g2=>h2 i v u (by simpa using g1) (by simpa using g2)
@[push_cast] theorem Pub_tuple(xs ys:List Value):Pub H S (.tuple xs.toArray) (.tuple ys.toArray)=PubC H S xs ys:=by
 refine propext ⟨fun h=> ?_,fun h=> ?_⟩
 ·generalize hx:Value.tuple xs.toArray=x at h
  generalize hy:Value.tuple ys.toArray=y at h
  cases h with
  |same=>rw[←hx]at hy;cases hy;exact PubC.of _ _ rfl fun i v u h1 h2=>by rw[h1]at h2;cases h2;exact .same _
  |tuple hs h=>cases hx;cases hy;exact PubC.of _ _ (by simpa using hs) fun i v u h1 h2=>h i v u (by simpa using h1) (by simpa using h2)
  |_=>cases hx
 ·obtain⟨h1,h2⟩:=PubC.get _ _ h
  exact .tuple (by simpa using h1) fun i v u g1 g2=>h2 i v u (by simpa using g1) (by simpa using g2)
@[push_cast] theorem Pub_int(k q:IntKind)(a b:Int):Pub H S (.int k a) (.int q b)=(k=q∧a=b):=by
 refine propext ⟨fun h=>by cases h;exact⟨rfl,rfl⟩,fun⟨h1,h2⟩=>by subst h1;subst h2;exact .same _⟩
@[push_cast] theorem Pub_bool(a b:Bool):Pub H S (.bool a) (.bool b)=(a=b):=by
 refine propext ⟨fun h=>by cases h;rfl,fun h=>by subst h;exact .same _⟩
variable {α:Type} [Enc α]
theorem pub_flat{n o len c k:Nat}{b:Blk}{xs:List α}(hb:H n=some b)(ho:b.own=true)(hc:(b.cells.drop o).take (xs.length*Enc.k α)=flat xs)(hS:S n)(hk:Enc.k α=k)(hl:len=xs.length):
  Pub H S (.slice (some ⟨n,o,some k⟩) len c) (lst xs):=by
 subst hk;subst hl
 have hle:o+xs.length*Enc.k α≤b.cells.length∨xs.length*Enc.k α=0:=by
  have:=congrArg List.length hc
  rw[flat_len,List.length_take,List.length_drop]at this
  omega
 rcases Nat.eq_zero_or_pos (xs.length*Enc.k α)with hz|hp
 ·have hx:xs.length=0:=by
   rcases Nat.mul_eq_zero.1 hz with h|h
   ·exact h
   ·have:=Enc.pos (α:=α);omega
  obtain rfl:=List.eq_nil_of_length_eq_zero hx
  exact .empty
 refine .lst hS hb ho (by simp) (by omega) (fun i x hi=> ?_) fun i j r v u h1 h2 h3=> ?_
 ·simp only[List.getElem?_toArray,List.getElem?_map]at hi
  cases hx:xs[i]? with
  |none=>rw[hx]at hi;cases hi
  |some y=>
   rw[hx]at hi
   simp only[Option.map_some,Option.some.injEq]at hi
   exact⟨_,hi.symm,by simp[enc_len]⟩
 ·simp only[List.getElem?_toArray,List.getElem?_map]at h1
  cases hx:xs[i]? with
  |none=>rw[hx]at h1;cases h1
  |some y=>
   rw[hx]at h1
   simp only[Option.map_some,Option.some.injEq,Value.agg.injEq]at h1
   subst h1
   have hi:=(List.getElem?_eq_some_iff.1 hx).1
   have hj:j<Enc.k α:=by
    have:=(Array.getElem?_eq_some_iff.1 h3).1
    simpa[enc_len]using this
   have e:=flat_get xs i y hx
   have hm:i*Enc.k α+Enc.k α≤xs.length*Enc.k α:=by
    have:i*Enc.k α+Enc.k α=(i+1)*Enc.k α:=(Nat.succ_mul _ _).symm
    rw[this];exact Nat.mul_le_mul_right _ hi
   have h4:(enc y)[j]? =some u:=by simpa using h3
   rw[←e,←hc,List.getElem?_take,if_pos hj,List.getElem?_drop,List.getElem?_take,if_pos (by omega),List.getElem?_drop]at h4
   rw[show o+(i*Enc.k α+j)=o+i*Enc.k α+j by omega,h2]at h4
   cases h4
   exact .same _
theorem pub_whole{n c k len:Nat}{xs:List α}(hb:H n=some ⟨flat xs,true⟩)(hS:S n)(hk:Enc.k α=k)(hl:len=xs.length):Pub H S (.slice (some ⟨n,0,some k⟩) len c) (lst xs):=
 pub_flat hb rfl (by rw[List.drop_zero,flat_all]) hS hk hl
@[push_cast] theorem Pub_nil:Pub H S (.slice none 0 0) (lst ([]:List α))=True:=eq_true .empty
end
theorem toArr_inj{l k:List Value}:(l.toArray=k.toArray)=(l=k):=propext ⟨fun h=>List.toArray_inj h,fun h=>by rw[h]⟩
theorem agg_nb{α:Type}[Enc α](Bd:Nat)(x:α):NB Bd (.agg (enc x).toArray):= .agg fun i v h=>enc_nb x Bd v (List.mem_of_getElem? (by simpa using h))
def NBs(Bd:Nat):List Value→Prop
 |[]=>True
 |x::xs=>NB Bd x∧NBs Bd xs
theorem tup_nb{Bd:Nat}{l:List Value}(h:NBs Bd l):NB Bd (.tuple l.toArray):=by
 refine .tuple fun i v hi=> ?_
 have hm:v∈l:=List.mem_of_getElem? (by simpa using hi)
 clear hi
 induction l with
 |nil=>cases hm
 |cons x xs ih=>
  rcases List.mem_cons.1 hm with rfl|hm
  ·exact h.1
  ·exact ih h.2 hm
def bstr(xs:List UInt8):ByteArray:=⟨xs.toArray⟩
@[push_cast] theorem bstr_eq(xs ys:List UInt8):(bstr xs=bstr ys)=(xs=ys):=propext ⟨fun h=>by
 unfold bstr at h
 injection h with h
 exact List.toArray_inj h,fun h=>by rw[h]⟩
theorem anums_flat(xs:List UInt8):anums (flat xs)=some (xs.map fun x=>(x.toNat:Int)):=by
 induction xs with
 |nil=>rfl
 |cons x xs ih=>
  rw[flat_cons,enc_byte]
  simp only[List.cons_append,List.nil_append,anums,ih,Option.map_some,List.map_cons]
theorem strOfNums_bytes(xs:List UInt8):strOfNums (xs.map fun x=>(x.toNat:Int))=bstr xs:=by
 unfold strOfNums bstr
 congr 1
 congr 1
 rw[List.map_map]
 conv=>rhs;rw[←List.map_id xs]
 refine List.map_congr_left fun x _=> ?_
 simp
@[push_cast] theorem aconv_L{P:Program}{t u:Nat}[h:TyBy P t][h':TyS P u](H:AH)(xs:List UInt8):aconv P H t u (lst xs)=some (.string (bstr xs)):=by
 show astring P H t u (lst xs)=_
 have hc:acellsOf H 1 (lst xs)=some (xs.length,flat xs):=acellsOf_lst H xs
 simp only[astring,undBytes_T,undString_T,and_self,if_true,hc,anums_flat,Option.map_some,strOfNums_bytes]
theorem HB.no{H:AH}{B n:Nat}(hb:HB H B)(h:B≤n):(H n=none)=True:=eq_true (hb.fresh n h)
theorem free_T{H:AH}{B n:Nat}(hb:HB H B)(h:B≤n):free H n=True:=eq_true (hb.fresh n h)
theorem Le_updF{G G':AH}{m:Nat}(c:Option Blk)(h:free G m):Le G (upd G' m c)=Le G G':=by
 refine propext ⟨fun k n b hn=> ?_,fun k n b hn=> ?_⟩
 all_goals
  have hne:n≠m:=by
   intro e
   subst e
   rw[show G n=none from h]at hn
   cases hn
 ·have:=k n b hn
  rwa[upd_ne _ _ hne]at this
 ·rw[upd_ne _ _ hne]
  exact k n b hn
theorem free_upd{H:AH}{n m:Nat}{b:Option Blk}(h:m≠n):free (upd H n b) m=free H m:=by
 unfold free
 rw[upd_ne _ _ h]
def cellsAt(H:AH)(k:Nat)(v:Value):Option (List Value):=
 match v with
 | .pointer (some ⟨n,off,none⟩)=>(H n).bind fun b=>if off+k≤b.cells.length then some ((b.cells.drop off).take k)else none
 | .func (.method _) _ cs=>if k≤cs.size then some (cs.toList.take k)else none
 |_=>none
@[push_cast] theorem cellsAt_ptr(H:AH)(k n off:Nat):cellsAt H k (.pointer (some ⟨n,off,none⟩))=(H n).bind fun b=>if off+k≤b.cells.length then some ((b.cells.drop off).take k)else none:=(rfl)
@[push_cast] theorem cellsAt_vp(H:AH)(k:Nat)(cs:List Value):cellsAt H k (VP cs)=if k≤cs.length then some (cs.take k)else none:=by simp[cellsAt,VP]
def At(H:AH)(v:Value)(l:List Value):Prop:=
 (∃rest,v=VP (l++rest))∨∃n off b,v= .pointer (some ⟨n,off,none⟩)∧H n=some b∧off+l.length≤b.cells.length∧(b.cells.drop off).take l.length=l
theorem cellsAt_out{H:AH}{k:Nat}{v:Value}{l:List Value}(h:cellsAt H k v=some l)(hr:∀m fs cs,v= .func (.method m) fs cs→m= "" ∧fs= #[]):At H v l:=by
 unfold cellsAt at h
 split at h
 ·rename_i n off
  cases hb:H n with
  |none=>rw[hb]at h;cases h
  |some b=>
   rw[hb]at h
   simp only[Option.bind_some,Option.ite_none_right_eq_some,Option.some.injEq]at h
   obtain⟨hle,rfl⟩:=h
   have hl:((b.cells.drop off).take k).length=k:=by simp;omega
   exact .inr ⟨n,off,b,rfl,hb,by omega,by rw[hl]⟩
 ·rename_i m fs cs
  simp only[Option.ite_none_right_eq_some,Option.some.injEq]at h
  obtain⟨hle,rfl⟩:=h
  obtain⟨rfl,rfl⟩:=hr _ _ _ rfl
  exact .inl ⟨cs.toList.drop k,by rw[List.take_append_drop];simp[VP]⟩
 ·cases h
def vadd(v:Value)(o:Nat):Value:=
 match v with
 | .pointer (some ⟨n,off,none⟩)=> .pointer (some ⟨n,off+o,none⟩)
 | .func (.method _) _ cs=> .func (.method "") #[] (cs.extract o cs.size)
 |v=>v
theorem vadd_vp(cs:List Value)(o:Nat):vadd (VP cs) o=VP (cs.drop o):=by
 simp only[vadd,VP,List.extract_toArray,List.size_toArray,List.extract_eq_take_drop]
 rw[List.take_of_length_le (by simp)]
section
variable {H H':AH} {v:Value} {l:List Value}
theorem At.nil(h:At H v l):anilck v=some v:=by
 rcases h with⟨r,rfl⟩|⟨n,off,b,rfl,_⟩ <;>rfl
theorem At.fld(h:At H v l){P:Program}{t f o k:Nat}{a:Bool}[hf:TyF P t f o k a](ho:o≤l.length):afldAddr P t v f=some (vadd v o):=by
 rcases h with⟨r,rfl⟩|⟨n,off,b,rfl,_⟩
 ·rw[afldAddr_V,if_pos (by simp;omega),vadd_vp]
 ·rw[afldAddr_ptr];rfl
theorem At.off(h:At H v l){o k:Nat}(ho:o+k≤l.length)(ho':o<l.length)(P:Program){t:Nat}{a:Bool}{z:Value}[ht:TyZ P t k a z](hle:Le H H'):
  (∃cs,vadd v o=VP cs∧aload P t ⟨cs,false⟩ 0=aload P t ⟨l.drop o,false⟩ 0)∨∃n off b,vadd v o= .pointer (some ⟨n,off,none⟩)∧H' n=some b∧aload P t b off=aload P t ⟨l.drop o,false⟩ 0:=by
 have hk:=ht.hk
 have ha:=ht.ha
 rcases h with⟨r,rfl⟩|⟨n,off,b,rfl,hb,hl,ht'⟩
 ·refine .inl ⟨_,vadd_vp _ _,?_⟩
  unfold aload
  rw[ha,hk]
  cases a with
  |true=>
   simp only[Nat.zero_add,List.drop_zero,List.length_drop,List.length_append]
   by_cases hk0:0<k
   ·rw[if_pos ⟨hk0,by omega⟩,if_pos ⟨hk0,by omega⟩,List.drop_append_of_le_length (by omega),List.take_append_of_le_length (by simp;omega)]
   ·rw[if_neg (fun h=>hk0 h.1),if_neg (fun h=>hk0 h.1)]
  |false=>
   simp only[List.getElem?_drop,Nat.add_zero]
   rw[List.getElem?_append_left ho']
 ·refine .inr ⟨n,off+o,b,rfl,hle n b hb,?_⟩
  have hd:l.drop o=((b.cells.drop (off+o)).take (l.length-o)):=by
   conv=>lhs;rw[←ht']
   rw[List.drop_take,List.drop_drop]
  unfold aload
  rw[ha,hk,hd]
  cases a with
  |true=>
   simp only[Nat.zero_add,List.drop_zero,List.length_take,List.length_drop]
   by_cases hk0:0<k
   ·rw[if_pos ⟨hk0,by omega⟩,if_pos ⟨hk0,by omega⟩,List.take_take,Nat.min_eq_left (by omega)]
   ·rw[if_neg (fun h=>hk0 h.1),if_neg (fun h=>hk0 h.1)]
  |false=>
   simp only
   rw[List.getElem?_take,if_pos (by omega),List.getElem?_drop,Nat.add_zero]
theorem At.ld(h:At H v l){P:Program}{t o k:Nat}{a:Bool}{z:Value}[ht:TyZ P t k a z](ho:o+k≤l.length)(ho':o<l.length)(hle:Le H H'):
  aloadV P t H' (vadd v o)=aload P t ⟨l.drop o,false⟩ 0:=by
 rcases h.off ho ho' P (t:=t) hle with⟨cs,e1,e2⟩|⟨n,off,b,e1,e2,e3⟩
 ·rw[e1,aloadV_vp,e2]
 ·rw[e1,aloadV_ptr,e2,Option.bind_some,e3]
theorem vadd_zero(h:At H v l):vadd v 0=v:=by
 rcases h with⟨r,rfl⟩|⟨n,off,b,rfl,_⟩
 ·rw[vadd_vp,List.drop_zero]
 ·rfl
theorem At.cells(h:At H v l){k:Nat}(hk:k≤l.length)(hle:Le H H'):cellsAt H' k v=some (l.take k):=by
 rcases h with⟨r,rfl⟩|⟨n,off,b,rfl,hb,hl,ht'⟩
 ·rw[cellsAt_vp,if_pos (by simp;omega),List.take_append_of_le_length hk]
 ·rw[cellsAt_ptr,hle n b hb,Option.bind_some,if_pos (by omega),←ht',List.take_take,Nat.min_eq_left hk]
theorem At.fldL(h:At H v l){m:Nat}(hl:l.length=m){P:Program}{t f o k:Nat}{a:Bool}[hf:TyF P t f o k a](ho:o≤m):afldAddr P t v f=some (vadd v o):=h.fld (by omega)
theorem At.ldL(h:At H v l){m:Nat}(hl:l.length=m){P:Program}{t o k:Nat}{a:Bool}{z:Value}[ht:TyZ P t k a z](ho:o+k≤m)(ho':o<m)(hle:Le H H'):
  aloadV P t H' (vadd v o)=aload P t ⟨l.drop o,false⟩ 0:=h.ld (by omega) (by omega) hle
theorem At.ld0L(h:At H v l){m:Nat}(hl:l.length=m){P:Program}{t k:Nat}{a:Bool}{z:Value}[ht:TyZ P t k a z](ho:k≤m)(ho':0<m)(hle:Le H H'):
  aloadV P t H' v=aload P t ⟨l,false⟩ 0:=by
 have:=h.ld (P:=P) (t:=t) (o:=0) (by omega) (by omega) hle
 rwa[vadd_zero h,List.drop_zero]at this
theorem At.cellsL(h:At H v l){m:Nat}(hl:l.length=m){k:Nat}(hk:k≤m)(hle:Le H H'):cellsAt H' k v=some (l.take k):=h.cells (by omega) hle
theorem At.cellsOL(h:At H v l){m:Nat}(hl:l.length=m){k o:Nat}(hk:o+k≤m)(hle:Le H H'):cellsAt H' k (vadd v o)=some ((l.drop o).take k):=by
 have hk':o+k≤l.length:=by omega
 rcases h with⟨r,rfl⟩|⟨n,off,b,rfl,hb,hl,ht'⟩
 ·rw[vadd_vp,cellsAt_vp,if_pos (by simp;omega),List.drop_append_of_le_length (by omega),List.take_append_of_le_length (by simp;omega)]
 ·show cellsAt H' k (.pointer (some ⟨n,off+o,none⟩))=_
  have hd:l.drop o=((b.cells.drop (off+o)).take (l.length-o)):=by
   conv=>lhs;rw[←ht']
   rw[List.drop_take,List.drop_drop]
  rw[cellsAt_ptr,hle n b hb,Option.bind_some,if_pos (by omega),hd,List.take_take,Nat.min_eq_left (by omega)]
end
theorem NB.vpok{Bd:Nat}{v:Value}(h:NB Bd v):∀m fs cs,v= .func (.method m) fs cs→m= "" ∧fs= #[]:=by
 intro m fs cs e
 subst e
 cases h
 exact⟨rfl,rfl⟩
theorem agg_inj{l:List Value}{α:Type}[Enc α]{x:α}(h:Value.agg l.toArray= .agg (enc x).toArray):l=enc x:=by
 injection h with h
 exact List.toArray_inj h
theorem Le.drop{H0 G:AH}{n B:Nat}{b:Option Blk}(hb:HB H0 B)(hn:B≤n)(h:Le H0 G):Le H0 (upd G n b):=by rw[Le_upd hb b hn];exact h
theorem Tr.of_hb{P:Program}{N0:Nat}{c:Code}{Q:APost}{s:List Value}{H:AH}{Bd:Nat}(h:HB H Bd→Tr P N0 c Q s H Bd):Tr P N0 c Q s H Bd:=
 fun hN A ι a w hst=>h hst.rel.hb hN A ι a w hst
theorem Tr.sub{P:Program}{N0:Nat}{c:Code}{Q:APost}{s s':List Value}{H H':AH}{Bd Bd':Nat}(hs:Sub s H Bd s' H' Bd')(h:Tr P N0 c Q s' H' Bd'):Tr P N0 c Q s H Bd:=by
 intro hN A ι a w hst
 refine wp_mono (h (Nat.le_trans hN hs.2.2) A ι a w (hs.st hst)) fun e a' w' ⟨ι',s2,H2,Bd2,g1,g2,g3,g4,g5,g6⟩=> ?_
 exact⟨ι',s2,H2,Bd2,g1,g2,g3,g4,g5,NI.trans ((NI.refl H).sub hs.2.1) g6⟩
theorem Tr.fresh{P:Program}{N0:Nat}{c:Code}{Q:APost}{s:List Value}{H:AH}{Bd:Nat}(t k:Nat)(ht:sget s t= .slice none 0 0)(h:Tr P N0 c Q (sset s t (.slice (some ⟨Bd,0,some k⟩) 0 1)) (upd H Bd (some ⟨[],true⟩)) (Bd+1)):
  Tr P N0 c Q s H Bd:=by
 intro hN A ι a w hst
 have hb:ι Bd=none:=hst.rel.bound Bd (Nat.le_refl _)
 have hx:=ext_ren (.void) hb
 have hlt:t<s.length:=by
  rcases Nat.lt_or_ge t s.length with h|h
  ·exact h
  ·rw[sget_eq,List.getD_eq_getElem?_getD,List.getElem?_eq_none h]at ht;cases ht
 have hst':St A (ren ι Bd .void) (sset s t (.slice (some ⟨Bd,0,some k⟩) 0 1)) (upd H Bd (some ⟨[],true⟩)) (Bd+1) a w:=by
  refine⟨(hst.rel.raise (Nat.le_succ Bd)).void hb (Nat.lt_succ_self _),?_,hst.defers⟩
  rw[sset_eq]
  refine⟨by simp[hst.slots.1],fun i v v' g1 g2=> ?_⟩
  by_cases e:t=i
  ·subst e
   rw[List.getElem?_set_self hlt]at g1
   cases g1
   have hs:s[t]? =some (.slice none 0 0):=by
    rw[sget_eq,List.getD_eq_getElem?_getD,List.getElem?_eq_getElem hlt]at ht
    rw[List.getElem?_eq_getElem hlt];exact congrArg some ht
   have:=hst.slots.2 t _ v' hs g2
   cases this
   exact .sl ⟨_,ren_same _ _ _⟩ (Nat.le_refl _) (by simp) (by simp) (.inl rfl)
  ·rw[List.getElem?_set_ne e]at g1
   exact(hst.slots.2 i v v' g1 g2).mono hx (Fro.refl ι w)
 refine wp_mono (h (Nat.le_trans hN (Nat.le_succ _)) A _ a w hst') fun e a' w' ⟨ι',s2,H2,Bd2,g1,g2,g3,g4,g5,g6⟩=> ?_
 refine⟨ι',s2,H2,Bd2,g1,g2,g3,(Keep.refl A w).trans g4,fun n hn=> ?_,NI.trans ((NI.refl H).upd _ _) g6⟩
 rw[g5 n hn,ren_other _ _ (by omega)]
theorem tr_inv{P:Program}{N0:Nat}{c:Code}{Q:APost}{s:List Value}{H:AH}{Bd:Nat}{X:Type}(I:X→List Value→AH→Nat→Prop)(μ:X→Nat)(x0:X)(s1:List Value)(H1:AH)(B1:Nat)(hs:Sub s H Bd s1 H1 B1)(h0:I x0 s1 H1 B1)
  (round:∀x s H B,I x s H B→Bd≤B→HB H B→Tr P B c (thenQ (fun s' H' B'=>∃y s2 H2 B2,μ y<μ x∧Sub s' H' B' s2 H2 B2∧I y s2 H2 B2) Q) s H B):Tr P N0 (.loop c) Q s H Bd:=by
 intro hN
 refine tr_loop (X:=X×List Value×AH×Nat) (I:=fun x=>I x.1 x.2.1 x.2.2.1 x.2.2.2∧Bd≤x.2.2.2) (fun x=>x.2.1) (fun x=>x.2.2.1) (fun x=>x.2.2.2) (fun x=>μ x.1) (x0,s1,H1,B1) ⟨h0,hs.2.2⟩ hs ?_ hN
 rintro⟨x,s,H,B⟩ ⟨hI,hB⟩ hN0
 refine Tr.of_hb fun hb=>((round x s H B hI hB hb).lower hN0).mono fun e s' H' Bd' hq=> ?_
 obtain⟨hq,hle⟩:=hq
 cases e with
 |normal=>
  obtain⟨y,s2,H2,B2,h1,h2,h3⟩:=hq
  exact⟨(y,s2,H2,B2),⟨h3,Nat.le_trans hB (Nat.le_trans hle h2.2.2)⟩,h1,h2⟩
 |_=>exact hq
theorem tr_fill{P:Program}{N0:Nat}{c:Code}{Q:APost}{s:List Value}{H H0:AH}{B0 Bd n:Nat}{α:Type}[Enc α](hb:HB H0 B0)(ys:List α)(sl:Nat→List (Nat×Value))(L0:List Value)(hL0:L0.length=ys.length*Enc.k α)(hn0:B0≤n∧n<Bd)
  (hs:FitL s (sl 0)) (hH:Le (upd H0 n (some ⟨L0,true⟩)) H)
  (round:∀i L B,i≤ys.length→L.length=ys.length*Enc.k α→L.take (i*Enc.k α)=flat (ys.take i)→Bd≤B→HB (upd H0 n (some ⟨L,true⟩)) B→
   Tr P B c (thenQ (fun s' H' B'=>∃(y:α),ys[i]? =some y∧Le (upd H0 n (some ⟨lset L (i*Enc.k α) (enc y),true⟩)) H'∧s'.length=s.length∧FitL s' (sl (i+1))) Q) (aS s.length unk (sl i)) (upd H0 n (some ⟨L,true⟩)) B):Tr P N0 (.loop c) Q s H Bd:=by
 refine tr_inv (X:=Nat) (fun i s' H' B'=>i≤ys.length∧∃L,L.length=ys.length*Enc.k α∧L.take (i*Enc.k α)=flat (ys.take i)∧s'=aS s.length unk (sl i)∧H'=upd H0 n (some ⟨L,true⟩)) (fun i=>ys.length-i) 0 _ _ Bd ⟨hs.fits rfl,hH,Nat.le_refl _⟩
  ⟨Nat.zero_le _,L0,hL0,by simp[flat],rfl,rfl⟩ ?_
 rintro i s' H' B' ⟨hi,L,h1,h2,rfl,rfl⟩ hB hb'
 refine(round i L B' hi h1 h2 hB hb').mono fun e s2 H2 B2 hq=> ?_
 cases e with
 |normal=>
  obtain⟨y,g1,g2,g4,g3⟩:=hq
  have hlt:=(List.getElem?_eq_some_iff.1 g1).1
  have hm:i*Enc.k α+Enc.k α≤ys.length*Enc.k α:=by
   have:i*Enc.k α+Enc.k α=(i+1)*Enc.k α:=(Nat.succ_mul _ _).symm
   rw[this];exact Nat.mul_le_mul_right _ hlt
  refine⟨i+1,_,_,B2,by omega,⟨g3.fits g4,g2,Nat.le_refl _⟩,hlt,_,by rw[lset_length];exact h1,?_,rfl,rfl⟩
  rw[List.take_succ_eq_append_getElem hlt,flat_append,flat_one,←h2,(List.getElem?_eq_some_iff.1 g1).2]
  have hel:=enc_len y
  refine List.ext_getElem? fun j=> ?_
  rw[List.getElem?_take,List.getElem?_append,Nat.succ_mul]
  simp only[List.length_take,h1]
  by_cases hj:j<i*Enc.k α
  ·rw[if_pos (by omega),if_pos (by omega),lset_get _ _ _ _ (by omega),if_pos hj,List.getElem?_take,if_pos hj]
  ·by_cases hj2:j<i*Enc.k α+Enc.k α
   ·rw[if_pos hj2,if_neg (by omega),lset_get _ _ _ _ (by omega),if_neg hj,if_pos (by omega)]
    congr 1;omega
   ·rw[if_neg hj2,if_neg (by omega),List.getElem?_eq_none (by omega)]
 |_=>exact hq
theorem Tr.done{P:Program}{N0:Nat}{c:Code}{Q:APost}{s s':List Value}{H H0:AH}{B0 Bd n:Nat}(hb:HB H0 B0)(hn:B0≤n)(hs:PubL H (fun m=>m=n) s s')(hH:Le H0 H)(h:Tr P N0 c Q s' H0 Bd):Tr P N0 c Q s H Bd:=
 Tr.pub (fun m=>m=n) hs hH (fun m b hm e=>by subst e;rw[hb.fresh m hn]at hm;cases hm) (Nat.le_refl _) h
theorem PubL_refl{H:AH}{S:Nat→Prop}:∀(s:List Value),PubL H S s s
 |[]=>trivial
 |x::xs=>⟨.inr (.same x),PubL_refl xs⟩
theorem PubL_set{H:AH}{S:Nat→Prop}:∀(s:List Value) (t:Nat) (v:Value),Pub H S (sget s t) v→PubL H S s (sset s t v)
 |[],_,_,_=>trivial
 |x::xs,0,v,h=>⟨.inr h,PubL_refl xs⟩
 |x::xs,t+1,v,h=>⟨.inr (.same x),PubL_set xs t v h⟩
theorem Tr.fin{P:Program}{N0:Nat}{c:Code}{Q:APost}{s:List Value}{H0:AH}{B0 Bd n k len c0:Nat}{α:Type}[Enc α][hk:EncK α k]{xs:List α}(hb:HB H0 B0)(t:Nat)(hn:B0≤n)(ht:sget s t= .slice (some ⟨n,0,some k⟩) len c0)(hl:len=xs.length)
  (h:Tr P N0 c Q (sset s t (lst xs)) H0 Bd):Tr P N0 c Q s (upd H0 n (some ⟨flat xs,true⟩)) Bd:=by
 refine Tr.done hb hn (PubL_set s t _ ?_) (Le.drop hb hn (Le.refl _)) h
 rw[ht]
 exact pub_whole (upd_same _ _ _) rfl hk.h hl
theorem Tr.fin2{P:Program}{N0:Nat}{c:Code}{Q:APost}{s:List Value}{H0:AH}{Bd n k len c0:Nat}{α:Type}[Enc α][hk:EncK α k]{xs:List α}(t:Nat)(hf:free H0 n)(ht:sget s t= .slice (some ⟨n,0,some k⟩) len c0)(hl:len=xs.length)
  (h:Tr P N0 c Q (sset s t (lst xs)) H0 Bd):Tr P N0 c Q s (upd H0 n (some ⟨flat xs,true⟩)) Bd:=by
 refine Tr.pub (fun m=>m=n) (PubL_set s t _ ?_) (fun m b hm=> ?_) (fun m b hm e=>by subst e;rw[show H0 m=none from hf]at hm;cases hm) (Nat.le_refl _) h
 ·rw[ht]
  exact pub_whole (upd_same _ _ _) rfl hk.h hl
 ·rw[upd_ne _ _ (fun e=>by subst e;rw[show H0 m=none from hf]at hm;cases hm)]
  exact hm
@[go_sem] theorem le_self(n:Nat):(n≤n)=True:=eq_true (Nat.le_refl n)
@[go_sem high] theorem flat_allk {α:Type} [Enc α] {k:Nat} [hk:EncK α k] (xs:List α):(flat xs).take (xs.length*k)=flat xs:=by
 have:=hk.h
 subst this
 exact flat_all xs
@[go_sem high] theorem flat_all1 {α:Type} [Enc α] [hk:EncK α 1] (xs:List α):(flat xs).take xs.length=flat xs:=by
 have:=flat_allk (k:=1) xs
 rwa[Nat.mul_one]at this
theorem Le_upd2{H0 G:AH}{m:Nat}{b:Option Blk}(h:free H0 m):Le (upd H0 m b) (upd G m b)=Le H0 G:=by
 refine propext ⟨fun k n c hn=> ?_,fun k n c hn=> ?_⟩
 ·have hne:n≠m:=fun e=>by subst e;rw[show H0 n=none from h]at hn;cases hn
  have:=k n c (by rw[upd_ne _ _ hne];exact hn)
  rwa[upd_ne _ _ hne]at this
 ·by_cases e:n=m
  ·subst e;rw[upd_same]at hn ⊢;exact hn
  ·rw[upd_ne _ _ e]at hn ⊢;exact k n c hn
theorem Le_app{H G:AH}{B k m need cap kk:Nat}{cells:List Value}(hb:HB H B)(h1:B≤k)(h2:B≤m):Le H (appHeap G ⟨some k,cells,need,cap,kk⟩ m)=Le H G:=by
 show Le H (upd (upd G k none) m (some ⟨cells,true⟩))=_
 rw[Le_updF _ (hb.fresh m h2),Le_updF _ (hb.fresh k h1)]
class Sz (α:Type) where
 s:α→Prop
 t:α→Nat
 r:α→Prop
def rg{α:Type}[Sz α](x:α):Prop:=Sz.r x
def sm{α:Type}[Sz α](x:α):Prop:=Sz.s x
def tot{α:Type}[Sz α](x:α):Nat:=Sz.t x
instance :Sz Int:=⟨fun _=>True,fun _=>0,fun n=>R64 n⟩
instance :Sz Bool:=⟨fun _=>True,fun _=>0,fun _=>True⟩
instance :Sz UInt8:=⟨fun _=>True,fun _=>0,fun _=>True⟩
instance :Sz ByteArray:=⟨fun b=>b.size≤281474976710656,fun b=>b.size,fun _=>True⟩
instance {α β:Type} [Sz α] [Sz β]:Sz (α×β):=⟨fun x=>sm x.1∧sm x.2,fun x=>tot x.1+tot x.2,fun x=>rg x.1∧rg x.2⟩
instance {α:Type} [Sz α]:Sz (List α):=⟨fun xs=>xs.length≤281474976710656∧∀x∈xs,sm x,fun xs=>xs.length+(xs.map tot).sum,fun xs=>∀x∈xs,rg x⟩
def szP(n:Nat)(left:Int):Int:=if left-n<0 then -1 else left-n
theorem szP_add{a b:Nat}{left:Int}(h:¬left-a<0):szP (a+b) left=szP b (left-a):=by
 unfold szP
 split <;>split <;>omega
theorem szP_neg{a b:Nat}{left:Int}(h:left-a<0):szP (a+b) left= -1:=by
 unfold szP
 split
 ·rfl
 ·omega
@[simp] theorem tot_pair{α β:Type}[Sz α][Sz β](x:α×β):tot x=tot x.1+tot x.2:=rfl
@[simp] theorem tot_int(x:Int):tot x=0:=rfl
@[simp] theorem tot_bool(x:Bool):tot x=0:=rfl
@[simp] theorem tot_byte(x:UInt8):tot x=0:=rfl
@[simp] theorem tot_str(x:ByteArray):tot x=x.size:=rfl
theorem tot_list{α:Type}[Sz α](xs:List α):tot xs=xs.length+(xs.map tot).sum:=rfl
@[simp] theorem tot_bytes(xs:List UInt8):tot xs=xs.length:=by
 rw[tot_list,show(xs.map (tot:UInt8→Nat))=List.replicate xs.length 0 from by induction xs <;>simp_all[List.replicate_succ]]
 simp
def totTo{α:Type}[Sz α](xs:List α)(i:Nat):Nat:=((xs.take i).map tot).sum
@[simp] theorem totTo_zero{α:Type}[Sz α](xs:List α):totTo xs 0=0:=by simp[totTo]
theorem totTo_succ{α:Type}[Sz α](xs:List α){i:Nat}(h:i<xs.length):totTo xs (i+1)=totTo xs i+tot xs[i]:=by
 simp only[totTo]
 rw[List.take_succ_eq_append_getElem h]
 simp only[List.map_append,List.sum_append,List.map_cons,List.map_nil,List.sum_cons,List.sum_nil,Nat.add_zero]
theorem totTo_end{α:Type}[Sz α](xs:List α){i:Nat}(h:xs.length≤i):totTo xs i=(xs.map tot).sum:=by
 simp only[totTo,List.take_of_length_le h]
theorem totTo_le{α:Type}[Sz α](xs:List α){i:Nat}(h:i≤xs.length):totTo xs i≤(xs.map tot).sum:=by
 simp only[totTo]
 have:(xs.map tot).sum=((xs.take i).map tot).sum+((xs.drop i).map tot).sum:=by
  rw[←List.sum_append,←List.map_append,List.take_append_drop]
 omega
theorem tot_mem{α:Type}[Sz α]{xs:List α}{i:Nat}(h:i<xs.length):tot xs[i]≤(xs.map tot).sum:=by
 have h1:=totTo_succ xs h
 have h2:totTo xs (i+1)≤(xs.map tot).sum:=totTo_le xs (Nat.succ_le_of_lt h)
 omega
theorem sz_step{α:Type}[Sz α]{xs:List α}{i:Nat}(hlt:i<xs.length){left:Int}(hI:0≤left-xs.length-totTo xs i):
  Cnp (szP (tot xs[i]) (left-xs.length-totTo xs i)<0) (-1=szP (tot xs) left)
   (0≤left-xs.length-totTo xs (i+1)∧szP (tot xs[i]) (left-xs.length-totTo xs i)=left-xs.length-totTo xs (i+1)):=by
 have h1:=totTo_succ xs hlt
 have h2:totTo xs (i+1)≤(xs.map tot).sum:=totTo_le xs (Nat.succ_le_of_lt hlt)
 have h3:=tot_list xs
 have h4:szP (tot xs[i]) (left-xs.length-totTo xs i)<0↔left-xs.length-totTo xs (i+1)<0:=by
  unfold szP;split <;>omega
 refine⟨fun h=> ?_,fun h=> ?_⟩
 ·have:=h4.1 h
  unfold szP
  rw[if_pos (by omega)]
 ·rw[h4]at h
  refine⟨by omega,?_⟩
  unfold szP
  rw[if_neg (by omega)]
  omega
theorem sz_end{α:Type}[Sz α]{xs:List α}{i:Nat}(hge:xs.length≤i){left:Int}(hI:0≤left-xs.length-totTo xs i):left-xs.length-totTo xs i=szP (tot xs) left:=by
 have h1:=totTo_end xs hge
 have h3:=tot_list xs
 unfold szP
 rw[if_neg (by omega)]
 omega
theorem szP_or(n:Nat)(left:Int):szP n left= -1∨szP n left=left-n:=by unfold szP;split <;>omega
theorem szP_ub(n:Nat){left:Int}(h:left≤1048576):szP n left≤1048576:=by unfold szP;split <;>omega
theorem szP_go{a b:Nat}{left:Int}{A B:Prop}(hA:szP (a+b) left= -1→A)(hB:szP (a+b) left=szP b (szP a left)→B):Cnp (szP a left<0) A B:=by
 refine⟨fun h=>hA ?_,fun h=>hB ?_⟩
 ·unfold szP at h ⊢;split at h <;>rw[if_pos (by omega)]
 ·have:¬left-a<0:=fun k=>h (by unfold szP;rw[if_pos k];omega)
  rw[szP_add this]
  congr 1
  unfold szP;rw[if_neg this]
theorem szP_last{a:Nat}{left:Int}:Cnp (szP a left<0) (-1=szP a left) True:=by
 refine⟨fun h=> ?_,fun _=>trivial⟩
 unfold szP at h ⊢;split at h
 ·rename_i k;rw[if_pos k]
 ·contradiction
theorem szP_lastT{a:Nat}{left:Int}:Cnp (szP a left<0) (-1=szP a left) (szP a left=szP a left):=by
 have:=szP_last (a:=a) (left:=left)
 exact⟨this.1,fun _=>rfl⟩
theorem szP_lastI{a:Nat}{left:Int}:Cnp (left-a<0) (-1=szP a left) (left-a=szP a left):=by
 refine⟨fun h=> ?_,fun h=> ?_⟩
 ·unfold szP;rw[if_pos h]
 ·unfold szP;rw[if_neg h]
@[push_cast] theorem sm_int(x:Int):sm x=True:=(rfl)
theorem sm_str(x:ByteArray):sm x=(x.size≤281474976710656):=(rfl)
theorem sm_len{α:Type}[Sz α]{xs:List α}(h:sm xs):xs.length≤281474976710656:=h.1
theorem sm_mem{α:Type}[Sz α]{xs:List α}(h:sm xs){x:α}(hx:x∈xs):sm x:=h.2 x hx
theorem sm_ints(xs:List Int):sm xs↔xs.length≤281474976710656:=⟨fun h=>h.1,fun h=>⟨h,fun _ _=>trivial⟩⟩
theorem cmp_step{α:Type}[DecidableEq α]{xs ys:List α}{i:Nat}(hl:xs.length=ys.length)(hI:∀j,j<i→xs[j]? =ys[j]?)(hi:i<xs.length)(hi':i<ys.length){A:Prop}{b:Bool}(hb:b=false)
  (hA:(∀j,j<i+1→xs[j]? =ys[j]?)→A):Cnp (xs[i]=ys[i]) A (b=decide (xs=ys)):=by
 refine⟨fun he=>hA fun j hj=> ?_,fun hne=> ?_⟩
 ·by_cases e:j=i
  ·subst e;simp[hi,hi',he]
  ·exact hI j (by omega)
 ·subst hb
  have:¬xs=ys:=fun e=>by subst e;exact hne rfl
  simp[this]
theorem cmp_end{α:Type}[DecidableEq α]{xs ys:List α}{i:Nat}(hl:xs.length=ys.length)(hI:∀j,j<i→xs[j]? =ys[j]?)(hi:xs.length≤i):true=decide (xs=ys):=by
 have:xs=ys:=List.ext_getElem? fun j=>by
  by_cases hj:j<i
  ·exact hI j hj
  ·rw[List.getElem?_eq_none (by omega),List.getElem?_eq_none (by omega)]
 simp[this]
theorem cmp_len{α:Type}[DecidableEq α]{xs ys:List α}(hl:¬xs.length=ys.length):false=decide (xs=ys):=by
 have:¬xs=ys:=fun e=>by subst e;exact hl rfl
 simp[this]
end Go.SC
namespace Go.SC
open Go
structure GIntResult where
 code:Int
 value:Int
 deriving DecidableEq
instance :Enc GIntResult:=Enc.of (fun x=>(x.code,x.value)) fun x y h=>by cases x;cases y;simp_all
@[push_cast] theorem enc_GIntResult(x:GIntResult):enc x=[.int .i64 x.code, .int .i64 x.value]:=(rfl)
structure GIntsResult where
 code:Int
 list:List Int
 deriving DecidableEq
instance :Enc GIntsResult:=Enc.of (fun x=>(x.code,x.list)) fun x y h=>by cases x;cases y;simp_all
@[push_cast] theorem enc_GIntsResult(x:GIntsResult):enc x=[.int .i64 x.code,lst x.list]:=(rfl)
@[push_cast] theorem eta_GIntsResult(x:GIntsResult):GIntsResult.mk x.code x.list=x:=(rfl)
instance :Sz GIntsResult:=⟨fun x=>sm x.code∧sm x.list,fun x=>tot x.code+tot x.list,fun x=>rg x.code∧rg x.list⟩
theorem sm_GIntsResult(x:GIntsResult):sm x=(sm x.code∧sm x.list):=(rfl)
structure GSymbol where
 name:ByteArray
 arity:Int
 deriving DecidableEq
instance :Enc GSymbol:=Enc.of (fun x=>(x.name,x.arity)) fun x y h=>by cases x;cases y;simp_all
@[push_cast] theorem k_GSymbol:Enc.k GSymbol=2:=(rfl)
instance :EncK GSymbol 2:=⟨rfl⟩
@[push_cast] theorem enc_GSymbol(x:GSymbol):enc x=[.string x.name, .int .i64 x.arity]:=(rfl)
@[push_cast] theorem eta_GSymbol(x:GSymbol):GSymbol.mk x.name x.arity=x:=(rfl)
instance :Sz GSymbol:=⟨fun x=>sm x.name∧sm x.arity,fun x=>tot x.name+tot x.arity,fun x=>rg x.name∧rg x.arity⟩
theorem sm_GSymbol(x:GSymbol):sm x=(sm x.name∧sm x.arity):=(rfl)
theorem tot_GSymbol(x:GSymbol):tot x=tot x.name+tot x.arity:=(rfl)
structure GSignature where
 symbols:List GSymbol
 deriving DecidableEq
instance :Enc GSignature:=Enc.of (fun x=>x.symbols) fun x y h=>by cases x;cases y;simp_all
@[push_cast] theorem enc_GSignature(x:GSignature):enc x=[lst x.symbols]:=(rfl)
@[push_cast] theorem eta_GSignature(x:GSignature):GSignature.mk x.symbols=x:=(rfl)
instance :Sz GSignature:=⟨fun x=>sm x.symbols,fun x=>tot x.symbols,fun x=>rg x.symbols⟩
theorem sm_GSignature(x:GSignature):sm x=(sm x.symbols):=(rfl)
theorem tot_GSignature(x:GSignature):tot x=tot x.symbols:=(rfl)
structure GPut where
 sector:Int
 bytes:List UInt8
 deriving DecidableEq
instance :Enc GPut:=Enc.of (fun x=>(x.sector,x.bytes)) fun x y h=>by cases x;cases y;simp_all
instance :EncK GPut 2:=⟨rfl⟩
@[push_cast] theorem enc_GPut(x:GPut):enc x=[.int .i64 x.sector,lst x.bytes]:=(rfl)
@[push_cast] theorem eta_GPut(x:GPut):GPut.mk x.sector x.bytes=x:=(rfl)
instance :Sz GPut:=⟨fun x=>sm x.sector∧sm x.bytes,fun x=>tot x.sector+tot x.bytes,fun x=>rg x.sector∧rg x.bytes⟩
theorem sm_GPut(x:GPut):sm x=(sm x.sector∧sm x.bytes):=(rfl)
theorem tot_GPut(x:GPut):tot x=tot x.sector+tot x.bytes:=(rfl)
structure GDisk where
 sectors:List (List UInt8)
 pending:List GPut
 deriving DecidableEq
instance :Enc GDisk:=Enc.of (fun x=>(x.sectors,x.pending)) fun x y h=>by cases x;cases y;simp_all
@[push_cast] theorem enc_GDisk(x:GDisk):enc x=[lst x.sectors,lst x.pending]:=(rfl)
@[push_cast] theorem eta_GDisk(x:GDisk):GDisk.mk x.sectors x.pending=x:=(rfl)
instance :Sz GDisk:=⟨fun x=>sm x.sectors∧sm x.pending,fun x=>tot x.sectors+tot x.pending,fun x=>rg x.sectors∧rg x.pending⟩
theorem sm_GDisk(x:GDisk):sm x=(sm x.sectors∧sm x.pending):=(rfl)
theorem tot_GDisk(x:GDisk):tot x=tot x.sectors+tot x.pending:=(rfl)
structure GPage where
 kind:Int
 id:Int
 body:List UInt8
 deriving DecidableEq
instance :Enc GPage:=Enc.of (fun x=>(x.kind,x.id,x.body)) fun x y h=>by cases x;cases y;simp_all
@[push_cast] theorem enc_GPage(x:GPage):enc x=[.int .i64 x.kind, .int .i64 x.id,lst x.body]:=(rfl)
instance :Sz GPage:=⟨fun x=>sm x.kind∧sm x.id∧sm x.body,fun x=>tot x.kind+tot x.id+tot x.body,fun x=>rg x.kind∧rg x.id∧rg x.body⟩
theorem sm_GPage(x:GPage):sm x=(sm x.kind∧sm x.id∧sm x.body):=(rfl)
structure GNode where
 leaf:Bool
 keys:List (List UInt8)
 values:List Int
 kids:List Int
 deriving DecidableEq
instance :Enc GNode:=Enc.of (fun x=>(x.leaf,x.keys,x.values,x.kids)) fun x y h=>by cases x;cases y;simp_all
@[push_cast] theorem enc_GNode(x:GNode):enc x=[.bool x.leaf,lst x.keys,lst x.values,lst x.kids]:=(rfl)
instance :Sz GNode:=⟨fun x=>sm x.leaf∧sm x.keys∧sm x.values∧sm x.kids,fun x=>tot x.leaf+tot x.keys+tot x.values+tot x.kids,fun x=>rg x.leaf∧rg x.keys∧rg x.values∧rg x.kids⟩
theorem sm_GNode(x:GNode):sm x=(sm x.leaf∧sm x.keys∧sm x.values∧sm x.kids):=(rfl)
structure GPageResult where
 code:Int
 page:GPage
 deriving DecidableEq
instance :Enc GPageResult:=Enc.of (fun x=>(x.code,x.page)) fun x y h=>by cases x;cases y;simp_all
@[push_cast] theorem enc_GPageResult(x:GPageResult):enc x=[.int .i64 x.code, .int .i64 x.page.kind, .int .i64 x.page.id,lst x.page.body]:=(rfl)
structure GNodeResult where
 code:Int
 node:GNode
 deriving DecidableEq
instance :Enc GNodeResult:=Enc.of (fun x=>(x.code,x.node)) fun x y h=>by cases x;cases y;simp_all
@[push_cast] theorem enc_GNodeResult(x:GNodeResult):enc x=[.int .i64 x.code, .bool x.node.leaf,lst x.node.keys,lst x.node.values,lst x.node.kids]:=(rfl)
structure GChainResult where
 code:Int
 bytes:List UInt8
 pages:List Int
 deriving DecidableEq
instance :Enc GChainResult:=Enc.of (fun x=>(x.code,x.bytes,x.pages)) fun x y h=>by cases x;cases y;simp_all
@[push_cast] theorem enc_GChainResult(x:GChainResult):enc x=[.int .i64 x.code,lst x.bytes,lst x.pages]:=(rfl)
structure GRow where
 key:List UInt8
 value:Int
 deriving DecidableEq
instance :Enc GRow:=Enc.of (fun x=>(x.key,x.value)) fun x y h=>by cases x;cases y;simp_all
@[push_cast] theorem k_GRow:Enc.k GRow=2:=(rfl)
instance :EncK GRow 2:=⟨rfl⟩
@[push_cast] theorem enc_GRow(x:GRow):enc x=[lst x.key, .int .i64 x.value]:=(rfl)
structure GSuper where
 gen:Int
 root:Int
 shadow:Int
 theory:Int
 next_:Int
 version:Int
 moving:Bool
 cursor:List UInt8
 symbols:GSignature
 deriving DecidableEq
instance :Enc GSuper:=Enc.of (fun x=>(x.gen,x.root,x.shadow,x.theory,x.next_,x.version,x.moving,x.cursor,x.symbols)) fun x y h=>by cases x;cases y;simp_all
@[push_cast] theorem enc_GSuper(x:GSuper):enc x=[.int .i64 x.gen, .int .i64 x.root, .int .i64 x.shadow, .int .i64 x.theory, .int .i64 x.next_, .int .i64 x.version, .bool x.moving,lst x.cursor,lst x.symbols.symbols]:=(rfl)
@[push_cast] theorem eta_GSuper(x:GSuper):GSuper.mk x.gen x.root x.shadow x.theory x.next_ x.version x.moving x.cursor x.symbols=x:=(rfl)
instance :Sz GSuper:=⟨fun x=>sm x.gen∧sm x.root∧sm x.shadow∧sm x.theory∧sm x.next_∧sm x.version∧sm x.moving∧sm x.cursor∧sm x.symbols,fun x=>tot x.gen+tot x.root+tot x.shadow+tot x.theory+tot x.next_+tot x.version+tot x.moving+tot x.cursor+tot x.symbols,fun x=>rg x.gen∧rg x.root∧rg x.shadow∧rg x.theory∧rg x.next_∧rg x.version∧rg x.moving∧rg x.cursor∧rg x.symbols⟩
theorem sm_GSuper(x:GSuper):sm x=(sm x.gen∧sm x.root∧sm x.shadow∧sm x.theory∧sm x.next_∧sm x.version∧sm x.moving∧sm x.cursor∧sm x.symbols):=(rfl)
theorem tot_GSuper(x:GSuper):tot x=tot x.gen+tot x.root+tot x.shadow+tot x.theory+tot x.next_+tot x.version+tot x.moving+tot x.cursor+tot x.symbols:=(rfl)
structure GRecord where
 term:List Int
 value:Int
 deriving DecidableEq
structure GL17Walk where
 pages:List Int
 rows:List GRow
 deep:Int
 deriving DecidableEq
instance :Enc GL17Walk:=Enc.of (fun x=>(x.pages,x.rows,x.deep)) fun x y h=>by cases x;cases y;simp_all
@[push_cast] theorem enc_GL17Walk(x:GL17Walk):enc x=[lst x.pages,lst x.rows, .int .i64 x.deep]:=(rfl)
@[push_cast] theorem eta_GL17Walk(x:GL17Walk):GL17Walk.mk x.pages x.rows x.deep=x:=(rfl)
inductive VC:Value→Prop
 |bool (b:Bool):VC (.bool b)
 |int (k:IntKind) (n:Int):VC (.int k n)
 |string (s:ByteArray):VC (.string s)
 |nilp:VC (.pointer none)
 |nils:VC (.slice none 0 0)
 |sl {n off k len c:Nat}:VC (.slice (some ⟨n,off,some k⟩) len c)
 |agg {xs:Array Value} (h:∀(i:Nat) v,xs[i]? =some v→VC v):VC (.agg xs)
 |tuple {xs:Array Value} (h:∀(i:Nat) v,xs[i]? =some v→VC v):VC (.tuple xs)
theorem VR.refz{ι:Ren}{w:World}{v v':Value}(fz:Nat→Prop)(h:VR ι w v v')(hc:VC v):VR ⟨ι.m,fz,ι.mp⟩ w v v':=by
 induction h with
 |unk=>cases hc
 |bool b=>exact .bool b
 |int k n=>exact .int k n
 |string s=>exact .string s
 |nilp=>exact .nilp
 |ptr h=>cases hc
 |nils=>exact .nils
 |sl h1 h2 h3 h4 h5=>exact .sl h1 h2 h3 h4 h5
 |agg hs _ ih=>cases hc with|agg hc=>exact .agg hs fun i v v' h1 h2=>ih i v v' h1 h2 (hc i v h1)
 |tuple hs _ ih=>cases hc with|tuple hc=>exact .tuple hs fun i v v' h1 h2=>ih i v v' h1 h2 (hc i v h1)
 |func hs _ ih=>cases hc
 |nilf=>cases hc
 |nili=>cases hc
 |iface _ ih=>cases hc
 |lst0=>cases hc
 |lst=>cases hc
 |vp=>cases hc
 |mp=>cases hc
noncomputable def mns(H:AH):AH:=fun n=>open Classical in if ∃b,H n=some b∧b.own=true then none else H n
def mrg(H H':AH)(Bd:Nat):AH:=fun n=>if n<Bd then H n else H' n
theorem mns_le(H:AH):Le (mns H) H:=fun n b h=>by
 unfold mns at h
 split at h
 ·cases h
 ·exact h
theorem mns_not{H:AH}{n:Nat}{b:Blk}(h:mns H n=some b):b.own=false∧H n=some b:=by
 have h2:=mns_le H n b h
 unfold mns at h
 split at h
 ·cases h
 ·rename_i hn
  refine⟨?_,h2⟩
  cases ho:b.own with
  |false=>rfl
  |true=>exact absurd ⟨b,h2,ho⟩ hn
theorem SR.pubC{A:Nat→Prop}{ι:Ren}{H:AH}{Bd:Nat}{w:World}(hr:Rel A ι H Bd w){S:Nat→Prop}{xs ys:List Value}{t:Array Value}(hp:PubC H S xs ys)(h:SR ι w xs t):SR (frz ι H S) w ys t:=by
 obtain⟨h1,h2⟩:=PubC.get _ _ hp
 refine⟨by rw[←h1];exact h.1,fun i v v' g1 g2=> ?_⟩
 have hi:=(List.getElem?_eq_some_iff.1 g1).1
 have g3:xs[i]? =some (xs[i]'(by omega)):=List.getElem?_eq_getElem (by omega)
 exact VR.pub hr (h2 i _ v g3 g1) (h.2 i _ v' g3 g2)
theorem lendG{P:Program}{f:FuncId}{args args':List Value}{H:AH}{Bd:Nat}{K:Value→AH→Nat→Prop}(hp:∀A ι w vs,Rel A ι H Bd w→SR ι w args vs→SR (frz ι H fun n=>∃b,H n=some b∧b.own=true) w args' vs)
  (h:SCalls P f args' (mns H) Bd fun r H' B'=>VC r∧(∀n,n<Bd→H' n=mns H n)∧(∀n b,Bd≤n→H' n=some b→∀v∈b.cells,VC v)∧K r (mrg H H' Bd) B'):SCalls P f args H Bd K:=by
 refine⟨h.1,fun A ι vs w hr hs=> ?_⟩
 have hr1:Rel A (frz ι H fun n=>∃b,H n=some b∧b.own=true) (mns H) Bd w:=hr.pub (mns_le H) fun n b hn ⟨b',h1,h2⟩=>by
  obtain⟨g1,g2⟩:=mns_not hn
  rw[h1]at g2;cases g2;rw[h2]at g1;cases g1
 refine(h.2 A _ vs w hr1 (hp A ι w vs hr hs)).mono fun e w' ⟨v,r,ι',H',Bd',he,⟨hvc,hold,hnew,hK⟩,hB,hrel,hvr,hkp,hag,hni⟩=> ?_
 have hb:=hr.hb
 have hιn:∀n,n<Bd→ι'.m n=ι.m n:=fun n hn=>hag n hn
 have hfz:∀B,ι.fz B→ι'.fz B:=fun B hB=>hkp.fz.1 B (.inl hB)
 have hxt:Ext ι ⟨ι'.m,ι.fz,ι'.mp⟩:=⟨fun n l hn=>by
  have:n<Bd:=by
   rcases Nat.lt_or_ge n Bd with h|h
   ·exact h
   ·rw[hr.bound n h]at hn;cases hn
  show ι'.m n=_
  rw[hιn n this];exact hn,fun _ h=>h,hkp.fz.2⟩
 have hfro:Fro ι w w':=⟨hkp.rows.rows,fun B cs e fr hB hx=>hkp.rows.fz B cs e fr (.inl hB) hx⟩
 have hnew2:∀n b,Bd≤n→H' n=some b→b.own=true:=fun n b hn hx=>by
  cases ho:b.own with
  |true=>rfl
  |false=>
   obtain⟨b',g1,g2⟩:=hni n b hx ho
   have:=mns_le H n b' g1
   rw[hb.fresh n hn]at this;cases this
 have hown:∀n b B base,H n=some b→b.own=true→ι.m n=some (.at B base)→ι'.fz B:=fun n b B base h1 h2 h3=>hkp.fz.1 B (.inr ⟨n,b,base,⟨b,h1,h2⟩,h1,h2,h3⟩)
 have hsame:∀n b,H n=some b→∀B base,ι.m n=some (.at B base)→∀cs e fr,w.heap[B]? =some (.cells cs e fr)→w'.heap[B]? =some (.cells cs e fr):=fun n b h1 B base h3 cs e fr hx=>by
  cases ho:b.own with
  |true=>exact hkp.rows.fz B cs e fr (.inr ⟨n,b,base,⟨b,h1,ho⟩,h1,ho,h3⟩) hx
  |false=>
   rcases hr.blk n b h1 with⟨hv,_⟩|⟨B',base',cs,e1,fr,g1,g2,g3,g4,_⟩
   ·rw[show ι.m n=ι n from rfl,hv]at h3;cases h3
   ·rw[show ι.m n=ι n from rfl,g1]at h3;cases h3
    rw[hkp.block B (Array.getElem?_eq_some_iff.1 hx).1 (g4 ho)];exact hx
 refine⟨v,r,⟨ι'.m,ι.fz,ι'.mp⟩,mrg H H' Bd,Bd',he,hK,hB,?_,hvr.refz _ hvc,⟨hkp.os,hkp.tape,hkp.output,hkp.size,hkp.block,hfro,⟨fun _ h=>h,hkp.fz.2⟩,fun _ h=> .inl h⟩,fun n hn=>hιn n hn,fun n b hn ho=> ?_⟩
 ·refine⟨hrel.bound,fun n b hn=> ?_,fun n m b b' B base B' base' hne h1 h2 ho i1 i2=> ?_,hrel.newA,fun n b B base h1 ho i1 hz=> ?_,fun B hB=>Nat.lt_of_lt_of_le (hr.fzlt B hB) hkp.size,fun n b hn hq=> ?_,hrel.mp⟩
  ·unfold mrg at hn
   split at hn
   ·rename_i hlt
    rcases hr.blk n b hn with⟨hv,hc⟩|⟨B,base,cs,e1,fr,g1,g2,g3,g4,g5⟩
    ·exact .inl ⟨(hιn n hlt).trans hv,hc⟩
    ·refine .inr ⟨B,base,cs,e1,fr,(hιn n hlt).trans g1,hsame n b hn B base g1 _ _ _ g2,g3,g4,fun i v hv=> ?_⟩
     obtain⟨v',k1,k2⟩:=g5 i v hv
     exact⟨v',k1,k2.mono hxt hfro⟩
   ·rename_i hge
    rcases hrel.blk n b hn with⟨hv,hc⟩|⟨B,base,cs,e1,fr,g1,g2,g3,g4,g5⟩
    ·exact .inl ⟨hv,hc⟩
    ·refine .inr ⟨B,base,cs,e1,fr,g1,g2,g3,g4,fun i v hv=> ?_⟩
     obtain⟨v',k1,k2⟩:=g5 i v hv
     exact⟨v',k1,k2.refz _ (hnew n b (by omega) hn v (List.mem_of_getElem? hv))⟩
  ·unfold mrg at h1 h2
   split at h1
   ·rename_i hn
    have j1:ι.m n=some (.at B base):=(hιn n hn).symm.trans i1
    split at h2
    ·rename_i hm
     exact hr.apart n m b b' B base B' base' hne h1 h2 ho j1 ((hιn m hm).symm.trans i2)
    ·rename_i hm
     intro e;subst e
     exact hrel.froz m b' B base' h2 (hnew2 m b' (by omega) h2) i2 (hown n b B base h1 ho j1)
   ·rename_i hn
    split at h2
    ·rename_i hm
     have j2:ι.m m=some (.at B' base'):=(hιn m hm).symm.trans i2
     cases ho2:b'.own with
     |true=>
      intro e;subst e
      exact hrel.froz n b B base h1 ho i1 (hown m b' B base' h2 ho2 j2)
     |false=>
      refine hrel.apart n m b b' B base B' base' hne h1 ?_ ho i1 i2
      rw[hold m hm]
      unfold mns
      rw[if_neg]
      ·exact h2
      ·rintro⟨c,c1,c2⟩
       rw[h2]at c1;cases c1;rw[ho2]at c2;cases c2
    ·exact hrel.apart n m b b' B base B' base' hne h1 h2 ho i1 i2
  ·unfold mrg at h1
   split at h1
   ·rename_i hn
    exact hr.froz n b B base h1 ho ((hιn n hn).symm.trans i1) hz
   ·exact hrel.froz n b B base h1 ho i1 (hfz B hz)
  ·unfold mrg at hn
   split at hn
   ·rename_i hlt;exact⟨(hιn n hlt).trans (hr.glob n b hn hq).1,(hr.glob n b hn hq).2.mono hfro.rows⟩
   ·exact hrel.glob n b hn hq
 ·unfold mrg at hn
  split at hn
  ·exact⟨b,hn,ho⟩
  ·rename_i hge
   have:=hnew2 n b (by omega) hn
   rw[ho]at this;cases this
theorem lend{P:Program}{f:FuncId}{args args':List Value}{H:AH}{Bd:Nat}{K:Value→AH→Nat→Prop}(hp:PubC H (fun n=>∃b,H n=some b∧b.own=true) args args')
  (h:SCalls P f args' (mns H) Bd fun r H' B'=>VC r∧(∀n,n<Bd→H' n=mns H n)∧(∀n b,Bd≤n→H' n=some b→∀v∈b.cells,VC v)∧K r (mrg H H' Bd) B'):SCalls P f args H Bd K:=
 lendG (fun _ _ _ _ hr hs=>SR.pubC hr hp hs) h
theorem give{P:Program}{f:FuncId}{args args':List Value}{H H1:AH}{Bd:Nat}{K:Value→AH→Nat→Prop}(S:Nat→Prop)(hp:PubC H S args args')(hle:Le H1 H)(hS:∀n b,H1 n=some b→¬S n)
  (h:SCalls P f args' H1 Bd K):SCalls P f args H Bd K:=by
 refine⟨h.1,fun A ι vs w hr hs=> ?_⟩
 refine(h.2 A _ vs w (hr.pub hle hS) (SR.pubC hr hp hs)).mono fun e w' ⟨v,r,ι',H',Bd',he,hK,hB,hrel,hvr,hkp,hag,hni⟩=> ?_
 refine⟨v,r,ι',H',Bd',he,hK,hB,hrel,hvr,(Keep.refl A w (ext_frz ι H S).fz (hr.frzA S)).trans hkp,hag,fun n b hn ho=> ?_⟩
 obtain⟨b',g1,g2⟩:=hni n b hn ho
 exact⟨b',hle n b' g1,g2⟩
inductive RN (σ:List (Option Nat)) (Bd:Nat):Value→Value→Prop
 |same {v:Value} (h:NB Bd v):RN σ Bd v v
 |sl {i m off k len c:Nat} (h:σ[i]? =some (some m)):RN σ Bd (.slice (some ⟨Bd+i,off,some k⟩) len (len+1)) (.slice (some ⟨m,off,some k⟩) len c)
 |nil {i k:Nat} (h:σ[i]? =some none):RN σ Bd (.slice (some ⟨Bd+i,0,some k⟩) 0 1) (.slice none 0 0)
 |agg {xs ys:Array Value} (hs:xs.size=ys.size) (h:∀(i:Nat) v u,xs[i]? =some v→ys[i]? =some u→RN σ Bd v u):RN σ Bd (.agg xs) (.agg ys)
 |tuple {xs ys:Array Value} (hs:xs.size=ys.size) (h:∀(i:Nat) v u,xs[i]? =some v→ys[i]? =some u→RN σ Bd v u):RN σ Bd (.tuple xs) (.tuple ys)
def putN(H:AH)(Bd:Nat)(L:List (List Value)):AH:=fun n=>if n<Bd then H n else(L[n-Bd]?).map fun c=>⟨c,true⟩
structure Anew (H:AH) (Bd:Nat) (r:Value) (H':AH) (σ:List (Option Nat)) (L:List (List Value)) (r0:Value):Prop where
 len:σ.length=L.length
 le:Le H H'
 val:RN σ Bd r0 r
 zero:∀i:Nat,σ[i]? =some none→L[i]? =some []
 blk:∀(i m:Nat),σ[i]? =some (some m)→Bd≤m∧∃b c,H' m=some b∧b.own=true∧L[i]? =some c∧c.length=b.cells.length∧∀(j:Nat) v u,c[j]? =some v→b.cells[j]? =some u→RN σ Bd v u
 nodup:∀(i j m:Nat),σ[i]? =some (some m)→σ[j]? =some (some m)→i=j
def rnR(ι:Ren)(Bd:Nat)(σ:List (Option Nat)):Ren:=⟨fun n=>if n<Bd then ι n else match σ[n-Bd]? with
 |some (some m)=>ι m
 |some none=>some .void
 |none=>none,ι.fz,ι.mp⟩
theorem rnR_lt{ι:Ren}{Bd:Nat}{σ:List (Option Nat)}{n:Nat}(h:n<Bd):rnR ι Bd σ n=ι n:=by simp[rnR,h]
theorem rnR_add{ι:Ren}{Bd:Nat}{σ:List (Option Nat)}{i m:Nat}(h:σ[i]? =some (some m)):rnR ι Bd σ (Bd+i)=ι m:=by
 show(if Bd+i<Bd then ι (Bd+i)else _)=_
 rw[if_neg (by omega),Nat.add_sub_cancel_left,h]
theorem rnR_void{ι:Ren}{Bd:Nat}{σ:List (Option Nat)}{i:Nat}(h:σ[i]? =some none):rnR ι Bd σ (Bd+i)=some .void:=by
 show(if Bd+i<Bd then ι (Bd+i)else _)=_
 rw[if_neg (by omega),Nat.add_sub_cancel_left,h]
theorem VR.rn{ι:Ren}{w:World}{Bd:Nat}{σ:List (Option Nat)}{v0 v:Value}(hn:RN σ Bd v0 v):∀ {x:Value},VR ι w v x→VR (rnR ι Bd σ) w v0 x:=by
 induction hn with
 |same h=>
  intro x hx
  have hx':Ext (cutR ι Bd) (rnR ι Bd σ):=by
   refine⟨fun n l hl=> ?_,FzLe.refl _⟩
   simp only[cutR]at hl
   split at hl
   ·rename_i hlt;rw[rnR_lt hlt];exact hl
   ·cases hl
  exact(hx.cut h).mono hx' (Fro.refl _ w)
 |sl h=>
  intro x hx
  cases hx with
  |sl h1 h2 h3 h4 h5=>
   refine .sl (by rw[rnR_add h];exact h1) h2 (by omega) (by omega) (h5.imp id ?_)
   rintro⟨B,base,size,g1,g2⟩
   exact⟨B,base,size,(rnR_add h).trans g1,g2⟩
 |nil h=>
  intro x hx
  cases hx with
  |nils=>exact .sl ⟨_,rnR_void h⟩ (Nat.le_refl _) (by simp) (by simp) (.inl rfl)
 |agg hs _ ih=>
  intro x hx
  rename_i xs ys _
  cases hx with
  |agg hs2 h2=>
   refine .agg (hs.trans hs2) fun i v u h3 h4=> ?_
   have hi:=(Array.getElem?_eq_some_iff.1 h3).1
   exact ih i v (ys[i]'(by omega)) h3 (Array.getElem?_eq_getElem (by omega)) (h2 i _ u (Array.getElem?_eq_getElem (by omega)) h4)
 |tuple hs _ ih=>
  intro x hx
  rename_i xs ys _
  cases hx with
  |tuple hs2 h2=>
   refine .tuple (hs.trans hs2) fun i v u h3 h4=> ?_
   have hi:=(Array.getElem?_eq_some_iff.1 h3).1
   exact ih i v (ys[i]'(by omega)) h3 (Array.getElem?_eq_getElem (by omega)) (h2 i _ u (Array.getElem?_eq_getElem (by omega)) h4)
theorem anew{P:Program}{f:FuncId}{args:List Value}{H:AH}{Bd:Nat}{post:Value→AH→Nat→Prop}
  (h:SCalls P f args H Bd fun r H' _=>∃σ L r0,Anew H Bd r H' σ L r0∧post r0 (putN H Bd L) (Bd+L.length)):SCalls P f args H Bd post:=by
 refine⟨h.1,fun A ι vs w hr hs=> ?_⟩
 refine(h.2 A ι vs w hr hs).mono fun e w' ⟨v,r,ι',H',Bd',he,⟨σ,L,r0,ha,hK⟩,hB,hrel,hvr,hkp,hag,hni⟩=> ?_
 have hb:=hr.hb
 have hcl:∀ {v x:Value},NB Bd v→VR ι' w' v x→VR (rnR ι' Bd σ) w' v x:=fun hn hx=>VR.rn (.same hn) hx
 have hge:∀n,¬n<Bd→∃i,n=Bd+i:=fun n hn=>⟨n-Bd,by omega⟩
 have hput:∀ {n b},putN H Bd L n=some b→(n<Bd∧H n=some b)∨∃i c,n=Bd+i∧L[i]? =some c∧b=⟨c,true⟩:=fun{n b} hn=>by
  unfold putN at hn
  split at hn
  ·rename_i hlt;exact .inl ⟨hlt,hn⟩
  ·rename_i hlt
   cases hc:L[n-Bd]? with
   |none=>rw[hc]at hn;cases hn
   |some c=>rw[hc]at hn;cases hn;exact .inr ⟨n-Bd,c,by omega,hc,rfl⟩
 have hsig:∀ {i:Nat} {c},L[i]? =some c→(σ[i]? =some Option.none∧c=[])∨∃m,σ[i]? =some (some m):=fun{i c} hc=>by
  have hi:=(List.getElem?_eq_some_iff.1 hc).1
  have hi2:i<σ.length:=by rw[ha.len];exact hi
  cases hs:σ[i]? with
  |none=>rw[List.getElem?_eq_getElem hi2]at hs;cases hs
  |some o=>cases o with
   |none=>have:=ha.zero i hs;rw[hc]at this;cases this;exact .inl ⟨rfl,rfl⟩
   |some m=>exact .inr ⟨m,rfl⟩
 refine⟨v,r0,rnR ι' Bd σ,putN H Bd L,Bd+L.length,he,hK,Nat.le_add_right _ _,?_,hvr.rn ha.val,⟨hkp.os,hkp.tape,hkp.output,hkp.size,hkp.block,hkp.rows,hkp.fz,hkp.fzA⟩,fun n hn=>(rnR_lt hn).trans (hag n hn),fun n b hn ho=> ?_⟩
 ·refine⟨fun n hn=> ?_,fun n b hn=> ?_,fun n m b b' B base B' base' hne h1 h2 ho i1 i2=> ?_,hrel.newA,fun n b B base h1 ho i1=> ?_,hrel.fzlt,fun n b hn hq=> ?_,hrel.mp⟩
  ·obtain⟨i,rfl⟩:=hge n (by omega)
   have:σ[i]? =none:=List.getElem?_eq_none (by rw[ha.len];omega)
   show(if Bd+i<Bd then ι' (Bd+i)else _)=_
   rw[if_neg (by omega),Nat.add_sub_cancel_left,this]
  ·rcases hput hn with⟨hlt,hn⟩|⟨i,c,rfl,hc,rfl⟩
   ·rcases hrel.blk n b (ha.le n b hn)with⟨hv,hc⟩|⟨B,base,cs,e1,fr,g1,g2,g3,g4,g5⟩
    ·exact .inl ⟨(rnR_lt hlt).trans hv,hc⟩
    ·refine .inr ⟨B,base,cs,e1,fr,(rnR_lt hlt).trans g1,g2,g3,g4,fun i v hv=> ?_⟩
     obtain⟨v',k1,k2⟩:=g5 i v hv
     exact⟨v',k1,hcl (hb.nb n b hn v (List.mem_of_getElem? hv)) k2⟩
   ·rcases hsig hc with⟨hs,rfl⟩|⟨m,hs⟩
    ·exact .inl ⟨rnR_void hs,rfl⟩
    ·obtain⟨_,b,c',g1,g2,g3,g4,g5⟩:=ha.blk i m hs
     rw[hc]at g3;cases g3
     rcases hrel.blk m b g1 with⟨hv,hcn⟩|⟨B,base,cs,e1,fr,k1,k2,k3,k4,k5⟩
     ·refine .inl ⟨(rnR_add hs).trans hv,?_⟩
      rw[hcn]at g4
      exact List.eq_nil_of_length_eq_zero g4
     ·refine .inr ⟨B,base,cs,e1,fr,(rnR_add hs).trans k1,k2,fun _=>k3 g2,(fun h=>by cases h),fun j v hv=> ?_⟩
      have hj:j<b.cells.length:=g4▸(List.getElem?_eq_some_iff.1 hv).1
      obtain⟨v',l1,l2⟩:=k5 j (b.cells[j]'(by omega)) (List.getElem?_eq_getElem (by omega))
      exact⟨v',l1,l2.rn (g5 j v _ hv (List.getElem?_eq_getElem (by omega)))⟩
  ·rcases hput h1 with⟨hn,h1⟩|⟨i,c,rfl,hc,rfl⟩
   ·rw[rnR_lt hn]at i1
    rcases hput h2 with⟨hm,h2⟩|⟨j,d,rfl,hd,rfl⟩
    ·rw[rnR_lt hm]at i2
     exact hrel.apart n m b b' B base B' base' hne (ha.le n b h1) (ha.le m b' h2) ho i1 i2
    ·rcases hsig hd with⟨hs,rfl⟩|⟨m,hs⟩
     ·rw[rnR_void hs]at i2;cases i2
     ·obtain⟨g0,b2,c',g1,g2,_⟩:=ha.blk j m hs
      rw[rnR_add hs]at i2
      exact hrel.apart n m b b2 B base B' base' (by omega) (ha.le n b h1) g1 ho i1 i2
   ·rcases hsig hc with⟨hs,rfl⟩|⟨n,hs⟩
    ·rw[rnR_void hs]at i1;cases i1
    ·obtain⟨g0,b1,c',g1,g2,_⟩:=ha.blk i n hs
     rw[rnR_add hs]at i1
     rcases hput h2 with⟨hm,h2⟩|⟨j,d,rfl,hd,rfl⟩
     ·rw[rnR_lt hm]at i2
      exact hrel.apart n m b1 b' B base B' base' (by omega) g1 (ha.le m b' h2) g2 i1 i2
     ·rcases hsig hd with⟨ht,rfl⟩|⟨m,ht⟩
      ·rw[rnR_void ht]at i2;cases i2
      ·obtain⟨_,b2,_,k1,_⟩:=ha.blk j m ht
       rw[rnR_add ht]at i2
       refine hrel.apart n m b1 b2 B base B' base' (fun e=> ?_) g1 k1 g2 i1 i2
       subst e
       exact hne (by rw[ha.nodup i j n hs ht])
  ·rcases hput h1 with⟨hn,h1⟩|⟨i,c,rfl,hc,rfl⟩
   ·rw[rnR_lt hn]at i1
    exact hrel.froz n b B base (ha.le n b h1) ho i1
   ·rcases hsig hc with⟨hs,rfl⟩|⟨n,hs⟩
    ·rw[rnR_void hs]at i1;cases i1
    ·obtain⟨_,b1,c',g1,g2,_⟩:=ha.blk i n hs
     rw[rnR_add hs]at i1
     exact hrel.froz n b1 B base g1 g2 i1
  ·rcases hput hn with⟨hlt,hn⟩|⟨i,c,rfl,hc,rfl⟩
   ·exact⟨(rnR_lt hlt).trans (hrel.glob n b (ha.le n b hn) hq).1,(hrel.glob n b (ha.le n b hn) hq).2⟩
   ·cases hq
 ·rcases hput hn with⟨_,hn⟩|⟨i,c,rfl,_,rfl⟩
  ·exact⟨b,hn,ho⟩
  ·cases ho
def fidx{α:Type}(p:α→Bool)(xs:List α):Int:=match xs.findIdx? p with
 |some i=>i
 |none=> -1
theorem fidx_none{α:Type}{p:α→Bool}{xs:List α}(h:∀j,j<xs.length→∀x,xs[j]? =some x→p x=false):fidx p xs= -1:=by
 have:xs.findIdx? p=none:=by
  rw[List.findIdx?_eq_none_iff]
  intro x hx
  obtain⟨j,hj,rfl⟩:=List.getElem_of_mem hx
  exact h j hj _ (List.getElem?_eq_getElem hj)
 rw[fidx,this]
theorem fidx_hit{α:Type}{p:α→Bool}{xs:List α}{i:Nat}(hi:i<xs.length)(h:∀j,j<i→∀x,xs[j]? =some x→p x=false)(hp:p xs[i]=true):fidx p xs=i:=by
 have:xs.findIdx? p=some i:=by
  rw[List.findIdx?_eq_some_iff_getElem]
  refine⟨hi,hp,fun j hj=> ?_⟩
  have:=h j hj _ (List.getElem?_eq_getElem (by omega))
  simp[this]
 rw[fidx,this]
theorem fidx_ge{α:Type}(p:α→Bool)(xs:List α):decide (fidx p xs≥0)=xs.any p:=by
 cases h:xs.findIdx? p with
 |none=>
  rw[fidx,h]
  rw[List.findIdx?_eq_none_iff]at h
  have:xs.any p=false:=by simpa using h
  rw[this];rfl
 |some i=>
  rw[fidx,h]
  obtain⟨hi,hp,_⟩:=List.findIdx?_eq_some_iff_getElem.1 h
  have:xs.any p=true:=List.any_eq_true.2 ⟨_,List.getElem_mem hi,hp⟩
  rw[this]
  simp
def isNm(s:ByteArray):Bool:=decide (1≤s.size∧s.size≤3∧∀i,i<s.size→97≤byteAt s i∧byteAt s i≤122)
def symL:List GSymbol→Int
 |[]=>0
 |x::r=>if isNm x.name=true then(if 0≤x.arity∧x.arity≤2 then symL r else 3)else 5
def sigG(s:GSignature):Int:=
 if symL s.symbols≠0 then symL s.symbols
 else if ¬(s.symbols.map (·.name)).Nodup then 6
 else if s.symbols.any (fun x=>decide (x.arity=0))=true then 0 else 4
def sigF(s:GSignature):Int:=if s.symbols.length<1∨s.symbols.length>6 then 2 else sigG s
def isSym(s:GSignature)(n:Int):Bool:=decide (0≤n∧n≤s.symbols.length-1)
def symIdx(s:GSignature)(name:ByteArray):Int:=fidx (fun x=>decide (x.name=name)) s.symbols
theorem nodup_of{α:Type}{xs:List α}(h:∀(i j:Nat) x y,j<i→xs[i]? =some x→xs[j]? =some y→x≠y):xs.Nodup:=
 List.pairwise_iff_getElem.2 fun i j hi hj hij e=>h j i _ _ hij (List.getElem?_eq_getElem hj) (List.getElem?_eq_getElem hi) e.symm
theorem nodup_not{α:Type}{xs:List α}{i j:Nat}(hij:j<i)(hi:i<xs.length)(h:xs[i]=xs[j]'(by omega)):¬xs.Nodup:=
 fun k=>List.pairwise_iff_getElem.1 k j i (by omega) hi hij h.symm
theorem nodup_map{α β:Type}{f:α→β}{xs:List α}(h:∀(i j:Nat) x y,j<i→i<xs.length→xs[i]? =some x→xs[j]? =some y→f x≠f y):(xs.map f).Nodup:=by
 refine nodup_of fun i j x y hij hx hy=> ?_
 rw[List.getElem?_map]at hx hy
 cases hx':xs[i]? with
 |none=>rw[hx']at hx;cases hx
 |some x'=>
  cases hy':xs[j]? with
  |none=>rw[hy']at hy;cases hy
  |some y'=>
   rw[hx']at hx;rw[hy']at hy
   cases hx;cases hy
   exact h i j x' y' hij (List.getElem?_eq_some_iff.1 hx').1 hx' hy'
theorem nodup_map_not{α β:Type}{f:α→β}{xs:List α}{i j:Nat}(hij:j<i)(hi:i<xs.length)(h:f xs[i]=f (xs[j]'(by omega))):¬(xs.map f).Nodup:=
 nodup_not hij (by simpa using hi) (by simpa using h)
theorem any_false{α:Type}{xs:List α}{p:α→Bool}(h:∀j,j<xs.length→∀x,xs[j]? =some x→p x=false):xs.any p=false:=by
 rw[List.any_eq_false]
 intro x hx
 obtain⟨j,hj,rfl⟩:=List.getElem_of_mem hx
 simpa using h j hj _ (List.getElem?_eq_getElem hj)
theorem any_hit{α:Type}{xs:List α}{p:α→Bool}{i:Nat}(hi:i<xs.length)(h:p xs[i]=true):xs.any p=true:=List.any_eq_true.2 ⟨_,List.getElem_mem hi,h⟩
theorem symIdx_self{s:GSignature}{i:Nat}(hi:i<s.symbols.length):symIdx s s.symbols[i].name=i↔∀j (hj:j<i),s.symbols[j].name≠s.symbols[i].name:=by
 unfold symIdx
 constructor
 ·intro h j hj e
  have h2:fidx (fun x=>decide (x.name=s.symbols[i].name)) s.symbols≤j:=by
   unfold fidx
   cases hc:s.symbols.findIdx? (fun x=>decide (x.name=s.symbols[i].name))with
   |none=>show(-1:Int)≤j;omega
   |some k=>
    obtain⟨hk,_,hlt⟩:=List.findIdx?_eq_some_iff_getElem.1 hc
    show(k:Int)≤j
    rcases Nat.lt_or_ge j k with g|g
    ·have:=hlt j g;simp[e]at this
    ·omega
  omega
 ·intro h
  exact fidx_hit hi (fun j hj x hx=>by
   rw[List.getElem?_eq_getElem (by omega)]at hx
   cases hx
   simpa using h j hj) (by simp)
end Go.SC
set_option linter.unusedSimpArgs false
set_option linter.unusedVariables false
namespace Go.SC
open Go Go.RowKit
theorem Rel.below{A:Nat→Prop}{ι:Ren}{H:AH}{Bd:Nat}{w w':World}(hr:Rel A ι H Bd w)(h:Below w.heap.size w w'):Rel A ι H Bd w':=by
 have hfro:Fro ι w w':=⟨fun B cs e fr hB=>⟨cs,fr,(h.block B (Array.getElem?_eq_some_iff.1 hB).1).trans hB,rfl⟩,fun B cs e fr _ hx=>(h.block B (Array.getElem?_eq_some_iff.1 hx).1).trans hx⟩
 refine⟨hr.bound,fun n b hn=> ?_,hr.apart,fun B hB=>hr.newA B (Nat.le_trans h.size hB),hr.froz,fun B hB=>Nat.lt_of_lt_of_le (hr.fzlt B hB) h.size,fun n b h1 h2=>⟨(hr.glob n b h1 h2).1,(hr.glob n b h1 h2).2.mono hfro.rows⟩,fun B p hp=>⟨(hr.mp B p hp).1,(hr.mp B p hp).2.other (h.block B (by obtain⟨es,c,h1,_⟩:=(hr.mp B p hp).2;exact(Array.getElem?_eq_some_iff.1 h1).1))⟩⟩
 refine(hr.blk n b hn).mono (Ext.refl ι) hfro fun B base hB=> ?_
 exact h.block B (hr.lt hn hB)
theorem Keep.below{A:Nat→Prop}{ι:Ren}{w w':World}(h:Below w.heap.size w w'):Keep A ι w ι w':=
 ⟨h.os,h.tape,h.output,h.size,fun B hB _=>h.block B hB,
  ⟨fun B cs e fr hB=>⟨cs,fr,(h.block B (Array.getElem?_eq_some_iff.1 hB).1).trans hB,rfl⟩,fun B cs e fr _ hx=>(h.block B (Array.getElem?_eq_some_iff.1 hx).1).trans hx⟩,FzLe.refl _,fun _ h=> .inl h⟩
theorem SCalls.lib{P:Program}{f:FuncId}{args:List Value}{H:AH}{Bd:Nat}{K:Value→AH→Nat→Prop}(hent:Enters P f)(r:Value)
  (h:∀(A:Nat→Prop) (ι:Ren) (vs:Array Value) (w:World),Rel A ι H Bd w→SR ι w args vs→Calls P f vs w fun e w'=>∃v,e= .returned v∧VR ι w' r v∧Below w.heap.size w w') (hK:K r H Bd):SCalls P f args H Bd K:=by
 refine⟨hent,fun A ι vs w hr hs=>(h A ι vs w hr hs).mono fun e w' ⟨v,he,hv,hb⟩=> ?_⟩
 exact⟨v,r,ι,H,Bd,he,hK,Nat.le_refl _,hr.below hb,hv,Keep.below hb,Agr.refl _ _,NI.refl _⟩
theorem SR.one{ι:Ren}{w:World}{x:Value}{vs:Array Value}(h:SR ι w [x] vs):∃v,vs= #[v]∧VR ι w x v:=by
 obtain⟨l⟩:=vs
 obtain⟨h1,h2⟩:=h
 match l,h1 with
 |[v],_=>exact⟨v,rfl,h2 0 x v rfl rfl⟩
theorem SR.two{ι:Ren}{w:World}{x y:Value}{vs:Array Value}(h:SR ι w [x,y] vs):∃v u,vs= #[v,u]∧VR ι w x v∧VR ι w y u:=by
 obtain⟨l⟩:=vs
 obtain⟨h1,h2⟩:=h
 match l,h1 with
 |[v,u],_=>exact⟨v,u,rfl,h2 0 x v rfl rfl,h2 1 y u rfl rfl⟩
theorem VR.str{ι:Ren}{w:World}{b:ByteArray}{v:Value}(h:VR ι w (.string b) v):v= .string b:=by cases h;rfl
theorem VR.num{ι:Ren}{w:World}{k:IntKind}{n:Int}{v:Value}(h:VR ι w (.int k n) v):v= .int k n:=by cases h;rfl
theorem below_grow{w:World}(n:Nat)(os:Array Obj):Below w.heap.size w (Sort.grow (w.drewN n) os):=by
 refine(below_drewN (Below.refl _ w) n).trans ⟨rfl,rfl,rfl,?_,fun i hi=> ?_⟩
 ·simp[Sort.grow]
 ·show((w.drewN n).heap++os)[i]? =_
  rw[Array.getElem?_append_left (by simpa using hi)]
def joinB(xs:List ByteArray)(sep:ByteArray):ByteArray:=⟨(Lib.join (xs.map (·.data.toList)) sep.data.toList).toArray⟩
def trimB(s cut:ByteArray):ByteArray:=⟨(Lib.trimS s.data.toList cut.data.toList).toArray⟩
theorem dropWhile_all{α:Type}(p:α→Bool)(l:List α):l.dropWhile p=[]↔l.all p=true:=by
 induction l with
 |nil=>simp
 |cons x l ih=>
  rw[List.dropWhile_cons,List.all_cons]
  cases p x <;>simp[ih]
theorem trimB_empty(s cut:ByteArray):trimB s cut=ByteArray.empty↔s.data.toList.all (cut.data.toList.contains ·)=true:=by
 have h1:trimB s cut=ByteArray.empty↔Lib.trimS s.data.toList cut.data.toList=[]:=by
  unfold trimB
  constructor
  ·intro h
   have:=congrArg (fun b:ByteArray=>b.data.toList) h
   simpa using this
  ·intro h
   rw[h];rfl
 rw[h1]
 unfold Lib.trimS Lib.trimLeftS Lib.trimRightS
 rw[dropWhile_all]
 constructor
 ·intro h
  rcases hr:(s.data.toList.reverse.dropWhile (cut.data.toList.contains ·)).reverse with _|⟨x,r⟩
  ·have:=List.reverse_eq_nil_iff.1 hr
   rw[dropWhile_all]at this
   simpa using this
  ·have h0:s.data.toList.reverse.dropWhile (cut.data.toList.contains ·)≠[]:=by
    intro e;rw[e]at hr;simp at hr
   have h2:=List.head_dropWhile_not (cut.data.toList.contains ·) h0
   have h3:(s.data.toList.reverse.dropWhile (cut.data.toList.contains ·)).head h0∈(s.data.toList.reverse.dropWhile (cut.data.toList.contains ·)).reverse:=by
    rw[List.mem_reverse];exact List.head_mem h0
   have h4:=List.all_eq_true.1 h _ h3
   rw[h4]at h2;cases h2
 ·intro h
  refine List.all_eq_true.2 fun x hx=> ?_
  rw[List.mem_reverse]at hx
  have:=(List.dropWhile_sublist (cut.data.toList.contains ·)).subset hx
  rw[List.mem_reverse]at this
  exact List.all_eq_true.1 h x this
def AZ:List UInt8:=[97,98,99,100,101,102,103,104,105,106,107,108,109,110,111,112,113,114,115,116,117,118,119,120,121,122]
theorem az_lt:∀(j:Nat) (b:UInt8),AZ[j]? =some b→b.toNat<128:=by
 intro j b h
 have hm:=List.mem_of_getElem? h
 have:∀b∈AZ,b.toNat<128:=by decide
 exact this b hm
theorem az_nat:∀n,n<256→((AZ.map (·.toNat)).contains n=true↔97≤n∧n≤122):=by decide +kernel
theorem az_has(b:UInt8):AZ.contains b=true↔97≤b.toNat∧b.toNat≤122:=by
 rw[←az_nat b.toNat (UInt8.toNat_lt b)]
 simp only[List.contains_iff_mem,List.mem_map]
 constructor
 ·intro h;exact⟨b,h,rfl⟩
 ·rintro⟨c,hc,e⟩
  rwa[←UInt8.toNat_inj.1 e]
theorem isNm_trim(s:ByteArray):(decide (1≤(s.size:Int))&&decide ((s.size:Int)≤3)&&decide (trimB s ⟨AZ.toArray⟩=⟨#[]⟩))=isNm s:=by
 have h:trimB s ⟨AZ.toArray⟩=⟨#[]⟩↔∀i,i<s.size→97≤byteAt s i∧byteAt s i≤122:=by
  rw[show(⟨#[]⟩:ByteArray)=ByteArray.empty from rfl,trimB_empty,List.all_eq_true]
  have hsz:s.data.toList.length=s.size:=by simp
  constructor
  ·intro h i hi
   have h2:=h (s.data.toList[i]'(by omega)) (List.getElem_mem _)
   rw[show(⟨AZ.toArray⟩:ByteArray).data.toList=AZ from rfl,az_has]at h2
   unfold byteAt
   rw[List.getD_eq_getElem?_getD,List.getElem?_eq_getElem (by omega)]
   simp only[Option.getD_some]
   omega
  ·intro h x hx
   obtain⟨i,hi,rfl⟩:=List.getElem_of_mem hx
   have h2:=h i (by omega)
   unfold byteAt at h2
   rw[List.getD_eq_getElem?_getD,List.getElem?_eq_getElem hi]at h2
   simp only[Option.getD_some]at h2
   rw[show(⟨AZ.toArray⟩:ByteArray).data.toList=AZ from rfl,az_has]
   omega
 unfold isNm
 rw[←Bool.decide_and,←Bool.decide_and]
 congr 1
 refine propext ⟨fun⟨⟨a,b⟩,c⟩=>⟨by omega,by omega,h.1 c⟩,fun⟨a,b,c⟩=>⟨⟨by omega,by omega⟩,h.2 c⟩⟩
def arN(s:GSignature)(n:Int):Nat:=if n<0 then 0 else match s.symbols[n.toNat]? with
 |some x=>x.arity.toNat
 |none=>0
def skip(s:GSignature):Nat→List Int→Option (List Int)
 |0,l=>some l
 |_+1,[]=>none
 |k+1,x::l=>skip s (k+arN s x) l
def ep(s:GSignature)(t:List Int)(k at_:Nat):Int:=match skip s k (t.drop at_)with
 |some r=>(t.length:Int)-r.length
 |none=> -1
def isNode(s:GSignature)(n:Int):Bool:=isSym s n||decide (-12≤n∧n≤ -1)
def termG(s:GSignature)(t:List Int):Int:=if t.length<1∨24<t.length then 2 else if t.any (fun n=> !isNode s n)=true then 3 else if ep s t 1 0=t.length then 0 else 1
def oneB(z:Int):ByteArray:=⟨#[UInt8.ofNat z.toNat]⟩
@[push_cast] theorem oneB_size(z:Int):(oneB z).size=1:=(rfl)
@[go_sem] theorem astring_one{P:Program}{t u:Nat}[h:TyBy P t][h':TyS P u](H:AH)(n:Nat)(z:Int)(c:Nat):astring P (upd H n (some ⟨[.int .u8 z],true⟩)) t u (.slice (some ⟨n,0,some 1⟩) 1 c)=some (.string (oneB z)):=by
 have hc:acellsOf (upd H n (some ⟨[.int .u8 z],true⟩)) 1 (.slice (some ⟨n,0,some 1⟩) 1 c)=some (1,[.int .u8 z]):=by
  simp[acellsOf,upd_same]
 simp only[astring,undBytes_T,undString_T,and_self,if_true,hc,anums,Option.map_some]
 rfl
def argsP(s:GSignature)(t:List Int)(a k:Nat):List Int:=(List.range k).map fun i=>ep s t i (a+1)
def okR(s:GSignature)(r:GRecord):Prop:=termG s r.term=0∧0≤r.value∧r.value≤65535
def recG(s:GSignature):List GRecord→Int
 |[]=>0
 |r::l=>if termG s r.term≠0 then termG s r.term else if 0≤r.value∧r.value≤65535 then recG s l else 3
theorem recG_hit{s:GSignature}:∀ {l:List GRecord} {i:Nat} {r:GRecord},l[i]? =some r→(∀j,j<i→∀x,l[j]? =some x→okR s x)→¬okR s r→recG s l=if termG s r.term≠0 then termG s r.term else 3
 |[],_,_,h,_,_=>by cases h
 |x::l,0,r,h,_,hn=>by
  cases h
  unfold recG
  split
  ·rfl
  ·rename_i h1
   rw[if_neg (fun h2=>hn ⟨by simpa using h1,h2⟩)]
 |x::l,i+1,r,h,ha,hn=>by
  have h0:=ha 0 (by omega) x rfl
  unfold recG
  rw[if_neg (by simp[h0.1]),if_pos h0.2]
  exact recG_hit (l:=l) (i:=i) h (fun j hj y hy=>ha (j+1) (by omega) y hy) hn
def firstF{α:Type}(f:α→Int):List α→Int
 |[]=>0
 |x::l=>if f x≠0 then f x else firstF f l
theorem firstF_hit{α:Type}{f:α→Int}:∀ {l:List α} {i:Nat} {x:α},l[i]? =some x→(∀j,j<i→∀y,l[j]? =some y→f y=0)→f x≠0→firstF f l=f x
 |[],_,_,h,_,_=>by cases h
 |y::l,0,x,h,_,hn=>by cases h;exact if_pos hn
 |y::l,i+1,x,h,ha,hn=>by
  show(if f y≠0 then f y else firstF f l)=f x
  rw[if_neg (by simp[ha 0 (by omega) y rfl])]
  exact firstF_hit (l:=l) (i:=i) h (fun j hj z hz=>ha (j+1) (by omega) z hz) hn
theorem firstF_all{α:Type}{f:α→Int}:∀ {l:List α},(∀x∈l,f x=0)→firstF f l=0
 |[],_=>rfl
 |y::l,h=>by
  show(if f y≠0 then f y else firstF f l)=0
  rw[if_neg (by simp[h y (by simp)])]
  exact firstF_all fun z hz=>h z (by simp[hz])
theorem tr_st{P:Program}{N0:Nat}{c:Code}{Q:APost}{s:List Value}{H:AH}{Bd:Nat}{X:Type}(I:X→Prop)(μ:X→Nat)(sl:X→List (Nat×Value))(hp:X→AH)(x0:X)(h0:I x0)(hs:FitL s (sl x0))(hH:Le (hp x0) H)
  (round:∀x B,I x→Bd≤B→HB (hp x) B→∀F:List Value→AH→Nat→Prop,(∀y s' H' B',μ y<μ x→I y→Le (hp y) H'→s'.length=s.length→FitL s' (sl y)→F s' H' B')→Tr P B c (thenQ F Q) (aS s.length unk (sl x)) (hp x) B):Tr P N0 (.loop c) Q s H Bd:=by
 refine tr_inv (X:=X) (fun x s' H' B'=>I x∧s'=aS s.length unk (sl x)∧H'=hp x) μ x0 _ _ Bd ⟨hs.fits rfl,hH,Nat.le_refl _⟩ ⟨h0,rfl,rfl⟩ ?_
 rintro x s' H' B' ⟨hi,rfl,rfl⟩ hB hb'
 refine(round x B' hi hB hb' (fun s2 H2 B2=>∃y,μ y<μ x∧I y∧Le (hp y) H2∧s2.length=s.length∧FitL s2 (sl y)) fun y s2 H2 B2 h1 h2 h3 h4 h5=>⟨y,h1,h2,h3,h4,h5⟩).mono fun e s2 H2 B2 hq=> ?_
 cases e with
 |normal=>
  obtain⟨y,g1,g2,g3,g4,g5⟩:=hq
  exact⟨y,_,_,B2,g1,⟨g5.fits g4,g3,Nat.le_refl _⟩,g2,rfl,rfl⟩
 |_=>exact hq
theorem hb_lt{H:AH}{n B:Nat}{b:Blk}(h:HB (upd H n (some b)) B):n<B:=by
 rcases Nat.lt_or_ge n B with h1|h1
 ·exact h1
 ·have:=h.fresh n h1;rw[upd_same]at this;cases this
def places(s:GSignature)(t:List Int):Prop:=∀i,i<t.length→0≤ep s t 1 i
def args(s:GSignature)(t:List Int)(i:Nat):List Int:=argsP s t i (arN s (t.getD i 0))
section
variable (s:GSignature) (order a b:List Int)
end
section
variable {s:GSignature} {order a b:List Int} (ha:places s a) (hb:places s b)
include ha hb
end
section
variable {s:GSignature} {order a b:List Int} (ha:places s a) (hb:places s b) {i j:Nat} (hi:i<a.length) (hj:j<b.length)
include ha hb
end
end Go.SC
namespace Go.SC
open Go
def smallN(t:List Int):Prop:=∀n∈t,-12≤n∧n<6
theorem cmpB_eq{xs ys:List UInt8}{i:Nat}(h:∀j,j<i→xs[j]? =ys[j]?):Lib.compareBytes xs ys=Lib.compareBytes (xs.drop i) (ys.drop i):=by
 induction i generalizing xs ys with
 |zero=>simp
 |succ i ih=>
  match xs,ys with
  |[],[]=>simp
  |[],y::ys=>have:=h 0 (by omega);simp at this
  |x::xs,[]=>have:=h 0 (by omega);simp at this
  |x::xs,y::ys=>
   have h0:=h 0 (by omega)
   simp only[List.getElem?_cons_zero,Option.some.injEq]at h0
   subst h0
   rw[List.drop_succ_cons,List.drop_succ_cons,←ih fun j hj=>by simpa using h (j+1) (by omega)]
   simp[Lib.compareBytes]
theorem cmpB_lt{xs ys:List UInt8}{i:Nat}(h:∀j,j<i→xs[j]? =ys[j]?)(h1:i<xs.length)(h2:i<ys.length)(h3:xs[i]<ys[i]):Lib.compareBytes xs ys= -1:=by
 rw[cmpB_eq h,List.drop_eq_getElem_cons h1,List.drop_eq_getElem_cons h2]
 simp[Lib.compareBytes,h3]
theorem cmpB_gt{xs ys:List UInt8}{i:Nat}(h:∀j,j<i→xs[j]? =ys[j]?)(h1:i<xs.length)(h2:i<ys.length)(h3:ys[i]<xs[i]):Lib.compareBytes xs ys=1:=by
 rw[cmpB_eq h,List.drop_eq_getElem_cons h1,List.drop_eq_getElem_cons h2]
 have:¬xs[i]<ys[i]:=fun h=>by rw[UInt8.lt_iff_toNat_lt]at h h3;omega
 simp[Lib.compareBytes,h3,this]
theorem cmpB_end{xs ys:List UInt8}{i:Nat}(h:∀j,j<i→xs[j]? =ys[j]?)(h1:xs.length≤i∨ys.length≤i):Lib.compareBytes xs ys=if xs.length<ys.length then -1 else if ys.length<xs.length then 1 else 0:=by
 rw[cmpB_eq h]
 rcases h1 with h1|h1
 ·rw[List.drop_eq_nil_of_le h1]
  rcases Nat.lt_or_ge i ys.length with h2|h2
  ·rw[List.drop_eq_getElem_cons h2,if_pos (by omega)];rfl
  ·rw[List.drop_eq_nil_of_le h2]
   have:¬xs.length<ys.length:=fun h3=>by
    have:=h xs.length (by omega)
    rw[List.getElem?_eq_none (Nat.le_refl _),List.getElem?_eq_getElem h3]at this;cases this
   rw[if_neg this]
   have:¬ys.length<xs.length:=fun h3=>by
    have:=h ys.length (by omega)
    rw[List.getElem?_eq_none (Nat.le_refl _),List.getElem?_eq_getElem h3]at this;cases this
   rw[if_neg this];rfl
 ·rw[List.drop_eq_nil_of_le h1]
  rcases Nat.lt_or_ge i xs.length with h2|h2
  ·rw[List.drop_eq_getElem_cons h2,if_neg (by omega),if_pos (by omega)];rfl
  ·rw[List.drop_eq_nil_of_le h2]
   have:¬xs.length<ys.length:=fun h3=>by
    have:=h xs.length (by omega)
    rw[List.getElem?_eq_none (Nat.le_refl _),List.getElem?_eq_getElem h3]at this;cases this
   rw[if_neg this]
   have:¬ys.length<xs.length:=fun h3=>by
    have:=h ys.length (by omega)
    rw[List.getElem?_eq_none (Nat.le_refl _),List.getElem?_eq_getElem h3]at this;cases this
   rw[if_neg this];rfl
end Go.SC
set_option linter.unusedSimpArgs false
set_option linter.unusedVariables false
namespace Go.SC
open Go Go.RowKit Go.Proofs Go.Sort
def rowsOf(k:Nat):Nat→List Value→List Value
 |0,_=>[]
 |n+1,cells=> .agg (cells.take k).toArray::rowsOf k n (cells.drop k)
theorem rowsOf_len(k:Nat):∀(n:Nat) (cells:List Value),(rowsOf k n cells).length=n
 |0,_=>rfl
 |n+1,cells=>by simp[rowsOf,rowsOf_len k n]
theorem rowsOf_get(k:Nat):∀(n:Nat) (cells:List Value) (i:Nat),i<n→(rowsOf k n cells)[i]? =some (.agg ((cells.drop (i*k)).take k).toArray)
 |0,_,_,h=>by omega
 |n+1,cells,0,_=>by simp[rowsOf]
 |n+1,cells,i+1,h=>by
  rw[rowsOf,List.getElem?_cons_succ,rowsOf_get k n _ i (by omega),List.drop_drop,Nat.succ_mul,Nat.add_comm k]
def giveR(b:Option Blk)(k len:Nat)(v:Value):Value:=match b with
 |some b=>if b.own=true∧b.cells.length=len*k then .func (.yield k) #[] (rowsOf k len b.cells).toArray else v
 |none=>v
def giveV(H:AH)(v:Value):Value:=match v with
 | .slice (some ⟨n,0,some k⟩) len _=>giveR (H n) k len v
 |v=>v
def giveH(H:AH)(v:Value):AH:=match v with
 | .slice (some ⟨n,0,some _⟩) _ _=>upd H n none
 |_=>H
def giveS(v:Value)(m:Nat):Prop:=match v with
 | .slice (some ⟨n,0,some _⟩) _ _=>m=n
 |_=>False
theorem give_pub(H:AH)(v:Value):Pub H (giveS v) v (giveV H v):=by
 unfold giveV
 split
 ·rename_i n k len c
  unfold giveR
  split
  ·rename_i b hb
   split
   ·rename_i h
    refine .lst (b:=b) rfl hb h.1 (by simp[rowsOf_len]) (by omega) (fun i x hx=> ?_) (fun i j r v u h1 h2 h3=> ?_)
    ·have hi:i<len:=by have:=(Array.getElem?_eq_some_iff.1 hx).1;simpa[rowsOf_len]using this
     have:=rowsOf_get k len b.cells i hi
     rw[List.getElem?_toArray,this]at hx
     cases hx
     refine⟨_,rfl,?_⟩
     have:(i+1)*k≤len*k:=Nat.mul_le_mul_right _ hi
     rw[Nat.succ_mul]at this
     simp;omega
    ·have hi:i<len:=by have:=(Array.getElem?_eq_some_iff.1 h1).1;simpa[rowsOf_len]using this
     have h4:=rowsOf_get k len b.cells i hi
     rw[List.getElem?_toArray,h4]at h1
     cases h1
     have hj:j<k:=by
      have:=(Array.getElem?_eq_some_iff.1 h3).1
      simp at this;omega
     rw[List.getElem?_toArray,List.getElem?_take,if_pos hj,List.getElem?_drop]at h3
     rw[Nat.zero_add,h3]at h2
     cases h2
     exact .same _
   ·exact .same _
  ·exact .same _
 ·exact .same _
theorem give_le(H:AH)(v:Value):Le (giveH H v) H:=fun n b h=>by
 unfold giveH at h
 split at h
 ·rename_i m _ _ _
  by_cases e:n=m
  ·subst e;rw[upd_same]at h;cases h
  ·rw[upd_other _ _ e]at h;exact h
 ·exact h
theorem give_not(H:AH)(v:Value)(n:Nat)(b:Blk)(h:giveH H v n=some b):¬giveS v n:=fun hs=>by
 unfold giveH at h
 unfold giveS at hs
 split at h
 ·simp only at hs;subst hs;rw[upd_same]at h;cases h
 ·rename_i h2
  split at hs
  ·rename_i m k len c;exact h2 _ _ _ _ rfl
  ·exact hs
def GiveT(i:Nat)(W:Trans):Trans:=fun args H Bd K=>W (args.set i (giveV H (args.getD i undef))) (giveH H (args.getD i undef)) Bd K
theorem PubC.set{H:AH}{S:Nat→Prop}:∀(xs:List Value) (i:Nat) (u:Value),Pub H S (xs.getD i undef) u→PubC H S xs (xs.set i u)
 |[],i,u,_=>PubC.of _ _ rfl fun i v u h _=>by simp at h
 |x::xs,i,u,h=>PubC.of _ _ (by simp) fun j v w h1 h2=>by
  by_cases e:i=j
  ·subst e
   have hi:=(List.getElem?_eq_some_iff.1 h1).1
   rw[List.getElem?_set_self hi]at h2
   cases h2
   rw[List.getD_eq_getElem?_getD,h1]at h
   exact h
  ·rw[List.getElem?_set_ne e,h1]at h2
   cases h2
   exact .same _
theorem GiveT_ok{P:Program}{f:FuncId}(i:Nat){W:Trans}(h:∀args H Bd K,W args H Bd K→SCalls P f args H Bd K):∀args H Bd K,GiveT i W args H Bd K→SCalls P f args H Bd K:=fun args H Bd K hk=>
 give (giveS (args.getD i undef)) (PubC.set args i _ (give_pub H _)) (give_le H _) (give_not H _) (h _ _ _ _ hk)
@[go_sem] theorem giveV_slice(H:AH)(n k len c:Nat):giveV H (.slice (some ⟨n,0,some k⟩) len c)=giveR (H n) k len (.slice (some ⟨n,0,some k⟩) len c):=(rfl)
@[go_sem] theorem giveV_lst{α:Type}[Enc α](H:AH)(xs:List α):giveV H (lst xs)=lst xs:=(rfl)
@[go_sem] theorem giveH_slice(H:AH)(n k len c:Nat):giveH H (.slice (some ⟨n,0,some k⟩) len c)=upd H n none:=(rfl)
@[go_sem] theorem giveH_lst{α:Type}[Enc α](H:AH)(xs:List α):giveH H (lst xs)=H:=(rfl)
theorem rowsOf_flat{α:Type}[Enc α]:∀(xs:List α),rowsOf (Enc.k α) xs.length (flat xs)=(xs.map enc).map fun r=> .agg r.toArray
 |[]=>rfl
 |x::xs=>by
  rw[List.length_cons,rowsOf,flat_cons,List.take_append_of_le_length (by rw[enc_len];exact Nat.le_refl _),List.take_of_length_le (by rw[enc_len];exact Nat.le_refl _),List.drop_append,List.drop_eq_nil_of_le (by rw[enc_len];exact Nat.le_refl _),enc_len,Nat.sub_self,List.drop_zero,List.nil_append,rowsOf_flat xs]
  rfl
theorem giveR_flat{α:Type}[Enc α]{k len:Nat}(xs:List α)(hk:Enc.k α=k)(hl:len=xs.length)(v:Value):giveR (some ⟨flat xs,true⟩) k len v=lst xs:=by
 subst hk;subst hl
 unfold giveR
 simp only
 rw[if_pos ⟨trivial,flat_len xs⟩,rowsOf_flat]
 rfl
@[go_sem] theorem giveR_F{α:Type}[Enc α]{k len:Nat}[hk:EncK α k](xs:List α)(hl:len=xs.length)(v:Value):giveR (some ⟨flat xs,true⟩) k len v=lst xs:=giveR_flat xs hk.h hl v
@[go_sem] theorem giveR_int2(a b:Int)(v:Value):giveR (some ⟨[.int .i64 a, .int .i64 b],true⟩) 1 2 v=lst [a,b]:=giveR_flat (α:=Int) [a,b] rfl rfl v
theorem setCells_rel{A:Nat→Prop}{ι:Ren}{Bd B base n:Nat}:∀(vs vs':List Value) (H:AH) (w:World) (b:Blk) (o:Nat),Rel A ι H Bd w→H n=some b→b.own=true→ι n=some (.at B base)→LR ι w vs vs'→o+vs.length≤b.cells.length→
  Rel A ι (upd H n (some ⟨lset b.cells o vs,true⟩)) Bd (w.setCells B (base+o) vs')∧Keep A ι w ι (w.setCells B (base+o) vs')
 |[],[],H,w,b,o,hr,hb,ho,hι,_,_=>by
  refine⟨hr.sub fun m c hm=> ?_,Keep.refl A w⟩
  by_cases e:m=n
  ·subst e
   rw[upd_same]at hm
   cases hm
   rw[hb]
   obtain⟨cells,own⟩:=b
   simp only at ho
   subst ho
   rfl
  ·rw[upd_other H _ e]at hm;exact hm
 |v::vs,v'::vs',H,w,b,o,hr,hb,ho,hι,hl,hle=>by
  simp only[List.length_cons]at hle
  have hv:VR ι w v v':=hl.2 0 v v' rfl rfl
  obtain⟨hr',hA,hnz⟩:=hr.set (off:=o) hb ho hι hv
  have hk:=Keep.setCell w (base+o) v' hA hnz
  have hl':LR ι (w.setCell ⟨B,base+o,none⟩ v') vs vs':=by
   have:LR ι w vs vs':=⟨by simpa using hl.1,fun j x x' h1 h2=>hl.2 (j+1) x x' (by simpa using h1) (by simpa using h2)⟩
   exact this.mono (Ext.refl ι) hk.rows
  obtain⟨h1,h2⟩:=setCells_rel vs vs' _ _ ⟨b.cells.set o v,true⟩ (o+1) hr' (upd_same _ _ _) rfl hι hl' (by simp;omega)
  rw[upd_upd]at h1
  exact⟨h1,hk.trans h2⟩
 |[],_::_,_,_,_,_,_,_,_,_,hl,_=>by have:=hl.1;simp at this
 |_::_,[],_,_,_,_,_,_,_,_,hl,_=>by have:=hl.1;simp at this
def intsOf:List Value→Option (List Int)
 |[]=>some []
 | .int .i64 n::l=>(intsOf l).map (n:: ·)
 |_=>none
theorem intsOf_out:∀ {l:List Value} {zs:List Int},intsOf l=some zs→l=zs.map (Value.int .i64)
 |[],zs,h=>by cases h;rfl
 |v::l,zs,h=>by
  unfold intsOf at h
  split at h
  ·rename_i h1;cases h1
  ·rename_i n l' h1
   cases h1
   obtain⟨ys,h2,rfl⟩:=Option.map_eq_some_iff.1 h
   rw[intsOf_out h2];rfl
  ·cases h
theorem flat_ints:∀(zs:List Int),flat zs=zs.map (Value.int .i64)
 |[]=>rfl
 |z::zs=>by rw[flat_cons,flat_ints zs];rfl
@[go_sem] theorem intsOf_flat(zs:List Int):intsOf (flat zs)=some zs:=by
 rw[flat_ints]
 induction zs with
 |nil=>rfl
 |cons z zs ih=>simp[intsOf,ih]
theorem LR_ints(ι:Ren)(w:World)(zs:List Int):LR ι w (zs.map (Value.int .i64)) (zs.map (Value.int .i64)):=LR.plain (by simp[plainV])
theorem own_open{A:Nat→Prop}{ι:Ren}{H:AH}{Bd:Nat}{w:World}(hr:Rel A ι H Bd w){n l c:Nat}{b:Blk}(hb:H n=some b)(ho:b.own=true){v':Value}(hv:VR ι w (.slice (some ⟨n,0,some 1⟩) l c) v'){zs:List Int}(hz:b.cells=zs.map (Value.int .i64))(hl:l=zs.length):
  (l=0∧∃A' c',v'= .slice A' 0 c')∨∃B base c',v'= .slice (some ⟨B,base,none⟩) l c'∧l≤c'∧ι n=some (.at B base)∧B<w.heap.size∧Holds (Value.int .i64) w B base zs.toArray:=by
 cases hv with
 |sl h1 h2 h3 h4 h5=>
  rename_i c' A'
  rcases h5 with h5|⟨B,base,size,g1,rfl,g3,g4⟩
  ·exact .inl ⟨by omega,A',c',by rw[show l=0 by omega]⟩
  ·refine .inr ⟨B,base,c',rfl,h2,g1,hr.lt hb g1,fun j hj=> ?_⟩
   rcases hr.blk n b hb with⟨hv,_⟩|⟨B1,base1,cs,e,fr,q1,q2,q3,q4,q5⟩
   ·rw[g1]at hv;cases hv
   ·rw[g1]at q1;cases q1
    have hj':j<zs.length:=by simpa using hj
    have hc:b.cells[j]? =some (.int .i64 zs[j]):=by rw[hz];simp[hj']
    obtain⟨u,u1,u2⟩:=q5 j _ hc
    cases u2
    have hlt:=(Array.getElem?_eq_some_iff.1 u1).1
    refine⟨?_,?_⟩
    ·show w.cell? ⟨B,base+0+j,none⟩=_
     rw[Nat.add_zero,cell_of q2,u1,getElem!_pos _ j hj];simp
    ·show w.frozen? ⟨B,base+0+j,none⟩=_
     rw[Nat.add_zero]
     exact frozen_of q2 (q3 ho).2 hlt
def sortI(zs:List Int):List Int:=zs.mergeSort fun x y=>decide (x≤y)
def SortT:Trans:=fun args H Bd K=>∃(n l c:Nat),args=[.slice (some ⟨n,0,some 1⟩) l c]∧Yld (H n) fun b=>Yld (intsOf b.cells) fun zs=>(b.own=true∧l=zs.length∧zs.length≤1000000)∧K undef (upd H n (some ⟨flat (sortI zs),true⟩)) Bd
@[go_sem ↓] theorem SortT_eq (n l c:Nat) (H:AH) (Bd:Nat) (K:Value→AH→Nat→Prop):SortT [.slice (some ⟨n,0,some 1⟩) l c] H Bd K=(Yld (H n) fun b=>Yld (intsOf b.cells) fun zs=>(b.own=true∧l=zs.length∧zs.length≤1000000)∧K undef (upd H n (some ⟨flat (sortI zs),true⟩)) Bd):=by
 refine propext ⟨fun h=> ?_,fun h=>⟨_,_,_,rfl,h⟩⟩
 obtain⟨n',l',c',e,h⟩:=h
 simp only[List.cons.injEq,Value.slice.injEq,Option.some.injEq,Addr.mk.injEq,true_and,and_true]at e
 obtain⟨rfl,rfl,rfl⟩:=e
 exact h
theorem lset_all(cells vs:List Value)(h:vs.length=cells.length):lset cells 0 vs=vs:=by
 refine List.ext_getElem? fun j=> ?_
 rcases Nat.lt_or_ge j vs.length with hj|hj
 ·rw[lset_get vs cells 0 j (by omega),if_neg (by omega),if_pos (by omega),Nat.sub_zero]
 ·rw[List.getElem?_eq_none (by rw[lset_length];omega),List.getElem?_eq_none hj]
theorem put_rel{A:Nat→Prop}{ι:Ren}{H:AH}{Bd:Nat}{w:World}(hr:Rel A ι H Bd w){n B base:Nat}{b:Blk}(hb:H n=some b)(ho:b.own=true)(hι:ι n=some (.at B base)){zs ys:List Int}(hz:b.cells=zs.map (Value.int .i64))(hH:Holds (Value.int .i64) w B base zs.toArray)(hl:ys.length=zs.length)(q:Nat)(os:Array Obj):
  Rel A ι (upd H n (some ⟨flat ys,true⟩)) Bd (Sort.grow (putRow (Value.int .i64) (Sort.ahead w q) B base ys.toArray) os)∧Keep A ι w ι (Sort.grow (putRow (Value.int .i64) (Sort.ahead w q) B base ys.toArray) os):=by
 rw[Lib.putRow_eq_setCells (Value.int .i64) w B base zs.toArray ys q hH (by simpa using hl)]
 have h1:Below w.heap.size w (w.drewN q):=below_drewN (Below.refl _ w) q
 have r1:=hr.below h1
 have k1:Keep A ι w ι (w.drewN q):=Keep.below h1
 obtain⟨r2,k2⟩:=setCells_rel (base:=base) (ys.map (Value.int .i64)) (ys.map (Value.int .i64)) H (w.drewN q) b 0 r1 hb ho hι (LR_ints ι _ ys) (by rw[hz];simp;omega)
 rw[Nat.add_zero]at r2 k2
 rw[lset_all _ _ (by rw[hz];simp[hl]),←flat_ints]at r2
 rw[←flat_ints]at k2 ⊢
 have h3:=below_grow (w:=(w.drewN q).setCells B base (flat ys)) 0 os
 exact⟨r2.below h3,(k1.trans k2).trans (Keep.below h3)⟩
theorem sort_ok{P:Program}{f:FuncId}(hent:Enters P f)
  (h1:∀(blk off cap:Nat) (zs:List Int) (w:World),Holds (Value.int .i64) w blk off zs.toArray→blk<w.heap.size→zs.length<4611686018427387904→
   Calls P f #[.slice (some ⟨blk,off,none⟩) zs.length cap] w fun e w'=>e= .returned (.tuple #[])∧∃n os,w'=Sort.grow (putRow (Value.int .i64) (Sort.ahead w n) blk off (zs.mergeSort fun x y=>decide (x≤y)).toArray) os)
  (h2:∀(p:Option Addr) (cap:Nat) (w:World),Calls P f #[.slice p 0 cap] w fun e w'=>e= .returned (.tuple #[])∧w'=w):∀args H Bd K,SortT args H Bd K→SCalls P f args H Bd K:=by
 rintro args H Bd K ⟨n,l,c,rfl,b,hb,zs,hz,⟨ho,hl,hle⟩,hK⟩
 refine⟨hent,fun A ι vs w hr hs=> ?_⟩
 obtain⟨v,rfl,hv⟩:=hs.one
 have hz':=intsOf_out hz
 have hu:∀ι w,VR ι w undef (.tuple #[]):=fun ι w=> .tuple rfl fun i v v' h _=>by simp at h
 rcases own_open hr hb ho hv hz' hl with⟨h0,A',c',rfl⟩|⟨B,base,c',rfl,g1,g2,g3,g4⟩
 ·have hzs:zs=[]:=List.length_eq_zero_iff.1 (by omega)
  refine(h2 A' c' w).mono fun e w' ⟨he,hw⟩=> ?_
  subst hw
  refine⟨_,undef,ι,_,Bd,he,hK,Nat.le_refl _,?_,hu _ _,Keep.refl A _,Agr.refl _ _,(NI.refl _).upd _ _⟩
  refine hr.sub fun m x hm=> ?_
  by_cases e:m=n
  ·subst e
   rw[upd_same]at hm
   cases hm
   rw[hb]
   obtain⟨cells,own⟩:=b
   simp only at ho hz'
   subst ho;subst hzs
   rw[hz']
   simp[sortI,flat]
  ·rw[upd_other H _ e]at hm;exact hm
 ·subst hl
  refine(h1 B base c' zs w g4 g3 (by omega)).mono fun e w' ⟨he,q,os,hw⟩=> ?_
  obtain⟨r,k⟩:=put_rel hr hb ho g2 hz' g4 (ys:=sortI zs) (by simp[sortI]) q os
  subst hw
  exact⟨_,undef,ι,_,Bd,he,hK,Nat.le_refl _,r,hu _ _,k,Agr.refl _ _,(NI.refl _).upd _ _⟩
theorem loadBytes_run{P:Program}{w:World}{B:Nat}{cs:Array Value}{e:TypeId}{fr:Nat×Nat}(hB:w.heap[B]? =some (.cells cs e fr)):
  ∀(xs:List UInt8) (o:Nat) (acc:ByteArray),(∀(j:Nat) x,xs[j]? =some x→cs[o+j]? =some (byteV x))→(Extern.Bytes.loadBytes ⟨B,o,none⟩ xs.length acc).run P w= .ok ⟨(acc.data.toList++xs).toArray⟩ w
 |[],o,acc,_=>by
  show Result.ok acc w=_
  congr 1
  simp
 |x::xs,o,acc,h=>by
  have h0:=h 0 x rfl
  rw[Nat.add_zero]at h0
  have ih:=loadBytes_run (P:=P) hB xs (o+1) (acc.push x) fun j y hy=>by rw[Nat.add_assoc,Nat.add_comm 1 j];exact h (j+1) y (by simpa using hy)
  rw[List.length_cons,Extern.Bytes.loadBytes]
  have hld:(load ⟨B,o,none⟩).run P w= .ok (byteV x) w:=by
   rw[run_load P w _ .plain,cell_of hB,h0]
  simp only[Sem.run_bind,hld,Result.andThen_ok,byteV,Int.toNat_natCast]
  rw[show(x.toNat).toUInt8=x from UInt8.ofNat_toNat,add_addr,ih]
  congr 2
  simp
theorem vr_u8s{ι:Ren}{P:Program}{w:World}{xs:List UInt8}{v:Value}(h:VR ι w (lst xs) v):(Extern.Bytes.bytesOf v).run P w= .ok ⟨xs.toArray⟩ w:=by
 generalize hy:lst xs=y at h
 unfold lst LST at hy
 cases h with
 |lst0=>
  simp only[Value.func.injEq,true_and]at hy
  have:=congrArg Array.size hy.2
  simp at this
  subst this
  rename_i k A c
  cases A <;>rfl
 |lst hfz hB hl hsz hr hc=>
  rename_i k rows B base c' cs e fr
  simp only[Value.func.injEq,true_and]at hy
  obtain⟨hk,rfl⟩:=hy
  have hk:1=k:=by injection hk
  subst hk
  have hs:(((xs.map enc).map fun r=>Value.agg r.toArray).toArray).size=xs.length:=by simp
  rw[hs]
  show(Extern.Bytes.loadBytes ⟨B,base,none⟩ xs.length .empty).run P w=_
  rw[loadBytes_run hB xs base .empty fun j x hj=> ?_]
  ·congr 2
  ·have hlt:=(List.getElem?_eq_some_iff.1 hj).1
   have h1:((xs.map enc).map fun r=>Value.agg r.toArray).toArray[j]? =some (.agg #[byteV x]):=by
    simp[hj];rfl
   simp only[List.size_toArray,List.length_map]at hl
   have h2:base+j<cs.size:=by omega
   have h3:=hc j 0 #[byteV x] (byteV x) cs[base+j] h1 (by simp) (by simp[h2])
   generalize hg:cs[base+j]=g at h3
   cases h3
   simp[h2,hg,byteV]
 |_=>cases hy
theorem run_cmp{ι:Ren}{P:Program}{w:World}{xs ys:List UInt8}{v u:Value}(hv:VR ι w (lst xs) v)(hu:VR ι w (lst ys) u):
  (Extern.BytealgCompare.compare #[v,u]).run P w= .ok (.int .i64 (Lib.compareBytes xs ys)) w:=by
 change Sem.run P (do pure (goInt (Extern.BytealgCompare.cmp (←Extern.Bytes.bytesOf v) (←Extern.Bytes.bytesOf u)))) w=_
 simp only[Sem.run_bind,Sem.run_pure,vr_u8s (P:=P) hv,vr_u8s (P:=P) hu,Result.andThen_ok]
 rw[Lib.cmp_eq]
 rfl
theorem sort_len(zs:List Int):(sortI zs).length=zs.length:=by simp[sortI]
def nilC(k:Nat)(v:Value):Value:=match v with
 | .slice none 0 0=> .func (.yield k) #[] #[]
 |v=>v
def nilL:List Nat→List Value→List Value
 |k::ks,v::vs=>nilC k v::nilL ks vs
 |_,vs=>vs
def nilAgg(ks:List Nat)(v:Value):Value:=match v with
 | .agg cs=> .agg (nilL ks cs.toList).toArray
 |v=>v
theorem nilC_pub(H:AH)(S:Nat→Prop)(k:Nat)(v:Value):Pub H S v (nilC k v):=by
 unfold nilC;split
 ·exact .empty
 ·exact .same _
theorem nilL_pub(H:AH)(S:Nat→Prop):∀(ks:List Nat) (vs:List Value),(nilL ks vs).length=vs.length∧∀(i:Nat) v u,vs[i]? =some v→(nilL ks vs)[i]? =some u→Pub H S v u
 |[],vs=>⟨by simp[nilL],fun i v u h1 h2=>by simp[nilL]at h2;rw[h1]at h2;cases h2;exact .same _⟩
 |k::ks,[]=>⟨rfl,fun i v u h1 _=>by simp at h1⟩
 |k::ks,w::vs=>by
  obtain⟨h1,h2⟩:=nilL_pub H S ks vs
  refine⟨by simp[nilL,h1],fun i v u g1 g2=> ?_⟩
  cases i with
  |zero=>simp[nilL]at g1 g2;subst g1;subst g2;exact nilC_pub H S k _
  |succ i=>simp only[nilL,List.getElem?_cons_succ]at g1 g2;exact h2 i v u g1 g2
theorem nilAgg_pub(H:AH)(S:Nat→Prop)(ks:List Nat)(v:Value):Pub H S v (nilAgg ks v):=by
 unfold nilAgg;split
 ·rename_i cs
  obtain⟨h1,h2⟩:=nilL_pub H S ks cs.toList
  refine .agg (by simp[h1]) fun i v u g1 g2=> ?_
  exact h2 i v u (by simpa using g1) (by simpa using g2)
 ·exact .same _
def NilT(i:Nat)(ks:List Nat)(W:Trans):Trans:=fun args H Bd K=>W (args.set i (nilAgg ks (args.getD i undef))) H Bd K
theorem NilT_ok{P:Program}{f:FuncId}(i:Nat)(ks:List Nat){W:Trans}(h:∀args H Bd K,W args H Bd K→SCalls P f args H Bd K):∀args H Bd K,NilT i ks W args H Bd K→SCalls P f args H Bd K:=fun args H Bd K hk=>
 give (fun _=>False) (PubC.set args i _ (nilAgg_pub H _ ks _)) (Le.refl _) (fun _ _ _ h=>h) (h _ _ _ _ hk)
@[go_sem] theorem nilAgg_agg(ks:List Nat)(l:List Value):nilAgg ks (.agg l.toArray)= .agg (nilL ks l).toArray:=(rfl)
@[go_sem] theorem nilL_cons(k:Nat)(ks:List Nat)(v:Value)(vs:List Value):nilL (k::ks) (v::vs)=nilC k v::nilL ks vs:=(rfl)
@[go_sem] theorem nilL_end(ks:List Nat):nilL ks []=[]:=by cases ks <;>rfl
@[go_sem] theorem nilC_nil1:nilC 1 (.slice none 0 0)=lst ([]:List Int):=(rfl)
@[go_sem] theorem nilC_lst{α:Type}[Enc α](k:Nat)(xs:List α):nilC k (lst xs)=lst xs:=(rfl)
def mapG(H:AH):List Value→List Value
 |[]=>[]
 |v::l=>giveV H v::mapG H l
def giveA(H:AH)(v:Value):Value:=match v with
 | .agg cs=> .agg (mapG H cs.toList).toArray
 |v=>giveV H v
def ownS(H:AH)(n:Nat):Prop:=∃b,H n=some b∧b.own=true
theorem giveV_own(H:AH)(v:Value):Pub H (ownS H) v (giveV H v):=by
 unfold giveV
 split
 ·rename_i n k len c
  unfold giveR
  split
  ·rename_i b hb
   split
   ·rename_i h
    refine .lst (b:=b) ⟨b,hb,h.1⟩ hb h.1 (by simp[rowsOf_len]) (by omega) (fun i x hx=> ?_) (fun i j r v u h1 h2 h3=> ?_)
    ·have hi:i<len:=by have:=(Array.getElem?_eq_some_iff.1 hx).1;simpa[rowsOf_len]using this
     have:=rowsOf_get k len b.cells i hi
     rw[List.getElem?_toArray,this]at hx
     cases hx
     refine⟨_,rfl,?_⟩
     have:(i+1)*k≤len*k:=Nat.mul_le_mul_right _ hi
     rw[Nat.succ_mul]at this
     simp;omega
    ·have hi:i<len:=by have:=(Array.getElem?_eq_some_iff.1 h1).1;simpa[rowsOf_len]using this
     have h4:=rowsOf_get k len b.cells i hi
     rw[List.getElem?_toArray,h4]at h1
     cases h1
     have hj:j<k:=by
      have:=(Array.getElem?_eq_some_iff.1 h3).1
      simp at this;omega
     rw[List.getElem?_toArray,List.getElem?_take,if_pos hj,List.getElem?_drop]at h3
     rw[Nat.zero_add,h3]at h2
     cases h2
     exact .same _
   ·exact .same _
  ·exact .same _
 ·exact .same _
theorem mapG_own(H:AH):∀(l:List Value),(mapG H l).length=l.length∧∀(i:Nat) v u,l[i]? =some v→(mapG H l)[i]? =some u→Pub H (ownS H) v u
 |[]=>⟨rfl,fun i v u h _=>by simp at h⟩
 |w::l=>by
  obtain⟨h1,h2⟩:=mapG_own H l
  refine⟨by simp[mapG,h1],fun i v u g1 g2=> ?_⟩
  cases i with
  |zero=>simp[mapG]at g1 g2;subst g1;subst g2;exact giveV_own H _
  |succ i=>simp only[mapG,List.getElem?_cons_succ]at g1 g2;exact h2 i v u g1 g2
theorem giveA_own(H:AH)(v:Value):Pub H (ownS H) v (giveA H v):=by
 unfold giveA;split
 ·rename_i cs
  obtain⟨h1,h2⟩:=mapG_own H cs.toList
  refine .agg (by simp[h1]) fun i v u g1 g2=> ?_
  exact h2 i v u (by simpa using g1) (by simpa using g2)
 ·exact giveV_own H _
theorem mapA_own(H:AH)(args:List Value):PubC H (ownS H) args (args.map (giveA H)):=PubC.of _ _ (by simp) fun i v u h1 h2=>by
 rw[List.getElem?_map,h1]at h2
 cases h2
 exact giveA_own H v
def Sees(H H':AH):Prop:=∀n b,H n=some b→b.own=false→H' n=some b
theorem sees_mns(H:AH):Sees H (mns H):=fun n b h ho=>by
 unfold mns
 rw[if_neg]
 ·exact h
 ·rintro⟨c,c1,c2⟩
  rw[h]at c1;cases c1;rw[ho]at c2;cases c2
def PureV(W:Trans):Prop:=∀args H Bd K,W args H Bd K→∃r,VC r∧K r H Bd∧∀(H':AH) (K':Value→AH→Nat→Prop),Sees H H'→K' r H' Bd→W args H' Bd K'
def LendA(W:Trans):Trans:=fun args H Bd K=>W (args.map (giveA H)) H Bd K
theorem mrg_mns{H:AH}{Bd:Nat}(hb:HB H Bd):mrg H (mns H) Bd=H:=by
 funext n
 unfold mrg
 split
 ·rfl
 ·rename_i h
  have h1:=hb.fresh n (by omega)
  cases h2:mns H n with
  |none=>exact h1.symm
  |some b=>have:=mns_le H n b h2;rw[h1]at this;cases this
theorem SCalls.of_hb{P:Program}{f:FuncId}{args:List Value}{H:AH}{Bd:Nat}{K:Value→AH→Nat→Prop}(he:Enters P f)(h:HB H Bd→SCalls P f args H Bd K):SCalls P f args H Bd K:=
 ⟨he,fun A ι vs w hr hs=>(h hr.hb).2 A ι vs w hr hs⟩
theorem mns_none{H:AH}{Bd n:Nat}(hb:HB H Bd)(h:Bd≤n):mns H n=none:=by
 cases h2:mns H n with
 |none=>rfl
 |some b=>have:=mns_le H n b h2;rw[hb.fresh n h]at this;cases this
theorem LendA_ok{P:Program}{f:FuncId}{W:Trans}(h:∀args H Bd K,W args H Bd K→SCalls P f args H Bd K)(hp:PureV W):∀args H Bd K,LendA W args H Bd K→SCalls P f args H Bd K:=fun args H Bd K hk=>by
 obtain⟨r,h1,h2,h3⟩:=hp _ _ _ _ hk
 refine SCalls.of_hb (h _ _ _ _ hk).1 fun hb=> ?_
 refine lend (mapA_own H args) (h _ _ _ _ (h3 _ _ (sees_mns H) ⟨h1,fun n _=>rfl,fun n b hn hx v hv=> ?_,?_⟩))
 ·rw[mns_none hb hn]at hx;cases hx
 ·rw[mrg_mns hb];exact h2
def nameIn(n:Nat):Value→Prop
 | .slice (some ⟨m,0,some _⟩) _ _=>n=m
 |_=>False
@[go_sem] theorem giveA_agg(H:AH)(l:List Value):giveA H (.agg l.toArray)= .agg (mapG H l).toArray:=(rfl)
@[go_sem] theorem giveA_slice(H:AH)(n k len c:Nat):giveA H (.slice (some ⟨n,0,some k⟩) len c)=giveR (H n) k len (.slice (some ⟨n,0,some k⟩) len c):=(rfl)
@[go_sem] theorem giveA_int(H:AH)(k:IntKind)(n:Int):giveA H (.int k n)= .int k n:=(rfl)
@[go_sem] theorem mapG_nil(H:AH):mapG H []=[]:=(rfl)
@[go_sem] theorem mapG_cons(H:AH)(v:Value)(l:List Value):mapG H (v::l)=giveV H v::mapG H l:=(rfl)
@[go_sem] theorem giveV_int(H:AH)(k:IntKind)(n:Int):giveV H (.int k n)= .int k n:=(rfl)
@[go_sem] theorem giveV_bool(H:AH)(b:Bool):giveV H (.bool b)= .bool b:=(rfl)
def slM(H:AH)(Bd0:Nat)(seen:List Nat)(cells:List Value)(k l:Nat)(v:Value)(go:List Nat→Prop):Prop:=match v with
 | .slice (some ⟨m,0,some k'⟩) l' _=>(k'=k∧l'=l∧Bd0≤m∧m∉seen∧H m=some ⟨cells,true⟩)∧go (m::seen)
 | .slice none 0 0=>(l=0∧cells=[])∧go seen
 |_=>False
def OwF(H:AH)(Bd0:Nat):Nat→List (List Value)→List Nat→List Value→List Value→Prop
 |_,L,_,[],[]=>L=[]
 |i,L,seen,v::vs,r::rs=>match r with
  | .slice (some ⟨n,0,some k⟩) l c=>match L with
   |cells::L'=>(n=Bd0+i∧c=l+1)∧slM H Bd0 seen cells k l v fun seen'=>OwF H Bd0 (i+1) L' seen' vs rs
   |[]=>False
  |r=>(v=r∧NB Bd0 r)∧OwF H Bd0 i L seen vs rs
 |_,_,_,_,_=>False
theorem slM_out{H:AH}{Bd0:Nat}{seen:List Nat}{cells:List Value}{k l:Nat}{v:Value}{go:List Nat→Prop}(h:slM H Bd0 seen cells k l v go):
  (∃m c,v= .slice (some ⟨m,0,some k⟩) l c∧Bd0≤m∧m∉seen∧H m=some ⟨cells,true⟩∧go (m::seen))∨(v= .slice none 0 0∧l=0∧cells=[]∧go seen):=by
 unfold slM at h
 split at h
 ·obtain⟨⟨rfl,rfl,h1,h2,h3⟩,h4⟩:=h
  exact .inl ⟨_,_,rfl,h1,h2,h3,h4⟩
 ·obtain⟨⟨h1,h2⟩,h3⟩:=h
  exact .inr ⟨rfl,h1,h2,h3⟩
 ·exact h.elim
theorem OwF.out{H:AH}{Bd0:Nat}:∀(rs vs:List Value) (i:Nat) (L:List (List Value)) (seen:List Nat),OwF H Bd0 i L seen vs rs→
  ∃σ:List (Option Nat),σ.length=L.length∧rs.length=vs.length∧(∀σ0:List (Option Nat),σ0.length=i→∀(j:Nat) r v,rs[j]? =some r→vs[j]? =some v→RN (σ0++σ) Bd0 r v)∧
   (∀q:Nat,σ[q]? =some none→L[q]? =some [])∧(∀(q m:Nat),σ[q]? =some (some m)→Bd0≤m∧m∉seen∧∃cells,H m=some ⟨cells,true⟩∧L[q]? =some cells)∧
   (∀(i j m:Nat),σ[i]? =some (some m)→σ[j]? =some (some m)→i=j)
 |[],[],i,L,seen,h=>by
  have:L=[]:=h
  subst this
  exact⟨[],rfl,rfl,fun _ _ j r v h=>by simp at h,fun q h=>by simp at h,fun q m h=>by simp at h,fun i j m h=>by simp at h⟩
 |[],_::_,i,L,seen,h=>h.elim
 |_::_,[],i,L,seen,h=>h.elim
 |r::rs,v::vs,i,L,seen,h=>by
  unfold OwF at h
  split at h
  ·rename_i n k l c
   split at h
   ·rename_i cells L'
    obtain⟨⟨rfl,rfl⟩,h⟩:=h
    rcases slM_out h with⟨m,c,rfl,h1,h2,h3,h4⟩|⟨rfl,rfl,rfl,h4⟩
    ·obtain⟨σ,g1,g2,g3,g4,g5,g6⟩:=OwF.out rs vs _ _ _ h4
     refine⟨some m::σ,by simp[g1],by simp[g2],fun σ0 hs j r v e1 e2=> ?_,fun q hq=> ?_,fun q m' hq=> ?_,fun a b m' ha hb=> ?_⟩
     ·cases j with
      |zero=>
       simp only[List.getElem?_cons_zero,Option.some.injEq]at e1 e2
       subst e1;subst e2
       exact .sl (by rw[List.getElem?_append_right (by omega),hs,Nat.sub_self];rfl)
      |succ j=>
       have:=g3 (σ0++[some m]) (by simp[hs]) j r v (by simpa using e1) (by simpa using e2)
       rwa[List.append_assoc,List.singleton_append]at this
     ·cases q with
      |zero=>simp at hq
      |succ q=>simpa using g4 q (by simpa using hq)
     ·cases q with
      |zero=>simp only[List.getElem?_cons_zero,Option.some.injEq]at hq;subst hq;exact⟨h1,h2,_,h3,rfl⟩
      |succ q=>
       obtain⟨k1,k2,k3⟩:=g5 q m' (by simpa using hq)
       exact⟨k1,fun hm=>k2 (List.mem_cons_of_mem _ hm),by simpa using k3⟩
     ·cases a with
      |zero=>cases b with
       |zero=>rfl
       |succ b=>
        simp only[List.getElem?_cons_zero,Option.some.injEq]at ha;subst ha
        exact absurd List.mem_cons_self (g5 b m (by simpa using hb)).2.1
      |succ a=>cases b with
       |zero=>
        simp only[List.getElem?_cons_zero,Option.some.injEq]at hb;subst hb
        exact absurd List.mem_cons_self (g5 a m (by simpa using ha)).2.1
       |succ b=>rw[g6 a b m' (by simpa using ha) (by simpa using hb)]
    ·obtain⟨σ,g1,g2,g3,g4,g5,g6⟩:=OwF.out rs vs _ _ _ h4
     refine⟨none::σ,by simp[g1],by simp[g2],fun σ0 hs j r v e1 e2=> ?_,fun q hq=> ?_,fun q m' hq=> ?_,fun a b m' ha hb=> ?_⟩
     ·cases j with
      |zero=>
       simp only[List.getElem?_cons_zero,Option.some.injEq]at e1 e2
       subst e1;subst e2
       exact .nil (by rw[List.getElem?_append_right (by omega),hs,Nat.sub_self];rfl)
      |succ j=>
       have:=g3 (σ0++[none]) (by simp[hs]) j r v (by simpa using e1) (by simpa using e2)
       rwa[List.append_assoc,List.singleton_append]at this
     ·cases q with
      |zero=>rfl
      |succ q=>simpa using g4 q (by simpa using hq)
     ·cases q with
      |zero=>simp at hq
      |succ q=>
       obtain⟨k1,k2,k3⟩:=g5 q m' (by simpa using hq)
       exact⟨k1,k2,by simpa using k3⟩
     ·cases a with
      |zero=>simp at ha
      |succ a=>cases b with
       |zero=>simp at hb
       |succ b=>rw[g6 a b m' (by simpa using ha) (by simpa using hb)]
   ·exact h.elim
  ·obtain⟨⟨rfl,hnb⟩,h⟩:=h
   obtain⟨σ,g1,g2,g3,g4,g5,g6⟩:=OwF.out rs vs _ _ _ h
   refine⟨σ,g1,by simp[g2],fun σ0 hs j r v e1 e2=> ?_,g4,g5,g6⟩
   cases j with
   |zero=>
    simp only[List.getElem?_cons_zero,Option.some.injEq]at e1 e2
    subst e1;subst e2
    exact .same hnb
   |succ j=>exact g3 σ0 hs j r v (by simpa using e1) (by simpa using e2)
def parts:Value→List Value
 | .agg cs=>cs.toList
 |v=>[v]
def shp:Value→Value→Prop
 | .agg _, .agg _=>True
 | .slice _ _ _, .slice _ _ _=>True
 |_,_=>False
def OwnR(H:AH)(Bd0:Nat)(v r0:Value)(L:List (List Value)):Prop:=shp v r0∧OwF H Bd0 0 L [] (parts v) (parts r0)
def putU:AH→Nat→List (List Value)→AH
 |H,_,[]=>H
 |H,Bd,c::L=>putU (upd H Bd (some ⟨c,true⟩)) (Bd+1) L
theorem putU_at:∀(L:List (List Value)) (H:AH) (Bd:Nat),(∀n,Bd≤n→H n=none)→∀n,putU H Bd L n=if n<Bd then H n else(L[n-Bd]?).map fun c=>⟨c,true⟩
 |[],H,Bd,hn,n=>by
  show H n=_
  split
  ·rfl
  ·rw[hn n (by omega)];rfl
 |c::L,H,Bd,hn,n=>by
  show putU (upd H Bd (some ⟨c,true⟩)) (Bd+1) L n=_
  rw[putU_at L _ _ fun n h=>by rw[upd_other _ _ (by omega)];exact hn n (by omega)]
  by_cases e:n=Bd
  ·subst e;rw[if_pos (by omega),if_neg (by omega),upd_same,Nat.sub_self];rfl
  ·split
   ·rw[if_pos (by omega),upd_other _ _ e]
   ·rename_i h
    rw[if_neg (by omega),show n-Bd=(n-(Bd+1))+1 by omega,List.getElem?_cons_succ]
theorem putU_eq{H:AH}{Bd:Nat}(hb:HB H Bd)(L:List (List Value)):putU H Bd L=putN H Bd L:=funext fun n=>putU_at L H Bd hb.fresh n
def OwnQ(P:Program)(rs:List ResultVar)(H0:AH)(Bd0:Nat)(r0:Value)(L:List (List Value))(s:List Value)(H:AH)(Bd:Nat):Prop:=
 Yld (aresults P rs s H) fun vs=>Le H0 H∧OwnR H Bd0 (tupleOf vs) r0 L
def ownQ(P:Program)(rs:List ResultVar)(H0:AH)(Bd0:Nat)(r0:Value)(L:List (List Value)):APost
 | .normal=>OwnQ P rs H0 Bd0 r0 L
 | .ret=>OwnQ P rs H0 Bd0 r0 L
 |_=>fun _ _ _=>False
section
variable {P:Program} {s:List Value} {H:AH} {Bd:Nat}
@[go_sem ↓] theorem ownQ_ret (rs:List ResultVar) (H0:AH) (B0:Nat) (r0:Value) (L:List (List Value)):ownQ P rs H0 B0 r0 L .ret=OwnQ P rs H0 B0 r0 L:=(rfl)
@[go_sem ↓] theorem OwnQ_eq (rs:List ResultVar) (H0:AH) (B0:Nat) (r0:Value) (L:List (List Value)):OwnQ P rs H0 B0 r0 L s H Bd=Yld (aresults P rs s H) fun vs=>Le H0 H∧OwnR H B0 (tupleOf vs) r0 L:=(rfl)
@[go_sem] theorem OwnR_agg(B0:Nat)(a b:List Value)(L:List (List Value)):OwnR H B0 (.agg a.toArray) (.agg b.toArray) L=OwF H B0 0 L [] a b:=by simp[OwnR,shp,parts]
@[go_sem] theorem OwnR_slice(B0:Nat)(a b:Option Addr)(l l' c c':Nat)(L:List (List Value)):OwnR H B0 (.slice a l c) (.slice b l' c') L=OwF H B0 0 L [] [.slice a l c] [.slice b l' c']:=by simp[OwnR,shp,parts]
@[go_sem] theorem OwF_nil(B0 i:Nat)(L:List (List Value))(seen:List Nat):OwF H B0 i L seen [] []=(L=[]):=(rfl)
@[go_sem] theorem OwF_int(B0 i:Nat)(L:List (List Value))(seen:List Nat)(k:IntKind)(n:Int)(v:Value)(vs rs:List Value):OwF H B0 i L seen (v::vs) (.int k n::rs)=(v= .int k n∧OwF H B0 i L seen vs rs):=by
 show(((v= .int k n∧NB B0 (.int k n))∧_)=_);simp[show NB B0 (.int k n)from .int _ _]
@[go_sem] theorem OwF_bool(B0 i:Nat)(L:List (List Value))(seen:List Nat)(b:Bool)(v:Value)(vs rs:List Value):OwF H B0 i L seen (v::vs) (.bool b::rs)=(v= .bool b∧OwF H B0 i L seen vs rs):=by
 show(((v= .bool b∧NB B0 (.bool b))∧_)=_);simp[show NB B0 (.bool b)from .bool _]
@[go_sem] theorem OwF_sl(B0 i:Nat)(cells:List Value)(L:List (List Value))(seen:List Nat)(n k l c:Nat)(v:Value)(vs rs:List Value):OwF H B0 i (cells::L) seen (v::vs) (.slice (some ⟨n,0,some k⟩) l c::rs)=((n=B0+i∧c=l+1)∧slM H B0 seen cells k l v fun seen'=>OwF H B0 (i+1) L seen' vs rs):=(rfl)
@[go_sem] theorem slM_sl(B0:Nat)(seen:List Nat)(cells:List Value)(k l m k' l' c:Nat)(go:List Nat→Prop):slM H B0 seen cells k l (.slice (some ⟨m,0,some k'⟩) l' c) go=((k'=k∧l'=l∧B0≤m∧m∉seen∧H m=some ⟨cells,true⟩)∧go (m::seen)):=(rfl)
@[go_sem] theorem slM_nil(B0:Nat)(seen:List Nat)(cells:List Value)(k l:Nat)(go:List Nat→Prop):slM H B0 seen cells k l (.slice none 0 0) go=((l=0∧cells=[])∧go seen):=(rfl)
end
theorem flat_nb{α:Type}[Enc α](Bd:Nat):∀(xs:List α),∀v∈flat xs,NB Bd v:=fun xs v h=>by
 unfold flat at h
 obtain⟨x,_,hx⟩:=List.mem_flatMap.1 h
 exact enc_nb x Bd v hx
theorem fn_own{P:Program}(hP:POk P)(E:Env P)(PL:List (Nat×List Nat×List Stp×JT)){f:FuncId}{fn:Func}{c:Code}{args:List Value}{H:AH}{Bd:Nat}{K:Value→AH→Nat→Prop}(r0:Value)(L:List (List Value))(hK:K r0 (putU H Bd L) (Bd+L.length))
  (hf:P.funcs[f]? =some fn) (hb:fn.body=some c) {rs:List ResultVar} (hrs:fn.results.toList=rs) {m:Nat} (hm:fn.ntmps=m) (hm2:args.length≤m) (hent:Enters P f) (hp:plansOK PL c=true) (hnb:∀cells∈L,∀v∈cells,NB Bd v)
  (h:HB H Bd→(∀v∈args,NB Bd v)→vq E PL Bd c (ownQ P rs H Bd r0 L) (aS m undef (idx 0 args)) H Bd):SCalls P f args H Bd K:=by
 refine SCalls.of_hb hent fun hH=>anew ?_
 rw[putU_eq hH]at hK
 subst hm
 rw[←start_aS args _ hm2]at h
 refine scalls_of_tr hf hb hrs hent fun hh ha=>(vq_sound hP PL c _ _ H Bd hp (h hh ha)).conv fun e s' H' Bd' hle hq=> ?_
 have key:OwnQ P rs H Bd r0 L s' H' Bd'→RetQ P rs H Bd (fun r H' _=>∃σ L r0,Anew H Bd r H' σ L r0∧K r0 (putN H Bd L) (Bd+L.length)) s' H' Bd':=fun⟨vs,h1,h2,h3,h4⟩=>by
  obtain⟨σ,g1,g2,g3,g4,g5,g6⟩:=OwF.out _ _ _ _ _ h4
  have hrn:RN σ Bd r0 (tupleOf vs):=by
   revert h3 g2 g3
   generalize tupleOf vs=v
   intro h3 g2 g3
   unfold shp at h3
   split at h3
   ·rename_i a b
    refine .agg (by simpa[parts]using g2) fun j r v e1 e2=> ?_
    exact g3 [] rfl j r v (by simpa[parts]using e1) (by simpa[parts]using e2)
   ·exact g3 [] rfl 0 _ _ rfl rfl
   ·exact h3.elim
  refine⟨vs,h1,tupleOf vs,fun _=>False,H',Bd', .same _,fun _ _ _ h=>h,Le.refl _,hle, .inl ⟨Nat.le_refl _,fun hb2 _=>⟨σ,L,r0,⟨g1,h2,hrn,g4,fun i m hm=> ?_,g6⟩,hK⟩⟩⟩
  obtain⟨k1,_,cells,k2,k3⟩:=g5 i m hm
  refine⟨k1,_,cells,k2,rfl,k3,rfl,fun j v u e1 e2=> ?_⟩
  rw[e1]at e2;cases e2
  exact .same (hnb cells (List.mem_of_getElem? k3) v (List.mem_of_getElem? e1))
 cases e with
 |normal=>exact key hq
 |ret=>exact key hq
 |_=>exact hq.elim
def PureO(W:Trans):Prop:=∀args H Bd K,W args H Bd K→∃r L,VC r∧(∀cells∈L,∀v∈cells,VC v)∧K r (putU H Bd L) (Bd+L.length)∧∀(H':AH) (K':Value→AH→Nat→Prop),Sees H H'→K' r (putU H' Bd L) (Bd+L.length)→W args H' Bd K'
theorem flat_vc{α:Type}[Enc α](hv:∀(x:α) v,v∈enc x→VC v)(xs:List α):∀v∈flat xs,VC v:=fun v h=>by
 unfold flat at h
 obtain⟨x,_,hx⟩:=List.mem_flatMap.1 h
 exact hv x v hx
end Go.SC
namespace Go.SC
open Go
theorem fn_set{P:Program}(hP:POk P)(E:Env P)(PL:List (Nat×List Nat×List Stp×JT)){f:FuncId}{fn:Func}{c:Code}{args:List Value}{H H2:AH}{Bd:Nat}{K:Value→AH→Nat→Prop}(r0:Value)(hK:K r0 H2 Bd)(hH2:HB H Bd→HB H2 Bd)
  (hf:P.funcs[f]? =some fn) (hb:fn.body=some c) {rs:List ResultVar} (hrs:fn.results.toList=rs) {m:Nat} (hm:fn.ntmps=m) (hm2:args.length≤m) (hent:Enters P f) (hp:plansOK PL c=true) (hnb:(∀v∈args,NB Bd v)→HB H Bd→NB Bd r0)
  (h:HB H Bd→(∀v∈args,NB Bd v)→vq E PL Bd c (pureQ P rs H2 r0) (aS m undef (idx 0 args)) H Bd):SCalls P f args H Bd K:=by
 subst hm
 rw[←start_aS args _ hm2]at h
 refine scalls_of_tr hf hb hrs hent fun hh ha=>(vq_sound hP PL c _ _ H Bd hp (h hh ha)).conv fun e s' H' Bd' hle hq=> ?_
 have key:PureQ P rs H2 r0 s' H' Bd'→RetQ P rs H Bd K s' H' Bd':=fun⟨vs,h1,h2,h3⟩=>
  ⟨vs,h1,r0,_,H2,Bd,h3,fun n b hn (hx:H2 n=none)=>(by rw[hx]at hn;cases hn),h2,Nat.le_refl _, .inr ⟨hnb ha hh,hH2 hh,hK⟩⟩
 cases e with
 |normal=>exact key hq
 |ret=>exact key hq
 |_=>exact hq.elim
def mtD:Nat→Nat→ByteArray→ByteArray
 |0,_,out=>out
 |f+1,k,out=>if k=0 then out else mtD f (k/10) (oneB ((48+(k:Int)%10)%256)++out)
def mtext(k:Int):ByteArray:=if k≤0 then⟨#[109,48]⟩else⟨#[109]⟩++mtD 64 k.toNat ⟨#[]⟩
class Mk (α:Type) (w:outParam Nat) where
 at_:Int→α
instance :Mk Int 1:=⟨fun q=>q⟩
instance :Mk UInt8 1:=⟨fun q=>UInt8.ofNat (q%256).toNat⟩
instance :Mk GSymbol 2:=⟨fun q=>⟨mtext q,q+1⟩⟩
section
variable {α:Type} {w:Nat} [Mk α w]
def mkL(α:Type){w:Nat}[Mk α w](q:Int)(n:Nat):List α:=(List.range n).map fun i=>Mk.at_ (q+(i*w:Nat))
theorem mkL_zero(q:Int):mkL α q 0=[]:=rfl
theorem mkL_succ(q:Int)(n:Nat):mkL α q (n+1)=mkL α q n++[Mk.at_ (q+(n*w:Nat))]:=by simp[mkL,List.range_succ]
@[go_sem] theorem mkL_len(q:Int)(n:Nat):(mkL α q n).length=n:=by simp[mkL]
theorem mkL_get(q:Int){n i:Nat}(h:i<n):(mkL α q n)[i]? =some (Mk.at_ (q+(i*w:Nat))):=by
 simp[mkL,h]
variable [Enc α]
def mkC(α:Type)[Enc α]{w:Nat}[Mk α w](q:Int)(i:Nat)(cells:List Value):List Value:=flat (mkL α q i)++cells.drop (i*Enc.k α)
theorem mkC_zero(q:Int)(cells:List Value):mkC α q 0 cells=cells:=by simp[mkC,mkL_zero,flat]
@[go_sem] theorem mkC_len(q:Int)(i:Nat)(cells:List Value)(h:i*Enc.k α≤cells.length):(mkC α q i cells).length=cells.length:=by
 simp only[mkC,List.length_append,flat_len,mkL_len,List.length_drop];omega
theorem mkC_end{n:Nat}(q:Int)(cells:List Value)(h:cells.length=n*Enc.k α):mkC α q n cells=flat (mkL α q n):=by
 simp[mkC,h]
theorem mkC_lset{n i:Nat}(q:Int)(cells:List Value)(h:cells.length=n*Enc.k α)(hi:i<n):lset (mkC α q i cells) (i*Enc.k α) (enc (Mk.at_ (q+(i*w:Nat)):α))=mkC α q (i+1) cells:=by
 have h1:i*Enc.k α+Enc.k α≤n*Enc.k α:=by rw[←Nat.succ_mul];exact Nat.mul_le_mul_right _ hi
 have h0:(mkC α q i cells).length=cells.length:=mkC_len q i cells (by omega)
 refine List.ext_getElem? fun j=> ?_
 rw[lset_get _ _ _ _ (by rw[h0,enc_len];omega),enc_len]
 have hf:(flat (mkL α q i)).length=i*Enc.k α:=by rw[flat_len,mkL_len]
 have hf2:flat (mkL α q (i+1))=flat (mkL α q i)++enc (Mk.at_ (q+(i*w:Nat)):α):=by rw[mkL_succ,flat_append,flat_one]
 unfold mkC
 rw[hf2]
 split
 ·rw[List.getElem?_append_left (by omega),List.append_assoc,List.getElem?_append_left (by omega)]
 ·split
  ·rw[List.append_assoc,List.getElem?_append_right (by omega),hf,List.getElem?_append_left (by rw[enc_len];omega)]
  ·rw[List.getElem?_append_right (by omega),hf,List.getElem?_append_right (by rw[List.length_append,hf,enc_len];omega),List.length_append,hf,enc_len,List.getElem?_drop,List.getElem?_drop]
   congr 1
   rw[Nat.succ_mul];omega
end
theorem mkC_set1{α:Type}[Enc α]{w:Nat}[Mk α w][hk:EncK α 1]{n i:Nat}{v:Value}(q:Int)(cells:List Value)(h:cells.length=n*1)(hi:i<n)(he:enc (Mk.at_ (q+(i*w:Nat)):α)=[v]):(mkC α q i cells).set i v=mkC α q (i+1) cells:=by
 have:=mkC_lset (α:=α) (n:=n) (i:=i) q cells (by rw[hk.h];exact h) hi
 rw[hk.h,Nat.mul_one,he]at this
 exact this
theorem mkC_set2{α:Type}[Enc α]{w:Nat}[Mk α w][hk:EncK α 2]{n i:Nat}{v u:Value}(q:Int)(cells:List Value)(h:cells.length=n*2)(hi:i<n)(he:enc (Mk.at_ (q+(i*w:Nat)):α)=[v,u]):((mkC α q i cells).set (i*2) v).set (i*2+1) u=mkC α q (i+1) cells:=by
 have:=mkC_lset (α:=α) (n:=n) (i:=i) q cells (by rw[hk.h];exact h) hi
 rw[hk.h,he]at this
 exact this
theorem hb_setF{H:AH}{Bd n:Nat}{b:Blk}{α:Type}[Enc α](hh:HB H Bd)(hb:H n=some b)(xs:List α):HB (upd H n (some ⟨flat xs,true⟩)) Bd:=by
 have hn:n<Bd:=by
  rcases Nat.lt_or_ge n Bd with h|h
  ·exact h
  ·rw[hh.fresh n h]at hb;cases hb
 refine⟨fun m hm=> ?_,fun m c hm v hv=> ?_⟩
 ·rw[upd_other _ _ (by omega)];exact hh.fresh m hm
 ·by_cases e:m=n
  ·subst e;rw[upd_same]at hm;cases hm;exact flat_nb Bd xs v hv
  ·rw[upd_other _ _ e]at hm;exact hh.nb m c hm v hv
theorem le_own{H:AH}{n:Nat}{cells:List Value}(hb:H n=some ⟨cells,true⟩):Le (upd H n (some ⟨cells,true⟩)) H:=fun m b hm=>by
 by_cases e:m=n
 ·subst e;rw[upd_same]at hm;rw[hb];exact hm
 ·rw[upd_other _ _ e]at hm;exact hm
theorem hb_in{H:AH}{n B:Nat}{b:Blk}(h:HB H B)(hb:H n=some b):n<B:=by
 rcases Nat.lt_or_ge n B with h1|h1
 ·exact h1
 ·rw[h.fresh n h1]at hb;cases hb
theorem Le_mark{H H':AH}{n:Nat}{b:Option Blk}(h:Le H H'):Le (upd H n b) (upd H' n b):=fun m c hm=>by
 by_cases e:m=n
 ·subst e;rw[upd_same]at hm ⊢;exact hm
 ·rw[upd_other _ _ e]at hm ⊢;exact h m c hm
class EncVC (α:Type) [Enc α]:Prop where
 h:∀(x:α) v,v∈enc x→VC v
instance :EncVC Int:=⟨fun x v h=>by have:v= .int .i64 x:=List.mem_singleton.1 h;subst this;exact .int _ _⟩
theorem vc_flat{α:Type}[Enc α][h:EncVC α](xs:List α):∀v∈flat xs,VC v:=flat_vc h.h xs
theorem vc_agg{l:List Value}(h:∀v∈l,VC v):VC (.agg l.toArray):= .agg fun i v hi=>h v (List.mem_of_getElem? (by simpa using hi))
@[go_sem] theorem nm_nil(n:Nat):(¬n∈([]:List Nat))=True:=by simp
@[go_sem] theorem nm_cons(n m:Nat)(l:List Nat):(¬n∈(m::l))=(n≠m∧¬n∈l):=by simp
@[go_sem] theorem blk_eq(a b:List Value):((⟨a,true⟩:Blk)=⟨b,true⟩)=(a=b):=by simp
theorem u8_inj(a b:UInt8):((a.toNat:Int)=(b.toNat:Int))=(a=b):=propext ⟨fun h=>UInt8.toNat_inj.1 (by omega),fun h=>by rw[h]⟩
@[go_sem high] theorem giveR_mk {α:Type} [Enc α] {w k n:Nat} [Mk α w] [hk:EncK α k] (q:Int) (v:Value):giveR (some ⟨flat (mkL α q n),true⟩) k n v=lst (mkL α q n):=giveR_flat _ hk.h (mkL_len q n).symm v
class MkSm (α:Type) {w:Nat} [Mk α w] [Sz α]:Prop where
 h:∀q:Int,sm (Mk.at_ q:α)
instance :MkSm Int:=⟨fun _=>trivial⟩
theorem mkL_sm{α:Type}{w:Nat}[Mk α w][Sz α][h:MkSm α](q:Int){n:Nat}(hn:n≤281474976710656):sm (mkL α q n):=⟨by rw[mkL_len];exact hn,fun x hx=>by
 obtain⟨i,_,rfl⟩:=List.mem_map.1 hx
 exact h.h _⟩
end Go.SC
namespace Go.SC
open Go
theorem fidx_bd{α:Type}(p:α→Bool)(l:List α): -1≤fidx p l∧fidx p l≤l.length:=by
 by_cases h:∃j,∃hj:j<l.length,p l[j]=true∧∀k (hk:k<j),p (l[k]'(by omega))=false
 ·obtain⟨j,hj,h1,h2⟩:=h
  have:=fidx_hit (p:=p) hj (fun k hk x hx=>by
   have hk2:k<l.length:=by omega
   rw[List.getElem?_eq_getElem hk2]at hx;cases hx;exact h2 k hk) h1
  omega
 ·have hn:∀j (hj:j<l.length),p l[j]=false:=fun j=>by
   induction j using Nat.strongRecOn with
   |ind j ih=>
    intro hj
    cases hp:p l[j]with
    |false=>rfl
    |true=>exact absurd ⟨j,hj,hp,fun k hk=>ih k hk (by omega)⟩ h
  have:=fidx_none (p:=p) (xs:=l) fun j hj x hx=>by rw[List.getElem?_eq_getElem hj]at hx;cases hx;exact hn j hj
  omega
end Go.SC
set_option linter.unusedSimpArgs false
set_option linter.unusedVariables false
namespace Go.SC
open Go Go.RowKit
theorem Rel.adopt{A:Nat→Prop}{ι:Ren}{H:AH}{Bd:Nat}{w w':World}(hr0:Rel A ι H Bd w)(hbl:Below w.heap.size w w'){m:Nat}(hm:ι m=none)(hb:m<Bd){L:List Value}{cs:Array Value}{e:TypeId}{fr:Nat×Nat}{g:Nat}(hge:w.heap.size≤g)(hg:w'.heap[g]? =some (.cells cs e fr))
  (hL:∀(i:Nat) v,L[i]? =some v→∃v',cs[i]? =some v'∧VR ι w' v v') (hu:Unfr fr cs.size):
  Rel A (ren ι m (.at g 0)) (upd H m (some ⟨L,true⟩)) Bd w':=by
 have hr:=hr0.below hbl
 have hx:=ext_ren (.at g 0) hm
 have hw:=Fro.refl ι w'
 refine⟨fun n hn=> ?_,fun n b hn=> ?_,fun n k b b' B base B' base' hne h1 h2 ho i1 i2=> ?_,hr.newA,fun n b B base h1 ho i1 hz=> ?_,hr.fzlt,fun n b hn hq=> ?_,hr.mp⟩
 ·rw[ren_other _ _ (by omega)];exact hr.bound n hn
 ·by_cases e1:n=m
  ·subst e1
   rw[upd_same]at hn
   cases hn
   refine .inr ⟨g,0,cs,e,fr,ren_same _ _ _,hg,fun _=>⟨hr0.newA _ hge,hu⟩,fun h=>by(cases h),fun i v hv=> ?_⟩
   obtain⟨v',h3,h4⟩:=hL i v hv
   exact⟨v',by simpa using h3,h4.mono hx hw⟩
  ·rw[upd_other H _ e1]at hn
   exact(hr.blk n b hn).mono hx hw fun B base hB=>rfl
 ·by_cases e1:n=m
  ·subst e1
   rw[ren_same]at i1
   cases i1
   have hk:k≠n:=fun h=>hne h.symm
   rw[ren_other _ _ hk]at i2
   rw[upd_other H _ hk]at h2
   have:=hr0.lt h2 i2
   omega
  ·rw[upd_other H _ e1]at h1
   rw[ren_other _ _ e1]at i1
   by_cases e2:k=m
   ·subst e2
    rw[ren_same]at i2
    cases i2
    have:=hr0.lt h1 i1
    omega
   ·rw[upd_other H _ e2]at h2
    rw[ren_other _ _ e2]at i2
    exact hr.apart n k b b' B base B' base' hne h1 h2 ho i1 i2
 ·by_cases e1:n=m
  ·subst e1
   rw[ren_same]at i1
   cases i1
   have:=hr0.fzlt _ hz
   omega
  ·rw[upd_other H _ e1]at h1
   rw[ren_other _ _ e1]at i1
   exact hr.froz n b B base h1 ho i1 hz
 ·by_cases e1:n=m
  ·subst e1;rw[upd_same]at hn;cases hn;cases hq
  ·rw[upd_other H _ e1]at hn;exact⟨(ren_other _ _ e1).trans (hr.glob n b hn hq).1,(hr.glob n b hn hq).2⟩
theorem Below.fro{ι:Ren}{w w':World}(h:Below w.heap.size w w'):Fro ι w w':=
 ⟨fun B cs e fr hB=>⟨cs,fr,(h.block B (Array.getElem?_eq_some_iff.1 hB).1).trans hB,rfl⟩,fun B cs e fr _ hx=>(h.block B (Array.getElem?_eq_some_iff.1 hx).1).trans hx⟩
end Go.SC
namespace Go.Proofs
open Go.Shelf Go.RowKit Go.Lib
variable {P:Program} {ρ:Go.Shelf.Ren}
set_option maxHeartbeats 2000000 in
set_option maxRecDepth 100000 in
theorem clone_zero(L:SlLaysE0.n41 P ρ)(i0:TypeInfo)(z:Value)(size bytes:Nat)(hi:P.info? (ρ.t 23)=some i0)(hz0:i0.zero=some z)(hz1:i0.size=size)(hz2:i0.bytes=bytes)(hzs:z.cells.size=size)(hsz:0<size)
  (z23:∀w,(Go.sizeOf (ρ.t 23)).run P w= .ok size w) (a:Addr) (c:Nat) (w:World):
  Calls P (ρ.f 41) #[.slice (some a) 0 c] w fun e w'=>∃v',e= .returned v'∧w'.ownsRow w.heap.size (ρ.t 23) size v' 0 []∧v'≠ .slice none 0 0∧Below w.heap.size w w':=by
 have mixed:=L.mixed;have t4:=L.t4;have a4:=L.a4;have z4:=L.z4;have v4:=L.v4;have t22:=L.t22;have a22:=L.a22;have z22:=L.z22;have v22:=L.v22
 have q22:∀(w:World) (a:Option Addr) (n c n' c':Nat),(binOp .eql (ρ.t 22) (.slice a n c) (.slice none n' c')).run P w= .ok (.bool a.isNone) w:=fun w a n c n' c'=>Lib.run_eql_slice_nil w _ _ a n c n' c' L.t22
 have u22:∀w,Sem.run P (underlying (ρ.t 22)) w= .ok (TypeDesc.slice (ρ.t 23)) w:=run_underlying t22
 obtain⟨_,_,FG⟩:=L.f41
 go_enter FG,SlBodyN.n41_ntmps ρ
 go_wp2_with (at_builtin;refine wpList_append_own _ rfl _ _ (ρ.t 22) rfl w.heap.size (ρ.t 23) i0 z size bytes t22 hi hz0 hz1 hz2 hzs hsz _ _ _ rfl (World.ownsRow_made w #[] 0 (Nat.le_refl _) (Nat.zero_le _) (by simp)) a 0 c [] rfl (by simp) (by intro j u hj;simp at hj) (by intro u hu;cases hu) (by unfold maxLen;omega) (by omega) (by simp) ?_)
 intro v' w1 hown hgrow hnil
 go_wp2
 go_ret
 refine⟨v',rfl,by simpa using hown,?_,?_⟩
 ·first|exact hnil|(intro e;exact absurd (hnil.1 e).1 (by simp))
 ·exact((Below.refl _ w).alloc (Nat.le_refl _) _).grown hgrow (by simp) (by intro k hk;simp[Value.ownBlock]at hk;omega)
end Go.Proofs
namespace Go.SC
open Go Go.RowKit
def CloneT(α:Type)[Enc α](k bound:Nat):Trans:=fun args H Bd K=>∃xs:List α,args=[lst xs]∧(xs.length≤bound∧K (.slice (some ⟨Bd,0,some k⟩) xs.length (xs.length+1)) (upd H Bd (some ⟨flat xs,true⟩)) (Bd+1))
theorem CloneT_eq(α:Type)[Enc α](k bound:Nat)(xs:List α)(H:AH)(Bd:Nat)(K:Value→AH→Nat→Prop):CloneT α k bound [lst xs] H Bd K=(xs.length≤bound∧K (.slice (some ⟨Bd,0,some k⟩) xs.length (xs.length+1)) (upd H Bd (some ⟨flat xs,true⟩)) (Bd+1)):=by
 refine propext ⟨fun h=> ?_,fun h=>⟨_,rfl,h⟩⟩
 obtain⟨xs',e,h⟩:=h
 simp only[List.cons.injEq,lst_inj,and_true]at e
 obtain rfl:=e
 exact h
theorem clone_end{A:Nat→Prop}{ι:Ren}{H:AH}{Bd:Nat}{w w':World}{K:Value→AH→Nat→Prop}{k n:Nat}{e:TypeId}{v':Value}{news L:List Value}(hr:Rel A ι H Bd w)(hbl:Below w.heap.size w w')(hk:0<k)
  (hown:w'.ownsRow w.heap.size e k v' n news) (hLl:L.length=n*k) (hL:∀(i:Nat) v,L[i]? =some v→∃u,news[i]? =some u∧VR ι w v u) (hK:K (.slice (some ⟨Bd,0,some k⟩) n (n+1)) (upd H Bd (some ⟨L,true⟩)) (Bd+1)):
  ∃r ι' H' Bd',K r H' Bd'∧Bd≤Bd'∧Rel A ι' H' Bd' w'∧VR ι' w' r v'∧Keep A ι w ι' w'∧Agr Bd ι ι'∧NI H H':=by
 have hm:ι Bd=none:=hr.bound Bd (Nat.le_refl _)
 obtain⟨hn,ho⟩:=hown
 have kb:Keep A ι w ι w':=Keep.below hbl
 rcases ho with⟨rfl,rfl⟩|⟨g,cap,cur,rfl,hge,hg,h1,h2,h3,h4⟩
 ·have hL0:L=[]:=List.eq_nil_of_length_eq_zero (by rw[hLl];simp)
  subst hL0
  have r:=((hr.below hbl).raise (Nat.le_succ Bd)).void hm (Nat.lt_succ_self _)
  exact⟨_,_,_,Bd+1,hK,Nat.le_succ _,r, .sl ⟨_,ren_same _ _ _⟩ (Nat.le_refl _) (by simp) (by simp) (.inl rfl),⟨kb.os,kb.tape,kb.output,kb.size,kb.block,kb.rows,kb.fz,kb.fzA⟩,fun m hm=>ren_other _ _ (by omega),(NI.refl _).upd _ _⟩
 ·have r:=(hr.raise (Nat.le_succ Bd)).adopt hbl hm (Nat.lt_succ_self _) (L:=L) hge hg (fun i v hi=>by
   obtain⟨u,hu,hv⟩:=hL i v hi
   refine⟨u,?_,hv.mono (Ext.refl ι) (Below.fro hbl)⟩
   have hi2:i<n*k:=by have:=(List.getElem?_eq_some_iff.1 hu).1;omega
   rw[←h4,List.getElem?_take,if_pos hi2,Array.getElem?_toList]at hu
   exact hu) (fun i _ h=>by simp at h)
  exact⟨_,_,_,Bd+1,hK,Nat.le_succ _,r, .sl ⟨_,ren_same _ _ _⟩ h1 (by omega) (by omega) (.inr ⟨g,0,cur.size,ren_same _ _ _,rfl,⟨cur,e,(0,0),hg,rfl⟩,by rw[h3];omega⟩),⟨kb.os,kb.tape,kb.output,kb.size,kb.block,kb.rows,kb.fz,kb.fzA⟩,fun m hm=>ren_other _ _ (by omega),(NI.refl _).upd _ _⟩
end Go.SC
namespace Go.SC
open Go Go.RowKit
theorem vr_any{α:Type}[Enc α]{ι:Ren}{w:World}{xs:List α}{v:Value}(h:VR ι w (lst xs) v):(xs=[]∧∃A c,v= .slice A 0 c)∨
  ∃(B base c:Nat) (news:List Value),v= .slice (some ⟨B,base,none⟩) xs.length c∧xs.length≤c∧news.length=xs.length*Enc.k α∧(∀(j:Nat) u,news[j]? =some u→w.cell? ⟨B,base+j,none⟩=some u)∧
   ∀(i:Nat) x,(flat xs)[i]? =some x→∃u,news[i]? =some u∧VR ι w x u:=by
 generalize hy:lst xs=y at h
 unfold lst LST at hy
 cases h with
 |lst0=>
  simp only[Value.func.injEq,true_and]at hy
  have:=congrArg Array.size hy.2
  simp at this
  exact .inl ⟨this,_,_,rfl⟩
 |lst hfz hB hl hsz hr hc=>
  rename_i k rows B base c' cs e fr
  simp only[Value.func.injEq,true_and]at hy
  obtain⟨hk,rfl⟩:=hy
  have hk:Enc.k α=k:=by injection hk
  subst hk
  simp only[List.size_toArray,List.length_map]at hl
  have hle:base+xs.length*Enc.k α≤cs.size:=Nat.le_trans (Nat.add_le_add_left (Nat.mul_le_mul_right _ hl) _) hsz
  have hnl:((cs.toList.drop base).take (xs.length*Enc.k α)).length=xs.length*Enc.k α:=by
   rw[List.length_take,List.length_drop,show cs.toList.length=cs.size from rfl];omega
  have hng:∀j,j<xs.length*Enc.k α→((cs.toList.drop base).take (xs.length*Enc.k α))[j]? =cs[base+j]? :=fun j hj=>by
   rw[List.getElem?_take,if_pos hj,List.getElem?_drop,Array.getElem?_toList]
  refine .inr ⟨B,base,c',(cs.toList.drop base).take (xs.length*Enc.k α),by simp,hl,hnl,fun j u hj=> ?_,fun i x hi=> ?_⟩
  ·have hlt:j<xs.length*Enc.k α:=by rw[←hnl];exact(List.getElem?_eq_some_iff.1 hj).1
   rw[hng j hlt]at hj
   rw[cell_of hB];exact hj
  ·have hlt:i<xs.length*Enc.k α:=by rw[←flat_len];exact(List.getElem?_eq_some_iff.1 hi).1
   have hpos:0<Enc.k α:=Enc.pos
   have hq:i/Enc.k α<xs.length:=Nat.div_lt_of_lt_mul (by rw[Nat.mul_comm];exact hlt)
   have hrr:i%Enc.k α<Enc.k α:=Nat.mod_lt _ hpos
   have hi2:i/Enc.k α*Enc.k α+i%Enc.k α=i:=Nat.div_add_mod' i _
   have hfe:(flat xs)[i]? =(enc xs[i/Enc.k α])[i%Enc.k α]? :=by
    have h1:=flat_get xs _ _ (List.getElem?_eq_getElem hq)
    rw[←h1,List.getElem?_take,if_pos hrr,List.getElem?_drop,hi2]
   have h1:((xs.map enc).map fun r=>Value.agg r.toArray).toArray[i/Enc.k α]? =some (.agg (enc xs[i/Enc.k α]).toArray):=by simp[hq]
   have hb:base+i<cs.size:=by omega
   refine⟨cs[base+i],by rw[hng i hlt];simp[hb],?_⟩
   exact hc (i/Enc.k α) (i%Enc.k α) _ x _ h1 (by rw[List.getElem?_toArray,←hfe];exact hi) (by rw[Nat.add_assoc,hi2];simp[hb])
 |_=>cases hy
theorem clone_ok{P:Program}{f:FuncId}{α:Type}[Enc α]{k:Nat}[hk:EncK α k](hent:Enters P f){e:TypeId}{bound:Nat}
  (h1:∀(b off n c:Nat) (news:List Value) (w:World),news.length=n*k→n≤bound→(∀j u,news[j]? =some u→w.cell? ⟨b,off+j,none⟩=some u)→(∀u∈news,u.oneCell'=true)→
   Calls P f #[.slice (some ⟨b,off,none⟩) n c] w fun e' w'=>∃v',e'= .returned v'∧w'.ownsRow w.heap.size e k v' n news∧v'≠ .slice none 0 0∧Below w.heap.size w w')
  (h2:∀(n c:Nat) (w:World),Calls P f #[.slice none n c] w fun e' w'=>e'= .returned (.slice none 0 0)∧w'=w)
  (h3:∀(a:Addr) (c:Nat) (w:World),Calls P f #[.slice (some a) 0 c] w fun e' w'=>∃v',e'= .returned v'∧w'.ownsRow w.heap.size e k v' 0 []∧v'≠ .slice none 0 0∧Below w.heap.size w w'):
  ∀args H Bd K,CloneT α k bound args H Bd K→SCalls P f args H Bd K:=by
 have hk':=hk.h
 subst hk'
 rintro args H Bd K ⟨xs,rfl,hb,hK⟩
 refine⟨hent,fun A ι vs w hr hs=> ?_⟩
 obtain⟨v,rfl,hv⟩:=hs.one
 rcases vr_any hv with⟨rfl,A',c,rfl⟩|⟨B,base,c,news,rfl,hc,hn,hcell,hrel⟩
 ·cases A' with
  |none=>
   refine(h2 0 c w).mono fun e' w' ⟨he,hw⟩=> ?_
   subst hw
   obtain⟨r,ι',H',Bd',q⟩:=clone_end (e:=e) (v':= .slice none 0 0) (news:=[]) (L:=flat ([]:List α)) hr (Below.refl _ _) Enc.pos ⟨by simp, .inl ⟨rfl,rfl⟩⟩ (by simp[flat]) (fun i v h=>by simp[flat]at h) hK
   exact⟨_,r,ι',H',Bd',he,q⟩
  |some a=>
   refine(h3 a c w).mono fun e' w' ⟨v',he,ho,_,hbl⟩=> ?_
   obtain⟨r,ι',H',Bd',q⟩:=clone_end (L:=flat ([]:List α)) hr hbl Enc.pos ho (by simp[flat]) (fun i v h=>by simp[flat]at h) hK
   exact⟨_,r,ι',H',Bd',he,q⟩
 ·refine(h1 B base xs.length c news w hn hb hcell (fun u hu=> ?_)).mono fun e' w' ⟨v',he,ho,_,hbl⟩=> ?_
  ·obtain⟨i,hi⟩:=List.getElem?_of_mem hu
   have hi2:i<(flat xs).length:=by rw[flat_len,←hn];exact(List.getElem?_eq_some_iff.1 hi).1
   obtain⟨u',h4,h5⟩:=hrel i _ (List.getElem?_eq_getElem hi2)
   rw[hi]at h4;cases h4
   have hm:(flat xs)[i]∈flat xs:=List.getElem_mem hi2
   unfold flat at hm
   obtain⟨x,_,hx⟩:=List.mem_flatMap.1 hm
   exact cellOK_one h5 (List.all_eq_true.1 (Enc.ok x) _ hx)
  ·obtain⟨r,ι',H',Bd',q⟩:=clone_end (L:=flat xs) hr hbl Enc.pos ho (flat_len xs) hrel hK
   exact⟨_,r,ι',H',Bd',he,q⟩
end Go.SC
namespace Go.SC
open Go Go.RowKit Go.Proofs
theorem clone_lay{P:Program}{ρ:Go.Shelf.Ren}{α:Type}[Enc α]{k:Nat}[hk:EncK α k](L:SlLaysE0.n41 P ρ)(hent:Enters P (ρ.f 41))(i0:TypeInfo)(hi:P.info? (ρ.t 23)=some i0)(z:Value)(hz0:i0.zero=some z)(hz1:i0.size=k)(hby:i0.bytes≤10000)(hzs:z.cells.size=k)
  (z23:∀w,(Go.sizeOf (ρ.t 23)).run P w= .ok k w):∀args H Bd K,CloneT α k 1000000 args H Bd K→SCalls P (ρ.f 41) args H Bd K:=
 clone_ok hent (fun b off n c news w h1 h2 h3 h4=>AnyE.slices_Clone L i0 z k i0.bytes hi hz0 hz1 rfl hzs (by rw[←hk.h];exact Enc.pos) z23 b off n c news w h1 (by unfold maxLen;omega) (Nat.le_trans (Nat.mul_le_mul h2 hby) (by decide)) h3 h4)
  (fun n c w=>AnyE.slices_Clone_nil L n c w) (fun a c w=>clone_zero L i0 z k i0.bytes hi hz0 hz1 rfl hzs (by rw[←hk.h];exact Enc.pos) z23 a c w)
end Go.SC
namespace Go.SC
open Go Go.RowKit
theorem SCalls.pubR{P:Program}{f:FuncId}{args:List Value}{H:AH}{Bd:Nat}{K:Value→AH→Nat→Prop}{α:Type}[Enc α]{k c:Nat}[hk:EncK α k](xs:List α)
  (h:SCalls P f args H Bd fun r H' _=>r= .slice (some ⟨Bd,0,some k⟩) xs.length c∧H'=upd H Bd (some ⟨flat xs,true⟩)) (hK:K (lst xs) H Bd):SCalls P f args H Bd K:=by
 refine⟨h.1,fun A ι vs w hr hs=>(h.2 A ι vs w hr hs).mono fun e w' ⟨v,r,ι',H',Bd',he,⟨h1,h2⟩,hB,hrel,hvr,hkp,hag,hni⟩=> ?_⟩
 subst h1;subst h2
 have hb:=hr.hb
 have hle:Le H (upd H Bd (some ⟨flat xs,true⟩)):=fun n b hn=>by
  rw[upd_other _ _ (fun e=>by subst e;rw[hb.fresh _ (Nat.le_refl _)]at hn;cases hn)];exact hn
 have hS:∀n b,H n=some b→¬(fun n=>n=Bd) n:=fun n b hn e=>by
  have e:n=Bd:=e
  subst e;rw[hb.fresh _ (Nat.le_refl _)]at hn;cases hn
 have hp:=hrel.pub (H':=H) (S:=fun n=>n=Bd) hle hS
 have hv2:VR (frz ι' (upd H Bd (some ⟨flat xs,true⟩)) fun n=>n=Bd) w' (lst xs) v:=VR.pub hrel (pub_whole (S:=fun n=>n=Bd) (upd_same _ _ _) rfl hk.h rfl) hvr
 have hk2:=hkp.trans (Keep.refl A w' (ext_frz ι' (upd H Bd (some ⟨flat xs,true⟩)) fun n=>n=Bd).fz (hrel.frzA _))
 refine⟨v,lst xs,_,H,Bd,he,hK,Nat.le_refl _,hp.cut (H':=H) (Bd':=Bd) (Le.refl H) hb,hv2.cut (lst_nb Bd xs),⟨hk2.os,hk2.tape,hk2.output,hk2.size,hk2.block,hk2.rows,hk2.fz,hk2.fzA⟩,fun n hn=> ?_,NI.refl H⟩
 show(if n<Bd then _ else _)=_
 rw[if_pos hn]
 exact hag n hn
def CloneP(α:Type)[Enc α](bound:Nat):Trans:=fun args H Bd K=>∃xs:List α,args=[lst xs]∧(xs.length≤bound∧K (lst xs) H Bd)
theorem CloneP_eq(α:Type)[Enc α](bound:Nat)(xs:List α)(H:AH)(Bd:Nat)(K:Value→AH→Nat→Prop):CloneP α bound [lst xs] H Bd K=(xs.length≤bound∧K (lst xs) H Bd):=by
 refine propext ⟨fun h=> ?_,fun h=>⟨_,rfl,h⟩⟩
 obtain⟨xs',e,h⟩:=h
 simp only[List.cons.injEq,lst_inj,and_true]at e
 obtain rfl:=e
 exact h
theorem cloneP_ok{P:Program}{f:FuncId}{α:Type}[Enc α]{k bound:Nat}[EncK α k](h:∀args H Bd K,CloneT α k bound args H Bd K→SCalls P f args H Bd K):∀args H Bd K,CloneP α bound args H Bd K→SCalls P f args H Bd K:=by
 rintro args H Bd K ⟨xs,rfl,hb,hK⟩
 exact SCalls.pubR xs (h _ _ _ _ ⟨xs,rfl,hb,rfl,rfl⟩) hK
def sumB:Int→List UInt8→Int
 |n,[]=>n
 |n,b::l=>sumB ((n*227+(b.toNat:Int)+1)%65521) l
theorem sumB_append:∀(l r:List UInt8) (n:Int),sumB n (l++r)=sumB (sumB n l) r
 |[],r,n=>rfl
 |b::l,r,n=>sumB_append l r _
theorem sumB_take{xs:List UInt8}{i:Nat}(h:i<xs.length):sumB 29 (xs.take (i+1))=(sumB 29 (xs.take i)*227+(xs[i].toNat:Int)+1)%65521:=by
 rw[List.take_succ_eq_append_getElem h,sumB_append];rfl
theorem sumB_rg:∀(l:List UInt8) (n:Int),0≤n→n<65521→0≤sumB n l∧sumB n l<65521
 |[],n,h1,h2=>⟨h1,h2⟩
 |b::l,n,h1,h2=>sumB_rg l _ (by omega) (by omega)
theorem sum_rg(l:List UInt8):0≤sumB 29 l∧sumB 29 l<65521:=sumB_rg l 29 (by decide) (by decide)
def pairB(n:Int):List UInt8:=[UInt8.ofNat (n/256%256).toNat,UInt8.ofNat (n%256).toNat]
theorem pairB_len(n:Int):(pairB n).length=2:=rfl
theorem u8_of{z:Int}(h1:0≤z)(h2:z<256):((UInt8.ofNat z.toNat).toNat:Int)=z:=by
 simp;omega
theorem pairB_flat(n:Int):flat (pairB n)=[.int .u8 (n/256%256), .int .u8 (n%256)]:=by
 show [Value.int .u8 _,Value.int .u8 _]=_
 rw[u8_of (by omega) (by omega),u8_of (by omega) (by omega)]
def hasI(l:List Int)(n:Int):Bool:=l.any fun x=>decide (x=n)
def isPg(n:Int):Bool:=decide (2≤n∧n≤63)
def putF(k:Nat):List GPut→Int
 |[]=>0
 |p::r=>if ¬(0≤p.sector∧p.sector≤(k:Int)-1)then 3 else if p.bytes.length≠96 then 1 else putF k r
def diskG(d:GDisk):Int:=
 if d.sectors.any (fun b=>decide (b.length≠96))=true then 1
 else if d.pending.length>d.sectors.length then 2
 else if putF d.sectors.length d.pending≠0 then putF d.sectors.length d.pending
 else if(d.pending.map (·.sector)).Nodup then 0 else 6
def diskF(d:GDisk):Int:=if ¬(8≤d.sectors.length∧d.sectors.length≤64)then 2 else diskG d
def waitD(d:GDisk)(n:Int):Int:=fidx (fun p=>decide (p.sector=n)) d.pending
def readD(d:GDisk)(n:Int):List UInt8:=if 0≤waitD d n then((d.pending[(waitD d n).toNat]?).map (·.bytes)).getD []else(d.sectors[n.toNat]?).getD []
theorem putF_all{k:Nat}:∀ {l:List GPut},putF k l=0→∀p∈l,(0≤p.sector∧p.sector≤(k:Int)-1)∧p.bytes.length=96
 |[],_,p,hp=>by simp at hp
 |q::r,h,p,hp=>by
  unfold putF at h
  split at h
  ·omega
  ·rename_i h1
   split at h
   ·omega
   ·rename_i h2
    rcases List.mem_cons.1 hp with rfl|hp
    ·exact⟨Decidable.not_not.1 h1,Decidable.not_not.1 h2⟩
    ·exact putF_all h p hp
structure DiskOK (d:GDisk):Prop where
 len:8≤d.sectors.length∧d.sectors.length≤64
 sec:∀b∈d.sectors,b.length=96
 pl:d.pending.length≤d.sectors.length
 put:∀p∈d.pending,(0≤p.sector∧p.sector≤(d.sectors.length:Int)-1)∧p.bytes.length=96
theorem disk_ok{d:GDisk}(h:diskF d=0):DiskOK d:=by
 unfold diskF at h
 split at h
 ·omega
 ·rename_i h1
  unfold diskG at h
  split at h
  ·omega
  ·rename_i h2
   split at h
   ·omega
   ·rename_i h3
    split at h
    ·rename_i h4;exact absurd h h4
    ·rename_i h4
     refine⟨Decidable.not_not.1 h1,fun b hb=> ?_,by omega,putF_all (Decidable.not_not.1 h4)⟩
     by_cases hq:b.length=96
     ·exact hq
     ·exact absurd (List.any_eq_true.2 ⟨b,hb,decide_eq_true hq⟩) h2
theorem readD_len{d:GDisk}(h:DiskOK d){n:Int}(h1:0≤n)(h2:n<d.sectors.length):(readD d n).length=96:=by
 unfold readD
 split
 ·rename_i hw
  have hb:=fidx_bd (fun p:GPut=>decide (p.sector=n)) d.pending
  by_cases hlt:(waitD d n).toNat<d.pending.length
  ·rw[List.getElem?_eq_getElem hlt]
   exact(h.put _ (List.getElem_mem hlt)).2
  ·exfalso
   have hne:d.pending.any (fun p=>decide (p.sector=n))=true:=by
    have:=fidx_ge (fun p:GPut=>decide (p.sector=n)) d.pending
    rw[←this];exact decide_eq_true hw
   obtain⟨p,hp,hq⟩:=List.any_eq_true.1 hne
   obtain⟨j,hj,rfl⟩:=List.getElem_of_mem hp
   have:waitD d n<d.pending.length:=by
    unfold waitD fidx
    cases hf:d.pending.findIdx? (fun p=>decide (p.sector=n))with
    |none=>simp;omega
    |some i=>
     have:=(List.findIdx?_eq_some_iff_getElem.1 hf).1
     simp;omega
   omega
 ·have hlt:n.toNat<d.sectors.length:=by omega
  rw[List.getElem?_eq_getElem hlt]
  exact h.sec _ (List.getElem_mem hlt)
def pageF(p:GPage):Int:=if(1≤p.kind∧p.kind≤3)∧isPg p.id=true then(if p.body.length>91 then 2 else 0)else 3
def packP0(p:GPage):List UInt8:=[UInt8.ofNat (p.kind%256).toNat,UInt8.ofNat (p.id%256).toNat,UInt8.ofNat (p.body.length%256)]++p.body
def padP(l:List UInt8):List UInt8:=l++List.replicate (94-l.length) 0
def packP(p:GPage):List UInt8:=padP (packP0 p)++pairB (sumB 29 (padP (packP0 p)))
theorem packP0_flat(p:GPage):flat (packP0 p)=[.int .u8 (p.kind%256), .int .u8 (p.id%256), .int .u8 ((p.body.length:Int)%256)]++flat p.body:=by
 unfold packP0
 rw[flat_append]
 congr 1
 show [Value.int .u8 _,Value.int .u8 _,Value.int .u8 _]=_
 rw[u8_of (by omega) (by omega),u8_of (by omega) (by omega)]
 have:((UInt8.ofNat (p.body.length%256)).toNat:Int)=(p.body.length:Int)%256:=by simp
 rw[this]
theorem packP0_len(p:GPage):(packP0 p).length=p.body.length+3:=by simp[packP0]
theorem padP_len{l:List UInt8}(h:l.length≤94):(padP l).length=94:=by simp[padP];omega
theorem packP_len{p:GPage}(h:p.body.length≤91):(packP p).length=96:=by
 unfold packP
 rw[List.length_append,padP_len (by rw[packP0_len];omega),pairB_len]
theorem pageF_ok{p:GPage}(h:pageF p=0):(1≤p.kind∧p.kind≤3)∧(2≤p.id∧p.id≤63)∧p.body.length≤91:=by
 unfold pageF at h
 split at h
 ·rename_i h1
  split at h
  ·omega
  ·exact⟨h1.1,of_decide_eq_true h1.2,by omega⟩
 ·omega
theorem flat_zeros(n:Nat):flat (List.replicate n (0:UInt8))=List.replicate n (.int .u8 0):=by
 induction n with
 |zero=>rfl
 |succ n ih=>rw[List.replicate_succ,flat_cons,ih];rfl
def noPg:GPage:=⟨0,0,[]⟩
def readG(data:List UInt8)(id:Int):GPage:=⟨((data.getD 0 0).toNat:Int),id,(data.drop 3).take (data.getD 2 0).toNat⟩
def readPg(data:List UInt8)(id:Int):GPage×Int:=
 if pairB (sumB 29 (data.take 94))≠data.drop 94 then(noPg,11)
 else if((data.getD 1 0).toNat:Int)≠id then(noPg,8)
 else if(data.getD 2 0).toNat>91 then(noPg,5)
 else if pageF (readG data id)≠0∨packP (readG data id)≠data then(noPg,5)else(readG data id,0)
def readPR(data:List UInt8)(id:Int):GPageResult:=if data.length≠96 then⟨1,noPg⟩else if isPg id=false then⟨3,noPg⟩else⟨(readPg data id).2,(readPg data id).1⟩
def pageD(d:GDisk)(id:Int):GPage×Int:=if ¬(2≤id∧id≤(d.sectors.length:Int)-1)then(noPg,3)else readPg (readD d id) id
instance :EncVC GIntResult:=⟨fun x v h=>by
 have:v∈[Value.int .i64 x.code,Value.int .i64 x.value]:=h
 simp only[List.mem_cons,List.not_mem_nil,or_false]at this
 rcases this with rfl|rfl <;>exact .int _ _⟩
theorem vc_enc{α:Type}[Enc α][h:EncVC α](x:α):VC (.agg (enc x).toArray):=vc_agg fun v hv=>h.h x v hv
theorem capUp_pos(a b:Nat):0<capUp a b:=by unfold capUp;split <;>omega
@[go_sem] theorem capUp_ne(a b:Nat):(capUp a b=0)=False:=eq_false (by have:=capUp_pos a b;omega)
theorem wait_lt{d:GDisk}{n:Int}(hw:0≤waitD d n):(waitD d n).toNat<d.pending.length:=by
 have hne:d.pending.any (fun p=>decide (p.sector=n))=true:=by
  have:=fidx_ge (fun p:GPut=>decide (p.sector=n)) d.pending
  rw[←this];exact decide_eq_true hw
 obtain⟨p,hp,hq⟩:=List.any_eq_true.1 hne
 unfold waitD fidx at hw ⊢
 cases hf:d.pending.findIdx? (fun p=>decide (p.sector=n))with
 |none=>rw[hf]at hw;simp at hw
 |some i=>exact(List.findIdx?_eq_some_iff_getElem.1 hf).1
theorem waitD_self{d:GDisk}{i:Nat}(hi:i<d.pending.length):waitD d d.pending[i].sector=i↔∀j (hj:j<i),(d.pending[j]'(by omega)).sector≠d.pending[i].sector:=by
 constructor
 ·intro h j hj e
  have h2:=fidx_bd (fun p:GPut=>decide (p.sector=d.pending[i].sector)) d.pending
  unfold waitD fidx at h
  cases hf:d.pending.findIdx? (fun p=>decide (p.sector=d.pending[i].sector))with
  |none=>rw[hf]at h;simp only at h;omega
  |some k=>
   rw[hf]at h
   simp only at h
   have hk:k=i:=by omega
   have:=(List.findIdx?_eq_some_iff_getElem.1 hf).2.2 j (by omega)
   simp[e]at this
 ·intro h
  unfold waitD
  refine fidx_hit hi (fun j hj x hx=> ?_) (by simp)
  have hj2:j<d.pending.length:=by omega
  rw[List.getElem?_eq_getElem hj2]at hx;cases hx
  simpa using h j hj
def keyBad(k:List UInt8):Bool:=decide (k.length<1∨16<k.length)
def riseK:List (List UInt8)→Bool
 |x::y::l=>decide (Lib.compareBytes x y<0)&&riseK (y::l)
 |_=>true
theorem riseK_no:∀ {l:List (List UInt8)} {k:Nat} {x y:List UInt8},l[k]? =some x→l[k+1]? =some y→¬Lib.compareBytes x y<0→riseK l=false
 |[],_,_,_,h,_,_=>by simp at h
 |[_],k,_,_,_,h,_=>by simp at h
 |a::b::l,0,x,y,h1,h2,h3=>by
  simp only[List.getElem?_cons_zero,List.getElem?_cons_succ,Option.some.injEq]at h1 h2
  subst h1;subst h2
  unfold riseK
  rw[decide_eq_false h3];rfl
 |a::b::l,k+1,x,y,h1,h2,h3=>by
  unfold riseK
  rw[riseK_no (l:=b::l) (k:=k) (by simpa using h1) (by simpa using h2) h3]
  exact Bool.and_false _
theorem riseK_yes:∀ {l:List (List UInt8)},(∀(k:Nat) x y,l[k]? =some x→l[k+1]? =some y→Lib.compareBytes x y<0)→riseK l=true
 |[],_=>rfl
 |[_],_=>rfl
 |a::b::l,h=>by
  unfold riseK
  rw[decide_eq_true (h 0 a b rfl rfl),riseK_yes fun k x y h1 h2=>h (k+1) x y (by simpa using h1) (by simpa using h2)]
  rfl
def vBad(v:Int):Bool:= !decide (0≤v∧v≤65535)
def pBad(k:Int):Bool:= !isPg k
def leafG(n:GNode):Int:=if n.values.length≠n.keys.length∨0<n.kids.length then 1 else if n.values.any vBad=true then 3 else 0
def innerG(n:GNode):Int:=if n.keys.length<1∨0<n.values.length∨n.kids.length≠n.keys.length+1 then 1 else if n.kids.any pBad=true then 3 else 0
def nodeF(n:GNode):Int:=if 4<n.keys.length then 2 else if n.keys.any keyBad=true then 2 else if riseK n.keys=false then 1 else if n.leaf=true then leafG n else innerG n
abbrev RdS:=List UInt8×Bool
def rdB(q:RdS):Blk:=⟨[lst q.1, .bool q.2],true⟩
noncomputable def rdOf(b:Blk):Option RdS:=open Classical in if h:∃q:RdS,b=rdB q then some (Classical.choose h)else none
theorem rdB_inj{q p:RdS}(h:rdB q=rdB p):q=p:=by
 unfold rdB at h
 simp only[Blk.mk.injEq,List.cons.injEq,lst_inj,Value.bool.injEq,and_true]at h
 exact Prod.ext h.1 h.2
theorem rdOf_rdB(q:RdS):rdOf (rdB q)=some q:=by
 have h:∃p:RdS,rdB q=rdB p:=⟨q,rfl⟩
 unfold rdOf
 rw[dif_pos h,←rdB_inj (Classical.choose_spec h)]
@[go_sem] theorem rdOf_eq(xs:List UInt8)(f:Bool):rdOf ⟨[lst xs, .bool f],true⟩=some (xs,f):=rdOf_rdB (xs,f)
theorem rdOf_out{b:Blk}{q:RdS}(h:rdOf b=some q):b=rdB q:=by
 unfold rdOf at h
 split at h
 ·rename_i hq
  cases h
  exact Classical.choose_spec hq
 ·cases h
def tkOK(q:RdS)(k:Nat):Bool:= !q.2&&decide (k≤q.1.length)
def tkV(q:RdS)(k:Nat):List UInt8:=if tkOK q k=true then q.1.take k else List.replicate k 0
def tkS(q:RdS)(k:Nat):RdS:=if tkOK q k=true then(q.1.drop k,false)else(q.1,true)
theorem tkV_len(q:RdS)(k:Nat):(tkV q k).length=k:=by
 unfold tkV
 split
 ·rename_i h
  unfold tkOK at h
  simp at h
  rw[List.length_take];omega
 ·simp
def oneV(q:RdS):Int:=(((tkV q 1).getD 0 0).toNat:Int)
def pairV(q:RdS):Int:=(((tkV q 2).getD 0 0).toNat:Int)*256+(((tkV q 2).getD 1 0).toNat:Int)
def endV(q:RdS):Bool:= !q.2&&decide (q.1.length=0)
def RdT(v:RdS→Value)(s:RdS→RdS):Trans:=fun args H Bd K=>∃n:Nat,args=[.pointer (some ⟨n,0,none⟩)]∧Yld (H n) fun b=>Yld (rdOf b) fun q=>(q.1.length≤1000000)∧K (v q) (upd H n (some ⟨[lst (s q).1, .bool (s q).2],true⟩)) Bd
theorem RdT_eq(v:RdS→Value)(s:RdS→RdS)(n:Nat)(H:AH)(Bd:Nat)(K:Value→AH→Nat→Prop):RdT v s [.pointer (some ⟨n,0,none⟩)] H Bd K=(Yld (H n) fun b=>Yld (rdOf b) fun q=>(q.1.length≤1000000)∧K (v q) (upd H n (some ⟨[lst (s q).1, .bool (s q).2],true⟩)) Bd):=by
 refine propext ⟨fun h=> ?_,fun h=>⟨_,rfl,h⟩⟩
 obtain⟨n',e,h⟩:=h
 simp only[List.cons.injEq,Value.pointer.injEq,Option.some.injEq,Addr.mk.injEq,and_true]at e
 obtain rfl:=e
 exact h
def RdTk:Trans:=fun args H Bd K=>∃(n:Nat) (k:Int),args=[.pointer (some ⟨n,0,none⟩), .int .i64 k]∧Yld (H n) fun b=>Yld (rdOf b) fun q=>(q.1.length≤1000000∧0≤k∧k≤1000000)∧K (lst (tkV q k.toNat)) (upd H n (some ⟨[lst (tkS q k.toNat).1, .bool (tkS q k.toNat).2],true⟩)) Bd
theorem RdTk_eq(n:Nat)(k:Int)(H:AH)(Bd:Nat)(K:Value→AH→Nat→Prop):RdTk [.pointer (some ⟨n,0,none⟩), .int .i64 k] H Bd K=(Yld (H n) fun b=>Yld (rdOf b) fun q=>(q.1.length≤1000000∧0≤k∧k≤1000000)∧K (lst (tkV q k.toNat)) (upd H n (some ⟨[lst (tkS q k.toNat).1, .bool (tkS q k.toNat).2],true⟩)) Bd):=by
 refine propext ⟨fun h=> ?_,fun h=>⟨_,_,rfl,h⟩⟩
 obtain⟨n',k',e,h⟩:=h
 simp only[List.cons.injEq,Value.pointer.injEq,Value.int.injEq,Option.some.injEq,Addr.mk.injEq,true_and,and_true]at e
 obtain⟨rfl,rfl⟩:=e
 exact h
theorem hb_setR{H:AH}{Bd n:Nat}{b:Blk}(hh:HB H Bd)(hb:H n=some b)(q:RdS):HB (upd H n (some ⟨[lst q.1, .bool q.2],true⟩)) Bd:=by
 have hn:=hb_in hh hb
 refine⟨fun m hm=> ?_,fun m c hm v hv=> ?_⟩
 ·rw[upd_other _ _ (by omega)];exact hh.fresh m hm
 ·by_cases e:m=n
  ·subst e;rw[upd_same]at hm;cases hm
   simp only[List.mem_cons,List.not_mem_nil,or_false]at hv
   rcases hv with rfl|rfl
   ·exact lst_nb _ _
   ·exact .bool _
  ·rw[upd_other _ _ e]at hm;exact hh.nb m c hm v hv
theorem or_bytes{a b:Nat}(ha:a<256)(hb:b<256):abits .or .i64 ((a:Int)*256) (b:Int)=some (.int .i64 ((a:Int)*256+b)):=by
 have h1:BitVec.ofInt IntKind.i64.bits ((a:Int)*256)=BitVec.ofNat 64 (a*256):=by
  show BitVec.ofInt 64 ((a:Int)*256)=_
  rw[show(a:Int)*256=((a*256:Nat):Int) by omega,BitVec.ofInt_natCast]
 have h2:BitVec.ofInt IntKind.i64.bits (b:Int)=BitVec.ofNat 64 b:=by
  show BitVec.ofInt 64 (b:Int)=_
  rw[BitVec.ofInt_natCast]
 have h3:(BitVec.ofNat 64 (a*256) ||| BitVec.ofNat 64 b).toNat=a*256+b:=by
  rw[BitVec.toNat_or,BitVec.toNat_ofNat,BitVec.toNat_ofNat,Nat.mod_eq_of_lt (by omega),Nat.mod_eq_of_lt (by omega)]
  have:=Nat.shiftLeft_add_eq_or_of_lt (i:=8) (b:=b) (by omega) a
  rw[Nat.shiftLeft_eq]at this
  exact this.symm
 unfold abits
 simp only[h1,h2]
 have h4:(BitVec.ofNat 64 (a*256) ||| BitVec.ofNat 64 b).toNat=a*256+b:=h3
 show some (Value.int .i64 (IntKind.i64.wrap ((BitVec.ofNat 64 (a*256) ||| BitVec.ofNat 64 b).toNat:Int)))=_
 rw[h4,IntWalk.i64_in _ (by omega)]
 congr 2
def u8z(z:Int):UInt8:=UInt8.ofNat (z%256).toNat
theorem u8z_int(z:Int):((u8z z).toNat:Int)=z%256:=u8_of (by omega) (by omega)
def entN(n:GNode)(i:Nat):List UInt8:=u8z ((n.keys.getD i []).length:Int)::n.keys.getD i []++(if n.leaf=true then pairB (n.values.getD i 0)else [])
def accN(n:GNode)(i:Nat):List UInt8:=u8z (n.keys.length:Int)::(List.range i).flatMap (entN n)
def accK(n:GNode)(i:Nat):List UInt8:=accN n n.keys.length++(n.kids.take i).map u8z
def packN'(n:GNode):List UInt8:=accN n n.keys.length++n.kids.map u8z
theorem accN_succ(n:GNode)(i:Nat):accN n (i+1)=accN n i++entN n i:=by simp[accN,List.range_succ]
theorem accK_succ{n:GNode}{i:Nat}(h:i<n.kids.length):accK n (i+1)=accK n i++[u8z n.kids[i]]:=by
 unfold accK
 rw[List.take_succ_eq_append_getElem h,List.map_append,List.map_cons,List.map_nil,List.append_assoc]
structure NodeOK (n:GNode):Prop where
 kl:n.keys.length≤4
 key:∀k∈n.keys,1≤k.length∧k.length≤16
 vals:n.leaf=true→n.values.length=n.keys.length∧n.kids.length=0∧∀v∈n.values,0≤v∧v≤65535
 kids:n.leaf=false→1≤n.keys.length∧n.values.length=0∧n.kids.length=n.keys.length+1∧∀k∈n.kids,2≤k∧k≤63
theorem any_no{α:Type}{p:α→Bool}{l:List α}(h:¬l.any p=true){x:α}(hx:x∈l):p x=false:=by
 cases hp:p x with
 |false=>rfl
 |true=>exact absurd (List.any_eq_true.2 ⟨x,hx,hp⟩) h
theorem node_ok{n:GNode}(h:nodeF n=0):NodeOK n:=by
 unfold nodeF at h
 split at h
 ·omega
 ·rename_i h1
  split at h
  ·omega
  ·rename_i h2
   split at h
   ·omega
   ·have hk:∀k∈n.keys,1≤k.length∧k.length≤16:=fun k hk=>by
     have:=of_decide_eq_false (any_no h2 hk)
     omega
    split at h
    ·rename_i hl
     unfold leafG at h
     split at h
     ·omega
     ·rename_i h3
      split at h
      ·omega
      ·rename_i h4
       refine⟨by omega,hk,fun _=>⟨by omega,by omega,fun v hv=> ?_⟩,fun hf=>by rw[hl]at hf;cases hf⟩
       have:=any_no h4 hv
       unfold vBad at this
       simpa using this
    ·rename_i hl
     unfold innerG at h
     split at h
     ·omega
     ·rename_i h3
      split at h
      ·omega
      ·rename_i h4
       refine⟨by omega,hk,fun hf=>absurd hf hl,fun _=>⟨by omega,by omega,by omega,fun k hk=> ?_⟩⟩
       have:=any_no h4 hk
       unfold pBad isPg at this
       simpa using this
theorem entN_len{n:GNode}(h:NodeOK n){i:Nat}(hi:i<n.keys.length):(entN n i).length≤19:=by
 have e1:n.keys.getD i []=n.keys[i]:=by rw[List.getD_eq_getElem?_getD,List.getElem?_eq_getElem hi];rfl
 have:=(h.key _ (List.getElem_mem hi)).2
 unfold entN
 rw[e1]
 simp only[List.cons_append,List.length_cons,List.length_append]
 split
 ·rw[pairB_len];omega
 ·simp;omega
theorem accN_len{n:GNode}(h:NodeOK n):∀i,i≤n.keys.length→(accN n i).length≤1+19*i
 |0,_=>by simp[accN]
 |i+1,hi=>by
  have h1:=accN_len h i (by omega)
  have h2:=entN_len h (i:=i) (by omega)
  rw[accN_succ,List.length_append];omega
def isRt(n:Int):Bool:=decide (n=0)||isPg n
def superF(p:GSuper):Int:=
 if((1≤p.gen∧p.gen≤60000)∧(1≤p.version∧p.version≤60000))∧isRt p.root=true∧isRt p.shadow=true∧isRt p.next_=true∧isPg p.theory=true then
  if 16<p.cursor.length then 2
  else if(p.moving=true∧p.next_=0)∨(p.moving=false∧(p.shadow≠0∨p.next_≠0∨0<p.cursor.length))then 8
  else sigF p.symbols
 else 3
def incI:List Int→Bool
 |x::y::l=>decide (x<y)&&incI (y::l)
 |_=>true
theorem incI_no:∀ {l:List Int} {k:Nat} {x y:Int},l[k]? =some x→l[k+1]? =some y→¬x<y→incI l=false
 |[],_,_,_,h,_,_=>by simp at h
 |[_],k,_,_,_,h,_=>by simp at h
 |a::b::l,0,x,y,h1,h2,h3=>by
  simp only[List.getElem?_cons_zero,List.getElem?_cons_succ,Option.some.injEq]at h1 h2
  subst h1;subst h2
  unfold incI
  rw[decide_eq_false h3];rfl
 |a::b::l,k+1,x,y,h1,h2,h3=>by
  unfold incI
  rw[incI_no (l:=b::l) (k:=k) (by simpa using h1) (by simpa using h2) h3]
  exact Bool.and_false _
theorem incI_yes:∀ {l:List Int},(∀(k:Nat) x y,l[k]? =some x→l[k+1]? =some y→x<y)→incI l=true
 |[],_=>rfl
 |[_],_=>rfl
 |a::b::l,h=>by
  unfold incI
  rw[decide_eq_true (h 0 a b rfl rfl),incI_yes fun k x y h1 h2=>h (k+1) x y (by simpa using h1) (by simpa using h2)]
  rfl
def putS(l:List Int)(n:Int):Nat→List Int×Bool
 |0=>([],false)
 |i+1=>if(putS l n i).2=false∧n≤l.getD i 0 then((putS l n i).1++(if l.getD i 0=n then []else [n])++[l.getD i 0],true)else((putS l n i).1++[l.getD i 0],(putS l n i).2)
def putL(l:List Int)(n:Int):List Int:=if(putS l n l.length).2=true then(putS l n l.length).1 else(putS l n l.length).1++[n]
theorem putS_len(l:List Int)(n:Int):∀i,(putS l n i).1.length≤2*i
 |0=>by simp[putS]
 |i+1=>by
  have:=putS_len l n i
  unfold putS
  split
  ·simp only[List.length_append]
   split <;>simp <;>omega
  ·simp;omega
theorem putS_len2(l:List Int)(n:Int):∀i,(putS l n i).1.length≤i+1∧((putS l n i).2=false→(putS l n i).1.length=i)
 |0=>by simp[putS]
 |i+1=>by
  obtain⟨h1,h2⟩:=putS_len2 l n i
  unfold putS
  split
  ·rename_i h
   have:=h2 h.1
   refine⟨?_,fun hf=>by cases hf⟩
   simp only[List.length_append]
   split <;>simp <;>omega
  ·simp only[List.length_append,List.length_cons,List.length_nil]
   exact⟨by omega,fun hf=>by have:=h2 hf;omega⟩
theorem putL_len(l:List Int)(n:Int):(putL l n).length≤l.length+1:=by
 obtain⟨h1,h2⟩:=putS_len2 l n l.length
 unfold putL
 split
 ·exact h1
 ·rename_i h
  have:=h2 (by simpa using h)
  rw[List.length_append];simp;omega
def addS(l more:List Int):Nat→List Int×Bool
 |0=>(l,true)
 |i+1=>(putL (addS l more i).1 (more.getD i 0),if hasI (addS l more i).1 (more.getD i 0)=true then false else(addS l more i).2)
def addL(l more:List Int):List Int×Bool:=addS l more more.length
theorem addS_len(l more:List Int):∀i,(addS l more i).1.length≤l.length+i
 |0=>Nat.le_refl _
 |i+1=>by
  have h1:=addS_len l more i
  have h2:=putL_len (addS l more i).1 (more.getD i 0)
  show(putL _ _).length≤_
  omega
def prs(leaf:Bool)(body:List UInt8):Nat→Option (Nat×List (List UInt8)×List Int)
 |0=>some (1,[],[])
 |i+1=>match prs leaf body i with
  |none=>none
  |some (p,ks,vs)=>
   if body.length≤p∨body.length<p+1+(body.getD p 0).toNat+(if leaf=true then 2 else 0)then none
   else some (p+1+(body.getD p 0).toNat+(if leaf=true then 2 else 0),ks++[(body.drop (p+1)).take (body.getD p 0).toNat],
    if leaf=true then vs++[((body.getD (p+1+(body.getD p 0).toNat) 0).toNat:Int)*256+((body.getD (p+2+(body.getD p 0).toNat) 0).toNat:Int)]else vs)
def noNd:GNode:=⟨false,[],[],[]⟩
def prsE(leaf:Bool)(body:List UInt8)(p:Nat)(ks:List (List UInt8))(vs:List Int):GNode×Bool:=
 let kids:=if leaf=true then []else((body.drop p).take 5).map fun b=>(b.toNat:Int)
 (⟨leaf,ks,vs,kids⟩,decide (p+kids.length=body.length)&&decide (nodeF ⟨leaf,ks,vs,kids⟩=0))
def prsN(leaf:Bool)(body:List UInt8):GNode×Bool:=
 if body.length<1∨4<(body.getD 0 0).toNat then(noNd,false)
 else match prs leaf body (body.getD 0 0).toNat with
  |none=>(noNd,false)
  |some (p,ks,vs)=>prsE leaf body p ks vs
def rdN(kind:Int)(body:List UInt8):GNodeResult:=
 if kind≠1∧kind≠2 then⟨3,noNd⟩else if(prsN (decide (kind=1)) body).2=true then⟨0,(prsN (decide (kind=1)) body).1⟩else⟨5,noNd⟩
def nodeD(d:GDisk)(id:Int):GNode×Int:=
 if ¬(2≤id∧id≤(d.sectors.length:Int)-1)then(noNd,3)
 else if(readPg (readD d id) id).2≠0 then(noNd,(readPg (readD d id) id).2)
 else((rdN (readPg (readD d id) id).1.kind (readPg (readD d id) id).1.body).node,(rdN (readPg (readD d id) id).1.kind (readPg (readD d id) id).1.body).code)
theorem readPg_ok{data:List UInt8}{id:Int}(h:(readPg data id).2=0):pageF (readPg data id).1=0∧packP (readPg data id).1=data:=by
 unfold readPg at h ⊢
 split at h
 ·cases h
 ·rename_i h1
  split at h
  ·cases h
  ·rename_i h2
   split at h
   ·cases h
   ·rename_i h3
    split at h
    ·cases h
    ·rename_i h4
     rw[if_neg h1,if_neg h2,if_neg h3,if_neg h4]
     exact⟨Decidable.not_not.1 fun h=>h4 (.inl h),Decidable.not_not.1 fun h=>h4 (.inr h)⟩
def nilV(k:Nat)(v:Value):Value:=match v with
 | .slice none 0 0=> .func (.yield k) #[] #[]
 |v=>v
theorem nilV_pub(H:AH)(S:Nat→Prop)(k:Nat)(v:Value):Pub H S v (nilV k v):=by
 unfold nilV
 split
 ·exact .empty
 ·exact .same _
def NilV(i k:Nat)(W:Trans):Trans:=fun args H Bd K=>W (args.set i (nilV k (args.getD i undef))) H Bd K
theorem NilV_ok{P:Program}{f:FuncId}(i k:Nat){W:Trans}(h:∀args H Bd K,W args H Bd K→SCalls P f args H Bd K):∀args H Bd K,NilV i k W args H Bd K→SCalls P f args H Bd K:=fun args H Bd K hk=>
 give (fun _=>False) (PubC.set args i _ (nilV_pub H _ k _)) (Le.refl _) (fun _ _ _ h=>h) (h _ _ _ _ hk)
@[go_sem] theorem nilV_lst{α:Type}[Enc α](k:Nat)(xs:List α):nilV k (lst xs)=lst xs:=(rfl)
def inB(key low high:List UInt8):Bool:=(decide (low.length=0)||decide (Lib.compareBytes low key≤0))&&(decide (high.length=0)||decide (Lib.compareBytes key high<0))
theorem Rel.recell{A:Nat→Prop}{ι:Ren}{H:AH}{Bd:Nat}{w:World}(hr:Rel A ι H Bd w){n:Nat}{b:Blk}{L:List Value}(hb:H n=some b)(hL:∀(i:Nat) v,L[i]? =some v→∃u,b.cells[i]? =some u∧∀v',VR ι w u v'→VR ι w v v')(ho:b.own=true):
  Rel A ι (upd H n (some ⟨L,b.own⟩)) Bd w:=by
 refine⟨hr.bound,fun k c hk=> ?_,fun k j c c' B1 b1 B2 b2 hne g1 g2 go i1 i2=> ?_,hr.newA,fun k c B1 b1 g1 go i1=> ?_,hr.fzlt,fun k c hk hq=> ?_,hr.mp⟩
 ·by_cases e1:k=n
  ·subst e1
   rw[upd_same]at hk
   cases hk
   rcases hr.blk k b hb with⟨hvd,hc⟩|⟨B1,base1,cs,e,fr,h1,h2,h3,h4,h5⟩
   ·refine .inl ⟨hvd,?_⟩
    cases L with
    |nil=>rfl
    |cons x xs=>obtain⟨u,hu,_⟩:=hL 0 x rfl;rw[hc]at hu;cases hu
   ·refine .inr ⟨B1,base1,cs,e,fr,h1,h2,h3,h4,fun i v hv=> ?_⟩
    obtain⟨u,hu,hi⟩:=hL i v hv
    obtain⟨v',k1,k2⟩:=h5 i u hu
    exact⟨v',k1,hi v' k2⟩
  ·rw[upd_other H _ e1]at hk;exact hr.blk k c hk
 ·by_cases e1:k=n
  ·subst e1
   rw[upd_same]at g1;cases g1
   rw[upd_other H _ (fun h=>hne h.symm)]at g2
   exact hr.apart k j b c' B1 b1 B2 b2 hne hb g2 go i1 i2
  ·rw[upd_other H _ e1]at g1
   by_cases e2:j=n
   ·subst e2
    exact hr.apart k j c b B1 b1 B2 b2 hne g1 hb go i1 i2
   ·rw[upd_other H _ e2]at g2
    exact hr.apart k j c c' B1 b1 B2 b2 hne g1 g2 go i1 i2
 ·by_cases e1:k=n
  ·subst e1
   rw[upd_same]at g1;cases g1
   exact hr.froz k b B1 b1 hb go i1
  ·rw[upd_other H _ e1]at g1
   exact hr.froz k c B1 b1 g1 go i1
 ·by_cases e1:k=n
  ·subst e1;rw[upd_same]at hk;cases hk;rw[show b.own=true from ho]at hq;cases hq
  ·rw[upd_other H _ e1]at hk;exact hr.glob k c hk hq
theorem Tr.freshC{P:Program}{N0:Nat}{c:Code}{Q:APost}{s:List Value}{H:AH}{Bd n:Nat}{cells:List Value}(j k:Nat)(hn:H n=some ⟨cells,true⟩)(hj:cells[j]? =some (.slice none 0 0))
  (h:Tr P N0 c Q s (upd (upd H Bd (some ⟨[],true⟩)) n (some ⟨cells.set j (.slice (some ⟨Bd,0,some k⟩) 0 1),true⟩)) (Bd+1)):Tr P N0 c Q s H Bd:=by
 intro hN A ι a w hst
 have hb:ι Bd=none:=hst.rel.bound Bd (Nat.le_refl _)
 have hx:=ext_ren (.void) hb
 have hnB:n<Bd:=hst.rel.named hn
 have r1:=(hst.rel.raise (Nat.le_succ Bd)).void hb (Nat.lt_succ_self _)
 have hlt:j<cells.length:=(List.getElem?_eq_some_iff.1 hj).1
 have r2:=r1.recell (n:=n) (b:=⟨cells,true⟩) (L:=cells.set j (.slice (some ⟨Bd,0,some k⟩) 0 1)) (by rw[upd_other _ _ (by omega)];exact hn) (fun i v hv=>by
  by_cases e:j=i
  ·subst e
   rw[List.getElem?_set_self hlt]at hv
   cases hv
   refine⟨_,hj,fun v' hv'=> ?_⟩
   cases hv'
   exact .sl ⟨_,ren_same _ _ _⟩ (Nat.le_refl _) (by simp) (by simp) (.inl rfl)
  ·rw[List.getElem?_set_ne e]at hv
   exact⟨v,hv,fun v' hv'=>hv'⟩) rfl
 have hst':St A (ren ι Bd .void) s (upd (upd H Bd (some ⟨[],true⟩)) n (some ⟨cells.set j (.slice (some ⟨Bd,0,some k⟩) 0 1),true⟩)) (Bd+1) a w:=
  ⟨r2,⟨hst.slots.1,fun i v v' g1 g2=>(hst.slots.2 i v v' g1 g2).mono hx (Fro.refl ι w)⟩,hst.defers⟩
 refine wp_mono (h (Nat.le_trans hN (Nat.le_succ _)) A _ a w hst') fun e a' w' ⟨ι',s2,H2,Bd2,g1,g2,g3,g4,g5,g6⟩=> ?_
 have k0:=Keep.refl A w (ι:=ι) (ι':=ren ι Bd .void) ⟨fun _ h=>h,fun _ _ h=>h⟩ (fun _ h=> .inl h)
 refine⟨ι',s2,H2,Bd2,g1,g2,g3,k0.trans g4,fun m hm=> ?_,NI.trans (((NI.refl H).upd _ _).upd _ _) g6⟩
 rw[g5 m (by omega)]
 exact ren_other _ _ (by omega)
theorem upd_swap{H:AH}{m n:Nat}{a b c:Option Blk}(h:m≠n):upd (upd (upd H m a) n b) m c=upd (upd H m c) n b:=by
 funext q
 unfold upd
 by_cases e1:q=m
 ·subst e1;simp[h]
 ·by_cases e2:q=n
  ·subst e2;simp[e1]
  ·simp[e1,e2]
theorem prs_len{leaf:Bool}{body:List UInt8}:∀ {i p:Nat} {ks:List (List UInt8)} {vs:List Int},prs leaf body i=some (p,ks,vs)→ks.length=i∧vs.length≤i∧(leaf=false→vs=[])
 |0,p,ks,vs,h=>by
  simp only[prs,Option.some.injEq,Prod.mk.injEq]at h
  obtain⟨rfl,rfl,rfl⟩:=h
  simp
 |i+1,p,ks,vs,h=>by
  unfold prs at h
  split at h
  ·cases h
  ·rename_i p0 ks0 vs0 h0
   obtain⟨q1,q2,q3⟩:=prs_len h0
   by_cases hc:body.length≤p0∨body.length<p0+1+(body.getD p0 0).toNat+(if leaf=true then 2 else 0)
   ·rw[if_pos hc]at h;cases h
   ·rw[if_neg hc]at h
    simp only[Option.some.injEq,Prod.mk.injEq]at h
    obtain⟨_,rfl,rfl⟩:=h
    refine⟨by simp[q1],?_,fun hl=> ?_⟩
    ·split
     ·simp;omega
     ·omega
    ·rw[if_neg (by simp[hl])];exact q3 hl
theorem prs_none{leaf:Bool}{body:List UInt8}{i:Nat}(h:prs leaf body i=none):∀j,i≤j→prs leaf body j=none
 |0,hj=>by obtain rfl:i=0:=by omega
           exact h
 |j+1,hj=>by
  by_cases e:i=j+1
  ·subst e;exact h
  ·have:=prs_none h j (by omega)
   unfold prs
   rw[this]
theorem le_step{X:AH}{a m g n:Nat}{B F o f k:Option Blk}(hm:X m=none)(hg:X g=none)(hna:n≠a):Le (upd (upd X a B) n F) (upd (upd (upd (upd (upd (upd X a o) m f) g k) m none) n F) a B):=fun q b hq=>by
 by_cases e1:q=a
 ·subst e1
  rw[upd_other _ _ (Ne.symm hna),upd_same]at hq
  rw[upd_same];exact hq
 ·rw[upd_other _ _ e1]
  by_cases e2:q=n
  ·subst e2;rw[upd_same]at hq ⊢;exact hq
  ·rw[upd_other _ _ e2,upd_other _ _ e1]at hq
   rw[upd_other _ _ e2]
   have e3:q≠m:=fun h=>by subst h;rw[hm]at hq;cases hq
   have e4:q≠g:=fun h=>by subst h;rw[hg]at hq;cases hq
   rw[upd_other _ _ e3,upd_other _ _ e4,upd_other _ _ e3,upd_other _ _ e1];exact hq
theorem upd_comm{H:AH}{m n:Nat}{a b:Option Blk}(h:m≠n):upd (upd H m a) n b=upd (upd H n b) m a:=by
 funext q
 unfold upd
 by_cases e1:q=m
 ·subst e1;simp[h]
 ·by_cases e2:q=n
  ·subst e2;simp[e1]
  ·simp[e1,e2]
def kidsB(body:List UInt8)(p j:Nat):List Int:=((body.drop p).take j).map fun b=>(b.toNat:Int)
theorem kidsB_succ{body:List UInt8}{p j:Nat}(h:p+j<body.length):kidsB body p (j+1)=kidsB body p j++[((body[p+j]'h).toNat:Int)]:=by
 unfold kidsB
 have hl:j<(body.drop p).length:=by rw[List.length_drop];omega
 rw[List.take_succ_eq_append_getElem hl,List.map_append,List.map_cons,List.map_nil]
 simp
theorem kidsB_len{body:List UInt8}{p j:Nat}(h:p+j≤body.length):(kidsB body p j).length=j:=by
 unfold kidsB
 rw[List.length_map,List.length_take,List.length_drop];omega
theorem prs_le{leaf:Bool}{body:List UInt8}(hb:1≤body.length):∀ {i p:Nat} {ks:List (List UInt8)} {vs:List Int},prs leaf body i=some (p,ks,vs)→p≤body.length
 |0,p,ks,vs,h=>by
  simp only[prs,Option.some.injEq,Prod.mk.injEq]at h
  omega
 |i+1,p,ks,vs,h=>by
  unfold prs at h
  split at h
  ·cases h
  ·rename_i p0 ks0 vs0 h0
   by_cases hc:body.length≤p0∨body.length<p0+1+(body.getD p0 0).toNat+(if leaf=true then 2 else 0)
   ·rw[if_pos hc]at h;cases h
   ·rw[if_neg hc]at h
    simp only[Option.some.injEq,Prod.mk.injEq]at h
    omega
@[go_sem] theorem giveV_nil(H:AH):giveV H (.slice none 0 0)= .slice none 0 0:=(rfl)
@[go_sem] theorem nilC_bool(k:Nat)(b:Bool):nilC k (.bool b)= .bool b:=(rfl)
theorem prs_key{leaf:Bool}{body:List UInt8}:∀ {i p:Nat} {ks:List (List UInt8)} {vs:List Int},prs leaf body i=some (p,ks,vs)→∀k∈ks,k.length≤body.length
 |0,p,ks,vs,h=>by
  simp only[prs,Option.some.injEq,Prod.mk.injEq]at h
  obtain⟨_,rfl,_⟩:=h
  simp
 |i+1,p,ks,vs,h=>by
  unfold prs at h
  split at h
  ·cases h
  ·rename_i p0 ks0 vs0 h0
   have ih:=prs_key h0
   by_cases hc:body.length≤p0∨body.length<p0+1+(body.getD p0 0).toNat+(if leaf=true then 2 else 0)
   ·rw[if_pos hc]at h;cases h
   ·rw[if_neg hc]at h
    simp only[Option.some.injEq,Prod.mk.injEq]at h
    obtain⟨_,rfl,_⟩:=h
    intro k hk
    rcases List.mem_append.1 hk with hk|hk
    ·exact ih k hk
    ·rw[List.mem_singleton.1 hk,List.length_take,List.length_drop];omega
theorem le_step2{X:AH}{a m q g g2 n r:Nat}{B F G o o2 f h k k2:Option Blk}(hm:X m=none)(hq:X q=none)(hg:X g=none)(hg2:X g2=none)(hna:n≠a)(hra:r≠a)(hnq:n≠q)(hng:n≠g2):
  Le (upd (upd (upd X a B) n F) r G) (upd (upd (upd (upd (upd (upd (upd (upd (upd (upd (upd X a o) m f) q h) g k) m none) n F) a o2) g2 k2) q none) r G) a B):=fun t b ht=>by
 by_cases e1:t=a
 ·subst e1
  rw[upd_other _ _ (Ne.symm hra),upd_other _ _ (Ne.symm hna),upd_same]at ht
  rw[upd_same];exact ht
 ·rw[upd_other _ _ e1]
  by_cases e2:t=r
  ·subst e2;rw[upd_same]at ht ⊢;exact ht
  ·rw[upd_other _ _ e2]at ht ⊢
   by_cases e3:t=n
   ·subst e3
    rw[upd_same]at ht
    rw[upd_other _ _ hnq,upd_other _ _ hng,upd_other _ _ e1,upd_same];exact ht
   ·rw[upd_other _ _ e3,upd_other _ _ e1]at ht
    have n1:t≠m:=fun e=>by subst e;rw[hm]at ht;cases ht
    have n2:t≠q:=fun e=>by subst e;rw[hq]at ht;cases ht
    have n3:t≠g:=fun e=>by subst e;rw[hg]at ht;cases ht
    have n4:t≠g2:=fun e=>by subst e;rw[hg2]at ht;cases ht
    rw[upd_other _ _ n2,upd_other _ _ n4,upd_other _ _ e1,upd_other _ _ e3,upd_other _ _ n1,upd_other _ _ n3,upd_other _ _ n2,upd_other _ _ n1,upd_other _ _ e1];exact ht
theorem u8z_nat(b:UInt8):u8z (b.toNat:Int)=b:=by
 apply UInt8.toNat_inj.1
 have h:=u8z_int (b.toNat:Int)
 have:=b.toNat_lt
 omega
theorem rdN_F{kind:Int}{body:List UInt8}(hk:kind=1∨kind=2)(h:(prsN (decide (kind=1)) body).2=false):rdN kind body=⟨5,noNd⟩:=by
 unfold rdN
 rw[if_neg (by omega),if_neg (by rw[h];exact Bool.false_ne_true)]
theorem rdN_T{kind:Int}{body:List UInt8}{n:GNode}(hk:kind=1∨kind=2)(h:prsN (decide (kind=1)) body=(n,true)):rdN kind body=⟨0,n⟩:=by
 unfold rdN
 rw[if_neg (by omega),h,if_pos rfl]
def kidsE(leaf:Bool)(body:List UInt8)(p c:Nat):List Int:=if leaf=true then []else kidsB body p c
theorem prsN_some{leaf:Bool}{body:List UInt8}{n:GNode}(h:prsN leaf body=(n,true)):1≤body.length∧∃p ks vs,prs leaf body (body.getD 0 0).toNat=some (p,ks,vs)∧n=⟨leaf,ks,vs,kidsE leaf body p ((body.getD 0 0).toNat+1)⟩∧p+(kidsE leaf body p ((body.getD 0 0).toNat+1)).length=body.length∧nodeF n=0:=by
 unfold prsN at h
 by_cases h0:body.length<1∨4<(body.getD 0 0).toNat
 ·rw[if_pos h0]at h;cases h
 ·rw[if_neg h0]at h
  refine⟨by omega,?_⟩
  split at h
  ·cases h
  ·rename_i p ks vs hp
   refine⟨p,ks,vs,hp,?_⟩
   have hpl:=prs_len hp
   have hple:p≤body.length:=prs_le (by omega) hp
   unfold prsE at h
   cases leaf with
   |true=>
    simp only[↓reduceIte,Prod.mk.injEq,Bool.and_eq_true,decide_eq_true_eq]at h
    obtain⟨rfl,h1,h2⟩:=h
    exact⟨rfl,h1,h2⟩
   |false=>
    simp only[Bool.false_eq_true,↓reduceIte,Prod.mk.injEq,Bool.and_eq_true,decide_eq_true_eq]at h
    obtain⟨rfl,h1,h2⟩:=h
    have hN:=(node_ok h2).kids rfl
    have hc:(List.map (fun b=>(UInt8.toNat b:Int)) (List.take 5 (List.drop p body))).length=(body.getD 0 0).toNat+1:=by
     have:=hN.2.2.1
     rw[hpl.1]at this;exact this
    have hk:kidsE false body p ((body.getD 0 0).toNat+1)=(List.take 5 (List.drop p body)).map fun b=>(b.toNat:Int):=by
     unfold kidsE kidsB
     rw[if_neg (by simp)]
     rw[List.length_map,List.length_take,List.length_drop]at hc
     rw[List.length_map,List.length_take,List.length_drop]at h1
     rw[List.take_of_length_le (l:=List.drop p body) (by rw[List.length_drop];omega),List.take_of_length_le (l:=List.drop p body) (by rw[List.length_drop];omega)]
    rw[hk]
    exact⟨rfl,h1,h2⟩
def entP(leaf:Bool)(ks:List (List UInt8))(vs:List Int)(i:Nat):List UInt8:=(List.range i).flatMap fun j=>u8z ((ks.getD j []).length:Int)::ks.getD j []++(if leaf=true then pairB (vs.getD j 0)else [])
theorem entP_succ(leaf:Bool)(ks:List (List UInt8))(vs:List Int)(i:Nat):entP leaf ks vs (i+1)=entP leaf ks vs i++(u8z ((ks.getD i []).length:Int)::ks.getD i []++(if leaf=true then pairB (vs.getD i 0)else [])):=by simp[entP,List.range_succ]
theorem entP_ext{leaf:Bool}{ks ks':List (List UInt8)}{vs vs':List Int}:∀ {i:Nat},(∀j,j<i→ks.getD j []=ks'.getD j []∧(leaf=true→vs.getD j 0=vs'.getD j 0))→entP leaf ks vs i=entP leaf ks' vs' i
 |0,_=>rfl
 |i+1,h=>by
  rw[entP_succ,entP_succ,entP_ext (i:=i) fun j hj=>h j (by omega),(h i (by omega)).1]
  cases leaf with
  |true=>rw[(h i (by omega)).2 rfl]
  |false=>rfl
theorem pairB_two(a b:UInt8):pairB ((a.toNat:Int)*256+(b.toNat:Int))=[a,b]:=by
 have:=a.toNat_lt
 have:=b.toNat_lt
 unfold pairB
 rw[show((a.toNat:Int)*256+(b.toNat:Int))/256%256=(a.toNat:Int) by omega,show((a.toNat:Int)*256+(b.toNat:Int))%256=(b.toNat:Int) by omega]
 simp
theorem prs_vs{body:List UInt8}{i p:Nat}{ks:List (List UInt8)}{vs:List Int}(h:prs true body i=some (p,ks,vs)):vs.length=i:=by
 induction i generalizing p ks vs with
 |zero=>
  simp only[prs,Option.some.injEq,Prod.mk.injEq]at h
  obtain⟨_,_,rfl⟩:=h;rfl
 |succ i ih=>
  unfold prs at h
  split at h
  ·cases h
  ·rename_i p0 ks0 vs0 h0
   by_cases hc:body.length≤p0∨body.length<p0+1+(body.getD p0 0).toNat+(if true=true then 2 else 0)
   ·rw[if_pos hc]at h;cases h
   ·rw[if_neg hc]at h
    simp only[↓reduceIte,Option.some.injEq,Prod.mk.injEq]at h
    obtain⟨_,_,rfl⟩:=h
    simp[ih h0]
theorem take_one{body:List UInt8}{p:Nat}(h:p<body.length):body.take (p+1)=body.take p++[body.getD p 0]:=by
 rw[List.take_succ_eq_append_getElem h,List.getD_eq_getElem?_getD,List.getElem?_eq_getElem h];rfl
theorem prs_pack{leaf:Bool}{body:List UInt8}(hb:1≤body.length):∀ {i p:Nat} {ks:List (List UInt8)} {vs:List Int},prs leaf body i=some (p,ks,vs)→body.take p=body.getD 0 0::entP leaf ks vs i
 |0,p,ks,vs,h=>by
  simp only[prs,Option.some.injEq,Prod.mk.injEq]at h
  obtain⟨rfl,_,_⟩:=h
  exact take_one (p:=0) (by omega)
 |i+1,p,ks,vs,h=>by
  unfold prs at h
  split at h
  ·cases h
  ·rename_i p0 ks0 vs0 h0
   have ih:=prs_pack hb h0
   have hl:=prs_len h0
   by_cases hc:body.length≤p0∨body.length<p0+1+(body.getD p0 0).toNat+(if leaf=true then 2 else 0)
   ·rw[if_pos hc]at h;cases h
   ·rw[if_neg hc]at h
    simp only[Option.some.injEq,Prod.mk.injEq]at h
    obtain⟨hp,hk,hv⟩:=h
    obtain⟨hc1,hc2⟩:¬body.length≤p0∧¬body.length<p0+1+(body.getD p0 0).toNat+(if leaf=true then 2 else 0):=⟨fun h=>hc (.inl h),fun h=>hc (.inr h)⟩
    obtain⟨L,hL⟩:∃L,L=(body.getD p0 0).toNat:=⟨_,rfl⟩
    rw[←hL]at hc2 hp hk hv
    have hkey:((body.drop (p0+1)).take L).length=L:=by
     rw[List.length_take,List.length_drop]
     split at hc2 <;>omega
    have hext:entP leaf ks vs i=entP leaf ks0 vs0 i:=entP_ext fun j hj=>by
     subst hk
     refine⟨?_,fun hlf=> ?_⟩
     ·rw[List.getD_eq_getElem?_getD,List.getD_eq_getElem?_getD,List.getElem?_append_left (by omega)]
     ·subst hlf
      rw[if_pos rfl]at hv
      subst hv
      rw[List.getD_eq_getElem?_getD,List.getElem?_append_left (by rw[prs_vs h0];omega),List.getD_eq_getElem?_getD]
    have hki:ks.getD i []=(body.drop (p0+1)).take L:=by
     subst hk
     rw[List.getD_eq_getElem?_getD,List.getElem?_append_right (by omega),hl.1,Nat.sub_self];rfl
    have hhead:body.take (p0+1+L)=body.take p0++(u8z ((ks.getD i []).length:Int)::ks.getD i []):=by
     rw[hki,hkey,hL,u8z_nat,←hL,List.take_add,take_one (by omega),List.append_assoc];rfl
    rw[entP_succ,hext]
    cases leaf with
    |false=>
     rw[if_neg (by simp)]at hp ⊢
     subst hp
     rw[Nat.add_zero,hhead,ih];simp
    |true=>
     rw[if_pos rfl]at hp ⊢ hc2
     rw[if_pos rfl]at hv
     subst hp
     have hvi:vs.getD i 0=((body.getD (p0+1+L) 0).toNat:Int)*256+((body.getD (p0+2+L) 0).toNat:Int):=by
      subst hv
      rw[List.getD_eq_getElem?_getD,List.getElem?_append_right (by rw[prs_vs h0];exact Nat.le_refl _),prs_vs h0,Nat.sub_self];rfl
     rw[hvi,pairB_two]
     have t1:=take_one (body:=body) (p:=p0+1+L) (by omega)
     have t2:=take_one (body:=body) (p:=p0+1+L+1) (by omega)
     rw[t2,t1,hhead,ih,show p0+1+L+1=p0+2+L by omega]
     simp
theorem prsN_T{leaf:Bool}{body:List UInt8}{p:Nat}{ks:List (List UInt8)}{vs:List Int}(hb:1≤body.length)(h:prs leaf body (body.getD 0 0).toNat=some (p,ks,vs))
  (he:p+(kidsE leaf body p ((body.getD 0 0).toNat+1)).length=body.length) (hz:nodeF ⟨leaf,ks,vs,kidsE leaf body p ((body.getD 0 0).toNat+1)⟩=0):
  prsN leaf body=(⟨leaf,ks,vs,kidsE leaf body p ((body.getD 0 0).toNat+1)⟩,true)∧packN' ⟨leaf,ks,vs,kidsE leaf body p ((body.getD 0 0).toNat+1)⟩=body:=by
 have hN:=node_ok hz
 have hpl:=prs_len h
 have hple:p≤body.length:=prs_le hb h
 have h4:(body.getD 0 0).toNat≤4:=by have:=hN.kl;rw[hpl.1]at this;exact this
 have hk5:(if leaf=true then []else((body.drop p).take 5).map fun b=>(b.toNat:Int))=kidsE leaf body p ((body.getD 0 0).toNat+1):=by
  cases leaf with
  |true=>rfl
  |false=>
   have hc:=(hN.kids rfl).2.2.1
   rw[hpl.1]at hc
   unfold kidsE kidsB at he hc ⊢
   simp only[Bool.false_eq_true,↓reduceIte]at he hc ⊢
   rw[hc]at he
   rw[List.take_of_length_le (by rw[List.length_drop];omega),List.take_of_length_le (by rw[List.length_drop];omega)]
 refine⟨?_,?_⟩
 ·unfold prsN
  rw[if_neg (by omega),h]
  show prsE leaf body p ks vs=_
  unfold prsE
  simp only[hk5]
  rw[decide_eq_true he,decide_eq_true hz];rfl
 ·have hp:=prs_pack hb h
  have e1:accN ⟨leaf,ks,vs,kidsE leaf body p ((body.getD 0 0).toNat+1)⟩ ks.length=body.take p:=by
   rw[hp,hpl.1]
   unfold accN entN entP
   show u8z (ks.length:Int)::_=_
   rw[hpl.1,u8z_nat]
  show accN _ ks.length++(kidsE leaf body p ((body.getD 0 0).toNat+1)).map u8z=body
  rw[e1]
  cases leaf with
  |true=>
   have:p=body.length:=by
    unfold kidsE at he
    simpa using he
   unfold kidsE
   rw[this];simp
  |false=>
   rw[←hk5]
   rw[←hk5]at he
   simp only[Bool.false_eq_true,↓reduceIte]at he ⊢
   rw[List.length_map,List.length_take,List.length_drop]at he
   rw[List.take_of_length_le (l:=List.drop p body) (by rw[List.length_drop];omega),List.map_map]
   rw[show(u8z ∘ fun b:UInt8=>(b.toNat:Int))=id from funext fun b=>u8z_nat b,List.map_id]
   exact List.take_append_drop p body
theorem prsN_none{leaf:Bool}{body:List UInt8}(h:prs leaf body (body.getD 0 0).toNat=none):(prsN leaf body).2=false:=by
 cases hq:(prsN leaf body).2 with
 |false=>rfl
 |true=>
  obtain⟨_,p,ks,vs,h1,_⟩:=prsN_some (n:=(prsN leaf body).1) (Prod.ext rfl hq)
  rw[h]at h1;cases h1
theorem prsN_bad{leaf:Bool}{body:List UInt8}{p:Nat}{ks:List (List UInt8)}{vs:List Int}(h:prs leaf body (body.getD 0 0).toNat=some (p,ks,vs))
  (hb:¬(p+(kidsE leaf body p ((body.getD 0 0).toNat+1)).length=body.length∧nodeF ⟨leaf,ks,vs,kidsE leaf body p ((body.getD 0 0).toNat+1)⟩=0)):(prsN leaf body).2=false:=by
 cases hq:(prsN leaf body).2 with
 |false=>rfl
 |true=>
  obtain⟨_,p',ks',vs',h1,h2,h3,h4⟩:=prsN_some (n:=(prsN leaf body).1) (Prod.ext rfl hq)
  rw[h]at h1
  simp only[Option.some.injEq,Prod.mk.injEq]at h1
  obtain⟨rfl,rfl,rfl⟩:=h1
  rw[h2]at h4
  exact absurd ⟨h3,h4⟩ hb
theorem tkS_ok{xs:List UInt8}{k:Nat}(h:k≤xs.length):tkS (xs,false) k=(xs.drop k,false):=by
 unfold tkS tkOK
 rw[if_pos (by simp[h])]
theorem tkV_ok{xs:List UInt8}{k:Nat}(h:k≤xs.length):tkV (xs,false) k=xs.take k:=by
 unfold tkV tkOK
 rw[if_pos (by simp[h])]
theorem tkS_no{xs:List UInt8}{k:Nat}(h:xs.length<k):tkS (xs,false) k=(xs,true):=by
 unfold tkS tkOK
 rw[if_neg (by simp;omega)]
theorem tkS_fail{xs:List UInt8}{k:Nat}:tkS (xs,true) k=(xs,true):=by
 unfold tkS tkOK
 rw[if_neg (by simp)]
theorem tkS_le(q:RdS)(k:Nat):(tkS q k).1.length≤q.1.length:=by
 unfold tkS
 split
 ·rw[List.length_drop];omega
 ·exact Nat.le_refl _
theorem oneV_bd(q:RdS):0≤oneV q∧oneV q≤255:=by
 unfold oneV
 have:=((tkV q 1).getD 0 0).toNat_lt
 omega
theorem pairV_bd(q:RdS):0≤pairV q∧pairV q≤65535:=by
 unfold pairV
 have:=((tkV q 2).getD 0 0).toNat_lt
 have:=((tkV q 2).getD 1 0).toNat_lt
 omega
theorem oneV_at{body:List UInt8}{p:Nat}(h:p<body.length):oneV (body.drop p,false)=((body.getD p 0).toNat:Int):=by
 unfold oneV
 rw[tkV_ok (by rw[List.length_drop];omega)]
 congr 2
 rw[List.getD_eq_getElem?_getD,List.getElem?_take,if_pos Nat.zero_lt_one,List.getElem?_drop,Nat.add_zero,List.getD_eq_getElem?_getD]
theorem pairV_at{body:List UInt8}{p:Nat}(h:p+2≤body.length):pairV (body.drop p,false)=((body.getD p 0).toNat:Int)*256+((body.getD (p+1) 0).toNat:Int):=by
 unfold pairV
 rw[tkV_ok (by rw[List.length_drop];omega)]
 rw[List.getD_eq_getElem?_getD,List.getElem?_take,if_pos (by omega),List.getElem?_drop,Nat.add_zero,List.getD_eq_getElem?_getD,List.getElem?_take,if_pos (by omega),List.getElem?_drop,←List.getD_eq_getElem?_getD,←List.getD_eq_getElem?_getD]
def rq2(q:RdS):RdS:=tkS (tkS q 1) (oneV q).toNat
def rky(q:RdS):List UInt8:=tkV (tkS q 1) (oneV q).toNat
def rqE(leaf:Bool)(q:RdS):RdS:=if leaf=true then tkS (rq2 q) 2 else rq2 q
theorem rd_step{leaf:Bool}{body:List UInt8}{i p:Nat}{ks:List (List UInt8)}{vs:List Int}(h:prs leaf body i=some (p,ks,vs)):
  ((rqE leaf (body.drop p,false)).2=false∧∃p',(rqE leaf (body.drop p,false)).1=body.drop p'∧prs leaf body (i+1)=some (p',ks++[rky (body.drop p,false)],if leaf=true then vs++[pairV (rq2 (body.drop p,false))]else vs))∨
  ((rqE leaf (body.drop p,false)).2=true∧prs leaf body (i+1)=none):=by
 have hst:prs leaf body (i+1)=if body.length≤p∨body.length<p+1+(body.getD p 0).toNat+(if leaf=true then 2 else 0)then none
   else some (p+1+(body.getD p 0).toNat+(if leaf=true then 2 else 0),ks++[(body.drop (p+1)).take (body.getD p 0).toNat],
    if leaf=true then vs++[((body.getD (p+1+(body.getD p 0).toNat) 0).toNat:Int)*256+((body.getD (p+2+(body.getD p 0).toNat) 0).toNat:Int)]else vs):=by
  conv=>lhs;unfold prs
  rw[h]
 by_cases h1:body.length≤p
 ·refine .inr ⟨?_,by rw[hst,if_pos (.inl h1)]⟩
  have e:rq2 (body.drop p,false)=(body.drop p,true):=by
   unfold rq2
   rw[tkS_no (by rw[List.length_drop];omega),tkS_fail]
  unfold rqE
  rw[e,tkS_fail];split <;>rfl
 ·have e1:=oneV_at (body:=body) (p:=p) (by omega)
  have e2:tkS (body.drop p,false) 1=(body.drop (p+1),false):=by rw[tkS_ok (by rw[List.length_drop];omega),List.drop_drop]
  obtain⟨L,hL⟩:∃L,L=(body.getD p 0).toNat:=⟨_,rfl⟩
  have e3:(oneV (body.drop p,false)).toNat=L:=by rw[e1,hL];rfl
  rw[←hL]at hst
  by_cases h2:body.length<p+1+L
  ·refine .inr ⟨?_,by rw[hst,if_pos (.inr (by omega))]⟩
   have e:rq2 (body.drop p,false)=(body.drop (p+1),true):=by
    unfold rq2
    rw[e2,e3,tkS_no (by rw[List.length_drop];omega)]
   unfold rqE
   rw[e,tkS_fail];split <;>rfl
  ·have e:rq2 (body.drop p,false)=(body.drop (p+1+L),false):=by
    unfold rq2
    rw[e2,e3,tkS_ok (by rw[List.length_drop];omega),List.drop_drop]
   have ek:rky (body.drop p,false)=(body.drop (p+1)).take L:=by
    unfold rky
    rw[e2,e3,tkV_ok (by rw[List.length_drop];omega)]
   cases leaf with
   |false=>
    simp only[Bool.false_eq_true,↓reduceIte,Nat.add_zero]at hst
    rw[if_neg (by omega)]at hst
    refine .inl ⟨?_,p+1+L,?_,?_⟩
    ·unfold rqE;rw[e];rfl
    ·unfold rqE;rw[e];rfl
    ·rw[hst,ek];rfl
   |true=>
    simp only[↓reduceIte]at hst
    by_cases h3:body.length<p+1+L+2
    ·refine .inr ⟨?_,by rw[hst,if_pos (.inr h3)]⟩
     unfold rqE
     rw[e,tkS_no (by rw[List.length_drop];omega)];rfl
    ·rw[if_neg (by omega)]at hst
     refine .inl ⟨?_,p+1+L+2,?_,?_⟩
     ·unfold rqE;rw[e,tkS_ok (by rw[List.length_drop];omega)];rfl
     ·unfold rqE;rw[e,tkS_ok (by rw[List.length_drop];omega),List.drop_drop];rfl
     ·rw[hst,ek,e,pairV_at (by omega),show p+1+L+1=p+2+L by omega];rfl
theorem Tr.le{P:Program}{N0:Nat}{c:Code}{Q:APost}{s:List Value}{H H':AH}{Bd:Nat}(hle:Le H' H)(h:Tr P N0 c Q s H' Bd):Tr P N0 c Q s H Bd:=
 Tr.pub (fun _=>False) (PubL_refl s) hle (fun _ _ _ h=>h) (Nat.le_refl _) h
theorem rd_init(leaf:Bool)(body:List UInt8):((tkS (body,false) 1).2=false∧1≤body.length∧∃p,(tkS (body,false) 1).1=body.drop p∧prs leaf body 0=some (p,[],[]))∨((tkS (body,false) 1).2=true∧(prsN leaf body).2=false):=by
 by_cases h:body.length<1
 ·refine .inr ⟨by rw[tkS_no h],?_⟩
  unfold prsN
  rw[if_pos (.inl h)]
 ·exact .inl ⟨by rw[tkS_ok (by omega)],by omega,1,by rw[tkS_ok (by omega)],rfl⟩
inductive RQ (σ:List (Option Nat)) (N:Nat) (S:Nat→Prop) (H:AH):Value→Value→Prop
 |same {v:Value} (h:NB N v):RQ σ N S H v v
 |pub {v u:Value} (hp:Pub H S u v) (h:NB N v):RQ σ N S H v u
 |sl {i m off k len c:Nat} (h:σ[i]? =some (some m)):RQ σ N S H (.slice (some ⟨N+i,off,some k⟩) len (len+1)) (.slice (some ⟨m,off,some k⟩) len c)
 |ptr {i m off:Nat} (h:σ[i]? =some (some m)):RQ σ N S H (.pointer (some ⟨N+i,off,none⟩)) (.pointer (some ⟨m,off,none⟩))
 |nil {i k:Nat} (h:σ[i]? =some none):RQ σ N S H (.slice (some ⟨N+i,0,some k⟩) 0 1) (.slice none 0 0)
 |agg {xs ys:Array Value} (hs:xs.size=ys.size) (h:∀(i:Nat) v u,xs[i]? =some v→ys[i]? =some u→RQ σ N S H v u):RQ σ N S H (.agg xs) (.agg ys)
 |tuple {xs ys:Array Value} (hs:xs.size=ys.size) (h:∀(i:Nat) v u,xs[i]? =some v→ys[i]? =some u→RQ σ N S H v u):RQ σ N S H (.tuple xs) (.tuple ys)
theorem NB.up{B B':Nat}(hle:B≤B'){v:Value}(h:NB B v):NB B' v:=by
 induction h with
 |unk=>exact .unk
 |bool b=>exact .bool b
 |int k n=>exact .int k n
 |string s=>exact .string s
 |nilp=>exact .nilp
 |ptr h=>exact .ptr (Nat.lt_of_lt_of_le h hle)
 |nils=>exact .nils
 |sl h=>exact .sl (Nat.lt_of_lt_of_le h hle)
 |agg _ ih=>exact .agg ih
 |tuple _ ih=>exact .tuple ih
 |func _ ih=>exact .func ih
 |nilf=>exact .nilf
 |nili=>exact .nili
 |iface _ ih=>exact .iface ih
 |lst _ ih=>exact .lst ih
 |vp _ ih=>exact .vp ih
 |mp=>exact .mp
theorem VR.rq{A:Nat→Prop}{ι:Ren}{H:AH}{Bd:Nat}{w:World}(hr:Rel A ι H Bd w){σ:List (Option Nat)}{N:Nat}{S:Nat→Prop}{v u:Value}(hq:RQ σ N S H v u):∀ {x:Value},VR ι w u x→VR (rnR (frz ι H S) N σ) w v x:=by
 have hcl:∀ {v x:Value},NB N v→VR (frz ι H S) w v x→VR (rnR (frz ι H S) N σ) w v x:=fun hn hx=>VR.rn (.same hn) hx
 have hup:∀ {v x:Value},VR ι w v x→VR (frz ι H S) w v x:=fun hx=>hx.mono (ext_frz ι H S) (Fro.refl ι w)
 induction hq with
 |same h=>exact fun hx=>hcl h (hup hx)
 |pub hp h=>exact fun hx=>hcl h (VR.pub hr hp hx)
 |sl h=>exact fun hx=>VR.rn (.sl h) (hup hx)
 |ptr h=>
  intro x hx
  cases hx with
  |ptr h1=>exact .ptr ((rnR_add h).trans h1)
 |nil h=>exact fun hx=>VR.rn (.nil h) (hup hx)
 |agg hs _ ih=>
  intro x hx
  rename_i xs ys _
  cases hx with
  |agg hs2 h2=>
   refine .agg (hs.trans hs2) fun i v u h3 h4=> ?_
   have hi:=(Array.getElem?_eq_some_iff.1 h3).1
   exact ih i v (ys[i]'(by omega)) h3 (Array.getElem?_eq_getElem (by omega)) (h2 i _ u (Array.getElem?_eq_getElem (by omega)) h4)
 |tuple hs _ ih=>
  intro x hx
  rename_i xs ys _
  cases hx with
  |tuple hs2 h2=>
   refine .tuple (hs.trans hs2) fun i v u h3 h4=> ?_
   have hi:=(Array.getElem?_eq_some_iff.1 h3).1
   exact ih i v (ys[i]'(by omega)) h3 (Array.getElem?_eq_getElem (by omega)) (h2 i _ u (Array.getElem?_eq_getElem (by omega)) h4)
def ntin(n:Nat):List (Option Nat)→Prop
 |[]=>True
 |some m::r=>m≠n∧ntin n r
 |none::r=>ntin n r
theorem ntin_spec{n:Nat}:∀ {σ:List (Option Nat)},ntin n σ→∀i:Nat,σ[i]? ≠some (some n)
 |[],_,i=>by simp
 |some m::r,h,0=>fun e=>by simp only[List.getElem?_cons_zero,Option.some.injEq]at e;exact h.1 e
 |none::r,h,0=>fun e=>by simp at e
 |some m::r,h,i+1=>fun e=>by rw[List.getElem?_cons_succ]at e;exact ntin_spec h.2 i e
 |none::r,h,i+1=>fun e=>by rw[List.getElem?_cons_succ]at e;exact ntin_spec (σ:=r) h i e
def rql(σ:List (Option Nat))(N:Nat)(S:Nat→Prop)(H:AH)(xs ys:List Value):Prop:=xs.length=ys.length∧∀(i:Nat) v u,xs[i]? =some v→ys[i]? =some u→RQ σ N S H v u
def gone(C:AH)(σ:List (Option Nat))(n:Nat):Prop:=C n=none∧ntin n σ
structure Can (N:Nat) (σ:List (Option Nat)) (s:List Value) (H:AH) (sc:List Value) (C:AH):Prop where
 len:s.length=sc.length
 slot:∀(i:Nat) v u,sc[i]? =some v→s[i]? =some u→v=unk∨RQ σ N (gone C σ) H v u
 low:∀n b,n<N→C n=some b→∃b',H n=some b'∧b'.own=b.own∧rql σ N (gone C σ) H b.cells b'.cells
 high:∀n b,N≤n→C n=some b→b.own=true∧((σ[n-N]? =some none∧b.cells=[])∨∃m b',σ[n-N]? =some (some m)∧H m=some b'∧b'.own=true∧rql σ N (gone C σ) H b.cells b'.cells)
 out:∀(i m:Nat),σ[i]? =some (some m)→N≤m∨C m=none
 nodup:∀(i j m:Nat),σ[i]? =some (some m)→σ[j]? =some (some m)→i=j
theorem Can.rel{N:Nat}{σ:List (Option Nat)}{s:List Value}{H:AH}{sc:List Value}{C:AH}(hc:Can N σ s H sc C){A:Nat→Prop}{ι:Ren}{Bd:Nat}{w:World}(hrel:Rel A ι H Bd w):
  Rel A (rnR (frz ι H (gone C σ)) N σ) C (N+σ.length) w:=by
 have hrq:∀ {v u x:Value},RQ σ N (gone C σ) H v u→VR ι w u x→VR (rnR (frz ι H (gone C σ)) N σ) w v x:=fun hq hx=>VR.rq hrel hq hx
 have hge:∀n,¬n<N→∃i,n=N+i:=fun n hn=>⟨n-N,by omega⟩
 have hfm:∀n,(frz ι H (gone C σ)) n=ι n:=fun n=>rfl
 have hold:∀ {n b},C n=some b→(∃m b',(rnR (frz ι H (gone C σ)) N σ) n=ι m∧H m=some b'∧b'.own=b.own∧rql σ N (gone C σ) H b.cells b'.cells∧¬gone C σ m∧((n<N∧m=n)∨(N≤n∧σ[n-N]? =some (some m))))∨((rnR (frz ι H (gone C σ)) N σ) n=some .void∧b.cells=[]∧b.own=true∧N≤n):=fun{n b} hn=>by
  rcases Nat.lt_or_ge n N with hlt|hge'
  ·obtain⟨b',h1,h2,h3⟩:=hc.low n b hlt hn
   exact .inl ⟨n,b',rnR_lt hlt,h1,h2,h3,fun h=>(by rw[h.1]at hn;cases hn), .inl ⟨hlt,rfl⟩⟩
  ·obtain⟨i,rfl⟩:=hge n (by omega)
   obtain⟨ho,h⟩:=hc.high _ b hge' hn
   rw[Nat.add_sub_cancel_left]at h
   rcases h with⟨h1,h2⟩|⟨m,b',h1,h2,h3,h4⟩
   ·exact .inr ⟨rnR_void h1,h2,ho,hge'⟩
   ·exact .inl ⟨m,b',rnR_add h1,h2,h3.trans ho.symm,h4,fun h=>ntin_spec h.2 i h1, .inr ⟨hge',by rw[Nat.add_sub_cancel_left];exact h1⟩⟩
 have hne:∀ {n n' m m':Nat} {b b':Blk},C n=some b→C n'=some b'→n≠n'→((n<N∧m=n)∨(N≤n∧σ[n-N]? =some (some m)))→((n'<N∧m'=n')∨(N≤n'∧σ[n'-N]? =some (some m')))→m≠m':=fun{n n' m m' b b'} hn hn' hd h1 h2 e=>by
  subst e
  rcases h1 with⟨a1,rfl⟩|⟨a1,a2⟩ <;>rcases h2 with⟨b1,b2⟩|⟨b1,b2⟩
  ·exact hd b2
  ·rcases hc.out _ _ b2 with h|h
   ·omega
   ·rw[hn]at h;cases h
  ·subst b2
   rcases hc.out _ _ a2 with h|h
   ·omega
   ·rw[hn']at h;cases h
  ·have:=hc.nodup _ _ _ a2 b2
   omega
 refine⟨fun n hn=> ?_,fun n b hn=> ?_,fun n m b b' B base B' base' hd h1 h2 ho i1 i2=> ?_,hrel.newA,fun n b B base h1 ho i1=> ?_,fun B hB=> ?_,fun n b hn hq=> ?_,hrel.mp⟩
 ·obtain⟨i,rfl⟩:=hge n (by omega)
  have:σ[i]? =none:=List.getElem?_eq_none (by omega)
  show(if N+i<N then _ else _)=_
  rw[if_neg (by omega),Nat.add_sub_cancel_left,this]
 ·rcases hold hn with⟨m,b',g0,g1,g2,g3,g4,g5⟩|⟨g1,g2,g3,g4⟩
  ·rcases hrel.blk m b' g1 with⟨hv,hcn⟩|⟨B,base,cs,e1,fr,k1,k2,k3,k4,k5⟩
   ·refine .inl ⟨g0.trans hv,?_⟩
    have:=g3.1
    rw[hcn]at this
    exact List.eq_nil_of_length_eq_zero this
   ·refine .inr ⟨B,base,cs,e1,fr,g0.trans k1,k2,fun h=>k3 (g2.trans h),fun h=>k4 (g2.trans h),fun j v hv=> ?_⟩
    have hj:j<b'.cells.length:=g3.1▸(List.getElem?_eq_some_iff.1 hv).1
    obtain⟨v',l1,l2⟩:=k5 j (b'.cells[j]'(by omega)) (List.getElem?_eq_getElem (by omega))
    exact⟨v',l1,hrq (g3.2 j v _ hv (List.getElem?_eq_getElem (by omega))) l2⟩
  ·exact .inl ⟨g1,g2⟩
 ·rcases hold h1 with⟨p,c1,g0,g1,g2,g3,g4,g5⟩|⟨g1,_⟩
  ·rcases hold h2 with⟨q,c2,k0,k1,k2,k3,k4,k5⟩|⟨k1,_⟩
   ·rw[g0]at i1;rw[k0]at i2
    exact hrel.apart p q c1 c2 B base B' base' (hne h1 h2 hd g5 k5) g1 k1 (g2.trans ho) i1 i2
   ·rw[k1]at i2;cases i2
  ·rw[g1]at i1;cases i1
 ·rcases hold h1 with⟨p,c1,g0,g1,g2,g3,g4,g5⟩|⟨g1,_⟩
  ·rw[g0]at i1
   rintro(hf|⟨n',b',base',q1,q2,q3,q4⟩)
   ·exact hrel.froz p c1 B base g1 (g2.trans ho) i1 hf
   ·by_cases e:n'=p
    ·subst e;exact g4 q1
    ·exact hrel.apart n' p b' c1 B base' B base e q2 g1 q3 q4 i1 rfl
  ·rw[g1]at i1;cases i1
 ·rcases hB with hf|⟨n',b',base',q1,q2,q3,q4⟩
  ·exact hrel.fzlt B hf
  ·rcases hrel.blk n' b' q2 with⟨hv,_⟩|⟨B2,base2,cs,e1,fr,k1,k2,_⟩
   ·rw[hv]at q4;cases q4
   ·rw[k1]at q4;cases q4
    exact(Array.getElem?_eq_some_iff.1 k2).1
 ·rcases hold hn with⟨p,c1,g0,g1,g2,g3,g4,g5⟩|⟨_,_,g3,_⟩
  ·rcases g5 with⟨hlt,rfl⟩|⟨hge',hs⟩
   ·obtain⟨q1,q2⟩:=hrel.glob p c1 g1 (g2.trans hq)
    exact⟨g0.trans q1,by rw[g3.1];exact q2⟩
   ·have:=(hc.high n b hge' hn).1
    rw[hq]at this;cases this
  ·rw[hq]at g3;cases g3
theorem Can.st{N:Nat}{σ:List (Option Nat)}{s:List Value}{H:AH}{sc:List Value}{C:AH}(hc:Can N σ s H sc C){A:Nat→Prop}{ι:Ren}{Bd:Nat}{a:Act}{w:World}(hst:St A ι s H Bd a w):
  St A (rnR (frz ι H (gone C σ)) N σ) sc C (N+σ.length) a w:=by
 refine⟨hc.rel hst.rel,⟨by rw[←hc.len];exact hst.slots.1,fun i v v' g1 g2=> ?_⟩,hst.defers⟩
 have hlt:i<s.length:=by have:=(List.getElem?_eq_some_iff.1 g1).1;have:=hc.len;omega
 rcases hc.slot i v s[i] g1 (List.getElem?_eq_getElem hlt)with rfl|hp
 ·exact .unk _
 ·exact VR.rq hst.rel hp (hst.slots.2 i _ v' (List.getElem?_eq_getElem hlt) g2)
theorem Can.ni{N:Nat}{σ:List (Option Nat)}{s:List Value}{H:AH}{sc:List Value}{C:AH}(hc:Can N σ s H sc C):NI H C:=fun n b hn ho=>by
 rcases Nat.lt_or_ge n N with hlt|hge
 ·obtain⟨b',h1,h2,h3⟩:=hc.low n b hlt hn
  exact⟨b',h1,h2.trans ho⟩
 ·have:=(hc.high n b hge hn).1
  rw[ho]at this;cases this
theorem Keep.rn{A:Nat→Prop}{ι ι':Ren}{w w':World}{N:Nat}{σ:List (Option Nat)}(k:Keep A ι w ι' w'):Keep A ι w (rnR ι' N σ) w':=⟨k.os,k.tape,k.output,k.size,k.block,k.rows,k.fz,k.fzA⟩
theorem Can.tr{P:Program}{N0:Nat}{c:Code}{Q:APost}{N:Nat}{σ:List (Option Nat)}{s:List Value}{H:AH}{Bd:Nat}{sc:List Value}{C:AH}(hN:N0≤N)(hc:Can N σ s H sc C)(h:Tr P N0 c Q sc C (N+σ.length)):Tr P N0 c Q s H Bd:=by
 intro hB A ι a w hst
 refine wp_mono (h (by omega) A _ a w (hc.st hst)) fun e a' w' ⟨ι',s2,H2,Bd2,g1,g2,g3,g4,g5,g6⟩=> ?_
 refine⟨ι',s2,H2,Bd2,g1,g2,g3,(Keep.rn (Keep.refl A w (ext_frz ι H _).fz (hst.rel.frzA _))).trans g4,fun n hn=> ?_,NI.trans hc.ni g6⟩
 rw[g5 n hn,rnR_lt (by omega)];rfl
inductive Pth
 |s (t:Nat)
 |m (n i:Nat)
def nmV:Value→Option Nat
 | .slice (some a) _ _=>some a.block
 | .pointer (some a)=>some a.block
 |_=>none
def cellV(b:Option Blk)(i:Nat):Value:=match b with|some b=>(b.cells[i]?).getD unk|none=>unk
def srcs:List Pth→List Value→AH→List (Option Nat)
 |[],_,_=>[]
 | .s t::r,s,H=>nmV (sget s t)::srcs r s H
 | .m n i::r,s,H=>nmV (cellV (H n) i)::srcs r s H
theorem srcs_len(s:List Value)(H:AH):∀ps,(srcs ps s H).length=ps.length
 |[]=>rfl
 | .s t::r=>congrArg Nat.succ (srcs_len s H r)
 | .m n i::r=>congrArg Nat.succ (srcs_len s H r)
def mem(H:AH):List (Nat×Blk)→AH
 |[]=>H
 |(n,b)::r=>upd (mem H r) n (some b)
def ninM(n:Nat):List (Nat×Blk)→Prop
 |[]=>True
 |(m,_)::r=>m≠n∧ninM n r
theorem ninM_spec{H:AH}{n:Nat}(h:H n=none):∀ {l},ninM n l→mem H l n=none
 |[],_=>h
 |(m,b)::r,q=>by
  show upd (mem H r) m (some b) n=none
  rw[upd_other _ _ (fun e=>q.1 e.symm)];exact ninM_spec h q.2
def goneL(H0:AH)(ml:List (Nat×Blk))(σ:List (Option Nat))(n:Nat):Prop:=free H0 n∧ninM n ml∧ntin n σ
theorem goneL_spec{H0:AH}{ml:List (Nat×Blk)}{σ:List (Option Nat)}{n:Nat}(h:goneL H0 ml σ n):gone (mem H0 ml) σ n:=⟨ninM_spec h.1 h.2.1,h.2.2⟩
def FitQ(σ:List (Option Nat))(N:Nat)(S:Nat→Prop)(H:AH)(s:List Value):List (Nat×Value)→Prop
 |[]=>True
 |(i,v)::l=>RQ σ N S H v (sget s i)∧FitQ σ N S H s l
def lowQ(σ:List (Option Nat))(N:Nat)(S:Nat→Prop)(H:AH)(o:Bool)(cs:List Value):Option Blk→Prop
 |some b=>b.own=o∧rql σ N S H cs b.cells
 |none=>False
def hiQ(σ:List (Option Nat))(N:Nat)(S:Nat→Prop)(H:AH)(cs:List Value):Option (Option Nat)→Prop
 |some (some m)=>lowQ σ N S H true cs (H m)
 |some none=>cs=[]
 |none=>False
def blkQ(σ:List (Option Nat))(N:Nat)(S:Nat→Prop)(H:AH)(n:Nat)(b:Blk):Prop:=
 (n<N∧lowQ σ N S H b.own b.cells (H n))∨(N≤n∧b.own=true∧hiQ σ N S H b.cells σ[n-N]?)
def memQ(σ:List (Option Nat))(N:Nat)(S:Nat→Prop)(H:AH):List (Nat×Blk)→Prop
 |[]=>True
 |(n,b)::r=>blkQ σ N S H n b∧memQ σ N S H r
def sgQ(N:Nat)(H0:AH)(ml:List (Nat×Blk)):List (Option Nat)→Prop
 |[]=>True
 |some m::r=>(N≤m∨(free H0 m∧ninM m ml))∧ntin m r∧sgQ N H0 ml r
 |none::r=>sgQ N H0 ml r
def CanS(N:Nat)(σ:List (Option Nat))(s:List Value)(H:AH)(l:List (Nat×Value))(H0:AH)(ml:List (Nat×Blk)):Prop:=
 sgQ N H0 ml σ∧FitQ σ N (goneL H0 ml σ) H s l∧memQ σ N (goneL H0 ml σ) H ml
def CanT(N:Nat)(ps:List Pth)(s:List Value)(H:AH)(l:List (Nat×Value))(H0:AH)(ml:List (Nat×Blk)):Prop:=
 Le H0 H∧CanS N (srcs ps s H) s H l H0 ml
theorem RQ.mono{σ:List (Option Nat)}{N:Nat}{S S':Nat→Prop}{H:AH}(hS:∀n,S n→S' n){v u:Value}(h:RQ σ N S H v u):RQ σ N S' H v u:=by
 have hp:∀ {v u:Value},Pub H S u v→Pub H S' u v:=fun hp=>by
  induction hp with
  |same v=>exact .same v
  |agg hs _ ih=>exact .agg hs ih
  |tuple hs _ ih=>exact .tuple hs ih
  |empty=>exact .empty
  |lst a b c d e f _ ih=>exact .lst (hS _ a) b c d e f ih
 induction h with
 |same h=>exact .same h
 |pub a b=>exact .pub (hp a) b
 |sl h=>exact .sl h
 |ptr h=>exact .ptr h
 |nil h=>exact .nil h
 |agg hs _ ih=>exact .agg hs ih
 |tuple hs _ ih=>exact .tuple hs ih
theorem FitQ.get{σ:List (Option Nat)}{N:Nat}{S:Nat→Prop}{H:AH}{s:List Value}:∀ {l:List (Nat×Value)},FitQ σ N S H s l→∀i,lk l i unk=unk∨RQ σ N S H (lk l i unk) (sget s i)
 |[],_,i=> .inl rfl
 |(j,v)::l,h,i=>by
  unfold lk
  split
  ·rename_i e
   have e:j=i:=by simpa using e
   subst e
   exact .inr h.1
  ·exact FitQ.get h.2 i
theorem memQ_get{σ:List (Option Nat)}{N:Nat}{S:Nat→Prop}{H H0:AH}:∀ {l:List (Nat×Blk)},memQ σ N S H l→∀n b,mem H0 l n=some b→(H0 n=some b)∨blkQ σ N S H n b
 |[],_,n,b,h=> .inl h
 |(m,b')::r,hq,n,b,h=>by
  by_cases e:n=m
  ·subst e
   have:upd (mem H0 r) n (some b') n=some b:=h
   rw[upd_same]at this
   cases this
   exact .inr hq.1
  ·have:upd (mem H0 r) m (some b') n=some b:=h
   rw[upd_other _ _ e]at this
   exact memQ_get hq.2 n b this
theorem sgQ_spec{N:Nat}{H0:AH}{ml:List (Nat×Blk)}:∀ {σ:List (Option Nat)},sgQ N H0 ml σ→(∀(i m:Nat),σ[i]? =some (some m)→N≤m∨mem H0 ml m=none)∧∀(i j m:Nat),σ[i]? =some (some m)→σ[j]? =some (some m)→i=j
 |[],_=>⟨fun i m h=>by simp at h,fun i j m h=>by simp at h⟩
 |none::r,h=>by
  obtain⟨h1,h2⟩:=sgQ_spec (σ:=r) h
  refine⟨fun i m hi=> ?_,fun i j m hi hj=> ?_⟩
  ·cases i with
   |zero=>simp at hi
   |succ i=>exact h1 i m (by simpa using hi)
  ·cases i with
   |zero=>simp at hi
   |succ i=>cases j with
    |zero=>simp at hj
    |succ j=>exact congrArg Nat.succ (h2 i j m (by simpa using hi) (by simpa using hj))
 |some q::r,h=>by
  obtain⟨h1,h2⟩:=sgQ_spec (σ:=r) h.2.2
  refine⟨fun i m hi=> ?_,fun i j m hi hj=> ?_⟩
  ·cases i with
   |zero=>
    simp only[List.getElem?_cons_zero,Option.some.injEq]at hi
    subst hi
    exact h.1.imp id fun g=>ninM_spec g.1 g.2
   |succ i=>exact h1 i m (by simpa using hi)
  ·cases i with
   |zero=>
    cases j with
    |zero=>rfl
    |succ j=>
     simp only[List.getElem?_cons_zero,Option.some.injEq]at hi
     subst hi
     exact absurd (by simpa using hj) (ntin_spec h.2.1 j)
   |succ i=>cases j with
    |zero=>
     simp only[List.getElem?_cons_zero,Option.some.injEq]at hj
     subst hj
     exact absurd (by simpa using hi) (ntin_spec h.2.1 i)
    |succ j=>exact congrArg Nat.succ (h2 i j m (by simpa using hi) (by simpa using hj))
theorem CanT.can{N:Nat}{ps:List Pth}{s:List Value}{H H0:AH}{l:List (Nat×Value)}{ml:List (Nat×Blk)}{n Bd:Nat}(hH:∀n b,H0 n=some b→n<N∧∀v∈b.cells,NB N v)(h:CanT N ps s H l H0 ml)(hn:s.length=n):Can N (srcs ps s H) s H (aS n unk l) (mem H0 ml):=by
 obtain⟨hle,h1,h2,h3⟩:=h
 obtain⟨g1,g2⟩:=sgQ_spec h1
 have hm:∀ {v u},RQ (srcs ps s H) N (goneL H0 ml (srcs ps s H)) H v u→RQ (srcs ps s H) N (gone (mem H0 ml) (srcs ps s H)) H v u:=fun hq=>hq.mono fun _=>goneL_spec
 have hml:∀ {xs ys},rql (srcs ps s H) N (goneL H0 ml (srcs ps s H)) H xs ys→rql (srcs ps s H) N (gone (mem H0 ml) (srcs ps s H)) H xs ys:=fun hq=>⟨hq.1,fun i v u a b=>hm (hq.2 i v u a b)⟩
 have hlow:∀ {o cs b},lowQ (srcs ps s H) N (goneL H0 ml (srcs ps s H)) H o cs b→∃b',b=some b'∧b'.own=o∧rql (srcs ps s H) N (gone (mem H0 ml) (srcs ps s H)) H cs b'.cells:=fun{o cs b} hq=>by
  cases b with
  |none=>exact hq.elim
  |some b=>exact⟨b,rfl,hq.1,hml hq.2⟩
 refine⟨by rw[aS_length,hn],fun i v u e1 e2=> ?_,fun k b hk hb=> ?_,fun k b hk hb=> ?_,g1,g2⟩
 ·rw[aS_get]at e1
  split at e1
  ·cases e1
   refine(h2.get i).imp id fun hq=> ?_
   have:sget s i=u:=by rw[sget_eq,List.getD_eq_getElem?_getD,e2];rfl
   rw[←this];exact hm hq
  ·cases e1
 ·rcases memQ_get h3 k b hb with h0|hq
  ·exact⟨b,hle k b h0,rfl,rfl,fun i v u e1 e2=>by rw[e1]at e2;cases e2;exact .same ((hH k b h0).2 v (List.mem_of_getElem? e1))⟩
  ·rcases hq with⟨_,hq⟩|⟨hge,_⟩
   ·obtain⟨b',a1,a2,a3⟩:=hlow hq
    exact⟨b',a1,a2,a3⟩
   ·omega
 ·rcases memQ_get h3 k b hb with h0|hq
  ·exact absurd (hH k b h0).1 (by omega)
  ·rcases hq with⟨hlt,_⟩|⟨_,ho,hq⟩
   ·omega
   ·refine⟨ho,?_⟩
    unfold hiQ at hq
    split at hq
    ·rename_i m hs
     obtain⟨b',a1,a2,a3⟩:=hlow hq
     exact .inr ⟨m,b',hs,a1,a2,a3⟩
    ·rename_i hs
     exact .inl ⟨hs,hq⟩
    ·exact hq.elim
theorem tr_own{P:Program}{N0:Nat}{c:Code}{Q:APost}{s:List Value}{H H0:AH}{B0 Bd:Nat}{X:Type}(hb:HB H0 B0)(hB0:B0≤Bd)(k:Nat)(ps:List Pth)(hk:ps.length=k)(I:X→Prop)(μ:X→Nat)(sl:Nat→X→List (Nat×Value))(ml:Nat→X→List (Nat×Blk))(x0:X)(h0:I x0)
  (hs:∀N,Bd≤N→CanT N ps s H (sl N x0) H0 (ml N x0))
  (round:∀N x,Bd≤N→I x→HB (mem H0 (ml N x)) (N+k)→∀F:List Value→AH→Nat→Prop,(∀y s' H' B',μ y<μ x→I y→s'.length=s.length→CanT N ps s' H' (sl N y) H0 (ml N y)→F s' H' B')→Tr P (N+k) c (thenQ F Q) (aS s.length unk (sl N x)) (mem H0 (ml N x)) (N+k)):Tr P N0 (.loop c) Q s H Bd:=by
 intro hN A ι a w hst
 have hH:∀n b,H0 n=some b→n<Bd∧∀v∈b.cells,NB Bd v:=fun n b hn=>⟨Nat.lt_of_lt_of_le (hb_in hb hn) hB0,fun v hv=>(hb.nb n b hn v hv).up hB0⟩
 let Inv:X→Act→World→Prop:=fun x a' w'=>∃ι',I x∧St A ι' (aS s.length unk (sl Bd x)) (mem H0 (ml Bd x)) (Bd+k) a' w'∧Keep A ι w ι' w'∧Agr N0 ι ι'∧NI H (mem H0 (ml Bd x))
 have hagr:∀ {ι:Ren} {σ:List (Option Nat)} {H:AH} {S:Nat→Prop} {N:Nat},N0≤N→Agr N0 ι (rnR (frz ι H S) N σ):=fun hN n hn=>(rnR_lt (by omega)).trans rfl
 refine wp_loop (I:=fun a' w'=>∃x,Inv x a' w') (μ:=fun a' w'=>leastN fun n=>∃x,μ x=n∧Inv x a' w') ?_ ?_
 ·have hc:=(hs Bd (Nat.le_refl _)).can (Bd:=Bd) hH (n:=s.length) rfl
  have h1:=hc.st hst
  rw[srcs_len,hk]at h1
  exact⟨x0,_,h0,h1,Keep.rn (Keep.refl A w (ext_frz ι H _).fz (hst.rel.frzA _)),hagr hN,hc.ni⟩
 ·rintro a1 w1 ⟨x1,hx1⟩
  obtain⟨⟨x,hμ,ι1,hI,hst1,hk1,hag1,hni1⟩,hmin⟩:=leastN_spec (p:=fun n=>∃x,μ x=n∧Inv x a1 w1) ⟨x1,rfl,hx1⟩
  refine wp_mono (round Bd x (Nat.le_refl _) hI hst1.rel.hb (fun s' H' B'=>∃y,μ y<μ x∧I y∧s'.length=s.length∧CanT Bd ps s' H' (sl Bd y) H0 (ml Bd y)) (fun y s' H' B' q1 q2 q3 q4=>⟨y,q1,q2,q3,q4⟩) (Nat.le_refl _) A ι1 a1 w1 hst1) fun e a2 w2 ⟨ι2,s2,H2,Bd2,h1,h2,h3,h4,h5,h6⟩=> ?_
  have hag2:Agr N0 ι ι2:=fun n hn=>(h5 n (by omega)).trans (hag1 n hn)
  cases e with
  |normal=>
   obtain⟨y,hlt,hy,hl,hct⟩:=h1
   have hc:=hct.can (Bd:=Bd) hH hl
   have q1:=hc.st h3
   rw[srcs_len,hk]at q1
   have hinv:Inv y a2 w2:=⟨_,hy,q1,(hk1.trans h4).trans (Keep.rn (Keep.refl A w2 (ext_frz ι2 H2 _).fz (h3.rel.frzA _))),fun n hn=>(hagr hN n hn).trans (hag2 n hn),(hni1.trans h6).trans hc.ni⟩
   refine⟨⟨y,hinv⟩,?_⟩
   rw[←hμ]
   exact Nat.lt_of_le_of_lt ((leastN_spec (p:=fun n=>∃x,μ x=n∧Inv x a2 w2) ⟨y,rfl,hinv⟩).2 _ ⟨y,rfl,hinv⟩) hlt
  |_=>exact⟨ι2,s2,H2,Bd2,h1,by omega,h3,hk1.trans h4,hag2,hni1.trans h6⟩
variable {σ:List (Option Nat)} {N:Nat} {S:Nat→Prop} {H:AH}
@[go_sem] theorem mem_nil(H:AH):mem H []=H:=(rfl)
@[go_sem] theorem mem_cons(H:AH)(n:Nat)(b:Blk)(r:List (Nat×Blk)):mem H ((n,b)::r)=upd (mem H r) n (some b):=(rfl)
@[go_sem] theorem CanT_eq(ps:List Pth)(s:List Value)(H:AH)(l:List (Nat×Value))(H0:AH)(ml:List (Nat×Blk)):CanT N ps s H l H0 ml=(Le H0 H∧CanS N (srcs ps s H) s H l H0 ml):=(rfl)
@[go_sem] theorem CanS_c(σ:List (Option Nat))(o:Option Nat)(s:List Value)(H:AH)(l:List (Nat×Value))(H0:AH)(ml:List (Nat×Blk)):CanS N (o::σ) s H l H0 ml=(sgQ N H0 ml (o::σ)∧FitQ (o::σ) N (goneL H0 ml (o::σ)) H s l∧memQ (o::σ) N (goneL H0 ml (o::σ)) H ml):=(rfl)
@[go_sem] theorem CanS_n(s:List Value)(H:AH)(l:List (Nat×Value))(H0:AH)(ml:List (Nat×Blk)):CanS N [] s H l H0 ml=(FitQ [] N (goneL H0 ml []) H s l∧memQ [] N (goneL H0 ml []) H ml):=by simp[CanS,sgQ]
@[go_sem] theorem srcs_nil(s:List Value)(H:AH):srcs [] s H=[]:=(rfl)
@[go_sem] theorem srcs_s(t:Nat)(r:List Pth)(s:List Value)(H:AH):srcs (.s t::r) s H=nmV (sget s t)::srcs r s H:=(rfl)
@[go_sem] theorem srcs_m(n i:Nat)(r:List Pth)(s:List Value)(H:AH):srcs (.m n i::r) s H=nmV (cellV (H n) i)::srcs r s H:=(rfl)
@[go_sem] theorem nmV_sl(n o:Nat)(k:Option Nat)(l c:Nat):nmV (.slice (some ⟨n,o,k⟩) l c)=some n:=(rfl)
@[go_sem] theorem nmV_ptr(n o:Nat)(k:Option Nat):nmV (.pointer (some ⟨n,o,k⟩))=some n:=(rfl)
@[go_sem] theorem nmV_nil(l c:Nat):nmV (.slice none l c)=none:=(rfl)
@[go_sem] theorem cellV_0(x:Value)(r:List Value)(o:Bool):cellV (some ⟨x::r,o⟩) 0=x:=(rfl)
@[go_sem] theorem cellV_s(x:Value)(r:List Value)(o:Bool)(i:Nat):cellV (some ⟨x::r,o⟩) (i+1)=cellV (some ⟨r,o⟩) i:=(rfl)
@[go_sem] theorem FitQ_nil(s:List Value):FitQ σ N S H s []=True:=(rfl)
@[go_sem] theorem FitQ_cons(s:List Value)(i:Nat)(v:Value)(l:List (Nat×Value)):FitQ σ N S H s ((i,v)::l)=(RQ σ N S H v (sget s i)∧FitQ σ N S H s l):=(rfl)
@[go_sem] theorem memQ_nil:memQ σ N S H []=True:=(rfl)
@[go_sem] theorem memQ_cons(n:Nat)(b:Blk)(r:List (Nat×Blk)):memQ σ N S H ((n,b)::r)=(blkQ σ N S H n b∧memQ σ N S H r):=(rfl)
@[go_sem high] theorem blkQ_hi (i:Nat) (b:Blk):blkQ σ N S H (N+i) b=(b.own=true∧hiQ σ N S H b.cells σ[i]?):=by
 unfold blkQ
 rw[Nat.add_sub_cancel_left]
 exact propext ⟨fun h=>h.elim (fun h=>absurd h.1 (by omega)) fun h=>h.2,fun h=> .inr ⟨by omega,h⟩⟩
@[go_sem high] theorem blkQ_hi0 (b:Blk):blkQ σ N S H N b=(b.own=true∧hiQ σ N S H b.cells σ[0]?):=blkQ_hi 0 b
@[go_sem low] theorem blkQ_low {n:Nat} (h:n<N) (b:Blk):blkQ σ N S H n b=lowQ σ N S H b.own b.cells (H n):=by
 unfold blkQ
 exact propext ⟨fun q=>q.elim (fun q=>q.2) fun q=>absurd q.1 (by omega),fun q=> .inl ⟨h,q⟩⟩
@[go_sem] theorem lowQ_some(o o':Bool)(cs cs':List Value):lowQ σ N S H o cs (some ⟨cs',o'⟩)=(o'=o∧rql σ N S H cs cs'):=(rfl)
@[go_sem] theorem hiQ_m(cs:List Value)(m:Nat):hiQ σ N S H cs (some (some m))=lowQ σ N S H true cs (H m):=(rfl)
@[go_sem] theorem hiQ_n(cs:List Value):hiQ σ N S H cs (some none)=(cs=[]):=(rfl)
attribute [go_sem] List.getElem?_cons_zero List.getElem?_cons_succ
@[go_sem] theorem sgQ_nil(H0:AH)(ml:List (Nat×Blk)):sgQ N H0 ml []=True:=(rfl)
@[go_sem] theorem sgQ_none(H0:AH)(ml:List (Nat×Blk))(r:List (Option Nat)):sgQ N H0 ml (none::r)=sgQ N H0 ml r:=(rfl)
@[go_sem] theorem sgQ_lo(H0:AH)(ml:List (Nat×Blk))(m:Nat)(r:List (Option Nat)):sgQ N H0 ml (some m::r)=((N≤m∨(free H0 m∧ninM m ml))∧ntin m r∧sgQ N H0 ml r):=(rfl)
@[go_sem] theorem ntin_nil(n:Nat):ntin n []=True:=(rfl)
@[go_sem] theorem ntin_some(n m:Nat)(r:List (Option Nat)):ntin n (some m::r)=(m≠n∧ntin n r):=(rfl)
@[go_sem] theorem ntin_none(n:Nat)(r:List (Option Nat)):ntin n (none::r)=ntin n r:=(rfl)
@[go_sem] theorem ninM_nil(n:Nat):ninM n []=True:=(rfl)
@[go_sem] theorem ninM_cons(n m:Nat)(b:Blk)(r:List (Nat×Blk)):ninM n ((m,b)::r)=(m≠n∧ninM n r):=(rfl)
@[go_sem] theorem goneL_eq(H0:AH)(ml:List (Nat×Blk))(n:Nat):goneL H0 ml σ n=(free H0 n∧ninM n ml∧ntin n σ):=(rfl)
@[go_sem] theorem pr_eta{α β:Type}(p:α×β):(p.1,p.2)=p:=(rfl)
theorem rq_inv{v u:Value}(hv:∀ {k:Nat} {rows:Array Value},v≠ .func (.yield k) #[] rows)(h1:∀xs,v≠ .agg xs)(h2:∀xs,v≠ .tuple xs)(h3:∀n o k l c,v≠ .slice (some ⟨n,o,some k⟩) l c)(h4:∀n o,N≤n→v≠ .pointer (some ⟨n,o,none⟩))(h:RQ σ N S H v u):v=u:=by
 cases h with
 |same h=>rfl
 |pub hp h=>cases hp with
  |same=>rfl
  |agg=>exact absurd rfl (h1 _)
  |tuple=>exact absurd rfl (h2 _)
  |empty=>exact absurd rfl hv
  |lst=>exact absurd rfl hv
 |sl=>exact absurd rfl (h3 _ _ _ _ _)
 |ptr=>exact absurd rfl (h4 _ _ (Nat.le_add_right _ _))
 |nil=>exact absurd rfl (h3 _ _ _ _ _)
 |agg=>exact absurd rfl (h1 _)
 |tuple=>exact absurd rfl (h2 _)
@[go_sem] theorem rq_int(k q:IntKind)(a b:Int):RQ σ N S H (.int k a) (.int q b)=(k=q∧a=b):=
 propext ⟨fun h=>by have:=rq_inv (by simp) (by simp) (by simp) (by simp) (by simp) h;simpa using this,fun⟨h1,h2⟩=>by subst h1;subst h2;exact .same (.int _ _)⟩
@[go_sem] theorem rq_bool(a b:Bool):RQ σ N S H (.bool a) (.bool b)=(a=b):=
 propext ⟨fun h=>by have:=rq_inv (by simp) (by simp) (by simp) (by simp) (by simp) h;simpa using this,fun h=>by subst h;exact .same (.bool _)⟩
@[go_sem] theorem rq_ptr{n:Nat}(h:n<N)(o m p:Nat):RQ σ N S H (.pointer (some ⟨n,o,none⟩)) (.pointer (some ⟨m,p,none⟩))=(m=n∧p=o):=
 propext ⟨fun h=>by have:=rq_inv (by simp) (by simp) (by simp) (by simp) (fun a b hab e=>by simp only[Value.pointer.injEq,Option.some.injEq,Addr.mk.injEq,and_true]at e;omega) h;simp only[Value.pointer.injEq,Option.some.injEq,Addr.mk.injEq,and_true]at this;exact⟨this.1.symm,this.2.symm⟩,fun⟨h1,h2⟩=>by subst h1;subst h2;exact .same (.ptr h)⟩
@[go_sem] theorem rq_ptrN{i o m p:Nat}:RQ σ N S H (.pointer (some ⟨N+i,o,none⟩)) (.pointer (some ⟨m,p,none⟩))=(σ[i]? =some (some m)∧p=o):=by
 refine propext ⟨fun h=> ?_,fun⟨h1,h2⟩=>by subst h2;exact .ptr h1⟩
 generalize hv:Value.pointer (some ⟨N+i,o,none⟩)=v at h
 generalize hu:Value.pointer (some ⟨m,p,none⟩)=u at h
 cases h with
 |same h=>
  subst hv
  cases h with
  |ptr h=>omega
 |pub hp h=>
  subst hv
  cases h with
  |ptr h=>omega
 |ptr h=>
  simp only[Value.pointer.injEq,Option.some.injEq,Addr.mk.injEq,and_true]at hv hu
  obtain⟨h1,rfl⟩:=hv
  obtain⟨rfl,rfl⟩:=hu
  obtain rfl:i=_:=Nat.add_left_cancel h1
  exact⟨h,rfl⟩
 |_=>cases hv
@[go_sem] theorem rq_ptrN0{o m p:Nat}:RQ σ N S H (.pointer (some ⟨N,o,none⟩)) (.pointer (some ⟨m,p,none⟩))=(σ[0]? =some (some m)∧p=o):=rq_ptrN (i:=0)
@[go_sem] theorem rq_tuple(xs ys:List Value):RQ σ N S H (.tuple xs.toArray) (.tuple ys.toArray)=rql σ N S H xs ys:=by
 refine propext ⟨fun h=> ?_,fun⟨h1,h2⟩=> .tuple (by simpa using h1) fun i v u a b=>h2 i v u (by simpa using a) (by simpa using b)⟩
 generalize hv:Value.tuple xs.toArray=v at h
 generalize hu:Value.tuple ys.toArray=u at h
 cases h with
 |same h=>
  subst hv
  simp only[Value.tuple.injEq,toArr_inj]at hu
  subst hu
  cases h with
  |tuple h=>exact⟨rfl,fun i v u a b=>by rw[a]at b;cases b;exact .same (h i v (by simpa using a))⟩
 |pub hp h=>
  subst hv;subst hu
  cases h with
  |tuple h=>
   generalize hv:Value.tuple xs.toArray=v at hp
   generalize hu:Value.tuple ys.toArray=u at hp
   cases hp with
   |same=>
    subst hv
    simp only[Value.tuple.injEq,toArr_inj]at hu
    subst hu
    exact⟨rfl,fun i v u a b=>by rw[a]at b;cases b;exact .same (h i v (by simpa using a))⟩
   |tuple hs h2=>
    cases hv;cases hu
    exact⟨by simpa using hs.symm,fun i v u a b=> .pub (h2 i u v (by simpa using b) (by simpa using a)) (h i v (by simpa using a))⟩
   |agg=>cases hv
   |empty=>cases hv
   |lst=>cases hv
 |tuple hs h=>
  cases hv;cases hu
  exact⟨by simpa using hs,fun i v u a b=>h i v u (by simpa using a) (by simpa using b)⟩
 |_=>cases hv
theorem rq_nb{B0:Nat}{v:Value}(h:NB B0 v)(hle:B0≤N):RQ σ N S H v v=True:=eq_true (.same (h.up hle))
@[go_sem] theorem rq_nils:RQ σ N S H (.slice none 0 0) (.slice none 0 0)=True:=eq_true (.same .nils)
section
variable {α:Type} [Enc α]
@[go_sem] theorem rq_lst(xs ys:List α):RQ σ N S H (lst xs) (lst ys)=(xs=ys):=by
 refine propext ⟨fun h=> ?_,fun h=>by subst h;exact .same (lst_nb _ _)⟩
 have:lst xs=lst ys:=by
  unfold lst LST at h ⊢
  generalize hv:Value.func (.yield (Enc.k α)) #[] _=v at h ⊢
  generalize hu:Value.func (.yield (Enc.k α)) #[] _=u at h ⊢
  cases h with
  |same h=>rfl
  |pub hp h=>subst hu;cases hp with
   |same=>rfl
   |_=>cases hv
  |_=>cases hv
 exact lst_inj.mp this
@[go_sem] theorem rq_lnil(xs:List α):RQ σ N S H (lst xs) (.slice none 0 0)=(xs=[]):=by
 refine propext ⟨fun h=> ?_,fun h=>by subst h;exact .pub .empty (lst_nb _ _)⟩
 unfold lst LST at h
 generalize hv:Value.func (.yield (Enc.k α)) #[] _=v at h
 cases h with
 |same h=>cases hv
 |pub hp h=>cases hp with
  |same=>cases hv
  |empty=>
   simp only[Value.func.injEq]at hv
   have:=hv.2.2
   simpa using this
 |_=>cases hv
theorem rq_pubI{m c k len:Nat}{cells:List Value}{xs:List α}[hk:EncK α k](hb:H m=some ⟨cells,true⟩)(hc:cells=flat xs)(hS:S m)(hl:len=xs.length):RQ σ N S H (lst xs) (.slice (some ⟨m,0,some k⟩) len c):=
 .pub (pub_whole (by rw[hb,hc]) hS hk.h hl) (lst_nb _ _)
@[go_sem] theorem rq_pub{m c k len:Nat}{xs:List α}[hk:EncK α k](hb:H m=some ⟨flat xs,true⟩)(hS:S m)(hl:len=xs.length):RQ σ N S H (lst xs) (.slice (some ⟨m,0,some k⟩) len c)=True:=eq_true (rq_pubI hb rfl hS hl)
end
theorem rq_slI{n o k l c m p q l' c':Nat}(hn:N≤n):RQ σ N S H (.slice (some ⟨n,o,some k⟩) l c) (.slice (some ⟨m,p,some q⟩) l' c')=(σ[n-N]? =some (some m)∧p=o∧q=k∧l'=l∧c=l+1):=by
 refine propext ⟨fun h=> ?_,fun⟨h1,h2,h3,h4,h5⟩=> ?_⟩
 ·generalize hv:Value.slice (some ⟨n,o,some k⟩) l c=v at h
  generalize hu:Value.slice (some ⟨m,p,some q⟩) l' c'=u at h
  cases h with
  |same h=>
   subst hv
   cases h with
   |sl h=>omega
  |pub hp h=>
   subst hv
   cases h with
   |sl h=>omega
  |sl h=>
   simp only[Value.slice.injEq,Option.some.injEq,Addr.mk.injEq]at hv hu
   obtain⟨⟨rfl,rfl,rfl⟩,rfl,rfl⟩:=hv
   obtain⟨⟨rfl,rfl,rfl⟩,rfl,rfl⟩:=hu
   rw[Nat.add_sub_cancel_left]
   exact⟨h,rfl,rfl,rfl,rfl⟩
  |nil h=>cases hu
  |ptr=>cases hv
  |agg=>cases hv
  |tuple=>cases hv
 ·subst h2;subst h3;subst h4;subst h5
  have e:n=N+(n-N):=by omega
  rw[e]
  exact .sl h1
@[go_sem] theorem rq_sl{i o k l c m p q l' c':Nat}:RQ σ N S H (.slice (some ⟨N+i,o,some k⟩) l c) (.slice (some ⟨m,p,some q⟩) l' c')=(σ[i]? =some (some m)∧p=o∧q=k∧l'=l∧c=l+1):=by
 rw[rq_slI (by omega),Nat.add_sub_cancel_left]
@[go_sem] theorem rq_sl0{o k l c m p q l' c':Nat}:RQ σ N S H (.slice (some ⟨N,o,some k⟩) l c) (.slice (some ⟨m,p,some q⟩) l' c')=(σ[0]? =some (some m)∧p=o∧q=k∧l'=l∧c=l+1):=rq_sl (i:=0)
theorem rq_sln{i k l c:Nat}:RQ σ N S H (.slice (some ⟨N+i,0,some k⟩) l c) (.slice none 0 0)=(σ[i]? =some none∧l=0∧c=1):=by
 refine propext ⟨fun h=> ?_,fun⟨h1,h2,h3⟩=>by subst h2;subst h3;exact .nil h1⟩
 generalize hv:Value.slice (some ⟨N+i,0,some k⟩) l c=v at h
 generalize hu:Value.slice none 0 0=u at h
 cases h with
 |same h=>subst hv;cases hu
 |pub hp h=>subst hv;cases h with|sl h=>omega
 |sl h=>cases hu
 |nil h=>
  simp only[Value.slice.injEq,Option.some.injEq,Addr.mk.injEq]at hv
  obtain⟨⟨h1,_,_⟩,rfl,rfl⟩:=hv
  obtain rfl:i=_:=Nat.add_left_cancel h1
  exact⟨h,rfl,rfl⟩
 |ptr=>cases hv
 |agg=>cases hv
 |tuple=>cases hv
@[go_sem] theorem rq_slN{i k l c:Nat}:RQ σ N S H (.slice (some ⟨N+i,0,some k⟩) l c) (.slice none 0 0)=(σ[i]? =some none∧l=0∧c=1):=rq_sln
@[go_sem] theorem rq_slN0{k l c:Nat}:RQ σ N S H (.slice (some ⟨N,0,some k⟩) l c) (.slice none 0 0)=(σ[0]? =some none∧l=0∧c=1):=rq_sln (i:=0)
@[go_sem] theorem rql_nil:rql σ N S H [] []=True:=eq_true ⟨rfl,fun i v u h=>by simp at h⟩
@[go_sem] theorem rql_cons(x y:Value)(xs ys:List Value):rql σ N S H (x::xs) (y::ys)=(RQ σ N S H x y∧rql σ N S H xs ys):=by
 refine propext ⟨fun⟨h1,h2⟩=>⟨h2 0 x y rfl rfl,by simpa using h1,fun i v u a b=>h2 (i+1) v u (by simpa using a) (by simpa using b)⟩,fun⟨h1,h2,h3⟩=>⟨by simp[h2],fun i v u a b=> ?_⟩⟩
 cases i with
 |zero=>cases a;cases b;exact h1
 |succ i=>exact h3 i v u (by simpa using a) (by simpa using b)
theorem rql_flat{α:Type}[Enc α]{xs ys:List α}(h:xs=ys):rql σ N S H (flat xs) (flat ys):=by
 subst h
 exact⟨rfl,fun i v u a b=>by rw[a]at b;cases b;exact .same (flat_nb N xs v (List.mem_of_getElem? a))⟩
theorem rql_app{a b c d:List Value}(h:rql σ N S H a b)(k:rql σ N S H c d):rql σ N S H (a++c) (b++d):=by
 refine⟨by simp[h.1,k.1],fun i v u q1 q2=> ?_⟩
 rw[List.getElem?_append]at q1 q2
 by_cases hi:i<a.length
 ·rw[if_pos hi]at q1;rw[if_pos (by rw[←h.1];exact hi)]at q2;exact h.2 i v u q1 q2
 ·rw[if_neg hi]at q1;rw[if_neg (by rw[←h.1];exact hi),←h.1]at q2;exact k.2 _ v u q1 q2
@[go_sem] theorem rql_flat_eq{α:Type}[Enc α](xs:List α):rql σ N S H (flat xs) (flat xs)=True:=eq_true (rql_flat rfl)
@[go_sem] theorem rql_flat_app{α:Type}[Enc α](xs:List α)(c d:List Value):rql σ N S H (flat xs++c) (flat xs++d)=rql σ N S H c d:=by
 refine propext ⟨fun h=>⟨by have:=h.1;simpa using this,fun i v u a b=> ?_⟩,fun h=>rql_app (rql_flat rfl) h⟩
 refine h.2 ((flat xs).length+i) v u ?_ ?_
 ·rw[List.getElem?_append_right (by omega),Nat.add_sub_cancel_left];exact a
 ·rw[List.getElem?_append_right (by omega),Nat.add_sub_cancel_left];exact b
theorem Tr.to{P:Program}{N0:Nat}{c:Code}{Q:APost}{s:List Value}{H H0:AH}{B0 Bd:Nat}(hb:HB H0 B0)(hB0:B0≤Bd)(k:Nat)(ps:List Pth)(hk:ps.length=k)(sl:Nat→List (Nat×Value))(ml:Nat→List (Nat×Blk))
  (hs:∀N,Bd≤N→CanT N ps s H (sl N) H0 (ml N)) (h:∀N,Bd≤N→HB (mem H0 (ml N)) (N+k)→Tr P N0 c Q (aS s.length unk (sl N)) (mem H0 (ml N)) (N+k)):Tr P N0 c Q s H Bd:=by
 intro hN A ι a w hst
 have hH:∀n b,H0 n=some b→n<Bd∧∀v∈b.cells,NB Bd v:=fun n b hn=>⟨Nat.lt_of_lt_of_le (hb_in hb hn) hB0,fun v hv=>(hb.nb n b hn v hv).up hB0⟩
 have hc:=(hs Bd (Nat.le_refl _)).can (Bd:=Bd) hH (n:=s.length) rfl
 have h1:=hc.st hst
 have h2:=h Bd (Nat.le_refl _) (by have:=h1.rel.hb;rw[srcs_len,hk]at this;exact this)
 exact Can.tr hN hc (by rw[srcs_len,hk];exact h2) hN A ι a w hst
theorem canew{P:Program}{f:FuncId}{args:List Value}{H:AH}{Bd:Nat}{post:Value→AH→Nat→Prop}
  (h:SCalls P f args H Bd fun r H' _=>∃σ C r0,Can Bd σ [r] H' [r0] C∧r0≠unk∧post r0 C (Bd+σ.length)):SCalls P f args H Bd post:=by
 refine⟨h.1,fun A ι vs w hr hs=> ?_⟩
 refine(h.2 A ι vs w hr hs).mono fun e w' ⟨v,r,ι',H',Bd',he,⟨σ,C,r0,hc,hu,hK⟩,hB,hrel,hvr,hkp,hag,hni⟩=> ?_
 refine⟨v,r0,rnR (frz ι' H' (gone C σ)) Bd σ,C,Bd+σ.length,he,hK,Nat.le_add_right _ _,hc.rel hrel,?_,hkp.trans (Keep.rn (Keep.refl A w' (ext_frz ι' H' _).fz (hrel.frzA _))),fun n hn=>(rnR_lt hn).trans (hag n hn),hni.trans hc.ni⟩
 rcases hc.slot 0 r0 r rfl rfl with h|hp
 ·exact absurd h hu
 ·exact VR.rq hrel hp hvr
def CanW(N:Nat)(σ:List (Option Nat))(v:Value)(H:AH)(r0:Value)(G:AH)(ml:List (Nat×Blk)):Prop:=sgQ N G ml σ∧RQ σ N (goneL G ml σ) H r0 v∧memQ σ N (goneL G ml σ) H ml
def CanV(N:Nat)(ps:List Pth)(v:Value)(s:List Value)(H:AH)(r0:Value)(G:AH)(ml:List (Nat×Blk)):Prop:=Le G H∧CanW N (srcs ps s H) v H r0 G ml
theorem CanV.can{N:Nat}{ps:List Pth}{v:Value}{s:List Value}{H:AH}{r0:Value}{G:AH}{ml:List (Nat×Blk)}(hH:∀n b,G n=some b→n<N∧∀v∈b.cells,NB N v)(h:CanV N ps v s H r0 G ml):Can N (srcs ps s H) [v] H [r0] (mem G ml):=by
 obtain⟨hle,h1,h2,h3⟩:=h
 obtain⟨g1,g2⟩:=sgQ_spec h1
 have hm:∀ {v u},RQ (srcs ps s H) N (goneL G ml (srcs ps s H)) H v u→RQ (srcs ps s H) N (gone (mem G ml) (srcs ps s H)) H v u:=fun hq=>hq.mono fun _=>goneL_spec
 have hml:∀ {xs ys},rql (srcs ps s H) N (goneL G ml (srcs ps s H)) H xs ys→rql (srcs ps s H) N (gone (mem G ml) (srcs ps s H)) H xs ys:=fun hq=>⟨hq.1,fun i v u a b=>hm (hq.2 i v u a b)⟩
 have hlow:∀ {o cs b},lowQ (srcs ps s H) N (goneL G ml (srcs ps s H)) H o cs b→∃b',b=some b'∧b'.own=o∧rql (srcs ps s H) N (gone (mem G ml) (srcs ps s H)) H cs b'.cells:=fun{o cs b} hq=>by
  cases b with
  |none=>exact hq.elim
  |some b=>exact⟨b,rfl,hq.1,hml hq.2⟩
 refine⟨rfl,fun i v' u e1 e2=> ?_,fun k b hk hb=> ?_,fun k b hk hb=> ?_,g1,g2⟩
 ·cases i with
  |zero=>cases e1;cases e2;exact .inr (hm h2)
  |succ i=>simp at e1
 ·rcases memQ_get h3 k b hb with h0|hq
  ·exact⟨b,hle k b h0,rfl,rfl,fun i v u e1 e2=>by rw[e1]at e2;cases e2;exact .same ((hH k b h0).2 v (List.mem_of_getElem? e1))⟩
  ·rcases hq with⟨_,hq⟩|⟨hge,_⟩
   ·obtain⟨b',a1,a2,a3⟩:=hlow hq
    exact⟨b',a1,a2,a3⟩
   ·omega
 ·rcases memQ_get h3 k b hb with h0|hq
  ·exact absurd (hH k b h0).1 (by omega)
  ·rcases hq with⟨hlt,_⟩|⟨_,ho,hq⟩
   ·omega
   ·refine⟨ho,?_⟩
    unfold hiQ at hq
    split at hq
    ·rename_i m hs
     obtain⟨b',a1,a2,a3⟩:=hlow hq
     exact .inr ⟨m,b',hs,a1,a2,a3⟩
    ·rename_i hs
     exact .inl ⟨hs,hq⟩
    ·exact hq.elim
def CanQ(P:Program)(rs:List ResultVar)(N:Nat)(G:AH)(ps:List Pth)(r0:Value)(ml:List (Nat×Blk))(s:List Value)(H:AH)(Bd:Nat):Prop:=
 Yld (aresults P rs s H) fun vs=>CanV N ps (tupleOf vs) s H r0 G ml
def canQ(P:Program)(rs:List ResultVar)(N:Nat)(G:AH)(ps:List Pth)(r0:Value)(ml:List (Nat×Blk)):APost
 | .normal=>CanQ P rs N G ps r0 ml
 | .ret=>CanQ P rs N G ps r0 ml
 |_=>fun _ _ _=>False
section
variable {P:Program} {s:List Value} {H:AH} {Bd:Nat}
@[go_sem ↓] theorem canQ_ret (rs:List ResultVar) (N:Nat) (G:AH) (ps:List Pth) (r0:Value) (ml:List (Nat×Blk)):canQ P rs N G ps r0 ml .ret=CanQ P rs N G ps r0 ml:=(rfl)
@[go_sem ↓] theorem CanQ_eq (rs:List ResultVar) (N:Nat) (G:AH) (ps:List Pth) (r0:Value) (ml:List (Nat×Blk)):CanQ P rs N G ps r0 ml s H Bd=Yld (aresults P rs s H) fun vs=>CanV N ps (tupleOf vs) s H r0 G ml:=(rfl)
@[go_sem] theorem CanV_eq(N:Nat)(G:AH)(ps:List Pth)(v r0:Value)(ml:List (Nat×Blk)):CanV N ps v s H r0 G ml=(Le G H∧CanW N (srcs ps s H) v H r0 G ml):=(rfl)
@[go_sem] theorem CanW_c(N:Nat)(o:Option Nat)(σ:List (Option Nat))(G:AH)(v r0:Value)(ml:List (Nat×Blk)):CanW N (o::σ) v H r0 G ml=(sgQ N G ml (o::σ)∧RQ (o::σ) N (goneL G ml (o::σ)) H r0 v∧memQ (o::σ) N (goneL G ml (o::σ)) H ml):=(rfl)
end
theorem fn_can{P:Program}(hP:POk P)(E:Env P)(PL:List (Nat×List Nat×List Stp×JT)){f:FuncId}{fn:Func}{c:Code}{args:List Value}{H:AH}{Bd:Nat}{K:Value→AH→Nat→Prop}(G:AH)(ps:List Pth)(r0:Value)(ml:List (Nat×Blk))(hK:K r0 (mem G ml) (Bd+ps.length))(hu:r0≠unk)
  (hG:HB H Bd→HB G Bd) (hf:P.funcs[f]? =some fn) (hb:fn.body=some c) {rs:List ResultVar} (hrs:fn.results.toList=rs) {m:Nat} (hm:fn.ntmps=m) (hm2:args.length≤m) (hent:Enters P f) (hp:plansOK PL c=true)
  (h:HB H Bd→HB G Bd→(∀v∈args,NB Bd v)→vq E PL Bd c (canQ P rs Bd G ps r0 ml) (aS m undef (idx 0 args)) H Bd):SCalls P f args H Bd K:=by
 refine SCalls.of_hb hent fun hH=>canew ?_
 have hg:=hG hH
 subst hm
 rw[←start_aS args _ hm2]at h
 refine scalls_of_tr hf hb hrs hent fun hh ha=>(vq_sound hP PL c _ _ H Bd hp (h hh hg ha)).conv fun e s' H' Bd' hle hq=> ?_
 have key:CanQ P rs Bd G ps r0 ml s' H' Bd'→RetQ P rs H Bd (fun r H' _=>∃σ C r0,Can Bd σ [r] H' [r0] C∧r0≠unk∧K r0 C (Bd+σ.length)) s' H' Bd':=fun⟨vs,h1,h2⟩=>by
  refine⟨vs,h1,tupleOf vs,fun _=>False,H',Bd', .same _,fun _ _ _ h=>h,Le.refl _,hle, .inl ⟨Nat.le_refl _,fun hb2 _=>⟨srcs ps s' H',mem G ml,r0,h2.can fun n b hn=>⟨hb_in hg hn,hg.nb n b hn⟩,hu,by rw[srcs_len];exact hK⟩⟩⟩
 cases e with
 |normal=>exact key hq
 |ret=>exact key hq
 |_=>exact hq.elim
theorem out1{H:AH}{n:Nat}{b:Blk}(hn:H n=some b):∃G,H=upd G n (some b)∧free G n∧upd H n none=G∧∀Bd,HB H Bd→HB G Bd:=by
 refine⟨upd H n none,?_,upd_same _ _ _,rfl,fun Bd h=>⟨fun m hm=> ?_,fun m c hm v hv=> ?_⟩⟩
 ·funext q;unfold upd;split
  ·rename_i e;subst e;exact hn
  ·rfl
 ·unfold upd;split
  ·rfl
  ·exact h.fresh m hm
 ·unfold upd at hm;split at hm
  ·cases hm
  ·exact h.nb m c hm v hv
theorem out2{H:AH}{n m:Nat}{b c:Blk}(hn:H n=some b)(hm:H m=some c)(hd:n≠m):∃G,H=upd (upd G n (some b)) m (some c)∧(free G n∧free G m)∧upd (upd H n none) m none=G∧∀Bd,HB H Bd→HB G Bd:=by
 obtain⟨G1,e1,f1,g1,h1⟩:=out1 hn
 have hm1:G1 m=some c:=by rw[←g1,upd_other _ _ (fun e=>hd e.symm)];exact hm
 obtain⟨G,e2,f2,g2,h2⟩:=out1 hm1
 refine⟨G,?_,⟨?_,f2⟩,by rw[g1];exact g2,fun Bd h=>h2 Bd (h1 Bd h)⟩
 ·rw[e1,e2];exact upd_comm (fun e=>hd e.symm)
 ·have:G n=none:=by rw[←g2,upd_other _ _ hd];exact f1
  exact this
theorem SCalls.to{P:Program}{f:FuncId}{args args':List Value}{H C:AH}{Bd:Nat}{σ:List (Option Nat)}{K:Value→AH→Nat→Prop}(hc:Can Bd σ args H args' C)(h:SCalls P f args' C (Bd+σ.length) K):SCalls P f args H Bd K:=by
 refine⟨h.1,fun A ι vs w hr hs=> ?_⟩
 have hs':SR (rnR (frz ι H (gone C σ)) Bd σ) w args' vs:=by
  refine⟨by rw[←hc.len];exact hs.1,fun i v v' g1 g2=> ?_⟩
  have hlt:i<args.length:=by have:=(List.getElem?_eq_some_iff.1 g1).1;have:=hc.len;omega
  rcases hc.slot i v args[i] g1 (List.getElem?_eq_getElem hlt)with rfl|hp
  ·exact .unk _
  ·exact VR.rq hr hp (hs.2 i _ v' (List.getElem?_eq_getElem hlt) g2)
 refine(h.2 A _ vs w (hc.rel hr) hs').mono fun e w' ⟨v,r,ι',H',Bd',he,hK,hB,hrel,hvr,hkp,hag,hni⟩=> ?_
 refine⟨v,r,ι',H',Bd',he,hK,by omega,hrel,hvr,(Keep.rn (Keep.refl A w (ext_frz ι H _).fz (hr.frzA _))).trans hkp,fun n hn=> ?_,NI.trans hc.ni hni⟩
 rw[hag n (by omega),rnR_lt hn];rfl
def ToC(W:Trans):Trans:=fun args H Bd K=>∃σ args' C,Can Bd σ args H args' C∧W args' C (Bd+σ.length) K
theorem ToC_ok{P:Program}{f:FuncId}{W:Trans}(h:∀args H Bd K,W args H Bd K→SCalls P f args H Bd K):∀args H Bd K,ToC W args H Bd K→SCalls P f args H Bd K:=fun args H Bd K ⟨σ,args',C,hc,hw⟩=>SCalls.to hc (h _ _ _ _ hw)
def CanA(N:Nat)(ps:List Pth)(args args':List Value)(H H0:AH)(ml:List (Nat×Blk)):Prop:=Le H0 H∧CanB N (srcs ps args H) args args' H H0 ml
where
 CanB (N:Nat) (σ:List (Option Nat)) (args args':List Value) (H H0:AH) (ml:List (Nat×Blk)):Prop:=sgQ N H0 ml σ∧rql σ N (goneL H0 ml σ) H args' args∧memQ σ N (goneL H0 ml σ) H ml
@[go_sem] theorem CanA_eq(N:Nat)(ps:List Pth)(args args':List Value)(H H0:AH)(ml:List (Nat×Blk)):CanA N ps args args' H H0 ml=(Le H0 H∧CanA.CanB N (srcs ps args H) args args' H H0 ml):=(rfl)
@[go_sem] theorem CanB_c(N:Nat)(o:Option Nat)(σ:List (Option Nat))(args args':List Value)(H H0:AH)(ml:List (Nat×Blk)):CanA.CanB N (o::σ) args args' H H0 ml=(sgQ N H0 ml (o::σ)∧rql (o::σ) N (goneL H0 ml (o::σ)) H args' args∧memQ (o::σ) N (goneL H0 ml (o::σ)) H ml):=(rfl)
theorem toC{W:Trans}{args args':List Value}{H H0:AH}{B0 Bd:Nat}{K:Value→AH→Nat→Prop}(hb:HB H0 B0)(hB0:B0≤Bd)(k:Nat)(ps:List Pth)(hk:ps.length=k)(ml:List (Nat×Blk))(hs:CanA Bd ps args args' H H0 ml)(h:W args' (mem H0 ml) (Bd+k) K):ToC W args H Bd K:=by
 have hH:∀n b,H0 n=some b→n<Bd∧∀v∈b.cells,NB Bd v:=fun n b hn=>⟨Nat.lt_of_lt_of_le (hb_in hb hn) hB0,fun v hv=>(hb.nb n b hn v hv).up hB0⟩
 obtain⟨hle,h1,h2,h3⟩:=hs
 refine⟨srcs ps args H,args',mem H0 ml,?_,by rw[srcs_len,hk];exact h⟩
 obtain⟨g1,g2⟩:=sgQ_spec h1
 have hm:∀ {v u},RQ (srcs ps args H) Bd (goneL H0 ml (srcs ps args H)) H v u→RQ (srcs ps args H) Bd (gone (mem H0 ml) (srcs ps args H)) H v u:=fun hq=>hq.mono fun _=>goneL_spec
 have hml:∀ {xs ys},rql (srcs ps args H) Bd (goneL H0 ml (srcs ps args H)) H xs ys→rql (srcs ps args H) Bd (gone (mem H0 ml) (srcs ps args H)) H xs ys:=fun hq=>⟨hq.1,fun i v u a b=>hm (hq.2 i v u a b)⟩
 have hlow:∀ {o cs b},lowQ (srcs ps args H) Bd (goneL H0 ml (srcs ps args H)) H o cs b→∃b',b=some b'∧b'.own=o∧rql (srcs ps args H) Bd (gone (mem H0 ml) (srcs ps args H)) H cs b'.cells:=fun{o cs b} hq=>by
  cases b with
  |none=>exact hq.elim
  |some b=>exact⟨b,rfl,hq.1,hml hq.2⟩
 refine⟨h2.1.symm,fun i v u e1 e2=> .inr (hm (h2.2 i v u e1 e2)),fun k b hk hb=> ?_,fun k b hk hb=> ?_,g1,g2⟩
 ·rcases memQ_get h3 k b hb with h0|hq
  ·exact⟨b,hle k b h0,rfl,rfl,fun i v u e1 e2=>by rw[e1]at e2;cases e2;exact .same ((hH k b h0).2 v (List.mem_of_getElem? e1))⟩
  ·rcases hq with⟨_,hq⟩|⟨hge,_⟩
   ·obtain⟨b',a1,a2,a3⟩:=hlow hq
    exact⟨b',a1,a2,a3⟩
   ·omega
 ·rcases memQ_get h3 k b hb with h0|hq
  ·exact absurd (hH k b h0).1 (by omega)
  ·rcases hq with⟨hlt,_⟩|⟨_,ho,hq⟩
   ·omega
   ·refine⟨ho,?_⟩
    unfold hiQ at hq
    split at hq
    ·rename_i m hs
     obtain⟨b',a1,a2,a3⟩:=hlow hq
     exact .inr ⟨m,b',hs,a1,a2,a3⟩
    ·rename_i hs
     exact .inl ⟨hs,hq⟩
    ·exact hq.elim
section
variable {σ:List (Option Nat)} {S:Nat→Prop} {H:AH}
@[go_sem high] theorem blkQ_hiK {B k j:Nat} (h:k≤j) (b:Blk):blkQ σ (B+k) S H (B+j) b=(b.own=true∧hiQ σ (B+k) S H b.cells σ[j-k]?):=by
 have:=blkQ_hi (N:=B+k) (σ:=σ) (S:=S) (H:=H) (j-k) b
 rw[show B+k+(j-k)=B+j by omega]at this;exact this
@[go_sem] theorem rq_slNK{B n j k l c:Nat}(h:n≤j):RQ σ (B+n) S H (.slice (some ⟨B+j,0,some k⟩) l c) (.slice none 0 0)=(σ[j-n]? =some none∧l=0∧c=1):=by
 have:=rq_sln (N:=B+n) (σ:=σ) (S:=S) (H:=H) (i:=j-n) (k:=k) (l:=l) (c:=c)
 rw[show B+n+(j-n)=B+j by omega]at this;exact this
end
section
variable {σ:List (Option Nat)} {N:Nat} {S:Nat→Prop} {H:AH}
@[go_sem] theorem rq_two{m c:Nat}{a b:Int}(hb:H m=some ⟨[.int .i64 a, .int .i64 b],true⟩)(hS:S m):RQ σ N S H (lst [a,b]) (.slice (some ⟨m,0,some 1⟩) 2 c)=True:=
 eq_true (rq_pubI (k:=1) (xs:=[a,b]) hb (by simp[flat,enc_int]) hS rfl)
end
attribute [go_sem] flat_ok
end Go.SC
