/- Code with its drawn regions' plans, and how conditions over it are worked out. -/
import Derived.Test.YtogofkjpbpgneaaGreatDoorFmCore2
import Derived.Lib.ItoaNum
import Derived.Lib.LaidTab
import Derived.Sort.Grow
import Derived.WalkSmall
import Derived.Below
import Derived.Lib.Join
import Derived.Lib.SlTrimSet
import Derived.StillTail
import Derived.Lib.Bytealg
import Derived.Lib.RowBridge
import Derived.Lib.SplitLaws
import Derived.Shelf.SlicesE.DeleteFunc
import Derived.Shelf.SlicesE.Clone
set_option linter.unusedSimpArgs false
set_option linter.unusedVariables false
namespace Go.SC
open Go
def memN:List Nat->Nat->Bool
 |[],_=>false
 |j::l,i=>if i=j then true else memN l i
theorem memN_eq(l:List Nat)(i:Nat):l.contains i=memN l i:=by
 induction l with
 |nil=>rfl
 |cons j l ih=>
  simp only[memN,List.contains_cons,ih]
  by_cases h:i=j <;>simp[h]
def selA(act:List Nat)(pend:List (Nat×List Value)):List (Nat×List Value):=pend.filter fun p=>act.contains p.1
def dropA(act:List Nat)(pend:List (Nat×List Value)):List (Nat×List Value):=pend.filter fun p=> !act.contains p.1
def addW(i:Nat)(op:Op)(s:List Value)(v:Value)(wt:List (Nat×Op×List Value×Value)):List (Nat×Op×List Value×Value):=if kL op=true then(i,op,s,v)::wt else wt
@[push_cast] theorem memN_nil(i:Nat):memN [] i=false:=(rfl)
@[push_cast] theorem memN_cons(j:Nat)(l:List Nat)(i:Nat):memN (j::l) i=if i=j then true else memN l i:=(rfl)
@[push_cast] theorem selA_nil(act:List Nat):selA act []=[]:=(rfl)
@[push_cast] theorem selA_cons(act:List Nat)(i:Nat)(c:List Value)(r:List (Nat×List Value)):selA act ((i,c)::r)=if memN act i=true then(i,c)::selA act r else selA act r:=by
 simp only[selA,List.filter_cons,memN_eq]
@[push_cast] theorem dropA_nil(act:List Nat):dropA act []=[]:=(rfl)
@[push_cast] theorem dropA_cons(act:List Nat)(i:Nat)(c:List Value)(r:List (Nat×List Value)):dropA act ((i,c)::r)=if memN act i=true then dropA act r else(i,c)::dropA act r:=by
 simp only[dropA,List.filter_cons,memN_eq]
 cases memN act i <;>simp
@[push_cast] theorem full_nil'(B0:Nat)(H:AH):full B0 H []=H:=(rfl)
@[push_cast] theorem full_cons'(B0:Nat)(H:AH)(i:Nat)(c:List Value)(r:List (Nat×List Value)):full B0 H ((i,c)::r)=upd (full B0 H r) (B0+i) (some ⟨c,true⟩):=full_cons B0 H i c r
@[push_cast] theorem addP_none(i:Nat)(pend:List (Nat×List Value)):addP i none pend=pend:=(rfl)
@[push_cast] theorem addP_some(i:Nat)(c:List Value)(pend:List (Nat×List Value)):addP i (some c) pend=(i,c)::pend:=(rfl)
@[push_cast] theorem clearOf_nil(B0:Nat)(H:AH):clearOf B0 [] H=True:=(rfl)
@[push_cast] theorem clearOf_cons(B0 i:Nat)(c:List Value)(r:List (Nat×List Value))(H:AH):clearOf B0 ((i,c)::r) H=(H (B0+i)=none/\clearOf B0 r H):=(rfl)
section
variable {P:Program} (E:Env P) (ops:List Oper) (B0:Nat) (rest:List Stp) (s:List Value) (H:AH) (Bd:Nat) (pend:List (Nat×List Value)) (wt:List (Nat×Op×List Value×Value)) (Q:List Value->AH->Nat->Prop)
@[push_cast] theorem watched_nil(wat:List Nat):watched P [] wat H=True:=(rfl)
@[push_cast] theorem watched_cons(i:Nat)(op:Op)(v:Value)(wat:List Nat):watched P ((i,op,s,v)::wt) wat H=((if memN wat i=true then aq P s H 0 op=some (v,none)else True)/\watched P wt wat H):=by
 simp only[watched,memN_eq]
def vdR{P:Program}(E:Env P)(ops:List Oper)(B0:Nat)(i:Nat)(act wat:List Nat)(rest:List Stp)(s:List Value)(H:AH)(Bd:Nat)(pend:List (Nat×List Value))(wt:List (Nat×Op×List Value×Value))(Q:List Value->AH->Nat->Prop)(o:Oper):Prop:=
 if isEff o.op=true then
  jW E o s (full B0 H (selA act pend)) Bd fun v H' Bd'=>
   clearOf B0 (dropA act pend) H'/\watched P wt wat (full B0 H' (dropA act pend))/\vd E ops B0 rest (sput s o.dst v) H' Bd' (dropA act pend) wt Q
 else
  Yld (aq P s (full B0 H pend) (B0+i) o.op) fun r=>vd E ops B0 rest (sput s o.dst r.1) H Bd (addP i r.2 pend) (addW i o.op s r.1 wt) Q
@[go_sem ↓] theorem vd_nil:vd E ops B0 [] s H Bd pend wt Q=Q s (full B0 H pend) Bd:=(rfl)
def vdO{P:Program}(E:Env P)(ops:List Oper)(B0:Nat)(i:Nat)(act wat:List Nat)(rest:List Stp)(s:List Value)(H:AH)(Bd:Nat)(pend:List (Nat×List Value))(wt:List (Nat×Op×List Value×Value))(Q:List Value->AH->Nat->Prop)(l:List Oper)(n:Nat):Prop:=
 opAt l n fun o=>gd ops s o.guard (vdR E ops B0 i act wat rest s H Bd pend wt Q o) (vd E ops B0 rest (sput s o.dst undef) H Bd pend wt Q)
@[push_cast] theorem vd_cons(i:Nat)(act wat:List Nat):vd E ops B0 (⟨i,act,wat⟩::rest) s H Bd pend wt Q=vdO E ops B0 i act wat rest s H Bd pend wt Q ops i:=(rfl)
@[go_sem ↓] theorem vdO_s (i:Nat) (act wat:List Nat) (o:Oper) (l:List Oper) (n:Nat):vdO E ops B0 i act wat rest s H Bd pend wt Q (o::l) (n+1)=vdO E ops B0 i act wat rest s H Bd pend wt Q l n:=(rfl)
@[go_sem ↓] theorem vdO_z (i:Nat) (act wat:List Nat) (d:Option Nat) (op:Op) (ty:TypeId) (p:String) (af:Array Edge) (l:List Oper):vdO E ops B0 i act wat rest s H Bd pend wt Q (⟨d,op,ty,p,af,none⟩::l) 0=
  vdR E ops B0 i act wat rest s H Bd pend wt Q ⟨d,op,ty,p,af,none⟩:=(rfl)
@[go_sem ↓] theorem vdO_g (i:Nat) (act wat:List Nat) (d:Option Nat) (op:Op) (ty:TypeId) (p:String) (af:Array Edge) (j:Nat) (want:Bool) (l:List Oper):vdO E ops B0 i act wat rest s H Bd pend wt Q (⟨d,op,ty,p,af,some (j,want)⟩::l) 0=
  guardK (agard ops s j) want (vdR E ops B0 i act wat rest s H Bd pend wt Q ⟨d,op,ty,p,af,some (j,want)⟩) (vd E ops B0 rest (sput s d undef) H Bd pend wt Q):=(rfl)
@[congr] theorem vd_congr{s s':List Value}{H H':AH}{Bd Bd':Nat}{pend pend':List (Nat×List Value)}(h:s=s')(hH:H=H')(hB:Bd=Bd')(hp:pend=pend'):vd E ops B0 rest s H Bd pend wt Q=vd E ops B0 rest s' H' Bd' pend' wt Q:=by rw[h,hH,hB,hp]
end
section
variable {P:Program} (E:Env P) (ops:List Oper) (B0 i:Nat) (act wat:List Nat) (rest:List Stp) (s:List Value) (H:AH) (Bd:Nat) (pend:List (Nat×List Value)) (wt:List (Nat×Op×List Value×Value)) (Q:List Value->AH->Nat->Prop)
 (d:Option Nat) (ty:TypeId) (p:String) (af:Array Edge) (g:Option (Nat×Bool))
theorem vdR_eff{o:Oper}(h:isEff o.op=true):vdR E ops B0 i act wat rest s H Bd pend wt Q o=
  jW E o s (full B0 H (selA act pend)) Bd fun v H' Bd'=>
   clearOf B0 (dropA act pend) H'/\watched P wt wat (full B0 H' (dropA act pend))/\vd E ops B0 rest (sput s o.dst v) H' Bd' (dropA act pend) wt Q:=by rw[vdR,if_pos h]
theorem yO{o:Oper}(h:isEff o.op=false):vdR E ops B0 i act wat rest s H Bd pend wt Q o=
  Yld (aq P s (full B0 H pend) (B0+i) o.op) fun r=>vd E ops B0 rest (sput s o.dst r.1) H Bd (addP i r.2 pend) (addW i o.op s r.1 wt) Q:=by rw[vdR,if_neg (by rw[h];simp)]
@[go_sem ↓] theorem vdR_store (t:TypeId) (x y:Operand):vdR E ops B0 i act wat rest s H Bd pend wt Q ⟨d, .store t x y,ty,p,af,g⟩=jW E ⟨d, .store t x y,ty,p,af,g⟩ s (full B0 H (selA act pend)) Bd fun v H' Bd'=>
  clearOf B0 (dropA act pend) H'/\watched P wt wat (full B0 H' (dropA act pend))/\vd E ops B0 rest (sput s d v) H' Bd' (dropA act pend) wt Q:=vdR_eff (h:=rfl) ..
@[go_sem ↓] theorem vdR_callv (f:Operand) (args:Array Operand) (ts:Array TypeId):vdR E ops B0 i act wat rest s H Bd pend wt Q ⟨d, .call ⟨.value f,args,ts⟩,ty,p,af,g⟩=jW E ⟨d, .call ⟨.value f,args,ts⟩,ty,p,af,g⟩ s (full B0 H (selA act pend)) Bd fun v H' Bd'=>
  clearOf B0 (dropA act pend) H'/\watched P wt wat (full B0 H' (dropA act pend))/\vd E ops B0 rest (sput s d v) H' Bd' (dropA act pend) wt Q:=vdR_eff (h:=rfl) ..
@[go_sem ↓] theorem vdR_append (args:Array Operand) (ts:Array TypeId):vdR E ops B0 i act wat rest s H Bd pend wt Q ⟨d, .call ⟨.builtin .append,args,ts⟩,ty,p,af,g⟩=jW E ⟨d, .call ⟨.builtin .append,args,ts⟩,ty,p,af,g⟩ s (full B0 H (selA act pend)) Bd fun v H' Bd'=>
  clearOf B0 (dropA act pend) H'/\watched P wt wat (full B0 H' (dropA act pend))/\vd E ops B0 rest (sput s d v) H' Bd' (dropA act pend) wt Q:=vdR_eff (h:=rfl) ..
@[go_sem ↓] theorem vdR_move (x:Operand):vdR E ops B0 i act wat rest s H Bd pend wt Q ⟨d, .move x,ty,p,af,g⟩=Yld (aq P s (full B0 H pend) (B0+i) (.move x)) fun r=>vd E ops B0 rest (sput s d r.1) H Bd (addP i r.2 pend) wt Q:=yO (h:=rfl) ..
@[go_sem ↓] theorem vdR_assign (x:Operand):vdR E ops B0 i act wat rest s H Bd pend wt Q ⟨d, .assign x,ty,p,af,g⟩=Yld (aq P s (full B0 H pend) (B0+i) (.assign x)) fun r=>vd E ops B0 rest (sput s d r.1) H Bd (addP i r.2 pend) wt Q:=yO (h:=rfl) ..
@[go_sem ↓] theorem vdR_pick (c x y:Operand):vdR E ops B0 i act wat rest s H Bd pend wt Q ⟨d, .pick c x y,ty,p,af,g⟩=
  Yld (abool (ev s c)) fun b=>Cnd b (vd E ops B0 rest (sput s d (ev s x)) H Bd pend wt Q) (vd E ops B0 rest (sput s d (ev s y)) H Bd pend wt Q):=by
 rw[yO (h:=rfl)]
 simp only[aq,aval]
 cases ev s c <;>simp[abool,Yld,Cnd,addP,addW,kL]
 rename_i b;cases b <;>simp
@[go_sem ↓] theorem vdR_load (t:TypeId) (x:Operand):vdR E ops B0 i act wat rest s H Bd pend wt Q ⟨d, .load t x,ty,p,af,g⟩=Yld (aq P s (full B0 H pend) (B0+i) (.load t x)) fun r=>vd E ops B0 rest (sput s d r.1) H Bd (addP i r.2 pend) ((i, .load t x,s,r.1)::wt) Q:=yO (h:=rfl) ..
@[go_sem ↓] theorem vdR_alloc (t:TypeId):vdR E ops B0 i act wat rest s H Bd pend wt Q ⟨d, .alloc t,ty,p,af,g⟩=Yld (aq P s (full B0 H pend) (B0+i) (.alloc t)) fun r=>vd E ops B0 rest (sput s d r.1) H Bd (addP i r.2 pend) wt Q:=yO (h:=rfl) ..
@[go_sem ↓] theorem vdR_box (t:TypeId) (x:Operand):vdR E ops B0 i act wat rest s H Bd pend wt Q ⟨d, .box t x,ty,p,af,g⟩=Yld (aq P s (full B0 H pend) (B0+i) (.box t x)) fun r=>vd E ops B0 rest (sput s d r.1) H Bd (addP i r.2 pend) wt Q:=yO (h:=rfl) ..
@[go_sem ↓] theorem vdR_build (t:TypeId) (parts:Array (Nat×Operand)):vdR E ops B0 i act wat rest s H Bd pend wt Q ⟨d, .build t parts,ty,p,af,g⟩=Yld (aq P s (full B0 H pend) (B0+i) (.build t parts)) fun r=>vd E ops B0 rest (sput s d r.1) H Bd (addP i r.2 pend) wt Q:=yO (h:=rfl) ..
@[go_sem ↓] theorem vdR_buildSlice (t:TypeId) (len:Nat) (parts:Array (Nat×Operand)):vdR E ops B0 i act wat rest s H Bd pend wt Q ⟨d, .buildSlice t len parts,ty,p,af,g⟩=Yld (aq P s (full B0 H pend) (B0+i) (.buildSlice t len parts)) fun r=>vd E ops B0 rest (sput s d r.1) H Bd (addP i r.2 pend) wt Q:=yO (h:=rfl) ..
@[go_sem ↓] theorem vdR_nilCheck (x:Operand):vdR E ops B0 i act wat rest s H Bd pend wt Q ⟨d, .nilCheck x,ty,p,af,g⟩=Yld (aq P s (full B0 H pend) (B0+i) (.nilCheck x)) fun r=>vd E ops B0 rest (sput s d r.1) H Bd (addP i r.2 pend) wt Q:=yO (h:=rfl) ..
@[go_sem ↓] theorem vdR_binOp (op:BinOp) (t1 t2:TypeId) (x y:Operand):vdR E ops B0 i act wat rest s H Bd pend wt Q ⟨d, .binOp op t1 x y t2,ty,p,af,g⟩=Yld (aq P s (full B0 H pend) (B0+i) (.binOp op t1 x y t2)) fun r=>vd E ops B0 rest (sput s d r.1) H Bd (addP i r.2 pend) wt Q:=yO (h:=rfl) ..
@[go_sem ↓] theorem vdR_unOp (op:UnOp) (t:TypeId) (x:Operand):vdR E ops B0 i act wat rest s H Bd pend wt Q ⟨d, .unOp op t x,ty,p,af,g⟩=Yld (aq P s (full B0 H pend) (B0+i) (.unOp op t x)) fun r=>vd E ops B0 rest (sput s d r.1) H Bd (addP i r.2 pend) wt Q:=yO (h:=rfl) ..
@[go_sem ↓] theorem vdR_convert (t u:TypeId) (x:Operand):vdR E ops B0 i act wat rest s H Bd pend wt Q ⟨d, .convert t u x,ty,p,af,g⟩=Yld (aq P s (full B0 H pend) (B0+i) (.convert t u x)) fun r=>vd E ops B0 rest (sput s d r.1) H Bd (addP i r.2 pend) ((i, .convert t u x,s,r.1)::wt) Q:=yO (h:=rfl) ..
@[go_sem ↓] theorem vdR_slice (t:TypeId) (x:Operand) (lo hi mx:Option Operand):vdR E ops B0 i act wat rest s H Bd pend wt Q ⟨d, .slice t x lo hi mx,ty,p,af,g⟩=Yld (aq P s (full B0 H pend) (B0+i) (.slice t x lo hi mx)) fun r=>vd E ops B0 rest (sput s d r.1) H Bd (addP i r.2 pend) wt Q:=yO (h:=rfl) ..
@[go_sem ↓] theorem vdR_fieldAddr (t:TypeId) (x:Operand) (f:Nat):vdR E ops B0 i act wat rest s H Bd pend wt Q ⟨d, .fieldAddr t x f,ty,p,af,g⟩=Yld (aq P s (full B0 H pend) (B0+i) (.fieldAddr t x f)) fun r=>vd E ops B0 rest (sput s d r.1) H Bd (addP i r.2 pend) wt Q:=yO (h:=rfl) ..
@[go_sem ↓] theorem vdR_field (t:TypeId) (x:Operand) (f:Nat):vdR E ops B0 i act wat rest s H Bd pend wt Q ⟨d, .field t x f,ty,p,af,g⟩=Yld (aq P s (full B0 H pend) (B0+i) (.field t x f)) fun r=>vd E ops B0 rest (sput s d r.1) H Bd (addP i r.2 pend) wt Q:=yO (h:=rfl) ..
@[go_sem ↓] theorem vdR_indexAddr (t:TypeId) (x y:Operand):vdR E ops B0 i act wat rest s H Bd pend wt Q ⟨d, .indexAddr t x y,ty,p,af,g⟩=Yld (aq P s (full B0 H pend) (B0+i) (.indexAddr t x y)) fun r=>vd E ops B0 rest (sput s d r.1) H Bd (addP i r.2 pend) wt Q:=yO (h:=rfl) ..
@[go_sem ↓] theorem vdR_len (args:Array Operand) (ts:Array TypeId):vdR E ops B0 i act wat rest s H Bd pend wt Q ⟨d, .call ⟨.builtin .len,args,ts⟩,ty,p,af,g⟩=Yld (aq P s (full B0 H pend) (B0+i) (.call ⟨.builtin .len,args,ts⟩)) fun r=>vd E ops B0 rest (sput s d r.1) H Bd (addP i r.2 pend) wt Q:=yO (h:=rfl) ..
end
section
variable (P:Program) (s:List Value) (H:AH) (m:Nat)
def aptrO{α:Type}(v:Value)(K:Nat->Nat->Option α):Option α:=
 match v with
 | .pointer (some ⟨n,off,none⟩)=>K n off
 |_=>none
@[go_sem ↓] theorem aptrO_eq {α:Type} (n off:Nat) (K:Nat->Nat->Option α):aptrO (.pointer (some ⟨n,off,none⟩)) K=K n off:=(rfl)
@[go_sem ↓] theorem aq_load (t:TypeId) (x:Operand):aq P s H m (.load t x)=(aloadV P t H (ev s x)).map (·,none):=by
 simp only[aq,aloadV]
 split
 ·rename_i n off hx
  cases hH:H n <;>simp[hx,hH]
 ·rename_i m fs cs hx
  simp[hx]
 ·rename_i h1 h2
  split
  ·rename_i n off hx;exact absurd hx (h1 _ _)
  ·rename_i hx;exact absurd hx (h2 _ _ _)
  ·rfl
@[go_sem ↓] theorem aq_convert (t u:TypeId) (x:Operand):aq P s H m (.convert t u x)=(aconv P H t u (ev s x)).map (·,none):=(rfl)
@[go_sem ↓] theorem aq_alloc (t:TypeId):aq P s H m (.alloc t)=(ask P (zeroValue t)).bind fun z=>if(cellsL z).all yI=true then some (.pointer (some ⟨m,0,none⟩),some (cellsL z))else none:=by
 simp only[aq];cases ask P (zeroValue t) <;>rfl
@[go_sem ↓] theorem aq_box (t:TypeId) (x:Operand):aq P s H m (.box t x)=if isUnk (ev s x)=false then some (.pointer (some ⟨m,0,none⟩),some (cellsL (ev s x)))else none:=(rfl)
@[go_sem ↓] theorem aq_buildSlice (t:TypeId) (len:Nat) (parts:Array (Nat×Operand)):aq P s H m (.buildSlice t len parts)=(kU P t len (parts.toList.map fun x=>(x.1,ev s x.2))).map fun r=>(.slice (some ⟨m,0,some r.1⟩) len (len+1),some r.2):=(rfl)
@[go_sem ↓] theorem aq_move (x:Operand):aq P s H m (.move x)=some (ev s x,none):=(rfl)
@[go_sem ↓] theorem aq_assign (x:Operand):aq P s H m (.assign x)=some (ev s x,none):=(rfl)
@[go_sem ↓] theorem aq_binOp (op:BinOp) (t1 t2:TypeId) (x y:Operand):aq P s H m (.binOp op t1 x y t2)=(kO P op t1 (ev s x) (ev s y)).map (·,none):=(rfl)
@[go_sem ↓] theorem aq_unOp (op:UnOp) (t:TypeId) (x:Operand):aq P s H m (.unOp op t x)=(aunop op (ev s x)).map (·,none):=(rfl)
@[go_sem ↓] theorem aq_field (t:TypeId) (x:Operand) (f:Nat):aq P s H m (.field t x f)=(afld P t (ev s x) f).map (·,none):=(rfl)
@[go_sem ↓] theorem aq_fieldAddr (t:TypeId) (x:Operand) (f:Nat):aq P s H m (.fieldAddr t x f)=(vD P t (ev s x) f).map (·,none):=(rfl)
@[go_sem ↓] theorem aq_indexAddr (t:TypeId) (x i:Operand):aq P s H m (.indexAddr t x i)=(aidxAddr P t (ev s x) (ev s i)).map (·,none):=(rfl)
@[go_sem ↓] theorem aq_nilCheck (x:Operand):aq P s H m (.nilCheck x)=(anilck (ev s x)).map (·,none):=(rfl)
@[go_sem ↓] theorem aq_build (t:TypeId) (parts:Array (Nat×Operand)):aq P s H m (.build t parts)=(abuild P t (parts.toList.map fun x=>(x.1,ev s x.2))).map (·,none):=(rfl)
@[go_sem ↓] theorem aq_slice (t:TypeId) (x:Operand) (lo hi mx:Option Operand):aq P s H m (.slice t x lo hi mx)=(aslice P s t (ev s x) lo hi mx).map (·,none):=(rfl)
@[go_sem ↓] theorem aq_len (x:Operand) (t:TypeId):aq P s H m (.call ⟨.builtin .len,#[x],#[t]⟩)=(alen P t (ev s x)).map (·,none):=(rfl)
@[push_cast] theorem obind_some{α β:Type}(x:α)(f:α->Option β):(some x).bind f=f x:=(rfl)
@[go_sem ↓] theorem Yld_map {α β:Type} (f:α->β) (x:Option α) (K:β->Prop):Yld (x.map f) K=Yld x fun v=>K (f v):=by
 cases x <;>simp[Yld]
@[go_sem ↓] theorem Yld_bind {α β:Type} (f:α->Option β) (x:Option α) (K:β->Prop):Yld (x.bind f) K=Yld x fun v=>Yld (f v) K:=by
 cases x <;>simp[Yld]
end
def lookP:List (Nat×List Nat×List Stp×JT)->Nat->Option (List Stp)
 |[],_=>none
 |(i,_,p,_)::r,j=>if j=i then some p else lookP r j
def lookO:List (Nat×List Nat×List Stp×JT)->Nat->List Nat
 |[],_=>[]
 |(i,o,_,_)::r,j=>if j=i then o else lookO r j
def lookJ:List (Nat×List Nat×List Stp×JT)->Nat->Option JT
 |[],_=>none
 |(i,_,_,t)::r,j=>if j=i then some t else lookJ r j
deriving instance DecidableEq for Stp
def kR(PL:List (Nat×List Nat×List Stp×JT)):Code->Bool
 | .seq x y=>kR PL x&&kR PL y
 | .cond _ x y=>kR PL x&&kR PL y
 | .block _ x=>kR PL x
 | .region id ops true=>match lookP PL id with
  |some plan=>decide (mk ops (lookO PL id) [] [] none=some plan)
  |none=>true
 | .region id ops false=>match lookJ PL id with
  |some t=>jtOK ops.toList t ops.toList&&decide (t.cnt=ops.size)
  |none=>true
 |_=>true
def isLp:Code->Bool
 | .block _ (.loop _)=>true
 | .seq _ y=>isLp y
 |_=>false
def selT(b:Bool)(A B:List Value->AH->Nat->Prop):List Value->AH->Nat->Prop:=
 match b with
 |true=>A
 |false=>B
@[go_sem ↓] theorem selT_true (A B:List Value->AH->Nat->Prop):selT true A B=A:=(rfl)
@[go_sem ↓] theorem selT_false (A B:List Value->AH->Nat->Prop):selT false A B=B:=(rfl)
@[congr] theorem selT_congr{b b':Bool}(h:b=b')(A B:List Value->AH->Nat->Prop):selT b A B=selT b' A B:=by rw[h]
@[go_sem ↓] theorem isLp_loop (i:Nat) (c:Code):isLp (.block i (.loop c))=true:=(rfl)
@[go_sem ↓] theorem isLp_region (i:Nat) (ops:Array Oper) (d:Bool):isLp (.region i ops d)=false:=(rfl)
@[go_sem ↓] theorem isLp_cond (c:Operand) (x y:Code):isLp (.cond c x y)=false:=(rfl)
@[go_sem ↓] theorem isLp_seq (x y:Code):isLp (.seq x y)=isLp y:=(rfl)
@[go_sem ↓] theorem isLp_bseq (i:Nat) (x y:Code):isLp (.block i (.seq x y))=false:=(rfl)
@[go_sem ↓] theorem isLp_bregion (i j:Nat) (ops:Array Oper) (d:Bool):isLp (.block i (.region j ops d))=false:=(rfl)
def vq{P:Program}(E:Env P)(PL:List (Nat×List Nat×List Stp×JT))(N0:Nat):Code->yY->List Value->AH->Nat->Prop
 | .skip,Q=>Q .normal
 | .seq x y,Q=>vq E PL N0 x (thenQ (selT (isLp x) (Tr P N0 y Q) (vq E PL N0 y Q)) Q)
 | .cond c x y,Q=>fun s H Bd=>match ev s c with
  | .bool b=>Cnd b (vq E PL N0 x Q s H Bd) (vq E PL N0 y Q s H Bd)
  |_=>False
 | .block id c,Q=>vq E PL N0 c (inBlockQ id Q)
 | .loop c,Q=>fun s H Bd=>Tr P N0 (.loop c) Q s H Bd
 | .exit id,Q=>Q (.exit id)
 | .ret,Q=>Q .ret
 | .region id ops false,Q=>fun s H Bd=>match lookJ PL id with
  |some t=>vT E ops.toList t ops.toList s H Bd (Q .normal)
  |none=>vops E ops.toList ops.toList s H Bd (Q .normal)
 | .region id ops true,Q=>fun s H Bd=>match lookP PL id with
  |some plan=>vd E ops.toList Bd plan s H (Bd+ops.size) [] [] (Q .normal)
  |none=>Tr P N0 (.region id ops true) Q s H Bd
 |c,Q=>fun s H Bd=>Tr P N0 c Q s H Bd
theorem zJ{P:Program}(hP:POk P){E:Env P}(PL:List (Nat×List Nat×List Stp×JT)){N0:Nat}:∀(c:Code) (Q:yY) (s:List Value) (H:AH) (Bd:Nat),kR PL c=true->vq E PL N0 c Q s H Bd->Tr P N0 c Q s H Bd
 | .skip,Q,s,H,Bd,_,h=>fun hN A ι a w hst=>wp_skip ⟨ι,s,H,Bd,h,hN,hst,Keep.refl A w,Agr.refl _ _,NI.refl _⟩
 | .seq x y,Q,s,H,Bd,hp,h=>fun hN A ι a w hst=>by
  simp only[kR,Bool.and_eq_true]at hp
  refine wp_seq (wp_mono (zJ hP PL x _ s H Bd hp.1 h hN A ι a w hst) fun e a' w' ⟨ι',s',H',Bd',h1,h2,h3,h4,h5,h6⟩=> ?_)
  cases e with
  |normal=>
   simp only[Exit.then]
   have h1':Tr P N0 y Q s' H' Bd':=by
    simp only[thenQ_normal]at h1
    cases hl:isLp x with
    |true=>rw[hl]at h1;exact h1
    |false=>rw[hl]at h1;exact zJ hP PL y Q s' H' Bd' hp.2 h1
   refine wp_mono (h1' h2 A ι' a' w' h3) fun e2 a2 w2 ⟨ι2,s2,H2,Bd2,g1,g2,g3,g4,g5,g6⟩=> ?_
   exact⟨ι2,s2,H2,Bd2,g1,g2,g3,h4.trans g4,h5.trans g5 (xC _),h6.trans g6⟩
  |_=>exact⟨ι',s',H',Bd',h1,h2,h3,h4,h5,h6⟩
 | .cond c x y,Q,s,H,Bd,hp,h=>fun hN A ι a w hst=>by
  simp only[kR,Bool.and_eq_true]at hp
  unfold vq at h
  split at h
  ·rename_i b hb
   have hc:=hst.slots.ev c
   rw[hb]at hc
   generalize hcv:a.eval c=cv at hc
   cases hc
   refine wp_cond hcv ?_
   cases b with
   |true=>exact zJ hP PL x Q s H Bd hp.1 (h.1 rfl) hN A ι a w hst
   |false=>exact zJ hP PL y Q s H Bd hp.2 (h.2 rfl) hN A ι a w hst
  ·cases h
 | .block id c,Q,s,H,Bd,hp,h=>fun hN A ι a w hst=>by
  simp only[kR]at hp
  refine wp_block (wp_mono (zJ hP PL c _ s H Bd hp h hN A ι a w hst) fun e a' w' ⟨ι',s',H',Bd',h1,h2⟩=> ?_)
  cases e with
  |exit id'=>
   simp only[inBlockQ,Exit.inBlock]at h1 ⊢
   by_cases hid:id'=id
   ·rw[if_pos hid]at h1;rw[if_pos hid];exact⟨ι',s',H',Bd',h1,h2⟩
   ·rw[if_neg hid]at h1;rw[if_neg hid];exact⟨ι',s',H',Bd',h1,h2⟩
  |_=>exact⟨ι',s',H',Bd',h1,h2⟩
 | .loop c,Q,s,H,Bd,_,h=>h
 | .exit id,Q,s,H,Bd,_,h=>fun hN A ι a w hst=>wp_exit ⟨ι,s,H,Bd,h,hN,hst,Keep.refl A w,Agr.refl _ _,NI.refl _⟩
 | .ret,Q,s,H,Bd,_,h=>fun hN A ι a w hst=>wp_ret ⟨ι,s,H,Bd,h,hN,hst,Keep.refl A w,Agr.refl _ _,NI.refl _⟩
 | .region id ops false,Q,s,H,Bd,hp,h=>fun hN A ι a w hst=>by
  unfold vq at h
  simp only[kR]at hp
  split at h
  ·rename_i t hl
   rw[hl]at hp
   simp only[Bool.and_eq_true,decide_eq_true_eq]at hp
   refine wp_region_list (vopsJ_sound hP t ops.toList s H Bd _ hp.1 h A ι a w hst fun s' H' Bd' ι' a' w' h1 _ h2 h3 h4 h5 h6=> ?_)
   rw[hp.2,List.drop_of_length_le (by simp)]
   exact⟨ι',s',H',Bd',h1,wE hN h2,h3,h4,fun n hn=>h5 n (Nat.lt_of_lt_of_le hn hN),h6⟩
  ·refine wp_region_list (vops_sound hP ops.toList s H Bd h A ι a w hst fun s' H' Bd' ι' a' w' h1 h2 h3 h4 h5 h6=> ?_)
   exact⟨ι',s',H',Bd',h1,wE hN h2,h3,h4,fun n hn=>h5 n (Nat.lt_of_lt_of_le hn hN),h6⟩
 | .region id ops true,Q,s,H,Bd,hp,h=>by
  unfold vq at h
  simp only[kR]at hp
  split at h
  ·rename_i plan hl
   rw[hl]at hp
   exact tr_draw hP E _ plan (of_decide_eq_true hp) h
  ·exact h
 | .rangeFunc ..,_,_,_,_,_,h=>h
 | .scope _,_,_,_,_,_,h=>h
 | .label _,_,_,_,_,_,h=>h
 | .goto _,_,_,_,_,_,h=>h
 | .refuse _,_,_,_,_,_,h=>h
section
variable {P:Program} (E:Env P) (PL:List (Nat×List Nat×List Stp×JT)) (N0:Nat) (Q:yY) (s:List Value) (H:AH) (Bd:Nat)
@[go_sem ↓] theorem vq_skip:vq E PL N0 .skip Q s H Bd=Q .normal s H Bd:=(rfl)
@[go_sem ↓] theorem vq_seq (x y:Code):vq E PL N0 (.seq x y) Q s H Bd=vq E PL N0 x (thenQ (selT (isLp x) (Tr P N0 y Q) (vq E PL N0 y Q)) Q) s H Bd:=(rfl)
@[go_sem ↓] theorem vq_cond (c:Operand) (x y:Code):vq E PL N0 (.cond c x y) Q s H Bd=Yld (abool (ev s c)) fun b=>Cnd b (vq E PL N0 x Q s H Bd) (vq E PL N0 y Q s H Bd):=by
 simp only[vq]
 cases ev s c <;>simp[abool,Yld]
@[go_sem ↓] theorem vq_block (id:Nat) (c:Code):vq E PL N0 (.block id c) Q s H Bd=vq E PL N0 c (inBlockQ id Q) s H Bd:=(rfl)
@[go_sem ↓] theorem vq_loop (c:Code):vq E PL N0 (.loop c) Q s H Bd=Tr P N0 (.loop c) Q s H Bd:=(rfl)
@[go_sem ↓] theorem vq_exit (id:Nat):vq E PL N0 (.exit id) Q s H Bd=Q (.exit id) s H Bd:=(rfl)
@[go_sem ↓] theorem vq_ret:vq E PL N0 .ret Q s H Bd=Q .ret s H Bd:=(rfl)
def regn{P:Program}(E:Env P)(t:Option JT)(ops:List Oper)(s:List Value)(H:AH)(Bd:Nat)(K:List Value->AH->Nat->Prop):Prop:=
 match t with
 |some t=>vT E ops t ops s H Bd K
 |none=>vops E ops ops s H Bd K
@[go_sem ↓] theorem vq_region (id:Nat) (ops:List Oper):vq E PL N0 (.region id ops.toArray false) Q s H Bd=regn E (lookJ PL id) ops (idS s) H Bd (Q .normal):=by
 simp only[vq,regn,idS]
@[congr] theorem regn_congr{t t':Option JT}(h:t=t')(ops:List Oper)(K:List Value->AH->Nat->Prop):regn E t ops s H Bd K=regn E t' ops s H Bd K:=by rw[h]
@[go_sem ↓] theorem regn_some (t:JT) (ops:List Oper) (K:List Value->AH->Nat->Prop):regn E (some t) ops s H Bd K=vT E ops t ops (idS s) H Bd K:=(rfl)
@[go_sem ↓] theorem regn_none (ops:List Oper) (K:List Value->AH->Nat->Prop):regn E none ops s H Bd K=vops E ops ops (idS s) H Bd K:=(rfl)
@[push_cast] theorem lookJ_cons(i:Nat)(o:List Nat)(p:List Stp)(t:JT)(r:List (Nat×List Nat×List Stp×JT))(j:Nat):lookJ ((i,o,p,t)::r) j=if j=i then some t else lookJ r j:=(rfl)
@[push_cast] theorem lookJ_nil(j:Nat):lookJ [] j=none:=(rfl)
section
variable (ops rest:List Oper) (K:List Value->AH->Nat->Prop)
@[congr] theorem vopsJ_congr{s s':List Value}{H H':AH}{Bd Bd':Nat}(h:s=s')(hH:H=H')(hB:Bd=Bd')(t:JT):vT E ops t rest s H Bd K=vT E ops t rest s' H' Bd' K:=by rw[h,hH,hB]
@[go_sem ↓] theorem vopsJ_nil (l:List Oper):vT E ops .nil l s H Bd K=K s H Bd:=(rfl)
@[go_sem ↓] theorem vopsJ_k0 (t:JT) (l:List Oper):vT E ops (.k 0 t) l s H Bd K=vT E ops t l s H Bd K:=(rfl)
@[go_sem] theorem vopsJ_op(n:Nat)(t:JT)(d:Option Nat)(op:Op)(ty:TypeId)(p:String)(af:Array Edge):vT E ops (.k (n+1) t) (⟨d,op,ty,p,af,none⟩::rest) s H Bd K=
  jW E ⟨d,op,ty,p,af,none⟩ s H Bd fun v H Bd=>vT E ops (.k n t) rest (idS (sput s d v)) H Bd K:=(rfl)
@[go_sem] theorem vopsJ_guard(n:Nat)(t:JT)(d:Option Nat)(op:Op)(ty:TypeId)(p:String)(af:Array Edge)(j:Nat)(want:Bool):vT E ops (.k (n+1) t) (⟨d,op,ty,p,af,some (j,want)⟩::rest) s H Bd K=
  guardK (agard ops s j) want (jW E ⟨d,op,ty,p,af,some (j,want)⟩ s H Bd fun v H Bd=>vT E ops (.k n t) rest (idS (sput s d v)) H Bd K) (vT E ops (.k n t) rest (idS (sput s d undef)) H Bd K):=by
 simp only[JT.k,vT,guardK,idS] <;>rfl
def dropL:Nat->List Oper->List Oper
 |0,l=>l
 |_+1,[]=>[]
 |n+1,_::l=>dropL n l
theorem dropL_eq:∀(n:Nat) (l:List Oper),l.drop n=dropL n l
 |0,l=>rfl
 |_+1,[]=>rfl
 |n+1,_::l=>by rw[dropL,<-dropL_eq n l];rfl
@[go_sem ↓] theorem dropL_z (l:List Oper):dropL 0 l=l:=(rfl)
@[go_sem ↓] theorem dropL_s (n:Nat) (o:Oper) (l:List Oper):dropL (n+1) (o::l)=dropL n l:=(rfl)
def JS(want:Bool)(p:Prop)(X K:Bool->Prop):Prop:=JE want p X K
@[congr] theorem JS_congr{p p':Prop}(h:p=p')(want:Bool)(X K:Bool->Prop):JS want p X K=JS want p' X K:=by rw[h]
def JX(X K:Bool->Prop):Prop:=∃r:Bool,X r/\K r
def JU(want:Bool)(p:Prop)(X K:Bool->Prop):Prop:=JE want p X K
def JR(E:Env P)(ops:List Oper)(t:JT)(l:List Oper)(s:List Value)(H:AH)(Bd:Nat)(K:List Value->AH->Nat->Prop):Prop:=vT E ops t l s H Bd K
@[congr] theorem JR_congr(t:JT){l l':List Oper}{s s':List Value}(hl:l=l')(hs:s=s'):JR E ops t l s H Bd K=JR E ops t l' s' H Bd K:=by rw[hl,hs]
@[go_sem] theorem JR_eq(t:JT)(l:List Oper):JR E ops t l s H Bd K=vT E ops t l (idS s) H Bd K:=(rfl)
def gKs(pg:Option (Nat×Bool))(s:List Value)(A B:Prop):Prop:=gK pg s A B
@[go_sem ↓] theorem gKs_none (A B:Prop):gKs none s A B=A:=(rfl)
def gKv(v:Value)(w:Bool)(A B:Prop):Prop:=
 match v with
 | .bool b=>Cnd (b==w) A B
 | .tuple _=>B
 |_=>False
@[congr] theorem gKv_congr{v v':Value}(h:v=v')(w:Bool)(A B:Prop):gKv v w A B=gKv v' w A B:=by rw[h]
@[go_sem ↓] theorem gKs_some (c:Nat) (w:Bool) (A B:Prop):gKs (some (c,w)) s A B=gKv (sget s c) w A B:=(rfl)
@[go_sem ↓] theorem gKv_bool (b w:Bool) (A B:Prop):gKv (.bool b) w A B=Cnd (b==w) A B:=(rfl)
@[go_sem] theorem vopsJ_grp(want:Bool)(c d n:Nat)(D:List Nat)(pd:Nat)(pg:Option (Nat×Bool))(g t:JT)(l:List Oper):vT E ops (.grp want c d n D pd pg g t) l s H Bd K=
  Yld (abool (sget s c)) fun b=>JS want (PB b) (fun r=>vT E ops g l (idS s) H Bd fun s' H' Bd'=>H'=H/\Bd'=Bd/\sget s' d= .bool r)
   fun r=>gKs pg (forget D s) (JR E ops t (dropL (n+1) l) (sset (forget D s) pd (.bool r)) H Bd K) (JR E ops t (dropL (n+1) l) (sset (forget D s) pd undef) H Bd K):=by
 simp only[vT,dropL_eq];rfl
end
@[go_sem ↓] theorem forget_nil:forget [] s=s:=(rfl)
@[go_sem ↓] theorem forget_cons (d:Nat) (D:List Nat):forget (d::D) s=forget D (sset s d unk):=(rfl)
@[congr] theorem JU_congr{p p':Prop}(h:p=p')(want:Bool)(X K:Bool->Prop):JU want p X K=JU want p' X K:=by rw[h]
@[go_sem high] theorem JS_tT (X K:Bool->Prop):JS true True X K=JX X K:=by simp[JS,JE,JX]
@[go_sem high] theorem JS_tF (X K:Bool->Prop):JS true False X K=K false:=by simp[JS,JE]
@[go_sem high] theorem JS_fT (X K:Bool->Prop):JS false True X K=K true:=by simp[JS,JE]
@[go_sem high] theorem JS_fF (X K:Bool->Prop):JS false False X K=JX X K:=by simp[JS,JE,JX]
@[go_sem low] theorem JS_eq (want:Bool) (p:Prop) (X K:Bool->Prop):JS want p X K=JU want (Kn p) X K:=(rfl)
def JH(h:Prop)(c:Bool)(X K:Bool->Prop):Prop:=∃r:Bool,(h->X r)/\(¬h->r=c)/\K r
@[go_sem high] theorem JU_tT (X K:Bool->Prop):JU true True X K=JX X K:=by simp[JU,JE,JX]
@[go_sem high] theorem JU_tF (X K:Bool->Prop):JU true False X K=K false:=by simp[JU,JE]
@[go_sem high] theorem JU_fT (X K:Bool->Prop):JU false True X K=K true:=by simp[JU,JE]
@[go_sem high] theorem JU_fF (X K:Bool->Prop):JU false False X K=JX X K:=by simp[JU,JE,JX]
@[go_sem] theorem JU_fn(p:Prop)(X K:Bool->Prop):JU false (¬p) X K=JH p true X K:=by
 by_cases h:p <;>simp[JU,JE,JH,h]
@[go_sem low] theorem JU_f (p:Prop) (X K:Bool->Prop):JU false p X K=JH (¬p) true X K:=by
 by_cases h:p <;>simp[JU,JE,JH,h]
@[go_sem low] theorem JU_t (p:Prop) (X K:Bool->Prop):JU true p X K=JH p false X K:=by
 by_cases h:p <;>simp[JU,JE,JH,h]
@[congr] theorem JH_congr{p:Prop}{X X':Bool->Prop}(c:Bool)(K:Bool->Prop)(h:p->∀r,X r=X' r):JH p c X K=JH p c X' K:=by
 unfold JH
 refine propext ⟨fun⟨r,a,b⟩=>⟨r,fun hp=>h hp r▸a hp,b⟩,fun⟨r,a,b⟩=>⟨r,fun hp=>(h hp r).symm▸a hp,b⟩⟩
@[congr] theorem JX_congr{X X':Bool->Prop}(K:Bool->Prop)(h:∀r,X r=X' r):JX X K=JX X' K:=by
 unfold JX
 simp only[h]
@[go_sem] theorem JX_eq(e:Bool)(K:Bool->Prop):JX (fun r=>e=r) K=K e:=by simp[JX]
@[go_sem] theorem JH_and(h q:Prop)(c:Bool)(Y K:Bool->Prop):JH h c (fun r=>q/\Y r) K=(Imp h q/\JH h c Y K):=by
 unfold JH Imp
 refine propext ⟨fun⟨r,a,b⟩=>⟨fun hp=>(a hp).1,r,fun hp=>(a hp).2,b⟩,fun⟨k,r,a,b⟩=>⟨r,fun hp=>⟨k hp,a hp⟩,b⟩⟩
@[go_sem] theorem JH_eqA(h:Prop)[Decidable h](e:Bool)(K:Bool->Prop):JH h false (fun r=>e=r) K=K (decide h&&e):=by
 by_cases hp:h <;>simp[JH,hp]
@[go_sem] theorem JH_eqO(p:Prop)[Decidable p](e:Bool)(K:Bool->Prop):JH (¬p) true (fun r=>e=r) K=K (decide p||e):=by
 by_cases hp:p <;>simp[JH,hp]
@[go_sem low] theorem JH_eqN (p:Prop) [Decidable p] (e:Bool) (K:Bool->Prop):JH p true (fun r=>e=r) K=K (!decide p||e):=by
 by_cases hp:p <;>simp[JH,hp]
def lenN(l:List Oper):Nat:=l.length
@[push_cast] theorem lenN_nil:lenN []=0:=(rfl)
@[push_cast] theorem lenN_cons(o:Oper)(l:List Oper):lenN (o::l)=lenN l+1:=(rfl)
def drawn{P:Program}(E:Env P)(N0:Nat)(pl:Option (List Stp))(id:Nat)(ops:List Oper)(n:Nat)(Q:yY)(s:List Value)(H:AH)(Bd:Nat):Prop:=
 match pl with
 |some plan=>vd E ops Bd plan (idS s) H (Bd+n) [] [] (Q .normal)
 |none=>Tr P N0 (.region id ops.toArray true) Q s H Bd
@[go_sem ↓] theorem vq_draw (id:Nat) (ops:List Oper):vq E PL N0 (.region id ops.toArray true) Q s H Bd=drawn E N0 (lookP PL id) id ops (lenN ops) Q s H Bd:=by
 have hl:lenN ops=ops.length:=(rfl)
 simp only[vq,drawn,idS,hl,List.size_toArray]
@[go_sem ↓] theorem drawn_some (plan:List Stp) (id n:Nat) (ops:List Oper):drawn E N0 (some plan) id ops n Q s H Bd=vd E ops Bd plan (idS s) H (Bd+n) [] [] (Q .normal):=(rfl)
@[congr] theorem drawn_congr{pl pl':Option (List Stp)}{n n':Nat}(h:pl=pl')(hn:n=n')(id:Nat)(ops:List Oper):drawn E N0 pl id ops n Q s H Bd=drawn E N0 pl' id ops n' Q s H Bd:=by rw[h,hn]
@[push_cast] theorem lookP_cons(i:Nat)(o:List Nat)(p:List Stp)(t:JT)(r:List (Nat×List Nat×List Stp×JT))(j:Nat):lookP ((i,o,p,t)::r) j=if j=i then some p else lookP r j:=(rfl)
@[push_cast] theorem lookP_nil(j:Nat):lookP [] j=none:=(rfl)
end
@[push_cast] theorem qU(H:AH):Le H H=True:=eq_true (Le.refl H)
theorem qL{H G:AH}{B n:Nat}(hb:HB H B)(b:Option Blk)(h:B<=n):Le H (upd G n b)=Le H G:=by
 refine propext ⟨fun k m c hm=> ?_,fun k m c hm=> ?_⟩
 all_goals
  have hne:m≠n:=by
   intro e
   subst e
   rw[hb.fresh m h]at hm
   cases hm
 ·have:=k m c hm
  rwa[upd_ne _ _ hne]at this
 ·rw[upd_ne _ _ hne]
  exact k m c hm
theorem qB{p q:Prop}(h:p):(p/\q)=q:=by simp[h]
theorem HB.lt{H:AH}{B n:Nat}(hb:HB H B){b:Blk}(h:H n=some b):n<B:=by
 rcases xM n B with h1|h1
 ·exact h1
 ·rw[hb.fresh n h1]at h;cases h
@[go_sem ↓] theorem astoreK_eq (P:Program) (t:TypeId) (H:AH) (n off:Nat) (vs:List Value) (K:AH->Prop):astoreK P t H n off vs K=
  Yld (H n) fun b=>(b.own=true/\ask P (sizeOf t)=some vs.length/\vs.all kP=true/\off+vs.length<=b.cells.length)/\K (upd H n (some ⟨lset b.cells off vs,true⟩)):=(rfl)
theorem zmake_len(c:Nat)(z:List Value):(jU c z).length=c*z.length:=by simp[jU]
theorem amake_eq{P:Program}{t e:TypeId}{k:Nat}{z:Value}(h:ask P (underlying t)=some (.slice e))(hk:ask P (sizeOf e)=some k)(hz:ask P (zeroValue e)=some z)(h1:(cellsL z).length=k)(h2:(cellsL z).all yI=true)(h3:e<P.types.size)(q q':IntKind)(n c:Int):
  amake P t (.int q n) (.int q' c)=if 0<=n/\n<=c/\c<=1073741824 then some (k,jU c.toNat (cellsL z),n.toNat,c.toNat)else none:=by
 simp[amake,h,hk,hz,h1,h2,h3]
@[go_sem ↓] theorem aresults_cell (P:Program) (s:List Value) (H:AH) (a:Nat) (t:TypeId) (rs:List ResultVar):yG P (.cell a t::rs) s H=aptrO (sget s a) fun n off=>(H n).bind fun b=>(vX P t b off).bind fun v=>(yG P rs s H).map (v:: ·):=by
 have key:aresult P s H (.cell a t)=aptrO (sget s a) fun n off=>(H n).bind fun b=>vX P t b off:=by
  simp only[aresult,aptrO]
  split
  ·split <;>simp_all
  ·split <;>simp_all
 simp only[yG,key]
 generalize yG P rs s H=q
 unfold aptrO
 generalize sget s a=y
 cases y with
 |pointer p=>
  cases p with
  |none=>rfl
  |some p=>
   obtain⟨n,off,sp⟩:=p
   cases sp with
   |some _=>rfl
   |none=>
    simp only
    cases H n with
    |none=>rfl
    |some b=>
     simp only[Option.bind_some]
     cases vX P t b off with
     |none=>rfl
     |some v=>cases q <;>rfl
 |_=>rfl
attribute [push_cast] Nat.zero_add
attribute [push_cast] Bool.and_self Bool.true_and Bool.and_true
attribute [push_cast] Int.toNat_natCast Nat.mul_one Nat.add_zero xK Value.bool.injEq Value.string.injEq true_and and_true decide_eq_true_eq decide_eq_false_iff_not if_true if_false
theorem vq_conv{P:Program}(hP:POk P){E:Env P}{PL:List (Nat×List Nat×List Stp×JT)}{N0:Nat}{c:Code}{Q:yY}{s:List Value}{H:AH}{Bd:Nat}(hp:kR PL c=true)(h:vq E PL N0 c Q s H Bd):Tr P N0 c Q s H Bd:=zJ hP PL c Q s H Bd hp h
theorem yF{P:Program}(hP:POk P)(E:Env P)(PL:List (Nat×List Nat×List Stp×JT)){f:FuncId}{fn:Func}{c:Code}{args:List Value}{H:AH}{Bd:Nat}{K:Value->AH->Nat->Prop}(r0:Value)(hK:K r0 H Bd)
  (hf:P.funcs[f]? =some fn) (hb:fn.body=some c) {rs:List ResultVar} (hrs:fn.results.toList=rs) {m:Nat} (hm:fn.ntmps=m) (hm2:args.length<=m) (hent:Enters P f) (hp:kR PL c=true) (hnb:(∀v∈args,NB Bd v)->HB H Bd->NB Bd r0)
  (h:HB H Bd->(∀v∈args,NB Bd v)->vq E PL Bd c (pureQ P rs H r0) (aS m undef (idx 0 args)) H Bd):SCalls P f args H Bd K:=by
 subst hm
 rw[<-start_aS args _ hm2]at h
 refine scalls_of_tr hf hb hrs hent fun hh ha=>(zJ hP PL c _ _ H Bd hp (h hh ha)).conv fun e s' H' Bd' hle hq=> ?_
 have key:PureQ P rs H r0 s' H' Bd'->RetQ P rs H Bd K s' H' Bd':=fun⟨vs,h1,h2,h3⟩=>
  ⟨vs,h1,r0,_,H,Bd,h3,fun n b hn (hx:H n=none)=>(by rw[hx]at hn;cases hn),h2,xC _, .inr ⟨hnb ha hh,hh,hK⟩⟩
 cases e with
 |normal=>exact key hq
 |ret=>exact key hq
 |_=>exact hq.elim
def PubL(H:AH)(S:Nat->Prop):List Value->List Value->Prop
 |[],[]=>True
 |x::xs,y::ys=>(y=unk\/Pub H S x y)/\PubL H S xs ys
 |_,_=>False
theorem PubL.get{H:AH}{S:Nat->Prop}:∀(s s':List Value),PubL H S s s'->s.length=s'.length/\∀(i:Nat) x y,s[i]? =some x->s'[i]? =some y->y=unk\/Pub H S x y
 |[],[],_=>⟨rfl,fun i x y h=>by simp at h⟩
 |x::xs,y::ys,h=>by
  obtain⟨h1,h2⟩:=PubL.get xs ys h.2
  refine⟨by simp[h1],fun i a b ha hb=> ?_⟩
  cases i with
  |zero=>
   simp only[wD,xE]at ha hb
   subst ha;subst hb
   exact h.1
  |succ i=>exact h2 i a b (by simpa using ha) (by simpa using hb)
 |[],_::_,h=>h.elim
 |_::_,[],h=>h.elim
theorem Tr.pub{P:Program}{N0:Nat}{c:Code}{Q:yY}{s s':List Value}{H H':AH}{Bd Bd':Nat}(S:Nat->Prop)(hs:PubL H S s s')(hle:Le H' H)(hS:∀n b,H' n=some b->¬S n)(hB:Bd<=Bd')(h:Tr P N0 c Q s' H' Bd'):
  Tr P N0 c Q s H Bd:=by
 intro hN A ι a w hst
 obtain⟨h1,h2⟩:=PubL.get s s' hs
 have hst':St A (frz ι H S) s' H' Bd' a w:=by
  refine⟨(hst.rel.pub hle hS).raise hB,⟨by rw[<-h1];exact hst.slots.1,fun i v v' g1 g2=> ?_⟩,hst.defers⟩
  have hlt:i<s.length:=by have:=(xR.1 g1).1;omega
  rcases h2 i s[i] v (xA hlt) g1 with rfl|hp
  ·exact .unk _
  ·exact VR.pub hst.rel hp (hst.slots.2 i _ v' (xA hlt) g2)
 refine wp_mono (h (wE hN hB) A (frz ι H S) a w hst') fun e a' w' ⟨ι',s2,H2,Bd2,g1,g2,g3,g4,g5,g6⟩=> ?_
 refine⟨ι',s2,H2,Bd2,g1,g2,g3,(Keep.refl A w (zF ι H S).fz (hst.rel.frzA S)).trans g4,g5,NI.trans ?_ g6⟩
 exact(NI.refl H).sub hle
end Go.SC
namespace Go.SC
attribute [go_sem] Nat.reduceAdd Nat.reduceSub Nat.reduceMul Nat.reduceEqDiff Nat.reduceLeDiff Int.reduceNeg Int.reduceAdd Int.reduceSub Int.reduceLE Int.reduceLT Int.reduceToNat Nat.reduceLT
attribute [go_sem] reduceCtorEq false_or or_false true_or or_true ne_eq not_true_eq_false not_false_eq_true Nat.lt_irrefl eq_self decide_true decide_false Bool.not_true Bool.not_false Bool.decide_eq_true Bool.false_or Bool.or_false Bool.true_or Bool.or_true Bool.true_and Bool.and_true Bool.false_and Bool.and_false Bool.decide_and Bool.decide_or
attribute [go_sem ↓] reduceIte
@[push_cast] theorem amake_T{P:Program}{t e k:Nat}{z:List Value}[h:TySl P t e k z](q q':IntKind)(n c:Int):amake P t (.int q n) (.int q' c)=if 0<=n/\n<=c/\c<=1073741824 then some (k,jU c.toNat z,n.toNat,c.toNat)else none:=by
 obtain⟨z0,h1,h2⟩:=h.hz
 subst h2
 exact amake_eq h.h h.hk h1 h.zk h.zp h.lt q q' n c
def aeqK(P:Program)(xs ys:Array Value):List (Nat×Nat)->Option Bool
 |[]=>some true
 |(t,o)::r=>
  match xs[o]?,ys[o]? with
  |some a,some b=>
   match acell P t a b,aeqK P xs ys r with
   |some q,some p=>some (q&&p)
   |_,_=>none
  |_,_=>none
section
variable {P:Program}
end
section
variable {H:AH} {S:Nat->Prop}
@[go_sem high] theorem Pub_rfl (v:Value):Pub H S v v=True:=eq_true (.same v)
def PubC(H:AH)(S:Nat->Prop):List Value->List Value->Prop
 |[],[]=>True
 |x::xs,y::ys=>Pub H S x y/\PubC H S xs ys
 |_,_=>False
@[push_cast] theorem PubC_nil:PubC H S [] []=True:=(rfl)
@[push_cast] theorem PubC_cons(x y:Value)(xs ys:List Value):PubC H S (x::xs) (y::ys)=(Pub H S x y/\PubC H S xs ys):=(rfl)
theorem PubC.get:∀(xs ys:List Value),PubC H S xs ys->xs.length=ys.length/\∀(i:Nat) v u,xs[i]? =some v->ys[i]? =some u->Pub H S v u
 |[],[],_=>⟨rfl,fun i x y h=>by simp at h⟩
 |x::xs,y::ys,h=>by
  obtain⟨h1,h2⟩:=PubC.get xs ys h.2
  refine⟨by simp[h1],fun i a b ha hb=> ?_⟩
  cases i with
  |zero=>
   simp only[wD,xE]at ha hb
   subst ha;subst hb
   exact h.1
  |succ i=>exact h2 i a b (by simpa using ha) (by simpa using hb)
 |[],_::_,h=>h.elim
 |_::_,[],h=>h.elim
theorem PubC.of:∀(xs ys:List Value),xs.length=ys.length->(∀(i:Nat) v u,xs[i]? =some v->ys[i]? =some u->Pub H S v u)->PubC H S xs ys
 |[],[],_,_=>trivial
 |x::xs,y::ys,h,k=>⟨k 0 x y rfl rfl,PubC.of xs ys (by simpa using h) fun i v u h1 h2=>k (i+1) v u (by simpa using h1) (by simpa using h2)⟩
 |[],_::_,h,_=>by simp at h
 |_::_,[],h,_=>by simp at h
@[push_cast] theorem Pub_agg(xs ys:List Value):Pub H S (.agg xs.toArray) (.agg ys.toArray)=PubC H S xs ys:=by
 refine propext ⟨fun h=> ?_,fun h=> ?_⟩
 ·generalize hx:Value.agg xs.toArray=x at h
  generalize hy:Value.agg ys.toArray=y at h
  cases h with
  |same=>rw[<-hx]at hy;cases hy;exact PubC.of _ _ rfl fun i v u h1 h2=>by rw[h1]at h2;cases h2;exact .same _
  |agg hs h=>cases hx;cases hy;exact PubC.of _ _ (by simpa using hs) fun i v u h1 h2=>h i v u (by simpa using h1) (by simpa using h2)
  |_=>cases hx
 ·obtain⟨h1,h2⟩:=PubC.get _ _ h
  exact .agg (by simpa using h1) fun i v u g1 g2=>h2 i v u (by simpa using g1) (by simpa using g2)
@[push_cast] theorem Pub_tuple(xs ys:List Value):Pub H S (.tuple xs.toArray) (.tuple ys.toArray)=PubC H S xs ys:=by
 refine propext ⟨fun h=> ?_,fun h=> ?_⟩
 ·generalize hx:Value.tuple xs.toArray=x at h
  generalize hy:Value.tuple ys.toArray=y at h
  cases h with
  |same=>rw[<-hx]at hy;cases hy;exact PubC.of _ _ rfl fun i v u h1 h2=>by rw[h1]at h2;cases h2;exact .same _
  |tuple hs h=>cases hx;cases hy;exact PubC.of _ _ (by simpa using hs) fun i v u h1 h2=>h i v u (by simpa using h1) (by simpa using h2)
  |_=>cases hx
 ·obtain⟨h1,h2⟩:=PubC.get _ _ h
  exact .tuple (by simpa using h1) fun i v u g1 g2=>h2 i v u (by simpa using g1) (by simpa using g2)
@[push_cast] theorem Pub_int(k q:IntKind)(a b:Int):Pub H S (.int k a) (.int q b)=(k=q/\a=b):=by
 refine propext ⟨fun h=>by cases h;exact⟨rfl,rfl⟩,fun⟨h1,h2⟩=>by subst h1;subst h2;exact .same _⟩
@[push_cast] theorem Pub_bool(a b:Bool):Pub H S (.bool a) (.bool b)=(a=b):=by
 refine propext ⟨fun h=>by cases h;rfl,fun h=>by subst h;exact .same _⟩
variable {α:Type} [Enc α]
theorem pub_flat{n o len c k:Nat}{b:Blk}{xs:List α}(hb:H n=some b)(ho:b.own=true)(hc:(b.cells.drop o).take (xs.length*Enc.k α)=qO xs)(hS:S n)(hk:Enc.k α=k)(hl:len=xs.length):
  Pub H S (.slice (some ⟨n,o,some k⟩) len c) (lst xs):=by
 subst hk;subst hl
 have hle:o+xs.length*Enc.k α<=b.cells.length\/xs.length*Enc.k α=0:=by
  have:=congrArg List.length hc
  rw[jJ,xQ,xI]at this
  omega
 rcases Nat.eq_zero_or_pos (xs.length*Enc.k α)with hz|hp
 ·have hx:xs.length=0:=by
   rcases Nat.mul_eq_zero.1 hz with h|h
   ·exact h
   ·have:=Enc.pos (α:=α);omega
  obtain rfl:=List.eq_nil_of_length_eq_zero hx
  exact .empty
 refine .lst hS hb ho (by simp) (by omega) (fun i x hi=> ?_) fun i j r v u h1 h2 h3=> ?_
 ·simp only[wJ,wN]at hi
  cases hx:xs[i]? with
  |none=>rw[hx]at hi;cases hi
  |some y=>
   rw[hx]at hi
   simp only[wK,xE]at hi
   exact⟨_,hi.symm,by simp[jN]⟩
 ·simp only[wJ,wN]at h1
  cases hx:xs[i]? with
  |none=>rw[hx]at h1;cases h1
  |some y=>
   rw[hx]at h1
   simp only[wK,xE,Value.agg.injEq]at h1
   subst h1
   have hi:=(xR.1 hx).1
   have hj:j<Enc.k α:=by
    have:=(xS.1 h3).1
    simpa[jN]using this
   have e:=flat_get xs i y hx
   have hm:i*Enc.k α+Enc.k α<=xs.length*Enc.k α:=by
    have:i*Enc.k α+Enc.k α=(i+1)*Enc.k α:=(Nat.succ_mul _ _).symm
    rw[this];exact Nat.mul_le_mul_right _ hi
   have h4:(enc y)[j]? =some u:=by simpa using h3
   rw[<-e,<-hc,List.getElem?_take,if_pos hj,wP,List.getElem?_take,if_pos (by omega),wP]at h4
   rw[show o+(i*Enc.k α+j)=o+i*Enc.k α+j by omega,h2]at h4
   cases h4
   exact .same _
theorem qV{n c k len:Nat}{xs:List α}(hb:H n=some ⟨qO xs,true⟩)(hS:S n)(hk:Enc.k α=k)(hl:len=xs.length):Pub H S (.slice (some ⟨n,0,some k⟩) len c) (lst xs):=
 pub_flat hb rfl (by rw[List.drop_zero,flat_all]) hS hk hl
@[push_cast] theorem Pub_nil:Pub H S (.slice none 0 0) (lst ([]:List α))=True:=eq_true .empty
end
theorem jD{l k:List Value}:(l.toArray=k.toArray)=(l=k):=propext ⟨fun h=>List.toArray_inj h,fun h=>by rw[h]⟩
theorem agg_nb{α:Type}[Enc α](Bd:Nat)(x:α):NB Bd (.agg (enc x).toArray):= .agg fun i v h=>enc_nb x Bd v (wC (by simpa using h))
def NBs(Bd:Nat):List Value->Prop
 |[]=>True
 |x::xs=>NB Bd x/\NBs Bd xs
theorem tup_nb{Bd:Nat}{l:List Value}(h:NBs Bd l):NB Bd (.tuple l.toArray):=by
 refine .tuple fun i v hi=> ?_
 have hm:v∈l:=wC (by simpa using hi)
 clear hi
 induction l with
 |nil=>cases hm
 |cons x xs ih=>
  rcases wG.1 hm with rfl|hm
  ·exact h.1
  ·exact ih h.2 hm
def bstr(xs:List UInt8):ByteArray:=⟨xs.toArray⟩
@[push_cast] theorem bstr_eq(xs ys:List UInt8):(bstr xs=bstr ys)=(xs=ys):=propext ⟨fun h=>by
 unfold bstr at h
 injection h with h
 exact List.toArray_inj h,fun h=>by rw[h]⟩
theorem anums_flat(xs:List UInt8):anums (qO xs)=some (xs.map fun x=>(x.toNat:Int)):=by
 induction xs with
 |nil=>rfl
 |cons x xs ih=>
  rw[jO,jB]
  simp only[List.cons_append,List.nil_append,anums,ih,wK,List.map_cons]
theorem strOfNums_bytes(xs:List UInt8):strOfNums (xs.map fun x=>(x.toNat:Int))=bstr xs:=by
 unfold strOfNums bstr
 congr 1
 congr 1
 rw[List.map_map]
 conv=>rhs;rw[<-List.map_id xs]
 refine List.map_congr_left fun x _=> ?_
 simp
@[push_cast] theorem aconv_L{P:Program}{t u:Nat}[h:TyBy P t][h':TyS P u](H:AH)(xs:List UInt8):aconv P H t u (lst xs)=some (.string (bstr xs)):=by
 show astring P H t u (lst xs)=_
 have hc:jZ H 1 (lst xs)=some (xs.length,qO xs):=acellsOf_lst H xs
 simp only[astring,undBytes_T,undString_T,and_self,if_true,hc,anums_flat,wK,strOfNums_bytes]
theorem HB.no{H:AH}{B n:Nat}(hb:HB H B)(h:B<=n):(H n=none)=True:=eq_true (hb.fresh n h)
theorem qE{H:AH}{B n:Nat}(hb:HB H B)(h:B<=n):free H n=True:=eq_true (hb.fresh n h)
theorem qA{G G':AH}{m:Nat}(c:Option Blk)(h:free G m):Le G (upd G' m c)=Le G G':=by
 refine propext ⟨fun k n b hn=> ?_,fun k n b hn=> ?_⟩
 all_goals
  have hne:n≠m:=by
   intro e
   subst e
   rw[show G n=none from h]at hn
   cases hn
 ·have:=k n b hn
  rwa[upd_ne _ _ hne]at this
 ·rw[upd_ne _ _ hne]
  exact k n b hn
theorem qG{H:AH}{n m:Nat}{b:Option Blk}(h:m≠n):free (upd H n b) m=free H m:=by
 unfold free
 rw[upd_ne _ _ h]
def qI(H:AH)(k:Nat)(v:Value):Option (List Value):=
 match v with
 | .pointer (some ⟨n,off,none⟩)=>(H n).bind fun b=>if off+k<=b.cells.length then some ((b.cells.drop off).take k)else none
 | .func (.method _) _ cs=>if k<=cs.size then some (cs.toList.take k)else none
 |_=>none
@[push_cast] theorem cellsAt_ptr(H:AH)(k n off:Nat):qI H k (.pointer (some ⟨n,off,none⟩))=(H n).bind fun b=>if off+k<=b.cells.length then some ((b.cells.drop off).take k)else none:=(rfl)
@[push_cast] theorem cellsAt_vp(H:AH)(k:Nat)(cs:List Value):qI H k (VP cs)=if k<=cs.length then some (cs.take k)else none:=by simp[qI,VP]
def At(H:AH)(v:Value)(l:List Value):Prop:=
 (∃rest,v=VP (l++rest))\/∃n off b,v= .pointer (some ⟨n,off,none⟩)/\H n=some b/\off+l.length<=b.cells.length/\(b.cells.drop off).take l.length=l
theorem qM{H:AH}{k:Nat}{v:Value}{l:List Value}(h:qI H k v=some l)(hr:∀m fs cs,v= .func (.method m) fs cs->m= "" /\fs= #[]):At H v l:=by
 unfold qI at h
 split at h
 ·rename_i n off
  cases hb:H n with
  |none=>rw[hb]at h;cases h
  |some b=>
   rw[hb]at h
   simp only[Option.bind_some,xU,xE]at h
   obtain⟨hle,rfl⟩:=h
   have hl:((b.cells.drop off).take k).length=k:=by simp;omega
   exact .inr ⟨n,off,b,rfl,hb,by omega,by rw[hl]⟩
 ·rename_i m fs cs
  simp only[xU,xE]at h
  obtain⟨hle,rfl⟩:=h
  obtain⟨rfl,rfl⟩:=hr _ _ _ rfl
  exact .inl ⟨cs.toList.drop k,by rw[List.take_append_drop];simp[VP]⟩
 ·cases h
def vadd(v:Value)(o:Nat):Value:=
 match v with
 | .pointer (some ⟨n,off,none⟩)=> .pointer (some ⟨n,off+o,none⟩)
 | .func (.method _) _ cs=> .func (.method "") #[] (cs.extract o cs.size)
 |v=>v
theorem vadd_vp(cs:List Value)(o:Nat):vadd (VP cs) o=VP (cs.drop o):=by
 simp only[vadd,VP,List.extract_toArray,List.size_toArray,List.extract_eq_take_drop]
 rw[xO (by simp)]
section
variable {H H':AH} {v:Value} {l:List Value}
theorem At.nil(h:At H v l):anilck v=some v:=by
 rcases h with⟨r,rfl⟩|⟨n,off,b,rfl,_⟩ <;>rfl
theorem At.fld(h:At H v l){P:Program}{t f o k:Nat}{a:Bool}[hf:TyF P t f o k a](ho:o<=l.length):vD P t v f=some (vadd v o):=by
 rcases h with⟨r,rfl⟩|⟨n,off,b,rfl,_⟩
 ·rw[afldAddr_V,if_pos (by simp;omega),vadd_vp]
 ·rw[afldAddr_ptr];rfl
theorem At.off(h:At H v l){o k:Nat}(ho:o+k<=l.length)(ho':o<l.length)(P:Program){t:Nat}{a:Bool}{z:Value}[ht:TyZ P t k a z](hle:Le H H'):
  (∃cs,vadd v o=VP cs/\vX P t ⟨cs,false⟩ 0=vX P t ⟨l.drop o,false⟩ 0)\/∃n off b,vadd v o= .pointer (some ⟨n,off,none⟩)/\H' n=some b/\vX P t b off=vX P t ⟨l.drop o,false⟩ 0:=by
 have hk:=ht.hk
 have ha:=ht.ha
 rcases h with⟨r,rfl⟩|⟨n,off,b,rfl,hb,hl,ht'⟩
 ·refine .inl ⟨_,vadd_vp _ _,?_⟩
  unfold vX
  rw[ha,hk]
  cases a with
  |true=>
   simp only[Nat.zero_add,List.drop_zero,xI,xD]
   by_cases hk0:0<k
   ·rw[if_pos ⟨hk0,by omega⟩,if_pos ⟨hk0,by omega⟩,List.drop_append_of_le_length (by omega),List.take_append_of_le_length (by simp;omega)]
   ·rw[if_neg (fun h=>hk0 h.1),if_neg (fun h=>hk0 h.1)]
  |false=>
   simp only[wP,Nat.add_zero]
   rw[wF ho']
 ·refine .inr ⟨n,off+o,b,rfl,hle n b hb,?_⟩
  have hd:l.drop o=((b.cells.drop (off+o)).take (l.length-o)):=by
   conv=>lhs;rw[<-ht']
   rw[List.drop_take,List.drop_drop]
  unfold vX
  rw[ha,hk,hd]
  cases a with
  |true=>
   simp only[Nat.zero_add,List.drop_zero,xQ,xI]
   by_cases hk0:0<k
   ·rw[if_pos ⟨hk0,by omega⟩,if_pos ⟨hk0,by omega⟩,List.take_take,Nat.min_eq_left (by omega)]
   ·rw[if_neg (fun h=>hk0 h.1),if_neg (fun h=>hk0 h.1)]
  |false=>
   simp only
   rw[List.getElem?_take,if_pos (by omega),wP,Nat.add_zero]
theorem At.ld(h:At H v l){P:Program}{t o k:Nat}{a:Bool}{z:Value}[ht:TyZ P t k a z](ho:o+k<=l.length)(ho':o<l.length)(hle:Le H H'):
  aloadV P t H' (vadd v o)=vX P t ⟨l.drop o,false⟩ 0:=by
 rcases h.off ho ho' P (t:=t) hle with⟨cs,e1,e2⟩|⟨n,off,b,e1,e2,e3⟩
 ·rw[e1,aloadV_vp,e2]
 ·rw[e1,aloadV_ptr,e2,Option.bind_some,e3]
theorem vadd_zero(h:At H v l):vadd v 0=v:=by
 rcases h with⟨r,rfl⟩|⟨n,off,b,rfl,_⟩
 ·rw[vadd_vp,List.drop_zero]
 ·rfl
theorem At.cells(h:At H v l){k:Nat}(hk:k<=l.length)(hle:Le H H'):qI H' k v=some (l.take k):=by
 rcases h with⟨r,rfl⟩|⟨n,off,b,rfl,hb,hl,ht'⟩
 ·rw[cellsAt_vp,if_pos (by simp;omega),List.take_append_of_le_length hk]
 ·rw[cellsAt_ptr,hle n b hb,Option.bind_some,if_pos (by omega),<-ht',List.take_take,Nat.min_eq_left hk]
theorem At.fldL(h:At H v l){m:Nat}(hl:l.length=m){P:Program}{t f o k:Nat}{a:Bool}[hf:TyF P t f o k a](ho:o<=m):vD P t v f=some (vadd v o):=h.fld (by omega)
theorem At.ldL(h:At H v l){m:Nat}(hl:l.length=m){P:Program}{t o k:Nat}{a:Bool}{z:Value}[ht:TyZ P t k a z](ho:o+k<=m)(ho':o<m)(hle:Le H H'):
  aloadV P t H' (vadd v o)=vX P t ⟨l.drop o,false⟩ 0:=h.ld (by omega) (by omega) hle
theorem At.ld0L(h:At H v l){m:Nat}(hl:l.length=m){P:Program}{t k:Nat}{a:Bool}{z:Value}[ht:TyZ P t k a z](ho:k<=m)(ho':0<m)(hle:Le H H'):
  aloadV P t H' v=vX P t ⟨l,false⟩ 0:=by
 have:=h.ld (P:=P) (t:=t) (o:=0) (by omega) (by omega) hle
 rwa[vadd_zero h,List.drop_zero]at this
theorem At.cellsL(h:At H v l){m:Nat}(hl:l.length=m){k:Nat}(hk:k<=m)(hle:Le H H'):qI H' k v=some (l.take k):=h.cells (by omega) hle
theorem At.cellsOL(h:At H v l){m:Nat}(hl:l.length=m){k o:Nat}(hk:o+k<=m)(hle:Le H H'):qI H' k (vadd v o)=some ((l.drop o).take k):=by
 have hk':o+k<=l.length:=by omega
 rcases h with⟨r,rfl⟩|⟨n,off,b,rfl,hb,hl,ht'⟩
 ·rw[vadd_vp,cellsAt_vp,if_pos (by simp;omega),List.drop_append_of_le_length (by omega),List.take_append_of_le_length (by simp;omega)]
 ·show qI H' k (.pointer (some ⟨n,off+o,none⟩))=_
  have hd:l.drop o=((b.cells.drop (off+o)).take (l.length-o)):=by
   conv=>lhs;rw[<-ht']
   rw[List.drop_take,List.drop_drop]
  rw[cellsAt_ptr,hle n b hb,Option.bind_some,if_pos (by omega),hd,List.take_take,Nat.min_eq_left (by omega)]
end
theorem NB.vpok{Bd:Nat}{v:Value}(h:NB Bd v):∀m fs cs,v= .func (.method m) fs cs->m= "" /\fs= #[]:=by
 intro m fs cs e
 subst e
 cases h
 exact⟨rfl,rfl⟩
theorem qR{l:List Value}{α:Type}[Enc α]{x:α}(h:Value.agg l.toArray= .agg (enc x).toArray):l=enc x:=by
 injection h with h
 exact List.toArray_inj h
theorem Le.drop{H0 G:AH}{n B:Nat}{b:Option Blk}(hb:HB H0 B)(hn:B<=n)(h:Le H0 G):Le H0 (upd G n b):=by rw[qL hb b hn];exact h
theorem Tr.of_hb{P:Program}{N0:Nat}{c:Code}{Q:yY}{s:List Value}{H:AH}{Bd:Nat}(h:HB H Bd->Tr P N0 c Q s H Bd):Tr P N0 c Q s H Bd:=
 fun hN A ι a w hst=>h hst.rel.hb hN A ι a w hst
theorem Tr.sub{P:Program}{N0:Nat}{c:Code}{Q:yY}{s s':List Value}{H H':AH}{Bd Bd':Nat}(hs:Sub s H Bd s' H' Bd')(h:Tr P N0 c Q s' H' Bd'):Tr P N0 c Q s H Bd:=by
 intro hN A ι a w hst
 refine wp_mono (h (wE hN hs.2.2) A ι a w (hs.st hst)) fun e a' w' ⟨ι',s2,H2,Bd2,g1,g2,g3,g4,g5,g6⟩=> ?_
 exact⟨ι',s2,H2,Bd2,g1,g2,g3,g4,g5,NI.trans ((NI.refl H).sub hs.2.1) g6⟩
theorem Tr.fresh{P:Program}{N0:Nat}{c:Code}{Q:yY}{s:List Value}{H:AH}{Bd:Nat}(t k:Nat)(ht:sget s t= .slice none 0 0)(h:Tr P N0 c Q (sset s t (.slice (some ⟨Bd,0,some k⟩) 0 1)) (upd H Bd (some ⟨[],true⟩)) (Bd+1)):
  Tr P N0 c Q s H Bd:=by
 intro hN A ι a w hst
 have hb:ι Bd=none:=hst.rel.bound Bd (xC _)
 have hx:=ext_ren (.void) hb
 have hlt:t<s.length:=by
  rcases xM t s.length with h|h
  ·exact h
  ·rw[zE,xF,wQ h]at ht;cases ht
 have hst':St A (ren ι Bd .void) (sset s t (.slice (some ⟨Bd,0,some k⟩) 0 1)) (upd H Bd (some ⟨[],true⟩)) (Bd+1) a w:=by
  refine⟨(hst.rel.raise (Nat.le_succ Bd)).void hb (Nat.lt_succ_self _),?_,hst.defers⟩
  rw[sset_eq]
  refine⟨by simp[hst.slots.1],fun i v v' g1 g2=> ?_⟩
  by_cases e:t=i
  ·subst e
   rw[List.getElem?_set_self hlt]at g1
   cases g1
   have hs:s[t]? =some (.slice none 0 0):=by
    rw[zE,xF,xA hlt]at ht
    rw[xA hlt];exact congrArg some ht
   have:=hst.slots.2 t _ v' hs g2
   cases this
   exact .sl ⟨_,jG _ _ _⟩ (xC _) (by simp) (by simp) (.inl rfl)
  ·rw[wS e]at g1
   exact(hst.slots.2 i v v' g1 g2).mono hx (Fro.refl ι w)
 refine wp_mono (h (wE hN (Nat.le_succ _)) A _ a w hst') fun e a' w' ⟨ι',s2,H2,Bd2,g1,g2,g3,g4,g5,g6⟩=> ?_
 refine⟨ι',s2,H2,Bd2,g1,g2,g3,(Keep.refl A w).trans g4,fun n hn=> ?_,NI.trans ((NI.refl H).upd _ _) g6⟩
 rw[g5 n hn,qX _ _ (by omega)]
theorem tr_inv{P:Program}{N0:Nat}{c:Code}{Q:yY}{s:List Value}{H:AH}{Bd:Nat}{X:Type}(I:X->List Value->AH->Nat->Prop)(μ:X->Nat)(x0:X)(s1:List Value)(H1:AH)(B1:Nat)(hs:Sub s H Bd s1 H1 B1)(h0:I x0 s1 H1 B1)
  (round:∀x s H B,I x s H B->Bd<=B->HB H B->Tr P B c (thenQ (fun s' H' B'=>∃y s2 H2 B2,μ y<μ x/\Sub s' H' B' s2 H2 B2/\I y s2 H2 B2) Q) s H B):Tr P N0 (.loop c) Q s H Bd:=by
 intro hN
 refine tr_loop (X:=X×List Value×AH×Nat) (I:=fun x=>I x.1 x.2.1 x.2.2.1 x.2.2.2/\Bd<=x.2.2.2) (fun x=>x.2.1) (fun x=>x.2.2.1) (fun x=>x.2.2.2) (fun x=>μ x.1) (x0,s1,H1,B1) ⟨h0,hs.2.2⟩ hs ?_ hN
 rintro⟨x,s,H,B⟩ ⟨hI,hB⟩ hN0
 refine Tr.of_hb fun hb=>((round x s H B hI hB hb).lower hN0).mono fun e s' H' Bd' hq=> ?_
 obtain⟨hq,hle⟩:=hq
 cases e with
 |normal=>
  obtain⟨y,s2,H2,B2,h1,h2,h3⟩:=hq
  exact⟨(y,s2,H2,B2),⟨h3,wE hB (wE hle h2.2.2)⟩,h1,h2⟩
 |_=>exact hq
theorem tr_acc{P:Program}{N0:Nat}{c:Code}{Q:yY}{s:List Value}{H H0:AH}{B0 Bd:Nat}{α:Type}[Enc α](N:Nat)(acc:Nat->List α)(sl:Nat->Value->List (Nat×Value)){n0 c0:Nat}(hc0:0<c0)(hn0:B0<=n0/\n0<Bd)
  (hs:FitL s (sl 0 (.slice (some ⟨n0,0,some (Enc.k α)⟩) (acc 0).length c0))) (hH:Le (upd H0 n0 (some ⟨qO (acc 0),true⟩)) H)
  (round:∀i n c0 B,i<=N->0<c0->B0<=n->n<B->Bd<=B->HB (upd H0 n (some ⟨qO (acc i),true⟩)) B->
   Tr P B c (thenQ (fun s' H' B'=>i<N/\∃n' c',0<c'/\B0<=n'/\n'<B'/\Le (upd H0 n' (some ⟨qO (acc (i+1)),true⟩)) H'/\s'.length=s.length/\FitL s' (sl (i+1) (.slice (some ⟨n',0,some (Enc.k α)⟩) (acc (i+1)).length c'))) Q)
    (aS s.length unk (sl i (.slice (some ⟨n,0,some (Enc.k α)⟩) (acc i).length c0))) (upd H0 n (some ⟨qO (acc i),true⟩)) B):Tr P N0 (.loop c) Q s H Bd:=by
 refine tr_inv (X:=Nat) (fun i s' H' B'=>i<=N/\∃n c0,0<c0/\B0<=n/\n<B'/\s'=aS s.length unk (sl i (.slice (some ⟨n,0,some (Enc.k α)⟩) (acc i).length c0))/\H'=upd H0 n (some ⟨qO (acc i),true⟩)) (fun i=>N-i) 0 _ _ Bd ⟨hs.fits rfl,hH,xC _⟩
  ⟨xT _,n0,c0,hc0,hn0.1,hn0.2,rfl,rfl⟩ ?_
 rintro i s' H' B' ⟨hi,n,c1,h1,h2,h3,rfl,rfl⟩ hB hb'
 refine(round i n c1 B' hi h1 h2 h3 hB hb').mono fun e s2 H2 B2 hq=> ?_
 cases e with
 |normal=>
  obtain⟨g1,n',c',g2,g3,g4,g5,g7,g6⟩:=hq
  exact⟨i+1,_,_,B2,by omega,⟨g6.fits g7,g5,xC _⟩,g1,n',c',g2,g3,g4,rfl,rfl⟩
 |_=>exact hq
theorem tr_fill{P:Program}{N0:Nat}{c:Code}{Q:yY}{s:List Value}{H H0:AH}{B0 Bd n:Nat}{α:Type}[Enc α](hb:HB H0 B0)(ys:List α)(sl:Nat->List (Nat×Value))(L0:List Value)(hL0:L0.length=ys.length*Enc.k α)(hn0:B0<=n/\n<Bd)
  (hs:FitL s (sl 0)) (hH:Le (upd H0 n (some ⟨L0,true⟩)) H)
  (round:∀i L B,i<=ys.length->L.length=ys.length*Enc.k α->L.take (i*Enc.k α)=qO (ys.take i)->Bd<=B->HB (upd H0 n (some ⟨L,true⟩)) B->
   Tr P B c (thenQ (fun s' H' B'=>∃(y:α),ys[i]? =some y/\Le (upd H0 n (some ⟨lset L (i*Enc.k α) (enc y),true⟩)) H'/\s'.length=s.length/\FitL s' (sl (i+1))) Q) (aS s.length unk (sl i)) (upd H0 n (some ⟨L,true⟩)) B):Tr P N0 (.loop c) Q s H Bd:=by
 refine tr_inv (X:=Nat) (fun i s' H' B'=>i<=ys.length/\∃L,L.length=ys.length*Enc.k α/\L.take (i*Enc.k α)=qO (ys.take i)/\s'=aS s.length unk (sl i)/\H'=upd H0 n (some ⟨L,true⟩)) (fun i=>ys.length-i) 0 _ _ Bd ⟨hs.fits rfl,hH,xC _⟩
  ⟨xT _,L0,hL0,by simp[qO],rfl,rfl⟩ ?_
 rintro i s' H' B' ⟨hi,L,h1,h2,rfl,rfl⟩ hB hb'
 refine(round i L B' hi h1 h2 hB hb').mono fun e s2 H2 B2 hq=> ?_
 cases e with
 |normal=>
  obtain⟨y,g1,g2,g4,g3⟩:=hq
  have hlt:=(xR.1 g1).1
  have hm:i*Enc.k α+Enc.k α<=ys.length*Enc.k α:=by
   have:i*Enc.k α+Enc.k α=(i+1)*Enc.k α:=(Nat.succ_mul _ _).symm
   rw[this];exact Nat.mul_le_mul_right _ hlt
  refine⟨i+1,_,_,B2,by omega,⟨g3.fits g4,g2,xC _⟩,hlt,_,by rw[lset_length];exact h1,?_,rfl,rfl⟩
  rw[xP hlt,qK,qT,<-h2,(xR.1 g1).2]
  have hel:=jN y
  refine List.ext_getElem? fun j=> ?_
  rw[List.getElem?_take,List.getElem?_append,Nat.succ_mul]
  simp only[xQ,h1]
  by_cases hj:j<i*Enc.k α
  ·rw[if_pos (by omega),if_pos (by omega),lset_get _ _ _ _ (by omega),if_pos hj,List.getElem?_take,if_pos hj]
  ·by_cases hj2:j<i*Enc.k α+Enc.k α
   ·rw[if_pos hj2,if_neg (by omega),lset_get _ _ _ _ (by omega),if_neg hj,if_pos (by omega)]
    congr 1;omega
   ·rw[if_neg hj2,if_neg (by omega),wQ (by omega)]
 |_=>exact hq
theorem Tr.done{P:Program}{N0:Nat}{c:Code}{Q:yY}{s s':List Value}{H H0:AH}{B0 Bd n:Nat}(hb:HB H0 B0)(hn:B0<=n)(hs:PubL H (fun m=>m=n) s s')(hH:Le H0 H)(h:Tr P N0 c Q s' H0 Bd):Tr P N0 c Q s H Bd:=
 Tr.pub (fun m=>m=n) hs hH (fun m b hm e=>by subst e;rw[hb.fresh m hn]at hm;cases hm) (xC _) h
theorem PubL_refl{H:AH}{S:Nat->Prop}:∀(s:List Value),PubL H S s s
 |[]=>trivial
 |x::xs=>⟨.inr (.same x),PubL_refl xs⟩
theorem PubL_set{H:AH}{S:Nat->Prop}:∀(s:List Value) (t:Nat) (v:Value),Pub H S (sget s t) v->PubL H S s (sset s t v)
 |[],_,_,_=>trivial
 |x::xs,0,v,h=>⟨.inr h,PubL_refl xs⟩
 |x::xs,t+1,v,h=>⟨.inr (.same x),PubL_set xs t v h⟩
theorem Tr.fin{P:Program}{N0:Nat}{c:Code}{Q:yY}{s:List Value}{H0:AH}{B0 Bd n k len c0:Nat}{α:Type}[Enc α][hk:EncK α k]{xs:List α}(hb:HB H0 B0)(t:Nat)(hn:B0<=n)(ht:sget s t= .slice (some ⟨n,0,some k⟩) len c0)(hl:len=xs.length)
  (h:Tr P N0 c Q (sset s t (lst xs)) H0 Bd):Tr P N0 c Q s (upd H0 n (some ⟨qO xs,true⟩)) Bd:=by
 refine Tr.done hb hn (PubL_set s t _ ?_) (Le.drop hb hn (Le.refl _)) h
 rw[ht]
 exact qV (qJ _ _ _) rfl hk.h hl
theorem Tr.fin2{P:Program}{N0:Nat}{c:Code}{Q:yY}{s:List Value}{H0:AH}{Bd n k len c0:Nat}{α:Type}[Enc α][hk:EncK α k]{xs:List α}(t:Nat)(hf:free H0 n)(ht:sget s t= .slice (some ⟨n,0,some k⟩) len c0)(hl:len=xs.length)
  (h:Tr P N0 c Q (sset s t (lst xs)) H0 Bd):Tr P N0 c Q s (upd H0 n (some ⟨qO xs,true⟩)) Bd:=by
 refine Tr.pub (fun m=>m=n) (PubL_set s t _ ?_) (fun m b hm=> ?_) (fun m b hm e=>by subst e;rw[show H0 m=none from hf]at hm;cases hm) (xC _) h
 ·rw[ht]
  exact qV (qJ _ _ _) rfl hk.h hl
 ·rw[upd_ne _ _ (fun e=>by subst e;rw[show H0 m=none from hf]at hm;cases hm)]
  exact hm
@[go_sem] theorem le_self(n:Nat):(n<=n)=True:=eq_true (xC n)
@[go_sem high] theorem flat_allk {α:Type} [Enc α] {k:Nat} [hk:EncK α k] (xs:List α):(qO xs).take (xs.length*k)=qO xs:=by
 have:=hk.h
 subst this
 exact flat_all xs
@[go_sem high] theorem flat_all1 {α:Type} [Enc α] [hk:EncK α 1] (xs:List α):(qO xs).take xs.length=qO xs:=by
 have:=flat_allk (k:=1) xs
 rwa[Nat.mul_one]at this
theorem jP{H0 G:AH}{m:Nat}{b:Option Blk}(h:free H0 m):Le (upd H0 m b) (upd G m b)=Le H0 G:=by
 refine propext ⟨fun k n c hn=> ?_,fun k n c hn=> ?_⟩
 ·have hne:n≠m:=fun e=>by subst e;rw[show H0 n=none from h]at hn;cases hn
  have:=k n c (by rw[upd_ne _ _ hne];exact hn)
  rwa[upd_ne _ _ hne]at this
 ·by_cases e:n=m
  ·subst e;rw[qJ]at hn ⊢;exact hn
  ·rw[upd_ne _ _ e]at hn ⊢;exact k n c hn
theorem acc_end{H0 G:AH}{B0 B' m ni need cap k len:Nat}{cells cells':List Value}(h1:B0<=m)(h2:m<B')(hl:need=len)(hc:cells=cells')(hle:Le (upd H0 m (some ⟨cells,true⟩)) (upd (upd G ni none) m (some ⟨cells,true⟩))):
  ∃n' c',0<c'/\B0<=n'/\n'<B'/\Le (upd H0 n' (some ⟨cells,true⟩)) (yK G ⟨some ni,cells',need,cap,k⟩ m)/\zB ⟨some ni,cells',need,cap,k⟩ m= .slice (some ⟨n',0,some k⟩) len c':=by
 subst hc
 exact⟨m,vC need cap,by unfold vC;split <;>omega,h1,h2,hle,by simp[zB,hl]⟩
theorem Le_app{H G:AH}{B k m need cap kk:Nat}{cells:List Value}(hb:HB H B)(h1:B<=k)(h2:B<=m):Le H (yK G ⟨some k,cells,need,cap,kk⟩ m)=Le H G:=by
 show Le H (upd (upd G k none) m (some ⟨cells,true⟩))=_
 rw[qA _ (hb.fresh m h2),qA _ (hb.fresh k h1)]
class Sz (α:Type) where
 s:α->Prop
 t:α->Nat
 r:α->Prop
def rg{α:Type}[Sz α](x:α):Prop:=Sz.r x
def sm{α:Type}[Sz α](x:α):Prop:=Sz.s x
def tot{α:Type}[Sz α](x:α):Nat:=Sz.t x
instance :Sz Int:=⟨fun _=>True,fun _=>0,fun n=>R64 n⟩
instance :Sz Bool:=⟨fun _=>True,fun _=>0,fun _=>True⟩
instance :Sz UInt8:=⟨fun _=>True,fun _=>0,fun _=>True⟩
instance :Sz ByteArray:=⟨fun b=>b.size<=281474976710656,fun b=>b.size,fun _=>True⟩
instance {α β:Type} [Sz α] [Sz β]:Sz (α×β):=⟨fun x=>sm x.1/\sm x.2,fun x=>tot x.1+tot x.2,fun x=>rg x.1/\rg x.2⟩
instance {α:Type} [Sz α]:Sz (List α):=⟨fun xs=>xs.length<=281474976710656/\∀x∈xs,sm x,fun xs=>xs.length+(xs.map tot).sum,fun xs=>∀x∈xs,rg x⟩
def szP(n:Nat)(left:Int):Int:=if left-n<0 then -1 else left-n
theorem szP_add{a b:Nat}{left:Int}(h:¬left-a<0):szP (a+b) left=szP b (left-a):=by
 unfold szP
 split <;>split <;>omega
theorem szP_neg{a b:Nat}{left:Int}(h:left-a<0):szP (a+b) left= -1:=by
 unfold szP
 split
 ·rfl
 ·omega
@[simp] theorem tot_pair{α β:Type}[Sz α][Sz β](x:α×β):tot x=tot x.1+tot x.2:=rfl
@[simp] theorem tot_int(x:Int):tot x=0:=rfl
@[simp] theorem tot_bool(x:Bool):tot x=0:=rfl
@[simp] theorem tot_byte(x:UInt8):tot x=0:=rfl
@[simp] theorem tot_str(x:ByteArray):tot x=x.size:=rfl
theorem tot_list{α:Type}[Sz α](xs:List α):tot xs=xs.length+(xs.map tot).sum:=rfl
@[simp] theorem tot_bytes(xs:List UInt8):tot xs=xs.length:=by
 rw[tot_list,show(xs.map (tot:UInt8->Nat))=List.replicate xs.length 0 from by induction xs <;>simp_all[List.replicate_succ]]
 simp
def totTo{α:Type}[Sz α](xs:List α)(i:Nat):Nat:=((xs.take i).map tot).sum
@[simp] theorem totTo_zero{α:Type}[Sz α](xs:List α):totTo xs 0=0:=by simp[totTo]
theorem totTo_succ{α:Type}[Sz α](xs:List α){i:Nat}(h:i<xs.length):totTo xs (i+1)=totTo xs i+tot xs[i]:=by
 simp only[totTo]
 rw[xP h]
 simp only[List.map_append,List.sum_append,List.map_cons,List.map_nil,List.sum_cons,List.sum_nil,Nat.add_zero]
theorem totTo_end{α:Type}[Sz α](xs:List α){i:Nat}(h:xs.length<=i):totTo xs i=(xs.map tot).sum:=by
 simp only[totTo,xO h]
theorem totTo_le{α:Type}[Sz α](xs:List α){i:Nat}(h:i<=xs.length):totTo xs i<=(xs.map tot).sum:=by
 simp only[totTo]
 have:(xs.map tot).sum=((xs.take i).map tot).sum+((xs.drop i).map tot).sum:=by
  rw[<-List.sum_append,<-List.map_append,List.take_append_drop]
 omega
theorem tot_mem{α:Type}[Sz α]{xs:List α}{i:Nat}(h:i<xs.length):tot xs[i]<=(xs.map tot).sum:=by
 have h1:=totTo_succ xs h
 have h2:totTo xs (i+1)<=(xs.map tot).sum:=totTo_le xs (Nat.succ_le_of_lt h)
 omega
theorem sz_step{α:Type}[Sz α]{xs:List α}{i:Nat}(hlt:i<xs.length){left:Int}(hI:0<=left-xs.length-totTo xs i):
  Cnp (szP (tot xs[i]) (left-xs.length-totTo xs i)<0) (-1=szP (tot xs) left)
   (0<=left-xs.length-totTo xs (i+1)/\szP (tot xs[i]) (left-xs.length-totTo xs i)=left-xs.length-totTo xs (i+1)):=by
 have h1:=totTo_succ xs hlt
 have h2:totTo xs (i+1)<=(xs.map tot).sum:=totTo_le xs (Nat.succ_le_of_lt hlt)
 have h3:=tot_list xs
 have h4:szP (tot xs[i]) (left-xs.length-totTo xs i)<0↔left-xs.length-totTo xs (i+1)<0:=by
  unfold szP;split <;>omega
 refine⟨fun h=> ?_,fun h=> ?_⟩
 ·have:=h4.1 h
  unfold szP
  rw[if_pos (by omega)]
 ·rw[h4]at h
  refine⟨by omega,?_⟩
  unfold szP
  rw[if_neg (by omega)]
  omega
theorem sz_end{α:Type}[Sz α]{xs:List α}{i:Nat}(hge:xs.length<=i){left:Int}(hI:0<=left-xs.length-totTo xs i):left-xs.length-totTo xs i=szP (tot xs) left:=by
 have h1:=totTo_end xs hge
 have h3:=tot_list xs
 unfold szP
 rw[if_neg (by omega)]
 omega
theorem szP_or(n:Nat)(left:Int):szP n left= -1\/szP n left=left-n:=by unfold szP;split <;>omega
theorem szP_ub(n:Nat){left:Int}(h:left<=1048576):szP n left<=1048576:=by unfold szP;split <;>omega
theorem szP_go{a b:Nat}{left:Int}{A B:Prop}(hA:szP (a+b) left= -1->A)(hB:szP (a+b) left=szP b (szP a left)->B):Cnp (szP a left<0) A B:=by
 refine⟨fun h=>hA ?_,fun h=>hB ?_⟩
 ·unfold szP at h ⊢;split at h <;>rw[if_pos (by omega)]
 ·have:¬left-a<0:=fun k=>h (by unfold szP;rw[if_pos k];omega)
  rw[szP_add this]
  congr 1
  unfold szP;rw[if_neg this]
theorem szP_last{a:Nat}{left:Int}:Cnp (szP a left<0) (-1=szP a left) True:=by
 refine⟨fun h=> ?_,fun _=>trivial⟩
 unfold szP at h ⊢;split at h
 ·rename_i k;rw[if_pos k]
 ·contradiction
theorem szP_lastT{a:Nat}{left:Int}:Cnp (szP a left<0) (-1=szP a left) (szP a left=szP a left):=by
 have:=szP_last (a:=a) (left:=left)
 exact⟨this.1,fun _=>rfl⟩
@[push_cast] theorem sm_int(x:Int):sm x=True:=(rfl)
theorem sm_str(x:ByteArray):sm x=(x.size<=281474976710656):=(rfl)
theorem qS{α:Type}[Sz α]{xs:List α}(h:sm xs):xs.length<=281474976710656:=h.1
theorem yP{α:Type}[Sz α]{xs:List α}(h:sm xs){x:α}(hx:x∈xs):sm x:=h.2 x hx
theorem yU(xs:List Int):sm xs↔xs.length<=281474976710656:=⟨fun h=>h.1,fun h=>⟨h,fun _ _=>trivial⟩⟩
theorem cmp_step{α:Type}[DecidableEq α]{xs ys:List α}{i:Nat}(hl:xs.length=ys.length)(hI:∀j,j<i->xs[j]? =ys[j]?)(hi:i<xs.length)(hi':i<ys.length){A:Prop}{b:Bool}(hb:b=false)
  (hA:(∀j,j<i+1->xs[j]? =ys[j]?)->A):Cnp (xs[i]=ys[i]) A (b=decide (xs=ys)):=by
 refine⟨fun he=>hA fun j hj=> ?_,fun hne=> ?_⟩
 ·by_cases e:j=i
  ·subst e;simp[hi,hi',he]
  ·exact hI j (by omega)
 ·subst hb
  have:¬xs=ys:=fun e=>by subst e;exact hne rfl
  simp[this]
theorem cmp_end{α:Type}[DecidableEq α]{xs ys:List α}{i:Nat}(hl:xs.length=ys.length)(hI:∀j,j<i->xs[j]? =ys[j]?)(hi:xs.length<=i):true=decide (xs=ys):=by
 have:xs=ys:=List.ext_getElem? fun j=>by
  by_cases hj:j<i
  ·exact hI j hj
  ·rw[wQ (by omega),wQ (by omega)]
 simp[this]
theorem cmp_len{α:Type}[DecidableEq α]{xs ys:List α}(hl:¬xs.length=ys.length):false=decide (xs=ys):=by
 have:¬xs=ys:=fun e=>by subst e;exact hl rfl
 simp[this]
end Go.SC
namespace Go.SC
open Go
structure GIntResult where
 code:Int
 value:Int
 deriving DecidableEq
instance :Enc GIntResult:=Enc.of (fun x=>(x.code,x.value)) fun x y h=>by cases x;cases y;simp_all
@[push_cast] theorem enc_GIntResult(x:GIntResult):enc x=[.int .i64 x.code, .int .i64 x.value]:=(rfl)
structure GIntsResult where
 code:Int
 list:List Int
 deriving DecidableEq
instance :Enc GIntsResult:=Enc.of (fun x=>(x.code,x.list)) fun x y h=>by cases x;cases y;simp_all
@[push_cast] theorem enc_GIntsResult(x:GIntsResult):enc x=[.int .i64 x.code,lst x.list]:=(rfl)
structure GBytesResult where
 code:Int
 bytes:List UInt8
 deriving DecidableEq
instance :Enc GBytesResult:=Enc.of (fun x=>(x.code,x.bytes)) fun x y h=>by cases x;cases y;simp_all
@[push_cast] theorem enc_GBytesResult(x:GBytesResult):enc x=[.int .i64 x.code,lst x.bytes]:=(rfl)
structure GSymbol where
 name:ByteArray
 arity:Int
 deriving DecidableEq
instance :Enc GSymbol:=Enc.of (fun x=>(x.name,x.arity)) fun x y h=>by cases x;cases y;simp_all
@[push_cast] theorem k_GSymbol:Enc.k GSymbol=2:=(rfl)
instance :EncK GSymbol 2:=⟨rfl⟩
@[push_cast] theorem enc_GSymbol(x:GSymbol):enc x=[.string x.name, .int .i64 x.arity]:=(rfl)
instance :Sz GSymbol:=⟨fun x=>sm x.name/\sm x.arity,fun x=>tot x.name+tot x.arity,fun x=>rg x.name/\rg x.arity⟩
theorem sm_GSymbol(x:GSymbol):sm x=(sm x.name/\sm x.arity):=(rfl)
structure GSignature where
 symbols:List GSymbol
 deriving DecidableEq
instance :Enc GSignature:=Enc.of (fun x=>x.symbols) fun x y h=>by cases x;cases y;simp_all
@[push_cast] theorem qN(x:GSignature):enc x=[lst x.symbols]:=(rfl)
@[push_cast] theorem eta_GSignature(x:GSignature):GSignature.mk x.symbols=x:=(rfl)
instance :Sz GSignature:=⟨fun x=>sm x.symbols,fun x=>tot x.symbols,fun x=>rg x.symbols⟩
theorem yN(x:GSignature):sm x=(sm x.symbols):=(rfl)
structure GEquation where
 left:List Int
 right:List Int
 deriving DecidableEq
instance :Enc GEquation:=Enc.of (fun x=>(x.left,x.right)) fun x y h=>by cases x;cases y;simp_all
@[push_cast] theorem k_GEquation:Enc.k GEquation=2:=(rfl)
instance :EncK GEquation 2:=⟨rfl⟩
@[push_cast] theorem enc_GEquation(x:GEquation):enc x=[lst x.left,lst x.right]:=(rfl)
@[push_cast] theorem eta_GEquation(x:GEquation):GEquation.mk x.left x.right=x:=(rfl)
instance :Sz GEquation:=⟨fun x=>sm x.left/\sm x.right,fun x=>tot x.left+tot x.right,fun x=>rg x.left/\rg x.right⟩
theorem zG(x:GEquation):sm x=(sm x.left/\sm x.right):=(rfl)
structure GTheory where
 order:List Int
 equations:List GEquation
 rules:List GEquation
 deriving DecidableEq
instance :Enc GTheory:=Enc.of (fun x=>(x.order,x.equations,x.rules)) fun x y h=>by cases x;cases y;simp_all
@[push_cast] theorem enc_GTheory(x:GTheory):enc x=[lst x.order,lst x.equations,lst x.rules]:=(rfl)
@[push_cast] theorem eta_GTheory(x:GTheory):GTheory.mk x.order x.equations x.rules=x:=(rfl)
instance :Sz GTheory:=⟨fun x=>sm x.order/\sm x.equations/\sm x.rules,fun x=>tot x.order+tot x.equations+tot x.rules,fun x=>rg x.order/\rg x.equations/\rg x.rules⟩
theorem sm_GTheory(x:GTheory):sm x=(sm x.order/\sm x.equations/\sm x.rules):=(rfl)
structure GTheoryResult where
 code:Int
 theory:GTheory
 deriving DecidableEq
instance :Enc GTheoryResult:=Enc.of (fun x=>(x.code,x.theory)) fun x y h=>by cases x;cases y;simp_all
@[push_cast] theorem enc_GTheoryResult(x:GTheoryResult):enc x=[.int .i64 x.code,lst x.theory.order,lst x.theory.equations,lst x.theory.rules]:=(rfl)
structure GPut where
 sector:Int
 bytes:List UInt8
 deriving DecidableEq
instance :Enc GPut:=Enc.of (fun x=>(x.sector,x.bytes)) fun x y h=>by cases x;cases y;simp_all
@[push_cast] theorem k_GPut:Enc.k GPut=2:=(rfl)
instance :EncK GPut 2:=⟨rfl⟩
@[push_cast] theorem enc_GPut(x:GPut):enc x=[.int .i64 x.sector,lst x.bytes]:=(rfl)
@[push_cast] theorem eta_GPut(x:GPut):GPut.mk x.sector x.bytes=x:=(rfl)
instance :Sz GPut:=⟨fun x=>sm x.sector/\sm x.bytes,fun x=>tot x.sector+tot x.bytes,fun x=>rg x.sector/\rg x.bytes⟩
theorem sm_GPut(x:GPut):sm x=(sm x.sector/\sm x.bytes):=(rfl)
theorem tot_GPut(x:GPut):tot x=tot x.sector+tot x.bytes:=(rfl)
structure GDisk where
 sectors:List (List UInt8)
 pending:List GPut
 deriving DecidableEq
instance :Enc GDisk:=Enc.of (fun x=>(x.sectors,x.pending)) fun x y h=>by cases x;cases y;simp_all
@[push_cast] theorem jR(x:GDisk):enc x=[lst x.sectors,lst x.pending]:=(rfl)
@[push_cast] theorem vJ(x:GDisk):GDisk.mk x.sectors x.pending=x:=(rfl)
instance :Sz GDisk:=⟨fun x=>sm x.sectors/\sm x.pending,fun x=>tot x.sectors+tot x.pending,fun x=>rg x.sectors/\rg x.pending⟩
theorem sm_GDisk(x:GDisk):sm x=(sm x.sectors/\sm x.pending):=(rfl)
theorem tot_GDisk(x:GDisk):tot x=tot x.sectors+tot x.pending:=(rfl)
structure GAct where
 kind:Int
 put:GPut
 deriving DecidableEq
instance :Enc GAct:=Enc.of (fun x=>(x.kind,x.put)) fun x y h=>by cases x;cases y;simp_all
instance :EncK GAct 3:=⟨rfl⟩
@[push_cast] theorem enc_GAct(x:GAct):enc x=[.int .i64 x.kind, .int .i64 x.put.sector,lst x.put.bytes]:=(rfl)
@[push_cast] theorem eta_GAct(x:GAct):GAct.mk x.kind x.put=x:=(rfl)
instance :Sz GAct:=⟨fun x=>sm x.kind/\sm x.put,fun x=>tot x.kind+tot x.put,fun x=>rg x.kind/\rg x.put⟩
theorem sm_GAct(x:GAct):sm x=(sm x.kind/\sm x.put):=(rfl)
structure GPage where
 kind:Int
 id:Int
 body:List UInt8
 deriving DecidableEq
instance :Enc GPage:=Enc.of (fun x=>(x.kind,x.id,x.body)) fun x y h=>by cases x;cases y;simp_all
@[push_cast] theorem enc_GPage(x:GPage):enc x=[.int .i64 x.kind, .int .i64 x.id,lst x.body]:=(rfl)
instance :Sz GPage:=⟨fun x=>sm x.kind/\sm x.id/\sm x.body,fun x=>tot x.kind+tot x.id+tot x.body,fun x=>rg x.kind/\rg x.id/\rg x.body⟩
theorem sm_GPage(x:GPage):sm x=(sm x.kind/\sm x.id/\sm x.body):=(rfl)
structure GNode where
 leaf:Bool
 keys:List (List UInt8)
 values:List Int
 kids:List Int
 deriving DecidableEq
instance :Enc GNode:=Enc.of (fun x=>(x.leaf,x.keys,x.values,x.kids)) fun x y h=>by cases x;cases y;simp_all
@[push_cast] theorem enc_GNode(x:GNode):enc x=[.bool x.leaf,lst x.keys,lst x.values,lst x.kids]:=(rfl)
instance :Sz GNode:=⟨fun x=>sm x.leaf/\sm x.keys/\sm x.values/\sm x.kids,fun x=>tot x.leaf+tot x.keys+tot x.values+tot x.kids,fun x=>rg x.leaf/\rg x.keys/\rg x.values/\rg x.kids⟩
theorem sm_GNode(x:GNode):sm x=(sm x.leaf/\sm x.keys/\sm x.values/\sm x.kids):=(rfl)
structure GPageResult where
 code:Int
 page:GPage
 deriving DecidableEq
instance :Enc GPageResult:=Enc.of (fun x=>(x.code,x.page)) fun x y h=>by cases x;cases y;simp_all
@[push_cast] theorem enc_GPageResult(x:GPageResult):enc x=[.int .i64 x.code, .int .i64 x.page.kind, .int .i64 x.page.id,lst x.page.body]:=(rfl)
structure GNodeResult where
 code:Int
 node:GNode
 deriving DecidableEq
instance :Enc GNodeResult:=Enc.of (fun x=>(x.code,x.node)) fun x y h=>by cases x;cases y;simp_all
@[push_cast] theorem enc_GNodeResult(x:GNodeResult):enc x=[.int .i64 x.code, .bool x.node.leaf,lst x.node.keys,lst x.node.values,lst x.node.kids]:=(rfl)
structure GChainResult where
 code:Int
 bytes:List UInt8
 pages:List Int
 deriving DecidableEq
instance :Enc GChainResult:=Enc.of (fun x=>(x.code,x.bytes,x.pages)) fun x y h=>by cases x;cases y;simp_all
@[push_cast] theorem enc_GChainResult(x:GChainResult):enc x=[.int .i64 x.code,lst x.bytes,lst x.pages]:=(rfl)
structure GDraft where
 disk:GDisk
 kept:List Int
 taken:List Int
 deriving DecidableEq
instance :Enc GDraft:=Enc.of (fun x=>(x.disk,x.kept,x.taken)) fun x y h=>by cases x;cases y;simp_all
@[push_cast] theorem enc_GDraft(x:GDraft):enc x=[lst x.disk.sectors,lst x.disk.pending,lst x.kept,lst x.taken]:=(rfl)
structure GActsResult where
 code:Int
 acts:List GAct
 deriving DecidableEq
instance :Enc GActsResult:=Enc.of (fun x=>(x.code,x.acts)) fun x y h=>by cases x;cases y;simp_all
@[push_cast] theorem enc_GActsResult(x:GActsResult):enc x=[.int .i64 x.code,lst x.acts]:=(rfl)
@[push_cast] theorem eta_GActsResult(x:GActsResult):GActsResult.mk x.code x.acts=x:=(rfl)
instance :Sz GActsResult:=⟨fun x=>sm x.code/\sm x.acts,fun x=>tot x.code+tot x.acts,fun x=>rg x.code/\rg x.acts⟩
theorem sm_GActsResult(x:GActsResult):sm x=(sm x.code/\sm x.acts):=(rfl)
structure GRow where
 key:List UInt8
 value:Int
 deriving DecidableEq
instance :Enc GRow:=Enc.of (fun x=>(x.key,x.value)) fun x y h=>by cases x;cases y;simp_all
@[push_cast] theorem k_GRow:Enc.k GRow=2:=(rfl)
instance :EncK GRow 2:=⟨rfl⟩
@[push_cast] theorem enc_GRow(x:GRow):enc x=[lst x.key, .int .i64 x.value]:=(rfl)
@[push_cast] theorem eta_GRow(x:GRow):GRow.mk x.key x.value=x:=(rfl)
instance :Sz GRow:=⟨fun x=>sm x.key/\sm x.value,fun x=>tot x.key+tot x.value,fun x=>rg x.key/\rg x.value⟩
structure GSuper where
 gen:Int
 root:Int
 shadow:Int
 theory:Int
 next_:Int
 version:Int
 moving:Bool
 cursor:List UInt8
 symbols:GSignature
 deriving DecidableEq
instance :Enc GSuper:=Enc.of (fun x=>(x.gen,x.root,x.shadow,x.theory,x.next_,x.version,x.moving,x.cursor,x.symbols)) fun x y h=>by cases x;cases y;simp_all
@[push_cast] theorem vQ(x:GSuper):enc x=[.int .i64 x.gen, .int .i64 x.root, .int .i64 x.shadow, .int .i64 x.theory, .int .i64 x.next_, .int .i64 x.version, .bool x.moving,lst x.cursor,lst x.symbols.symbols]:=(rfl)
@[push_cast] theorem eta_GSuper(x:GSuper):GSuper.mk x.gen x.root x.shadow x.theory x.next_ x.version x.moving x.cursor x.symbols=x:=(rfl)
instance :Sz GSuper:=⟨fun x=>sm x.gen/\sm x.root/\sm x.shadow/\sm x.theory/\sm x.next_/\sm x.version/\sm x.moving/\sm x.cursor/\sm x.symbols,fun x=>tot x.gen+tot x.root+tot x.shadow+tot x.theory+tot x.next_+tot x.version+tot x.moving+tot x.cursor+tot x.symbols,fun x=>rg x.gen/\rg x.root/\rg x.shadow/\rg x.theory/\rg x.next_/\rg x.version/\rg x.moving/\rg x.cursor/\rg x.symbols⟩
theorem sm_GSuper(x:GSuper):sm x=(sm x.gen/\sm x.root/\sm x.shadow/\sm x.theory/\sm x.next_/\sm x.version/\sm x.moving/\sm x.cursor/\sm x.symbols):=(rfl)
structure GSuperResult where
 code:Int
 super:GSuper
 deriving DecidableEq
instance :Enc GSuperResult:=Enc.of (fun x=>(x.code,x.super)) fun x y h=>by cases x;cases y;simp_all
@[push_cast] theorem enc_GSuperResult(x:GSuperResult):enc x=[.int .i64 x.code, .int .i64 x.super.gen, .int .i64 x.super.root, .int .i64 x.super.shadow, .int .i64 x.super.theory, .int .i64 x.super.next_, .int .i64 x.super.version, .bool x.super.moving,lst x.super.cursor,lst x.super.symbols.symbols]:=(rfl)
structure GBaseResult where
 code:Int
 super:GSuper
 theory:GTheory
 next_:GTheory
 deriving DecidableEq
instance :Enc GBaseResult:=Enc.of (fun x=>(x.code,x.super,x.theory,x.next_)) fun x y h=>by cases x;cases y;simp_all
@[push_cast] theorem enc_GBaseResult(x:GBaseResult):enc x=[.int .i64 x.code, .int .i64 x.super.gen, .int .i64 x.super.root, .int .i64 x.super.shadow, .int .i64 x.super.theory, .int .i64 x.super.next_, .int .i64 x.super.version, .bool x.super.moving,lst x.super.cursor,lst x.super.symbols.symbols,lst x.theory.order,lst x.theory.equations,lst x.theory.rules,lst x.next_.order,lst x.next_.equations,lst x.next_.rules]:=(rfl)
structure GL17Walk where
 pages:List Int
 rows:List GRow
 deep:Int
 deriving DecidableEq
instance :Enc GL17Walk:=Enc.of (fun x=>(x.pages,x.rows,x.deep)) fun x y h=>by cases x;cases y;simp_all
@[push_cast] theorem enc_GL17Walk(x:GL17Walk):enc x=[lst x.pages,lst x.rows, .int .i64 x.deep]:=(rfl)
@[push_cast] theorem eta_GL17Walk(x:GL17Walk):GL17Walk.mk x.pages x.rows x.deep=x:=(rfl)
structure GL18State where
 super:GSuper
 kept:List Int
 theory:GTheory
 next_:GTheory
 deriving DecidableEq
instance :Enc GL18State:=Enc.of (fun x=>(x.super,x.kept,x.theory,x.next_)) fun x y h=>by cases x;cases y;simp_all
@[push_cast] theorem enc_GL18State(x:GL18State):enc x=[.int .i64 x.super.gen, .int .i64 x.super.root, .int .i64 x.super.shadow, .int .i64 x.super.theory, .int .i64 x.super.next_, .int .i64 x.super.version, .bool x.super.moving,lst x.super.cursor,lst x.super.symbols.symbols,lst x.kept,lst x.theory.order,lst x.theory.equations,lst x.theory.rules,lst x.next_.order,lst x.next_.equations,lst x.next_.rules]:=(rfl)
inductive VC:Value->Prop
 |bool (b:Bool):VC (.bool b)
 |int (k:IntKind) (n:Int):VC (.int k n)
 |string (s:ByteArray):VC (.string s)
 |nilp:VC (.pointer none)
 |nils:VC (.slice none 0 0)
 |sl {n off k len c:Nat}:VC (.slice (some ⟨n,off,some k⟩) len c)
 |agg {xs:Array Value} (h:∀(i:Nat) v,xs[i]? =some v->VC v):VC (.agg xs)
 |tuple {xs:Array Value} (h:∀(i:Nat) v,xs[i]? =some v->VC v):VC (.tuple xs)
theorem VR.refz{ι:Ren}{w:World}{v v':Value}(fz:Nat->Prop)(h:VR ι w v v')(hc:VC v):VR ⟨ι.m,fz,ι.mp⟩ w v v':=by
 induction h with
 |unk=>cases hc
 |bool b=>exact .bool b
 |int k n=>exact .int k n
 |string s=>exact .string s
 |nilp=>exact .nilp
 |ptr h=>cases hc
 |nils=>exact .nils
 |sl h1 h2 h3 h4 h5=>exact .sl h1 h2 h3 h4 h5
 |agg hs _ ih=>cases hc with|agg hc=>exact .agg hs fun i v v' h1 h2=>ih i v v' h1 h2 (hc i v h1)
 |tuple hs _ ih=>cases hc with|tuple hc=>exact .tuple hs fun i v v' h1 h2=>ih i v v' h1 h2 (hc i v h1)
 |func hs _ ih=>cases hc
 |nilf=>cases hc
 |nili=>cases hc
 |iface _ ih=>cases hc
 |lst0=>cases hc
 |lst=>cases hc
 |vp=>cases hc
 |mp=>cases hc
noncomputable def mns(H:AH):AH:=fun n=>open Classical in if ∃b,H n=some b/\b.own=true then none else H n
def mrg(H H':AH)(Bd:Nat):AH:=fun n=>if n<Bd then H n else H' n
theorem mns_le(H:AH):Le (mns H) H:=fun n b h=>by
 unfold mns at h
 split at h
 ·cases h
 ·exact h
theorem mns_not{H:AH}{n:Nat}{b:Blk}(h:mns H n=some b):b.own=false/\H n=some b:=by
 have h2:=mns_le H n b h
 unfold mns at h
 split at h
 ·cases h
 ·rename_i hn
  refine⟨?_,h2⟩
  cases ho:b.own with
  |false=>rfl
  |true=>exact absurd ⟨b,h2,ho⟩ hn
theorem SR.pubC{A:Nat->Prop}{ι:Ren}{H:AH}{Bd:Nat}{w:World}(hr:Rel A ι H Bd w){S:Nat->Prop}{xs ys:List Value}{t:Array Value}(hp:PubC H S xs ys)(h:SR ι w xs t):SR (frz ι H S) w ys t:=by
 obtain⟨h1,h2⟩:=PubC.get _ _ hp
 refine⟨by rw[<-h1];exact h.1,fun i v v' g1 g2=> ?_⟩
 have hi:=(xR.1 g1).1
 have g3:xs[i]? =some (xs[i]'(by omega)):=xA (by omega)
 exact VR.pub hr (h2 i _ v g3 g1) (h.2 i _ v' g3 g2)
theorem lendG{P:Program}{f:FuncId}{args args':List Value}{H:AH}{Bd:Nat}{K:Value->AH->Nat->Prop}(hp:∀A ι w vs,Rel A ι H Bd w->SR ι w args vs->SR (frz ι H fun n=>∃b,H n=some b/\b.own=true) w args' vs)
  (h:SCalls P f args' (mns H) Bd fun r H' B'=>VC r/\(∀n,n<Bd->H' n=mns H n)/\(∀n b,Bd<=n->H' n=some b->∀v∈b.cells,VC v)/\K r (mrg H H' Bd) B'):SCalls P f args H Bd K:=by
 refine⟨h.1,fun A ι vs w hr hs=> ?_⟩
 have hr1:Rel A (frz ι H fun n=>∃b,H n=some b/\b.own=true) (mns H) Bd w:=hr.pub (mns_le H) fun n b hn ⟨b',h1,h2⟩=>by
  obtain⟨g1,g2⟩:=mns_not hn
  rw[h1]at g2;cases g2;rw[h2]at g1;cases g1
 refine(h.2 A _ vs w hr1 (hp A ι w vs hr hs)).mono fun e w' ⟨v,r,ι',H',Bd',he,⟨hvc,hold,hnew,hK⟩,hB,hrel,hvr,hkp,hag,hni⟩=> ?_
 have hb:=hr.hb
 have hιn:∀n,n<Bd->ι'.m n=ι.m n:=fun n hn=>hag n hn
 have hfz:∀B,ι.fz B->ι'.fz B:=fun B hB=>hkp.fz.1 B (.inl hB)
 have hxt:Ext ι ⟨ι'.m,ι.fz,ι'.mp⟩:=⟨fun n l hn=>by
  have:n<Bd:=by
   rcases xM n Bd with h|h
   ·exact h
   ·rw[hr.bound n h]at hn;cases hn
  show ι'.m n=_
  rw[hιn n this];exact hn,fun _ h=>h,hkp.fz.2⟩
 have hfro:Fro ι w w':=⟨hkp.rows.rows,fun B cs e fr hB hx=>hkp.rows.fz B cs e fr (.inl hB) hx⟩
 have hnew2:∀n b,Bd<=n->H' n=some b->b.own=true:=fun n b hn hx=>by
  cases ho:b.own with
  |true=>rfl
  |false=>
   obtain⟨b',g1,g2⟩:=hni n b hx ho
   have:=mns_le H n b' g1
   rw[hb.fresh n hn]at this;cases this
 have hown:∀n b B base,H n=some b->b.own=true->ι.m n=some (.at B base)->ι'.fz B:=fun n b B base h1 h2 h3=>hkp.fz.1 B (.inr ⟨n,b,base,⟨b,h1,h2⟩,h1,h2,h3⟩)
 have hsame:∀n b,H n=some b->∀B base,ι.m n=some (.at B base)->∀cs e fr,w.heap[B]? =some (.cells cs e fr)->w'.heap[B]? =some (.cells cs e fr):=fun n b h1 B base h3 cs e fr hx=>by
  cases ho:b.own with
  |true=>exact hkp.rows.fz B cs e fr (.inr ⟨n,b,base,⟨b,h1,ho⟩,h1,ho,h3⟩) hx
  |false=>
   rcases hr.blk n b h1 with⟨hv,_⟩|⟨B',base',cs,e1,fr,g1,g2,g3,g4,_⟩
   ·rw[show ι.m n=ι n from rfl,hv]at h3;cases h3
   ·rw[show ι.m n=ι n from rfl,g1]at h3;cases h3
    rw[hkp.block B (xS.1 hx).1 (g4 ho)];exact hx
 refine⟨v,r,⟨ι'.m,ι.fz,ι'.mp⟩,mrg H H' Bd,Bd',he,hK,hB,?_,hvr.refz _ hvc,⟨hkp.os,hkp.tape,hkp.output,hkp.size,hkp.block,hfro,⟨fun _ h=>h,hkp.fz.2⟩,fun _ h=> .inl h⟩,fun n hn=>hιn n hn,fun n b hn ho=> ?_⟩
 ·refine⟨hrel.bound,fun n b hn=> ?_,fun n m b b' B base B' base' hne h1 h2 ho i1 i2=> ?_,hrel.newA,fun n b B base h1 ho i1 hz=> ?_,fun B hB=>Nat.lt_of_lt_of_le (hr.fzlt B hB) hkp.size,fun n b hn hq=> ?_,hrel.mp⟩
  ·unfold mrg at hn
   split at hn
   ·rename_i hlt
    rcases hr.blk n b hn with⟨hv,hc⟩|⟨B,base,cs,e1,fr,g1,g2,g3,g4,g5⟩
    ·exact .inl ⟨(hιn n hlt).trans hv,hc⟩
    ·refine .inr ⟨B,base,cs,e1,fr,(hιn n hlt).trans g1,hsame n b hn B base g1 _ _ _ g2,g3,g4,fun i v hv=> ?_⟩
     obtain⟨v',k1,k2⟩:=g5 i v hv
     exact⟨v',k1,k2.mono hxt hfro⟩
   ·rename_i hge
    rcases hrel.blk n b hn with⟨hv,hc⟩|⟨B,base,cs,e1,fr,g1,g2,g3,g4,g5⟩
    ·exact .inl ⟨hv,hc⟩
    ·refine .inr ⟨B,base,cs,e1,fr,g1,g2,g3,g4,fun i v hv=> ?_⟩
     obtain⟨v',k1,k2⟩:=g5 i v hv
     exact⟨v',k1,k2.refz _ (hnew n b (by omega) hn v (wC hv))⟩
  ·unfold mrg at h1 h2
   split at h1
   ·rename_i hn
    have j1:ι.m n=some (.at B base):=(hιn n hn).symm.trans i1
    split at h2
    ·rename_i hm
     exact hr.apart n m b b' B base B' base' hne h1 h2 ho j1 ((hιn m hm).symm.trans i2)
    ·rename_i hm
     intro e;subst e
     exact hrel.froz m b' B base' h2 (hnew2 m b' (by omega) h2) i2 (hown n b B base h1 ho j1)
   ·rename_i hn
    split at h2
    ·rename_i hm
     have j2:ι.m m=some (.at B' base'):=(hιn m hm).symm.trans i2
     cases ho2:b'.own with
     |true=>
      intro e;subst e
      exact hrel.froz n b B base h1 ho i1 (hown m b' B base' h2 ho2 j2)
     |false=>
      refine hrel.apart n m b b' B base B' base' hne h1 ?_ ho i1 i2
      rw[hold m hm]
      unfold mns
      rw[if_neg]
      ·exact h2
      ·rintro⟨c,c1,c2⟩
       rw[h2]at c1;cases c1;rw[ho2]at c2;cases c2
    ·exact hrel.apart n m b b' B base B' base' hne h1 h2 ho i1 i2
  ·unfold mrg at h1
   split at h1
   ·rename_i hn
    exact hr.froz n b B base h1 ho ((hιn n hn).symm.trans i1) hz
   ·exact hrel.froz n b B base h1 ho i1 (hfz B hz)
  ·unfold mrg at hn
   split at hn
   ·rename_i hlt;exact⟨(hιn n hlt).trans (hr.glob n b hn hq).1,(hr.glob n b hn hq).2.mono hfro.rows⟩
   ·exact hrel.glob n b hn hq
 ·unfold mrg at hn
  split at hn
  ·exact⟨b,hn,ho⟩
  ·rename_i hge
   have:=hnew2 n b (by omega) hn
   rw[ho]at this;cases this
theorem lend{P:Program}{f:FuncId}{args args':List Value}{H:AH}{Bd:Nat}{K:Value->AH->Nat->Prop}(hp:PubC H (fun n=>∃b,H n=some b/\b.own=true) args args')
  (h:SCalls P f args' (mns H) Bd fun r H' B'=>VC r/\(∀n,n<Bd->H' n=mns H n)/\(∀n b,Bd<=n->H' n=some b->∀v∈b.cells,VC v)/\K r (mrg H H' Bd) B'):SCalls P f args H Bd K:=
 lendG (fun _ _ _ _ hr hs=>SR.pubC hr hp hs) h
theorem give{P:Program}{f:FuncId}{args args':List Value}{H H1:AH}{Bd:Nat}{K:Value->AH->Nat->Prop}(S:Nat->Prop)(hp:PubC H S args args')(hle:Le H1 H)(hS:∀n b,H1 n=some b->¬S n)
  (h:SCalls P f args' H1 Bd K):SCalls P f args H Bd K:=by
 refine⟨h.1,fun A ι vs w hr hs=> ?_⟩
 refine(h.2 A _ vs w (hr.pub hle hS) (SR.pubC hr hp hs)).mono fun e w' ⟨v,r,ι',H',Bd',he,hK,hB,hrel,hvr,hkp,hag,hni⟩=> ?_
 refine⟨v,r,ι',H',Bd',he,hK,hB,hrel,hvr,(Keep.refl A w (zF ι H S).fz (hr.frzA S)).trans hkp,hag,fun n b hn ho=> ?_⟩
 obtain⟨b',g1,g2⟩:=hni n b hn ho
 exact⟨b',hle n b' g1,g2⟩
inductive RN (σ:List (Option Nat)) (Bd:Nat):Value->Value->Prop
 |same {v:Value} (h:NB Bd v):RN σ Bd v v
 |sl {i m off k len c:Nat} (h:σ[i]? =some (some m)):RN σ Bd (.slice (some ⟨Bd+i,off,some k⟩) len (len+1)) (.slice (some ⟨m,off,some k⟩) len c)
 |nil {i k:Nat} (h:σ[i]? =some none):RN σ Bd (.slice (some ⟨Bd+i,0,some k⟩) 0 1) (.slice none 0 0)
 |agg {xs ys:Array Value} (hs:xs.size=ys.size) (h:∀(i:Nat) v u,xs[i]? =some v->ys[i]? =some u->RN σ Bd v u):RN σ Bd (.agg xs) (.agg ys)
 |tuple {xs ys:Array Value} (hs:xs.size=ys.size) (h:∀(i:Nat) v u,xs[i]? =some v->ys[i]? =some u->RN σ Bd v u):RN σ Bd (.tuple xs) (.tuple ys)
def putN(H:AH)(Bd:Nat)(L:List (List Value)):AH:=fun n=>if n<Bd then H n else(L[n-Bd]?).map fun c=>⟨c,true⟩
structure Anew (H:AH) (Bd:Nat) (r:Value) (H':AH) (σ:List (Option Nat)) (L:List (List Value)) (r0:Value):Prop where
 len:σ.length=L.length
 le:Le H H'
 val:RN σ Bd r0 r
 zero:∀i:Nat,σ[i]? =some none->L[i]? =some []
 blk:∀(i m:Nat),σ[i]? =some (some m)->Bd<=m/\∃b c,H' m=some b/\b.own=true/\L[i]? =some c/\c.length=b.cells.length/\∀(j:Nat) v u,c[j]? =some v->b.cells[j]? =some u->RN σ Bd v u
 nodup:∀(i j m:Nat),σ[i]? =some (some m)->σ[j]? =some (some m)->i=j
def rnR(ι:Ren)(Bd:Nat)(σ:List (Option Nat)):Ren:=⟨fun n=>if n<Bd then ι n else match σ[n-Bd]? with
 |some (some m)=>ι m
 |some none=>some .void
 |none=>none,ι.fz,ι.mp⟩
theorem rnR_lt{ι:Ren}{Bd:Nat}{σ:List (Option Nat)}{n:Nat}(h:n<Bd):rnR ι Bd σ n=ι n:=by simp[rnR,h]
theorem rnR_add{ι:Ren}{Bd:Nat}{σ:List (Option Nat)}{i m:Nat}(h:σ[i]? =some (some m)):rnR ι Bd σ (Bd+i)=ι m:=by
 show(if Bd+i<Bd then ι (Bd+i)else _)=_
 rw[if_neg (by omega),Nat.add_sub_cancel_left,h]
theorem rnR_void{ι:Ren}{Bd:Nat}{σ:List (Option Nat)}{i:Nat}(h:σ[i]? =some none):rnR ι Bd σ (Bd+i)=some .void:=by
 show(if Bd+i<Bd then ι (Bd+i)else _)=_
 rw[if_neg (by omega),Nat.add_sub_cancel_left,h]
theorem VR.rn{ι:Ren}{w:World}{Bd:Nat}{σ:List (Option Nat)}{v0 v:Value}(hn:RN σ Bd v0 v):∀ {x:Value},VR ι w v x->VR (rnR ι Bd σ) w v0 x:=by
 induction hn with
 |same h=>
  intro x hx
  have hx':Ext (cutR ι Bd) (rnR ι Bd σ):=by
   refine⟨fun n l hl=> ?_,FzLe.refl _⟩
   simp only[cutR]at hl
   split at hl
   ·rename_i hlt;rw[rnR_lt hlt];exact hl
   ·cases hl
  exact(hx.cut h).mono hx' (Fro.refl _ w)
 |sl h=>
  intro x hx
  cases hx with
  |sl h1 h2 h3 h4 h5=>
   refine .sl (by rw[rnR_add h];exact h1) h2 (by omega) (by omega) (h5.imp id ?_)
   rintro⟨B,base,size,g1,g2⟩
   exact⟨B,base,size,(rnR_add h).trans g1,g2⟩
 |nil h=>
  intro x hx
  cases hx with
  |nils=>exact .sl ⟨_,rnR_void h⟩ (xC _) (by simp) (by simp) (.inl rfl)
 |agg hs _ ih=>
  intro x hx
  rename_i xs ys _
  cases hx with
  |agg hs2 h2=>
   refine .agg (hs.trans hs2) fun i v u h3 h4=> ?_
   have hi:=(xS.1 h3).1
   exact ih i v (ys[i]'(by omega)) h3 (wA (by omega)) (h2 i _ u (wA (by omega)) h4)
 |tuple hs _ ih=>
  intro x hx
  rename_i xs ys _
  cases hx with
  |tuple hs2 h2=>
   refine .tuple (hs.trans hs2) fun i v u h3 h4=> ?_
   have hi:=(xS.1 h3).1
   exact ih i v (ys[i]'(by omega)) h3 (wA (by omega)) (h2 i _ u (wA (by omega)) h4)
theorem anew{P:Program}{f:FuncId}{args:List Value}{H:AH}{Bd:Nat}{post:Value->AH->Nat->Prop}
  (h:SCalls P f args H Bd fun r H' _=>∃σ L r0,Anew H Bd r H' σ L r0/\post r0 (putN H Bd L) (Bd+L.length)):SCalls P f args H Bd post:=by
 refine⟨h.1,fun A ι vs w hr hs=> ?_⟩
 refine(h.2 A ι vs w hr hs).mono fun e w' ⟨v,r,ι',H',Bd',he,⟨σ,L,r0,ha,hK⟩,hB,hrel,hvr,hkp,hag,hni⟩=> ?_
 have hb:=hr.hb
 have hcl:∀ {v x:Value},NB Bd v->VR ι' w' v x->VR (rnR ι' Bd σ) w' v x:=fun hn hx=>VR.rn (.same hn) hx
 have hge:∀n,¬n<Bd->∃i,n=Bd+i:=fun n hn=>⟨n-Bd,by omega⟩
 have hput:∀ {n b},putN H Bd L n=some b->(n<Bd/\H n=some b)\/∃i c,n=Bd+i/\L[i]? =some c/\b=⟨c,true⟩:=fun{n b} hn=>by
  unfold putN at hn
  split at hn
  ·rename_i hlt;exact .inl ⟨hlt,hn⟩
  ·rename_i hlt
   cases hc:L[n-Bd]? with
   |none=>rw[hc]at hn;cases hn
   |some c=>rw[hc]at hn;cases hn;exact .inr ⟨n-Bd,c,by omega,hc,rfl⟩
 have hsig:∀ {i:Nat} {c},L[i]? =some c->(σ[i]? =some Option.none/\c=[])\/∃m,σ[i]? =some (some m):=fun{i c} hc=>by
  have hi:=(xR.1 hc).1
  have hi2:i<σ.length:=by rw[ha.len];exact hi
  cases hs:σ[i]? with
  |none=>rw[xA hi2]at hs;cases hs
  |some o=>cases o with
   |none=>have:=ha.zero i hs;rw[hc]at this;cases this;exact .inl ⟨rfl,rfl⟩
   |some m=>exact .inr ⟨m,rfl⟩
 refine⟨v,r0,rnR ι' Bd σ,putN H Bd L,Bd+L.length,he,hK,xB _ _,?_,hvr.rn ha.val,⟨hkp.os,hkp.tape,hkp.output,hkp.size,hkp.block,hkp.rows,hkp.fz,hkp.fzA⟩,fun n hn=>(rnR_lt hn).trans (hag n hn),fun n b hn ho=> ?_⟩
 ·refine⟨fun n hn=> ?_,fun n b hn=> ?_,fun n m b b' B base B' base' hne h1 h2 ho i1 i2=> ?_,hrel.newA,fun n b B base h1 ho i1=> ?_,hrel.fzlt,fun n b hn hq=> ?_,hrel.mp⟩
  ·obtain⟨i,rfl⟩:=hge n (by omega)
   have:σ[i]? =none:=wQ (by rw[ha.len];omega)
   show(if Bd+i<Bd then ι' (Bd+i)else _)=_
   rw[if_neg (by omega),Nat.add_sub_cancel_left,this]
  ·rcases hput hn with⟨hlt,hn⟩|⟨i,c,rfl,hc,rfl⟩
   ·rcases hrel.blk n b (ha.le n b hn)with⟨hv,hc⟩|⟨B,base,cs,e1,fr,g1,g2,g3,g4,g5⟩
    ·exact .inl ⟨(rnR_lt hlt).trans hv,hc⟩
    ·refine .inr ⟨B,base,cs,e1,fr,(rnR_lt hlt).trans g1,g2,g3,g4,fun i v hv=> ?_⟩
     obtain⟨v',k1,k2⟩:=g5 i v hv
     exact⟨v',k1,hcl (hb.nb n b hn v (wC hv)) k2⟩
   ·rcases hsig hc with⟨hs,rfl⟩|⟨m,hs⟩
    ·exact .inl ⟨rnR_void hs,rfl⟩
    ·obtain⟨_,b,c',g1,g2,g3,g4,g5⟩:=ha.blk i m hs
     rw[hc]at g3;cases g3
     rcases hrel.blk m b g1 with⟨hv,hcn⟩|⟨B,base,cs,e1,fr,k1,k2,k3,k4,k5⟩
     ·refine .inl ⟨(rnR_add hs).trans hv,?_⟩
      rw[hcn]at g4
      exact List.eq_nil_of_length_eq_zero g4
     ·refine .inr ⟨B,base,cs,e1,fr,(rnR_add hs).trans k1,k2,fun _=>k3 g2,(fun h=>by cases h),fun j v hv=> ?_⟩
      have hj:j<b.cells.length:=g4▸(xR.1 hv).1
      obtain⟨v',l1,l2⟩:=k5 j (b.cells[j]'(by omega)) (xA (by omega))
      exact⟨v',l1,l2.rn (g5 j v _ hv (xA (by omega)))⟩
  ·rcases hput h1 with⟨hn,h1⟩|⟨i,c,rfl,hc,rfl⟩
   ·rw[rnR_lt hn]at i1
    rcases hput h2 with⟨hm,h2⟩|⟨j,d,rfl,hd,rfl⟩
    ·rw[rnR_lt hm]at i2
     exact hrel.apart n m b b' B base B' base' hne (ha.le n b h1) (ha.le m b' h2) ho i1 i2
    ·rcases hsig hd with⟨hs,rfl⟩|⟨m,hs⟩
     ·rw[rnR_void hs]at i2;cases i2
     ·obtain⟨g0,b2,c',g1,g2,_⟩:=ha.blk j m hs
      rw[rnR_add hs]at i2
      exact hrel.apart n m b b2 B base B' base' (by omega) (ha.le n b h1) g1 ho i1 i2
   ·rcases hsig hc with⟨hs,rfl⟩|⟨n,hs⟩
    ·rw[rnR_void hs]at i1;cases i1
    ·obtain⟨g0,b1,c',g1,g2,_⟩:=ha.blk i n hs
     rw[rnR_add hs]at i1
     rcases hput h2 with⟨hm,h2⟩|⟨j,d,rfl,hd,rfl⟩
     ·rw[rnR_lt hm]at i2
      exact hrel.apart n m b1 b' B base B' base' (by omega) g1 (ha.le m b' h2) g2 i1 i2
     ·rcases hsig hd with⟨ht,rfl⟩|⟨m,ht⟩
      ·rw[rnR_void ht]at i2;cases i2
      ·obtain⟨_,b2,_,k1,_⟩:=ha.blk j m ht
       rw[rnR_add ht]at i2
       refine hrel.apart n m b1 b2 B base B' base' (fun e=> ?_) g1 k1 g2 i1 i2
       subst e
       exact hne (by rw[ha.nodup i j n hs ht])
  ·rcases hput h1 with⟨hn,h1⟩|⟨i,c,rfl,hc,rfl⟩
   ·rw[rnR_lt hn]at i1
    exact hrel.froz n b B base (ha.le n b h1) ho i1
   ·rcases hsig hc with⟨hs,rfl⟩|⟨n,hs⟩
    ·rw[rnR_void hs]at i1;cases i1
    ·obtain⟨_,b1,c',g1,g2,_⟩:=ha.blk i n hs
     rw[rnR_add hs]at i1
     exact hrel.froz n b1 B base g1 g2 i1
  ·rcases hput hn with⟨hlt,hn⟩|⟨i,c,rfl,hc,rfl⟩
   ·exact⟨(rnR_lt hlt).trans (hrel.glob n b (ha.le n b hn) hq).1,(hrel.glob n b (ha.le n b hn) hq).2⟩
   ·cases hq
 ·rcases hput hn with⟨_,hn⟩|⟨i,c,rfl,_,rfl⟩
  ·exact⟨b,hn,ho⟩
  ·cases ho
theorem sm_take{α:Type}[Sz α]{xs:List α}(h:sm xs)(n:Nat):sm (xs.take n):=⟨by rw[xQ];have:=h.1;omega,fun x hx=>h.2 x (List.mem_of_mem_take hx)⟩
theorem sm_drop{α:Type}[Sz α]{xs:List α}(h:sm xs)(n:Nat):sm (xs.drop n):=⟨by rw[xI];have:=h.1;omega,fun x hx=>h.2 x (List.mem_of_mem_drop hx)⟩
def fidx{α:Type}(p:α->Bool)(xs:List α):Int:=match xs.findIdx? p with
 |some i=>i
 |none=> -1
theorem vY{α:Type}{p:α->Bool}{xs:List α}(h:∀j,j<xs.length->∀x,xs[j]? =some x->p x=false):fidx p xs= -1:=by
 have:xs.findIdx? p=none:=by
  rw[List.findIdx?_eq_none_iff]
  intro x hx
  obtain⟨j,hj,rfl⟩:=wO hx
  exact h j hj _ (xA hj)
 rw[fidx,this]
theorem zC{α:Type}{p:α->Bool}{xs:List α}{i:Nat}(hi:i<xs.length)(h:∀j,j<i->∀x,xs[j]? =some x->p x=false)(hp:p xs[i]=true):fidx p xs=i:=by
 have:xs.findIdx? p=some i:=by
  rw[List.findIdx?_eq_some_iff_getElem]
  refine⟨hi,hp,fun j hj=> ?_⟩
  have:=h j hj _ (xA (by omega))
  simp[this]
 rw[fidx,this]
theorem fidx_ge{α:Type}(p:α->Bool)(xs:List α):decide (fidx p xs≥0)=xs.any p:=by
 cases h:xs.findIdx? p with
 |none=>
  rw[fidx,h]
  rw[List.findIdx?_eq_none_iff]at h
  have:xs.any p=false:=by simpa using h
  rw[this];rfl
 |some i=>
  rw[fidx,h]
  obtain⟨hi,hp,_⟩:=List.findIdx?_eq_some_iff_getElem.1 h
  have:xs.any p=true:=List.any_eq_true.2 ⟨_,xH hi,hp⟩
  rw[this]
  simp
def isNm(s:ByteArray):Bool:=decide (1<=s.size/\s.size<=3/\∀i,i<s.size->97<=byteAt s i/\byteAt s i<=122)
def symL:List GSymbol->Int
 |[]=>0
 |x::r=>if isNm x.name=true then(if 0<=x.arity/\x.arity<=2 then symL r else 3)else 5
def sigG(s:GSignature):Int:=
 if symL s.symbols≠0 then symL s.symbols
 else if ¬(s.symbols.map (·.name)).Nodup then 6
 else if s.symbols.any (fun x=>decide (x.arity=0))=true then 0 else 4
def kE(s:GSignature):Int:=if s.symbols.length<1\/s.symbols.length>6 then 2 else sigG s
def isSym(s:GSignature)(n:Int):Bool:=decide (0<=n/\n<=s.symbols.length-1)
def symIdx(s:GSignature)(name:ByteArray):Int:=fidx (fun x=>decide (x.name=name)) s.symbols
theorem nodup_of{α:Type}{xs:List α}(h:∀(i j:Nat) x y,j<i->xs[i]? =some x->xs[j]? =some y->x≠y):xs.Nodup:=
 List.pairwise_iff_getElem.2 fun i j hi hj hij e=>h j i _ _ hij (xA hj) (xA hi) e.symm
theorem nodup_not{α:Type}{xs:List α}{i j:Nat}(hij:j<i)(hi:i<xs.length)(h:xs[i]=xs[j]'(by omega)):¬xs.Nodup:=
 fun k=>List.pairwise_iff_getElem.1 k j i (by omega) hi hij h.symm
theorem nodup_map{α β:Type}{f:α->β}{xs:List α}(h:∀(i j:Nat) x y,j<i->i<xs.length->xs[i]? =some x->xs[j]? =some y->f x≠f y):(xs.map f).Nodup:=by
 refine nodup_of fun i j x y hij hx hy=> ?_
 rw[wN]at hx hy
 cases hx':xs[i]? with
 |none=>rw[hx']at hx;cases hx
 |some x'=>
  cases hy':xs[j]? with
  |none=>rw[hy']at hy;cases hy
  |some y'=>
   rw[hx']at hx;rw[hy']at hy
   cases hx;cases hy
   exact h i j x' y' hij (xR.1 hx').1 hx' hy'
theorem nodup_map_not{α β:Type}{f:α->β}{xs:List α}{i j:Nat}(hij:j<i)(hi:i<xs.length)(h:f xs[i]=f (xs[j]'(by omega))):¬(xs.map f).Nodup:=
 nodup_not hij (by simpa using hi) (by simpa using h)
theorem vL{α:Type}{xs:List α}{p:α->Bool}(h:∀j,j<xs.length->∀x,xs[j]? =some x->p x=false):xs.any p=false:=by
 rw[List.any_eq_false]
 intro x hx
 obtain⟨j,hj,rfl⟩:=wO hx
 simpa using h j hj _ (xA hj)
theorem any_hit{α:Type}{xs:List α}{p:α->Bool}{i:Nat}(hi:i<xs.length)(h:p xs[i]=true):xs.any p=true:=List.any_eq_true.2 ⟨_,xH hi,h⟩
theorem symIdx_self{s:GSignature}{i:Nat}(hi:i<s.symbols.length):symIdx s s.symbols[i].name=i↔∀j (hj:j<i),s.symbols[j].name≠s.symbols[i].name:=by
 unfold symIdx
 constructor
 ·intro h j hj e
  have h2:fidx (fun x=>decide (x.name=s.symbols[i].name)) s.symbols<=j:=by
   unfold fidx
   cases hc:s.symbols.findIdx? (fun x=>decide (x.name=s.symbols[i].name))with
   |none=>show(-1:Int)<=j;omega
   |some k=>
    obtain⟨hk,_,hlt⟩:=List.findIdx?_eq_some_iff_getElem.1 hc
    show(k:Int)<=j
    rcases xM j k with g|g
    ·have:=hlt j g;simp[e]at this
    ·omega
  omega
 ·intro h
  exact zC hi (fun j hj x hx=>by
   rw[xA (by omega)]at hx
   cases hx
   simpa using h j hj) (by simp)
def ordG(s:GSignature)(order:List Int):Int:=
 if order.length≠s.symbols.length then 2
 else if order.any (fun n=> !isSym s n)=true then 3
 else if order.Nodup then 0 else 6
def ordF(s:GSignature)(order:List Int):Int:=if kE s≠0 then kE s else ordG s order
end Go.SC
namespace Go.SC
open Go Go.RowKit
theorem Rel.below{A:Nat->Prop}{ι:Ren}{H:AH}{Bd:Nat}{w w':World}(hr:Rel A ι H Bd w)(h:Below w.heap.size w w'):Rel A ι H Bd w':=by
 have hfro:Fro ι w w':=⟨fun B cs e fr hB=>⟨cs,fr,(h.block B (xS.1 hB).1).trans hB,rfl⟩,fun B cs e fr _ hx=>(h.block B (xS.1 hx).1).trans hx⟩
 refine⟨hr.bound,fun n b hn=> ?_,hr.apart,fun B hB=>hr.newA B (wE h.size hB),hr.froz,fun B hB=>Nat.lt_of_lt_of_le (hr.fzlt B hB) h.size,fun n b h1 h2=>⟨(hr.glob n b h1 h2).1,(hr.glob n b h1 h2).2.mono hfro.rows⟩,fun B p hp=>⟨(hr.mp B p hp).1,(hr.mp B p hp).2.other (h.block B (by obtain⟨es,c,h1,_⟩:=(hr.mp B p hp).2;exact(xS.1 h1).1))⟩⟩
 refine(hr.blk n b hn).mono (Ext.refl ι) hfro fun B base hB=> ?_
 exact h.block B (hr.lt hn hB)
theorem Keep.below{A:Nat->Prop}{ι:Ren}{w w':World}(h:Below w.heap.size w w'):Keep A ι w ι w':=
 ⟨h.os,h.tape,h.output,h.size,fun B hB _=>h.block B hB,
  ⟨fun B cs e fr hB=>⟨cs,fr,(h.block B (xS.1 hB).1).trans hB,rfl⟩,fun B cs e fr _ hx=>(h.block B (xS.1 hx).1).trans hx⟩,FzLe.refl _,fun _ h=> .inl h⟩
theorem SCalls.lib{P:Program}{f:FuncId}{args:List Value}{H:AH}{Bd:Nat}{K:Value->AH->Nat->Prop}(hent:Enters P f)(r:Value)
  (h:∀(A:Nat->Prop) (ι:Ren) (vs:Array Value) (w:World),Rel A ι H Bd w->SR ι w args vs->Calls P f vs w fun e w'=>∃v,e= .returned v/\VR ι w' r v/\Below w.heap.size w w') (hK:K r H Bd):SCalls P f args H Bd K:=by
 refine⟨hent,fun A ι vs w hr hs=>(h A ι vs w hr hs).mono fun e w' ⟨v,he,hv,hb⟩=> ?_⟩
 exact⟨v,r,ι,H,Bd,he,hK,xC _,hr.below hb,hv,Keep.below hb,Agr.refl _ _,NI.refl _⟩
theorem SR.one{ι:Ren}{w:World}{x:Value}{vs:Array Value}(h:SR ι w [x] vs):∃v,vs= #[v]/\VR ι w x v:=by
 obtain⟨l⟩:=vs
 obtain⟨h1,h2⟩:=h
 match l,h1 with
 |[v],_=>exact⟨v,rfl,h2 0 x v rfl rfl⟩
theorem SR.two{ι:Ren}{w:World}{x y:Value}{vs:Array Value}(h:SR ι w [x,y] vs):∃v u,vs= #[v,u]/\VR ι w x v/\VR ι w y u:=by
 obtain⟨l⟩:=vs
 obtain⟨h1,h2⟩:=h
 match l,h1 with
 |[v,u],_=>exact⟨v,u,rfl,h2 0 x v rfl rfl,h2 1 y u rfl rfl⟩
theorem VR.str{ι:Ren}{w:World}{b:ByteArray}{v:Value}(h:VR ι w (.string b) v):v= .string b:=by cases h;rfl
theorem VR.num{ι:Ren}{w:World}{k:IntKind}{n:Int}{v:Value}(h:VR ι w (.int k n) v):v= .int k n:=by cases h;rfl
theorem Rel.tab{P:Program}{A:Nat->Prop}{ι:Ren}{H:AH}{Bd:Nat}{w:World}(hr:Rel A ι H Bd w){name:String}{k:IntKind}{zs:List Int}{g:Nat}(hg:P.globalNamed name=some g)(hH:H g=some ⟨zs.map (Value.int k),false⟩):
  Lib.TabIs P w name k zs:=by
 obtain⟨hι,cs,e,fr,hB,hsz⟩:=hr.glob g _ hH rfl
 unfold Lib.TabIs World.var?
 rw[hg,Option.bind_some,hB]
 rcases hr.blk g _ hH with⟨hv,_⟩|⟨B,base,cs',e',fr',h1,h2,_,_,h5⟩
 ·rw[hι]at hv;cases hv
 rw[hι]at h1;cases h1
 rw[hB]at h2;cases h2
 show some cs=_
 congr 1
 simp only[List.length_map]at hsz
 refine Array.ext (by simp[<-hsz]) fun i hi1 hi2=> ?_
 have hi3:i<zs.length:=by simpa using hi2
 obtain⟨v',g1,g2⟩:=h5 i (Value.int k zs[i]) (by simp[hi3])
 rw[Nat.zero_add,wA hi1]at g1
 cases g1
 simpa using g2.num
theorem below_grow{w:World}(n:Nat)(os:Array Obj):Below w.heap.size w (Sort.grow (w.drewN n) os):=by
 refine(below_drewN (Below.refl _ w) n).trans ⟨rfl,rfl,rfl,?_,fun i hi=> ?_⟩
 ·simp[Sort.grow]
 ·show((w.drewN n).heap++os)[i]? =_
  rw[Array.getElem?_append_left (by simpa using hi)]
def trimB(s cut:ByteArray):ByteArray:=⟨(Lib.trimS s.data.toList cut.data.toList).toArray⟩
theorem dropWhile_all{α:Type}(p:α->Bool)(l:List α):l.dropWhile p=[]↔l.all p=true:=by
 induction l with
 |nil=>simp
 |cons x l ih=>
  rw[List.dropWhile_cons,List.all_cons]
  cases p x <;>simp[ih]
theorem trimB_empty(s cut:ByteArray):trimB s cut=ByteArray.empty↔s.data.toList.all (cut.data.toList.contains ·)=true:=by
 have h1:trimB s cut=ByteArray.empty↔Lib.trimS s.data.toList cut.data.toList=[]:=by
  unfold trimB
  constructor
  ·intro h
   have:=congrArg (fun b:ByteArray=>b.data.toList) h
   simpa using this
  ·intro h
   rw[h];rfl
 rw[h1]
 unfold Lib.trimS Lib.trimLeftS Lib.trimRightS
 rw[dropWhile_all]
 constructor
 ·intro h
  rcases hr:(s.data.toList.reverse.dropWhile (cut.data.toList.contains ·)).reverse with _|⟨x,r⟩
  ·have:=List.reverse_eq_nil_iff.1 hr
   rw[dropWhile_all]at this
   simpa using this
  ·have h0:s.data.toList.reverse.dropWhile (cut.data.toList.contains ·)≠[]:=by
    intro e;rw[e]at hr;simp at hr
   have h2:=List.head_dropWhile_not (cut.data.toList.contains ·) h0
   have h3:(s.data.toList.reverse.dropWhile (cut.data.toList.contains ·)).head h0∈(s.data.toList.reverse.dropWhile (cut.data.toList.contains ·)).reverse:=by
    rw[List.mem_reverse];exact List.head_mem h0
   have h4:=List.all_eq_true.1 h _ h3
   rw[h4]at h2;cases h2
 ·intro h
  refine List.all_eq_true.2 fun x hx=> ?_
  rw[List.mem_reverse]at hx
  have:=(List.dropWhile_sublist (cut.data.toList.contains ·)).subset hx
  rw[List.mem_reverse]at this
  exact List.all_eq_true.1 h x this
def AZ:List UInt8:=[97,98,99,100,101,102,103,104,105,106,107,108,109,110,111,112,113,114,115,116,117,118,119,120,121,122]
theorem az_lt:∀(j:Nat) (b:UInt8),AZ[j]? =some b->b.toNat<128:=by
 intro j b h
 have hm:=wC h
 have:∀b∈AZ,b.toNat<128:=by decide
 exact this b hm
theorem az_nat:∀n,n<256->((AZ.map (·.toNat)).contains n=true↔97<=n/\n<=122):=by decide +kernel
theorem az_has(b:UInt8):AZ.contains b=true↔97<=b.toNat/\b.toNat<=122:=by
 rw[<-az_nat b.toNat (UInt8.toNat_lt b)]
 simp only[List.contains_iff_mem,List.mem_map]
 constructor
 ·intro h;exact⟨b,h,rfl⟩
 ·rintro⟨c,hc,e⟩
  rwa[<-UInt8.toNat_inj.1 e]
theorem isNm_trim(s:ByteArray):(decide (1<=(s.size:Int))&&decide ((s.size:Int)<=3)&&decide (trimB s ⟨AZ.toArray⟩=⟨#[]⟩))=isNm s:=by
 have h:trimB s ⟨AZ.toArray⟩=⟨#[]⟩↔∀i,i<s.size->97<=byteAt s i/\byteAt s i<=122:=by
  rw[show(⟨#[]⟩:ByteArray)=ByteArray.empty from rfl,trimB_empty,List.all_eq_true]
  have hsz:s.data.toList.length=s.size:=by simp
  constructor
  ·intro h i hi
   have h2:=h (s.data.toList[i]'(by omega)) (xH _)
   rw[show(⟨AZ.toArray⟩:ByteArray).data.toList=AZ from rfl,az_has]at h2
   unfold byteAt
   rw[xF,xA (by omega)]
   simp only[Option.getD_some]
   omega
  ·intro h x hx
   obtain⟨i,hi,rfl⟩:=wO hx
   have h2:=h i (by omega)
   unfold byteAt at h2
   rw[xF,xA hi]at h2
   simp only[Option.getD_some]at h2
   rw[show(⟨AZ.toArray⟩:ByteArray).data.toList=AZ from rfl,az_has]
   omega
 unfold isNm
 rw[<-Bool.decide_and,<-Bool.decide_and]
 congr 1
 refine propext ⟨fun⟨⟨a,b⟩,c⟩=>⟨by omega,by omega,h.1 c⟩,fun⟨a,b,c⟩=>⟨⟨by omega,by omega⟩,h.2 c⟩⟩
theorem symL_zero:∀ {xs:List GSymbol},symL xs=0->∀x∈xs,isNm x.name=true/\0<=x.arity/\x.arity<=2
 |[],_,x,hx=>by cases hx
 |y::ys,h,x,hx=>by
  unfold symL at h
  split at h
  ·rename_i h1
   split at h
   ·rename_i h2
    rcases wG.1 hx with rfl|hx
    ·exact⟨h1,h2⟩
    ·exact symL_zero h x hx
   ·cases h
  ·cases h
structure SigOK (s:GSignature):Prop where
 len:1<=s.symbols.length/\s.symbols.length<=6
 nm:∀x∈s.symbols,isNm x.name=true/\0<=x.arity/\x.arity<=2
 nodup:(s.symbols.map (·.name)).Nodup
 const:s.symbols.any (fun x=>decide (x.arity=0))=true
theorem yT{s:GSignature}(h:kE s=0):SigOK s:=by
 unfold kE at h
 split at h
 ·cases h
 ·rename_i h1
  unfold sigG at h
  split at h
  ·rename_i h2;exact absurd h h2
  ·rename_i h2
   split at h
   ·cases h
   ·rename_i h3
    split at h
    ·rename_i h4
     exact⟨by omega,symL_zero (by simpa using h2),by simpa using h3,h4⟩
    ·cases h
theorem zQ{b:ByteArray}(h:isNm b=true):1<=b.size/\b.size<=3:=by
 unfold isNm at h
 have:=of_decide_eq_true h
 exact⟨this.1,this.2.1⟩
theorem isSym_iff{s:GSignature}{n:Int}:isSym s n=true↔0<=n/\n<s.symbols.length:=by
 unfold isSym
 rw[decide_eq_true_iff]
 omega
structure OrdOK (s:GSignature) (order:List Int):Prop where
 len:order.length=s.symbols.length
 sym:∀n∈order,0<=n/\n<s.symbols.length
 nodup:order.Nodup
theorem ord_ok{s:GSignature}{order:List Int}(h:ordG s order=0):OrdOK s order:=by
 unfold ordG at h
 split at h
 ·cases h
 ·rename_i h1
  split at h
  ·cases h
  ·rename_i h2
   split at h
   ·rename_i h3
    refine⟨by simpa using h1,fun n hn=> ?_,h3⟩
    rw[<-isSym_iff]
    cases hc:isSym s n with
    |true=>rfl
    |false=>exact absurd (List.any_eq_true.2 ⟨n,hn,by simp[hc]⟩) h2
   ·cases h
theorem ordF_zero{s:GSignature}{order:List Int}(h:ordF s order=0):kE s=0/\ordG s order=0:=by
 unfold ordF at h
 split at h
 ·rename_i h1;exact absurd h h1
 ·rename_i h1;exact⟨by simpa using h1,h⟩
def arN(s:GSignature)(n:Int):Nat:=if n<0 then 0 else match s.symbols[n.toNat]? with
 |some x=>x.arity.toNat
 |none=>0
def skip(s:GSignature):Nat->List Int->Option (List Int)
 |0,l=>some l
 |_+1,[]=>none
 |k+1,x::l=>skip s (k+arN s x) l
theorem skip_zero(s:GSignature)(l:List Int):skip s 0 l=some l:=by cases l <;>rfl
theorem skip_nil(s:GSignature)(k:Nat):skip s (k+1) []=none:=rfl
theorem skip_cons(s:GSignature)(k:Nat)(x:Int)(l:List Int):skip s (k+1) (x::l)=skip s (k+arN s x) l:=rfl
theorem skip_add(s:GSignature)(b:Nat):∀(l:List Int) (a:Nat),skip s (a+b) l=(skip s a l).bind (skip s b)
 |l,0=>by rw[skip_zero,Nat.zero_add];rfl
 |[],a+1=>by rw[show a+1+b=(a+b)+1 by omega,skip_nil,skip_nil];rfl
 |x::l,a+1=>by
  rw[show a+1+b=(a+b)+1 by omega,skip_cons,skip_cons,show a+b+arN s x=(a+arN s x)+b by omega]
  exact skip_add s b l _
theorem skip_drop(s:GSignature):∀(l:List Int) (k:Nat) (r:List Int),skip s k l=some r->∃m,k<=m/\m<=l.length/\r=l.drop m
 |l,0,r,h=>by rw[skip_zero]at h;cases h;exact⟨0,xC _,xT _,rfl⟩
 |[],k+1,r,h=>by cases h
 |x::l,k+1,r,h=>by
  rw[skip_cons]at h
  obtain⟨m,h1,h2,rfl⟩:=skip_drop s l _ _ h
  exact⟨m+1,by omega,by simp;omega,rfl⟩
def ep(s:GSignature)(t:List Int)(k at_:Nat):Int:=match skip s k (t.drop at_)with
 |some r=>(t.length:Int)-r.length
 |none=> -1
theorem ep_cases{s:GSignature}{t:List Int}(k:Nat){a:Nat}(h:a<=t.length):
  (ep s t k a= -1/\skip s k (t.drop a)=none)\/∃m,k<=m/\a+m<=t.length/\ep s t k a=(a+m:Nat)/\skip s k (t.drop a)=some (t.drop (a+m)):=by
 unfold ep
 cases hs:skip s k (t.drop a)with
 |none=>exact .inl ⟨rfl,rfl⟩
 |some r=>
  obtain⟨m,h1,h2,rfl⟩:=skip_drop s _ _ _ hs
  rw[xI]at h2
  refine .inr ⟨m,h1,by omega,?_,by rw[List.drop_drop]⟩
  simp only[xI]
  omega
theorem ep_zero{s:GSignature}{t:List Int}{a:Nat}(h:a<=t.length):ep s t 0 a=a:=by
 unfold ep
 rw[skip_zero]
 simp only[xI]
 omega
theorem ep_add{s:GSignature}{t:List Int}(k j:Nat){a:Nat}(h:a<=t.length):ep s t (k+j) a=if ep s t k a<0 then -1 else ep s t j (ep s t k a).toNat:=by
 rcases ep_cases (s:=s) (t:=t) k h with⟨h1,h2⟩|⟨m,h1,h2,h3,h4⟩
 ·rw[h1,if_pos (by omega)]
  unfold ep
  rw[skip_add,h2];rfl
 ·rw[h3,if_neg (by omega),Int.toNat_natCast]
  show(match skip s (k+j) (t.drop a)with|some r=>_|none=>_)=(match skip s j (t.drop (a+m))with|some r=>_|none=>_)
  rw[skip_add,h4];rfl
theorem ep_node{s:GSignature}{t:List Int}(k:Nat){a:Nat}{x:Int}(h:t[a]? =some x):ep s t (k+1) a=ep s t (k+arN s x) (a+1):=by
 obtain⟨h1,h2⟩:=xR.1 h
 unfold ep
 rw[wI h1,h2,skip_cons]
theorem ep_out{s:GSignature}{t:List Int}(k:Nat){a:Nat}(h:t.length<=a):ep s t (k+1) a= -1:=by
 unfold ep
 rw[List.drop_eq_nil_of_le h,skip_nil]
def opn(s:GSignature)(t:List Int)(a:Nat):Nat->Nat
 |0=>1
 |i+1=>opn s t a i-1+arN s (t.getD (a+i) 0)
theorem opn_zero(s:GSignature)(t:List Int)(a:Nat):opn s t a 0=1:=rfl
theorem opn_succ{s:GSignature}{t:List Int}{a i:Nat}{x:Int}(h:t[a+i]? =some x):opn s t a (i+1)=opn s t a i-1+arN s x:=by
 show opn s t a i-1+arN s (t.getD (a+i) 0)=_
 rw[xF,h];rfl
theorem opn_ep{s:GSignature}{t:List Int}{a i:Nat}{x:Int}(h:t[a+i]? =some x)(h1:1<=opn s t a i):ep s t (opn s t a i) (a+i)=ep s t (opn s t a (i+1)) (a+(i+1)):=by
 rw[opn_succ h]
 obtain⟨k,hk⟩:∃k,opn s t a i=k+1:=⟨opn s t a i-1,by omega⟩
 rw[hk,ep_node k h,Nat.add_sub_cancel,Nat.add_assoc]
def kI(s:GSignature)(n:Int):Bool:=isSym s n||decide (-12<=n/\n<= -1)
def nodes(s:GSignature)(t:List Int):Prop:=∀n∈t,-12<=n/\n<s.symbols.length
theorem nodes_any{s:GSignature}{t:List Int}(h:t.any (fun n=> !kI s n)=false):nodes s t:=by
 intro n hn
 rw[List.any_eq_false]at h
 have:=h n hn
 simp only[kI,isSym,Bool.not_eq_true,Bool.not_eq_false',Bool.or_eq_true,decide_eq_true_eq]at this
 omega
def termG(s:GSignature)(t:List Int):Int:=if t.length<1\/24<t.length then 2 else if t.any (fun n=> !kI s n)=true then 3 else if ep s t 1 0=t.length then 0 else 1
def termF(s:GSignature)(t:List Int):Int:=if kE s≠0 then kE s else termG s t
structure TermOK (s:GSignature) (t:List Int):Prop where
 len:1<=t.length/\t.length<=24
 nodes:nodes s t
 ends:ep s t 1 0=t.length
theorem term_ok{s:GSignature}{t:List Int}(h:termG s t=0):TermOK s t:=by
 unfold termG at h
 split at h
 ·cases h
 ·rename_i h1
  split at h
  ·cases h
  ·rename_i h2
   split at h
   ·rename_i h3;exact⟨by omega,nodes_any (by simpa using h2),h3⟩
   ·cases h
theorem arN_le{s:GSignature}(h:SigOK s)(n:Int):arN s n<=2:=by
 unfold arN
 split
 ·omega
 ·split
  ·rename_i x hx;have:=h.nm x (wC hx);omega
  ·omega
theorem arN_neg{s:GSignature}{n:Int}(h:n<0):arN s n=0:=if_pos h
theorem arN_sym{s:GSignature}{n:Int}{x:GSymbol}(h0:0<=n)(h:s.symbols[n.toNat]? =some x):arN s n=x.arity.toNat:=by
 unfold arN;rw[if_neg (by omega),h]
@[go_sem] theorem appHeap_get(H:AH)(k m n need cap kk:Nat)(cells:List Value)(h1:n≠m)(h2:n≠k):yK H ⟨some k,cells,need,cap,kk⟩ m n=H n:=by
 simp[yK,upd,h1,h2]
def argsP(s:GSignature)(t:List Int)(a k:Nat):List Int:=(List.range k).map fun i=>ep s t i (a+1)
theorem argsP_zero(s:GSignature)(t:List Int)(a:Nat):argsP s t a 0=[]:=rfl
theorem argsP_succ(s:GSignature)(t:List Int)(a k:Nat):argsP s t a (k+1)=argsP s t a k++[ep s t k (a+1)]:=by
 unfold argsP;rw[List.range_succ,List.map_append];rfl
theorem argsP_len(s:GSignature)(t:List Int)(a k:Nat):(argsP s t a k).length=k:=by simp[argsP]
theorem argsP_get{s:GSignature}{t:List Int}{a k i:Nat}(h:i<k):(argsP s t a k)[i]? =some (ep s t i (a+1)):=by
 unfold argsP;rw[wN,List.getElem?_range h];rfl
theorem arg_at{s:GSignature}{t:List Int}{a k i:Nat}(ha:a<t.length)(h:0<=ep s t k (a+1))(hi:i<k):
  ∃m,i<=m/\a+1+m<t.length/\ep s t i (a+1)=(a+1+m:Nat)/\ep s t (i+1) (a+1)=ep s t 1 (a+1+m)/\0<=ep s t 1 (a+1+m):=by
 rcases ep_cases (s:=s) (t:=t) i (show a+1<=t.length by omega)with⟨q1,_⟩|⟨m,q1,q2,q3,_⟩
 ·rw[show k=i+(k-i) by omega,ep_add i _ (by omega),q1,if_pos (by omega)]at h
  omega
 have hst:ep s t (i+1) (a+1)=ep s t 1 (a+1+m):=by rw[ep_add i 1 (show a+1<=t.length by omega),q3,if_neg (by omega),Int.toNat_natCast]
 have hnn:0<=ep s t 1 (a+1+m):=by
  rw[<-hst]
  rw[show k=(i+1)+(k-(i+1)) by omega,ep_add (i+1) _ (by omega)]at h
  split at h <;>omega
 have hlt3:a+1+m<t.length:=by
  rcases xM (a+1+m) t.length with h|h
  ·exact h
  ·rw[ep_out 0 h]at hnn;omega
 exact⟨m,q1,hlt3,q3,hst,hnn⟩
theorem all_no{α:Type}{xs:List α}{p:α->Bool}{x:α}(hx:x∈xs)(h:p x=false):xs.all p=false:=by
 rw[List.all_eq_false];exact⟨x,hx,by simp[h]⟩
theorem all_yes{α:Type}{xs:List α}{p:α->Bool}(h:∀x∈xs,p x=true):xs.all p=true:=List.all_eq_true.2 h
def lowB(t:List Int):Bool:=t.all (fun n=>decide (-6<=n))
def eqnG(s:GSignature)(e:GEquation):Int:=if termG s e.left≠0 then termG s e.left else if termG s e.right≠0 then termG s e.right else if lowB e.left=true/\lowB e.right=true then 0 else 3
def vI{α:Type}(f:α->Int):List α->Int
 |[]=>0
 |x::l=>if f x≠0 then f x else vI f l
theorem firstF_hit{α:Type}{f:α->Int}:∀ {l:List α} {i:Nat} {x:α},l[i]? =some x->(∀j,j<i->∀y,l[j]? =some y->f y=0)->f x≠0->vI f l=f x
 |[],_,_,h,_,_=>by cases h
 |y::l,0,x,h,_,hn=>by cases h;exact if_pos hn
 |y::l,i+1,x,h,ha,hn=>by
  show(if f y≠0 then f y else vI f l)=f x
  rw[if_neg (by simp[ha 0 (by omega) y rfl])]
  exact firstF_hit (l:=l) (i:=i) h (fun j hj z hz=>ha (j+1) (by omega) z hz) hn
theorem firstF_all{α:Type}{f:α->Int}:∀ {l:List α},(∀x∈l,f x=0)->vI f l=0
 |[],_=>rfl
 |y::l,h=>by
  show(if f y≠0 then f y else vI f l)=0
  rw[if_neg (by simp[h y (by simp)])]
  exact firstF_all fun z hz=>h z (by simp[hz])
theorem firstF_zero{α:Type}{f:α->Int}:∀ {l:List α},vI f l=0->∀x∈l,f x=0
 |[],_,_,h=>by cases h
 |y::l,h,x,hx=>by
  have h:(if f y≠0 then f y else vI f l)=0:=h
  split at h
  ·rename_i h1;exact absurd h h1
  ·rename_i h1
   rcases wG.1 hx with rfl|hx
   ·simpa using h1
   ·exact firstF_zero h x hx
def eqsG(s:GSignature)(l:List GEquation):Int:=if 12<l.length then 2 else vI (eqnG s) l
theorem headD_get{l:List Int}(h:1<=l.length):l.headD 0=l[0]:=by
 cases l with
 |nil=>simp at h
 |cons a b=>rfl
def varOK(e:GEquation)(n:Int):Bool:=decide (0<=n\/e.left.count n≠0)
def ruleOK(e:GEquation):Bool:=decide (0<=e.left.headD 0)&&e.right.all (varOK e)
def vS(s:GSignature)(l:List GEquation):Int:=if eqsG s l≠0 then eqsG s l else if l.all ruleOK=true then 0 else 1
theorem eqsG_zero{s:GSignature}{l:List GEquation}(h:eqsG s l=0):l.length<=12/\∀e∈l,eqnG s e=0:=by
 unfold eqsG at h
 split at h
 ·cases h
 ·exact⟨by omega,firstF_zero h⟩
theorem zS{s:GSignature}{e:GEquation}(h:eqnG s e=0):TermOK s e.left/\TermOK s e.right/\lowB e.left=true/\lowB e.right=true:=by
 unfold eqnG at h
 split at h
 ·rename_i h1;exact absurd h h1
 ·rename_i h1
  split at h
  ·rename_i h2;exact absurd h h2
  ·rename_i h2
   split at h
   ·rename_i h3;exact⟨term_ok (by simpa using h1),term_ok (by simpa using h2),h3⟩
   ·cases h
def subT(s:GSignature)(t:List Int)(a:Nat):List Int:=(t.drop a).take ((ep s t 1 a).toNat-a)
def stillOp:Op->Bool
 | .store .. | .alloc _| .box .. | .buildSlice .. | .makeSlice .. | .convert .. | .call _| .makeMap .. | .mapUpdate .. =>false
 |_=>true
theorem astep_still{P:Program}{E:Env P}{o:Oper}{s:List Value}{H:AH}{Bd:Nat}{K:Value->AH->Nat->Prop}(h:jW E o s H Bd K)(ho:stillOp o.op=true)
  {A:Nat->Prop} {ι:Ren} {a:Act} {w:World} (hst:St A ι s H Bd a w):∃v r,(execOp a.eval o).run P w= .ok (.value v) w/\K r H Bd/\VR ι w r v:=by
 obtain⟨dst,op,type,pos,after,guard⟩:=o
 have hav:(Yld (aval P s op) fun v=>K v H Bd)->∃v r,(execOp a.eval ⟨dst,op,type,pos,after,guard⟩).run P w= .ok (.value v) w/\K r H Bd/\VR ι w r v:=fun⟨r,hr,hk⟩=>by
  obtain⟨v,h1,h2⟩:=aval_sound (P:=P) hst.slots (o:=⟨dst,op,type,pos,after,guard⟩) hr
  exact⟨v,r,h1,hk,h2⟩
 unfold jW at h
 simp only at h ho
 split at h
 ·rename_i t x
  split at h
  ·rename_i n off hx
   obtain⟨b,hb,v,hv,hk⟩:=h
   have hxv:=hst.slots.ev x
   rw[hx]at hxv
   obtain⟨v',h1,h2⟩:=aload_sound (P:=P) hst.rel hb hxv hv
   exact⟨v',v,by simp only[execOp,xW,h1,xV,xX],hk,h2⟩
  ·rename_i m fs cs hx
   obtain⟨v,hv,hk⟩:=h
   have hxv:=hst.slots.ev x
   rw[hx]at hxv
   obtain⟨v',h1,h2⟩:=vload_sound (P:=P) hxv hv
   exact⟨v',v,by simp only[execOp,xW,h1,xV,xX],hk,h2⟩
  ·cases h
 ·simp[stillOp]at ho
 ·simp[stillOp]at ho
 ·simp[stillOp]at ho
 ·simp[stillOp]at ho
 ·simp[stillOp]at ho
 ·simp[stillOp]at ho
 ·simp[stillOp]at ho
 ·simp[stillOp]at ho
 ·rename_i t x i
  obtain⟨b,hb,hk1,hk2⟩:=h
  obtain⟨v,ok,h1,h2⟩:=alookup_sound (P:=P) hst.rel (hst.slots.ev x) (hst.slots.ev i) hb
  have hv:∀c d:Bool,VR ι w (.tuple #[.bool c, .bool d]) (.tuple #[.bool c, .bool d]):=fun c d=> .tuple rfl fun j u u' g1 g2=>by
   rw[g1]at g2;cases g2
   match j with
   |0=>cases g1;exact .bool _
   |1=>cases g1;exact .bool _
   |j+2=>simp at g1
  refine⟨_,_,by simp only[execOp,xW,h1,xV,xX],?_,hv v ok⟩
  rcases h2 with⟨rfl,rfl⟩|⟨rfl,rfl⟩
  ·exact hk1
  ·exact hk2
 ·simp[stillOp]at ho
 ·exact hav h
theorem vops_still{P:Program}{E:Env P}{ops:List Oper}{A:Nat->Prop}{ι:Ren}{H:AH}{Bd:Nat}{w:World}{Q:List Value->AH->Nat->Prop}{Qa:Act->Prop}(tl:List Oper)
  (hQ:∀s a,St A ι s H Bd a w->vops E ops tl s H Bd Q->Qa a):∀(hd:List Oper) (s:List Value) (a:Act),hd.all (fun o=>stillOp o.op)=true->St A ι s H Bd a w->vops E ops (hd++tl) s H Bd Q->wpStill P ops.toArray w Qa hd a
 |[],s,a,_,hst,h=>hQ s a hst h
 |o::hd,s,a,hs,hst,h=>by
  simp only[List.all_cons,Bool.and_eq_true]at hs
  have hstep:jW E o s H Bd (fun v H Bd=>vops E ops (hd++tl) (sput s o.dst v) H Bd Q)->o.still P a w (wpStill P ops.toArray w Qa hd):=fun hk=>by
   obtain⟨v,r,h1,h2,h3⟩:=astep_still hk hs.1 hst
   unfold Oper.still
   rw[h1,Oper.stillUpon_value]
   exact vops_still tl hQ hd _ _ hs.2 (hst.put hst.rel (Keep.refl A w) (Agr.refl _ _) o.dst h3) h2
  have hskip:vops E ops (hd++tl) (sput s o.dst undef) H Bd Q->wpStill P ops.toArray w Qa hd (a.put o.dst undef):=fun hk=>
   vops_still tl hQ hd _ _ hs.2 (hst.put hst.rel (Keep.refl A w) (Agr.refl _ _) o.dst (vr_undef ι w)) hk
  rw[List.cons_append]at h
  unfold vops at h
  unfold wpStill
  cases hg:o.guard with
  |none=>
   rw[hg]at h
   rw[if_pos (by simp[Region.wanted,hg])]
   exact hstep h
  |some jw=>
   obtain⟨j,want⟩:=jw
   rw[hg]at h
   simp only at h
   split at h
   ·rename_i b hb
    have hy:yielded ops.toArray a.tmps j=some b:=by
     rcases yL (ops:=ops.toArray) hst.slots hb with⟨v',h1,h2⟩|⟨h1,_⟩
     ·cases h2;simp only[yielded,h1]
     ·cases h1
    by_cases hbw:b=want
    ·subst hbw
     rw[if_pos (by simp[Region.wanted,hg,hy])]
     exact hstep (h.1 (by simp))
    ·rw[if_neg (by simp[Region.wanted,hg,hy,hbw])]
     exact hskip (h.2 (by simp[hbw]))
   ·rename_i vs hb
    have hy:yielded ops.toArray a.tmps j=none:=by
     rcases yL (ops:=ops.toArray) hst.slots hb with⟨v',h1,h2⟩|⟨_,h1⟩
     ·cases h2;simp only[yielded,h1]
     ·simp only[yielded,h1]
    rw[if_neg (by simp[Region.wanted,hg,hy])]
    exact hskip h
   ·cases h
theorem tr_still{P:Program}(hP:POk P)(E:Env P){N0 id:Nat}{l:List Oper}(n:Nat)(hB:(Region.lexTailB .any l.toArray n&&(l.take n).all (fun o=>stillOp o.op))=true){Q:yY}{s:List Value}{H:AH}{Bd:Nat}
  (h:regn E none l (idS s) H Bd (Q .normal)):Tr P N0 (.region id l.toArray true) Q s H Bd:=by
 intro hN A ι a w hst
 simp only[Bool.and_eq_true]at hB
 refine wp_region_still_tail n hP.mixed hB.1 ?_
 have hst':St A ι s H Bd a w.drew:=⟨hst.rel.drew,hst.slots.mono (Ext.refl ι) (Keep.drew A w).rows,hst.defers⟩
 refine vops_still (w:=w.drew) (H:=H) (Bd:=Bd) (E:=E) (Q:=Q .normal) (A:=A) (ι:=ι) (l.drop n) (fun s' a' hs' hq=> ?_) (l.take n) s a hB.2 hst' (by rw[List.take_append_drop];exact h)
 refine vops_sound hP (ops:=l.toArray) (l.drop n) s' H Bd hq A ι a' w.drew hs' fun s2 H2 Bd2 ι2 a2 w2 g1 g2 g3 g4 g5 g6=> ?_
 exact⟨ι2,s2,H2,Bd2,g1,wE hN g2,g3,(Keep.drew A w).trans g4,fun n hn=>g5 n (Nat.lt_of_lt_of_le hn hN),g6⟩
theorem tr_st{P:Program}{N0:Nat}{c:Code}{Q:yY}{s:List Value}{H:AH}{Bd:Nat}{X:Type}(I:X->Prop)(μ:X->Nat)(sl:X->List (Nat×Value))(hp:X->AH)(x0:X)(h0:I x0)(hs:FitL s (sl x0))(hH:Le (hp x0) H)
  (round:∀x B,I x->Bd<=B->HB (hp x) B->∀F:List Value->AH->Nat->Prop,(∀y s' H' B',μ y<μ x->I y->Le (hp y) H'->s'.length=s.length->FitL s' (sl y)->F s' H' B')->Tr P B c (thenQ F Q) (aS s.length unk (sl x)) (hp x) B):Tr P N0 (.loop c) Q s H Bd:=by
 refine tr_inv (X:=X) (fun x s' H' B'=>I x/\s'=aS s.length unk (sl x)/\H'=hp x) μ x0 _ _ Bd ⟨hs.fits rfl,hH,xC _⟩ ⟨h0,rfl,rfl⟩ ?_
 rintro x s' H' B' ⟨hi,rfl,rfl⟩ hB hb'
 refine(round x B' hi hB hb' (fun s2 H2 B2=>∃y,μ y<μ x/\I y/\Le (hp y) H2/\s2.length=s.length/\FitL s2 (sl y)) fun y s2 H2 B2 h1 h2 h3 h4 h5=>⟨y,h1,h2,h3,h4,h5⟩).mono fun e s2 H2 B2 hq=> ?_
 cases e with
 |normal=>
  obtain⟨y,g1,g2,g3,g4,g5⟩:=hq
  exact⟨y,_,_,B2,g1,⟨g5.fits g4,g3,xC _⟩,g2,rfl,rfl⟩
 |_=>exact hq
structure Own where
 n:Nat
 len:Nat
 cap:Nat
theorem abuild_array{P:Program}{t e n k:Nat}{z:List Value}(hz:ask P (zeroValue t)=some (.agg z.toArray))(h:ask P (underlying t)=some (.array n e))(hk:ask P (sizeOf e)=some k)(hpl:z.all yI=true)(parts:List (Nat×Value)):
  abuild P t parts=(lfill (fun i=>some (i*k,k)) z parts).map fun l=> .agg l.toArray:=by
 simp[abuild,hz,h,hk,plainU_all hpl]
class TyAr (P:Program) (t:Nat) (k:outParam Nat) (z:outParam (List Value)):Prop where
 h:∀parts,abuild P t parts=(lfill (fun i=>some (i*k,k)) z parts).map fun l=> .agg l.toArray
@[push_cast] theorem abuild_A{P:Program}{t k:Nat}{z:List Value}[h:TyAr P t k z](parts:List (Nat×Value)):abuild P t parts=(lfill (fun i=>some (i*k,k)) z parts).map fun l=> .agg l.toArray:=h.h parts
theorem hb_lt{H:AH}{n B:Nat}{b:Blk}(h:HB (upd H n (some b)) B):n<B:=by
 rcases xM n B with h1|h1
 ·exact h1
 ·have:=h.fresh n h1;rw[qJ]at this;cases this
def places(s:GSignature)(t:List Int):Prop:=∀i,i<t.length->0<=ep s t 1 i
theorem vE{s:GSignature}{t:List Int}(h:TermOK s t):places s t:=by
 have key:∀i,i<=t.length->ep s t (opn s t 0 i) i=t.length:=by
  intro i
  induction i with
  |zero=>intro _;exact h.ends
  |succ i ih=>
   intro hi
   have h1:=ih (by omega)
   have hpos:1<=opn s t 0 i:=by
    rcases Nat.eq_zero_or_pos (opn s t 0 i)with h0|h0
    ·rw[h0,ep_zero (by omega)]at h1;omega
    ·exact h0
   have e:t[0+i]? =some t[i]:=by rw[Nat.zero_add];exact xA (by omega)
   have h2:=opn_ep (s:=s) e hpos
   rw[Nat.zero_add,Nat.zero_add]at h2
   rw[<-h2];exact h1
 intro i hi
 have h1:=key i (by omega)
 rcases Nat.eq_zero_or_pos (opn s t 0 i)with h0|h0
 ·rw[h0,ep_zero (by omega)]at h1;omega
 ·rw[show opn s t 0 i=1+(opn s t 0 i-1) by omega,ep_add 1 _ (by omega)]at h1
  split at h1 <;>omega
def args(s:GSignature)(t:List Int)(i:Nat):List Int:=argsP s t i (arN s (t.getD i 0))
theorem args_len(s:GSignature)(t:List Int)(i:Nat):(args s t i).length=arN s (t.getD i 0):=argsP_len _ _ _ _
theorem args_get{s:GSignature}{t:List Int}{i k:Nat}(hp:places s t)(hi:i<t.length)(hk:k<(args s t i).length):
  ∃p:Nat,(args s t i)[k]? =some (p:Int)/\i<p/\p<t.length:=by
 rw[args_len]at hk
 have h0:=hp i hi
 have e:t[i]? =some t[i]:=xA hi
 have eg:t.getD i 0=t[i]:=by rw[xF,e];rfl
 rw[ep_node 0 e,Nat.zero_add]at h0
 rw[eg]at hk
 obtain⟨m,h1,h2,h3,_,_⟩:=arg_at hi h0 hk
 exact⟨i+1+m,by rw[args,eg,argsP_get hk,h3],by omega,h2⟩
theorem args_mem{s:GSignature}{t:List Int}{i:Nat}(hp:places s t)(hi:i<t.length){x:Int}(hx:x∈args s t i):∃p:Nat,x=p/\i<p/\p<t.length:=by
 obtain⟨k,hk,rfl⟩:=wO hx
 obtain⟨p,h1,h2,h3⟩:=args_get hp hi hk
 rw[xA hk]at h1
 exact⟨p,Option.some.inj h1,h2,h3⟩
def rk(order:List Int)(n:Int):Int:=fidx (fun x=>decide (n=x)) order
theorem fidx_spec{α:Type}(p:α->Bool)(xs:List α):(fidx p xs= -1/\∀x∈xs,p x=false)\/∃(i:Nat) (h:i<xs.length),fidx p xs=i/\p xs[i]=true:=by
 unfold fidx
 cases h:xs.findIdx? p with
 |none=>exact .inl ⟨rfl,by simpa[List.findIdx?_eq_none_iff]using h⟩
 |some i=>
  obtain⟨h1,h2,_⟩:=List.findIdx?_eq_some_iff_getElem.1 h
  exact .inr ⟨i,h1,rfl,h2⟩
theorem rk_mem{order:List Int}{n:Int}(h:n∈order):∃(i:Nat) (hi:i<order.length),rk order n=i/\order[i]=n:=by
 rcases fidx_spec (fun x=>decide (n=x)) order with⟨_,h2⟩|⟨i,hi,h1,h2⟩
 ·have:=h2 n h;simp at this
 ·exact⟨i,hi,h1,(by simpa using h2:n=order[i]).symm⟩
theorem rk_inj{order:List Int}{x y:Int}(hx:x∈order)(hy:y∈order):rk order x=rk order y↔x=y:=by
 refine⟨fun h=> ?_,fun h=>by rw[h]⟩
 obtain⟨i,hi,h1,h2⟩:=rk_mem hx
 obtain⟨j,hj,h3,h4⟩:=rk_mem hy
 have:i=j:=by omega
 subst this
 rw[<-h2,<-h4]
theorem nodup_len:∀(k:Nat) (l:List Int),l.Nodup->(∀x∈l,0<=x/\x<k)->l.length<=k
 |0,l,_,h=>by
  cases l with
  |nil=>simp
  |cons x l=>have:=h x (by simp);omega
 |k+1,l,hn,h=>by
  have h1:=nodup_len k (l.erase (k:Int)) (hn.erase _) fun x hx=>by
   have h2:=h x (List.mem_of_mem_erase hx)
   have h3:x≠(k:Int):=fun e=>by
    subst e
    exact(hn.not_mem_erase) hx
   omega
  have h4:=List.length_erase (a:=(k:Int)) (l:=l)
  split at h4 <;>omega
theorem ord_all{s:GSignature}{order:List Int}(h:OrdOK s order){n:Int}(h0:0<=n)(h1:n<s.symbols.length):n∈order:=by
 by_cases hm:n∈order
 ·exact hm
 ·have:=nodup_len s.symbols.length (n::order) (List.nodup_cons.2 ⟨hm,h.nodup⟩) fun x hx=>by
   rcases wG.1 hx with rfl|hx
   ·exact⟨h0,h1⟩
   ·exact h.sym x hx
  rw[xJ,h.len]at this
  omega
section
variable (s:GSignature) (order a b:List Int)
def lexG(G:Nat->Nat->Bool):List Int->List Int->Bool
 |p::ps,q::qs=>if subT s a p.toNat=subT s b q.toNat then lexG G ps qs else G p.toNat q.toNat
 |_,_=>false
def cellG(G:Nat->Nat->Bool)(i j:Nat):Bool:=
 if b.getD j 0<0 then decide (0<=a.getD i 0)&&(subT s a i).any (fun n=>decide (b.getD j 0=n))
 else if a.getD i 0<0 then false
 else if(args s a i).any (fun p=>G p.toNat j||decide (subT s a p.toNat=subT s b j))=true then true
 else if rk order (a.getD i 0)<rk order (b.getD j 0)then false
 else if(args s b j).any (fun q=> !G i q.toNat)=true then false
 else if a.getD i 0≠b.getD j 0 then true
 else lexG s a b G (args s a i) (args s b j)
def gtN:Nat->Nat->Nat->Bool
 |0,_,_=>false
 |n+1,i,j=>cellG s order a b (gtN n) i j
def gt(i j:Nat):Bool:=gtN s order a b (a.length+b.length+1) i j
end
theorem lexG_congr{s:GSignature}{a b:List Int}{G G':Nat->Nat->Bool}:∀(ps qs:List Int),(∀p∈ps,∀q∈qs,G p.toNat q.toNat=G' p.toNat q.toNat)->lexG s a b G ps qs=lexG s a b G' ps qs
 |[],_,_=>by simp[lexG]
 |_::_,[],_=>by simp[lexG]
 |p::ps,q::qs,h=>by
  unfold lexG
  rw[lexG_congr ps qs fun x hx y hy=>h x (by simp[hx]) y (by simp[hy]),h p (by simp) q (by simp)]
theorem any_congr'{α:Type}{f g:α->Bool}:∀(l:List α),(∀x∈l,f x=g x)->l.any f=l.any g
 |[],_=>rfl
 |x::l,h=>by rw[List.any_cons,List.any_cons,h x (by simp),any_congr' l fun y hy=>h y (by simp[hy])]
theorem cellG_congr{s:GSignature}{order a b:List Int}{G G':Nat->Nat->Bool}{i j:Nat}(h1:∀p∈args s a i,G p.toNat j=G' p.toNat j)(h2:∀q∈args s b j,G i q.toNat=G' i q.toNat)
  (h3:∀p∈args s a i,∀q∈args s b j,G p.toNat q.toNat=G' p.toNat q.toNat):cellG s order a b G i j=cellG s order a b G' i j:=by
 unfold cellG
 rw[any_congr' (args s a i) (f:=fun p=>G p.toNat j||decide (subT s a p.toNat=subT s b j)) (g:=fun p=>G' p.toNat j||decide (subT s a p.toNat=subT s b j)) fun p hp=>by rw[h1 p hp],
  any_congr' (args s b j) (f:=fun q=> !G i q.toNat) (g:=fun q=> !G' i q.toNat) fun q hq=>by rw[h2 q hq],lexG_congr _ _ h3]
section
variable {s:GSignature} {order a b:List Int} (ha:places s a) (hb:places s b)
include ha hb
theorem gtN_stable:∀(n m i j:Nat),i<a.length->j<b.length->(a.length-i)+(b.length-j)<n->(a.length-i)+(b.length-j)<m->gtN s order a b n i j=gtN s order a b m i j
 |0,_,_,_,_,_,h,_=>by omega
 |_,0,_,_,_,_,_,h=>by omega
 |n+1,m+1,i,j,hi,hj,h1,h2=>by
  unfold gtN
  refine cellG_congr (fun p hp=> ?_) (fun q hq=> ?_) (fun p hp q hq=> ?_)
  ·obtain⟨k,rfl,g1,g2⟩:=args_mem ha hi hp
   exact gtN_stable n m _ j (by simpa using g2) hj (by simp;omega) (by simp;omega)
  ·obtain⟨k,rfl,g1,g2⟩:=args_mem hb hj hq
   exact gtN_stable n m i _ hi (by simpa using g2) (by simp;omega) (by simp;omega)
  ·obtain⟨k,rfl,g1,g2⟩:=args_mem ha hi hp
   obtain⟨l,rfl,g3,g4⟩:=args_mem hb hj hq
   exact gtN_stable n m _ _ (by simpa using g2) (by simpa using g4) (by simp;omega) (by simp;omega)
theorem gt_cell{i j:Nat}(hi:i<a.length)(hj:j<b.length):gt s order a b i j=cellG s order a b (gt s order a b) i j:=by
 show cellG s order a b (gtN s order a b (a.length+b.length)) i j=_
 refine cellG_congr (fun p hp=> ?_) (fun q hq=> ?_) (fun p hp q hq=> ?_)
 ·obtain⟨k,rfl,g1,g2⟩:=args_mem ha hi hp
  exact gtN_stable ha hb _ _ _ j (by simpa using g2) hj (by simp;omega) (by simp;omega)
 ·obtain⟨k,rfl,g1,g2⟩:=args_mem hb hj hq
  exact gtN_stable ha hb _ _ i _ hi (by simpa using g2) (by simp;omega) (by simp;omega)
 ·obtain⟨k,rfl,g1,g2⟩:=args_mem ha hi hp
  obtain⟨l,rfl,g3,g4⟩:=args_mem hb hj hq
  exact gtN_stable ha hb _ _ _ _ (by simpa using g2) (by simpa using g4) (by simp;omega) (by simp;omega)
end
theorem getD_at{t:List Int}{i:Nat}(h:i<t.length):t.getD i 0=t[i]:=by rw[xF,xA h];rfl
section
variable {s:GSignature} {order a b:List Int} (ha:places s a) (hb:places s b) {i j:Nat} (hi:i<a.length) (hj:j<b.length)
include ha hb
theorem gt_var(h:b[j]<0):gt s order a b i j=(decide (0<=a[i])&&(subT s a i).any (fun n=>decide (b[j]=n))):=by
 rw[gt_cell ha hb hi hj,cellG,getD_at hi,getD_at hj,if_pos h]
theorem gt_low(h:¬b[j]<0)(h2:a[i]<0):gt s order a b i j=false:=by
 rw[gt_cell ha hb hi hj,cellG,getD_at hi,getD_at hj,if_neg h,if_pos h2]
theorem gt_arg(h:¬b[j]<0)(h2:¬a[i]<0){p:Int}(hp:p∈args s a i)(h3:gt s order a b p.toNat j=true\/subT s a p.toNat=subT s b j):gt s order a b i j=true:=by
 rw[gt_cell ha hb hi hj,cellG,getD_at hi,getD_at hj,if_neg h,if_neg h2,if_pos]
 exact List.any_eq_true.2 ⟨p,hp,by simpa using h3⟩
theorem gt_rest(h:¬b[j]<0)(h2:¬a[i]<0)(h3:∀p∈args s a i,gt s order a b p.toNat j=false/\subT s a p.toNat≠subT s b j):
  gt s order a b i j=if rk order a[i]<rk order b[j]then false else if(args s b j).any (fun q=> !gt s order a b i q.toNat)=true then false else if a[i]≠b[j]then true else lexG s a b (gt s order a b) (args s a i) (args s b j):=by
 rw[gt_cell ha hb hi hj,cellG,getD_at hi,getD_at hj,if_neg h,if_neg h2,if_neg]
 intro hc
 obtain⟨p,hp,h4⟩:=List.any_eq_true.1 hc
 have h5:=h3 p hp
 rw[h5.1]at h4
 simp[h5.2]at h4
end
theorem lexG_go{s:GSignature}{a b:List Int}{G:Nat->Nat->Bool}:∀ {ps qs:List Int} {n:Nat},(∀m,m<n->∀p q:Int,ps[m]? =some p->qs[m]? =some q->subT s a p.toNat=subT s b q.toNat)->∀p q:Int,ps[n]? =some p->qs[n]? =some q->subT s a p.toNat≠subT s b q.toNat->lexG s a b G ps qs=G p.toNat q.toNat
 |[],_,_,_,_,_,h,_,_=>by simp at h
 |_::_,[],_,_,_,_,_,h,_=>by simp at h
 |x::ps,y::qs,0,_,p,q,h1,h2,h3=>by
  simp only[wD,xE]at h1 h2
  subst h1;subst h2
  unfold lexG;rw[if_neg h3]
 |x::ps,y::qs,n+1,h,p,q,h1,h2,h3=>by
  unfold lexG
  rw[if_pos (h 0 (by omega) x y rfl rfl)]
  exact lexG_go (n:=n) (fun m hm p q g1 g2=>h (m+1) (by omega) p q (by simpa using g1) (by simpa using g2)) p q (by simpa using h1) (by simpa using h2) h3
theorem lexG_end{s:GSignature}{a b:List Int}{G:Nat->Nat->Bool}:∀ {ps qs:List Int},(∀(m:Nat) (p q:Int),ps[m]? =some p->qs[m]? =some q->subT s a p.toNat=subT s b q.toNat)->lexG s a b G ps qs=false
 |[],_,_=>by simp[lexG]
 |_::_,[],_=>by simp[lexG]
 |x::ps,y::qs,h=>by
  unfold lexG
  rw[if_pos (h 0 x y rfl rfl)]
  exact lexG_end fun m p q g1 g2=>h (m+1) p q (by simpa using g1) (by simpa using g2)
def tabOK(s:GSignature)(order a b:List Int)(i j:Nat)(L:List Value):Prop:=
 ∀p q:Nat,p<a.length->q<b.length->(i<p\/(p=i/\j<q))->L[p*b.length+q]? =some (.bool (gt s order a b p q))
theorem count_any(l:List Int)(n:Int):decide ((0:Int)<(l.count n:Int))=l.any (fun x=>decide (n=x)):=by
 rw[Bool.eq_iff_iff,decide_eq_true_eq,List.any_eq_true]
 constructor
 ·intro h
  exact⟨n,List.count_pos_iff.1 (by omega),by simp⟩
 ·rintro⟨x,hx,h⟩
  obtain rfl:n=x:=by simpa using h
  have:=List.count_pos_iff.2 hx
  omega
theorem mul_at{p j la lb:Nat}(h1:p<la)(h2:j<lb):p*lb+j<la*lb:=by
 have:(p+1)*lb<=la*lb:=Nat.mul_le_mul_right _ h1
 rw[Nat.succ_mul]at this
 omega
theorem mul_sm{la lb:Nat}(h1:la<=24)(h2:lb<=24):la*lb<=576:=Nat.mul_le_mul h1 h2
def tabG(s:GSignature)(order a b:List Int):List Bool:=(List.range (a.length*b.length)).map fun m=>gt s order a b (m/b.length) (m%b.length)
theorem tabG_len(s:GSignature)(order a b:List Int):(tabG s order a b).length=a.length*b.length:=by simp[tabG]
theorem tab_flat{s:GSignature}{order a b:List Int}{L:List Value}(hb:0<b.length)(hL:L.length=a.length*b.length)
  (h:∀p q:Nat,p<a.length->q<b.length->L[p*b.length+q]? =some (.bool (gt s order a b p q))):L=qO (tabG s order a b):=by
 refine List.ext_getElem? fun m=> ?_
 have hfl:(qO (tabG s order a b)).length=a.length*b.length:=by rw[jJ,tabG_len];exact Nat.mul_one _
 rcases xM m (a.length*b.length)with hm|hm
 ·have h1:m/b.length<a.length:=Nat.div_lt_of_lt_mul (by rw[Nat.mul_comm];exact hm)
  have h2:m%b.length<b.length:=Nat.mod_lt _ hb
  have h3:=h _ _ h1 h2
  rw[Nat.mul_comm,Nat.div_add_mod]at h3
  rw[h3]
  have h4:(tabG s order a b)[m]? =some (gt s order a b (m/b.length) (m%b.length)):=by
   unfold tabG;rw[wN,List.getElem?_range hm];rfl
  have h5:=flat_get (tabG s order a b) m _ h4
  have hk:Enc.k Bool=1:=rfl
  rw[hk,Nat.mul_one]at h5
  have h6:((qO (tabG s order a b)).drop m).take 1=[.bool (gt s order a b (m/b.length) (m%b.length))]:=h5
  have h7:=congrArg (fun l=>l[0]?) h6
  simpa using h7.symm
 ·rw[wQ (by omega),wQ (by omega)]
theorem tab_set{s:GSignature}{order a b:List Int}{L:List Value}{i j:Nat}(hi:i<a.length)(hj:j<b.length)(hL:L.length=a.length*b.length)
  (h:∀p q:Nat,p<a.length->q<b.length->(i<p\/(p=i/\j<q))->L[p*b.length+q]? =some (.bool (gt s order a b p q))):
  ∀p q:Nat,p<a.length->q<b.length->(i<p\/(p=i/\j<=q))->(L.set (i*b.length+j) (.bool (gt s order a b i j)))[p*b.length+q]? =some (.bool (gt s order a b p q)):=by
 intro p q hp hq hc
 have m1:=mul_at hi hj
 by_cases e:i*b.length+j=p*b.length+q
 ·have e1:i=p:=by
   have g1:(i*b.length+j)/b.length=i:=by rw[Nat.mul_comm,Nat.mul_add_div (by omega),Nat.div_eq_of_lt hj,Nat.add_zero]
   have g2:(p*b.length+q)/b.length=p:=by rw[Nat.mul_comm,Nat.mul_add_div (by omega),Nat.div_eq_of_lt hq,Nat.add_zero]
   rw[<-g1,e,g2]
  subst e1
  have e2:j=q:=by omega
  subst e2
  rw[List.getElem?_set_self (by omega)]
 ·rw[wS e]
  refine h p q hp hq ?_
  rcases hc with hc|⟨rfl,hc⟩
  ·exact .inl hc
  ·refine .inr ⟨rfl,?_⟩
   have:j≠q:=fun e1=>e (by rw[e1])
   omega
end Go.SC
namespace Go.SC
open Go
def packN(n:Int):UInt8:=UInt8.ofNat (if n<0 then 31-n else n+1).toNat
def kN(t:List Int):List UInt8:=t.map packN
def smallN(t:List Int):Prop:=∀n∈t,-12<=n/\n<6
theorem packN_neg{n:Int}(h: -12<=n)(h2:n<0):((packN n).toNat:Int)=31-n:=by
 unfold packN
 rw[if_pos h2,UInt8.toNat_ofNat']
 omega
theorem packN_pos{n:Int}(h:0<=n)(h2:n<6):((packN n).toNat:Int)=n+1:=by
 unfold packN
 rw[if_neg (by omega),UInt8.toNat_ofNat']
 omega
theorem packT_nil:kN []=[]:=rfl
theorem packT_take{t:List Int}{i:Nat}(h:i<t.length):kN (t.take (i+1))=kN (t.take i)++[packN t[i]]:=by
 unfold kN
 rw[xP h,List.map_append];rfl
theorem vF(t:List Int):(kN t).length=t.length:=by simp[kN]
theorem nodes_small{s:GSignature}{t:List Int}(h:SigOK s)(hn:nodes s t):smallN t:=fun n hx=>by
 have h1:=hn n hx
 have h2:=h.len
 omega
theorem cmpB_eq{xs ys:List UInt8}{i:Nat}(h:∀j,j<i->xs[j]? =ys[j]?):Lib.compareBytes xs ys=Lib.compareBytes (xs.drop i) (ys.drop i):=by
 induction i generalizing xs ys with
 |zero=>simp
 |succ i ih=>
  match xs,ys with
  |[],[]=>simp
  |[],y::ys=>have:=h 0 (by omega);simp at this
  |x::xs,[]=>have:=h 0 (by omega);simp at this
  |x::xs,y::ys=>
   have h0:=h 0 (by omega)
   simp only[wD,xE]at h0
   subst h0
   rw[List.drop_succ_cons,List.drop_succ_cons,<-ih fun j hj=>by simpa using h (j+1) (by omega)]
   simp[Lib.compareBytes]
theorem cmpB_lt{xs ys:List UInt8}{i:Nat}(h:∀j,j<i->xs[j]? =ys[j]?)(h1:i<xs.length)(h2:i<ys.length)(h3:xs[i]<ys[i]):Lib.compareBytes xs ys= -1:=by
 rw[cmpB_eq h,wI h1,wI h2]
 simp[Lib.compareBytes,h3]
theorem cmpB_gt{xs ys:List UInt8}{i:Nat}(h:∀j,j<i->xs[j]? =ys[j]?)(h1:i<xs.length)(h2:i<ys.length)(h3:ys[i]<xs[i]):Lib.compareBytes xs ys=1:=by
 rw[cmpB_eq h,wI h1,wI h2]
 have:¬xs[i]<ys[i]:=fun h=>by rw[UInt8.lt_iff_toNat_lt]at h h3;omega
 simp[Lib.compareBytes,h3,this]
theorem cmpB_end{xs ys:List UInt8}{i:Nat}(h:∀j,j<i->xs[j]? =ys[j]?)(h1:xs.length<=i\/ys.length<=i):Lib.compareBytes xs ys=if xs.length<ys.length then -1 else if ys.length<xs.length then 1 else 0:=by
 rw[cmpB_eq h]
 rcases h1 with h1|h1
 ·rw[List.drop_eq_nil_of_le h1]
  rcases xM i ys.length with h2|h2
  ·rw[wI h2,if_pos (by omega)];rfl
  ·rw[List.drop_eq_nil_of_le h2]
   have:¬xs.length<ys.length:=fun h3=>by
    have:=h xs.length (by omega)
    rw[wQ (xC _),xA h3]at this;cases this
   rw[if_neg this]
   have:¬ys.length<xs.length:=fun h3=>by
    have:=h ys.length (by omega)
    rw[wQ (xC _),xA h3]at this;cases this
   rw[if_neg this];rfl
 ·rw[List.drop_eq_nil_of_le h1]
  rcases xM i xs.length with h2|h2
  ·rw[wI h2,if_neg (by omega),if_pos (by omega)];rfl
  ·rw[List.drop_eq_nil_of_le h2]
   have:¬xs.length<ys.length:=fun h3=>by
    have:=h xs.length (by omega)
    rw[wQ (xC _),xA h3]at this;cases this
   rw[if_neg this]
   have:¬ys.length<xs.length:=fun h3=>by
    have:=h ys.length (by omega)
    rw[wQ (xC _),xA h3]at this;cases this
   rw[if_neg this];rfl
def fallsB(s:GSignature)(order:List Int)(l:List GEquation):Bool:=l.all fun e=>gt s order e.left e.right 0 0
def thG(s:GSignature)(x:GTheory):Int:=if ordG s x.order≠0 then ordG s x.order else if eqsG s x.equations≠0 then eqsG s x.equations else if vS s x.rules≠0 then vS s x.rules else if fallsB s x.order x.rules=true then 0 else 10
def thF(s:GSignature)(x:GTheory):Int:=if kE s≠0 then kE s else thG s x
theorem rulesG_zero{s:GSignature}{l:List GEquation}(h:vS s l=0):l.length<=12/\∀e∈l,TermOK s e.left/\TermOK s e.right/\ruleOK e=true:=by
 unfold vS at h
 by_cases h1:eqsG s l=0
 ·have h2:=eqsG_zero h1
  rw[if_neg (by simp[h1])]at h
  split at h
  ·rename_i h3
   refine⟨h2.1,fun e he=> ?_⟩
   have h4:=zS (h2.2 e he)
   exact⟨h4.1,h4.2.1,List.all_eq_true.1 h3 e he⟩
  ·cases h
 ·rw[if_pos h1]at h;exact absurd h h1
end Go.SC
namespace Go.SC
open Go Go.RowKit Go.Proofs Go.Sort
def rowsOf(k:Nat):Nat->List Value->List Value
 |0,_=>[]
 |n+1,cells=> .agg (cells.take k).toArray::rowsOf k n (cells.drop k)
theorem kY(k:Nat):∀(n:Nat) (cells:List Value),(rowsOf k n cells).length=n
 |0,_=>rfl
 |n+1,cells=>by simp[rowsOf,kY k n]
theorem rowsOf_get(k:Nat):∀(n:Nat) (cells:List Value) (i:Nat),i<n->(rowsOf k n cells)[i]? =some (.agg ((cells.drop (i*k)).take k).toArray)
 |0,_,_,h=>by omega
 |n+1,cells,0,_=>by simp[rowsOf]
 |n+1,cells,i+1,h=>by
  rw[rowsOf,wM,rowsOf_get k n _ i (by omega),List.drop_drop,Nat.succ_mul,Nat.add_comm k]
def giveR(b:Option Blk)(k len:Nat)(v:Value):Value:=match b with
 |some b=>if b.own=true/\b.cells.length=len*k then .func (.yield k) #[] (rowsOf k len b.cells).toArray else v
 |none=>v
def giveV(H:AH)(v:Value):Value:=match v with
 | .slice (some ⟨n,0,some k⟩) len _=>giveR (H n) k len v
 |v=>v
def giveH(H:AH)(v:Value):AH:=match v with
 | .slice (some ⟨n,0,some _⟩) _ _=>upd H n none
 |_=>H
def giveS(v:Value)(m:Nat):Prop:=match v with
 | .slice (some ⟨n,0,some _⟩) _ _=>m=n
 |_=>False
theorem give_pub(H:AH)(v:Value):Pub H (giveS v) v (giveV H v):=by
 unfold giveV
 split
 ·rename_i n k len c
  unfold giveR
  split
  ·rename_i b hb
   split
   ·rename_i h
    refine .lst (b:=b) rfl hb h.1 (by simp[kY]) (by omega) (fun i x hx=> ?_) (fun i j r v u h1 h2 h3=> ?_)
    ·have hi:i<len:=by have:=(xS.1 hx).1;simpa[kY]using this
     have:=rowsOf_get k len b.cells i hi
     rw[wJ,this]at hx
     cases hx
     refine⟨_,rfl,?_⟩
     have:(i+1)*k<=len*k:=Nat.mul_le_mul_right _ hi
     rw[Nat.succ_mul]at this
     simp;omega
    ·have hi:i<len:=by have:=(xS.1 h1).1;simpa[kY]using this
     have h4:=rowsOf_get k len b.cells i hi
     rw[wJ,h4]at h1
     cases h1
     have hj:j<k:=by
      have:=(xS.1 h3).1
      simp at this;omega
     rw[wJ,List.getElem?_take,if_pos hj,wP]at h3
     rw[Nat.zero_add,h3]at h2
     cases h2
     exact .same _
   ·exact .same _
  ·exact .same _
 ·exact .same _
theorem give_le(H:AH)(v:Value):Le (giveH H v) H:=fun n b h=>by
 unfold giveH at h
 split at h
 ·rename_i m _ _ _
  by_cases e:n=m
  ·subst e;rw[qJ]at h;cases h
  ·rw[qD _ _ e]at h;exact h
 ·exact h
theorem give_not(H:AH)(v:Value)(n:Nat)(b:Blk)(h:giveH H v n=some b):¬giveS v n:=fun hs=>by
 unfold giveH at h
 unfold giveS at hs
 split at h
 ·simp only at hs;subst hs;rw[qJ]at h;cases h
 ·rename_i h2
  split at hs
  ·rename_i m k len c;exact h2 _ _ _ _ rfl
  ·exact hs
def GiveT(i:Nat)(W:qH):qH:=fun args H Bd K=>W (args.set i (giveV H (args.getD i undef))) (giveH H (args.getD i undef)) Bd K
theorem PubC.set{H:AH}{S:Nat->Prop}:∀(xs:List Value) (i:Nat) (u:Value),Pub H S (xs.getD i undef) u->PubC H S xs (xs.set i u)
 |[],i,u,_=>PubC.of _ _ rfl fun i v u h _=>by simp at h
 |x::xs,i,u,h=>PubC.of _ _ (by simp) fun j v w h1 h2=>by
  by_cases e:i=j
  ·subst e
   have hi:=(xR.1 h1).1
   rw[List.getElem?_set_self hi]at h2
   cases h2
   rw[xF,h1]at h
   exact h
  ·rw[wS e,h1]at h2
   cases h2
   exact .same _
theorem GiveT_ok{P:Program}{f:FuncId}(i:Nat){W:qH}(h:∀args H Bd K,W args H Bd K->SCalls P f args H Bd K):∀args H Bd K,GiveT i W args H Bd K->SCalls P f args H Bd K:=fun args H Bd K hk=>
 give (giveS (args.getD i undef)) (PubC.set args i _ (give_pub H _)) (give_le H _) (give_not H _) (h _ _ _ _ hk)
@[go_sem] theorem giveV_slice(H:AH)(n k len c:Nat):giveV H (.slice (some ⟨n,0,some k⟩) len c)=giveR (H n) k len (.slice (some ⟨n,0,some k⟩) len c):=(rfl)
@[go_sem] theorem giveV_lst{α:Type}[Enc α](H:AH)(xs:List α):giveV H (lst xs)=lst xs:=(rfl)
@[go_sem] theorem giveH_slice(H:AH)(n k len c:Nat):giveH H (.slice (some ⟨n,0,some k⟩) len c)=upd H n none:=(rfl)
@[go_sem] theorem giveH_lst{α:Type}[Enc α](H:AH)(xs:List α):giveH H (lst xs)=H:=(rfl)
theorem rowsOf_flat{α:Type}[Enc α]:∀(xs:List α),rowsOf (Enc.k α) xs.length (qO xs)=(xs.map enc).map fun r=> .agg r.toArray
 |[]=>rfl
 |x::xs=>by
  rw[xJ,rowsOf,jO,List.take_append_of_le_length (by rw[jN];exact xC _),xO (by rw[jN];exact xC _),List.drop_append,List.drop_eq_nil_of_le (by rw[jN];exact xC _),jN,Nat.sub_self,List.drop_zero,List.nil_append,rowsOf_flat xs]
  rfl
theorem giveR_flat{α:Type}[Enc α]{k len:Nat}(xs:List α)(hk:Enc.k α=k)(hl:len=xs.length)(v:Value):giveR (some ⟨qO xs,true⟩) k len v=lst xs:=by
 subst hk;subst hl
 unfold giveR
 simp only
 rw[if_pos ⟨trivial,jJ xs⟩,rowsOf_flat]
 rfl
@[go_sem] theorem giveR_F{α:Type}[Enc α]{k len:Nat}[hk:EncK α k](xs:List α)(hl:len=xs.length)(v:Value):giveR (some ⟨qO xs,true⟩) k len v=lst xs:=giveR_flat xs hk.h hl v
@[go_sem] theorem giveR_int2(a b:Int)(v:Value):giveR (some ⟨[.int .i64 a, .int .i64 b],true⟩) 1 2 v=lst [a,b]:=giveR_flat (α:=Int) [a,b] rfl rfl v
@[go_sem] theorem giveR_int3(a b c:Int)(v:Value):giveR (some ⟨[.int .i64 a, .int .i64 b, .int .i64 c],true⟩) 1 3 v=lst [a,b,c]:=giveR_flat (α:=Int) [a,b,c] rfl rfl v
@[go_sem] theorem giveR_lst1{α:Type}[Enc α](a:List α)(v:Value):giveR (some ⟨[lst a],true⟩) 1 1 v=lst [a]:=giveR_flat (α:=List α) [a] rfl rfl v
@[go_sem] theorem giveR_lst2{α:Type}[Enc α](a b:List α)(v:Value):giveR (some ⟨[lst a,lst b],true⟩) 1 2 v=lst [a,b]:=giveR_flat (α:=List α) [a,b] rfl rfl v
theorem setCells_rel{A:Nat->Prop}{ι:Ren}{Bd B base n:Nat}:∀(vs vs':List Value) (H:AH) (w:World) (b:Blk) (o:Nat),Rel A ι H Bd w->H n=some b->b.own=true->ι n=some (.at B base)->LR ι w vs vs'->o+vs.length<=b.cells.length->
  Rel A ι (upd H n (some ⟨lset b.cells o vs,true⟩)) Bd (w.setCells B (base+o) vs')/\Keep A ι w ι (w.setCells B (base+o) vs')
 |[],[],H,w,b,o,hr,hb,ho,hι,_,_=>by
  refine⟨hr.sub fun m c hm=> ?_,Keep.refl A w⟩
  by_cases e:m=n
  ·subst e
   rw[qJ]at hm
   cases hm
   rw[hb]
   obtain⟨cells,own⟩:=b
   simp only at ho
   subst ho
   rfl
  ·rw[qD H _ e]at hm;exact hm
 |v::vs,v'::vs',H,w,b,o,hr,hb,ho,hι,hl,hle=>by
  simp only[xJ]at hle
  have hv:VR ι w v v':=hl.2 0 v v' rfl rfl
  obtain⟨hr',hA,hnz⟩:=hr.set (off:=o) hb ho hι hv
  have hk:=Keep.setCell w (base+o) v' hA hnz
  have hl':LR ι (w.setCell ⟨B,base+o,none⟩ v') vs vs':=by
   have:LR ι w vs vs':=⟨by simpa using hl.1,fun j x x' h1 h2=>hl.2 (j+1) x x' (by simpa using h1) (by simpa using h2)⟩
   exact this.mono (Ext.refl ι) hk.rows
  obtain⟨h1,h2⟩:=setCells_rel vs vs' _ _ ⟨b.cells.set o v,true⟩ (o+1) hr' (qJ _ _ _) rfl hι hl' (by simp;omega)
  rw[upd_upd]at h1
  exact⟨h1,hk.trans h2⟩
 |[],_::_,_,_,_,_,_,_,_,_,hl,_=>by have:=hl.1;simp at this
 |_::_,[],_,_,_,_,_,_,_,_,hl,_=>by have:=hl.1;simp at this
def intsOf:List Value->Option (List Int)
 |[]=>some []
 | .int .i64 n::l=>(intsOf l).map (n:: ·)
 |_=>none
theorem intsOf_out:∀ {l:List Value} {zs:List Int},intsOf l=some zs->l=zs.map (Value.int .i64)
 |[],zs,h=>by cases h;rfl
 |v::l,zs,h=>by
  unfold intsOf at h
  split at h
  ·rename_i h1;cases h1
  ·rename_i n l' h1
   cases h1
   obtain⟨ys,h2,rfl⟩:=Option.map_eq_some_iff.1 h
   rw[intsOf_out h2];rfl
  ·cases h
theorem flat_ints:∀(zs:List Int),qO zs=zs.map (Value.int .i64)
 |[]=>rfl
 |z::zs=>by rw[jO,flat_ints zs];rfl
@[go_sem] theorem intsOf_flat(zs:List Int):intsOf (qO zs)=some zs:=by
 rw[flat_ints]
 induction zs with
 |nil=>rfl
 |cons z zs ih=>simp[intsOf,ih]
theorem LR_ints(ι:Ren)(w:World)(zs:List Int):LR ι w (zs.map (Value.int .i64)) (zs.map (Value.int .i64)):=LR.plain (by simp[yI])
theorem own_open{A:Nat->Prop}{ι:Ren}{H:AH}{Bd:Nat}{w:World}(hr:Rel A ι H Bd w){n l c:Nat}{b:Blk}(hb:H n=some b)(ho:b.own=true){v':Value}(hv:VR ι w (.slice (some ⟨n,0,some 1⟩) l c) v'){zs:List Int}(hz:b.cells=zs.map (Value.int .i64))(hl:l=zs.length):
  (l=0/\∃A' c',v'= .slice A' 0 c')\/∃B base c',v'= .slice (some ⟨B,base,none⟩) l c'/\l<=c'/\ι n=some (.at B base)/\B<w.heap.size/\Holds (Value.int .i64) w B base zs.toArray:=by
 cases hv with
 |sl h1 h2 h3 h4 h5=>
  rename_i c' A'
  rcases h5 with h5|⟨B,base,size,g1,rfl,g3,g4⟩
  ·exact .inl ⟨by omega,A',c',by rw[show l=0 by omega]⟩
  ·refine .inr ⟨B,base,c',rfl,h2,g1,hr.lt hb g1,fun j hj=> ?_⟩
   rcases hr.blk n b hb with⟨hv,_⟩|⟨B1,base1,cs,e,fr,q1,q2,q3,q4,q5⟩
   ·rw[g1]at hv;cases hv
   ·rw[g1]at q1;cases q1
    have hj':j<zs.length:=by simpa using hj
    have hc:b.cells[j]? =some (.int .i64 zs[j]):=by rw[hz];simp[hj']
    obtain⟨u,u1,u2⟩:=q5 j _ hc
    cases u2
    have hlt:=(xS.1 u1).1
    refine⟨?_,?_⟩
    ·show w.cell? ⟨B,base+0+j,none⟩=_
     rw[Nat.add_zero,cell_of q2,u1,getElem!_pos _ j hj];simp
    ·show w.frozen? ⟨B,base+0+j,none⟩=_
     rw[Nat.add_zero]
     exact frozen_of q2 (q3 ho).2 hlt
def vN(zs:List Int):List Int:=zs.mergeSort fun x y=>decide (x<=y)
def SortT:qH:=fun args H Bd K=>∃(n l c:Nat),args=[.slice (some ⟨n,0,some 1⟩) l c]/\Yld (H n) fun b=>Yld (intsOf b.cells) fun zs=>(b.own=true/\l=zs.length/\zs.length<=1000000)/\K undef (upd H n (some ⟨qO (vN zs),true⟩)) Bd
@[go_sem ↓] theorem SortT_eq (n l c:Nat) (H:AH) (Bd:Nat) (K:Value->AH->Nat->Prop):SortT [.slice (some ⟨n,0,some 1⟩) l c] H Bd K=(Yld (H n) fun b=>Yld (intsOf b.cells) fun zs=>(b.own=true/\l=zs.length/\zs.length<=1000000)/\K undef (upd H n (some ⟨qO (vN zs),true⟩)) Bd):=by
 refine propext ⟨fun h=> ?_,fun h=>⟨_,_,_,rfl,h⟩⟩
 obtain⟨n',l',c',e,h⟩:=h
 simp only[xG,xY,xE,Addr.mk.injEq,true_and,and_true]at e
 obtain⟨rfl,rfl,rfl⟩:=e
 exact h
theorem lset_all(cells vs:List Value)(h:vs.length=cells.length):lset cells 0 vs=vs:=by
 refine List.ext_getElem? fun j=> ?_
 rcases xM j vs.length with hj|hj
 ·rw[lset_get vs cells 0 j (by omega),if_neg (by omega),if_pos (by omega),Nat.sub_zero]
 ·rw[wQ (by rw[lset_length];omega),wQ hj]
theorem put_rel{A:Nat->Prop}{ι:Ren}{H:AH}{Bd:Nat}{w:World}(hr:Rel A ι H Bd w){n B base:Nat}{b:Blk}(hb:H n=some b)(ho:b.own=true)(hι:ι n=some (.at B base)){zs ys:List Int}(hz:b.cells=zs.map (Value.int .i64))(hH:Holds (Value.int .i64) w B base zs.toArray)(hl:ys.length=zs.length)(q:Nat)(os:Array Obj):
  Rel A ι (upd H n (some ⟨qO ys,true⟩)) Bd (Sort.grow (putRow (Value.int .i64) (Sort.ahead w q) B base ys.toArray) os)/\Keep A ι w ι (Sort.grow (putRow (Value.int .i64) (Sort.ahead w q) B base ys.toArray) os):=by
 rw[Lib.putRow_eq_setCells (Value.int .i64) w B base zs.toArray ys q hH (by simpa using hl)]
 have h1:Below w.heap.size w (w.drewN q):=below_drewN (Below.refl _ w) q
 have r1:=hr.below h1
 have k1:Keep A ι w ι (w.drewN q):=Keep.below h1
 obtain⟨r2,k2⟩:=setCells_rel (base:=base) (ys.map (Value.int .i64)) (ys.map (Value.int .i64)) H (w.drewN q) b 0 r1 hb ho hι (LR_ints ι _ ys) (by rw[hz];simp;omega)
 rw[Nat.add_zero]at r2 k2
 rw[lset_all _ _ (by rw[hz];simp[hl]),<-flat_ints]at r2
 rw[<-flat_ints]at k2 ⊢
 have h3:=below_grow (w:=(w.drewN q).setCells B base (qO ys)) 0 os
 exact⟨r2.below h3,(k1.trans k2).trans (Keep.below h3)⟩
theorem sort_ok{P:Program}{f:FuncId}(hent:Enters P f)
  (h1:∀(blk off cap:Nat) (zs:List Int) (w:World),Holds (Value.int .i64) w blk off zs.toArray->blk<w.heap.size->zs.length<4611686018427387904->
   Calls P f #[.slice (some ⟨blk,off,none⟩) zs.length cap] w fun e w'=>e= .returned (.tuple #[])/\∃n os,w'=Sort.grow (putRow (Value.int .i64) (Sort.ahead w n) blk off (zs.mergeSort fun x y=>decide (x<=y)).toArray) os)
  (h2:∀(p:Option Addr) (cap:Nat) (w:World),Calls P f #[.slice p 0 cap] w fun e w'=>e= .returned (.tuple #[])/\w'=w):∀args H Bd K,SortT args H Bd K->SCalls P f args H Bd K:=by
 rintro args H Bd K ⟨n,l,c,rfl,b,hb,zs,hz,⟨ho,hl,hle⟩,hK⟩
 refine⟨hent,fun A ι vs w hr hs=> ?_⟩
 obtain⟨v,rfl,hv⟩:=hs.one
 have hz':=intsOf_out hz
 have hu:∀ι w,VR ι w undef (.tuple #[]):=fun ι w=> .tuple rfl fun i v v' h _=>by simp at h
 rcases own_open hr hb ho hv hz' hl with⟨h0,A',c',rfl⟩|⟨B,base,c',rfl,g1,g2,g3,g4⟩
 ·have hzs:zs=[]:=List.length_eq_zero_iff.1 (by omega)
  refine(h2 A' c' w).mono fun e w' ⟨he,hw⟩=> ?_
  subst hw
  refine⟨_,undef,ι,_,Bd,he,hK,xC _,?_,hu _ _,Keep.refl A _,Agr.refl _ _,(NI.refl _).upd _ _⟩
  refine hr.sub fun m x hm=> ?_
  by_cases e:m=n
  ·subst e
   rw[qJ]at hm
   cases hm
   rw[hb]
   obtain⟨cells,own⟩:=b
   simp only at ho hz'
   subst ho;subst hzs
   rw[hz']
   simp[vN,qO]
  ·rw[qD H _ e]at hm;exact hm
 ·subst hl
  refine(h1 B base c' zs w g4 g3 (by omega)).mono fun e w' ⟨he,q,os,hw⟩=> ?_
  obtain⟨r,k⟩:=put_rel hr hb ho g2 hz' g4 (ys:=vN zs) (by simp[vN]) q os
  subst hw
  exact⟨_,undef,ι,_,Bd,he,hK,xC _,r,hu _ _,k,Agr.refl _ _,(NI.refl _).upd _ _⟩
def CompT:qH:=fun args H Bd K=>∃(n l c:Nat),args=[.slice (some ⟨n,0,some 1⟩) l c]/\Yld (H n) fun b=>Yld (intsOf b.cells) fun zs=>(b.own=true/\l=zs.length/\zs.length<=1000000)/\
 K (.slice (some ⟨n,0,some 1⟩) (Lib.compact zs).length c) (upd H n (some ⟨qO (Lib.compact zs++List.replicate (zs.length-(Lib.compact zs).length) 0),true⟩)) Bd
@[go_sem ↓] theorem CompT_eq (n l c:Nat) (H:AH) (Bd:Nat) (K:Value->AH->Nat->Prop):CompT [.slice (some ⟨n,0,some 1⟩) l c] H Bd K=(Yld (H n) fun b=>Yld (intsOf b.cells) fun zs=>(b.own=true/\l=zs.length/\zs.length<=1000000)/\
 K (.slice (some ⟨n,0,some 1⟩) (Lib.compact zs).length c) (upd H n (some ⟨qO (Lib.compact zs++List.replicate (zs.length-(Lib.compact zs).length) 0),true⟩)) Bd):=by
 refine propext ⟨fun h=> ?_,fun h=>⟨_,_,_,rfl,h⟩⟩
 obtain⟨n',l',c',e,h⟩:=h
 simp only[xG,xY,xE,Addr.mk.injEq,true_and,and_true]at e
 obtain⟨rfl,rfl,rfl⟩:=e
 exact h
theorem compact_le(zs:List Int):(Lib.compact zs).length<=zs.length:=by
 unfold Lib.compact Lib.compactUpTo
 rw[List.length_map]
 exact wE (List.length_filter_le _ _) (by simp)
theorem compact_nil:Lib.compact ([]:List Int)=[]:=rfl
def reLen(v:Value)(m:Nat):Value:=match v with
 | .slice a _ c'=> .slice a m c'
 |v=>v
theorem comp_ok{P:Program}{f:FuncId}(hent:Enters P f)
  (h1:∀(blk off cap:Nat) (zs:List Int) (w:World),Holds (Value.int .i64) w blk off zs.toArray->zs.length<=9223372036854775807->zs.length<=cap->
   Calls P f #[.slice (some ⟨blk,off,none⟩) zs.length cap] w fun e w'=>e= .returned (.slice (some ⟨blk,off,none⟩) (Lib.compact zs).length cap)/\∃q,w'=putRow (Value.int .i64) (Sort.ahead w q) blk off (Lib.compact zs++List.replicate (zs.length-(Lib.compact zs).length) 0).toArray)
  (h2:∀(p:Option Addr) (cap:Nat) (w:World),Calls P f #[.slice p 0 cap] w fun e w'=>e= .returned (.slice p 0 cap)/\w'=w):∀args H Bd K,CompT args H Bd K->SCalls P f args H Bd K:=by
 rintro args H Bd K ⟨n,l,c,rfl,b,hb,zs,hz,⟨ho,hl,hle⟩,hK⟩
 refine⟨hent,fun A ι vs w hr hs=> ?_⟩
 obtain⟨v,rfl,hv⟩:=hs.one
 have hz':=intsOf_out hz
 have hcl:=compact_le zs
 have hres:∀ {w'} (hf:Fro ι w w') (m:Nat),m<=l->VR ι w' (.slice (some ⟨n,0,some 1⟩) m c) (reLen v m):=fun hf m hm=>by
  cases hv with
  |sl g1 g2 g3 g4 g5=>
   refine .sl g1 (by omega) g3 g4 (g5.imp id ?_)
   rintro⟨B,base,size,q1,q2,q3,q4⟩
   exact⟨B,base,size,q1,q2,q3.mono hf.rows,q4⟩
 rcases own_open hr hb ho hv hz' hl with⟨h0,A',c',rfl⟩|⟨B,base,c',rfl,g1,g2,g3,g4⟩
 ·have hzs:zs=[]:=List.length_eq_zero_iff.1 (by omega)
  subst hzs
  refine(h2 A' c' w).mono fun e w' ⟨he,hw⟩=> ?_
  subst hw
  have hv2:=hres (Fro.refl ι _) 0 (xT _)
  refine⟨_,_,ι,_,Bd,he,hK,xC _,?_,hv2,Keep.refl A _,Agr.refl _ _,(NI.refl _).upd _ _⟩
  refine hr.sub fun m x hm=> ?_
  by_cases e:m=n
  ·subst e
   rw[qJ]at hm
   cases hm
   rw[hb]
   obtain⟨cells,own⟩:=b
   simp only at ho hz'
   subst ho
   rw[hz']
   simp[compact_nil,qO]
  ·rw[qD H _ e]at hm;exact hm
 ·subst hl
  refine(h1 B base c' zs w g4 (by omega) g1).mono fun e w' ⟨he,q,hw⟩=> ?_
  obtain⟨r,k⟩:=put_rel hr hb ho g2 hz' g4 (ys:=Lib.compact zs++List.replicate (zs.length-(Lib.compact zs).length) 0) (by simp;omega) q #[]
  have hg:Sort.grow (putRow (Value.int .i64) (Sort.ahead w q) B base (Lib.compact zs++List.replicate (zs.length-(Lib.compact zs).length) 0).toArray) #[]=w':=by
   subst hw;unfold Sort.grow;rw[Array.append_empty]
  rw[hg]at r k
  exact⟨_,_,ι,_,Bd,he,hK,xC _,r,hres k.rows _ hcl,k,Agr.refl _ _,(NI.refl _).upd _ _⟩
def uniqI(zs:List Int):List Int:=Lib.compact (vN zs)
theorem keeps_first(d:Array Int):∀(j:Nat),j<d.size->∃i,i<=j/\Lib.keeps d i=true/\d[i]! =d[j]!
 |0,_=>⟨0,xC _,Lib.keeps_lt_one d 0 (by omega),rfl⟩
 |j+1,h=>by
  by_cases hk:Lib.keeps d (j+1)=true
  ·exact⟨j+1,xC _,hk,rfl⟩
  ·obtain⟨i,h1,h2,h3⟩:=keeps_first d j (by omega)
   refine⟨i,by omega,h2,?_⟩
   rw[h3]
   unfold Lib.keeps at hk
   simp at hk
   first|exact hk.2.symm|exact hk.symm|exact hk|exact hk.2
theorem mem_compact(zs:List Int)(x:Int):x∈Lib.compact zs↔x∈zs:=by
 unfold Lib.compact Lib.compactUpTo
 constructor
 ·intro h
  obtain⟨i,hi,rfl⟩:=List.mem_map.1 h
  have:=List.mem_range.1 (List.mem_filter.1 hi).1
  rw[getElem!_pos _ i (by simpa using this)]
  simp
 ·intro h
  obtain⟨j,hj,rfl⟩:=wO h
  obtain⟨i,h1,h2,h3⟩:=keeps_first zs.toArray j (by simpa using hj)
  refine List.mem_map.2 ⟨i,List.mem_filter.2 ⟨List.mem_range.2 (by omega),h2⟩,?_⟩
  rw[h3,getElem!_pos _ j (by simpa using hj)];simp
theorem mem_uniqI(zs:List Int)(x:Int):x∈uniqI zs↔x∈zs:=by
 unfold uniqI
 rw[mem_compact,vN,List.mem_mergeSort]
theorem loadBytes_run{P:Program}{w:World}{B:Nat}{cs:Array Value}{e:TypeId}{fr:Nat×Nat}(hB:w.heap[B]? =some (.cells cs e fr)):
  ∀(xs:List UInt8) (o:Nat) (acc:ByteArray),(∀(j:Nat) x,xs[j]? =some x->cs[o+j]? =some (byteV x))->(Extern.Bytes.loadBytes ⟨B,o,none⟩ xs.length acc).run P w= .ok ⟨(acc.data.toList++xs).toArray⟩ w
 |[],o,acc,_=>by
  show Result.ok acc w=_
  congr 1
  simp
 |x::xs,o,acc,h=>by
  have h0:=h 0 x rfl
  rw[Nat.add_zero]at h0
  have ih:=loadBytes_run (P:=P) hB xs (o+1) (acc.push x) fun j y hy=>by rw[Nat.add_assoc,Nat.add_comm 1 j];exact h (j+1) y (by simpa using hy)
  rw[xJ,Extern.Bytes.loadBytes]
  have hld:(load ⟨B,o,none⟩).run P w= .ok (byteV x) w:=by
   rw[run_load P w _ .plain,cell_of hB,h0]
  simp only[xW,hld,xV,byteV,Int.toNat_natCast]
  rw[show(x.toNat).toUInt8=x from UInt8.ofNat_toNat,zD,ih]
  congr 2
  simp
theorem vr_u8s{ι:Ren}{P:Program}{w:World}{xs:List UInt8}{v:Value}(h:VR ι w (lst xs) v):(Extern.Bytes.bytesOf v).run P w= .ok ⟨xs.toArray⟩ w:=by
 generalize hy:lst xs=y at h
 unfold lst LST at hy
 cases h with
 |lst0=>
  simp only[Value.func.injEq,true_and]at hy
  have:=congrArg Array.size hy.2
  simp at this
  subst this
  rename_i k A c
  cases A <;>rfl
 |lst hfz hB hl hsz hr hc=>
  rename_i k rows B base c' cs e fr
  simp only[Value.func.injEq,true_and]at hy
  obtain⟨hk,rfl⟩:=hy
  have hk:1=k:=by injection hk
  subst hk
  have hs:(((xs.map enc).map fun r=>Value.agg r.toArray).toArray).size=xs.length:=by simp
  rw[hs]
  show(Extern.Bytes.loadBytes ⟨B,base,none⟩ xs.length .empty).run P w=_
  rw[loadBytes_run hB xs base .empty fun j x hj=> ?_]
  ·congr 2
  ·have hlt:=(xR.1 hj).1
   have h1:((xs.map enc).map fun r=>Value.agg r.toArray).toArray[j]? =some (.agg #[byteV x]):=by
    simp[hj];rfl
   simp only[List.size_toArray,List.length_map]at hl
   have h2:base+j<cs.size:=by omega
   have h3:=hc j 0 #[byteV x] (byteV x) cs[base+j] h1 (by simp) (by simp[h2])
   generalize hg:cs[base+j]=g at h3
   cases h3
   simp[h2,hg,byteV]
 |_=>cases hy
theorem run_cmp{ι:Ren}{P:Program}{w:World}{xs ys:List UInt8}{v u:Value}(hv:VR ι w (lst xs) v)(hu:VR ι w (lst ys) u):
  (Extern.BytealgCompare.compare #[v,u]).run P w= .ok (.int .i64 (Lib.compareBytes xs ys)) w:=by
 change Sem.run P (do pure (goInt (Extern.BytealgCompare.cmp (<-Extern.Bytes.bytesOf v) (<-Extern.Bytes.bytesOf u)))) w=_
 simp only[xW,xX,vr_u8s (P:=P) hv,vr_u8s (P:=P) hu,xV]
 rw[Lib.cmp_eq]
 rfl
structure Memo where
 rows:Array Value
instance :Enc Memo:=⟨1,fun m=>[.func (.methodOf 0 "") #[] m.rows],fun _=>rfl,by decide,fun x Bd v h=>by simp at h;subst h;exact .mp,fun _=>rfl,fun x y h=>by cases x;cases y;simpa using h⟩
structure GComparer where
 s:GSignature
 order:List Int
 a:List Int
 b:List Int
 known:Memo
instance :Enc GComparer:=Enc.of (fun x=>(x.s,x.order,x.a,x.b,x.known)) fun x y h=>by cases x;cases y;simp_all
@[push_cast] theorem enc_GComparer(x:GComparer):enc x=[lst x.s.symbols,lst x.order,lst x.a,lst x.b, .func (.methodOf 0 "") #[] x.known.rows]:=(rfl)
def gtRows(s:GSignature)(order a b:List Int):Array Value:=((List.range 1024).map fun m=>Value.bool (gt s order a b (m/32) (m%32))).toArray
theorem gtRows_get(s:GSignature)(order a b:List Int){i j:Nat}(hi:i<32)(hj:j<32):(gtRows s order a b)[i*32+j]? =some (.bool (gt s order a b i j)):=by
 unfold gtRows
 rw[wJ,wN,List.getElem?_range (by omega)]
 simp only[wK]
 rw[show(i*32+j)/32=i by omega,show(i*32+j)%32=j by omega]
class TyM (P:Program) (t:TypeId):Prop where
 h:mapTy P t=true
theorem look_gt{P:Program}{t:TypeId}[h:TyM P t](s:GSignature)(order a b:List Int){i j:Nat}(hi:i<32)(hj:j<32):
  alookup P t (.func (.methodOf 0 "") #[] (gtRows s order a b)) (.agg [.int .i64 i, .int .i64 j].toArray)=some (gt s order a b i j):=alookup_rule h.h hj (gtRows_get s order a b hi hj)
theorem mset_gt{P:Program}{t:TypeId}[h:TyM P t](s:GSignature)(order a b:List Int){i j:Nat}(hi:i<32)(hj:j<32):
  amapset P t (.func (.methodOf 0 "") #[] (gtRows s order a b)) (.agg [.int .i64 i, .int .i64 j].toArray) (.bool (gt s order a b i j))=true:=by
 unfold amapset
 rw[look_gt s order a b hi hj]
 simp
structure CmpOK (c:GComparer):Prop where
 s1:sm c.s
 s2:sm c.order
 s3:sm c.a
 s4:sm c.b
 sig:kE c.s=0
 ord:ordG c.s c.order=0
 ta:TermOK c.s c.a
 tb:TermOK c.s c.b
 rows:c.known.rows=gtRows c.s c.order c.a c.b
def vars1(t:List Int):List Int:=(t.filter fun n=>decide (n<0)).map fun n=> -1-n
def varsL(ts:List (List Int)):List Int:=ts.flatMap vars1
theorem varsL_nil:varsL []=[]:=rfl
theorem vars1_nil:vars1 []=[]:=rfl
theorem vars1_take{t:List Int}{i:Nat}(h:i<t.length):vars1 (t.take (i+1))=vars1 (t.take i)++if t[i]<0 then [-1-t[i]]else []:=by
 unfold vars1
 rw[xP h,List.filter_append,List.map_append]
 by_cases hn:t[i]<0
 ·simp[hn]
 ·simp[hn]
theorem varsL_take{ts:List (List Int)}{i:Nat}(h:i<ts.length):varsL (ts.take (i+1))=varsL (ts.take i)++vars1 ts[i]:=by
 unfold varsL
 rw[xP h,List.flatMap_append];simp
theorem vars1_len(t:List Int):(vars1 t).length<=t.length:=by
 unfold vars1;rw[List.length_map];exact List.length_filter_le _ _
theorem varsL_len{ts:List (List Int)}(h:∀t∈ts,t.length<=24):(varsL ts).length<=24*ts.length:=by
 induction ts with
 |nil=>simp[varsL]
 |cons t ts ih=>
  have h1:=vars1_len t
  have h2:=h t (by simp)
  have h3:=ih fun x hx=>h x (by simp[hx])
  unfold varsL at h3 ⊢
  rw[List.flatMap_cons,xD,xJ]
  omega
theorem mem_vars1{t:List Int}{v:Int}:v∈vars1 t↔∃n∈t,n<0/\v= -1-n:=by
 unfold vars1
 simp only[List.mem_map,List.mem_filter,decide_eq_true_eq]
 constructor
 ·rintro⟨n,⟨h1,h2⟩,rfl⟩;exact⟨n,h1,h2,rfl⟩
 ·rintro⟨n,h1,h2,rfl⟩;exact⟨n,⟨h1,h2⟩,rfl⟩
theorem mem_varsL{ts:List (List Int)}{v:Int}:v∈varsL ts↔∃t∈ts,v∈vars1 t:=by unfold varsL;simp
theorem yS(zs:List Int):(vN zs).length=zs.length:=by simp[vN]
theorem uniq_len(zs:List Int):(uniqI zs).length<=zs.length:=by have:=compact_le (vN zs);rw[yS]at this;exact this
theorem vars_low(l r:List Int):(uniqI (varsL [l,r])).any (fun v=>decide (6<=v))= !(lowB l&&lowB r):=by
 rw[Bool.eq_iff_iff,List.any_eq_true]
 simp only[mem_uniqI,mem_varsL,decide_eq_true_eq,Bool.not_eq_true',Bool.and_eq_false_iff]
 have hl:∀t:List Int,lowB t=false↔∃n∈t,n< -6:=fun t=>by
  unfold lowB
  rw[List.all_eq_false]
  constructor
  ·rintro⟨n,h1,h2⟩;exact⟨n,h1,by simpa using h2⟩
  ·rintro⟨n,h1,h2⟩;exact⟨n,h1,by simpa using h2⟩
 rw[hl,hl]
 constructor
 ·rintro⟨v,⟨t,ht,hv⟩,h6⟩
  obtain⟨n,h1,h2,rfl⟩:=mem_vars1.1 hv
  simp only[wG,List.not_mem_nil,or_false]at ht
  rcases ht with rfl|rfl
  ·exact .inl ⟨n,h1,by omega⟩
  ·exact .inr ⟨n,h1,by omega⟩
 ·rintro(⟨n,h1,h2⟩|⟨n,h1,h2⟩)
  ·exact⟨-1-n,⟨l,by simp,mem_vars1.2 ⟨n,h1,by omega,rfl⟩⟩,by omega⟩
  ·exact⟨-1-n,⟨r,by simp,mem_vars1.2 ⟨n,h1,by omega,rfl⟩⟩,by omega⟩
theorem vars_rule(l r:List Int):(!(uniqI (varsL [r])).any fun v=> !(uniqI (varsL [l])).any fun x=>decide (v=x))=r.all (varOK ⟨l,r⟩):=by
 rw[Bool.eq_iff_iff]
 simp only[Bool.not_eq_true',List.any_eq_false,List.all_eq_true,mem_uniqI,mem_varsL,wR,exists_eq_left,Bool.not_eq_false',List.any_eq_true,decide_eq_true_eq,Bool.not_not,varOK]
 constructor
 ·intro h n hn
  by_cases h0:0<=n
  ·exact .inl h0
  ·have:=h (-1-n) (mem_vars1.2 ⟨n,hn,by omega,rfl⟩)
   have this2: -1-n∈vars1 l:=Classical.byContradiction fun hc=>this fun x hx e=>hc (e▸hx)
   obtain⟨m,h1,h2,h3⟩:=mem_vars1.1 this2
   obtain rfl:m=n:=by omega
   exact .inr (by have:=List.count_pos_iff.2 h1;omega)
 ·intro h v hv
  obtain⟨n,h1,h2,rfl⟩:=mem_vars1.1 hv
  rcases h n h1 with h3|h3
  ·omega
  ·have h4:=List.count_pos_iff.1 (Nat.pos_of_ne_zero h3)
   exact fun hc=>hc _ (mem_vars1.2 ⟨n,h4,h2,rfl⟩) rfl
def eqnF(s:GSignature)(e:GEquation):Int:=if kE s≠0 then kE s else eqnG s e
def eqsF(s:GSignature)(l:List GEquation):Int:=if kE s≠0 then kE s else eqsG s l
def rulesF(s:GSignature)(l:List GEquation):Int:=if kE s≠0 then kE s else vS s l
def nilC(k:Nat)(v:Value):Value:=match v with
 | .slice none 0 0=> .func (.yield k) #[] #[]
 |v=>v
def nilL:List Nat->List Value->List Value
 |k::ks,v::vs=>nilC k v::nilL ks vs
 |_,vs=>vs
def nilAgg(ks:List Nat)(v:Value):Value:=match v with
 | .agg cs=> .agg (nilL ks cs.toList).toArray
 |v=>v
theorem nilC_pub(H:AH)(S:Nat->Prop)(k:Nat)(v:Value):Pub H S v (nilC k v):=by
 unfold nilC;split
 ·exact .empty
 ·exact .same _
theorem nilL_pub(H:AH)(S:Nat->Prop):∀(ks:List Nat) (vs:List Value),(nilL ks vs).length=vs.length/\∀(i:Nat) v u,vs[i]? =some v->(nilL ks vs)[i]? =some u->Pub H S v u
 |[],vs=>⟨by simp[nilL],fun i v u h1 h2=>by simp[nilL]at h2;rw[h1]at h2;cases h2;exact .same _⟩
 |k::ks,[]=>⟨rfl,fun i v u h1 _=>by simp at h1⟩
 |k::ks,w::vs=>by
  obtain⟨h1,h2⟩:=nilL_pub H S ks vs
  refine⟨by simp[nilL,h1],fun i v u g1 g2=> ?_⟩
  cases i with
  |zero=>simp[nilL]at g1 g2;subst g1;subst g2;exact nilC_pub H S k _
  |succ i=>simp only[nilL,wM]at g1 g2;exact h2 i v u g1 g2
theorem nilAgg_pub(H:AH)(S:Nat->Prop)(ks:List Nat)(v:Value):Pub H S v (nilAgg ks v):=by
 unfold nilAgg;split
 ·rename_i cs
  obtain⟨h1,h2⟩:=nilL_pub H S ks cs.toList
  refine .agg (by simp[h1]) fun i v u g1 g2=> ?_
  exact h2 i v u (by simpa using g1) (by simpa using g2)
 ·exact .same _
def NilT(i:Nat)(ks:List Nat)(W:qH):qH:=fun args H Bd K=>W (args.set i (nilAgg ks (args.getD i undef))) H Bd K
theorem NilT_ok{P:Program}{f:FuncId}(i:Nat)(ks:List Nat){W:qH}(h:∀args H Bd K,W args H Bd K->SCalls P f args H Bd K):∀args H Bd K,NilT i ks W args H Bd K->SCalls P f args H Bd K:=fun args H Bd K hk=>
 give (fun _=>False) (PubC.set args i _ (nilAgg_pub H _ ks _)) (Le.refl _) (fun _ _ _ h=>h) (h _ _ _ _ hk)
@[go_sem] theorem nilAgg_agg(ks:List Nat)(l:List Value):nilAgg ks (.agg l.toArray)= .agg (nilL ks l).toArray:=(rfl)
@[go_sem] theorem nilL_cons(k:Nat)(ks:List Nat)(v:Value)(vs:List Value):nilL (k::ks) (v::vs)=nilC k v::nilL ks vs:=(rfl)
@[go_sem] theorem nilL_end(ks:List Nat):nilL ks []=[]:=by cases ks <;>rfl
@[go_sem] theorem nilC_nil1:nilC 1 (.slice none 0 0)=lst ([]:List Int):=(rfl)
@[go_sem] theorem nilC_lst{α:Type}[Enc α](k:Nat)(xs:List α):nilC k (lst xs)=lst xs:=(rfl)
theorem firstF2(a b:Int):vI id [a,b]=if a≠0 then a else b:=by
 by_cases h:a=0
 ·subst h;by_cases h2:b=0 <;>simp[vI,h2]
 ·simp[vI,h]
theorem firstF3(a b c:Int):vI id [a,b,c]=if a≠0 then a else if b≠0 then b else c:=by
 by_cases h:a=0
 ·subst h;by_cases h2:b=0
  ·subst h2;by_cases h3:c=0 <;>simp[vI,h3]
  ·simp[vI,h2]
 ·simp[vI,h]
theorem sm_two{α:Type}[Sz α]{a b:α}(h1:sm a)(h2:sm b):sm [a,b]:=⟨by simp,fun x hx=>by
 rcases wG.1 hx with rfl|hx
 ·exact h1
 ·rw[wR.1 hx];exact h2⟩
theorem sm_one{α:Type}[Sz α]{a:α}(h1:sm a):sm [a]:=⟨by simp,fun x hx=>by rw[wR.1 hx];exact h1⟩
theorem sm_uniq{ts:List (List Int)}(h:ts.length<=100)(h2:∀t∈ts,t.length<=24):sm (uniqI (varsL ts)):=by
 refine(yU _).2 ?_
 have:=uniq_len (varsL ts)
 have:=varsL_len h2
 omega
theorem term_small{s:GSignature}(h:SigOK s){t:List Int}(ht:TermOK s t):t.length<=24/\smallN t:=⟨ht.len.2,nodes_small h ht.nodes⟩
theorem termF_G{s:GSignature}(h:kE s=0)(t:List Int):termF s t=termG s t:=by unfold termF;rw[if_neg (by simp[h])]
theorem rules_eqs{s:GSignature}{l:List GEquation}(h:vS s l=0):eqsG s l=0:=by
 unfold vS at h
 by_cases h1:eqsG s l=0
 ·exact h1
 ·rw[if_pos h1]at h;exact absurd h h1
theorem any_not{α:Type}(l:List α)(p:α->Bool):(!l.any fun x=> !p x)=l.all p:=by
 rw[Bool.eq_iff_iff]
 simp
def mapG(H:AH):List Value->List Value
 |[]=>[]
 |v::l=>giveV H v::mapG H l
def giveA(H:AH)(v:Value):Value:=match v with
 | .agg cs=> .agg (mapG H cs.toList).toArray
 |v=>giveV H v
def killL(H:AH):List Value->AH
 |[]=>H
 |v::l=>killL (giveH H v) l
def killA(H:AH)(v:Value):AH:=match v with
 | .agg cs=>killL H cs.toList
 |v=>giveH H v
def ownS(H:AH)(n:Nat):Prop:=∃b,H n=some b/\b.own=true
theorem giveV_own(H:AH)(v:Value):Pub H (ownS H) v (giveV H v):=by
 unfold giveV
 split
 ·rename_i n k len c
  unfold giveR
  split
  ·rename_i b hb
   split
   ·rename_i h
    refine .lst (b:=b) ⟨b,hb,h.1⟩ hb h.1 (by simp[kY]) (by omega) (fun i x hx=> ?_) (fun i j r v u h1 h2 h3=> ?_)
    ·have hi:i<len:=by have:=(xS.1 hx).1;simpa[kY]using this
     have:=rowsOf_get k len b.cells i hi
     rw[wJ,this]at hx
     cases hx
     refine⟨_,rfl,?_⟩
     have:(i+1)*k<=len*k:=Nat.mul_le_mul_right _ hi
     rw[Nat.succ_mul]at this
     simp;omega
    ·have hi:i<len:=by have:=(xS.1 h1).1;simpa[kY]using this
     have h4:=rowsOf_get k len b.cells i hi
     rw[wJ,h4]at h1
     cases h1
     have hj:j<k:=by
      have:=(xS.1 h3).1
      simp at this;omega
     rw[wJ,List.getElem?_take,if_pos hj,wP]at h3
     rw[Nat.zero_add,h3]at h2
     cases h2
     exact .same _
   ·exact .same _
  ·exact .same _
 ·exact .same _
theorem mapG_own(H:AH):∀(l:List Value),(mapG H l).length=l.length/\∀(i:Nat) v u,l[i]? =some v->(mapG H l)[i]? =some u->Pub H (ownS H) v u
 |[]=>⟨rfl,fun i v u h _=>by simp at h⟩
 |w::l=>by
  obtain⟨h1,h2⟩:=mapG_own H l
  refine⟨by simp[mapG,h1],fun i v u g1 g2=> ?_⟩
  cases i with
  |zero=>simp[mapG]at g1 g2;subst g1;subst g2;exact giveV_own H _
  |succ i=>simp only[mapG,wM]at g1 g2;exact h2 i v u g1 g2
theorem giveA_own(H:AH)(v:Value):Pub H (ownS H) v (giveA H v):=by
 unfold giveA;split
 ·rename_i cs
  obtain⟨h1,h2⟩:=mapG_own H cs.toList
  refine .agg (by simp[h1]) fun i v u g1 g2=> ?_
  exact h2 i v u (by simpa using g1) (by simpa using g2)
 ·exact giveV_own H _
theorem mapA_own(H:AH)(args:List Value):PubC H (ownS H) args (args.map (giveA H)):=PubC.of _ _ (by simp) fun i v u h1 h2=>by
 rw[wN,h1]at h2
 cases h2
 exact giveA_own H v
def Sees(H H':AH):Prop:=∀n b,H n=some b->b.own=false->H' n=some b
theorem sees_mns(H:AH):Sees H (mns H):=fun n b h ho=>by
 unfold mns
 rw[if_neg]
 ·exact h
 ·rintro⟨c,c1,c2⟩
  rw[h]at c1;cases c1;rw[ho]at c2;cases c2
def PureV(W:qH):Prop:=∀args H Bd K,W args H Bd K->∃r,VC r/\K r H Bd/\∀(H':AH) (K':Value->AH->Nat->Prop),Sees H H'->K' r H' Bd->W args H' Bd K'
def LendA(W:qH):qH:=fun args H Bd K=>W (args.map (giveA H)) H Bd K
theorem mrg_mns{H:AH}{Bd:Nat}(hb:HB H Bd):mrg H (mns H) Bd=H:=by
 funext n
 unfold mrg
 split
 ·rfl
 ·rename_i h
  have h1:=hb.fresh n (by omega)
  cases h2:mns H n with
  |none=>exact h1.symm
  |some b=>have:=mns_le H n b h2;rw[h1]at this;cases this
theorem SCalls.of_hb{P:Program}{f:FuncId}{args:List Value}{H:AH}{Bd:Nat}{K:Value->AH->Nat->Prop}(he:Enters P f)(h:HB H Bd->SCalls P f args H Bd K):SCalls P f args H Bd K:=
 ⟨he,fun A ι vs w hr hs=>(h hr.hb).2 A ι vs w hr hs⟩
theorem mns_none{H:AH}{Bd n:Nat}(hb:HB H Bd)(h:Bd<=n):mns H n=none:=by
 cases h2:mns H n with
 |none=>rfl
 |some b=>have:=mns_le H n b h2;rw[hb.fresh n h]at this;cases this
theorem LendA_ok{P:Program}{f:FuncId}{W:qH}(h:∀args H Bd K,W args H Bd K->SCalls P f args H Bd K)(hp:PureV W):∀args H Bd K,LendA W args H Bd K->SCalls P f args H Bd K:=fun args H Bd K hk=>by
 obtain⟨r,h1,h2,h3⟩:=hp _ _ _ _ hk
 refine SCalls.of_hb (h _ _ _ _ hk).1 fun hb=> ?_
 refine lend (mapA_own H args) (h _ _ _ _ (h3 _ _ (sees_mns H) ⟨h1,fun n _=>rfl,fun n b hn hx v hv=> ?_,?_⟩))
 ·rw[mns_none hb hn]at hx;cases hx
 ·rw[mrg_mns hb];exact h2
def killAll(H:AH):List Value->AH
 |[]=>H
 |v::l=>killAll (killA H v) l
def GiveA(W:qH):qH:=fun args H Bd K=>W (args.map (giveA H)) (killAll H args) Bd K
def nameIn(n:Nat):Value->Prop
 | .slice (some ⟨m,0,some _⟩) _ _=>n=m
 |_=>False
def nameA(n:Nat):Value->Prop
 | .agg cs=>∃c∈cs.toList,nameIn n c
 |v=>nameIn n v
theorem giveV_pubN(H:AH)(v:Value):Pub H (fun n=>nameIn n v) v (giveV H v):=by
 have h:=give_pub H v
 have e:giveS v=fun n=>nameIn n v:=by
  funext n
  rcases v with _|_|_|_|_|_|⟨_|⟨m,_|o,_|k⟩,_,_⟩|_|_|_|_|_|_ <;>rfl
 rw[<-e];exact h
theorem Pub.monoS{H:AH}{S T:Nat->Prop}{v u:Value}(h:Pub H S v u)(hs:∀n,S n->T n):Pub H T v u:=by
 induction h with
 |same v=>exact .same v
 |agg hz _ ih=>exact .agg hz ih
 |tuple hz _ ih=>exact .tuple hz ih
 |empty=>exact .empty
 |lst hS hb ho hn hle hr _ ih=>exact .lst (hs _ hS) hb ho hn hle hr ih
theorem mapG_pubN(H:AH):∀(l:List Value),(mapG H l).length=l.length/\∀(i:Nat) v u,l[i]? =some v->(mapG H l)[i]? =some u->Pub H (fun n=>∃c∈l,nameIn n c) v u
 |[]=>⟨rfl,fun i v u h _=>by simp at h⟩
 |w::l=>by
  obtain⟨h1,h2⟩:=mapG_pubN H l
  refine⟨by simp[mapG,h1],fun i v u g1 g2=> ?_⟩
  cases i with
  |zero=>simp[mapG]at g1 g2;subst g1;subst g2;exact(giveV_pubN H _).monoS fun n hn=>⟨_,by simp,hn⟩
  |succ i=>simp only[mapG,wM]at g1 g2;exact(h2 i v u g1 g2).monoS fun n ⟨c,hc,hn⟩=>⟨c,by simp[hc],hn⟩
theorem giveA_pubN(H:AH)(v:Value):Pub H (fun n=>nameA n v) v (giveA H v):=by
 cases v with
 |agg cs=>
  obtain⟨h1,h2⟩:=mapG_pubN H cs.toList
  refine .agg (by simp[h1]) fun i v u g1 g2=> ?_
  exact h2 i v u (by simpa using g1) (by simpa using g2)
 |slice a b c=>exact giveV_pubN H (.slice a b c)
 |_=>exact .same _
theorem giveH_name(H:AH)(v:Value)(n:Nat)(h:nameIn n v):giveH H v n=none:=by
 unfold nameIn at h;split at h
 ·subst h;exact qJ _ _ _
 ·exact h.elim
theorem giveH_none{H:AH}{n:Nat}(h:H n=none)(v:Value):giveH H v n=none:=by
 cases h2:giveH H v n with
 |none=>rfl
 |some b=>have:=give_le H v n b h2;rw[h]at this;cases this
theorem killL_none:∀(l:List Value) {H:AH} {n:Nat},H n=none->killL H l n=none
 |[],_,_,h=>h
 |v::l,_,_,h=>killL_none l (giveH_none h v)
theorem killL_name:∀(l:List Value) {H:AH} {n:Nat},(∃c∈l,nameIn n c)->killL H l n=none
 |[],_,_,⟨c,hc,_⟩=>by simp at hc
 |v::l,H,n,⟨c,hc,hn⟩=>by
  rcases wG.1 hc with rfl|hc
  ·exact killL_none l (giveH_name H _ n hn)
  ·exact killL_name l ⟨c,hc,hn⟩
theorem killL_le:∀(l:List Value) (H:AH),Le (killL H l) H
 |[],H=>Le.refl H
 |v::l,H=>(killL_le l _).trans (give_le H v)
theorem killA_le(H:AH)(v:Value):Le (killA H v) H:=by
 unfold killA;split
 ·exact killL_le _ H
 ·exact give_le H _
theorem killA_name(H:AH)(v:Value)(n:Nat)(h:nameA n v):killA H v n=none:=by
 cases v with
 |agg cs=>exact killL_name _ h
 |slice a b c=>exact giveH_name H (.slice a b c) n h
 |_=>exact h.elim
theorem killAll_le:∀(l:List Value) (H:AH),Le (killAll H l) H
 |[],H=>Le.refl H
 |v::l,H=>(killAll_le l _).trans (killA_le H v)
theorem killAll_none:∀(l:List Value) {H:AH} {n:Nat},H n=none->killAll H l n=none
 |[],_,_,h=>h
 |v::l,H,n,h=>killAll_none l (by
  cases h2:killA H v n with
  |none=>rfl
  |some b=>have:=killA_le H v n b h2;rw[h]at this;cases this)
theorem killAll_name:∀(l:List Value) {H:AH} {n:Nat},(∃c∈l,nameA n c)->killAll H l n=none
 |[],_,_,⟨c,hc,_⟩=>by simp at hc
 |v::l,H,n,⟨c,hc,hn⟩=>by
  rcases wG.1 hc with rfl|hc
  ·exact killAll_none l (killA_name H _ n hn)
  ·exact killAll_name l ⟨c,hc,hn⟩
theorem GiveA_ok{P:Program}{f:FuncId}{W:qH}(h:∀args H Bd K,W args H Bd K->SCalls P f args H Bd K):∀args H Bd K,GiveA W args H Bd K->SCalls P f args H Bd K:=fun args H Bd K hk=>by
 refine give (fun n=>∃c∈args,nameA n c) (PubC.of _ _ (by simp) fun i v u h1 h2=> ?_) (killAll_le args H) (fun n b hb hs=> ?_) (h _ _ _ _ hk)
 ·rw[wN,h1]at h2
  cases h2
  exact(giveA_pubN H v).monoS fun n hn=>⟨v,wC h1,hn⟩
 ·rw[killAll_name args hs]at hb;cases hb
@[go_sem] theorem giveA_agg(H:AH)(l:List Value):giveA H (.agg l.toArray)= .agg (mapG H l).toArray:=(rfl)
@[go_sem] theorem giveA_slice(H:AH)(n k len c:Nat):giveA H (.slice (some ⟨n,0,some k⟩) len c)=giveR (H n) k len (.slice (some ⟨n,0,some k⟩) len c):=(rfl)
@[go_sem] theorem giveA_int(H:AH)(k:IntKind)(n:Int):giveA H (.int k n)= .int k n:=(rfl)
@[go_sem] theorem mapG_nil(H:AH):mapG H []=[]:=(rfl)
@[go_sem] theorem mapG_cons(H:AH)(v:Value)(l:List Value):mapG H (v::l)=giveV H v::mapG H l:=(rfl)
@[go_sem] theorem giveV_bool(H:AH)(b:Bool):giveV H (.bool b)= .bool b:=(rfl)
@[go_sem] theorem killAll_nil(H:AH):killAll H []=H:=(rfl)
@[go_sem] theorem killAll_cons(H:AH)(v:Value)(l:List Value):killAll H (v::l)=killAll (killA H v) l:=(rfl)
@[go_sem] theorem killA_slice(H:AH)(n k len c:Nat):killA H (.slice (some ⟨n,0,some k⟩) len c)=upd H n none:=(rfl)
def slM(H:AH)(Bd0:Nat)(seen:List Nat)(cells:List Value)(k l:Nat)(v:Value)(go:List Nat->Prop):Prop:=match v with
 | .slice (some ⟨m,0,some k'⟩) l' _=>(k'=k/\l'=l/\Bd0<=m/\m∉seen/\H m=some ⟨cells,true⟩)/\go (m::seen)
 | .slice none 0 0=>(l=0/\cells=[])/\go seen
 |_=>False
def OwF(H:AH)(Bd0:Nat):Nat->List (List Value)->List Nat->List Value->List Value->Prop
 |_,L,_,[],[]=>L=[]
 |i,L,seen,v::vs,r::rs=>match r with
  | .slice (some ⟨n,0,some k⟩) l c=>match L with
   |cells::L'=>(n=Bd0+i/\c=l+1)/\slM H Bd0 seen cells k l v fun seen'=>OwF H Bd0 (i+1) L' seen' vs rs
   |[]=>False
  |r=>(v=r/\NB Bd0 r)/\OwF H Bd0 i L seen vs rs
 |_,_,_,_,_=>False
theorem slM_out{H:AH}{Bd0:Nat}{seen:List Nat}{cells:List Value}{k l:Nat}{v:Value}{go:List Nat->Prop}(h:slM H Bd0 seen cells k l v go):
  (∃m c,v= .slice (some ⟨m,0,some k⟩) l c/\Bd0<=m/\m∉seen/\H m=some ⟨cells,true⟩/\go (m::seen))\/(v= .slice none 0 0/\l=0/\cells=[]/\go seen):=by
 unfold slM at h
 split at h
 ·obtain⟨⟨rfl,rfl,h1,h2,h3⟩,h4⟩:=h
  exact .inl ⟨_,_,rfl,h1,h2,h3,h4⟩
 ·obtain⟨⟨h1,h2⟩,h3⟩:=h
  exact .inr ⟨rfl,h1,h2,h3⟩
 ·exact h.elim
theorem OwF.out{H:AH}{Bd0:Nat}:∀(rs vs:List Value) (i:Nat) (L:List (List Value)) (seen:List Nat),OwF H Bd0 i L seen vs rs->
  ∃σ:List (Option Nat),σ.length=L.length/\rs.length=vs.length/\(∀σ0:List (Option Nat),σ0.length=i->∀(j:Nat) r v,rs[j]? =some r->vs[j]? =some v->RN (σ0++σ) Bd0 r v)/\
   (∀q:Nat,σ[q]? =some none->L[q]? =some [])/\(∀(q m:Nat),σ[q]? =some (some m)->Bd0<=m/\m∉seen/\∃cells,H m=some ⟨cells,true⟩/\L[q]? =some cells)/\
   (∀(i j m:Nat),σ[i]? =some (some m)->σ[j]? =some (some m)->i=j)
 |[],[],i,L,seen,h=>by
  have:L=[]:=h
  subst this
  exact⟨[],rfl,rfl,fun _ _ j r v h=>by simp at h,fun q h=>by simp at h,fun q m h=>by simp at h,fun i j m h=>by simp at h⟩
 |[],_::_,i,L,seen,h=>h.elim
 |_::_,[],i,L,seen,h=>h.elim
 |r::rs,v::vs,i,L,seen,h=>by
  unfold OwF at h
  split at h
  ·rename_i n k l c
   split at h
   ·rename_i cells L'
    obtain⟨⟨rfl,rfl⟩,h⟩:=h
    rcases slM_out h with⟨m,c,rfl,h1,h2,h3,h4⟩|⟨rfl,rfl,rfl,h4⟩
    ·obtain⟨σ,g1,g2,g3,g4,g5,g6⟩:=OwF.out rs vs _ _ _ h4
     refine⟨some m::σ,by simp[g1],by simp[g2],fun σ0 hs j r v e1 e2=> ?_,fun q hq=> ?_,fun q m' hq=> ?_,fun a b m' ha hb=> ?_⟩
     ·cases j with
      |zero=>
       simp only[wD,xE]at e1 e2
       subst e1;subst e2
       exact .sl (by rw[wB (by omega),hs,Nat.sub_self];rfl)
      |succ j=>
       have:=g3 (σ0++[some m]) (by simp[hs]) j r v (by simpa using e1) (by simpa using e2)
       rwa[xL,List.singleton_append]at this
     ·cases q with
      |zero=>simp at hq
      |succ q=>simpa using g4 q (by simpa using hq)
     ·cases q with
      |zero=>simp only[wD,xE]at hq;subst hq;exact⟨h1,h2,_,h3,rfl⟩
      |succ q=>
       obtain⟨k1,k2,k3⟩:=g5 q m' (by simpa using hq)
       exact⟨k1,fun hm=>k2 (List.mem_cons_of_mem _ hm),by simpa using k3⟩
     ·cases a with
      |zero=>cases b with
       |zero=>rfl
       |succ b=>
        simp only[wD,xE]at ha;subst ha
        exact absurd List.mem_cons_self (g5 b m (by simpa using hb)).2.1
      |succ a=>cases b with
       |zero=>
        simp only[wD,xE]at hb;subst hb
        exact absurd List.mem_cons_self (g5 a m (by simpa using ha)).2.1
       |succ b=>rw[g6 a b m' (by simpa using ha) (by simpa using hb)]
    ·obtain⟨σ,g1,g2,g3,g4,g5,g6⟩:=OwF.out rs vs _ _ _ h4
     refine⟨none::σ,by simp[g1],by simp[g2],fun σ0 hs j r v e1 e2=> ?_,fun q hq=> ?_,fun q m' hq=> ?_,fun a b m' ha hb=> ?_⟩
     ·cases j with
      |zero=>
       simp only[wD,xE]at e1 e2
       subst e1;subst e2
       exact .nil (by rw[wB (by omega),hs,Nat.sub_self];rfl)
      |succ j=>
       have:=g3 (σ0++[none]) (by simp[hs]) j r v (by simpa using e1) (by simpa using e2)
       rwa[xL,List.singleton_append]at this
     ·cases q with
      |zero=>rfl
      |succ q=>simpa using g4 q (by simpa using hq)
     ·cases q with
      |zero=>simp at hq
      |succ q=>
       obtain⟨k1,k2,k3⟩:=g5 q m' (by simpa using hq)
       exact⟨k1,k2,by simpa using k3⟩
     ·cases a with
      |zero=>simp at ha
      |succ a=>cases b with
       |zero=>simp at hb
       |succ b=>rw[g6 a b m' (by simpa using ha) (by simpa using hb)]
   ·exact h.elim
  ·obtain⟨⟨rfl,hnb⟩,h⟩:=h
   obtain⟨σ,g1,g2,g3,g4,g5,g6⟩:=OwF.out rs vs _ _ _ h
   refine⟨σ,g1,by simp[g2],fun σ0 hs j r v e1 e2=> ?_,g4,g5,g6⟩
   cases j with
   |zero=>
    simp only[wD,xE]at e1 e2
    subst e1;subst e2
    exact .same hnb
   |succ j=>exact g3 σ0 hs j r v (by simpa using e1) (by simpa using e2)
def parts:Value->List Value
 | .agg cs=>cs.toList
 |v=>[v]
def shp:Value->Value->Prop
 | .agg _, .agg _=>True
 | .slice _ _ _, .slice _ _ _=>True
 |_,_=>False
def OwnR(H:AH)(Bd0:Nat)(v r0:Value)(L:List (List Value)):Prop:=shp v r0/\OwF H Bd0 0 L [] (parts v) (parts r0)
def putU:AH->Nat->List (List Value)->AH
 |H,_,[]=>H
 |H,Bd,c::L=>putU (upd H Bd (some ⟨c,true⟩)) (Bd+1) L
theorem putU_at:∀(L:List (List Value)) (H:AH) (Bd:Nat),(∀n,Bd<=n->H n=none)->∀n,putU H Bd L n=if n<Bd then H n else(L[n-Bd]?).map fun c=>⟨c,true⟩
 |[],H,Bd,hn,n=>by
  show H n=_
  split
  ·rfl
  ·rw[hn n (by omega)];rfl
 |c::L,H,Bd,hn,n=>by
  show putU (upd H Bd (some ⟨c,true⟩)) (Bd+1) L n=_
  rw[putU_at L _ _ fun n h=>by rw[qD _ _ (by omega)];exact hn n (by omega)]
  by_cases e:n=Bd
  ·subst e;rw[if_pos (by omega),if_neg (by omega),qJ,Nat.sub_self];rfl
  ·split
   ·rw[if_pos (by omega),qD _ _ e]
   ·rename_i h
    rw[if_neg (by omega),show n-Bd=(n-(Bd+1))+1 by omega,wM]
theorem putU_eq{H:AH}{Bd:Nat}(hb:HB H Bd)(L:List (List Value)):putU H Bd L=putN H Bd L:=funext fun n=>putU_at L H Bd hb.fresh n
def OwnQ(P:Program)(rs:List ResultVar)(H0:AH)(Bd0:Nat)(r0:Value)(L:List (List Value))(s:List Value)(H:AH)(Bd:Nat):Prop:=
 Yld (yG P rs s H) fun vs=>Le H0 H/\OwnR H Bd0 (vA vs) r0 L
def ownQ(P:Program)(rs:List ResultVar)(H0:AH)(Bd0:Nat)(r0:Value)(L:List (List Value)):yY
 | .normal=>OwnQ P rs H0 Bd0 r0 L
 | .ret=>OwnQ P rs H0 Bd0 r0 L
 |_=>fun _ _ _=>False
section
variable {P:Program} {s:List Value} {H:AH} {Bd:Nat}
@[go_sem ↓] theorem ownQ_ret (rs:List ResultVar) (H0:AH) (B0:Nat) (r0:Value) (L:List (List Value)):ownQ P rs H0 B0 r0 L .ret=OwnQ P rs H0 B0 r0 L:=(rfl)
@[go_sem ↓] theorem OwnQ_eq (rs:List ResultVar) (H0:AH) (B0:Nat) (r0:Value) (L:List (List Value)):OwnQ P rs H0 B0 r0 L s H Bd=Yld (yG P rs s H) fun vs=>Le H0 H/\OwnR H B0 (vA vs) r0 L:=(rfl)
@[go_sem] theorem OwnR_agg(B0:Nat)(a b:List Value)(L:List (List Value)):OwnR H B0 (.agg a.toArray) (.agg b.toArray) L=OwF H B0 0 L [] a b:=by simp[OwnR,shp,parts]
@[go_sem] theorem OwnR_slice(B0:Nat)(a b:Option Addr)(l l' c c':Nat)(L:List (List Value)):OwnR H B0 (.slice a l c) (.slice b l' c') L=OwF H B0 0 L [] [.slice a l c] [.slice b l' c']:=by simp[OwnR,shp,parts]
@[go_sem] theorem OwF_nil(B0 i:Nat)(L:List (List Value))(seen:List Nat):OwF H B0 i L seen [] []=(L=[]):=(rfl)
@[go_sem] theorem OwF_int(B0 i:Nat)(L:List (List Value))(seen:List Nat)(k:IntKind)(n:Int)(v:Value)(vs rs:List Value):OwF H B0 i L seen (v::vs) (.int k n::rs)=(v= .int k n/\OwF H B0 i L seen vs rs):=by
 show(((v= .int k n/\NB B0 (.int k n))/\_)=_);simp[show NB B0 (.int k n)from .int _ _]
@[go_sem] theorem OwF_sl(B0 i:Nat)(cells:List Value)(L:List (List Value))(seen:List Nat)(n k l c:Nat)(v:Value)(vs rs:List Value):OwF H B0 i (cells::L) seen (v::vs) (.slice (some ⟨n,0,some k⟩) l c::rs)=((n=B0+i/\c=l+1)/\slM H B0 seen cells k l v fun seen'=>OwF H B0 (i+1) L seen' vs rs):=(rfl)
@[go_sem] theorem slM_sl(B0:Nat)(seen:List Nat)(cells:List Value)(k l m k' l' c:Nat)(go:List Nat->Prop):slM H B0 seen cells k l (.slice (some ⟨m,0,some k'⟩) l' c) go=((k'=k/\l'=l/\B0<=m/\m∉seen/\H m=some ⟨cells,true⟩)/\go (m::seen)):=(rfl)
end
theorem flat_nb{α:Type}[Enc α](Bd:Nat):∀(xs:List α),∀v∈qO xs,NB Bd v:=fun xs v h=>by
 unfold qO at h
 obtain⟨x,_,hx⟩:=List.mem_flatMap.1 h
 exact enc_nb x Bd v hx
theorem fn_own{P:Program}(hP:POk P)(E:Env P)(PL:List (Nat×List Nat×List Stp×JT)){f:FuncId}{fn:Func}{c:Code}{args:List Value}{H:AH}{Bd:Nat}{K:Value->AH->Nat->Prop}(r0:Value)(L:List (List Value))(hK:K r0 (putU H Bd L) (Bd+L.length))
  (hf:P.funcs[f]? =some fn) (hb:fn.body=some c) {rs:List ResultVar} (hrs:fn.results.toList=rs) {m:Nat} (hm:fn.ntmps=m) (hm2:args.length<=m) (hent:Enters P f) (hp:kR PL c=true) (hnb:∀cells∈L,∀v∈cells,NB Bd v)
  (h:HB H Bd->(∀v∈args,NB Bd v)->vq E PL Bd c (ownQ P rs H Bd r0 L) (aS m undef (idx 0 args)) H Bd):SCalls P f args H Bd K:=by
 refine SCalls.of_hb hent fun hH=>anew ?_
 rw[putU_eq hH]at hK
 subst hm
 rw[<-start_aS args _ hm2]at h
 refine scalls_of_tr hf hb hrs hent fun hh ha=>(zJ hP PL c _ _ H Bd hp (h hh ha)).conv fun e s' H' Bd' hle hq=> ?_
 have key:OwnQ P rs H Bd r0 L s' H' Bd'->RetQ P rs H Bd (fun r H' _=>∃σ L r0,Anew H Bd r H' σ L r0/\K r0 (putN H Bd L) (Bd+L.length)) s' H' Bd':=fun⟨vs,h1,h2,h3,h4⟩=>by
  obtain⟨σ,g1,g2,g3,g4,g5,g6⟩:=OwF.out _ _ _ _ _ h4
  have hrn:RN σ Bd r0 (vA vs):=by
   revert h3 g2 g3
   generalize vA vs=v
   intro h3 g2 g3
   unfold shp at h3
   split at h3
   ·rename_i a b
    refine .agg (by simpa[parts]using g2) fun j r v e1 e2=> ?_
    exact g3 [] rfl j r v (by simpa[parts]using e1) (by simpa[parts]using e2)
   ·exact g3 [] rfl 0 _ _ rfl rfl
   ·exact h3.elim
  refine⟨vs,h1,vA vs,fun _=>False,H',Bd', .same _,fun _ _ _ h=>h,Le.refl _,hle, .inl ⟨xC _,fun hb2 _=>⟨σ,L,r0,⟨g1,h2,hrn,g4,fun i m hm=> ?_,g6⟩,hK⟩⟩⟩
  obtain⟨k1,_,cells,k2,k3⟩:=g5 i m hm
  refine⟨k1,_,cells,k2,rfl,k3,rfl,fun j v u e1 e2=> ?_⟩
  rw[e1]at e2;cases e2
  exact .same (hnb cells (wC k3) v (wC e1))
 cases e with
 |normal=>exact key hq
 |ret=>exact key hq
 |_=>exact hq.elim
def PureO(W:qH):Prop:=∀args H Bd K,W args H Bd K->∃r L,VC r/\(∀cells∈L,∀v∈cells,VC v)/\K r (putU H Bd L) (Bd+L.length)/\∀(H':AH) (K':Value->AH->Nat->Prop),Sees H H'->K' r (putU H' Bd L) (Bd+L.length)->W args H' Bd K'
end Go.SC
namespace Go.SC
open Go
theorem fn_set{P:Program}(hP:POk P)(E:Env P)(PL:List (Nat×List Nat×List Stp×JT)){f:FuncId}{fn:Func}{c:Code}{args:List Value}{H H2:AH}{Bd:Nat}{K:Value->AH->Nat->Prop}(r0:Value)(hK:K r0 H2 Bd)(hH2:HB H Bd->HB H2 Bd)
  (hf:P.funcs[f]? =some fn) (hb:fn.body=some c) {rs:List ResultVar} (hrs:fn.results.toList=rs) {m:Nat} (hm:fn.ntmps=m) (hm2:args.length<=m) (hent:Enters P f) (hp:kR PL c=true) (hnb:(∀v∈args,NB Bd v)->HB H Bd->NB Bd r0)
  (h:HB H Bd->(∀v∈args,NB Bd v)->vq E PL Bd c (pureQ P rs H2 r0) (aS m undef (idx 0 args)) H Bd):SCalls P f args H Bd K:=by
 subst hm
 rw[<-start_aS args _ hm2]at h
 refine scalls_of_tr hf hb hrs hent fun hh ha=>(zJ hP PL c _ _ H Bd hp (h hh ha)).conv fun e s' H' Bd' hle hq=> ?_
 have key:PureQ P rs H2 r0 s' H' Bd'->RetQ P rs H Bd K s' H' Bd':=fun⟨vs,h1,h2,h3⟩=>
  ⟨vs,h1,r0,_,H2,Bd,h3,fun n b hn (hx:H2 n=none)=>(by rw[hx]at hn;cases hn),h2,xC _, .inr ⟨hnb ha hh,hH2 hh,hK⟩⟩
 cases e with
 |normal=>exact key hq
 |ret=>exact key hq
 |_=>exact hq.elim
class Mk (α:Type) (w:outParam Nat) where
 at_:Int->α
instance :Mk UInt8 1:=⟨fun q=>UInt8.ofNat (q%256).toNat⟩
section
variable {α:Type} {w:Nat} [Mk α w]
def mkL(α:Type){w:Nat}[Mk α w](q:Int)(n:Nat):List α:=(List.range n).map fun i=>Mk.at_ (q+(i*w:Nat))
theorem mkL_zero(q:Int):mkL α q 0=[]:=rfl
theorem mkL_succ(q:Int)(n:Nat):mkL α q (n+1)=mkL α q n++[Mk.at_ (q+(n*w:Nat))]:=by simp[mkL,List.range_succ]
@[go_sem] theorem mkL_len(q:Int)(n:Nat):(mkL α q n).length=n:=by simp[mkL]
theorem mkL_get(q:Int){n i:Nat}(h:i<n):(mkL α q n)[i]? =some (Mk.at_ (q+(i*w:Nat))):=by
 simp[mkL,h]
variable [Enc α]
def mkC(α:Type)[Enc α]{w:Nat}[Mk α w](q:Int)(i:Nat)(cells:List Value):List Value:=qO (mkL α q i)++cells.drop (i*Enc.k α)
theorem mkC_zero(q:Int)(cells:List Value):mkC α q 0 cells=cells:=by simp[mkC,mkL_zero,qO]
@[go_sem] theorem mkC_len(q:Int)(i:Nat)(cells:List Value)(h:i*Enc.k α<=cells.length):(mkC α q i cells).length=cells.length:=by
 simp only[mkC,xD,jJ,mkL_len,xI];omega
theorem mkC_end{n:Nat}(q:Int)(cells:List Value)(h:cells.length=n*Enc.k α):mkC α q n cells=qO (mkL α q n):=by
 simp[mkC,h]
theorem mkC_lset{n i:Nat}(q:Int)(cells:List Value)(h:cells.length=n*Enc.k α)(hi:i<n):lset (mkC α q i cells) (i*Enc.k α) (enc (Mk.at_ (q+(i*w:Nat)):α))=mkC α q (i+1) cells:=by
 have h1:i*Enc.k α+Enc.k α<=n*Enc.k α:=by rw[<-Nat.succ_mul];exact Nat.mul_le_mul_right _ hi
 have h0:(mkC α q i cells).length=cells.length:=mkC_len q i cells (by omega)
 refine List.ext_getElem? fun j=> ?_
 rw[lset_get _ _ _ _ (by rw[h0,jN];omega),jN]
 have hf:(qO (mkL α q i)).length=i*Enc.k α:=by rw[jJ,mkL_len]
 have hf2:qO (mkL α q (i+1))=qO (mkL α q i)++enc (Mk.at_ (q+(i*w:Nat)):α):=by rw[mkL_succ,qK,qT]
 unfold mkC
 rw[hf2]
 split
 ·rw[wF (by omega),xL,wF (by omega)]
 ·split
  ·rw[xL,wB (by omega),hf,wF (by rw[jN];omega)]
  ·rw[wB (by omega),hf,wB (by rw[xD,hf,jN];omega),xD,hf,jN,wP,wP]
   congr 1
   rw[Nat.succ_mul];omega
end
theorem mkC_set1{α:Type}[Enc α]{w:Nat}[Mk α w][hk:EncK α 1]{n i:Nat}{v:Value}(q:Int)(cells:List Value)(h:cells.length=n*1)(hi:i<n)(he:enc (Mk.at_ (q+(i*w:Nat)):α)=[v]):(mkC α q i cells).set i v=mkC α q (i+1) cells:=by
 have:=mkC_lset (α:=α) (n:=n) (i:=i) q cells (by rw[hk.h];exact h) hi
 rw[hk.h,Nat.mul_one,he]at this
 exact this
theorem hb_setF{H:AH}{Bd n:Nat}{b:Blk}{α:Type}[Enc α](hh:HB H Bd)(hb:H n=some b)(xs:List α):HB (upd H n (some ⟨qO xs,true⟩)) Bd:=by
 have hn:n<Bd:=by
  rcases xM n Bd with h|h
  ·exact h
  ·rw[hh.fresh n h]at hb;cases hb
 refine⟨fun m hm=> ?_,fun m c hm v hv=> ?_⟩
 ·rw[qD _ _ (by omega)];exact hh.fresh m hm
 ·by_cases e:m=n
  ·subst e;rw[qJ]at hm;cases hm;exact flat_nb Bd xs v hv
  ·rw[qD _ _ e]at hm;exact hh.nb m c hm v hv
theorem le_own{H:AH}{n:Nat}{cells:List Value}(hb:H n=some ⟨cells,true⟩):Le (upd H n (some ⟨cells,true⟩)) H:=fun m b hm=>by
 by_cases e:m=n
 ·subst e;rw[qJ]at hm;rw[hb];exact hm
 ·rw[qD _ _ e]at hm;exact hm
theorem zI{H:AH}{n B:Nat}{b:Blk}(h:HB H B)(hb:H n=some b):n<B:=by
 rcases xM n B with h1|h1
 ·exact h1
 ·rw[h.fresh n h1]at hb;cases hb
theorem Le_mark{H H':AH}{n:Nat}{b:Option Blk}(h:Le H H'):Le (upd H n b) (upd H' n b):=fun m c hm=>by
 by_cases e:m=n
 ·subst e;rw[qJ]at hm ⊢;exact hm
 ·rw[qD _ _ e]at hm ⊢;exact h m c hm
class EncVC (α:Type) [Enc α]:Prop where
 h:∀(x:α) v,v∈enc x->VC v
theorem vc_agg{l:List Value}(h:∀v∈l,VC v):VC (.agg l.toArray):= .agg fun i v hi=>h v (wC (by simpa using hi))
@[go_sem] theorem nm_nil(n:Nat):(¬n∈([]:List Nat))=True:=by simp
@[go_sem] theorem blk_eq(a b:List Value):((⟨a,true⟩:Blk)=⟨b,true⟩)=(a=b):=by simp
theorem u8_inj(a b:UInt8):((a.toNat:Int)=(b.toNat:Int))=(a=b):=propext ⟨fun h=>UInt8.toNat_inj.1 (by omega),fun h=>by rw[h]⟩
class MkSm (α:Type) {w:Nat} [Mk α w] [Sz α]:Prop where
 h:∀q:Int,sm (Mk.at_ q:α)
instance :MkSm UInt8:=⟨fun _=>trivial⟩
theorem mkL_sm{α:Type}{w:Nat}[Mk α w][Sz α][h:MkSm α](q:Int){n:Nat}(hn:n<=281474976710656):sm (mkL α q n):=⟨by rw[mkL_len];exact hn,fun x hx=>by
 obtain⟨i,_,rfl⟩:=List.mem_map.1 hx
 exact h.h _⟩
end Go.SC
namespace Go.SC
open Go
theorem fidx_bd{α:Type}(p:α->Bool)(l:List α): -1<=fidx p l/\fidx p l<=l.length:=by
 by_cases h:∃j,∃hj:j<l.length,p l[j]=true/\∀k (hk:k<j),p (l[k]'(by omega))=false
 ·obtain⟨j,hj,h1,h2⟩:=h
  have:=zC (p:=p) hj (fun k hk x hx=>by
   have hk2:k<l.length:=by omega
   rw[xA hk2]at hx;cases hx;exact h2 k hk) h1
  omega
 ·have hn:∀j (hj:j<l.length),p l[j]=false:=fun j=>by
   induction j using Nat.strongRecOn with
   |ind j ih=>
    intro hj
    cases hp:p l[j]with
    |false=>rfl
    |true=>exact absurd ⟨j,hj,hp,fun k hk=>ih k hk (by omega)⟩ h
  have:=vY (p:=p) (xs:=l) fun j hj x hx=>by rw[xA hj]at hx;cases hx;exact hn j hj
  omega
end Go.SC
namespace Go.SC
open Go Go.RowKit
theorem Rel.adopt{A:Nat->Prop}{ι:Ren}{H:AH}{Bd:Nat}{w w':World}(hr0:Rel A ι H Bd w)(hbl:Below w.heap.size w w'){m:Nat}(hm:ι m=none)(hb:m<Bd){L:List Value}{cs:Array Value}{e:TypeId}{fr:Nat×Nat}{g:Nat}(hge:w.heap.size<=g)(hg:w'.heap[g]? =some (.cells cs e fr))
  (hL:∀(i:Nat) v,L[i]? =some v->∃v',cs[i]? =some v'/\VR ι w' v v') (hu:Unfr fr cs.size):
  Rel A (ren ι m (.at g 0)) (upd H m (some ⟨L,true⟩)) Bd w':=by
 have hr:=hr0.below hbl
 have hx:=ext_ren (.at g 0) hm
 have hw:=Fro.refl ι w'
 refine⟨fun n hn=> ?_,fun n b hn=> ?_,fun n k b b' B base B' base' hne h1 h2 ho i1 i2=> ?_,hr.newA,fun n b B base h1 ho i1 hz=> ?_,hr.fzlt,fun n b hn hq=> ?_,hr.mp⟩
 ·rw[qX _ _ (by omega)];exact hr.bound n hn
 ·by_cases e1:n=m
  ·subst e1
   rw[qJ]at hn
   cases hn
   refine .inr ⟨g,0,cs,e,fr,jG _ _ _,hg,fun _=>⟨hr0.newA _ hge,hu⟩,fun h=>by(cases h),fun i v hv=> ?_⟩
   obtain⟨v',h3,h4⟩:=hL i v hv
   exact⟨v',by simpa using h3,h4.mono hx hw⟩
  ·rw[qD H _ e1]at hn
   exact(hr.blk n b hn).mono hx hw fun B base hB=>rfl
 ·by_cases e1:n=m
  ·subst e1
   rw[jG]at i1
   cases i1
   have hk:k≠n:=fun h=>hne h.symm
   rw[qX _ _ hk]at i2
   rw[qD H _ hk]at h2
   have:=hr0.lt h2 i2
   omega
  ·rw[qD H _ e1]at h1
   rw[qX _ _ e1]at i1
   by_cases e2:k=m
   ·subst e2
    rw[jG]at i2
    cases i2
    have:=hr0.lt h1 i1
    omega
   ·rw[qD H _ e2]at h2
    rw[qX _ _ e2]at i2
    exact hr.apart n k b b' B base B' base' hne h1 h2 ho i1 i2
 ·by_cases e1:n=m
  ·subst e1
   rw[jG]at i1
   cases i1
   have:=hr0.fzlt _ hz
   omega
  ·rw[qD H _ e1]at h1
   rw[qX _ _ e1]at i1
   exact hr.froz n b B base h1 ho i1 hz
 ·by_cases e1:n=m
  ·subst e1;rw[qJ]at hn;cases hn;cases hq
  ·rw[qD H _ e1]at hn;exact⟨(qX _ _ e1).trans (hr.glob n b hn hq).1,(hr.glob n b hn hq).2⟩
theorem Below.fro{ι:Ren}{w w':World}(h:Below w.heap.size w w'):Fro ι w w':=
 ⟨fun B cs e fr hB=>⟨cs,fr,(h.block B (xS.1 hB).1).trans hB,rfl⟩,fun B cs e fr _ hx=>(h.block B (xS.1 hx).1).trans hx⟩
end Go.SC
namespace Go.Proofs
open Go.Shelf Go.RowKit Go.Lib
variable {P:Program} {ρ:Go.Shelf.Ren}
set_option maxHeartbeats 2000000 in
set_option maxRecDepth 100000 in
theorem clone_zero(L:SlLaysE0.n41 P ρ)(i0:TypeInfo)(z:Value)(size bytes:Nat)(hi:P.info? (ρ.t 23)=some i0)(hz0:i0.zero=some z)(hz1:i0.size=size)(hz2:i0.bytes=bytes)(hzs:z.cells.size=size)(hsz:0<size)
  (z23:∀w,(Go.sizeOf (ρ.t 23)).run P w= .ok size w) (a:Addr) (c:Nat) (w:World):
  Calls P (ρ.f 41) #[.slice (some a) 0 c] w fun e w'=>∃v',e= .returned v'/\w'.ownsRow w.heap.size (ρ.t 23) size v' 0 []/\v'≠ .slice none 0 0/\Below w.heap.size w w':=by
 have mixed:=L.mixed;have t4:=L.t4;have a4:=L.a4;have z4:=L.z4;have v4:=L.v4;have t22:=L.t22;have a22:=L.a22;have z22:=L.z22;have v22:=L.v22
 have q22:∀(w:World) (a:Option Addr) (n c n' c':Nat),(binOp .eql (ρ.t 22) (.slice a n c) (.slice none n' c')).run P w= .ok (.bool a.isNone) w:=fun w a n c n' c'=>Lib.run_eql_slice_nil w _ _ a n c n' c' L.t22
 have u22:∀w,Sem.run P (underlying (ρ.t 22)) w= .ok (TypeDesc.slice (ρ.t 23)) w:=run_underlying t22
 obtain⟨_,_,FG⟩:=L.f41
 go_enter FG,SlBodyN.n41_ntmps ρ
 go_wp2_with (at_builtin;refine wpList_append_own _ rfl _ _ (ρ.t 22) rfl w.heap.size (ρ.t 23) i0 z size bytes t22 hi hz0 hz1 hz2 hzs hsz _ _ _ rfl (World.ownsRow_made w #[] 0 (Nat.le_refl _) (Nat.zero_le _) (by simp)) a 0 c [] rfl (by simp) (by intro j u hj;simp at hj) (by intro u hu;cases hu) (by unfold maxLen;omega) (by omega) (by simp) ?_)
 intro v' w1 hown hgrow hnil
 go_wp2
 go_ret
 refine⟨v',rfl,by simpa using hown,?_,?_⟩
 ·first|exact hnil|(intro e;exact absurd (hnil.1 e).1 (by simp))
 ·exact((Below.refl _ w).alloc (Nat.le_refl _) _).grown hgrow (by simp) (by intro k hk;simp[Value.ownBlock]at hk;omega)
end Go.Proofs
namespace Go.SC
open Go Go.RowKit
def CloneT(α:Type)[Enc α](k bound:Nat):qH:=fun args H Bd K=>∃xs:List α,args=[lst xs]/\(xs.length<=bound/\K (.slice (some ⟨Bd,0,some k⟩) xs.length (xs.length+1)) (upd H Bd (some ⟨qO xs,true⟩)) (Bd+1))
theorem clone_end{A:Nat->Prop}{ι:Ren}{H:AH}{Bd:Nat}{w w':World}{K:Value->AH->Nat->Prop}{k n:Nat}{e:TypeId}{v':Value}{news L:List Value}(hr:Rel A ι H Bd w)(hbl:Below w.heap.size w w')(hk:0<k)
  (hown:w'.ownsRow w.heap.size e k v' n news) (hLl:L.length=n*k) (hL:∀(i:Nat) v,L[i]? =some v->∃u,news[i]? =some u/\VR ι w v u) (hK:K (.slice (some ⟨Bd,0,some k⟩) n (n+1)) (upd H Bd (some ⟨L,true⟩)) (Bd+1)):
  ∃r ι' H' Bd',K r H' Bd'/\Bd<=Bd'/\Rel A ι' H' Bd' w'/\VR ι' w' r v'/\Keep A ι w ι' w'/\Agr Bd ι ι'/\NI H H':=by
 have hm:ι Bd=none:=hr.bound Bd (xC _)
 obtain⟨hn,ho⟩:=hown
 have kb:Keep A ι w ι w':=Keep.below hbl
 rcases ho with⟨rfl,rfl⟩|⟨g,cap,cur,rfl,hge,hg,h1,h2,h3,h4⟩
 ·have hL0:L=[]:=List.eq_nil_of_length_eq_zero (by rw[hLl];simp)
  subst hL0
  have r:=((hr.below hbl).raise (Nat.le_succ Bd)).void hm (Nat.lt_succ_self _)
  exact⟨_,_,_,Bd+1,hK,Nat.le_succ _,r, .sl ⟨_,jG _ _ _⟩ (xC _) (by simp) (by simp) (.inl rfl),⟨kb.os,kb.tape,kb.output,kb.size,kb.block,kb.rows,kb.fz,kb.fzA⟩,fun m hm=>qX _ _ (by omega),(NI.refl _).upd _ _⟩
 ·have r:=(hr.raise (Nat.le_succ Bd)).adopt hbl hm (Nat.lt_succ_self _) (L:=L) hge hg (fun i v hi=>by
   obtain⟨u,hu,hv⟩:=hL i v hi
   refine⟨u,?_,hv.mono (Ext.refl ι) (Below.fro hbl)⟩
   have hi2:i<n*k:=by have:=(xR.1 hu).1;omega
   rw[<-h4,List.getElem?_take,if_pos hi2,Array.getElem?_toList]at hu
   exact hu) (fun i _ h=>by simp at h)
  exact⟨_,_,_,Bd+1,hK,Nat.le_succ _,r, .sl ⟨_,jG _ _ _⟩ h1 (by omega) (by omega) (.inr ⟨g,0,cur.size,jG _ _ _,rfl,⟨cur,e,(0,0),hg,rfl⟩,by rw[h3];omega⟩),⟨kb.os,kb.tape,kb.output,kb.size,kb.block,kb.rows,kb.fz,kb.fzA⟩,fun m hm=>qX _ _ (by omega),(NI.refl _).upd _ _⟩
end Go.SC
namespace Go.SC
open Go Go.RowKit
theorem vr_any{α:Type}[Enc α]{ι:Ren}{w:World}{xs:List α}{v:Value}(h:VR ι w (lst xs) v):(xs=[]/\∃A c,v= .slice A 0 c)\/
  ∃(B base c:Nat) (news:List Value),v= .slice (some ⟨B,base,none⟩) xs.length c/\xs.length<=c/\news.length=xs.length*Enc.k α/\(∀(j:Nat) u,news[j]? =some u->w.cell? ⟨B,base+j,none⟩=some u)/\
   ∀(i:Nat) x,(qO xs)[i]? =some x->∃u,news[i]? =some u/\VR ι w x u:=by
 generalize hy:lst xs=y at h
 unfold lst LST at hy
 cases h with
 |lst0=>
  simp only[Value.func.injEq,true_and]at hy
  have:=congrArg Array.size hy.2
  simp at this
  exact .inl ⟨this,_,_,rfl⟩
 |lst hfz hB hl hsz hr hc=>
  rename_i k rows B base c' cs e fr
  simp only[Value.func.injEq,true_and]at hy
  obtain⟨hk,rfl⟩:=hy
  have hk:Enc.k α=k:=by injection hk
  subst hk
  simp only[List.size_toArray,List.length_map]at hl
  have hle:base+xs.length*Enc.k α<=cs.size:=wE (Nat.add_le_add_left (Nat.mul_le_mul_right _ hl) _) hsz
  have hnl:((cs.toList.drop base).take (xs.length*Enc.k α)).length=xs.length*Enc.k α:=by
   rw[xQ,xI,show cs.toList.length=cs.size from rfl];omega
  have hng:∀j,j<xs.length*Enc.k α->((cs.toList.drop base).take (xs.length*Enc.k α))[j]? =cs[base+j]? :=fun j hj=>by
   rw[List.getElem?_take,if_pos hj,wP,Array.getElem?_toList]
  refine .inr ⟨B,base,c',(cs.toList.drop base).take (xs.length*Enc.k α),by simp,hl,hnl,fun j u hj=> ?_,fun i x hi=> ?_⟩
  ·have hlt:j<xs.length*Enc.k α:=by rw[<-hnl];exact(xR.1 hj).1
   rw[hng j hlt]at hj
   rw[cell_of hB];exact hj
  ·have hlt:i<xs.length*Enc.k α:=by rw[<-jJ];exact(xR.1 hi).1
   have hpos:0<Enc.k α:=Enc.pos
   have hq:i/Enc.k α<xs.length:=Nat.div_lt_of_lt_mul (by rw[Nat.mul_comm];exact hlt)
   have hrr:i%Enc.k α<Enc.k α:=Nat.mod_lt _ hpos
   have hi2:i/Enc.k α*Enc.k α+i%Enc.k α=i:=Nat.div_add_mod' i _
   have hfe:(qO xs)[i]? =(enc xs[i/Enc.k α])[i%Enc.k α]? :=by
    have h1:=flat_get xs _ _ (xA hq)
    rw[<-h1,List.getElem?_take,if_pos hrr,wP,hi2]
   have h1:((xs.map enc).map fun r=>Value.agg r.toArray).toArray[i/Enc.k α]? =some (.agg (enc xs[i/Enc.k α]).toArray):=by simp[hq]
   have hb:base+i<cs.size:=by omega
   refine⟨cs[base+i],by rw[hng i hlt];simp[hb],?_⟩
   exact hc (i/Enc.k α) (i%Enc.k α) _ x _ h1 (by rw[wJ,<-hfe];exact hi) (by rw[Nat.add_assoc,hi2];simp[hb])
 |_=>cases hy
theorem clone_ok{P:Program}{f:FuncId}{α:Type}[Enc α]{k:Nat}[hk:EncK α k](hent:Enters P f){e:TypeId}{bound:Nat}
  (h1:∀(b off n c:Nat) (news:List Value) (w:World),news.length=n*k->n<=bound->(∀j u,news[j]? =some u->w.cell? ⟨b,off+j,none⟩=some u)->(∀u∈news,u.oneCell'=true)->
   Calls P f #[.slice (some ⟨b,off,none⟩) n c] w fun e' w'=>∃v',e'= .returned v'/\w'.ownsRow w.heap.size e k v' n news/\v'≠ .slice none 0 0/\Below w.heap.size w w')
  (h2:∀(n c:Nat) (w:World),Calls P f #[.slice none n c] w fun e' w'=>e'= .returned (.slice none 0 0)/\w'=w)
  (h3:∀(a:Addr) (c:Nat) (w:World),Calls P f #[.slice (some a) 0 c] w fun e' w'=>∃v',e'= .returned v'/\w'.ownsRow w.heap.size e k v' 0 []/\v'≠ .slice none 0 0/\Below w.heap.size w w'):
  ∀args H Bd K,CloneT α k bound args H Bd K->SCalls P f args H Bd K:=by
 have hk':=hk.h
 subst hk'
 rintro args H Bd K ⟨xs,rfl,hb,hK⟩
 refine⟨hent,fun A ι vs w hr hs=> ?_⟩
 obtain⟨v,rfl,hv⟩:=hs.one
 rcases vr_any hv with⟨rfl,A',c,rfl⟩|⟨B,base,c,news,rfl,hc,hn,hcell,hrel⟩
 ·cases A' with
  |none=>
   refine(h2 0 c w).mono fun e' w' ⟨he,hw⟩=> ?_
   subst hw
   obtain⟨r,ι',H',Bd',q⟩:=clone_end (e:=e) (v':= .slice none 0 0) (news:=[]) (L:=qO ([]:List α)) hr (Below.refl _ _) Enc.pos ⟨by simp, .inl ⟨rfl,rfl⟩⟩ (by simp[qO]) (fun i v h=>by simp[qO]at h) hK
   exact⟨_,r,ι',H',Bd',he,q⟩
  |some a=>
   refine(h3 a c w).mono fun e' w' ⟨v',he,ho,_,hbl⟩=> ?_
   obtain⟨r,ι',H',Bd',q⟩:=clone_end (L:=qO ([]:List α)) hr hbl Enc.pos ho (by simp[qO]) (fun i v h=>by simp[qO]at h) hK
   exact⟨_,r,ι',H',Bd',he,q⟩
 ·refine(h1 B base xs.length c news w hn hb hcell (fun u hu=> ?_)).mono fun e' w' ⟨v',he,ho,_,hbl⟩=> ?_
  ·obtain⟨i,hi⟩:=List.getElem?_of_mem hu
   have hi2:i<(qO xs).length:=by rw[jJ,<-hn];exact(xR.1 hi).1
   obtain⟨u',h4,h5⟩:=hrel i _ (xA hi2)
   rw[hi]at h4;cases h4
   have hm:(qO xs)[i]∈qO xs:=xH hi2
   unfold qO at hm
   obtain⟨x,_,hx⟩:=List.mem_flatMap.1 hm
   exact cellOK_one h5 (List.all_eq_true.1 (Enc.ok x) _ hx)
  ·obtain⟨r,ι',H',Bd',q⟩:=clone_end (L:=qO xs) hr hbl Enc.pos ho (jJ xs) hrel hK
   exact⟨_,r,ι',H',Bd',he,q⟩
end Go.SC
namespace Go.SC
open Go Go.RowKit Go.Proofs
theorem clone_lay{P:Program}{ρ:Go.Shelf.Ren}{α:Type}[Enc α]{k:Nat}[hk:EncK α k](L:SlLaysE0.n41 P ρ)(hent:Enters P (ρ.f 41))(i0:TypeInfo)(hi:P.info? (ρ.t 23)=some i0)(z:Value)(hz0:i0.zero=some z)(hz1:i0.size=k)(hby:i0.bytes<=10000)(hzs:z.cells.size=k)
  (z23:∀w,(Go.sizeOf (ρ.t 23)).run P w= .ok k w):∀args H Bd K,CloneT α k 1000000 args H Bd K->SCalls P (ρ.f 41) args H Bd K:=
 clone_ok hent (fun b off n c news w h1 h2 h3 h4=>AnyE.slices_Clone L i0 z k i0.bytes hi hz0 hz1 rfl hzs (by rw[<-hk.h];exact Enc.pos) z23 b off n c news w h1 (by unfold maxLen;omega) (wE (Nat.mul_le_mul h2 hby) (by decide)) h3 h4)
  (fun n c w=>AnyE.slices_Clone_nil L n c w) (fun a c w=>clone_zero L i0 z k i0.bytes hi hz0 hz1 rfl hzs (by rw[<-hk.h];exact Enc.pos) z23 a c w)
end Go.SC
namespace Go.SC
open Go Go.RowKit
theorem SCalls.pubR{P:Program}{f:FuncId}{args:List Value}{H:AH}{Bd:Nat}{K:Value->AH->Nat->Prop}{α:Type}[Enc α]{k c:Nat}[hk:EncK α k](xs:List α)
  (h:SCalls P f args H Bd fun r H' _=>r= .slice (some ⟨Bd,0,some k⟩) xs.length c/\H'=upd H Bd (some ⟨qO xs,true⟩)) (hK:K (lst xs) H Bd):SCalls P f args H Bd K:=by
 refine⟨h.1,fun A ι vs w hr hs=>(h.2 A ι vs w hr hs).mono fun e w' ⟨v,r,ι',H',Bd',he,⟨h1,h2⟩,hB,hrel,hvr,hkp,hag,hni⟩=> ?_⟩
 subst h1;subst h2
 have hb:=hr.hb
 have hle:Le H (upd H Bd (some ⟨qO xs,true⟩)):=fun n b hn=>by
  rw[qD _ _ (fun e=>by subst e;rw[hb.fresh _ (xC _)]at hn;cases hn)];exact hn
 have hS:∀n b,H n=some b->¬(fun n=>n=Bd) n:=fun n b hn e=>by
  have e:n=Bd:=e
  subst e;rw[hb.fresh _ (xC _)]at hn;cases hn
 have hp:=hrel.pub (H':=H) (S:=fun n=>n=Bd) hle hS
 have hv2:VR (frz ι' (upd H Bd (some ⟨qO xs,true⟩)) fun n=>n=Bd) w' (lst xs) v:=VR.pub hrel (qV (S:=fun n=>n=Bd) (qJ _ _ _) rfl hk.h rfl) hvr
 have hk2:=hkp.trans (Keep.refl A w' (zF ι' (upd H Bd (some ⟨qO xs,true⟩)) fun n=>n=Bd).fz (hrel.frzA _))
 refine⟨v,lst xs,_,H,Bd,he,hK,xC _,hp.cut (H':=H) (Bd':=Bd) (Le.refl H) hb,hv2.cut (lst_nb Bd xs),⟨hk2.os,hk2.tape,hk2.output,hk2.size,hk2.block,hk2.rows,hk2.fz,hk2.fzA⟩,fun n hn=> ?_,NI.refl H⟩
 show(if n<Bd then _ else _)=_
 rw[if_pos hn]
 exact hag n hn
def CloneP(α:Type)[Enc α](bound:Nat):qH:=fun args H Bd K=>∃xs:List α,args=[lst xs]/\(xs.length<=bound/\K (lst xs) H Bd)
theorem CloneP_eq(α:Type)[Enc α](bound:Nat)(xs:List α)(H:AH)(Bd:Nat)(K:Value->AH->Nat->Prop):CloneP α bound [lst xs] H Bd K=(xs.length<=bound/\K (lst xs) H Bd):=by
 refine propext ⟨fun h=> ?_,fun h=>⟨_,rfl,h⟩⟩
 obtain⟨xs',e,h⟩:=h
 simp only[xG,lst_inj,and_true]at e
 obtain rfl:=e
 exact h
theorem cloneP_ok{P:Program}{f:FuncId}{α:Type}[Enc α]{k bound:Nat}[EncK α k](h:∀args H Bd K,CloneT α k bound args H Bd K->SCalls P f args H Bd K):∀args H Bd K,CloneP α bound args H Bd K->SCalls P f args H Bd K:=by
 rintro args H Bd K ⟨xs,rfl,hb,hK⟩
 exact SCalls.pubR xs (h _ _ _ _ ⟨xs,rfl,hb,rfl,rfl⟩) hK
def sumB:Int->List UInt8->Int
 |n,[]=>n
 |n,b::l=>sumB ((n*227+(b.toNat:Int)+1)%65521) l
theorem sumB_append:∀(l r:List UInt8) (n:Int),sumB n (l++r)=sumB (sumB n l) r
 |[],r,n=>rfl
 |b::l,r,n=>sumB_append l r _
theorem sumB_take{xs:List UInt8}{i:Nat}(h:i<xs.length):sumB 29 (xs.take (i+1))=(sumB 29 (xs.take i)*227+(xs[i].toNat:Int)+1)%65521:=by
 rw[xP h,sumB_append];rfl
theorem sumB_rg:∀(l:List UInt8) (n:Int),0<=n->n<65521->0<=sumB n l/\sumB n l<65521
 |[],n,h1,h2=>⟨h1,h2⟩
 |b::l,n,h1,h2=>sumB_rg l _ (by omega) (by omega)
theorem sum_rg(l:List UInt8):0<=sumB 29 l/\sumB 29 l<65521:=sumB_rg l 29 (by decide) (by decide)
def jX(n:Int):List UInt8:=[UInt8.ofNat (n/256%256).toNat,UInt8.ofNat (n%256).toNat]
theorem jQ(n:Int):(jX n).length=2:=rfl
theorem u8_of{z:Int}(h1:0<=z)(h2:z<256):((UInt8.ofNat z.toNat).toNat:Int)=z:=by
 simp;omega
theorem pairB_flat(n:Int):qO (jX n)=[.int .u8 (n/256%256), .int .u8 (n%256)]:=by
 show [Value.int .u8 _,Value.int .u8 _]=_
 rw[u8_of (by omega) (by omega),u8_of (by omega) (by omega)]
def hasI(l:List Int)(n:Int):Bool:=l.any fun x=>decide (x=n)
def isPg(n:Int):Bool:=decide (2<=n/\n<=63)
def putF(k:Nat):List GPut->Int
 |[]=>0
 |p::r=>if ¬(0<=p.sector/\p.sector<=(k:Int)-1)then 3 else if p.bytes.length≠96 then 1 else putF k r
def diskG(d:GDisk):Int:=
 if d.sectors.any (fun b=>decide (b.length≠96))=true then 1
 else if d.pending.length>d.sectors.length then 2
 else if putF d.sectors.length d.pending≠0 then putF d.sectors.length d.pending
 else if(d.pending.map (·.sector)).Nodup then 0 else 6
def yR(d:GDisk):Int:=if ¬(8<=d.sectors.length/\d.sectors.length<=64)then 2 else diskG d
def waitD(d:GDisk)(n:Int):Int:=fidx (fun p=>decide (p.sector=n)) d.pending
def yH(d:GDisk)(n:Int):List UInt8:=if 0<=waitD d n then((d.pending[(waitD d n).toNat]?).map (·.bytes)).getD []else(d.sectors[n.toNat]?).getD []
theorem putF_all{k:Nat}:∀ {l:List GPut},putF k l=0->∀p∈l,(0<=p.sector/\p.sector<=(k:Int)-1)/\p.bytes.length=96
 |[],_,p,hp=>by simp at hp
 |q::r,h,p,hp=>by
  unfold putF at h
  split at h
  ·omega
  ·rename_i h1
   split at h
   ·omega
   ·rename_i h2
    rcases wG.1 hp with rfl|hp
    ·exact⟨Decidable.not_not.1 h1,Decidable.not_not.1 h2⟩
    ·exact putF_all h p hp
structure DiskOK (d:GDisk):Prop where
 len:8<=d.sectors.length/\d.sectors.length<=64
 sec:∀b∈d.sectors,b.length=96
 pl:d.pending.length<=d.sectors.length
 put:∀p∈d.pending,(0<=p.sector/\p.sector<=(d.sectors.length:Int)-1)/\p.bytes.length=96
theorem disk_ok{d:GDisk}(h:yR d=0):DiskOK d:=by
 unfold yR at h
 split at h
 ·omega
 ·rename_i h1
  unfold diskG at h
  split at h
  ·omega
  ·rename_i h2
   split at h
   ·omega
   ·rename_i h3
    split at h
    ·rename_i h4;exact absurd h h4
    ·rename_i h4
     refine⟨Decidable.not_not.1 h1,fun b hb=> ?_,by omega,putF_all (Decidable.not_not.1 h4)⟩
     by_cases hq:b.length=96
     ·exact hq
     ·exact absurd (List.any_eq_true.2 ⟨b,hb,decide_eq_true hq⟩) h2
theorem readD_len{d:GDisk}(h:DiskOK d){n:Int}(h1:0<=n)(h2:n<d.sectors.length):(yH d n).length=96:=by
 unfold yH
 split
 ·rename_i hw
  have hb:=fidx_bd (fun p:GPut=>decide (p.sector=n)) d.pending
  by_cases hlt:(waitD d n).toNat<d.pending.length
  ·rw[xA hlt]
   exact(h.put _ (xH hlt)).2
  ·exfalso
   have hne:d.pending.any (fun p=>decide (p.sector=n))=true:=by
    have:=fidx_ge (fun p:GPut=>decide (p.sector=n)) d.pending
    rw[<-this];exact decide_eq_true hw
   obtain⟨p,hp,hq⟩:=List.any_eq_true.1 hne
   obtain⟨j,hj,rfl⟩:=wO hp
   have:waitD d n<d.pending.length:=by
    unfold waitD fidx
    cases hf:d.pending.findIdx? (fun p=>decide (p.sector=n))with
    |none=>simp;omega
    |some i=>
     have:=(List.findIdx?_eq_some_iff_getElem.1 hf).1
     simp;omega
   omega
 ·have hlt:n.toNat<d.sectors.length:=by omega
  rw[xA hlt]
  exact h.sec _ (xH hlt)
def pageF(p:GPage):Int:=if(1<=p.kind/\p.kind<=3)/\isPg p.id=true then(if p.body.length>91 then 2 else 0)else 3
def yC(p:GPage):List UInt8:=[UInt8.ofNat (p.kind%256).toNat,UInt8.ofNat (p.id%256).toNat,UInt8.ofNat (p.body.length%256)]++p.body
def padP(l:List UInt8):List UInt8:=l++List.replicate (94-l.length) 0
def packP(p:GPage):List UInt8:=padP (yC p)++jX (sumB 29 (padP (yC p)))
theorem packP0_flat(p:GPage):qO (yC p)=[.int .u8 (p.kind%256), .int .u8 (p.id%256), .int .u8 ((p.body.length:Int)%256)]++qO p.body:=by
 unfold yC
 rw[qK]
 congr 1
 show [Value.int .u8 _,Value.int .u8 _,Value.int .u8 _]=_
 rw[u8_of (by omega) (by omega),u8_of (by omega) (by omega)]
 have:((UInt8.ofNat (p.body.length%256)).toNat:Int)=(p.body.length:Int)%256:=by simp
 rw[this]
theorem packP0_len(p:GPage):(yC p).length=p.body.length+3:=by simp[yC]
theorem padP_len{l:List UInt8}(h:l.length<=94):(padP l).length=94:=by simp[padP];omega
theorem packP_len{p:GPage}(h:p.body.length<=91):(packP p).length=96:=by
 unfold packP
 rw[xD,padP_len (by rw[packP0_len];omega),jQ]
theorem pageF_ok{p:GPage}(h:pageF p=0):(1<=p.kind/\p.kind<=3)/\(2<=p.id/\p.id<=63)/\p.body.length<=91:=by
 unfold pageF at h
 split at h
 ·rename_i h1
  split at h
  ·omega
  ·exact⟨h1.1,of_decide_eq_true h1.2,by omega⟩
 ·omega
theorem flat_zeros(n:Nat):qO (List.replicate n (0:UInt8))=List.replicate n (.int .u8 0):=by
 induction n with
 |zero=>rfl
 |succ n ih=>rw[List.replicate_succ,jO,ih];rfl
def noPg:GPage:=⟨0,0,[]⟩
def readG(data:List UInt8)(id:Int):GPage:=⟨((data.getD 0 0).toNat:Int),id,(data.drop 3).take (data.getD 2 0).toNat⟩
def qY(data:List UInt8)(id:Int):GPage×Int:=
 if jX (sumB 29 (data.take 94))≠data.drop 94 then(noPg,11)
 else if((data.getD 1 0).toNat:Int)≠id then(noPg,8)
 else if(data.getD 2 0).toNat>91 then(noPg,5)
 else if pageF (readG data id)≠0\/packP (readG data id)≠data then(noPg,5)else(readG data id,0)
def readPR(data:List UInt8)(id:Int):GPageResult:=if data.length≠96 then⟨1,noPg⟩else if isPg id=false then⟨3,noPg⟩else⟨(qY data id).2,(qY data id).1⟩
def pageD(d:GDisk)(id:Int):GPage×Int:=if ¬(2<=id/\id<=(d.sectors.length:Int)-1)then(noPg,3)else qY (yH d id) id
instance :EncVC GIntResult:=⟨fun x v h=>by
 have:v∈[Value.int .i64 x.code,Value.int .i64 x.value]:=h
 simp only[wG,List.not_mem_nil,or_false]at this
 rcases this with rfl|rfl <;>exact .int _ _⟩
theorem vc_enc{α:Type}[Enc α][h:EncVC α](x:α):VC (.agg (enc x).toArray):=vc_agg fun v hv=>h.h x v hv
theorem kG(a b:Nat):0<vC a b:=by unfold vC;split <;>omega
@[go_sem] theorem capUp_ne(a b:Nat):(vC a b=0)=False:=eq_false (by have:=kG a b;omega)
theorem wait_lt{d:GDisk}{n:Int}(hw:0<=waitD d n):(waitD d n).toNat<d.pending.length:=by
 have hne:d.pending.any (fun p=>decide (p.sector=n))=true:=by
  have:=fidx_ge (fun p:GPut=>decide (p.sector=n)) d.pending
  rw[<-this];exact decide_eq_true hw
 obtain⟨p,hp,hq⟩:=List.any_eq_true.1 hne
 unfold waitD fidx at hw ⊢
 cases hf:d.pending.findIdx? (fun p=>decide (p.sector=n))with
 |none=>rw[hf]at hw;simp at hw
 |some i=>exact(List.findIdx?_eq_some_iff_getElem.1 hf).1
theorem waitD_self{d:GDisk}{i:Nat}(hi:i<d.pending.length):waitD d d.pending[i].sector=i↔∀j (hj:j<i),(d.pending[j]'(by omega)).sector≠d.pending[i].sector:=by
 constructor
 ·intro h j hj e
  have h2:=fidx_bd (fun p:GPut=>decide (p.sector=d.pending[i].sector)) d.pending
  unfold waitD fidx at h
  cases hf:d.pending.findIdx? (fun p=>decide (p.sector=d.pending[i].sector))with
  |none=>rw[hf]at h;simp only at h;omega
  |some k=>
   rw[hf]at h
   simp only at h
   have hk:k=i:=by omega
   have:=(List.findIdx?_eq_some_iff_getElem.1 hf).2.2 j (by omega)
   simp[e]at this
 ·intro h
  unfold waitD
  refine zC hi (fun j hj x hx=> ?_) (by simp)
  have hj2:j<d.pending.length:=by omega
  rw[xA hj2]at hx;cases hx
  simpa using h j hj
def keyBad(k:List UInt8):Bool:=decide (k.length<1\/16<k.length)
def riseK:List (List UInt8)->Bool
 |x::y::l=>decide (Lib.compareBytes x y<0)&&riseK (y::l)
 |_=>true
theorem riseK_no:∀ {l:List (List UInt8)} {k:Nat} {x y:List UInt8},l[k]? =some x->l[k+1]? =some y->¬Lib.compareBytes x y<0->riseK l=false
 |[],_,_,_,h,_,_=>by simp at h
 |[_],k,_,_,_,h,_=>by simp at h
 |a::b::l,0,x,y,h1,h2,h3=>by
  simp only[wD,wM,xE]at h1 h2
  subst h1;subst h2
  unfold riseK
  rw[decide_eq_false h3];rfl
 |a::b::l,k+1,x,y,h1,h2,h3=>by
  unfold riseK
  rw[riseK_no (l:=b::l) (k:=k) (by simpa using h1) (by simpa using h2) h3]
  exact Bool.and_false _
theorem riseK_yes:∀ {l:List (List UInt8)},(∀(k:Nat) x y,l[k]? =some x->l[k+1]? =some y->Lib.compareBytes x y<0)->riseK l=true
 |[],_=>rfl
 |[_],_=>rfl
 |a::b::l,h=>by
  unfold riseK
  rw[decide_eq_true (h 0 a b rfl rfl),riseK_yes fun k x y h1 h2=>h (k+1) x y (by simpa using h1) (by simpa using h2)]
  rfl
def vBad(v:Int):Bool:= !decide (0<=v/\v<=65535)
def pBad(k:Int):Bool:= !isPg k
def leafG(n:GNode):Int:=if n.values.length≠n.keys.length\/0<n.kids.length then 1 else if n.values.any vBad=true then 3 else 0
def innerG(n:GNode):Int:=if n.keys.length<1\/0<n.values.length\/n.kids.length≠n.keys.length+1 then 1 else if n.kids.any pBad=true then 3 else 0
def kS(n:GNode):Int:=if 4<n.keys.length then 2 else if n.keys.any keyBad=true then 2 else if riseK n.keys=false then 1 else if n.leaf=true then leafG n else innerG n
abbrev RdS:=List UInt8×Bool
def rdB(q:RdS):Blk:=⟨[lst q.1, .bool q.2],true⟩
noncomputable def rdOf(b:Blk):Option RdS:=open Classical in if h:∃q:RdS,b=rdB q then some (Classical.choose h)else none
theorem rdB_inj{q p:RdS}(h:rdB q=rdB p):q=p:=by
 unfold rdB at h
 simp only[Blk.mk.injEq,xG,lst_inj,Value.bool.injEq,and_true]at h
 exact Prod.ext h.1 h.2
theorem rdOf_rdB(q:RdS):rdOf (rdB q)=some q:=by
 have h:∃p:RdS,rdB q=rdB p:=⟨q,rfl⟩
 unfold rdOf
 rw[dif_pos h,<-rdB_inj (Classical.choose_spec h)]
@[go_sem] theorem rdOf_eq(xs:List UInt8)(f:Bool):rdOf ⟨[lst xs, .bool f],true⟩=some (xs,f):=rdOf_rdB (xs,f)
theorem rdOf_out{b:Blk}{q:RdS}(h:rdOf b=some q):b=rdB q:=by
 unfold rdOf at h
 split at h
 ·rename_i hq
  cases h
  exact Classical.choose_spec hq
 ·cases h
def tkOK(q:RdS)(k:Nat):Bool:= !q.2&&decide (k<=q.1.length)
def tkV(q:RdS)(k:Nat):List UInt8:=if tkOK q k=true then q.1.take k else List.replicate k 0
def tkS(q:RdS)(k:Nat):RdS:=if tkOK q k=true then(q.1.drop k,false)else(q.1,true)
theorem vB(q:RdS)(k:Nat):(tkV q k).length=k:=by
 unfold tkV
 split
 ·rename_i h
  unfold tkOK at h
  simp at h
  rw[xQ];omega
 ·simp
def yJ(q:RdS):Int:=(((tkV q 1).getD 0 0).toNat:Int)
def pairV(q:RdS):Int:=(((tkV q 2).getD 0 0).toNat:Int)*256+(((tkV q 2).getD 1 0).toNat:Int)
def endV(q:RdS):Bool:= !q.2&&decide (q.1.length=0)
def RdT(v:RdS->Value)(s:RdS->RdS):qH:=fun args H Bd K=>∃n:Nat,args=[.pointer (some ⟨n,0,none⟩)]/\Yld (H n) fun b=>Yld (rdOf b) fun q=>(q.1.length<=1000000)/\K (v q) (upd H n (some ⟨[lst (s q).1, .bool (s q).2],true⟩)) Bd
theorem RdT_eq(v:RdS->Value)(s:RdS->RdS)(n:Nat)(H:AH)(Bd:Nat)(K:Value->AH->Nat->Prop):RdT v s [.pointer (some ⟨n,0,none⟩)] H Bd K=(Yld (H n) fun b=>Yld (rdOf b) fun q=>(q.1.length<=1000000)/\K (v q) (upd H n (some ⟨[lst (s q).1, .bool (s q).2],true⟩)) Bd):=by
 refine propext ⟨fun h=> ?_,fun h=>⟨_,rfl,h⟩⟩
 obtain⟨n',e,h⟩:=h
 simp only[xG,Value.pointer.injEq,xE,Addr.mk.injEq,and_true]at e
 obtain rfl:=e
 exact h
def RdTk:qH:=fun args H Bd K=>∃(n:Nat) (k:Int),args=[.pointer (some ⟨n,0,none⟩), .int .i64 k]/\Yld (H n) fun b=>Yld (rdOf b) fun q=>(q.1.length<=1000000/\0<=k/\k<=1000000)/\K (lst (tkV q k.toNat)) (upd H n (some ⟨[lst (tkS q k.toNat).1, .bool (tkS q k.toNat).2],true⟩)) Bd
theorem RdTk_eq(n:Nat)(k:Int)(H:AH)(Bd:Nat)(K:Value->AH->Nat->Prop):RdTk [.pointer (some ⟨n,0,none⟩), .int .i64 k] H Bd K=(Yld (H n) fun b=>Yld (rdOf b) fun q=>(q.1.length<=1000000/\0<=k/\k<=1000000)/\K (lst (tkV q k.toNat)) (upd H n (some ⟨[lst (tkS q k.toNat).1, .bool (tkS q k.toNat).2],true⟩)) Bd):=by
 refine propext ⟨fun h=> ?_,fun h=>⟨_,_,rfl,h⟩⟩
 obtain⟨n',k',e,h⟩:=h
 simp only[xG,Value.pointer.injEq,xK,xE,Addr.mk.injEq,true_and,and_true]at e
 obtain⟨rfl,rfl⟩:=e
 exact h
theorem hb_setR{H:AH}{Bd n:Nat}{b:Blk}(hh:HB H Bd)(hb:H n=some b)(q:RdS):HB (upd H n (some ⟨[lst q.1, .bool q.2],true⟩)) Bd:=by
 have hn:=zI hh hb
 refine⟨fun m hm=> ?_,fun m c hm v hv=> ?_⟩
 ·rw[qD _ _ (by omega)];exact hh.fresh m hm
 ·by_cases e:m=n
  ·subst e;rw[qJ]at hm;cases hm
   simp only[wG,List.not_mem_nil,or_false]at hv
   rcases hv with rfl|rfl
   ·exact lst_nb _ _
   ·exact .bool _
  ·rw[qD _ _ e]at hm;exact hh.nb m c hm v hv
theorem or_bytes{a b:Nat}(ha:a<256)(hb:b<256):abits .or .i64 ((a:Int)*256) (b:Int)=some (.int .i64 ((a:Int)*256+b)):=by
 have h1:BitVec.ofInt IntKind.i64.bits ((a:Int)*256)=BitVec.ofNat 64 (a*256):=by
  show BitVec.ofInt 64 ((a:Int)*256)=_
  rw[show(a:Int)*256=((a*256:Nat):Int) by omega,BitVec.ofInt_natCast]
 have h2:BitVec.ofInt IntKind.i64.bits (b:Int)=BitVec.ofNat 64 b:=by
  show BitVec.ofInt 64 (b:Int)=_
  rw[BitVec.ofInt_natCast]
 have h3:(BitVec.ofNat 64 (a*256) ||| BitVec.ofNat 64 b).toNat=a*256+b:=by
  rw[BitVec.toNat_or,BitVec.toNat_ofNat,BitVec.toNat_ofNat,Nat.mod_eq_of_lt (by omega),Nat.mod_eq_of_lt (by omega)]
  have:=Nat.shiftLeft_add_eq_or_of_lt (i:=8) (b:=b) (by omega) a
  rw[Nat.shiftLeft_eq]at this
  exact this.symm
 unfold abits
 simp only[h1,h2]
 have h4:(BitVec.ofNat 64 (a*256) ||| BitVec.ofNat 64 b).toNat=a*256+b:=h3
 show some (Value.int .i64 (IntKind.i64.wrap ((BitVec.ofNat 64 (a*256) ||| BitVec.ofNat 64 b).toNat:Int)))=_
 rw[h4,IntWalk.i64_in _ (by omega)]
 congr 2
def u8z(z:Int):UInt8:=UInt8.ofNat (z%256).toNat
theorem kZ(z:Int):((u8z z).toNat:Int)=z%256:=u8_of (by omega) (by omega)
def entN(n:GNode)(i:Nat):List UInt8:=u8z ((n.keys.getD i []).length:Int)::n.keys.getD i []++(if n.leaf=true then jX (n.values.getD i 0)else [])
def accN(n:GNode)(i:Nat):List UInt8:=u8z (n.keys.length:Int)::(List.range i).flatMap (entN n)
def accK(n:GNode)(i:Nat):List UInt8:=accN n n.keys.length++(n.kids.take i).map u8z
def packN'(n:GNode):List UInt8:=accN n n.keys.length++n.kids.map u8z
theorem accN_succ(n:GNode)(i:Nat):accN n (i+1)=accN n i++entN n i:=by simp[accN,List.range_succ]
theorem accK_succ{n:GNode}{i:Nat}(h:i<n.kids.length):accK n (i+1)=accK n i++[u8z n.kids[i]]:=by
 unfold accK
 rw[xP h,List.map_append,List.map_cons,List.map_nil,xL]
structure NodeOK (n:GNode):Prop where
 kl:n.keys.length<=4
 key:∀k∈n.keys,1<=k.length/\k.length<=16
 vals:n.leaf=true->n.values.length=n.keys.length/\n.kids.length=0/\∀v∈n.values,0<=v/\v<=65535
 kids:n.leaf=false->1<=n.keys.length/\n.values.length=0/\n.kids.length=n.keys.length+1/\∀k∈n.kids,2<=k/\k<=63
theorem any_no{α:Type}{p:α->Bool}{l:List α}(h:¬l.any p=true){x:α}(hx:x∈l):p x=false:=by
 cases hp:p x with
 |false=>rfl
 |true=>exact absurd (List.any_eq_true.2 ⟨x,hx,hp⟩) h
theorem node_ok{n:GNode}(h:kS n=0):NodeOK n:=by
 unfold kS at h
 split at h
 ·omega
 ·rename_i h1
  split at h
  ·omega
  ·rename_i h2
   split at h
   ·omega
   ·have hk:∀k∈n.keys,1<=k.length/\k.length<=16:=fun k hk=>by
     have:=of_decide_eq_false (any_no h2 hk)
     omega
    split at h
    ·rename_i hl
     unfold leafG at h
     split at h
     ·omega
     ·rename_i h3
      split at h
      ·omega
      ·rename_i h4
       refine⟨by omega,hk,fun _=>⟨by omega,by omega,fun v hv=> ?_⟩,fun hf=>by rw[hl]at hf;cases hf⟩
       have:=any_no h4 hv
       unfold vBad at this
       simpa using this
    ·rename_i hl
     unfold innerG at h
     split at h
     ·omega
     ·rename_i h3
      split at h
      ·omega
      ·rename_i h4
       refine⟨by omega,hk,fun hf=>absurd hf hl,fun _=>⟨by omega,by omega,by omega,fun k hk=> ?_⟩⟩
       have:=any_no h4 hk
       unfold pBad isPg at this
       simpa using this
theorem entN_len{n:GNode}(h:NodeOK n){i:Nat}(hi:i<n.keys.length):(entN n i).length<=19:=by
 have e1:n.keys.getD i []=n.keys[i]:=by rw[xF,xA hi];rfl
 have:=(h.key _ (xH hi)).2
 unfold entN
 rw[e1]
 simp only[List.cons_append,xJ,xD]
 split
 ·rw[jQ];omega
 ·simp;omega
theorem accN_len{n:GNode}(h:NodeOK n):∀i,i<=n.keys.length->(accN n i).length<=1+19*i
 |0,_=>by simp[accN]
 |i+1,hi=>by
  have h1:=accN_len h i (by omega)
  have h2:=entN_len h (i:=i) (by omega)
  rw[accN_succ,xD];omega
def isRt(n:Int):Bool:=decide (n=0)||isPg n
def yX(p:GSuper):Int:=
 if((1<=p.gen/\p.gen<=60000)/\(1<=p.version/\p.version<=60000))/\isRt p.root=true/\isRt p.shadow=true/\isRt p.next_=true/\isPg p.theory=true then
  if 16<p.cursor.length then 2
  else if(p.moving=true/\p.next_=0)\/(p.moving=false/\(p.shadow≠0\/p.next_≠0\/0<p.cursor.length))then 8
  else kE p.symbols
 else 3
def incI:List Int->Bool
 |x::y::l=>decide (x<y)&&incI (y::l)
 |_=>true
theorem incI_no:∀ {l:List Int} {k:Nat} {x y:Int},l[k]? =some x->l[k+1]? =some y->¬x<y->incI l=false
 |[],_,_,_,h,_,_=>by simp at h
 |[_],k,_,_,_,h,_=>by simp at h
 |a::b::l,0,x,y,h1,h2,h3=>by
  simp only[wD,wM,xE]at h1 h2
  subst h1;subst h2
  unfold incI
  rw[decide_eq_false h3];rfl
 |a::b::l,k+1,x,y,h1,h2,h3=>by
  unfold incI
  rw[incI_no (l:=b::l) (k:=k) (by simpa using h1) (by simpa using h2) h3]
  exact Bool.and_false _
theorem incI_yes:∀ {l:List Int},(∀(k:Nat) x y,l[k]? =some x->l[k+1]? =some y->x<y)->incI l=true
 |[],_=>rfl
 |[_],_=>rfl
 |a::b::l,h=>by
  unfold incI
  rw[decide_eq_true (h 0 a b rfl rfl),incI_yes fun k x y h1 h2=>h (k+1) x y (by simpa using h1) (by simpa using h2)]
  rfl
def kQ(l:List Int)(n:Int):Nat->List Int×Bool
 |0=>([],false)
 |i+1=>if(kQ l n i).2=false/\n<=l.getD i 0 then((kQ l n i).1++(if l.getD i 0=n then []else [n])++[l.getD i 0],true)else((kQ l n i).1++[l.getD i 0],(kQ l n i).2)
def kV(l:List Int)(n:Int):List Int:=if(kQ l n l.length).2=true then(kQ l n l.length).1 else(kQ l n l.length).1++[n]
theorem putS_len(l:List Int)(n:Int):∀i,(kQ l n i).1.length<=2*i
 |0=>by simp[kQ]
 |i+1=>by
  have:=putS_len l n i
  unfold kQ
  split
  ·simp only[xD]
   split <;>simp <;>omega
  ·simp;omega
theorem putS_len2(l:List Int)(n:Int):∀i,(kQ l n i).1.length<=i+1/\((kQ l n i).2=false->(kQ l n i).1.length=i)
 |0=>by simp[kQ]
 |i+1=>by
  obtain⟨h1,h2⟩:=putS_len2 l n i
  unfold kQ
  split
  ·rename_i h
   have:=h2 h.1
   refine⟨?_,fun hf=>by cases hf⟩
   simp only[xD]
   split <;>simp <;>omega
  ·simp only[xD,xJ,xZ]
   exact⟨by omega,fun hf=>by have:=h2 hf;omega⟩
theorem putL_len(l:List Int)(n:Int):(kV l n).length<=l.length+1:=by
 obtain⟨h1,h2⟩:=putS_len2 l n l.length
 unfold kV
 split
 ·exact h1
 ·rename_i h
  have:=h2 (by simpa using h)
  rw[xD];simp;omega
def addS(l more:List Int):Nat->List Int×Bool
 |0=>(l,true)
 |i+1=>(kV (addS l more i).1 (more.getD i 0),if hasI (addS l more i).1 (more.getD i 0)=true then false else(addS l more i).2)
def addL(l more:List Int):List Int×Bool:=addS l more more.length
theorem addS_len(l more:List Int):∀i,(addS l more i).1.length<=l.length+i
 |0=>xC _
 |i+1=>by
  have h1:=addS_len l more i
  have h2:=putL_len (addS l more i).1 (more.getD i 0)
  show(kV _ _).length<=_
  omega
def prs(leaf:Bool)(body:List UInt8):Nat->Option (Nat×List (List UInt8)×List Int)
 |0=>some (1,[],[])
 |i+1=>match prs leaf body i with
  |none=>none
  |some (p,ks,vs)=>
   if body.length<=p\/body.length<p+1+(body.getD p 0).toNat+(if leaf=true then 2 else 0)then none
   else some (p+1+(body.getD p 0).toNat+(if leaf=true then 2 else 0),ks++[(body.drop (p+1)).take (body.getD p 0).toNat],
    if leaf=true then vs++[((body.getD (p+1+(body.getD p 0).toNat) 0).toNat:Int)*256+((body.getD (p+2+(body.getD p 0).toNat) 0).toNat:Int)]else vs)
def noNd:GNode:=⟨false,[],[],[]⟩
def prsE(leaf:Bool)(body:List UInt8)(p:Nat)(ks:List (List UInt8))(vs:List Int):GNode×Bool:=
 let kids:=if leaf=true then []else((body.drop p).take 5).map fun b=>(b.toNat:Int)
 (⟨leaf,ks,vs,kids⟩,decide (p+kids.length=body.length)&&decide (kS ⟨leaf,ks,vs,kids⟩=0))
def prsN(leaf:Bool)(body:List UInt8):GNode×Bool:=
 if body.length<1\/4<(body.getD 0 0).toNat then(noNd,false)
 else match prs leaf body (body.getD 0 0).toNat with
  |none=>(noNd,false)
  |some (p,ks,vs)=>prsE leaf body p ks vs
def rdN(kind:Int)(body:List UInt8):GNodeResult:=
 if kind≠1/\kind≠2 then⟨3,noNd⟩else if(prsN (decide (kind=1)) body).2=true then⟨0,(prsN (decide (kind=1)) body).1⟩else⟨5,noNd⟩
def jY(d:GDisk)(id:Int):GNode×Int:=
 if ¬(2<=id/\id<=(d.sectors.length:Int)-1)then(noNd,3)
 else if(qY (yH d id) id).2≠0 then(noNd,(qY (yH d id) id).2)
 else((rdN (qY (yH d id) id).1.kind (qY (yH d id) id).1.body).node,(rdN (qY (yH d id) id).1.kind (qY (yH d id) id).1.body).code)
theorem readPg_ok{data:List UInt8}{id:Int}(h:(qY data id).2=0):pageF (qY data id).1=0/\packP (qY data id).1=data:=by
 unfold qY at h ⊢
 split at h
 ·cases h
 ·rename_i h1
  split at h
  ·cases h
  ·rename_i h2
   split at h
   ·cases h
   ·rename_i h3
    split at h
    ·cases h
    ·rename_i h4
     rw[if_neg h1,if_neg h2,if_neg h3,if_neg h4]
     exact⟨Decidable.not_not.1 fun h=>h4 (.inl h),Decidable.not_not.1 fun h=>h4 (.inr h)⟩
def nilV(k:Nat)(v:Value):Value:=match v with
 | .slice none 0 0=> .func (.yield k) #[] #[]
 |v=>v
theorem nilV_pub(H:AH)(S:Nat->Prop)(k:Nat)(v:Value):Pub H S v (nilV k v):=by
 unfold nilV
 split
 ·exact .empty
 ·exact .same _
def NilV(i k:Nat)(W:qH):qH:=fun args H Bd K=>W (args.set i (nilV k (args.getD i undef))) H Bd K
theorem NilV_ok{P:Program}{f:FuncId}(i k:Nat){W:qH}(h:∀args H Bd K,W args H Bd K->SCalls P f args H Bd K):∀args H Bd K,NilV i k W args H Bd K->SCalls P f args H Bd K:=fun args H Bd K hk=>
 give (fun _=>False) (PubC.set args i _ (nilV_pub H _ k _)) (Le.refl _) (fun _ _ _ h=>h) (h _ _ _ _ hk)
@[go_sem] theorem nilV_lst{α:Type}[Enc α](k:Nat)(xs:List α):nilV k (lst xs)=lst xs:=(rfl)
def inB(key low high:List UInt8):Bool:=(decide (low.length=0)||decide (Lib.compareBytes low key<=0))&&(decide (high.length=0)||decide (Lib.compareBytes key high<0))
theorem Rel.recell{A:Nat->Prop}{ι:Ren}{H:AH}{Bd:Nat}{w:World}(hr:Rel A ι H Bd w){n:Nat}{b:Blk}{L:List Value}(hb:H n=some b)(hL:∀(i:Nat) v,L[i]? =some v->∃u,b.cells[i]? =some u/\∀v',VR ι w u v'->VR ι w v v')(ho:b.own=true):
  Rel A ι (upd H n (some ⟨L,b.own⟩)) Bd w:=by
 refine⟨hr.bound,fun k c hk=> ?_,fun k j c c' B1 b1 B2 b2 hne g1 g2 go i1 i2=> ?_,hr.newA,fun k c B1 b1 g1 go i1=> ?_,hr.fzlt,fun k c hk hq=> ?_,hr.mp⟩
 ·by_cases e1:k=n
  ·subst e1
   rw[qJ]at hk
   cases hk
   rcases hr.blk k b hb with⟨hvd,hc⟩|⟨B1,base1,cs,e,fr,h1,h2,h3,h4,h5⟩
   ·refine .inl ⟨hvd,?_⟩
    cases L with
    |nil=>rfl
    |cons x xs=>obtain⟨u,hu,_⟩:=hL 0 x rfl;rw[hc]at hu;cases hu
   ·refine .inr ⟨B1,base1,cs,e,fr,h1,h2,h3,h4,fun i v hv=> ?_⟩
    obtain⟨u,hu,hi⟩:=hL i v hv
    obtain⟨v',k1,k2⟩:=h5 i u hu
    exact⟨v',k1,hi v' k2⟩
  ·rw[qD H _ e1]at hk;exact hr.blk k c hk
 ·by_cases e1:k=n
  ·subst e1
   rw[qJ]at g1;cases g1
   rw[qD H _ (fun h=>hne h.symm)]at g2
   exact hr.apart k j b c' B1 b1 B2 b2 hne hb g2 go i1 i2
  ·rw[qD H _ e1]at g1
   by_cases e2:j=n
   ·subst e2
    exact hr.apart k j c b B1 b1 B2 b2 hne g1 hb go i1 i2
   ·rw[qD H _ e2]at g2
    exact hr.apart k j c c' B1 b1 B2 b2 hne g1 g2 go i1 i2
 ·by_cases e1:k=n
  ·subst e1
   rw[qJ]at g1;cases g1
   exact hr.froz k b B1 b1 hb go i1
  ·rw[qD H _ e1]at g1
   exact hr.froz k c B1 b1 g1 go i1
 ·by_cases e1:k=n
  ·subst e1;rw[qJ]at hk;cases hk;rw[show b.own=true from ho]at hq;cases hq
  ·rw[qD H _ e1]at hk;exact hr.glob k c hk hq
theorem Tr.freshC{P:Program}{N0:Nat}{c:Code}{Q:yY}{s:List Value}{H:AH}{Bd n:Nat}{cells:List Value}(j k:Nat)(hn:H n=some ⟨cells,true⟩)(hj:cells[j]? =some (.slice none 0 0))
  (h:Tr P N0 c Q s (upd (upd H Bd (some ⟨[],true⟩)) n (some ⟨cells.set j (.slice (some ⟨Bd,0,some k⟩) 0 1),true⟩)) (Bd+1)):Tr P N0 c Q s H Bd:=by
 intro hN A ι a w hst
 have hb:ι Bd=none:=hst.rel.bound Bd (xC _)
 have hx:=ext_ren (.void) hb
 have hnB:n<Bd:=hst.rel.named hn
 have r1:=(hst.rel.raise (Nat.le_succ Bd)).void hb (Nat.lt_succ_self _)
 have hlt:j<cells.length:=(xR.1 hj).1
 have r2:=r1.recell (n:=n) (b:=⟨cells,true⟩) (L:=cells.set j (.slice (some ⟨Bd,0,some k⟩) 0 1)) (by rw[qD _ _ (by omega)];exact hn) (fun i v hv=>by
  by_cases e:j=i
  ·subst e
   rw[List.getElem?_set_self hlt]at hv
   cases hv
   refine⟨_,hj,fun v' hv'=> ?_⟩
   cases hv'
   exact .sl ⟨_,jG _ _ _⟩ (xC _) (by simp) (by simp) (.inl rfl)
  ·rw[wS e]at hv
   exact⟨v,hv,fun v' hv'=>hv'⟩) rfl
 have hst':St A (ren ι Bd .void) s (upd (upd H Bd (some ⟨[],true⟩)) n (some ⟨cells.set j (.slice (some ⟨Bd,0,some k⟩) 0 1),true⟩)) (Bd+1) a w:=
  ⟨r2,⟨hst.slots.1,fun i v v' g1 g2=>(hst.slots.2 i v v' g1 g2).mono hx (Fro.refl ι w)⟩,hst.defers⟩
 refine wp_mono (h (wE hN (Nat.le_succ _)) A _ a w hst') fun e a' w' ⟨ι',s2,H2,Bd2,g1,g2,g3,g4,g5,g6⟩=> ?_
 have k0:=Keep.refl A w (ι:=ι) (ι':=ren ι Bd .void) ⟨fun _ h=>h,fun _ _ h=>h⟩ (fun _ h=> .inl h)
 refine⟨ι',s2,H2,Bd2,g1,g2,g3,k0.trans g4,fun m hm=> ?_,NI.trans (((NI.refl H).upd _ _).upd _ _) g6⟩
 rw[g5 m (by omega)]
 exact qX _ _ (by omega)
theorem upd_swap{H:AH}{m n:Nat}{a b c:Option Blk}(h:m≠n):upd (upd (upd H m a) n b) m c=upd (upd H m c) n b:=by
 funext q
 unfold upd
 by_cases e1:q=m
 ·subst e1;simp[h]
 ·by_cases e2:q=n
  ·subst e2;simp[e1]
  ·simp[e1,e2]
theorem prs_len{leaf:Bool}{body:List UInt8}:∀ {i p:Nat} {ks:List (List UInt8)} {vs:List Int},prs leaf body i=some (p,ks,vs)->ks.length=i/\vs.length<=i/\(leaf=false->vs=[])
 |0,p,ks,vs,h=>by
  simp only[prs,xE,Prod.mk.injEq]at h
  obtain⟨rfl,rfl,rfl⟩:=h
  simp
 |i+1,p,ks,vs,h=>by
  unfold prs at h
  split at h
  ·cases h
  ·rename_i p0 ks0 vs0 h0
   obtain⟨q1,q2,q3⟩:=prs_len h0
   by_cases hc:body.length<=p0\/body.length<p0+1+(body.getD p0 0).toNat+(if leaf=true then 2 else 0)
   ·rw[if_pos hc]at h;cases h
   ·rw[if_neg hc]at h
    simp only[xE,Prod.mk.injEq]at h
    obtain⟨_,rfl,rfl⟩:=h
    refine⟨by simp[q1],?_,fun hl=> ?_⟩
    ·split
     ·simp;omega
     ·omega
    ·rw[if_neg (by simp[hl])];exact q3 hl
theorem prs_none{leaf:Bool}{body:List UInt8}{i:Nat}(h:prs leaf body i=none):∀j,i<=j->prs leaf body j=none
 |0,hj=>by obtain rfl:i=0:=by omega
           exact h
 |j+1,hj=>by
  by_cases e:i=j+1
  ·subst e;exact h
  ·have:=prs_none h j (by omega)
   unfold prs
   rw[this]
theorem le_step{X:AH}{a m g n:Nat}{B F o f k:Option Blk}(hm:X m=none)(hg:X g=none)(hna:n≠a):Le (upd (upd X a B) n F) (upd (upd (upd (upd (upd (upd X a o) m f) g k) m none) n F) a B):=fun q b hq=>by
 by_cases e1:q=a
 ·subst e1
  rw[qD _ _ (Ne.symm hna),qJ]at hq
  rw[qJ];exact hq
 ·rw[qD _ _ e1]
  by_cases e2:q=n
  ·subst e2;rw[qJ]at hq ⊢;exact hq
  ·rw[qD _ _ e2,qD _ _ e1]at hq
   rw[qD _ _ e2]
   have e3:q≠m:=fun h=>by subst h;rw[hm]at hq;cases hq
   have e4:q≠g:=fun h=>by subst h;rw[hg]at hq;cases hq
   rw[qD _ _ e3,qD _ _ e4,qD _ _ e3,qD _ _ e1];exact hq
theorem upd_comm{H:AH}{m n:Nat}{a b:Option Blk}(h:m≠n):upd (upd H m a) n b=upd (upd H n b) m a:=by
 funext q
 unfold upd
 by_cases e1:q=m
 ·subst e1;simp[h]
 ·by_cases e2:q=n
  ·subst e2;simp[e1]
  ·simp[e1,e2]
def vO(body:List UInt8)(p j:Nat):List Int:=((body.drop p).take j).map fun b=>(b.toNat:Int)
theorem kidsB_succ{body:List UInt8}{p j:Nat}(h:p+j<body.length):vO body p (j+1)=vO body p j++[((body[p+j]'h).toNat:Int)]:=by
 unfold vO
 have hl:j<(body.drop p).length:=by rw[xI];omega
 rw[xP hl,List.map_append,List.map_cons,List.map_nil]
 simp
theorem kidsB_len{body:List UInt8}{p j:Nat}(h:p+j<=body.length):(vO body p j).length=j:=by
 unfold vO
 rw[List.length_map,xQ,xI];omega
theorem prs_le{leaf:Bool}{body:List UInt8}(hb:1<=body.length):∀ {i p:Nat} {ks:List (List UInt8)} {vs:List Int},prs leaf body i=some (p,ks,vs)->p<=body.length
 |0,p,ks,vs,h=>by
  simp only[prs,xE,Prod.mk.injEq]at h
  omega
 |i+1,p,ks,vs,h=>by
  unfold prs at h
  split at h
  ·cases h
  ·rename_i p0 ks0 vs0 h0
   by_cases hc:body.length<=p0\/body.length<p0+1+(body.getD p0 0).toNat+(if leaf=true then 2 else 0)
   ·rw[if_pos hc]at h;cases h
   ·rw[if_neg hc]at h
    simp only[xE,Prod.mk.injEq]at h
    omega
@[go_sem] theorem giveV_nil(H:AH):giveV H (.slice none 0 0)= .slice none 0 0:=(rfl)
@[go_sem] theorem nilC_bool(k:Nat)(b:Bool):nilC k (.bool b)= .bool b:=(rfl)
theorem prs_key{leaf:Bool}{body:List UInt8}:∀ {i p:Nat} {ks:List (List UInt8)} {vs:List Int},prs leaf body i=some (p,ks,vs)->∀k∈ks,k.length<=body.length
 |0,p,ks,vs,h=>by
  simp only[prs,xE,Prod.mk.injEq]at h
  obtain⟨_,rfl,_⟩:=h
  simp
 |i+1,p,ks,vs,h=>by
  unfold prs at h
  split at h
  ·cases h
  ·rename_i p0 ks0 vs0 h0
   have ih:=prs_key h0
   by_cases hc:body.length<=p0\/body.length<p0+1+(body.getD p0 0).toNat+(if leaf=true then 2 else 0)
   ·rw[if_pos hc]at h;cases h
   ·rw[if_neg hc]at h
    simp only[xE,Prod.mk.injEq]at h
    obtain⟨_,rfl,_⟩:=h
    intro k hk
    rcases List.mem_append.1 hk with hk|hk
    ·exact ih k hk
    ·rw[wR.1 hk,xQ,xI];omega
theorem le_step2{X:AH}{a m q g g2 n r:Nat}{B F G o o2 f h k k2:Option Blk}(hm:X m=none)(hq:X q=none)(hg:X g=none)(hg2:X g2=none)(hna:n≠a)(hra:r≠a)(hnq:n≠q)(hng:n≠g2):
  Le (upd (upd (upd X a B) n F) r G) (upd (upd (upd (upd (upd (upd (upd (upd (upd (upd (upd X a o) m f) q h) g k) m none) n F) a o2) g2 k2) q none) r G) a B):=fun t b ht=>by
 by_cases e1:t=a
 ·subst e1
  rw[qD _ _ (Ne.symm hra),qD _ _ (Ne.symm hna),qJ]at ht
  rw[qJ];exact ht
 ·rw[qD _ _ e1]
  by_cases e2:t=r
  ·subst e2;rw[qJ]at ht ⊢;exact ht
  ·rw[qD _ _ e2]at ht ⊢
   by_cases e3:t=n
   ·subst e3
    rw[qJ]at ht
    rw[qD _ _ hnq,qD _ _ hng,qD _ _ e1,qJ];exact ht
   ·rw[qD _ _ e3,qD _ _ e1]at ht
    have n1:t≠m:=fun e=>by subst e;rw[hm]at ht;cases ht
    have n2:t≠q:=fun e=>by subst e;rw[hq]at ht;cases ht
    have n3:t≠g:=fun e=>by subst e;rw[hg]at ht;cases ht
    have n4:t≠g2:=fun e=>by subst e;rw[hg2]at ht;cases ht
    rw[qD _ _ n2,qD _ _ n4,qD _ _ e1,qD _ _ e3,qD _ _ n1,qD _ _ n3,qD _ _ n2,qD _ _ n1,qD _ _ e1];exact ht
theorem u8z_nat(b:UInt8):u8z (b.toNat:Int)=b:=by
 apply UInt8.toNat_inj.1
 have h:=kZ (b.toNat:Int)
 have:=b.toNat_lt
 omega
theorem rdN_F{kind:Int}{body:List UInt8}(hk:kind=1\/kind=2)(h:(prsN (decide (kind=1)) body).2=false):rdN kind body=⟨5,noNd⟩:=by
 unfold rdN
 rw[if_neg (by omega),if_neg (by rw[h];exact Bool.false_ne_true)]
theorem rdN_T{kind:Int}{body:List UInt8}{n:GNode}(hk:kind=1\/kind=2)(h:prsN (decide (kind=1)) body=(n,true)):rdN kind body=⟨0,n⟩:=by
 unfold rdN
 rw[if_neg (by omega),h,if_pos rfl]
def kidsE(leaf:Bool)(body:List UInt8)(p c:Nat):List Int:=if leaf=true then []else vO body p c
theorem prsN_some{leaf:Bool}{body:List UInt8}{n:GNode}(h:prsN leaf body=(n,true)):1<=body.length/\∃p ks vs,prs leaf body (body.getD 0 0).toNat=some (p,ks,vs)/\n=⟨leaf,ks,vs,kidsE leaf body p ((body.getD 0 0).toNat+1)⟩/\p+(kidsE leaf body p ((body.getD 0 0).toNat+1)).length=body.length/\kS n=0:=by
 unfold prsN at h
 by_cases h0:body.length<1\/4<(body.getD 0 0).toNat
 ·rw[if_pos h0]at h;cases h
 ·rw[if_neg h0]at h
  refine⟨by omega,?_⟩
  split at h
  ·cases h
  ·rename_i p ks vs hp
   refine⟨p,ks,vs,hp,?_⟩
   have hpl:=prs_len hp
   have hple:p<=body.length:=prs_le (by omega) hp
   unfold prsE at h
   cases leaf with
   |true=>
    simp only[↓reduceIte,Prod.mk.injEq,Bool.and_eq_true,decide_eq_true_eq]at h
    obtain⟨rfl,h1,h2⟩:=h
    exact⟨rfl,h1,h2⟩
   |false=>
    simp only[Bool.false_eq_true,↓reduceIte,Prod.mk.injEq,Bool.and_eq_true,decide_eq_true_eq]at h
    obtain⟨rfl,h1,h2⟩:=h
    have hN:=(node_ok h2).kids rfl
    have hc:(List.map (fun b=>(UInt8.toNat b:Int)) (List.take 5 (List.drop p body))).length=(body.getD 0 0).toNat+1:=by
     have:=hN.2.2.1
     rw[hpl.1]at this;exact this
    have hk:kidsE false body p ((body.getD 0 0).toNat+1)=(List.take 5 (List.drop p body)).map fun b=>(b.toNat:Int):=by
     unfold kidsE vO
     rw[if_neg (by simp)]
     rw[List.length_map,xQ,xI]at hc
     rw[List.length_map,xQ,xI]at h1
     rw[xO (l:=List.drop p body) (by rw[xI];omega),xO (l:=List.drop p body) (by rw[xI];omega)]
    rw[hk]
    exact⟨rfl,h1,h2⟩
def entP(leaf:Bool)(ks:List (List UInt8))(vs:List Int)(i:Nat):List UInt8:=(List.range i).flatMap fun j=>u8z ((ks.getD j []).length:Int)::ks.getD j []++(if leaf=true then jX (vs.getD j 0)else [])
theorem entP_succ(leaf:Bool)(ks:List (List UInt8))(vs:List Int)(i:Nat):entP leaf ks vs (i+1)=entP leaf ks vs i++(u8z ((ks.getD i []).length:Int)::ks.getD i []++(if leaf=true then jX (vs.getD i 0)else [])):=by simp[entP,List.range_succ]
theorem entP_ext{leaf:Bool}{ks ks':List (List UInt8)}{vs vs':List Int}:∀ {i:Nat},(∀j,j<i->ks.getD j []=ks'.getD j []/\(leaf=true->vs.getD j 0=vs'.getD j 0))->entP leaf ks vs i=entP leaf ks' vs' i
 |0,_=>rfl
 |i+1,h=>by
  rw[entP_succ,entP_succ,entP_ext (i:=i) fun j hj=>h j (by omega),(h i (by omega)).1]
  cases leaf with
  |true=>rw[(h i (by omega)).2 rfl]
  |false=>rfl
theorem pairB_two(a b:UInt8):jX ((a.toNat:Int)*256+(b.toNat:Int))=[a,b]:=by
 have:=a.toNat_lt
 have:=b.toNat_lt
 unfold jX
 rw[show((a.toNat:Int)*256+(b.toNat:Int))/256%256=(a.toNat:Int) by omega,show((a.toNat:Int)*256+(b.toNat:Int))%256=(b.toNat:Int) by omega]
 simp
theorem prs_vs{body:List UInt8}{i p:Nat}{ks:List (List UInt8)}{vs:List Int}(h:prs true body i=some (p,ks,vs)):vs.length=i:=by
 induction i generalizing p ks vs with
 |zero=>
  simp only[prs,xE,Prod.mk.injEq]at h
  obtain⟨_,_,rfl⟩:=h;rfl
 |succ i ih=>
  unfold prs at h
  split at h
  ·cases h
  ·rename_i p0 ks0 vs0 h0
   by_cases hc:body.length<=p0\/body.length<p0+1+(body.getD p0 0).toNat+(if true=true then 2 else 0)
   ·rw[if_pos hc]at h;cases h
   ·rw[if_neg hc]at h
    simp only[↓reduceIte,xE,Prod.mk.injEq]at h
    obtain⟨_,_,rfl⟩:=h
    simp[ih h0]
theorem take_one{body:List UInt8}{p:Nat}(h:p<body.length):body.take (p+1)=body.take p++[body.getD p 0]:=by
 rw[xP h,xF,xA h];rfl
theorem prs_pack{leaf:Bool}{body:List UInt8}(hb:1<=body.length):∀ {i p:Nat} {ks:List (List UInt8)} {vs:List Int},prs leaf body i=some (p,ks,vs)->body.take p=body.getD 0 0::entP leaf ks vs i
 |0,p,ks,vs,h=>by
  simp only[prs,xE,Prod.mk.injEq]at h
  obtain⟨rfl,_,_⟩:=h
  exact take_one (p:=0) (by omega)
 |i+1,p,ks,vs,h=>by
  unfold prs at h
  split at h
  ·cases h
  ·rename_i p0 ks0 vs0 h0
   have ih:=prs_pack hb h0
   have hl:=prs_len h0
   by_cases hc:body.length<=p0\/body.length<p0+1+(body.getD p0 0).toNat+(if leaf=true then 2 else 0)
   ·rw[if_pos hc]at h;cases h
   ·rw[if_neg hc]at h
    simp only[xE,Prod.mk.injEq]at h
    obtain⟨hp,hk,hv⟩:=h
    obtain⟨hc1,hc2⟩:¬body.length<=p0/\¬body.length<p0+1+(body.getD p0 0).toNat+(if leaf=true then 2 else 0):=⟨fun h=>hc (.inl h),fun h=>hc (.inr h)⟩
    obtain⟨L,hL⟩:∃L,L=(body.getD p0 0).toNat:=⟨_,rfl⟩
    rw[<-hL]at hc2 hp hk hv
    have hkey:((body.drop (p0+1)).take L).length=L:=by
     rw[xQ,xI]
     split at hc2 <;>omega
    have hext:entP leaf ks vs i=entP leaf ks0 vs0 i:=entP_ext fun j hj=>by
     subst hk
     refine⟨?_,fun hlf=> ?_⟩
     ·rw[xF,xF,wF (by omega)]
     ·subst hlf
      rw[if_pos rfl]at hv
      subst hv
      rw[xF,wF (by rw[prs_vs h0];omega),xF]
    have hki:ks.getD i []=(body.drop (p0+1)).take L:=by
     subst hk
     rw[xF,wB (by omega),hl.1,Nat.sub_self];rfl
    have hhead:body.take (p0+1+L)=body.take p0++(u8z ((ks.getD i []).length:Int)::ks.getD i []):=by
     rw[hki,hkey,hL,u8z_nat,<-hL,List.take_add,take_one (by omega),xL];rfl
    rw[entP_succ,hext]
    cases leaf with
    |false=>
     rw[if_neg (by simp)]at hp ⊢
     subst hp
     rw[Nat.add_zero,hhead,ih];simp
    |true=>
     rw[if_pos rfl]at hp ⊢ hc2
     rw[if_pos rfl]at hv
     subst hp
     have hvi:vs.getD i 0=((body.getD (p0+1+L) 0).toNat:Int)*256+((body.getD (p0+2+L) 0).toNat:Int):=by
      subst hv
      rw[xF,wB (by rw[prs_vs h0];exact xC _),prs_vs h0,Nat.sub_self];rfl
     rw[hvi,pairB_two]
     have t1:=take_one (body:=body) (p:=p0+1+L) (by omega)
     have t2:=take_one (body:=body) (p:=p0+1+L+1) (by omega)
     rw[t2,t1,hhead,ih,show p0+1+L+1=p0+2+L by omega]
     simp
theorem prsN_T{leaf:Bool}{body:List UInt8}{p:Nat}{ks:List (List UInt8)}{vs:List Int}(hb:1<=body.length)(h:prs leaf body (body.getD 0 0).toNat=some (p,ks,vs))
  (he:p+(kidsE leaf body p ((body.getD 0 0).toNat+1)).length=body.length) (hz:kS ⟨leaf,ks,vs,kidsE leaf body p ((body.getD 0 0).toNat+1)⟩=0):
  prsN leaf body=(⟨leaf,ks,vs,kidsE leaf body p ((body.getD 0 0).toNat+1)⟩,true)/\packN' ⟨leaf,ks,vs,kidsE leaf body p ((body.getD 0 0).toNat+1)⟩=body:=by
 have hN:=node_ok hz
 have hpl:=prs_len h
 have hple:p<=body.length:=prs_le hb h
 have h4:(body.getD 0 0).toNat<=4:=by have:=hN.kl;rw[hpl.1]at this;exact this
 have hk5:(if leaf=true then []else((body.drop p).take 5).map fun b=>(b.toNat:Int))=kidsE leaf body p ((body.getD 0 0).toNat+1):=by
  cases leaf with
  |true=>rfl
  |false=>
   have hc:=(hN.kids rfl).2.2.1
   rw[hpl.1]at hc
   unfold kidsE vO at he hc ⊢
   simp only[Bool.false_eq_true,↓reduceIte]at he hc ⊢
   rw[hc]at he
   rw[xO (by rw[xI];omega),xO (by rw[xI];omega)]
 refine⟨?_,?_⟩
 ·unfold prsN
  rw[if_neg (by omega),h]
  show prsE leaf body p ks vs=_
  unfold prsE
  simp only[hk5]
  rw[decide_eq_true he,decide_eq_true hz];rfl
 ·have hp:=prs_pack hb h
  have e1:accN ⟨leaf,ks,vs,kidsE leaf body p ((body.getD 0 0).toNat+1)⟩ ks.length=body.take p:=by
   rw[hp,hpl.1]
   unfold accN entN entP
   show u8z (ks.length:Int)::_=_
   rw[hpl.1,u8z_nat]
  show accN _ ks.length++(kidsE leaf body p ((body.getD 0 0).toNat+1)).map u8z=body
  rw[e1]
  cases leaf with
  |true=>
   have:p=body.length:=by
    unfold kidsE at he
    simpa using he
   unfold kidsE
   rw[this];simp
  |false=>
   rw[<-hk5]
   rw[<-hk5]at he
   simp only[Bool.false_eq_true,↓reduceIte]at he ⊢
   rw[List.length_map,xQ,xI]at he
   rw[xO (l:=List.drop p body) (by rw[xI];omega),List.map_map]
   rw[show(u8z ∘ fun b:UInt8=>(b.toNat:Int))=id from funext fun b=>u8z_nat b,List.map_id]
   exact List.take_append_drop p body
theorem prsN_none{leaf:Bool}{body:List UInt8}(h:prs leaf body (body.getD 0 0).toNat=none):(prsN leaf body).2=false:=by
 cases hq:(prsN leaf body).2 with
 |false=>rfl
 |true=>
  obtain⟨_,p,ks,vs,h1,_⟩:=prsN_some (n:=(prsN leaf body).1) (Prod.ext rfl hq)
  rw[h]at h1;cases h1
theorem prsN_bad{leaf:Bool}{body:List UInt8}{p:Nat}{ks:List (List UInt8)}{vs:List Int}(h:prs leaf body (body.getD 0 0).toNat=some (p,ks,vs))
  (hb:¬(p+(kidsE leaf body p ((body.getD 0 0).toNat+1)).length=body.length/\kS ⟨leaf,ks,vs,kidsE leaf body p ((body.getD 0 0).toNat+1)⟩=0)):(prsN leaf body).2=false:=by
 cases hq:(prsN leaf body).2 with
 |false=>rfl
 |true=>
  obtain⟨_,p',ks',vs',h1,h2,h3,h4⟩:=prsN_some (n:=(prsN leaf body).1) (Prod.ext rfl hq)
  rw[h]at h1
  simp only[xE,Prod.mk.injEq]at h1
  obtain⟨rfl,rfl,rfl⟩:=h1
  rw[h2]at h4
  exact absurd ⟨h3,h4⟩ hb
theorem tkS_ok{xs:List UInt8}{k:Nat}(h:k<=xs.length):tkS (xs,false) k=(xs.drop k,false):=by
 unfold tkS tkOK
 rw[if_pos (by simp[h])]
theorem tkV_ok{xs:List UInt8}{k:Nat}(h:k<=xs.length):tkV (xs,false) k=xs.take k:=by
 unfold tkV tkOK
 rw[if_pos (by simp[h])]
theorem tkS_no{xs:List UInt8}{k:Nat}(h:xs.length<k):tkS (xs,false) k=(xs,true):=by
 unfold tkS tkOK
 rw[if_neg (by simp;omega)]
theorem tkS_fail{xs:List UInt8}{k:Nat}:tkS (xs,true) k=(xs,true):=by
 unfold tkS tkOK
 rw[if_neg (by simp)]
theorem vR(q:RdS)(k:Nat):(tkS q k).1.length<=q.1.length:=by
 unfold tkS
 split
 ·rw[xI];omega
 ·exact xC _
theorem vV(q:RdS):0<=yJ q/\yJ q<=255:=by
 unfold yJ
 have:=((tkV q 1).getD 0 0).toNat_lt
 omega
theorem pairV_bd(q:RdS):0<=pairV q/\pairV q<=65535:=by
 unfold pairV
 have:=((tkV q 2).getD 0 0).toNat_lt
 have:=((tkV q 2).getD 1 0).toNat_lt
 omega
theorem oneV_at{body:List UInt8}{p:Nat}(h:p<body.length):yJ (body.drop p,false)=((body.getD p 0).toNat:Int):=by
 unfold yJ
 rw[tkV_ok (by rw[xI];omega)]
 congr 2
 rw[xF,List.getElem?_take,if_pos Nat.zero_lt_one,wP,Nat.add_zero,xF]
theorem pairV_at{body:List UInt8}{p:Nat}(h:p+2<=body.length):pairV (body.drop p,false)=((body.getD p 0).toNat:Int)*256+((body.getD (p+1) 0).toNat:Int):=by
 unfold pairV
 rw[tkV_ok (by rw[xI];omega)]
 rw[xF,List.getElem?_take,if_pos (by omega),wP,Nat.add_zero,xF,List.getElem?_take,if_pos (by omega),wP,<-xF,<-xF]
def rq2(q:RdS):RdS:=tkS (tkS q 1) (yJ q).toNat
def rky(q:RdS):List UInt8:=tkV (tkS q 1) (yJ q).toNat
def rqE(leaf:Bool)(q:RdS):RdS:=if leaf=true then tkS (rq2 q) 2 else rq2 q
theorem rd_step{leaf:Bool}{body:List UInt8}{i p:Nat}{ks:List (List UInt8)}{vs:List Int}(h:prs leaf body i=some (p,ks,vs)):
  ((rqE leaf (body.drop p,false)).2=false/\∃p',(rqE leaf (body.drop p,false)).1=body.drop p'/\prs leaf body (i+1)=some (p',ks++[rky (body.drop p,false)],if leaf=true then vs++[pairV (rq2 (body.drop p,false))]else vs))\/
  ((rqE leaf (body.drop p,false)).2=true/\prs leaf body (i+1)=none):=by
 have hst:prs leaf body (i+1)=if body.length<=p\/body.length<p+1+(body.getD p 0).toNat+(if leaf=true then 2 else 0)then none
   else some (p+1+(body.getD p 0).toNat+(if leaf=true then 2 else 0),ks++[(body.drop (p+1)).take (body.getD p 0).toNat],
    if leaf=true then vs++[((body.getD (p+1+(body.getD p 0).toNat) 0).toNat:Int)*256+((body.getD (p+2+(body.getD p 0).toNat) 0).toNat:Int)]else vs):=by
  conv=>lhs;unfold prs
  rw[h]
 by_cases h1:body.length<=p
 ·refine .inr ⟨?_,by rw[hst,if_pos (.inl h1)]⟩
  have e:rq2 (body.drop p,false)=(body.drop p,true):=by
   unfold rq2
   rw[tkS_no (by rw[xI];omega),tkS_fail]
  unfold rqE
  rw[e,tkS_fail];split <;>rfl
 ·have e1:=oneV_at (body:=body) (p:=p) (by omega)
  have e2:tkS (body.drop p,false) 1=(body.drop (p+1),false):=by rw[tkS_ok (by rw[xI];omega),List.drop_drop]
  obtain⟨L,hL⟩:∃L,L=(body.getD p 0).toNat:=⟨_,rfl⟩
  have e3:(yJ (body.drop p,false)).toNat=L:=by rw[e1,hL];rfl
  rw[<-hL]at hst
  by_cases h2:body.length<p+1+L
  ·refine .inr ⟨?_,by rw[hst,if_pos (.inr (by omega))]⟩
   have e:rq2 (body.drop p,false)=(body.drop (p+1),true):=by
    unfold rq2
    rw[e2,e3,tkS_no (by rw[xI];omega)]
   unfold rqE
   rw[e,tkS_fail];split <;>rfl
  ·have e:rq2 (body.drop p,false)=(body.drop (p+1+L),false):=by
    unfold rq2
    rw[e2,e3,tkS_ok (by rw[xI];omega),List.drop_drop]
   have ek:rky (body.drop p,false)=(body.drop (p+1)).take L:=by
    unfold rky
    rw[e2,e3,tkV_ok (by rw[xI];omega)]
   cases leaf with
   |false=>
    simp only[Bool.false_eq_true,↓reduceIte,Nat.add_zero]at hst
    rw[if_neg (by omega)]at hst
    refine .inl ⟨?_,p+1+L,?_,?_⟩
    ·unfold rqE;rw[e];rfl
    ·unfold rqE;rw[e];rfl
    ·rw[hst,ek];rfl
   |true=>
    simp only[↓reduceIte]at hst
    by_cases h3:body.length<p+1+L+2
    ·refine .inr ⟨?_,by rw[hst,if_pos (.inr h3)]⟩
     unfold rqE
     rw[e,tkS_no (by rw[xI];omega)];rfl
    ·rw[if_neg (by omega)]at hst
     refine .inl ⟨?_,p+1+L+2,?_,?_⟩
     ·unfold rqE;rw[e,tkS_ok (by rw[xI];omega)];rfl
     ·unfold rqE;rw[e,tkS_ok (by rw[xI];omega),List.drop_drop];rfl
     ·rw[hst,ek,e,pairV_at (by omega),show p+1+L+1=p+2+L by omega];rfl
theorem Tr.le{P:Program}{N0:Nat}{c:Code}{Q:yY}{s:List Value}{H H':AH}{Bd:Nat}(hle:Le H' H)(h:Tr P N0 c Q s H' Bd):Tr P N0 c Q s H Bd:=
 Tr.pub (fun _=>False) (PubL_refl s) hle (fun _ _ _ h=>h) (xC _) h
theorem rd_init(leaf:Bool)(body:List UInt8):((tkS (body,false) 1).2=false/\1<=body.length/\∃p,(tkS (body,false) 1).1=body.drop p/\prs leaf body 0=some (p,[],[]))\/((tkS (body,false) 1).2=true/\(prsN leaf body).2=false):=by
 by_cases h:body.length<1
 ·refine .inr ⟨by rw[tkS_no h],?_⟩
  unfold prsN
  rw[if_pos (.inl h)]
 ·exact .inl ⟨by rw[tkS_ok (by omega)],by omega,1,by rw[tkS_ok (by omega)],rfl⟩
end Go.SC
