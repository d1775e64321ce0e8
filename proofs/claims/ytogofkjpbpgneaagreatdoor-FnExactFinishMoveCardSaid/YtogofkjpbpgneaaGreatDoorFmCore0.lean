/- The abstract memory: values over names of blocks, the relation to the machine's memory, and what keeps it. -/
import Derived.Calls
import Derived.Orders
import Derived.Laws.World
import Derived.Laws.Sem
import Derived.Laws.Slices
import Derived.IntWalk
import GoSem.Dispatch
import Derived.Laws.StructEq
import Derived.Laws.Pointers
import Derived.WalkSpells
import Derived.Below
import Derived.Laws.AppendOwn
import Derived.Laws.BytesArg
import Derived.WideKeyRuns
import Derived.Tactics
set_option linter.unusedSimpArgs false
set_option linter.unusedVariables false
namespace Go.SC
open Go
theorem xA {α : Type _} {l : List α} {i : Nat} (h : i < l.length) : l[i]? = some l[i] := List.getElem?_eq_getElem h
theorem xB (a b : Nat) : a <= a + b := Nat.le_add_right a b
theorem xC (a : Nat) : a <= a := Nat.le_refl a
theorem xD {α : Type _} {a b : List α} : (a ++ b).length = a.length + b.length := List.length_append
theorem xE {α : Type _} (a b : α) : (some a = some b) = (a = b) := Option.some.injEq a b
theorem xF {α : Type _} {l : List α} {i : Nat} {a : α} : l.getD i a = l[i]?.getD a := List.getD_eq_getElem?_getD
theorem xG {α : Type _} (a : α) (b : List α) (c : α) (d : List α) : (a :: b = c :: d) = (a = c /\ b = d) := List.cons.injEq a b c d
theorem xH {α : Type _} {l : List α} {n : Nat} (h : n < l.length) : l[n] ∈ l := List.getElem_mem h
theorem xI {α : Type _} {i : Nat} {l : List α} : (l.drop i).length = l.length - i := List.length_drop
theorem xJ {α : Type _} {a : α} {l : List α} : (a :: l).length = l.length + 1 := List.length_cons
theorem xK (a : IntKind) (b : Int) (c : IntKind) (d : Int) : (Value.int a b = Value.int c d) = (a = c /\ b = d) := Value.int.injEq a b c d
theorem xL {α : Type _} (a b c : List α) : a ++ b ++ c = a ++ (b ++ c) := List.append_assoc a b c
theorem xM (a b : Nat) : a < b \/ a ≥ b := Nat.lt_or_ge a b
theorem xO {α : Type _} {l : List α} {i : Nat} (h : l.length <= i) : l.take i = l := List.take_of_length_le h
theorem xP {α : Type _} {i : Nat} {l : List α} (h : i < l.length) : l.take (i + 1) = l.take i ++ [l[i]] := List.take_succ_eq_append_getElem h
theorem xQ {α : Type _} {i : Nat} {l : List α} : (l.take i).length = min i l.length := List.length_take
theorem xR {α : Type _} {l : List α} {i : Nat} {a : α} : l[i]? = some a ↔ ∃ h : i < l.length, l[i] = a := List.getElem?_eq_some_iff
theorem xS {α : Type _} {l : Array α} {i : Nat} {a : α} : l[i]? = some a ↔ ∃ h : i < l.size, l[i] = a := Array.getElem?_eq_some_iff
theorem xT (a : Nat) : 0 <= a := Nat.zero_le a
theorem xU {α : Type _} {a : α} {p : Prop} {x : Decidable p} {b : Option α} : (if p then b else none) = some a ↔ p /\ b = some a := Option.ite_none_right_eq_some
theorem xV {α β : Type} (a : α) (w : World) (f : α -> World -> Result β) : Result.andThen (Result.ok a w) f = f a w := Result.andThen_ok a w f
theorem xW {α β : Type} (P : Program) (w : World) (x : Sem α) (f : α -> Sem β) : Sem.run P (x >>= f) w = Result.andThen (Sem.run P x w) fun a w1 => Sem.run P (f a) w1 := Sem.run_bind P w x f
theorem xX {α : Type} (P : Program) (w : World) (a : α) : Sem.run P (pure a) w = Result.ok a w := Sem.run_pure P w a
theorem xY (a : Option Addr) (b c : Nat) (d : Option Addr) (e f : Nat) : (Value.slice a b c = Value.slice d e f) = (a = d /\ b = e /\ c = f) := Value.slice.injEq a b c d e f
theorem xZ {α : Type _} : ([] : List α).length = 0 := List.length_nil
theorem wA {α : Type _} {xs : Array α} {i : Nat} (h : i < xs.size) : xs[i]? = some xs[i] := Array.getElem?_eq_getElem h
theorem wB {α : Type _} {a b : List α} {i : Nat} (h : a.length <= i) : (a ++ b)[i]? = b[i - a.length]? := List.getElem?_append_right h
theorem wC {α : Type _} {l : List α} {i : Nat} {a : α} (h : l[i]? = some a) : a ∈ l := List.mem_of_getElem? h
theorem wD {α : Type _} {a : α} {l : List α} : (a :: l)[0]? = some a := List.getElem?_cons_zero
theorem wF {α : Type _} {a b : List α} {i : Nat} (h : i < a.length) : (a ++ b)[i]? = a[i]? := List.getElem?_append_left h
theorem wG {α : Type _} {b : α} {l : List α} {a : α} : a ∈ b :: l ↔ a = b \/ a ∈ l := List.mem_cons
theorem wH {α : Type _} {l : List α} : l.take l.length = l := List.take_length
theorem wI {α : Type _} {i : Nat} {l : List α} (h : i < l.length) : l.drop i = l[i] :: l.drop (i + 1) := List.drop_eq_getElem_cons h
theorem wJ {α : Type _} {l : List α} {i : Nat} : l.toArray[i]? = l[i]? := List.getElem?_toArray
theorem wK {α : Type _} {β : Type _} (a : α) (f : α -> β) : (some a).map f = some (f a) := Option.map_some a f
theorem wL {α : Type _} (l : List α) : l ++ [] = l := List.append_nil l
theorem wM {α : Type _} {a : α} {i : Nat} {l : List α} : (a :: l)[i + 1]? = l[i]? := List.getElem?_cons_succ
theorem wN {α : Type _} {β : Type _} {f : α -> β} {l : List α} {i : Nat} : (l.map f)[i]? = l[i]?.map f := List.getElem?_map
theorem wO {α : Type _} {a : α} {l : List α} (h : a ∈ l) : ∃ (i : Nat) (h : i < l.length), l[i] = a := List.getElem_of_mem h
theorem wP {α : Type _} {l : List α} {i j : Nat} : (l.drop i)[j]? = l[i + j]? := List.getElem?_drop
theorem wQ {α : Type _} {l : List α} {i : Nat} (h : l.length <= i) : l[i]? = none := List.getElem?_eq_none h
theorem wR {α : Type _} {a b : α} : a ∈ [b] ↔ a = b := List.mem_singleton
theorem wS {α : Type _} {l : List α} {i j : Nat} (h : i ≠ j) {a : α} : (l.set i a)[j]? = l[j]? := List.getElem?_set_ne h
theorem wE {n m k : Nat} (h : n <= m) (h2 : m <= k) : n <= k := Nat.le_trans h h2
abbrev unk:Value:= .chan none
inductive Loc where
 |void
 |at (B base:Nat)
structure Ren where
 m:Nat->Option Loc
 fz:Nat->Prop
 mp:Nat->Option (Array Value)
instance :CoeFun Ren (fun _=>Nat->Option Loc):=⟨Ren.m⟩
structure Blk where
 cells:List Value
 own:Bool
abbrev AH:=Nat->Option Blk
def upd(H:AH)(n:Nat)(b:Option Blk):AH:=fun m=>if m=n then b else H m
@[simp] theorem qJ(H:AH)(n:Nat)(b:Option Blk):upd H n b n=b:=by simp[upd]
theorem qD(H:AH){n m:Nat}(b:Option Blk)(h:m≠n):upd H n b m=H m:=by simp[upd,h]
def Row(w:World)(B size:Nat):Prop:=∃cs e fr,w.heap[B]? =some (.cells cs e fr)/\cs.size=size
def memoOK(rows:Array Value)(k v:Value):Prop:=∃(i j:Nat) (b:Bool),k= .agg #[.int .i64 i, .int .i64 j]/\v= .bool b/\j<32/\rows[i*32+j]? =some (.bool b)
def MapOK(w:World)(B:Nat)(rows:Array Value):Prop:=∃es clock,w.heap[B]? =some (.map es clock)/\∀e∈es,memoOK rows e.key e.val
inductive VR (ι:Ren) (w:World):Value->Value->Prop
 |unk (v:Value):VR ι w unk v
 |bool (b:Bool):VR ι w (.bool b) (.bool b)
 |int (k:IntKind) (n:Int):VR ι w (.int k n) (.int k n)
 |string (s:ByteArray):VR ι w (.string s) (.string s)
 |nilp:VR ι w (.pointer none) (.pointer none)
 |ptr {n off B base:Nat} (h:ι n=some (.at B base)):VR ι w (.pointer (some ⟨n,off,none⟩)) (.pointer (some ⟨B,base+off,none⟩))
 |nils:VR ι w (.slice none 0 0) (.slice none 0 0)
 |sl {n off k len c c':Nat} {A:Option Addr} (hn:∃l,ι n=some l) (hl:len<=c') (h0:c=0->c'=0) (h1:c-1<=c')
   (hA:c'=0\/∃B base size,ι n=some (.at B base)/\A=some ⟨B,base+off,none⟩/\Row w B size/\base+off+c'*k<=size):
   VR ι w (.slice (some ⟨n,off,some k⟩) len c) (.slice A len c')
 |agg {xs ys:Array Value} (hs:xs.size=ys.size) (h:∀(i:Nat) v v',xs[i]? =some v->ys[i]? =some v'->VR ι w v v'):VR ι w (.agg xs) (.agg ys)
 |tuple {xs ys:Array Value} (hs:xs.size=ys.size) (h:∀(i:Nat) v v',xs[i]? =some v->ys[i]? =some v'->VR ι w v v'):VR ι w (.tuple xs) (.tuple ys)
 |func {f:FuncId} {xs ys:Array Value} (hs:xs.size=ys.size) (h:∀(i:Nat) v v',xs[i]? =some v->ys[i]? =some v'->VR ι w v v'):
   VR ι w (.func (.func f) #[] xs) (.func (.func f) #[] ys)
 |nilf:VR ι w .nilFunc .nilFunc
 |nili:VR ι w .nilIface .nilIface
 |iface {t:TypeId} {v v':Value} (h:VR ι w v v'):VR ι w (.iface t v) (.iface t v')
 |lst0 {k:Nat} {A:Option Addr} {c':Nat}:VR ι w (.func (.yield k) #[] #[]) (.slice A 0 c')
 |lst {k:Nat} {rows:Array Value} {B base c':Nat} {cs:Array Value} {e:TypeId} {fr:Nat×Nat} (hfz:ι.fz B) (hB:w.heap[B]? =some (.cells cs e fr))
   (hl:rows.size<=c') (hsz:base+c'*k<=cs.size) (hr:∀(i:Nat) x,rows[i]? =some x->∃r:Array Value,x= .agg r/\r.size=k)
   (hc:∀(i j:Nat) (r:Array Value) v v',rows[i]? =some (.agg r)->r[j]? =some v->cs[base+i*k+j]? =some v'->VR ι w v v'):
   VR ι w (.func (.yield k) #[] rows) (.slice (some ⟨B,base,none⟩) rows.size c')
 |vp {cells:Array Value} {B base:Nat} {cs:Array Value} {e:TypeId} {fr:Nat×Nat} (hfz:ι.fz B) (hB:w.heap[B]? =some (.cells cs e fr)) (hsz:base+cells.size<=cs.size)
   (hc:∀(j:Nat) v v',cells[j]? =some v->cs[base+j]? =some v'->VR ι w v v'):VR ι w (.func (.method "") #[] cells) (.pointer (some ⟨B,base,none⟩))
 |mp {B:Nat} {rows:Array Value} (h:ι.mp B=some rows):VR ι w (.func (.methodOf 0 "") #[] rows) (.map (some B))
def FzLe(ι ι':Ren):Prop:=(∀B,ι.fz B->ι'.fz B)/\∀B p,ι.mp B=some p->ι'.mp B=some p
theorem FzLe.refl(ι:Ren):FzLe ι ι:=⟨fun _ h=>h,fun _ _ h=>h⟩
theorem FzLe.trans{a b c:Ren}(h:FzLe a b)(k:FzLe b c):FzLe a c:=⟨fun B q=>k.1 B (h.1 B q),fun B p q=>k.2 B p (h.2 B p q)⟩
structure Ext (ι ι':Ren):Prop where
 m:∀n l,ι n=some l->ι' n=some l
 fz:FzLe ι ι'
theorem Ext.refl(ι:Ren):Ext ι ι:=⟨fun _ _ h=>h,FzLe.refl ι⟩
theorem Ext.trans{a b c:Ren}(h:Ext a b)(k:Ext b c):Ext a c:=⟨fun n l e=>k.m n l (h.m n l e),h.fz.trans k.fz⟩
def Rows'(w w':World):Prop:=∀(B:Nat) cs e fr,w.heap[B]? =some (.cells cs e fr)->∃cs' fr',w'.heap[B]? =some (.cells cs' e fr')/\cs'.size=cs.size
theorem Rows'.refl(w:World):Rows' w w:=fun _ cs _ fr h=>⟨cs,fr,h,rfl⟩
theorem Rows'.trans{a b c:World}(h:Rows' a b)(k:Rows' b c):Rows' a c:=fun B cs e fr hB=>by
 obtain⟨cs1,fr1,h1,s1⟩:=h B cs e fr hB
 obtain⟨cs2,fr2,h2,s2⟩:=k B cs1 e fr1 h1
 exact⟨cs2,fr2,h2,s2.trans s1⟩
theorem Row.mono{w w':World}{B size:Nat}(h:Row w B size)(k:Rows' w w'):Row w' B size:=by
 obtain⟨cs,e,fr,hB,rfl⟩:=h
 obtain⟨cs',fr',h',hs⟩:=k B cs e fr hB
 exact⟨cs',e,fr',h',hs⟩
structure Fro (ι:Ren) (w w':World):Prop where
 rows:Rows' w w'
 fz:∀(B:Nat) cs e fr,ι.fz B->w.heap[B]? =some (.cells cs e fr)->w'.heap[B]? =some (.cells cs e fr)
theorem Fro.refl(ι:Ren)(w:World):Fro ι w w:=⟨Rows'.refl w,fun _ _ _ _ _ h=>h⟩
theorem VR.mono{ι ι':Ren}{w w':World}(hι:Ext ι ι')(hw:Fro ι w w'){v v':Value}(h:VR ι w v v'):VR ι' w' v v':=by
 induction h with
 |unk v=>exact .unk v
 |bool b=>exact .bool b
 |int k n=>exact .int k n
 |string s=>exact .string s
 |nilp=>exact .nilp
 |ptr h=>exact .ptr (hι.m _ _ h)
 |nils=>exact .nils
 |sl hn hl h0 h1 hA=>
  refine .sl (hn.imp fun l h=>hι.m _ _ h) hl h0 h1 (hA.imp id ?_)
  rintro⟨B,base,size,h2,h3,h4,h5⟩
  exact⟨B,base,size,hι.m _ _ h2,h3,h4.mono hw.rows,h5⟩
 |agg hs _ ih=>exact .agg hs fun i v v' h1 h2=>ih i v v' h1 h2
 |tuple hs _ ih=>exact .tuple hs fun i v v' h1 h2=>ih i v v' h1 h2
 |func hs _ ih=>exact .func hs fun i v v' h1 h2=>ih i v v' h1 h2
 |nilf=>exact .nilf
 |nili=>exact .nili
 |iface _ ih=>exact .iface ih
 |lst0=>exact .lst0
 |lst hfz hB hl hsz hr _ ih=>exact .lst (hι.fz.1 _ hfz) (hw.fz _ _ _ _ hfz hB) hl hsz hr fun i j r v v' h1 h2 h3=>ih i j r v v' h1 h2 h3
 |vp hfz hB hsz _ ih=>exact .vp (hι.fz.1 _ hfz) (hw.fz _ _ _ _ hfz hB) hsz fun j v v' h1 h2=>ih j v v' h1 h2
 |mp h=>exact .mp (hι.fz.2 _ _ h)
def Unfr(fr:Nat×Nat)(size:Nat):Prop:=∀i,i<size->¬(fr.1<=i/\i<fr.2)
def BR(A:Nat->Prop)(ι:Ren)(w:World)(n:Nat)(b:Blk):Prop:=
 (ι n=some .void/\b.cells=[])\/
 ∃B base cs e fr,ι n=some (.at B base)/\w.heap[B]? =some (.cells cs e fr)/\(b.own=true->A B/\Unfr fr cs.size)/\(b.own=false->¬A B)/\
  ∀i v,b.cells[i]? =some v->∃v',cs[base+i]? =some v'/\VR ι w v v'
structure Rel (A:Nat->Prop) (ι:Ren) (H:AH) (Bd:Nat) (w:World):Prop where
 bound:∀n,Bd<=n->ι n=none
 blk:∀n b,H n=some b->BR A ι w n b
 apart:∀n m b b' B base B' base',n≠m->H n=some b->H m=some b'->b.own=true->
  ι n=some (.at B base)->ι m=some (.at B' base')->B≠B'
 newA:∀B,w.heap.size<=B->A B
 froz:∀n b B base,H n=some b->b.own=true->ι n=some (.at B base)->¬ι.fz B
 fzlt:∀B,ι.fz B->B<w.heap.size
 glob:∀n b,H n=some b->b.own=false->ι n=some (.at n 0)/\Row w n b.cells.length
 mp:∀B p,ι.mp B=some p->A B/\MapOK w B p
structure Keep (A:Nat->Prop) (ι:Ren) (w:World) (ι':Ren) (w':World):Prop where
 os:w'.os=w.os
 tape:w'.tape=w.tape
 output:w'.output=w.output
 size:w.heap.size<=w'.heap.size
 block:∀B:Nat,B<w.heap.size->¬A B->w'.heap[B]? =w.heap[B]?
 rows:Fro ι w w'
 fz:FzLe ι ι'
 fzA:∀B,ι'.fz B->ι.fz B\/A B
theorem Fro.trans{ι ι':Ren}{a b c:World}(h:Fro ι a b)(hf:FzLe ι ι')(k:Fro ι' b c):Fro ι a c:=
 ⟨h.rows.trans k.rows,fun B cs e fr h1 h2=>k.fz B cs e fr (hf.1 B h1) (h.fz B cs e fr h1 h2)⟩
theorem Keep.refl(A:Nat->Prop){ι ι':Ren}(w:World)(hf:FzLe ι ι':=by exact FzLe.refl _)(hg:∀B,ι'.fz B->ι.fz B\/A B:=by exact fun _ h=> .inl h):Keep A ι w ι' w:=⟨rfl,rfl,rfl,xC _,fun _ _ _=>rfl,Fro.refl ι w,hf,hg⟩
theorem Keep.trans{A:Nat->Prop}{ι ι1 ι2:Ren}{a b c:World}(h:Keep A ι a ι1 b)(k:Keep A ι1 b ι2 c):Keep A ι a ι2 c:=
 ⟨k.os.trans h.os,k.tape.trans h.tape,k.output.trans h.output,wE h.size k.size,
  fun B hB hA=>(k.block B (Nat.lt_of_lt_of_le hB h.size) hA).trans (h.block B hB hA),h.rows.trans h.fz k.rows,h.fz.trans k.fz,fun B hB=>(k.fzA B hB).elim (fun q=>h.fzA B q) .inr⟩
theorem Fro.drew(ι:Ren)(w:World):Fro ι w w.drew:=⟨Rows'.refl w,fun _ _ _ _ _ h=>h⟩
theorem Keep.drew(A:Nat->Prop){ι:Ren}(w:World):Keep A ι w ι w.drew:=⟨rfl,rfl,rfl,xC _,fun _ _ _=>rfl,Fro.drew ι w,FzLe.refl ι,fun _ h=> .inl h⟩
theorem BR.mono{A:Nat->Prop}{ι ι':Ren}{w w':World}{n:Nat}{b:Blk}(hι:Ext ι ι')(hw:Fro ι w w')
  (hB:∀B base,ι n=some (.at B base)->w'.heap[B]? =w.heap[B]?) (h:BR A ι w n b):BR A ι' w' n b:=by
 rcases h with⟨h,hc⟩|⟨B,base,cs,e,fr,h1,h2,h3,h4,h5⟩
 ·exact .inl ⟨hι.m _ _ h,hc⟩
 ·refine .inr ⟨B,base,cs,e,fr,hι.m _ _ h1,(hB B base h1).trans h2,h3,h4,fun i v hv=> ?_⟩
  obtain⟨v',hv',hr⟩:=h5 i v hv
  exact⟨v',hv',hr.mono hι hw⟩
theorem Rel.drew{A:Nat->Prop}{ι:Ren}{H:AH}{Bd:Nat}{w:World}(h:Rel A ι H Bd w):Rel A ι H Bd w.drew:=
 ⟨h.bound,fun n b hn=>(h.blk n b hn).mono (Ext.refl ι) (Fro.drew ι w) (fun _ _ _=>rfl),h.apart,h.newA,h.froz,h.fzlt,h.glob,h.mp⟩
def SR(ι:Ren)(w:World)(s:List Value)(t:Array Value):Prop:=
 s.length=t.size/\∀(i:Nat) v v',s[i]? =some v->t[i]? =some v'->VR ι w v v'
theorem SR.mono{ι ι':Ren}{w w':World}(hι:Ext ι ι')(hw:Fro ι w w'){s:List Value}{t:Array Value}(h:SR ι w s t):SR ι' w' s t:=
 ⟨h.1,fun i v v' h1 h2=>(h.2 i v v' h1 h2).mono hι hw⟩
theorem SR.get{ι:Ren}{w:World}{s:List Value}{t:Array Value}(h:SR ι w s t)(i:Nat):VR ι w (s.getD i undef) (t.getD i undef):=by
 by_cases hi:i<s.length
 ·have hi':i<t.size:=h.1▸hi
  have:=h.2 i s[i] t[i] (by simp[hi]) (by simp[hi'])
  simpa[xF,hi,Array.getD,hi']using this
 ·have hi':¬i<t.size:=h.1▸hi
  have e1:s.getD i undef=undef:=by simp[xF,wQ (Nat.le_of_not_lt hi)]
  have e2:t.getD i undef=undef:=by simp[Array.getD,hi']
  rw[e1,e2]
  exact .tuple rfl fun i v v' h1 _=>by simp at h1
theorem SR.set{ι:Ren}{w:World}{s:List Value}{t:Array Value}(h:SR ι w s t)(d:Nat){v v':Value}(hv:VR ι w v v'):SR ι w (s.set d v) (t.setIfInBounds d v'):=by
 refine⟨by simp[h.1],fun i x x' h1 h2=> ?_⟩
 by_cases e:d=i
 ·subst e
  have hd:d<s.length:=by
   have:=xR.1 h1
   simpa using this.1
  rw[List.getElem?_set_self hd]at h1
  rw[Array.getElem?_setIfInBounds_self_of_lt (h.1▸hd)]at h2
  cases h1;cases h2
  exact hv
 ·rw[wS e]at h1
  rw[Array.getElem?_setIfInBounds_ne e]at h2
  exact h.2 i x x' h1 h2
structure St (A:Nat->Prop) (ι:Ren) (s:List Value) (H:AH) (Bd:Nat) (a:Act) (w:World):Prop where
 rel:Rel A ι H Bd w
 slots:SR ι w s a.tmps
 defers:a.defers=[]
def yI:Value->Bool
 | .bool _| .int .. | .string _| .pointer none| .slice none 0 0| .nilFunc| .nilIface=>true
 |_=>false
def sget:List Value->Nat->Value
 |[],_=>undef
 |x::_,0=>x
 |_::xs,n+1=>sget xs n
theorem zE:∀(s:List Value) (n:Nat),sget s n=s.getD n undef
 |[],_=>rfl
 |_::_,0=>rfl
 |_::xs,n+1=>by rw[sget,zE xs n];simp
def sset:List Value->Nat->Value->List Value
 |[],_,_=>[]
 |_::xs,0,v=>v::xs
 |x::xs,n+1,v=>x::sset xs n v
theorem sset_eq:∀(s:List Value) (n:Nat) (v:Value),sset s n v=s.set n v
 |[],_,_=>rfl
 |_::_,0,_=>rfl
 |_::xs,n+1,v=>by rw[sset,sset_eq xs n v];rfl
def ev(s:List Value):Operand->Value
 | .tmp t=>sget s t
 | .const v=>if yI v=true then v else unk
 | .global _=>unk
 | .func f=> .func (.func f) #[] #[]
theorem VR.plain{ι:Ren}{w:World}{v:Value}(h:yI v=true):VR ι w v v:=by
 cases v <;>first|(simp[yI]at h;done)|constructor|skip
 ·rename_i a;cases a <;>first|exact .nilp|simp[yI]at h
 ·rename_i a n c
  cases a with
  |none=>cases n <;>cases c <;>first|exact .nils|simp[yI]at h
  |some a=>simp[yI]at h
theorem SR.ev{ι:Ren}{w:World}{s:List Value}{a:Act}(h:SR ι w s a.tmps)(x:Operand):VR ι w (ev s x) (a.eval x):=by
 cases x with
 |tmp t=>
  have:=h.get t
  rw[<-zE]at this
  simpa[SC.ev,Act.eval,Array.getD_eq_getD_getElem?]using this
 |const v=>
  simp only[SC.ev,Act.eval]
  by_cases hv:yI v=true
  ·rw[if_pos hv];exact VR.plain hv
  ·rw[if_neg hv];exact .unk v
 |global g=>exact .unk _
 |func f=>exact .func rfl fun i v v' h1 _=>by simp at h1
def ask{α:Type}(P:Program)(s:Sem α):Option α:=
 match s.run P default with
 | .ok a _=>some a
 | .halt .. =>none
theorem typeInfo_run(P:Program)(t:TypeId)(w:World):(typeInfo t).run P w=match P.info? t with|some i=> .ok i w|none=> .halt (.stuck "no such type") w:=by
 unfold typeInfo
 simp only[xW,run_program,xV]
 cases P.info? t <;>simp
theorem underlying_run(P:Program)(t:TypeId)(w:World):(underlying t).run P w=match P.underlying t with|some i=> .ok i w|none=> .halt (.stuck "no such type") w:=by
 unfold underlying
 simp only[xW,run_program,xV]
 cases P.underlying t <;>simp
theorem ask_underlying{P:Program}{t:TypeId}{d:TypeDesc}(h:ask P (underlying t)=some d):P.underlying t=some d:=by
 simp only[ask,underlying_run]at h
 cases hd:P.underlying t <;>simp_all
theorem jI{P:Program}{t:TypeId}{d:TypeDesc}(h:ask P (underlying t)=some d)(w:World):(underlying t).run P w= .ok d w:=by
 rw[underlying_run,ask_underlying h]
theorem jM{P:Program}{t n:Nat}(h:ask P (sizeOf t)=some n)(w:World):(sizeOf t).run P w= .ok n w:=by
 simp only[ask,sizeOf,xW,typeInfo_run]at h ⊢
 cases hd:P.info? t <;>simp_all
theorem ask_isAgg{P:Program}{t:Nat}{b:Bool}(h:ask P (isAgg t)=some b)(w:World):(isAgg t).run P w= .ok b w:=by
 simp only[ask,isAgg,xW,underlying_run]at h ⊢
 cases hd:P.underlying t with
 |none=>simp_all
 |some d=>cases d <;>simp_all
theorem ask_zero{P:Program}{t:Nat}{z:Value}(h:ask P (zeroValue t)=some z)(w:World):(zeroValue t).run P w= .ok z w:=by
 simp only[ask,zeroValue,xW,typeInfo_run]at h ⊢
 cases hd:P.info? t with
 |none=>simp_all
 |some i=>cases hz:i.zero <;>simp_all
def Yld{α:Type}(o:Option α)(K:α->Prop):Prop:=∃v,o=some v/\K v
@[simp] theorem Yld_none{α:Type}(K:α->Prop):Yld none K↔False:=by simp[Yld]
def R64(x:Int):Prop:= -9223372036854775808<=x/\x<=9223372036854775807
instance (x:Int):Decidable (R64 x):=inferInstanceAs (Decidable (_/\_))
def R32(x:Int):Prop:= -2147483648<=x/\x<=2147483647
instance (x:Int):Decidable (R32 x):=inferInstanceAs (Decidable (_/\_))
def chk:IntKind->Int->Option Value
 | .i64,x=>if R64 x then some (.int .i64 x)else none
 | .i32,x=>if R32 x then some (.int .i32 x)else none
 |k,x=>some (.int k (k.wrap x))
theorem chk_sound{k:IntKind}{x:Int}{v:Value}(h:chk k x=some v):v= .int k (k.wrap x):=by
 unfold chk at h
 split at h
 ·split at h
  ·rename_i hr
   cases h
   rw[IntWalk.i64_in x hr]
  ·cases h
 ·split at h
  ·rename_i hr
   cases h
   rw[IntWalk.i32_in x hr]
  ·cases h
 ·cases h;rfl
def abits(op:BinOp)(k:IntKind)(x y:Int):Option Value:=
 let a:=BitVec.ofInt k.bits x
 let b:=BitVec.ofInt k.bits y
 match op with
 | .and=>some (.int k (k.wrap (a &&& b).toNat))
 | .or=>some (.int k (k.wrap (a ||| b).toNat))
 | .xor=>some (.int k (k.wrap (a ^^^ b).toNat))
 | .andNot=>some (.int k (k.wrap (a &&& ~~~b).toNat))
 |_=>none
def aint(op:BinOp)(k:IntKind)(a b:Int):Option Value:=
 match op with
 | .add=>chk k (a+b)
 | .sub=>chk k (a-b)
 | .mul=>chk k (a*b)
 | .quo=>if b≠0 then chk k (a.tdiv b)else none
 | .rem=>if b≠0 then some (.int k (a.tmod b))else none
 | .eql=>some (.bool (a==b))
 | .neq=>some (.bool (a != b))
 | .lss=>some (.bool (a<b))
 | .leq=>some (.bool (a<=b))
 | .gtr=>some (.bool (a>b))
 | .geq=>some (.bool (a≥b))
 | .shl| .shr=>none
 |op=>abits op k a b
def astr(op:BinOp)(x y:ByteArray):Option Value:=
 match op with
 | .add=>if x.size+y.size<=9223372036854775807 then some (.string (x++y))else none
 | .eql=>some (.bool (x.toList==y.toList))
 | .neq=>some (.bool (!(x.toList==y.toList)))
 | .lss=>some (.bool (Op.bytesLess x.toList y.toList))
 |_=>none
def ashift(op:BinOp)(k:IntKind)(a b:Int):Option Value:=
 match op with
 | .shl=>if 0<=b then chk k (a*2^(min b.toNat k.bits))else none
 | .shr=>if 0<=b then some (.int k (a.fdiv (2^(min b.toNat k.bits))))else none
 |_=>none
def anil:Value->Value->Option Bool
 | .slice none 0 0, .slice none 0 0=>some true
 | .slice none 0 0, .slice (some _) len _=>if 0<len then some false else none
 | .slice (some _) len _, .slice none 0 0=>if 0<len then some false else none
 | .pointer none, .pointer none=>some true
 | .pointer (some _), .pointer none=>some false
 | .slice none 0 0, .func (.yield _) _ rows=>if 0<rows.size then some false else none
 | .func (.yield _) _ rows, .slice none 0 0=>if 0<rows.size then some false else none
 | .func (.method _) _ _, .pointer none=>some false
 |_,_=>none
def undNilS(P:Program)(t:TypeId):Bool:=match P.underlying t with|some (.slice _)=>true|_=>false
def undNilP(P:Program)(t:TypeId):Bool:=match P.underlying t with|some (.pointer _)=>true|_=>false
def undBool(P:Program)(t:TypeId):Bool:=match P.underlying t with|some .bool=>true|_=>false
def undFits(P:Program)(t:TypeId):Value->Bool
 | .slice .. =>undNilS P t
 | .pointer _=>undNilP P t
 | .func (.yield _) _ _=>undNilS P t
 | .func (.method _) _ _=>undNilP P t
 |_=>false
def abin(P:Program)(op:BinOp)(xt:TypeId)(x y:Value):Option Value:=
 match x,y with
 | .int k a, .int k' b=>if op= .shl\/op= .shr then ashift op k a b else if k=k' then aint op k a b else none
 | .string a, .string b=>astr op a b
 | .bool a, .bool b=>
  match op with
  | .eql=>if undBool P xt=true then some (.bool (a==b))else none
  | .neq=>if undBool P xt=true then some (.bool (a != b))else none
  |_=>none
 |x,y=>
  match op with
  | .eql=>if undFits P xt x=true then(anil x y).map Value.bool else none
  | .neq=>if undFits P xt x=true then(anil x y).map fun b=>Value.bool (!b)else none
  |_=>none
theorem aint_sound{P:Program}{op:BinOp}{k:IntKind}{a b:Int}{v:Value}(xt:TypeId)(hs:¬(op= .shl\/op= .shr))(h:aint op k a b=some v)(w:World):
  (binOp op xt (.int k a) (.int k b)).run P w= .ok v w:=by
 cases op <;>simp only[aint]at h <;>first
  |(simp at hs;done)
  |(have:=chk_sound h;subst this;simp[binOp,Op.intArith];done)
  |(cases h;simp[binOp,Op.intCmp];done)
  |skip
 ·split at h
  ·rename_i hb;have:=chk_sound h;subst this;simp[binOp,Op.intDiv,hb]
  ·cases h
 ·split at h
  ·rename_i hb;cases h;simp[binOp,Op.intDiv,hb]
  ·cases h
 all_goals (simp only[abits]at h;cases h;simp[binOp,Op.intBits])
theorem ashift_sound{P:Program}{op:BinOp}{k k':IntKind}{a b:Int}{v:Value}(xt:TypeId)(h:ashift op k a b=some v)(w:World):
  (binOp op xt (.int k a) (.int k' b)).run P w= .ok v w:=by
 cases op <;>simp only[ashift]at h <;>first|(cases h;done)|skip
 ·split at h
  ·rename_i hb;have:=chk_sound h;subst this;simp[binOp,Op.shift];omega
  ·cases h
 ·split at h
  ·rename_i hb;cases h;simp[binOp,Op.shift];omega
  ·cases h
theorem astr_sound{P:Program}{op:BinOp}{x y:ByteArray}{v:Value}(xt:TypeId)(h:astr op x y=some v)(w:World):
  (binOp op xt (.string x) (.string y)).run P w= .ok v w:=by
 cases op <;>simp only[astr]at h <;>first|(cases h;done)|skip
 ·split at h
  ·rename_i hb
   cases h
   have:¬(((x.size+y.size:Nat):Int)>IntKind.i64.max):=by
    have e:IntKind.i64.max=9223372036854775807:=by decide
    rw[e];omega
   simp only[binOp,Op.stringOp,this,if_false,xX]
  ·cases h
 all_goals (cases h;simp[binOp,Op.stringOp])
def undInt(P:Program)(t:TypeId):Bool:=match P.underlying t with|some (.int _)=>true|_=>false
def undString(P:Program)(t:TypeId):Bool:=match P.underlying t with|some .string=>true|_=>false
theorem undInt_out{P:Program}{t:TypeId}(h:undInt P t=true):∃k,P.underlying t=some (.int k):=by
 unfold undInt at h;split at h
 ·rename_i k hk;exact⟨k,hk⟩
 ·cases h
theorem undString_out{P:Program}{t:TypeId}(h:undString P t=true):P.underlying t=some .string:=by
 unfold undString at h;split at h
 ·assumption
 ·cases h
theorem undBool_out{P:Program}{t:TypeId}(h:undBool P t=true):P.underlying t=some .bool:=by
 unfold undBool at h;split at h
 ·assumption
 ·cases h
def acell(P:Program)(t:TypeId):Value->Value->Option Bool
 | .int k a, .int k' b=>if k=k'/\undInt P t=true then some (a==b)else none
 | .string a, .string b=>if undString P t=true then some (a.toList==b.toList)else none
 | .bool a, .bool b=>if undBool P t=true then some (a==b)else none
 |_,_=>none
def aeqF(P:Program)(xs ys:Array Value):List Field->Option Bool
 |[]=>some true
 |f::fs=>
  if f.name≠ "_" then
   match xs[f.offset]?,ys[f.offset]?,ask P (isAgg f.type)with
   |some a,some b,some false=>
    match acell P f.type a b,aeqF P xs ys fs with
    |some r,some q=>some (r&&q)
    |_,_=>none
   |_,_,_=>none
  else aeqF P xs ys fs
theorem acell_sound{P:Program}{t:TypeId}{a b:Value}{r:Bool}(h:acell P t a b=some r)(d:Nat)(w:World):
  (Op.equalIn (d+1) t a b).run P w= .ok r w/\∀ι w',(∀x,VR ι w' a x->x=a)/\(∀x,VR ι w' b x->x=b):=by
 unfold acell at h
 split at h
 ·simp only[xU,xE]at h
  obtain⟨⟨rfl,hu⟩,rfl⟩:=h
  obtain⟨k',hk⟩:=undInt_out hu
  exact⟨run_equalIn_int w d t _ k' _ _ hk,fun ι w'=>⟨fun x hx=>by cases hx;rfl,fun x hx=>by cases hx;rfl⟩⟩
 ·simp only[xU,xE]at h
  obtain⟨hu,rfl⟩:=h
  exact⟨run_equalIn_string w d t _ _ (undString_out hu),fun ι w'=>⟨fun x hx=>by cases hx;rfl,fun x hx=>by cases hx;rfl⟩⟩
 ·simp only[xU,xE]at h
  obtain⟨hu,rfl⟩:=h
  exact⟨run_equalIn_bool' w d t _ _ (undBool_out hu),fun ι w'=>⟨fun x hx=>by cases hx;rfl,fun x hx=>by cases hx;rfl⟩⟩
 ·cases h
theorem part_cell{P:Program}{t:TypeId}{cs:Array Value}{off:Nat}{v:Value}(ha:ask P (isAgg t)=some false)(hv:cs[off]? =some v)(w:World):
  (part t cs off).run P w= .ok v w:=by
 unfold part
 simp only[xW,ask_isAgg ha w,xV,Bool.false_eq_true,if_false,hv,xX]
theorem aeqF_sound{P:Program}{ι:Ren}{w:World}{xs ys xs' ys':Array Value}(hx:VR ι w (.agg xs) (.agg xs'))(hy:VR ι w (.agg ys) (.agg ys'))(d:Nat):
  ∀(fs:List Field) (r:Bool),aeqF P xs ys fs=some r->(Op.eqFields (d+1) xs' ys' fs).run P w= .ok r w
 |[],r,h=>by cases h;simp[Op.eqFields]
 |f::fs,r,h=>by
  unfold aeqF at h
  unfold Op.eqFields
  split at h
  ·rename_i hn
   split at h
   ·rename_i a b ha hb hagg
    split at h
    ·rename_i r1 q h1 h2
     cases h
     obtain⟨hc,hp⟩:=acell_sound (P:=P) h1 d w
     cases hx with
     |agg hsx hx=>
     cases hy with
     |agg hsy hy=>
     have hax:f.offset<xs.size:=(xS.1 ha).1
     have hby:f.offset<ys.size:=(xS.1 hb).1
     have ha':xs'[f.offset]? =some a:=by
      have hlt:f.offset<xs'.size:=hsx▸hax
      have:=(hp ι w).1 _ (hx f.offset a xs'[f.offset] ha (by simp[hlt]))
      simp[hlt,this]
     have hb':ys'[f.offset]? =some b:=by
      have hlt:f.offset<ys'.size:=hsy▸hby
      have:=(hp ι w).2 _ (hy f.offset b ys'[f.offset] hb (by simp[hlt]))
      simp[hlt,this]
     rw[if_pos hn]
     simp only[xW,part_cell hagg ha' w,part_cell hagg hb' w,hc,xV,Sem.run_ite,xX]
     cases r1
     ·simp
     ·simp only[Bool.not_true,Bool.false_eq_true,if_false,Bool.true_and]
      exact aeqF_sound (.agg hsx hx) (.agg hsy hy) d fs q h2
    ·cases h
   ·cases h
  ·rename_i hn
   rw[if_neg hn]
   exact aeqF_sound hx hy d fs r h
def aeqS(P:Program)(t:TypeId)(xs ys:Array Value):Option Bool:=
 if P.stoodInHeld t=false/\P.eqGuardType P.depth t=false then
  match P.underlying t with
  |some (.struct fs)=>aeqF P xs ys fs.toList
  |_=>none
 else none
theorem aeqS_sound{P:Program}{ι:Ren}{w:World}{t:TypeId}{xs ys xs' ys':Array Value}{r:Bool}(hx:VR ι w (.agg xs) (.agg xs'))(hy:VR ι w (.agg ys) (.agg ys'))(h:aeqS P t xs ys=some r):
  (Op.equalIn 10000 t (.agg xs') (.agg ys')).run P w= .ok r w/\P.eqGuardType P.depth t=false:=by
 unfold aeqS at h
 split at h
 ·rename_i hc
  split at h
  ·rename_i fs hf
   have hff:P.fieldsOf t=fs:=by simp[Program.fieldsOf,hf]
   refine⟨?_,hc.2⟩
   rw[run_equalIn_agg w 9999 t xs' ys' (by rw[hff];exact hf) hc.1,hff]
   exact aeqF_sound hx hy 9998 fs.toList r h
  ·cases h
 ·cases h
def kO(P:Program)(op:BinOp)(xt:TypeId)(x y:Value):Option Value:=
 match x,y with
 | .agg xs, .agg ys=>
  match op with
  | .eql=>(aeqS P xt xs ys).map Value.bool
  | .neq=>(aeqS P xt xs ys).map fun b=>Value.bool (!b)
  |_=>none
 |x,y=>abin P op xt x y
theorem eqGuard_other{P:Program}{op:BinOp}{t:TypeId}{x y:Operand}{a b:Value}(h:∀xs,a≠ .agg xs)(h2:a≠ .nilIface)(w:World):(eqGuard op t x y a b).run P w= .ok () w:=by
 unfold eqGuard
 cases op <;>simp <;>(cases a <;>simp_all)
theorem undNilS_out{P:Program}{t:TypeId}(h:undNilS P t=true):∃e,P.underlying t=some (.slice e):=by
 unfold undNilS at h;split at h
 ·rename_i k hk;exact⟨k,hk⟩
 ·cases h
theorem undNilP_out{P:Program}{t:TypeId}(h:undNilP P t=true):P.underlying t=some (.pointer (P.pointee t)):=by
 unfold undNilP at h;split at h
 ·rename_i k hk;rw[hk,show P.pointee t=k from by simp[Program.pointee,hk]]
 ·cases h
theorem anil_sound{P:Program}{ι:Ren}{w:World}{t:TypeId}{x y x' y':Value}{b:Bool}(hu:undFits P t x=true)(h:anil x y=some b)
  (hx:VR ι w x x') (hy:VR ι w y y'):(∀xs,x'≠ .agg xs)/\x'≠ .nilIface/\(binOp .eql t x' y').run P w= .ok (.bool b) w/\(binOp .neq t x' y').run P w= .ok (.bool (!b)) w:=by
 unfold anil at h
 split at h
 ·cases h;cases hx;cases hy
  obtain⟨e,hd⟩:=undNilS_out hu
  exact⟨by simp,by simp,Lib.run_eql_slice_nil w t e _ _ _ _ _ hd,run_neq_slice_nil_any w t e _ _ _ _ _ hd⟩
 ·simp only[xU,xE]at h
  obtain⟨hl,rfl⟩:=h
  obtain⟨e,hd⟩:=undNilS_out hu
  cases hx
  cases hy with
  |sl hn hle h0 h1 hA=>
   rcases hA with hA|⟨B,base,size,_,rfl,_⟩
   ·omega
   ·exact⟨by simp,by simp,run_eql_nil_slice w t e _ _ _ _ _ hd,run_neq_nil_slice w t e _ _ _ _ _ hd⟩
 ·simp only[xU,xE]at h
  obtain⟨hl,rfl⟩:=h
  obtain⟨e,hd⟩:=undNilS_out hu
  cases hy
  cases hx with
  |sl hn hle h0 h1 hA=>
   rcases hA with hA|⟨B,base,size,_,rfl,_⟩
   ·omega
   ·exact⟨by simp,by simp,Lib.run_eql_slice_nil w t e _ _ _ _ _ hd,run_neq_slice_nil_any w t e _ _ _ _ _ hd⟩
 ·cases h;cases hx;cases hy
  exact⟨by simp,by simp,run_eql_pointer_nil w t _ (undNilP_out hu),run_neq_pointer_nil w t _ (undNilP_out hu)⟩
 ·cases h;cases hy
  cases hx
  exact⟨by simp,by simp,run_eql_pointer_nil w t _ (undNilP_out hu),run_neq_pointer_nil w t _ (undNilP_out hu)⟩
 ·simp only[xU,xE]at h
  obtain⟨hl,rfl⟩:=h
  obtain⟨e,hd⟩:=undNilS_out hu
  cases hx
  cases hy with
  |lst0=>simp at hl
  |lst=>exact⟨by simp,by simp,run_eql_nil_slice w t e _ _ _ _ _ hd,run_neq_nil_slice w t e _ _ _ _ _ hd⟩
 ·simp only[xU,xE]at h
  obtain⟨hl,rfl⟩:=h
  obtain⟨e,hd⟩:=undNilS_out hu
  cases hy
  cases hx with
  |lst0=>simp at hl
  |lst=>exact⟨by simp,by simp,Lib.run_eql_slice_nil w t e _ _ _ _ _ hd,run_neq_slice_nil_any w t e _ _ _ _ _ hd⟩
 ·cases h;cases hy
  cases hx
  exact⟨by simp,by simp,run_eql_pointer_nil w t _ (undNilP_out hu),run_neq_pointer_nil w t _ (undNilP_out hu)⟩
 ·cases h
theorem guarded{P:Program}{op:BinOp}{t:TypeId}{x y:Operand}{a b:Value}{w:World}(h:(∃k n,a= .int k n)\/(∃s,a= .string s)\/∃c,a= .bool c):
  (do eqGuard op t x y a b;binOp op t a b:Sem Value).run P w=(binOp op t a b).run P w:=by
 rcases h with⟨k,n,rfl⟩|⟨s,rfl⟩|⟨c,rfl⟩ <;>
  (rw[xW,eqGuard_other (fun _ h=>by cases h) (fun h=>by cases h)];rfl)
theorem abin_sound{P:Program}{ι:Ren}{w:World}{op:BinOp}{xt:TypeId}{x y v x' y':Value}(xo yo:Operand)(h:kO P op xt x y=some v)(hx:VR ι w x x')(hy:VR ι w y y'):
  (do eqGuard op xt xo yo x' y';binOp op xt x' y':Sem Value).run P w= .ok v w/\yI v=true:=by
 unfold kO at h
 split at h
 ·rename_i xs ys
  cases hx with
  |agg hsx hx=>
  cases hy with
  |agg hsy hy=>
  split at h
  ·obtain⟨b,hb,rfl⟩:=Option.map_eq_some_iff.1 h
   obtain⟨hr,hg⟩:=aeqS_sound (.agg hsx hx) (.agg hsy hy) hb
   simp only[xW,run_eqGuard_agg w .eql xt xo yo _ _ hg,run_eql_struct,hr,xV]
   exact⟨trivial,rfl⟩
  ·obtain⟨b,hb,rfl⟩:=Option.map_eq_some_iff.1 h
   obtain⟨hr,hg⟩:=aeqS_sound (.agg hsx hx) (.agg hsy hy) hb
   simp only[xW,run_eqGuard_agg w .neq xt xo yo _ _ hg,run_neq_struct,hr,xV]
   exact⟨trivial,rfl⟩
  ·cases h
 ·unfold abin at h
  split at h
  ·rename_i k a k' b _ _
   cases hx;cases hy
   rw[guarded (.inl ⟨_,_,rfl⟩)]
   by_cases hs:op= .shl\/op= .shr
   ·rw[if_pos hs]at h
    refine⟨ashift_sound xt h w,?_⟩
    unfold ashift at h
    split at h
    ·simp only[xU]at h
     rw[chk_sound h.2];rfl
    ·simp only[xU,xE]at h
     rw[<-h.2];rfl
    ·cases h
   ·rw[if_neg hs]at h
    simp only[xU]at h
    obtain⟨rfl,h⟩:=h
    refine⟨aint_sound xt hs h w,?_⟩
    unfold aint abits at h
    cases op <;>dsimp only at h <;>first
     |(rw[chk_sound h];rfl)
     |(cases h;done)
     |(cases h;rfl)
     |(simp only[xU]at h;rw[chk_sound h.2];rfl)
     |(simp only[xU,xE]at h;rw[<-h.2];rfl)
  ·cases hx;cases hy
   rw[guarded (.inr (.inl ⟨_,rfl⟩))]
   refine⟨astr_sound xt h w,?_⟩
   unfold astr at h
   cases op <;>dsimp only at h <;>first
    |(cases h;done)
    |(rw[<-Option.some.inj h];rfl)
    |(simp only[xU,xE]at h;rw[<-h.2];rfl)
  ·cases hx;cases hy
   rw[guarded (.inr (.inr ⟨_,rfl⟩))]
   split at h
   ·simp only[xU,xE]at h
    obtain⟨hu,rfl⟩:=h
    exact⟨run_eql_bool w xt _ _ (undBool_out hu),rfl⟩
   ·simp only[xU,xE]at h
    obtain⟨hu,rfl⟩:=h
    exact⟨by rw[run_neq_bool w xt _ _ (undBool_out hu)];rfl,rfl⟩
   ·cases h
  ·split at h
   ·simp only[xU,Option.map_eq_some_iff]at h
    obtain⟨hu,b,hb,rfl⟩:=h
    obtain⟨h1,h2,h3,_⟩:=anil_sound hu hb hx hy
    rw[xW,eqGuard_other h1 h2]
    exact⟨h3,rfl⟩
   ·simp only[xU,Option.map_eq_some_iff]at h
    obtain⟨hu,b,hb,rfl⟩:=h
    obtain⟨h1,h2,_,h3⟩:=anil_sound hu hb hx hy
    rw[xW,eqGuard_other h1 h2]
    exact⟨h3,rfl⟩
   ·cases h
def LR(ι:Ren)(w:World)(xs ys:List Value):Prop:=xs.length=ys.length/\∀(i:Nat) v v',xs[i]? =some v->ys[i]? =some v'->VR ι w v v'
theorem LR.mono{ι ι':Ren}{w w':World}(hι:Ext ι ι')(hw:Fro ι w w'){xs ys:List Value}(h:LR ι w xs ys):LR ι' w' xs ys:=
 ⟨h.1,fun i v v' h1 h2=>(h.2 i v v' h1 h2).mono hι hw⟩
theorem LR.nil(ι:Ren)(w:World):LR ι w [] []:=⟨rfl,fun i v v' h1 _=>by simp at h1⟩
theorem LR.cons{ι:Ren}{w:World}{x y:Value}{xs ys:List Value}(h:VR ι w x y)(k:LR ι w xs ys):LR ι w (x::xs) (y::ys):=by
 refine⟨by simp[k.1],fun i v v' h1 h2=> ?_⟩
 cases i with
 |zero=>simp at h1 h2;subst h1;subst h2;exact h
 |succ i=>simp at h1 h2;exact k.2 i v v' h1 h2
theorem LR.append{ι:Ren}{w:World}{a b c d:List Value}(h:LR ι w a b)(k:LR ι w c d):LR ι w (a++c) (b++d):=by
 refine⟨by simp[h.1,k.1],fun i v v' h1 h2=> ?_⟩
 rw[List.getElem?_append]at h1 h2
 rw[h.1]at h1
 split at h1
 ·rename_i hi;rw[if_pos hi]at h2;exact h.2 i v v' h1 h2
 ·rename_i hi;rw[if_neg hi]at h2;exact k.2 _ v v' h1 h2
theorem LR.take{ι:Ren}{w:World}{a b:List Value}(h:LR ι w a b)(n:Nat):LR ι w (a.take n) (b.take n):=by
 refine⟨by simp[h.1],fun i v v' h1 h2=> ?_⟩
 rw[List.getElem?_take]at h1 h2
 split at h1
 ·rename_i hi;rw[if_pos hi]at h2;exact h.2 i v v' h1 h2
 ·cases h1
theorem LR.drop{ι:Ren}{w:World}{a b:List Value}(h:LR ι w a b)(n:Nat):LR ι w (a.drop n) (b.drop n):=by
 refine⟨by simp[h.1],fun i v v' h1 h2=> ?_⟩
 rw[wP]at h1 h2
 exact h.2 _ v v' h1 h2
theorem LR.agg{ι:Ren}{w:World}{xs ys:List Value}(h:LR ι w xs ys):VR ι w (.agg xs.toArray) (.agg ys.toArray):=
 .agg (by simpa using h.1) fun i v v' h1 h2=>h.2 i v v' (by simpa using h1) (by simpa using h2)
theorem VR.toLR{ι:Ren}{w:World}{xs ys:Array Value}(h:VR ι w (.agg xs) (.agg ys)):LR ι w xs.toList ys.toList:=by
 cases h with
 |agg hs h=>exact⟨by simpa using hs,fun i v v' h1 h2=>h i v v' (by simpa using h1) (by simpa using h2)⟩
theorem VR.aggOut{ι:Ren}{w:World}{xs:Array Value}{v:Value}(h:VR ι w (.agg xs) v):∃ys,v= .agg ys:=by
 cases h with
 |agg hs h=>exact⟨_,rfl⟩
def isUnk:Value->Bool
 | .chan none=>true
 |_=>false
def cellsL:Value->List Value
 | .agg cs=>cs.toList
 |v=>[v]
theorem zU(v:Value):cellsL v=v.cells.toList:=by cases v <;>rfl
theorem VR.cells{ι:Ren}{w:World}{v v':Value}(h:VR ι w v v')(hu:isUnk v=false):LR ι w (cellsL v) v'.cells.toList:=by
 cases h with
 |unk=>simp[isUnk]at hu
 |agg hs h=>exact VR.toLR (.agg hs h)
 |bool=>exact .cons (.bool _) (.nil _ _)
 |int=>exact .cons (.int _ _) (.nil _ _)
 |string=>exact .cons (.string _) (.nil _ _)
 |nilp=>exact .cons .nilp (.nil _ _)
 |ptr h=>exact .cons (.ptr h) (.nil _ _)
 |nils=>exact .cons .nils (.nil _ _)
 |sl hn hl h0 h1 hA=>exact .cons (.sl hn hl h0 h1 hA) (.nil _ _)
 |tuple hs h=>exact .cons (.tuple hs h) (.nil _ _)
 |func hs h=>exact .cons (.func hs h) (.nil _ _)
 |nilf=>exact .cons .nilf (.nil _ _)
 |nili=>exact .cons .nili (.nil _ _)
 |iface h=>exact .cons (.iface h) (.nil _ _)
 |lst0=>exact .cons .lst0 (.nil _ _)
 |lst a b c d e f=>exact .cons (.lst a b c d e f) (.nil _ _)
 |vp a b c d=>exact .cons (.vp a b c d) (.nil _ _)
 |mp h=>exact .cons (.mp h) (.nil _ _)
def lfill(place:Nat->Option (Nat×Nat))(cells:List Value):List (Nat×Value)->Option (List Value)
 |[]=>some cells
 |(i,v)::rest=>
  match place i with
  |none=>none
  |some (off,size)=>
   if isUnk v=false/\(cellsL v).length=size/\off+size<=cells.length then lfill place (cells.take off++cellsL v++cells.drop (off+size)) rest else none
theorem foldl_set(vs:List Value)(off:Nat):∀(cs:Array Value) (j:Nat),off+j+vs.length<=cs.size->
  ((vs.zipIdx j).foldl (fun(cs:Array Value) (c:Value×Nat)=>cs.setIfInBounds (off+c.2) c.1) cs).toList=cs.toList.take (off+j)++vs++cs.toList.drop (off+j+vs.length):=by
 induction vs with
 |nil=>intro cs j _;simp
 |cons v vs ih=>
  intro cs j h
  simp only[xJ]at h
  rw[List.zipIdx_cons,List.foldl_cons,ih _ (j+1) (by simp;omega)]
  have hlt:off+j<cs.toList.length:=by simp;omega
  rw[Array.toList_setIfInBounds]
  rw[show off+(j+1)=off+j+1 from by omega,show off+j+(v::vs).length=off+j+1+vs.length from by simp;omega]
  rw[List.take_add_one,List.getElem?_set_self hlt,List.take_set_of_le (by omega),List.drop_set_of_lt (by omega)]
  simp
theorem fill_sound{ι:Ren}{w:World}(place:Nat->Option (Nat×Nat)):
  ∀(ps ps':List (Nat×Value)) (cells:List Value) (cells':Array Value) (r:List Value),LR ι w cells cells'.toList->
   ps.length=ps'.length->(∀(i:Nat) x x',ps[i]? =some x->ps'[i]? =some x'->x.1=x'.1/\VR ι w x.2 x'.2)->lfill place cells ps=some r->
   ∃r',Instr.fill place cells' ps'=some r'/\LR ι w r r'.toList
 |[],[],cells,cells',r,hc,_,_,h=>by cases h;exact⟨cells',rfl,hc⟩
 |(i,v)::ps,(i',v')::ps',cells,cells',r,hc,hl,hp,h=>by
  obtain⟨hi,hv⟩:=hp 0 _ _ rfl rfl
  simp only at hi hv
  subst hi
  unfold lfill at h
  unfold Instr.fill
  cases hpl:place i with
  |none=>rw[hpl]at h;cases h
  |some os=>
   obtain⟨off,size⟩:=os
   rw[hpl]at h
   simp only[xU]at h
   obtain⟨⟨hu,hs,ho⟩,h⟩:=h
   have hlr:=hv.cells hu
   have hs':v'.cells.size=size:=by rw[<-hs,hlr.1];simp
   have ho':off+size<=cells'.size:=by have:=hc.1;simp at this;omega
   simp only
   rw[if_neg (by simp[hs'];omega)]
   refine fill_sound place ps ps' _ _ r ?_ (by simpa using hl) (fun j x x' h1 h2=>hp (j+1) x x' (by simpa using h1) (by simpa using h2)) h
   have hf:(Array.foldl (fun(cs:Array Value) (x:Value×Nat)=>cs.setIfInBounds (off+x.2) x.1) cells' v'.cells.zipIdx).toList=cells'.toList.take off++v'.cells.toList++cells'.toList.drop (off+size):=by
    rw[<-Array.foldl_toList,Array.toList_zipIdx,foldl_set _ off cells' 0 (by simp;omega)]
    simp[hs']
   have:=(LR.append (LR.append (hc.take off) hlr) (hc.drop (off+size)))
   rw[<-hf]at this
   exact this
 |[],_::_,_,_,_,_,hl,_,_=>by simp at hl
 |_::_,[],_,_,_,_,hl,_,_=>by simp at hl
def placesOf(P:Program):List Field->Option (List (Nat×Nat))
 |[]=>some []
 |f::fs=>
  match ask P (sizeOf f.type),placesOf P fs with
  |some n,some r=>some ((f.offset,n)::r)
  |_,_=>none
theorem placesOf_sound{P:Program}(w:World):∀(fs:List Field) (r:List (Nat×Nat)),placesOf P fs=some r->
  (fs.mapM (fun f=>do pure (f.offset,<-sizeOf f.type):Field->Sem (Nat×Nat))).run P w= .ok r w
 |[],r,h=>by cases h;rfl
 |f::fs,r,h=>by
  unfold placesOf at h
  split at h
  ·rename_i n r' h1 h2
   cases h
   simp only[List.mapM_cons,xW,jM h1 w,xV,xX,placesOf_sound w fs r' h2]
  ·cases h
def plainU(v:Value):Value:=if yI v=true then v else unk
def abuild(P:Program)(t:TypeId)(parts:List (Nat×Value)):Option Value:=
 match ask P (zeroValue t),ask P (underlying t)with
 |some (.agg z),some (.struct fs)=>
  match placesOf P fs.toList with
  |some ps=>(lfill (ps[·]?) (z.toList.map plainU) parts).map fun l=> .agg l.toArray
  |none=>none
 |some (.agg z),some (.array _ e)=>
  match ask P (sizeOf e)with
  |some n=>(lfill (fun i=>some (i*n,n)) (z.toList.map plainU) parts).map fun l=> .agg l.toArray
  |none=>none
 |_,_=>none
theorem LR.plain{ι:Ren}{w:World}{l:List Value}(h:l.all yI=true):LR ι w l l:=
 ⟨rfl,fun i v v' h1 h2=>by rw[h1]at h2;cases h2;exact VR.plain (List.all_eq_true.1 h v (wC h1))⟩
theorem LR.plainU{ι:Ren}{w:World}(l:List Value):LR ι w (l.map SC.plainU) l:=by
 refine⟨by simp,fun i v v' h1 h2=> ?_⟩
 rw[wN,h2]at h1
 simp only[wK,xE]at h1
 subst h1
 unfold SC.plainU
 split
 ·rename_i h;exact VR.plain h
 ·exact .unk _
theorem plainU_all{l:List Value}(h:l.all yI=true):l.map plainU=l:=by
 induction l with
 |nil=>rfl
 |cons x l ih=>
  simp only[List.all_cons,Bool.and_eq_true]at h
  rw[List.map_cons,ih h.2,plainU,if_pos h.1]
theorem abuild_sound{P:Program}{ι:Ren}{w:World}{t:TypeId}{s:List Value}{a:Act}(hs:SR ι w s a.tmps)(parts:Array (Nat×Operand)){v:Value}
  (h:abuild P t (parts.toList.map fun x=>(x.1,ev s x.2))=some v):
  ∃v',(Instr.build t (parts.map fun(i,x)=>(i,a.eval x))).run P w= .ok v' w/\VR ι w v v':=by
 have hps:∀(i:Nat) x x',(parts.toList.map fun x=>(x.1,ev s x.2))[i]? =some x->((parts.map fun(i,x)=>(i,a.eval x)).toList)[i]? =some x'->x.1=x'.1/\VR ι w x.2 x'.2:=by
  intro i x x' h1 h2
  simp only[Array.toList_map,wN]at h1 h2
  cases hp:parts.toList[i]? with
  |none=>rw[hp]at h1;cases h1
  |some p=>
   rw[hp]at h1 h2
   simp only[wK,xE]at h1 h2
   subst h1;subst h2
   exact⟨rfl,hs.ev _⟩
 unfold abuild at h
 split at h
 ·rename_i z fs hz hu
  split at h
  ·rename_i ps hpl
   simp only[Option.map_eq_some_iff]at h
   obtain⟨l,hl,rfl⟩:=h
   obtain⟨r',hr',hlr⟩:=fill_sound (ι:=ι) (w:=w) (ps[·]?) _ (parts.map fun(i,x)=>(i,a.eval x)).toList (z.toList.map plainU) z l (LR.plainU _) (by simp) hps hl
   refine⟨.agg r',?_,?_⟩
   ·unfold Instr.build
    have hm:(fs.mapM (fun f=>do pure (f.offset,<-sizeOf f.type):Field->Sem (Nat×Nat))).run P w= .ok ps.toArray w:=by
     have:=placesOf_sound w fs.toList ps hpl
     rw[<-Array.toList_mapM,Sem.run_map]at this
     cases hq:(fs.mapM (fun f=>do pure (f.offset,<-sizeOf f.type):Field->Sem (Nat×Nat))).run P w with
     |ok x w'=>rw[hq]at this;simp only[xV,Result.ok.injEq]at this;obtain⟨h1,rfl⟩:=this;rw[<-h1]
     |halt x w'=>rw[hq]at this;simp at this
    simp only[xW,ask_zero hz w,jI hu w,xV,Value.cells,hm]
    simp only[wJ,hr',xX]
   ·simpa using hlr.agg
  ·cases h
 ·rename_i z n e hz hu
  split at h
  ·rename_i k hk
   simp only[Option.map_eq_some_iff]at h
   obtain⟨l,hl,rfl⟩:=h
   obtain⟨r',hr',hlr⟩:=fill_sound (ι:=ι) (w:=w) (fun i=>some (i*k,k)) _ (parts.map fun(i,x)=>(i,a.eval x)).toList (z.toList.map plainU) z l (LR.plainU _) (by simp) hps hl
   refine⟨.agg r',?_,?_⟩
   ·unfold Instr.build
    simp only[xW,ask_zero hz w,jI hu w,jM hk w,xV,Value.cells]
    simp only[hr',xX]
   ·simpa using hlr.agg
  ·cases h
 ·cases h
def aint? :Value->Option Int
 | .int _ i=>some i
 |_=>none
def yA(s:List Value)(d:Int):Option Operand->Option Int
 |none=>some d
 |some o=>aint? (ev s o)
def sizedS(P:Program)(t:TypeId):Bool:=match P.underlying t with|some (.slice e)=>(ask P (sizeOf e)).isSome|_=>false
theorem sizedS_out{P:Program}{t:TypeId}(h:sizedS P t=true):∃e k,P.underlying t=some (.slice e)/\ask P (sizeOf e)=some k:=by
 unfold sizedS at h;split at h
 ·rename_i e he
  obtain⟨k,hk⟩:=Option.isSome_iff_exists.1 h
  exact⟨e,k,he,hk⟩
 ·cases h
def aslice(P:Program)(s:List Value)(t:TypeId)(x:Value)(lo hi mx:Option Operand):Option Value:=
 match x with
 | .string b=>
  match yA s 0 lo,yA s b.size hi,mx with
  |some l,some h,none=>if undString P t=true/\0<=l/\l<=h/\h<=b.size then some (.string (b.extract l.toNat h.toNat))else none
  |_,_,_=>none
 | .slice none 0 0=>
  match yA s 0 lo,yA s 0 hi,mx with
  |some l,some h,none=>if sizedS P t=true/\l=0/\h=0 then some (.slice none 0 0)else none
  |some l,some h,some mo=>
   match aint? (ev s mo),hi with
   |some m,some _=>if sizedS P t=true/\l=0/\h=0/\m=0 then some (.slice none 0 0)else none
   |_,_=>none
  |_,_,_=>none
 | .slice (some ⟨n,off,some k⟩) len c=>
  match ask P (underlying t)with
  |some (.slice e)=>
   if ask P (sizeOf e)=some k then
    match yA s 0 lo,yA s len hi,mx with
    |some l,some h,none=>if 0<=l/\l<=h/\h<=(c-1:Nat)then some (.slice (some ⟨n,off+l.toNat*k,some k⟩) (h-l).toNat (c-l.toNat))else none
    |some l,some h,some mo=>
     match aint? (ev s mo),hi with
     |some m,some _=>
      if 0<=l/\l<=h/\h<=m/\m<=(c-1:Nat)then
       some (.slice (some ⟨n,off+l.toNat*k,some k⟩) (h-l).toNat (if m=l then 0 else(m-l).toNat+1))
      else none
     |_,_=>none
    |_,_,_=>none
   else none
  |_=>none
 | .func (.yield k) _ rows=>
  match ask P (underlying t)with
  |some (.slice e)=>
   if ask P (sizeOf e)=some k then
    match yA s 0 lo,yA s rows.size hi,mx with
    |some l,some h,none=>if 0<=l/\l<=h/\h<=rows.size then some (.func (.yield k) #[] (rows.extract l.toNat h.toNat))else none
    |_,_,_=>none
   else none
  |_=>none
 |_=>none
theorem lst_part{ι:Ren}{w:World}{k l h:Nat}{fs rows:Array Value}{v':Value}(hx:VR ι w (.func (.yield k) fs rows) v')(h1:l<=h)(h2:h<=rows.size):
  ∃A c',v'= .slice A rows.size c'/\rows.size<=c'/\VR ι w (.func (.yield k) #[] (rows.extract l h)) (.slice (if c'=l then A else A.map (·.add (l*k))) (h-l) (c'-l)):=by
 have key:∀A c',rows.size<=c'->l=h->VR ι w (.func (.yield k) #[] (rows.extract l h)) (.slice (if c'=l then A else A.map (·.add (l*k))) (h-l) (c'-l)):=by
  intro A c' hc e
  subst e
  have:rows.extract l l= #[]:=by simp;omega
  rw[this,Nat.sub_self]
  exact .lst0
 cases hx with
 |lst0=>
  rename_i A c'
  exact⟨A,c',rfl,xT _,key A c' (xT _) (by simp at h2;omega)⟩
 |lst hfz hB hl hsz hr hc=>
  rename_i B base c' cs e fr
  refine⟨_,c',rfl,hl,?_⟩
  by_cases e1:l=h
  ·exact key _ c' hl e1
  ·rw[if_neg (by omega)]
   have hs:(rows.extract l h).size=h-l:=by simp;omega
   have hm:l*k+(c'-l)*k=c'*k:=by rw[<-Nat.add_mul];congr 1;omega
   have hadd:Option.map (fun x:Addr=>x.add (l*k)) (some ⟨B,base,none⟩)=some ⟨B,base+l*k,none⟩:=by
    simp only[wK]
    unfold Addr.add
    split <;>simp_all
   rw[hadd]
   have hg:∀(i:Nat) x,(rows.extract l h)[i]? =some x->rows[l+i]? =some x:=fun i x hi=>by
    rw[Array.getElem?_extract]at hi
    split at hi
    ·exact hi
    ·cases hi
   have hlst:=VR.lst (ι:=ι) (w:=w) (k:=k) (rows:=rows.extract l h) (base:=base+l*k) (c':=c'-l) hfz hB (by omega) (by omega) (fun i x hi=>hr _ x (hg i x hi)) (fun i j r v v' h3 h4 h5=>hc (l+i) j r v v' (hg i _ h3) h4 (by
    rw[<-h5];congr 1;rw[Nat.add_mul];omega))
   rw[hs]at hlst
   exact hlst
theorem kC{ι:Ren}{w:World}{s:List Value}{a:Act}(hs:SR ι w s a.tmps){o:Operand}{i:Int}(h:aint? (ev s o)=some i):
  ∃k,a.eval o= .int k i:=by
 have hv:=hs.ev o
 generalize ev s o=x at h hv
 cases x <;>simp[aint?]at h
 subst h
 generalize a.eval o=y at hv ⊢
 cases hv
 exact⟨_,rfl⟩
theorem bounds_none{P:Program}{ι:Ren}{w:World}{s:List Value}{a:Act}(hs:SR ι w s a.tmps){lo hi:Option Operand}{len cap:Nat}{l h:Int}(isS:Bool)
  (hl:yA s 0 lo=some l) (hh:yA s len hi=some h) (h0:0<=l) (h1:l<=h) (h2:h<=cap):
  (Instr.sliceBounds isS len cap (lo.map a.eval) (hi.map a.eval) none).run P w= .ok (l.toNat,h.toNat,cap) w:=by
 unfold Instr.sliceBounds
 cases hi with
 |none=>
  simp only[yA,xE]at hh;subst hh
  cases lo with
  |none=>
   simp only[yA,xE]at hl;subst hl
   simp
  |some ol=>
   obtain⟨k,hk⟩:=kC hs hl
   simp[hk,run_sliceBound w k l len _ h0 h1]
 |some oh=>
  obtain⟨kh,hkh⟩:=kC hs hh
  cases lo with
  |none=>
   simp only[yA,xE]at hl;subst hl
   simp[hkh,run_sliceBound w kh h cap _ h1 h2]
  |some ol=>
   obtain⟨k,hk⟩:=kC hs hl
   simp only[wK,hk,hkh,xW,xX,xV,run_sliceBound w kh h cap _ (Int.le_trans h0 h1) h2,
    run_sliceBound w k l h.toNat _ h0 (by omega),Option.isSome_none,Bool.false_eq_true,if_false]
theorem bounds_some{P:Program}{ι:Ren}{w:World}{s:List Value}{a:Act}(hs:SR ι w s a.tmps){lo:Option Operand}{ho mo:Operand}{len cap:Nat}{l h m:Int}(isS:Bool)
  (hl:yA s 0 lo=some l) (hh:aint? (ev s ho)=some h) (hm:aint? (ev s mo)=some m) (h0:0<=l) (h1:l<=h) (h2:h<=m) (h3:m<=cap):
  (Instr.sliceBounds isS len cap (lo.map a.eval) (some (a.eval ho)) (some (a.eval mo))).run P w= .ok (l.toNat,h.toNat,m.toNat) w:=by
 obtain⟨km,hm⟩:=kC hs hm
 obtain⟨kh,hh⟩:=kC hs hh
 unfold Instr.sliceBounds
 cases lo with
 |none=>
  simp only[yA,xE]at hl;subst hl
  simp only[Option.map_none,hm,hh,xW,xX,xV,run_sliceBound w km m cap _ (by omega) h3,
   run_sliceBound w kh h m.toNat _ h1 (by omega)]
  rfl
 |some ol=>
  obtain⟨k,hk⟩:=kC hs hl
  simp only[wK,hk,hm,hh,xW,xX,xV,run_sliceBound w km m cap _ (by omega) h3,
   run_sliceBound w kh h m.toNat _ (by omega) (by omega),run_sliceBound w k l h.toNat _ h0 (by omega),Option.isSome_some,if_true]
theorem elem_of{P:Program}{t e:TypeId}(h:P.underlying t=some (.slice e)):P.elem t=e:=by simp[Program.elem,h]
theorem zD(B o n:Nat):(⟨B,o,none⟩:Addr).add n=⟨B,o+n,none⟩:=by
 unfold Addr.add;split <;>simp_all
theorem run_slice_of{P:Program}{w:World}{t e:TypeId}{A:Option Addr}{len cap k l h m:Nat}{lo hi mx:Option Value}(hd:P.underlying t=some (.slice e))(hk:ask P (sizeOf e)=some k)
  (hb:(Instr.sliceBounds true len cap lo hi mx).run P w= .ok (l,h,m) w):
  (Instr.sliceAt t (.slice A len cap) lo hi mx).run P w= .ok (.slice (if m=l then A else A.map (·.add (l*k))) (h-l) (m-l)) w:=by
 have he:=elem_of hd
 rw[run_sliceAt_slice w t _ _ _ _ (by rw[he];exact hd),run_slice_any w t A len cap (by rw[he];exact hd),hb]
 simp only[xV,he,jM hk w,sliced]
theorem nilSlice{P:Program}{ι:Ren}{w:World}{t e:TypeId}{k:Nat}{lo hi mx:Option Value}(hd:P.underlying t=some (.slice e))(hk:ask P (sizeOf e)=some k)
  (hb:(Instr.sliceBounds true 0 0 lo hi mx).run P w= .ok ((0:Int).toNat,(0:Int).toNat,0) w):
  ∃v',(Instr.sliceAt t (.slice none 0 0) lo hi mx).run P w= .ok v' w/\VR ι w (.slice none 0 0) v':=
 ⟨_,run_slice_of hd hk hb, .nils⟩
theorem sl_cut{ι:Ren}{w:World}{n off k l h m c2 c':Nat}{A:Option Addr}(hn:∃l,ι n=some l)
  (hA:c'=0\/∃B base size,ι n=some (.at B base)/\A=some ⟨B,base+off,none⟩/\Row w B size/\base+off+c'*k<=size)
  (hle:h-l<=m-l) (h0:(c2=0->m-l=0)/\c2-1<=m-l) (hm:m<=c'):
  VR ι w (.slice (some ⟨n,off+l*k,some k⟩) (h-l) c2) (.slice (if m=l then A else A.map (·.add (l*k))) (h-l) (m-l)):=by
 refine .sl hn hle h0.1 h0.2 ?_
 by_cases e:m-l=0
 ·exact .inl e
 ·refine .inr ?_
  rcases hA with hA|⟨B,base,size,h1,rfl,h3,h4⟩
  ·omega
  ·refine⟨B,base,size,h1,?_,h3,?_⟩
   ·rw[if_neg (by omega)]
    simp only[wK,zD,Nat.add_assoc]
   ·have:l*k+(m-l)*k<=c'*k:=by rw[<-Nat.add_mul];exact Nat.mul_le_mul_right _ (by omega)
    omega
theorem aslice_sound{P:Program}{ι:Ren}{w:World}{s:List Value}{a:Act}(hs:SR ι w s a.tmps){t:TypeId}{x x' v:Value}{lo hi mx:Option Operand}
  (hx:VR ι w x x') (h:aslice P s t x lo hi mx=some v):
  ∃v',(Instr.sliceAt t x' (lo.map a.eval) (hi.map a.eval) (mx.map a.eval)).run P w= .ok v' w/\VR ι w v v':=by
 unfold aslice at h
 split at h
 ·rename_i b
  cases hx
  split at h
  ·rename_i l hh hl hhi
   simp only[xU,xE]at h
   obtain⟨⟨hu,h0,h1,h2⟩,rfl⟩:=h
   refine⟨_,?_, .string _⟩
   rw[run_sliceAt_string w t _ _ _ _ (undString_out hu)]
   unfold Instr.slice
   simp only[Option.map_none,xW,run_underlying (undString_out hu),xV,Option.isSome_none,Bool.false_eq_true,if_false,
    bounds_none hs false hl hhi h0 h1 h2,xX]
  ·cases h
 ·cases hx
  split at h
  ·rename_i l hh hl hhi
   simp only[xU,xE]at h
   obtain⟨⟨hu,rfl,rfl⟩,rfl⟩:=h
   obtain⟨e,k,hd,hk⟩:=sizedS_out hu
   have hb:=bounds_none (P:=P) (len:=0) (cap:=0) hs true hl hhi (by omega) (by omega) (by omega)
   exact nilSlice hd hk hb
  ·rename_i l hh mo hl hhi
   split at h
   ·rename_i m ho hm
    simp only[xU,xE]at h
    obtain⟨⟨hu,rfl,rfl,rfl⟩,rfl⟩:=h
    obtain⟨e,k,hd,hk⟩:=sizedS_out hu
    have hb:=bounds_some (P:=P) (len:=0) (cap:=0) hs true hl hhi hm (by omega) (by omega) (by omega) (by omega)
    exact nilSlice hd hk hb
   ·cases h
  ·cases h
 ·rename_i n off k len c
  split at h
  ·rename_i e hu
   simp only[xU]at h
   obtain⟨hk,h⟩:=h
   have hd:=ask_underlying hu
   cases hx with
   |sl hn hle hc0 hc1 hA=>
   rename_i c' A
   split at h
   ·rename_i l hh hl hhi
    simp only[xU,xE]at h
    obtain⟨⟨h0,h1,h2⟩,rfl⟩:=h
    have hb:=bounds_none (P:=P) (len:=len) (cap:=c') hs true hl hhi h0 h1 (by omega)
    refine⟨_,run_slice_of hd hk hb,?_⟩
    rw[show(hh-l).toNat=hh.toNat-l.toNat from by omega]
    refine sl_cut hn hA ?_ ?_ ?_ <;>omega
   ·rename_i l hh mo hl hhi
    split at h
    ·rename_i m ho hm
     simp only[xU,xE]at h
     obtain⟨⟨h0,h1,h2,h3⟩,rfl⟩:=h
     have hb:=bounds_some (P:=P) (len:=len) (cap:=c') hs true hl hhi hm h0 h1 h2 (by omega)
     refine⟨_,run_slice_of hd hk hb,?_⟩
     rw[show(hh-l).toNat=hh.toNat-l.toNat from by omega]
     refine sl_cut hn hA ?_ ?_ ?_
     ·omega
     ·split <;>omega
     ·omega
    ·cases h
   ·cases h
  ·cases h
 ·rename_i k fs rows
  split at h
  ·rename_i e hu
   simp only[xU]at h
   obtain⟨hk,h⟩:=h
   have hd:=ask_underlying hu
   split at h
   ·rename_i l hh hl hhi
    simp only[xU,xE]at h
    obtain⟨⟨h0,h1,h2⟩,rfl⟩:=h
    obtain⟨A,c',rfl,hc',hv⟩:=lst_part (l:=l.toNat) (h:=hh.toNat) hx (by omega) (by omega)
    have hb:=bounds_none (P:=P) (len:=rows.size) (cap:=c') hs true hl hhi h0 h1 (by omega)
    exact⟨_,run_slice_of hd hk hb,hv⟩
   ·cases h
  ·cases h
 ·cases h
def apartV(P:Program)(t:TypeId)(cs:Array Value)(off:Nat):Option Value:=
 match ask P (isAgg t)with
 |some true=>match ask P (sizeOf t)with
  |some n=>some (.agg (cs.extract off (off+n)))
  |none=>none
 |some false=>cs[off]?
 |none=>none
theorem apartV_sound{P:Program}{ι:Ren}{w:World}{t:TypeId}{cs cs':Array Value}{off:Nat}{v:Value}(hc:VR ι w (.agg cs) (.agg cs'))(h:apartV P t cs off=some v):
  ∃v',(part t cs' off).run P w= .ok v' w/\VR ι w v v':=by
 cases hc with
 |agg hs hc=>
 unfold apartV at h
 unfold part
 split at h
 ·rename_i hagg
  split at h
  ·rename_i n hn
   cases h
   simp only[xW,ask_isAgg hagg w,xV,if_true,jM hn w,xX]
   refine⟨_,rfl, .agg (by simp[hs]) fun i v v' h1 h2=> ?_⟩
   rw[Array.getElem?_extract]at h1 h2
   split at h1
   ·split at h2
    ·exact hc _ v v' h1 h2
    ·cases h2
   ·cases h1
  ·cases h
 ·rename_i hagg
  have hlt:off<cs.size:=(xS.1 h).1
  have hlt':off<cs'.size:=hs▸hlt
  simp only[xW,ask_isAgg hagg w,xV,Bool.false_eq_true,if_false,wA hlt',xX]
  exact⟨_,rfl,hc off v _ h (by simp[hlt'])⟩
 ·cases h
def byteAt(s:ByteArray)(i:Nat):Int:=((s.data.toList.getD i 0).toNat:Int)
def amin2:Value->Value->Option Value
 | .int k x, .int k' y=>if k=k' then some (.int k (if y<x then y else x))else none
 |_,_=>none
def amax2:Value->Value->Option Value
 | .int k x, .int k' y=>if k=k' then some (.int k (if y>x then y else x))else none
 |_,_=>none
def alen(P:Program)(t:TypeId)(v:Value):Option Value:=
 match ask P (underlying t),v with
 |some .string, .string s=>some (.int .i64 s.size)
 |some (.slice _), .slice _ n _=>some (.int .i64 n)
 |some (.slice _), .func (.yield _) _ rows=>some (.int .i64 rows.size)
 |some (.array n _),_=>some (.int .i64 n)
 |_,_=>none
def aval(P:Program)(s:List Value):Op->Option Value
 | .move x=>some (ev s x)
 | .assign x=>some (ev s x)
 | .pick c a b=>match ev s c with
  | .bool p=>some (if p=true then ev s a else ev s b)
  |_=>none
 | .nilCheck x=>match ev s x with
  | .pointer (some a)=>some (.pointer (some a))
  | .func (.method m) fs cs=>some (.func (.method m) fs cs)
  |_=>none
 | .binOp op xt x y _=>kO P op xt (ev s x) (ev s y)
 | .unOp op _ x=>match op,ev s x with
  | .not, .bool b=>some (.bool !b)
  | .neg, .int k n=>chk k (0-n)
  |_,_=>none
 | .convert src dst x=>match ev s x with
  | .int _ n=>match ask P (underlying src),ask P (underlying dst)with
   |some _,some (.int k)=>chk k n
   |_,_=>none
  | .string b=>match ask P (underlying src),ask P (underlying dst)with
   |some _,some .string=>some (.string b)
   |_,_=>none
  |_=>none
 | .makeFunc fn first captured=>match fn with
  | .func f=>if first.size=0 then some (.func (.func f) #[] (captured.toList.map (ev s)).toArray)else none
  |_=>none
 | .makeInterface t x=>match ask P (underlying t)with
  |some (.interface _)=>none
  |some _=>some (.iface t (ev s x))
  |none=>none
 | .slice t x lo hi mx=>aslice P s t (ev s x) lo hi mx
 | .fieldAddr t x f=>match ask P (underlying t),ev s x with
  |some (.struct fs), .pointer (some ⟨n,off,none⟩)=>match fs[f]? with
   |some fd=>match ask P (sizeOf fd.type)with
    |some k=>if k≠0 then some (.pointer (some ⟨n,off+fd.offset,none⟩))else none
    |none=>none
   |none=>none
  |some (.struct fs), .func (.method _) _ cs=>match fs[f]? with
   |some fd=>match ask P (sizeOf fd.type)with
    |some k=>if k≠0/\fd.offset<=cs.size then some (.func (.method "") #[] (cs.extract fd.offset cs.size))else none
    |none=>none
   |none=>none
  |_,_=>none
 | .field t x f=>match ask P (underlying t),ev s x with
  |some (.struct fs), .agg cs=>match fs[f]? with
   |some fd=>apartV P fd.type cs fd.offset
   |none=>none
  |_,_=>none
 | .indexAddr t x ix=>match ask P (underlying t),ev s x,aint? (ev s ix)with
  |some (.slice e), .slice (some ⟨n,off,some k⟩) len _,some i=>match ask P (sizeOf e)with
   |some k'=>if k'=k/\0<=i/\i<len then some (.pointer (some ⟨n,off+i.toNat*k,none⟩))else none
   |none=>none
  |some (.slice e), .func (.yield k) _ rows,some i=>match ask P (sizeOf e)with
   |some k'=>if k'=k/\0<=i then match rows[i.toNat]? with
    |some (.agg r)=>some (.func (.method "") #[] r)
    |_=>none
    else none
   |none=>none
  |some (.array len e), .pointer (some ⟨n,off,none⟩),some i=>match ask P (sizeOf e)with
   |some k=>if 0<=i/\i<len then some (.pointer (some ⟨n,off+i.toNat*k,none⟩))else none
   |none=>none
  |_,_,_=>none
 | .index t x ix=>match ask P (underlying t),ev s x,aint? (ev s ix)with
  |some .string, .string b,some i=>if 0<=i/\i<b.size then some (.int .u8 (byteAt b i.toNat))else none
  |some (.array len e), .agg cs,some i=>match ask P (sizeOf e)with
   |some k=>if 0<=i/\i<len then apartV P e cs (i.toNat*k)else none
   |none=>none
  |_,_,_=>none
 | .extract x i=>match ev s x with
  | .tuple vs=>vs[i]?
  |_=>none
 | .build t parts=>abuild P t (parts.toList.map fun x=>(x.1,ev s x.2))
 | .call c=>match c.callee,c.args.toList,c.argTypes.toList with
  | .builtin .len,[x],t::_=>alen P t (ev s x)
  | .builtin .min,[x,y],_=>amin2 (ev s x) (ev s y)
  | .builtin .max,[x,y],_=>amax2 (ev s x) (ev s y)
  |_,_,_=>none
 |_=>none
theorem SR.list{ι:Ren}{w:World}{s:List Value}{a:Act}(hs:SR ι w s a.tmps)(xs:Array Operand):
  (xs.toList.map (SC.ev s)).toArray.size=(xs.map a.eval).size/\∀(i:Nat) v v',(xs.toList.map (SC.ev s)).toArray[i]? =some v->(xs.map a.eval)[i]? =some v'->VR ι w v v':=by
 refine⟨by simp,fun i v v' h1 h2=> ?_⟩
 simp only[wJ,wN,Array.getElem?_toList,Array.getElem?_map]at h1 h2
 cases hx:xs[i]? with
 |none=>rw[hx]at h1;cases h1
 |some x=>
  rw[hx]at h1 h2
  simp only[wK,xE]at h1 h2
  subst h1;subst h2
  exact hs.ev x
theorem byteAt_eq{b:ByteArray}{i:Nat}(h:i<b.size):b[i]? =some (b.data.toList.getD i 0):=by
 have h':i<b.data.size:=h
 rw[getElem?_pos b i h,xF,Array.getElem?_toList,wA h',Option.getD_some]
 rfl
theorem alen_sound{P:Program}{ι:Ren}{w:World}{t ty:TypeId}{ts:List TypeId}{v v' r:Value}(hv:VR ι w v v')(h:alen P t v=some r):
  (Builtin.len_ (t::ts).toArray ty #[v']).run P w= .ok r w:=by
 unfold alen at h
 split at h
 ·rename_i _ s hu
  cases h;cases hv
  simp[Builtin.len_,jI hu w,goInt]
 ·rename_i _ e A n c hu
  cases h
  have hx:∃A' c',v'= .slice A' n c':=by
   cases hv with
   |nils=>exact⟨_,_,rfl⟩
   |sl=>exact⟨_,_,rfl⟩
  obtain⟨A',c',rfl⟩:=hx
  simp[Builtin.len_,jI hu w,goInt]
 ·rename_i _ e k fs rows hu
  cases h
  have hx:∃A' c',v'= .slice A' rows.size c':=by
   cases hv with
   |lst0=>exact⟨_,_,rfl⟩
   |lst=>exact⟨_,_,rfl⟩
  obtain⟨A',c',rfl⟩:=hx
  simp[Builtin.len_,jI hu w,goInt]
 ·rename_i _ n e hu
  cases h
  simp[Builtin.len_,jI hu w,goInt]
 ·cases h
theorem amin_sound{P:Program}{ι:Ren}{w:World}{ty:TypeId}{ts:Array TypeId}{x y x' y' r:Value}(hx:VR ι w x x')(hy:VR ι w y y')(h:amin2 x y=some r):
  (Builtin.min_ ts ty #[x',y']).run P w= .ok r w/\VR ι w r r:=by
 unfold amin2 at h
 split at h
 ·simp only[xU,xE]at h
  obtain⟨rfl,rfl⟩:=h
  cases hx;cases hy
  exact⟨by simp[Builtin.min_,Builtin.min2], .int _ _⟩
 ·cases h
theorem amax_sound{P:Program}{ι:Ren}{w:World}{ty:TypeId}{ts:Array TypeId}{x y x' y' r:Value}(hx:VR ι w x x')(hy:VR ι w y y')(h:amax2 x y=some r):
  (Builtin.max_ ts ty #[x',y']).run P w= .ok r w/\VR ι w r r:=by
 unfold amax2 at h
 split at h
 ·simp only[xU,xE]at h
  obtain⟨rfl,rfl⟩:=h
  cases hx;cases hy
  exact⟨by simp[Builtin.max_,Builtin.max2], .int _ _⟩
 ·cases h
theorem ev_ptr{ι:Ren}{w:World}{n off:Nat}{v':Value}(h:VR ι w (.pointer (some ⟨n,off,none⟩)) v'):∃B base,ι n=some (.at B base)/\v'= .pointer (some ⟨B,base+off,none⟩):=by
 cases h with
 |ptr h=>exact⟨_,_,h,rfl⟩
theorem ev_vp{ι:Ren}{w:World}{m:String}{fs cells:Array Value}{v':Value}(h:VR ι w (.func (.method m) fs cells) v'):m= "" /\fs= #[]/\∃(B base:Nat) (cs:Array Value) (e:TypeId) (fr:Nat×Nat),v'= .pointer (some ⟨B,base,none⟩)/\ι.fz B/\w.heap[B]? =some (.cells cs e fr)/\
  base+cells.size<=cs.size/\∀(j:Nat) v v',cells[j]? =some v->cs[base+j]? =some v'->VR ι w v v':=by
 cases h with
 |vp h1 h2 h3 h4=>exact⟨rfl,rfl,_,_,_,_,_,rfl,h1,h2,h3,h4⟩
theorem aval_sound{P:Program}{ι:Ren}{w:World}{s:List Value}{a:Act}(hs:SR ι w s a.tmps){o:Oper}{v:Value}(h:aval P s o.op=some v):
  ∃v',(execOp a.eval o).run P w= .ok (.value v') w/\VR ι w v v':=by
 obtain⟨dst,op,type,pos,after,guard⟩:=o
 simp only at h
 unfold execOp
 cases op <;>simp only[aval]at h <;>try(cases h;done)
 case move x=>cases h;exact⟨_,rfl,hs.ev x⟩
 case assign x=>cases h;exact⟨_,rfl,hs.ev x⟩
 case pick c x y=>
  have hc:=hs.ev c
  split at h
  ·rename_i p hp
   rw[hp]at hc
   cases h
   generalize hcv:a.eval c=cv at hc
   cases hc
   simp only[xW,hcv,asBool,xX,xV]
   refine⟨_,rfl,?_⟩
   by_cases hp':p=true
   ·rw[if_pos hp',if_pos hp'];exact hs.ev x
   ·rw[if_neg hp',if_neg hp'];exact hs.ev y
  ·cases h
 case nilCheck x=>
  have hx:=hs.ev x
  split at h
  ·rename_i p hp
   rw[hp]at hx
   cases h
   generalize hxv:a.eval x=xv at hx
   simp only[hxv]
   cases hx with
   |ptr h=>exact⟨_,rfl, .ptr h⟩
  ·rename_i m fs cs hp
   rw[hp]at hx
   cases h
   generalize hxv:a.eval x=xv at hx
   simp only[hxv]
   obtain⟨_,_,B,base,cs',e,fr,rfl,_⟩:=ev_vp hx
   exact⟨_,rfl,hx⟩
  ·cases h
 case binOp op xt x y yt=>
  obtain⟨hr,hp⟩:=abin_sound (P:=P) (w:=w) x y h (hs.ev x) (hs.ev y)
  exact⟨v,by simp only[xW,xX]at hr ⊢;rw[hr];rfl,VR.plain hp⟩
 case unOp op xt x=>
  have hx:=hs.ev x
  split at h
  ·rename_i b hb
   rw[hb]at hx
   cases h
   generalize hxv:a.eval x=xv at hx
   cases hx
   simp only[hxv]
   exact⟨_,by simp[Op.unary], .bool _⟩
  ·rename_i k n hb
   rw[hb]at hx
   generalize hxv:a.eval x=xv at hx
   cases hx
   simp only[hxv]
   rw[chk_sound h]
   exact⟨_,by simp[Op.unary,Op.intArith], .int _ _⟩
  ·cases h
 case convert src dst x=>
  have hx:=hs.ev x
  split at h
  ·rename_i k n hb
   rw[hb]at hx
   split at h
   ·rename_i ds kd hsrc hdst
    generalize hxv:a.eval x=xv at hx
    cases hx
    simp only[hxv]
    rw[chk_sound h]
    refine⟨_,?_, .int _ _⟩
    simp only[convert,xW,jI hsrc w,jI hdst w,xV,Conv.intToInt,xX]
   ·cases h
  ·rename_i b hb
   rw[hb]at hx
   split at h
   ·rename_i ds hsrc hdst
    cases h
    generalize hxv:a.eval x=xv at hx
    cases hx
    simp only[hxv]
    refine⟨_,?_, .string _⟩
    simp only[convert,xW,jI hsrc w,jI hdst w,xV,xX]
   ·cases h
  ·cases h
 case makeFunc fn first captured=>
  split at h
  ·rename_i f
   simp only[xU,xE]at h
   obtain⟨hf,rfl⟩:=h
   have hfe:first= #[]:=Array.eq_empty_of_size_eq_zero hf
   subst hfe
   obtain⟨h1,h2⟩:=hs.list captured
   exact⟨_,by simp[Instr.makeFunc], .func h1 h2⟩
  ·cases h
 case makeInterface t x=>
  split at h
  ·cases h
  ·rename_i d hne hd
   cases h
   refine⟨.iface t (a.eval x),?_, .iface (hs.ev x)⟩
   simp only[Instr.makeInterface,xW,jI hd w,xV]
   cases d <;>first|rfl|exact absurd rfl (hne _)
  ·cases h
 case slice t x lo hi mx=>
  obtain⟨v',h1,h2⟩:=aslice_sound (P:=P) hs (hs.ev x) h
  exact⟨v',by simp only[xW,h1,xV,xX],h2⟩
 case fieldAddr t x f=>
  have hx:=hs.ev x
  split at h
  ·rename_i fs n off hu hp
   rw[hp]at hx
   split at h
   ·rename_i fd hfd
    split at h
    ·rename_i k hk
     simp only[xU,xE]at h
     obtain⟨hk0,rfl⟩:=h
     obtain⟨B,base,hn,hxv⟩:=ev_ptr hx
     refine⟨.pointer (some ⟨B,base+(off+fd.offset),none⟩),?_, .ptr hn⟩
     simp only[Instr.fieldAt,xW,jI hu w,xV,hfd,hxv,Instr.sureAddr,xX,fieldPlace,jM hk w,if_neg hk0,zD,Nat.add_assoc]
    ·cases h
   ·cases h
  ·rename_i fs m fst cs hu hp
   rw[hp]at hx
   split at h
   ·rename_i fd hfd
    split at h
    ·rename_i k hk
     simp only[xU,xE]at h
     obtain⟨⟨hk0,hle⟩,rfl⟩:=h
     obtain⟨rfl,_,B,base,cs',e,fr,hxv,h1,h2,h3,h4⟩:=ev_vp hx
     refine⟨.pointer (some ⟨B,base+fd.offset,none⟩),?_, .vp h1 h2 (by simp;omega) fun j v v' g1 g2=>h4 (fd.offset+j) v v' ?_ (by rw[<-Nat.add_assoc];exact g2)⟩
     ·simp only[Instr.fieldAt,xW,jI hu w,xV,hfd,hxv,Instr.sureAddr,xX,fieldPlace,jM hk w,if_neg hk0,zD,Nat.add_assoc]
     ·rw[Array.getElem?_extract]at g1
      split at g1
      ·exact g1
      ·cases g1
    ·cases h
   ·cases h
  ·cases h
 case field t x f=>
  have hx:=hs.ev x
  split at h
  ·rename_i fs cs hu hp
   rw[hp]at hx
   split at h
   ·rename_i fd hfd
    obtain⟨cs',hxv⟩:=hx.aggOut
    rw[hxv]at hx
    obtain⟨v',h1,h2⟩:=apartV_sound (P:=P) hx h
    refine⟨v',?_,h2⟩
    simp only[Instr.field,xW,jI hu w,xV,hfd,hxv,asAgg,xX,h1]
   ·cases h
  ·cases h
 case indexAddr t x ix=>
  have hx:=hs.ev x
  split at h
  ·rename_i e n off k len c i hu hp hi
   rw[hp]at hx
   obtain⟨ki,hi⟩:=kC hs hi
   split at h
   ·rename_i k' hk
    simp only[xU,xE]at h
    obtain⟨⟨rfl,h0,h1⟩,rfl⟩:=h
    generalize hxv:a.eval x=xv at hx
    cases hx with
    |sl hn hle hc0 hc1 hA=>
     rcases hA with hA|⟨B,base,size,hb,rfl,_,_⟩
     ·omega
     ·refine⟨.pointer (some ⟨B,base+(off+i.toNat*k'),none⟩),?_, .ptr hb⟩
      simp only[Instr.indexAt,xW,hxv,hi,asIntOf,jI hu w,xV,xX]
      simp[h0,h1,jM hk w,zD,Nat.add_assoc]
   ·cases h
  ·rename_i e k fs rows i hu hp hi
   rw[hp]at hx
   obtain⟨ki,hi⟩:=kC hs hi
   split at h
   ·rename_i k' hk
    simp only[xU]at h
    obtain⟨⟨rfl,h0⟩,h⟩:=h
    split at h
    ·rename_i r hr
     cases h
     generalize hxv:a.eval x=xv at hx
     cases hx with
     |lst0=>simp at hr
     |lst hfz hB hl hsz hrr hc=>
      rename_i B base c' cs e1 fr
      have hlt:i.toNat<rows.size:=(xS.1 hr).1
      obtain⟨r',he,hrs⟩:=hrr _ _ hr
      cases he
      have hm:i.toNat*k'+k'<=c'*k':=by
       have:i.toNat*k'+k'=(i.toNat+1)*k':=(Nat.succ_mul _ _).symm
       rw[this];exact Nat.mul_le_mul_right _ (by omega)
      refine⟨.pointer (some ⟨B,base+i.toNat*k',none⟩),?_, .vp hfz hB (by omega) fun j v v' g1 g2=>hc _ j r v v' hr g1 g2⟩
      simp only[Instr.indexAt,xW,hxv,hi,asIntOf,jI hu w,xV,xX]
      have h1:i<rows.size:=by omega
      simp[h0,h1,jM hk w,zD]
    ·cases h
   ·cases h
  ·rename_i len e n off i hu hp hi
   rw[hp]at hx
   obtain⟨ki,hi⟩:=kC hs hi
   split at h
   ·rename_i k hk
    simp only[xU,xE]at h
    obtain⟨⟨h0,h1⟩,rfl⟩:=h
    obtain⟨B,base,hn,hxv⟩:=ev_ptr hx
    refine⟨.pointer (some ⟨B,base+(off+i.toNat*k),none⟩),?_, .ptr hn⟩
    simp only[Instr.indexAt,xW,hxv,hi,asIntOf,jI hu w,xV,xX,Instr.sureAddr]
    simp[h0,h1,jM hk w,zD,Nat.add_assoc]
   ·cases h
  ·cases h
 case index t x ix=>
  have hx:=hs.ev x
  split at h
  ·rename_i b i hu hp hi
   rw[hp]at hx
   obtain⟨ki,hi⟩:=kC hs hi
   simp only[xU,xE]at h
   obtain⟨⟨h0,h1⟩,rfl⟩:=h
   generalize hxv:a.eval x=xv at hx
   cases hx
   refine⟨_,?_, .int _ _⟩
   simp only[Instr.index,xW,hxv,hi,asIntOf,jI hu w,xV,xX]
   rw[if_pos h0,byteAt_eq (by omega)]
   rfl
  ·rename_i len e cs i hu hp hi
   rw[hp]at hx
   obtain⟨ki,hi⟩:=kC hs hi
   split at h
   ·rename_i k hk
    simp only[xU]at h
    obtain⟨⟨h0,h1⟩,h⟩:=h
    obtain⟨cs',hxv⟩:=hx.aggOut
    rw[hxv]at hx
    obtain⟨v',h2,h3⟩:=apartV_sound (P:=P) hx h
    refine⟨v',?_,h3⟩
    simp only[Instr.index,xW,hxv,hi,asIntOf,jI hu w,xV,xX]
    simp[h0,h1,jM hk w,h2]
   ·cases h
  ·cases h
 case extract x i=>
  have hx:=hs.ev x
  split at h
  ·rename_i vs hp
   rw[hp]at hx
   generalize hxv:a.eval x=xv at hx
   cases hx with
   |tuple hsz ht=>
    rename_i ys
    have hlt:i<vs.size:=(xS.1 h).1
    have hlt':i<ys.size:=hsz▸hlt
    refine⟨ys[i],?_,ht i v _ h (by simp[hlt'])⟩
    simp[Instr.extract,hxv,hlt']
  ·cases h
 case build t parts=>
  obtain⟨v',h1,h2⟩:=abuild_sound (P:=P) hs parts h
  exact⟨v',by simp only[xW,h1,xV,xX],h2⟩
 case call c=>
  obtain⟨callee,args,ts⟩:=c
  simp only at h
  split at h
  ·rename_i _ x t rest hx ht
   obtain rfl:args= #[x]:=by cases args;simp_all
   obtain rfl:ts=(t::rest).toArray:=by cases ts;simp_all
   have:=alen_sound (P:=P) (ty:=type) (ts:=rest) (hs.ev x) h
   refine⟨v,?_,?_⟩
   ·simp only[resolve,invoke,builtin,xW,xX,xV,List.map_toArray,List.map_cons,List.map_nil,this]
   ·unfold alen at h
    split at h <;>first|(cases h;done)|(cases h;exact .int _ _)
  ·rename_i _ x y hx
   obtain rfl:args= #[x,y]:=by cases args;simp_all
   obtain⟨h1,h2⟩:=amin_sound (P:=P) (ty:=type) (ts:=ts) (hs.ev x) (hs.ev y) h
   exact⟨v,by simp only[resolve,invoke,builtin,xW,xX,xV,List.map_toArray,List.map_cons,List.map_nil,h1],h2⟩
  ·rename_i _ x y hx
   obtain rfl:args= #[x,y]:=by cases args;simp_all
   obtain⟨h1,h2⟩:=amax_sound (P:=P) (ty:=type) (ts:=ts) (hs.ev x) (hs.ev y) h
   exact⟨v,by simp only[resolve,invoke,builtin,xW,xX,xV,List.map_toArray,List.map_cons,List.map_nil,h1],h2⟩
  ·cases h
theorem cell_of{w:World}{B:Nat}{cs:Array Value}{e:TypeId}{fr:Nat×Nat}(h:w.heap[B]? =some (.cells cs e fr))(o:Nat):w.cell? ⟨B,o,none⟩=cs[o]? :=by
 simp[World.cell?,h]
theorem frozen_of{w:World}{B:Nat}{cs:Array Value}{e:TypeId}{fr:Nat×Nat}(h:w.heap[B]? =some (.cells cs e fr)){o:Nat}(hu:Unfr fr cs.size)(ho:o<cs.size):w.frozen? ⟨B,o,none⟩=false:=by
 have:=hu o ho
 simp only[World.frozen?,h]
 simpa using this
theorem alloc_old{w:World}{o:Obj}{B:Nat}{x:Obj}(h:w.heap[B]? =some x):(w.alloc o).heap[B]? =some x:=by
 have hlt:B<w.heap.size:=(xS.1 h).1
 rw[RowKit.Below.heap_alloc w o B hlt,h]
theorem alloc_new(w:World)(o:Obj):(w.alloc o).heap[w.heap.size]? =some o:=by
 show(w.heap.push o)[w.heap.size]? =some o
 simp
theorem rows_alloc(w:World)(o:Obj):Rows' w (w.alloc o):=fun _ cs _ fr h=>⟨cs,fr,alloc_old h,rfl⟩
theorem fro_alloc(ι:Ren)(w:World)(o:Obj):Fro ι w (w.alloc o):=⟨rows_alloc w o,fun _ _ _ _ _ h=>alloc_old h⟩
theorem setCell_same{w:World}{B:Nat}{cs:Array Value}{e:TypeId}{fr:Nat×Nat}(h:w.heap[B]? =some (.cells cs e fr))(o:Nat)(v:Value):
  (w.setCell ⟨B,o,none⟩ v).heap[B]? =some (.cells (cs.setIfInBounds o v) e fr):=by
 simp[World.setCell,Array.getElem?_modify,h]
theorem zM{w:World}{B B':Nat}(o:Nat)(v:Value)(h:B'≠B):(w.setCell ⟨B,o,none⟩ v).heap[B']? =w.heap[B']? :=
 RowKit.Below.heap_setCell w ⟨B,o,none⟩ v B' h
theorem rows_setCell(w:World)(B o:Nat)(v:Value):Rows' w (w.setCell ⟨B,o,none⟩ v):=fun B' cs e fr h=>by
 by_cases hB:B'=B
 ·subst hB
  exact⟨_,fr,setCell_same h o v,by simp⟩
 ·exact⟨cs,fr,by rw[zM o v hB,h],rfl⟩
theorem fro_setCell{ι:Ren}(w:World)(B o:Nat)(v:Value)(h:¬ι.fz B):Fro ι w (w.setCell ⟨B,o,none⟩ v):=
 ⟨rows_setCell w B o v,fun B' cs e fr h1 h2=>by rw[zM o v (fun(e:B'=B)=>h (by rw[<-e];exact h1)),h2]⟩
theorem Keep.alloc(A:Nat->Prop){ι ι':Ren}(w:World)(o:Obj)(hf:FzLe ι ι':=by exact FzLe.refl _)(hg:∀B,ι'.fz B->ι.fz B\/A B:=by exact fun _ h=> .inl h):Keep A ι w ι' (w.alloc o):=
 ⟨rfl,rfl,rfl,by simp,fun B hB _=>RowKit.Below.heap_alloc w o B hB,fro_alloc ι w o,hf,hg⟩
theorem Keep.setCell{A:Nat->Prop}{ι:Ren}(w:World){B:Nat}(o:Nat)(v:Value)(hA:A B)(hz:¬ι.fz B):Keep A ι w ι (w.setCell ⟨B,o,none⟩ v):=
 ⟨rfl,rfl,rfl,by simp,fun B' _ hA'=>zM o v (fun h=>hA' (h▸hA)),fro_setCell w B o v hz,FzLe.refl _,fun _ h=> .inl h⟩
theorem MapOK.alloc{w:World}{B:Nat}{p:Array Value}(h:MapOK w B p)(o:Obj):MapOK (w.alloc o) B p:=by
 obtain⟨es,c,h1,h2⟩:=h
 exact⟨es,c,alloc_old h1,h2⟩
theorem MapOK.other{w w':World}{B:Nat}{p:Array Value}(h:MapOK w B p)(hB:w'.heap[B]? =w.heap[B]?):MapOK w' B p:=by
 obtain⟨es,c,h1,h2⟩:=h
 exact⟨es,c,hB.trans h1,h2⟩
theorem MapOK.setCell{w:World}{B B':Nat}{p:Array Value}(h:MapOK w B p){cs:Array Value}{e:TypeId}{fr:Nat×Nat}(hc:w.heap[B']? =some (.cells cs e fr))(o:Nat)(v:Value):MapOK (w.setCell ⟨B',o,none⟩ v) B p:=by
 obtain⟨es,c,h1,h2⟩:=h
 have hne:B≠B':=fun e=>by subst e;rw[h1]at hc;cases hc
 exact⟨es,c,(zM o v hne).trans h1,h2⟩
theorem zP(P:Program){w:World}{B:Nat}{cs:Array Value}{e:TypeId}{fr:Nat×Nat}(h:w.heap[B]? =some (.cells cs e fr))(o:Nat):
  ∀(n i:Nat) (acc:Array Value),o+i+n<=cs.size->(loadCellsFrom ⟨B,o,none⟩ i n acc).run P w= .ok (acc++cs.extract (o+i) (o+i+n)) w
 |0,i,acc,_=>by simp[loadCellsFrom];omega
 |n+1,i,acc,hle=>by
  have hlt:o+i<cs.size:=by omega
  simp only[loadCellsFrom,xW,run_load,zD,cell_of h,wA hlt,xV]
  rw[zP P h o n (i+1) _ (by omega)]
  congr 1
  apply Array.ext'
  simp only[Array.toList_append,Array.toList_push,Array.toList_extract,List.extract_eq_take_drop,xL]
  congr 1
  rw[show o+i+(n+1)-(o+i)=n+1 from by omega,show o+(i+1)+n-(o+(i+1))=n from by omega,show o+(i+1)=o+i+1 from by omega]
  have hd:cs.toList.drop (o+i)=cs[o+i]::cs.toList.drop (o+i+1):=by
   rw[wI (by simpa using hlt)];simp
  rw[hd]
  simp
def vX(P:Program)(t:TypeId)(b:Blk)(off:Nat):Option Value:=
 match ask P (isAgg t)with
 |some true=>match ask P (sizeOf t)with
  |some n=>if 0<n/\off+n<=b.cells.length then some (.agg ((b.cells.drop off).take n).toArray)else none
  |none=>none
 |some false=>b.cells[off]?
 |none=>none
theorem Rel.at_{A:Nat->Prop}{ι:Ren}{H:AH}{Bd:Nat}{w:World}(h:Rel A ι H Bd w){n:Nat}{b:Blk}(hb:H n=some b)(hne:b.cells≠[]):
  ∃B base cs e fr,ι n=some (.at B base)/\w.heap[B]? =some (.cells cs e fr)/\(b.own=true->A B/\Unfr fr cs.size)/\(b.own=false->¬A B)/\
   ∀i v,b.cells[i]? =some v->∃v',cs[base+i]? =some v'/\VR ι w v v':=by
 rcases h.blk n b hb with⟨_,hc⟩|h
 ·exact absurd hc hne
 ·exact h
theorem aload_sound{P:Program}{A:Nat->Prop}{ι:Ren}{H:AH}{Bd:Nat}{w:World}(hr:Rel A ι H Bd w){n off:Nat}{b:Blk}{t:TypeId}{v x':Value}(hb:H n=some b)
  (hx:VR ι w (.pointer (some ⟨n,off,none⟩)) x') (h:vX P t b off=some v):∃v',(Instr.loadAt t x').run P w= .ok v' w/\VR ι w v v':=by
 obtain⟨B,base,hn,rfl⟩:=ev_ptr hx
 rcases hr.blk n b hb with⟨hv,_⟩|⟨B',base',cs,e,fr,hn',hB,_,_,hc⟩
 ·rw[hn]at hv;cases hv
 rw[hn]at hn'
 cases hn'
 unfold vX at h
 simp only[Instr.loadAt,Instr.sureAddr,xW,xX,xV,loadVar]
 split at h
 ·rename_i hagg
  split at h
  ·rename_i k hk
   simp only[xU,xE]at h
   obtain⟨⟨hk0,hle⟩,rfl⟩:=h
   have hsz:base+off+k<=cs.size:=by
    obtain⟨v',h3,_⟩:=hc (off+k-1) (b.cells[off+k-1]'(by omega)) (by simp)
    have:=(xS.1 h3).1;omega
   simp only[ask_isAgg hagg w,xV,if_true,xW,jM hk w,loadCells,zP P hB (base+off) k 0 #[] (by omega),xX,Nat.add_zero]
   refine⟨_,rfl, .agg ?_ ?_⟩
   ·simp;omega
   ·intro i u u' h1 h2
    simp only[wJ,List.getElem?_take,wP]at h1
    split at h1
    ·rename_i hi
     obtain⟨u2,h3,h4⟩:=hc (off+i) u h1
     have:u'=u2:=by
      have h2':cs[base+off+i]? =some u':=by
       have hlt:base+off+i<base+off+k:=by omega
       rw[Array.empty_append,Array.getElem?_extract]at h2
       split at h2
       ·exact h2
       ·cases h2
      rw[Nat.add_assoc,h3]at h2'
      cases h2';rfl
     subst this
     exact h4
    ·cases h1
  ·cases h
 ·rename_i hagg
  obtain⟨v',h3,h4⟩:=hc off v h
  simp only[ask_isAgg hagg w,xV,Bool.false_eq_true,if_false,run_load,cell_of hB,h3]
  exact⟨v',rfl,h4⟩
 ·cases h
theorem vload_sound{P:Program}{ι:Ren}{w:World}{m:String}{fs cells:Array Value}{t:TypeId}{v x':Value}(hx:VR ι w (.func (.method m) fs cells) x')(h:vX P t ⟨cells.toList,false⟩ 0=some v):
  ∃v',(Instr.loadAt t x').run P w= .ok v' w/\VR ι w v v':=by
 obtain⟨rfl,rfl,B,base,cs,e,fr,rfl,hfz,hB,hsz,hc⟩:=ev_vp hx
 unfold vX at h
 simp only[Instr.loadAt,Instr.sureAddr,xW,xX,xV,loadVar]
 split at h
 ·rename_i hagg
  split at h
  ·rename_i k hk
   simp only[xU,xE]at h
   obtain⟨⟨hk0,hle⟩,rfl⟩:=h
   simp only[Nat.zero_add,Array.length_toList]at hle
   simp only[ask_isAgg hagg w,xV,if_true,xW,jM hk w,loadCells,zP P hB base k 0 #[] (by omega),xX,Nat.add_zero]
   refine⟨_,rfl, .agg ?_ ?_⟩
   ·simp;omega
   ·intro i u u' h1 h2
    simp only[wJ,List.getElem?_take,wP,Nat.zero_add]at h1
    split at h1
    ·rename_i hi
     rw[Array.empty_append,Array.getElem?_extract]at h2
     split at h2
     ·exact hc i u u' (by simpa using h1) h2
     ·cases h2
    ·cases h1
  ·cases h
 ·rename_i hagg
  simp only[Array.getElem?_toList]at h
  have hlt:0<cells.size:=(xS.1 h).1
  have h3:cs[base]? =some (cs[base]'(by omega)):=by simp
  simp only[ask_isAgg hagg w,xV,Bool.false_eq_true,if_false,run_load,cell_of hB,h3]
  exact⟨_,rfl,hc 0 v _ h (by rw[Nat.add_zero];exact h3)⟩
 ·cases h
def ren(ι:Ren)(m:Nat)(l:Loc):Ren:=⟨fun n=>if n=m then some l else ι n,ι.fz,ι.mp⟩
theorem jG(ι:Ren)(m:Nat)(l:Loc):ren ι m l m=some l:=by simp[ren]
theorem qX(ι:Ren){m n:Nat}(l:Loc)(h:n≠m):ren ι m l n=ι n:=by simp[ren,h]
theorem ext_ren{ι:Ren}{m:Nat}(l:Loc)(h:ι m=none):Ext ι (ren ι m l):=⟨fun n x hx=>by
 by_cases e:n=m
 ·subst e;rw[h]at hx;cases hx
 ·rw[qX ι l e,hx],FzLe.refl ι⟩
theorem Rel.raise{A:Nat->Prop}{ι:Ren}{H:AH}{Bd Bd':Nat}{w:World}(h:Rel A ι H Bd w)(hle:Bd<=Bd'):Rel A ι H Bd' w:=
 ⟨fun n hn=>h.bound n (wE hle hn),h.blk,h.apart,h.newA,h.froz,h.fzlt,h.glob,h.mp⟩
theorem Rel.lt{A:Nat->Prop}{ι:Ren}{H:AH}{Bd:Nat}{w:World}(h:Rel A ι H Bd w){n B base:Nat}{b:Blk}(hb:H n=some b)(hι:ι n=some (.at B base)):B<w.heap.size:=by
 rcases h.blk n b hb with⟨hv,_⟩|⟨B',base',cs,e,fr,h1,h2,_⟩
 ·rw[hι]at hv;cases hv
 ·rw[hι]at h1;cases h1
  exact(xS.1 h2).1
theorem Rel.mapped{A:Nat->Prop}{ι:Ren}{H:AH}{Bd:Nat}{w:World}(h:Rel A ι H Bd w){n:Nat}{b:Blk}(hb:H n=some b):∃l,ι n=some l:=by
 rcases h.blk n b hb with⟨hv,_⟩|⟨B',base',cs,e,fr,h1,_⟩
 ·exact⟨_,hv⟩
 ·exact⟨_,h1⟩
theorem Rel.named{A:Nat->Prop}{ι:Ren}{H:AH}{Bd:Nat}{w:World}(h:Rel A ι H Bd w){n:Nat}{b:Blk}(hb:H n=some b):n<Bd:=by
 obtain⟨l,hl⟩:=h.mapped hb
 rcases xM n Bd with hn|hn
 ·exact hn
 ·rw[h.bound n hn]at hl;cases hl
theorem Rel.new{A:Nat->Prop}{ι:Ren}{H:AH}{Bd:Nat}{w:World}(hr:Rel A ι H Bd w){m:Nat}(hm:ι m=none)(hb:m<Bd){L:List Value}{cs:Array Value}{e:TypeId}{fr:Nat×Nat}
  (hL:∀(i:Nat) v,L[i]? =some v->∃v',cs[i]? =some v'/\VR ι w v v') (hu:Unfr fr cs.size):
  Rel A (ren ι m (.at w.heap.size 0)) (upd H m (some ⟨L,true⟩)) Bd (w.alloc (.cells cs e fr)):=by
 have hx:=ext_ren (.at w.heap.size 0) hm
 have hw:=fro_alloc ι w (.cells cs e fr)
 refine⟨fun n hn=> ?_,fun n b hn=> ?_,fun n k b b' B base B' base' hne h1 h2 ho i1 i2=> ?_,fun B hB=>hr.newA B (by simp at hB;omega),fun n b B base h1 ho i1 hz=> ?_,fun B hB=>by have:=hr.fzlt B hB;simp;omega,fun n b hn hq=> ?_,fun B p hp=>⟨(hr.mp B p hp).1,(hr.mp B p hp).2.alloc _⟩⟩
 ·rw[qX _ _ (by omega)];exact hr.bound n hn
 ·by_cases e1:n=m
  ·subst e1
   rw[qJ]at hn
   cases hn
   refine .inr ⟨w.heap.size,0,cs,e,fr,jG _ _ _,alloc_new _ _,fun _=>⟨hr.newA _ (xC _),hu⟩,fun h=>by(cases h),fun i v hv=> ?_⟩
   obtain⟨v',h3,h4⟩:=hL i v hv
   exact⟨v',by simpa using h3,h4.mono hx hw⟩
  ·rw[qD H _ e1]at hn
   refine(hr.blk n b hn).mono hx hw fun B base hB=> ?_
   exact RowKit.Below.heap_alloc w _ B (hr.lt hn hB)
 ·by_cases e1:n=m
  ·subst e1
   rw[jG]at i1
   cases i1
   have hk:k≠n:=fun h=>hne h.symm
   rw[qX _ _ hk]at i2
   rw[qD H _ hk]at h2
   have:=hr.lt h2 i2
   omega
  ·rw[qD H _ e1]at h1
   rw[qX _ _ e1]at i1
   by_cases e2:k=m
   ·subst e2
    rw[jG]at i2
    cases i2
    have:=hr.lt h1 i1
    omega
   ·rw[qD H _ e2]at h2
    rw[qX _ _ e2]at i2
    exact hr.apart n k b b' B base B' base' hne h1 h2 ho i1 i2
 ·by_cases e1:n=m
  ·subst e1
   rw[jG]at i1
   cases i1
   exact Nat.lt_irrefl _ (hr.fzlt _ hz)
  ·rw[qD H _ e1]at h1
   rw[qX _ _ e1]at i1
   exact hr.froz n b B base h1 ho i1 hz
 ·by_cases e1:n=m
  ·subst e1;rw[qJ]at hn;cases hn;cases hq
  ·rw[qD H _ e1]at hn;exact⟨(qX _ _ e1).trans (hr.glob n b hn hq).1,(hr.glob n b hn hq).2.mono hw.rows⟩
theorem Rel.void{A:Nat->Prop}{ι:Ren}{H:AH}{Bd:Nat}{w:World}(hr:Rel A ι H Bd w){m:Nat}(hm:ι m=none)(hb:m<Bd):
  Rel A (ren ι m .void) (upd H m (some ⟨[],true⟩)) Bd w:=by
 have hx:=ext_ren (.void) hm
 refine⟨fun n hn=> ?_,fun n b hn=> ?_,fun n k b b' B base B' base' hne h1 h2 ho i1 i2=> ?_,hr.newA,fun n b B base h1 ho i1 hz=> ?_,hr.fzlt,fun n b hn hq=> ?_,hr.mp⟩
 ·rw[qX _ _ (by omega)];exact hr.bound n hn
 ·by_cases e1:n=m
  ·subst e1
   rw[qJ]at hn
   cases hn
   exact .inl ⟨jG _ _ _,rfl⟩
  ·rw[qD H _ e1]at hn
   exact(hr.blk n b hn).mono hx (Fro.refl ι w) fun B base hB=>rfl
 ·by_cases e1:n=m
  ·subst e1
   rw[jG]at i1
   cases i1
  ·rw[qD H _ e1]at h1
   rw[qX _ _ e1]at i1
   by_cases e2:k=m
   ·subst e2
    rw[jG]at i2
    cases i2
   ·rw[qD H _ e2]at h2
    rw[qX _ _ e2]at i2
    exact hr.apart n k b b' B base B' base' hne h1 h2 ho i1 i2
 ·by_cases e1:n=m
  ·subst e1
   rw[jG]at i1
   cases i1
  ·rw[qD H _ e1]at h1
   rw[qX _ _ e1]at i1
   exact hr.froz n b B base h1 ho i1 hz
 ·by_cases e1:n=m
  ·subst e1;rw[qJ]at hn;cases hn;cases hq
  ·rw[qD H _ e1]at hn;exact⟨(qX _ _ e1).trans (hr.glob n b hn hq).1,(hr.glob n b hn hq).2⟩
theorem Rel.sub{A:Nat->Prop}{ι:Ren}{H H':AH}{Bd:Nat}{w:World}(hr:Rel A ι H Bd w)(h:∀n b,H' n=some b->H n=some b):Rel A ι H' Bd w:=
 ⟨hr.bound,fun n b hn=>hr.blk n b (h n b hn),fun n m b b' B base B' base' hne h1 h2=>hr.apart n m b b' B base B' base' hne (h n b h1) (h m b' h2),hr.newA,fun n b B base h1=>hr.froz n b B base (h n b h1),hr.fzlt,fun n b h1=>hr.glob n b (h n b h1),hr.mp⟩
theorem Rel.kill{A:Nat->Prop}{ι:Ren}{H:AH}{Bd:Nat}{w:World}(hr:Rel A ι H Bd w)(m:Nat):Rel A ι (upd H m none) Bd w:=
 hr.sub fun n b hn=>by
  by_cases e:n=m
  ·subst e;rw[qJ]at hn;cases hn
  ·rw[qD H _ e]at hn;exact hn
theorem Rel.set{A:Nat->Prop}{ι:Ren}{H:AH}{Bd:Nat}{w:World}(hr:Rel A ι H Bd w){n off B base:Nat}{b:Blk}{v v':Value}(hb:H n=some b)(ho:b.own=true)(hι:ι n=some (.at B base))
  (hv:VR ι w v v'):Rel A ι (upd H n (some ⟨b.cells.set off v,true⟩)) Bd (w.setCell ⟨B,base+off,none⟩ v')/\A B/\¬ι.fz B:=by
 obtain⟨B1,base1,cs,e,fr,h1,h2,h3,h4,h5⟩:∃B base cs e fr,ι n=some (.at B base)/\w.heap[B]? =some (.cells cs e fr)/\(b.own=true->A B/\Unfr fr cs.size)/\(b.own=false->¬A B)/\
   ∀i v,b.cells[i]? =some v->∃v',cs[base+i]? =some v'/\VR ι w v v':=by
  rcases hr.blk n b hb with⟨hvd,_⟩|h
  ·rw[hι]at hvd;cases hvd
  ·exact h
 rw[hι]at h1
 cases h1
 have hnz:=hr.froz n b B base hb ho hι
 have hw:=fro_setCell w B (base+off) v' hnz
 have hx:=Ext.refl ι
 refine⟨⟨hr.bound,fun k c hk=> ?_,fun k m c c' B1 b1 B2 b2 hne g1 g2 go i1 i2=> ?_,fun B' hB'=>hr.newA B' (by simpa using hB'),fun k c B1 b1 g1 go i1=> ?_,fun B' hB'=>by simpa using hr.fzlt B' hB',fun k c hk hq=> ?_,fun B' p hp=>⟨(hr.mp B' p hp).1,(hr.mp B' p hp).2.setCell h2 _ _⟩⟩,(h3 ho).1,hnz⟩
 ·by_cases e1:k=n
  ·subst e1
   rw[qJ]at hk
   cases hk
   refine .inr ⟨B,base,_,e,fr,hι,setCell_same h2 _ _,fun _=>⟨(h3 ho).1,by simpa using(h3 ho).2⟩,fun h=>by(cases h),fun i u hu=> ?_⟩
   by_cases e2:off=i
   ·subst e2
    have hlt:off<b.cells.length:=by have:=(xR.1 hu).1;simpa using this
    rw[List.getElem?_set_self hlt]at hu
    cases hu
    obtain⟨u',g1,_⟩:=h5 off b.cells[off] (by simp[hlt])
    have hlt':base+off<cs.size:=(xS.1 g1).1
    exact⟨v',by rw[Array.getElem?_setIfInBounds_self_of_lt hlt'],hv.mono hx hw⟩
   ·rw[wS e2]at hu
    obtain⟨u',g1,g2⟩:=h5 i u hu
    exact⟨u',by rw[Array.getElem?_setIfInBounds_ne (by omega)];exact g1,g2.mono hx hw⟩
  ·rw[qD H _ e1]at hk
   refine(hr.blk k c hk).mono hx hw fun B' base' hB'=> ?_
   exact zM _ _ (hr.apart n k b c B base B' base' (fun h=>e1 h.symm) hb hk ho hι hB').symm
 ·by_cases e1:k=n
  ·subst e1
   rw[qD H _ (fun h=>hne h.symm)]at g2
   exact hr.apart k m b c' B1 b1 B2 b2 hne hb g2 ho i1 i2
  ·rw[qD H _ e1]at g1
   by_cases e2:m=n
   ·subst e2
    exact hr.apart k m c b B1 b1 B2 b2 hne g1 hb go i1 i2
   ·rw[qD H _ e2]at g2
    exact hr.apart k m c c' B1 b1 B2 b2 hne g1 g2 go i1 i2
 ·by_cases e1:k=n
  ·subst e1
   exact hr.froz k b B1 b1 hb ho i1
  ·rw[qD H _ e1]at g1
   exact hr.froz k c B1 b1 g1 go i1
 ·by_cases e1:k=n
  ·subst e1;rw[qJ]at hk;cases hk;cases hq
  ·rw[qD H _ e1]at hk;exact⟨(hr.glob k c hk hq).1,(hr.glob k c hk hq).2.mono hw.rows⟩
def lset(cells:List Value)(off:Nat):List Value->List Value
 |[]=>cells
 |v::r=>lset (cells.set off v) (off+1) r
def kP:Value->Bool
 | .agg _| .tuple _| .chan none=>false
 |_=>true
theorem cellOK_one{ι:Ren}{w:World}{v v':Value}(h:VR ι w v v')(hc:kP v=true):v'.oneCell'=true:=by
 cases h <;>first|rfl|(simp[kP]at hc)
theorem upd_upd(H:AH)(n:Nat)(b c:Option Blk):upd (upd H n b) n c=upd H n c:=by
 funext m;simp only[upd];split <;>rfl
theorem storeCells_run(P:Program){A:Nat->Prop}{ι:Ren}{Bd B base n:Nat}(o:Nat):
  ∀(vs vs':List Value) (H:AH) (w:World) (b:Blk) (i:Nat),Rel A ι H Bd w->H n=some b->b.own=true->ι n=some (.at B base)->LR ι w vs vs'->vs.all kP=true->o+i+vs.length<=b.cells.length->
   ∃w',(storeCells ⟨B,base+o,none⟩ vs' i).run P w= .ok () w'/\Rel A ι (upd H n (some ⟨lset b.cells (o+i) vs,true⟩)) Bd w'/\Keep A ι w ι w'
 |[],[],H,w,b,i,hr,hb,ho,hι,_,_,_=>by
  refine⟨w,by simp[storeCells],hr.sub fun m c hm=> ?_,Keep.refl A w⟩
  by_cases e:m=n
  ·subst e
   rw[qJ]at hm
   cases hm
   rw[hb]
   obtain⟨cells,own⟩:=b
   simp only at ho
   subst ho
   rfl
  ·rw[qD H _ e]at hm;exact hm
 |v::vs,v'::vs',H,w,b,i,hr,hb,ho,hι,hl,hc,hle=>by
  simp only[List.all_cons,Bool.and_eq_true]at hc
  simp only[xJ]at hle
  have hv:VR ι w v v':=hl.2 0 v v' rfl rfl
  obtain⟨hr',hA,hnz⟩:=hr.set (off:=o+i) hb ho hι hv
  rcases hr.blk n b hb with⟨hvd,_⟩|⟨B1,base1,cs,e,fr,h1,h2,h3,h4,h5⟩
  ·rw[hι]at hvd;cases hvd
  rw[hι]at h1
  cases h1
  obtain⟨u',g1,_⟩:=h5 (o+i) (b.cells[o+i]'(by omega)) (by simp)
  have hlt:base+(o+i)<cs.size:=(xS.1 g1).1
  have hk:=Keep.setCell w (base+(o+i)) v' hA hnz
  have hl':LR ι (w.setCell ⟨B,base+(o+i),none⟩ v') vs vs':=by
   have:LR ι w vs vs':=⟨by simpa using hl.1,fun j x x' h1 h2=>hl.2 (j+1) x x' (by simpa using h1) (by simpa using h2)⟩
   exact this.mono (Ext.refl ι) hk.rows
  obtain⟨w2,r2,q2,k2⟩:=storeCells_run P o vs vs' _ _ ⟨b.cells.set (o+i) v,true⟩ (i+1) hr' (qJ _ _ _) rfl hι hl' hc.2 (by simp;omega)
  refine⟨w2,?_,?_,hk.trans k2⟩
  ·have hone:=cellOK_one hv hc.1
   simp only[storeCells,xW,zD,Nat.add_assoc]
   rw[run_store P w _ v' .plain hone]
   simp only[cell_of h2,wA hlt,frozen_of h2 (h3 ho).2 hlt,Bool.false_eq_true,if_false,xV]
   exact r2
  ·rw[upd_upd]at q2
   exact q2
 |[],_::_,_,_,_,_,_,_,_,_,hl,_,_=>by have:=hl.1;simp at this
 |_::_,[],_,_,_,_,_,_,_,_,hl,_,_=>by have:=hl.1;simp at this
theorem Rel.extend{A:Nat->Prop}{ι:Ren}{H:AH}{Bd:Nat}{w:World}(hr:Rel A ι H Bd w){n B base size m:Nat}{b:Blk}(hb:H n=some b)(hι:ι n=some (.at B base))(hrow:Row w B size)
  (hle:base+(b.cells.length+m)<=size) (ho:b.own=true):Rel A ι (upd H n (some ⟨b.cells++List.replicate m unk,b.own⟩)) Bd w:=by
 refine⟨hr.bound,fun k c hk=> ?_,fun k j c c' B1 b1 B2 b2 hne g1 g2 go i1 i2=> ?_,hr.newA,fun k c B1 b1 g1 go i1=> ?_,hr.fzlt,fun k c hk hq=> ?_,hr.mp⟩
 ·by_cases e1:k=n
  ·subst e1
   rw[qJ]at hk
   cases hk
   rcases hr.blk k b hb with⟨hvd,_⟩|⟨B1,base1,cs,e,fr,h1,h2,h3,h4,h5⟩
   ·rw[hι]at hvd;cases hvd
   rw[hι]at h1
   cases h1
   obtain⟨cs',e',fr',h2',hsz⟩:=hrow
   rw[h2]at h2'
   cases h2'
   refine .inr ⟨B,base,cs,e,fr,hι,h2,h3,h4,fun i v hv=> ?_⟩
   rw[List.getElem?_append]at hv
   split at hv
   ·exact h5 i v hv
   ·rename_i hi
    have hi2:i-b.cells.length<m:=by
     have:=(xR.1 hv).1;simpa using this
    rw[List.getElem?_replicate]at hv
    rw[if_pos hi2]at hv
    cases hv
    have hlt:base+i<cs.size:=by omega
    exact⟨cs[base+i],by simp[hlt], .unk _⟩
  ·rw[qD H _ e1]at hk;exact hr.blk k c hk
 ·by_cases e1:k=n
  ·subst e1
   rw[qJ]at g1;cases g1
   rw[qD H _ (fun h=>hne h.symm)]at g2
   exact hr.apart k j b c' B1 b1 B2 b2 hne hb g2 go i1 i2
  ·rw[qD H _ e1]at g1
   by_cases e2:j=n
   ·subst e2
    exact hr.apart k j c b B1 b1 B2 b2 hne g1 hb go i1 i2
   ·rw[qD H _ e2]at g2
    exact hr.apart k j c c' B1 b1 B2 b2 hne g1 g2 go i1 i2
 ·by_cases e1:k=n
  ·subst e1
   rw[qJ]at g1;cases g1
   exact hr.froz k b B1 b1 hb go i1
  ·rw[qD H _ e1]at g1
   exact hr.froz k c B1 b1 g1 go i1
 ·by_cases e1:k=n
  ·subst e1;rw[qJ]at hk;cases hk;rw[show b.own=true from ho]at hq;cases hq
  ·rw[qD H _ e1]at hk;exact hr.glob k c hk hq
theorem Rel.move{A:Nat->Prop}{ι:Ren}{H:AH}{Bd:Nat}{w:World}(hr:Rel A ι H Bd w){n m B base off:Nat}{b:Blk}{L:List Value}(hb:H n=some b)(ho:b.own=true)(hι:ι n=some (.at B base))
  (hm:ι m=none) (hmb:m<Bd) (hL:∀(i:Nat) v,L[i]? =some v->b.cells[off+i]? =some v):
  Rel A (ren ι m (.at B (base+off))) (upd (upd H n none) m (some ⟨L,true⟩)) Bd w:=by
 have hx:=ext_ren (.at B (base+off)) hm
 have hmn:m≠n:=fun h=>by rw[h,hι]at hm;cases hm
 rcases hr.blk n b hb with⟨hvd,_⟩|⟨B1,base1,cs,e,fr,h1,h2,h3,h4,h5⟩
 ·rw[hι]at hvd;cases hvd
 rw[hι]at h1
 cases h1
 refine⟨fun k hk=> ?_,fun k c hk=> ?_,fun k j c c' B1 b1 B2 b2 hne g1 g2 go i1 i2=> ?_,hr.newA,fun k c B1 b1 g1 go i1 hz=> ?_,hr.fzlt,fun k c hk hq=> ?_,hr.mp⟩
 ·rw[qX _ _ (by omega)];exact hr.bound k hk
 ·by_cases e1:k=m
  ·subst e1
   rw[qJ]at hk
   cases hk
   refine .inr ⟨B,base+off,cs,e,fr,jG _ _ _,h2,fun _=>h3 ho,fun h=>by(cases h),fun i v hv=> ?_⟩
   obtain⟨v',g1,g2⟩:=h5 (off+i) v (hL i v hv)
   exact⟨v',by rw[Nat.add_assoc];exact g1,g2.mono hx (Fro.refl ι w)⟩
  ·rw[qD _ _ e1]at hk
   by_cases e2:k=n
   ·subst e2;rw[qJ]at hk;cases hk
   ·rw[qD _ _ e2]at hk
    exact(hr.blk k c hk).mono hx (Fro.refl ι w) fun _ _ _=>rfl
 ·by_cases e1:k=m
  ·subst e1
   rw[jG]at i1
   cases i1
   have hj:j≠k:=fun h=>hne h.symm
   rw[qD _ _ hj]at g2
   rw[qX _ _ hj]at i2
   by_cases e3:j=n
   ·subst e3;rw[qJ]at g2;cases g2
   ·rw[qD _ _ e3]at g2
    exact hr.apart n j b c' B base B2 b2 (fun h=>e3 h.symm) hb g2 ho hι i2
  ·rw[qD _ _ e1]at g1
   rw[qX _ _ e1]at i1
   by_cases e3:k=n
   ·subst e3;rw[qJ]at g1;cases g1
   rw[qD _ _ e3]at g1
   by_cases e2:j=m
   ·subst e2
    rw[jG]at i2
    cases i2
    exact hr.apart k n c b B1 b1 B base e3 g1 hb go i1 hι
   ·rw[qD _ _ e2]at g2
    rw[qX _ _ e2]at i2
    by_cases e4:j=n
    ·subst e4;rw[qJ]at g2;cases g2
    ·rw[qD _ _ e4]at g2
     exact hr.apart k j c c' B1 b1 B2 b2 hne g1 g2 go i1 i2
 ·by_cases e1:k=m
  ·subst e1
   rw[jG]at i1
   cases i1
   exact hr.froz n b B base hb ho hι hz
  ·rw[qD _ _ e1]at g1
   rw[qX _ _ e1]at i1
   by_cases e3:k=n
   ·subst e3;rw[qJ]at g1;cases g1
   ·rw[qD _ _ e3]at g1
    exact hr.froz k c B1 b1 g1 go i1 hz
 ·by_cases e1:k=m
  ·subst e1;rw[qJ]at hk;cases hk;cases hq
  ·rw[qD _ _ e1]at hk
   by_cases e3:k=n
   ·subst e3;rw[qJ]at hk;cases hk
   ·rw[qD _ _ e3]at hk;exact⟨(qX _ _ e1).trans (hr.glob k c hk hq).1,(hr.glob k c hk hq).2⟩
structure POk (P:Program):Prop where
 mixed:P.follows .mixedOrders=true
 bytes:∀(t:TypeId) (i:TypeInfo),t<P.types.size->P.info? t=some i->i.bytes<=131072
theorem ask_info{P:Program}{e k:Nat}{z:Value}(hk:ask P (sizeOf e)=some k)(hz:ask P (zeroValue e)=some z):∃i,P.info? e=some i/\i.size=k/\i.zero=some z:=by
 simp only[ask,sizeOf,zeroValue,xW,typeInfo_run]at hk hz
 cases hd:P.info? e with
 |none=>rw[hd]at hk;simp at hk
 |some i=>
  rw[hd]at hk hz
  refine⟨i,rfl,by simpa using hk,?_⟩
  simp only[xV]at hz
  cases hi:i.zero with
  |none=>simp[hi]at hz
  |some z'=>simpa[hi]using hz
theorem append_room{P:Program}{w w2:World}{t xt e k sLen sCap n:Nat}{base:Option Addr}{x':Value}{d:TypeDesc}{N:Array Value}(ty:TypeId)
  (ht:ask P (underlying t)=some (.slice e)) (hxt:ask P (underlying xt)=some d) (hd:∀q,d≠ .int q) (hk:ask P (sizeOf e)=some k)
  (hn:(Builtin.lenOf x').run P w= .ok n w) (hN:(Builtin.firstCells k n x').run P w= .ok N w) (hle:sLen+n<=sCap)
  (h2:(match base with|some a=>(storeCells (a.add (sLen*k)) N.toList).run P w|none=> .ok () w)= .ok () w2):
  (Builtin.append_ #[t,xt] ty #[.slice base sLen sCap,x']).run P w= .ok (.slice base (sLen+n) sCap) w2:=by
 cases base with
 |none=>
  simp only[Result.ok.injEq,true_and]at h2
  subst h2
  simp[Builtin.append_,jI ht w,jI hxt w,jM hk w,hn,hN,hle]
 |some a=>
  simp only at h2
  simp[Builtin.append_,jI ht w,jI hxt w,jM hk w,hn,hN,hle,h2]
theorem append_grow{P:Program}(hP:POk P){w:World}{t xt e k sLen sCap n:Nat}{base:Option Addr}{x':Value}{d:TypeDesc}{O N:Array Value}{z:Value}(ty:TypeId)
  (ht:ask P (underlying t)=some (.slice e)) (hxt:ask P (underlying xt)=some d) (hd:∀q,d≠ .int q) (hk:ask P (sizeOf e)=some k) (hz:ask P (zeroValue e)=some z)
  (hn:(Builtin.lenOf x').run P w= .ok n w) (hN:(Builtin.firstCells k n x').run P w.drew= .ok N w.drew) (hO:(Builtin.firstCells k sLen (.slice base sLen sCap)).run P w.drew= .ok O w.drew)
  (hle:¬sLen+n<=sCap) (hsz:sLen+n<=1073741824) (hes:e<P.types.size):
  (Builtin.append_ #[t,xt] ty #[.slice base sLen sCap,x']).run P w=
   .ok (.slice (some ⟨w.heap.size,0,none⟩) (sLen+n) (grownCap w (sLen+n) sCap e)) (w.drew.alloc (.cells (O++N++Builtin.zeroCells z.cells (grownCap w (sLen+n) sCap e-(sLen+n))) e)):=by
 obtain⟨i,hi,rfl,hiz⟩:=ask_info hk hz
 have hb:=hP.bytes e i hes hi
 have h63':¬(9223372036854775807<((sLen:Int)+(n:Int))):=by omega
 have hfit:(sLen+n)*i.bytes<=140737488355328:=wE (Nat.mul_le_mul hsz hb) (by decide)
 have h48:=growslice_fits (show sCap<sLen+n from by omega) hfit
 have h48':¬(281474976710656<Builtin.nextslicecap (sLen+n) sCap*i.bytes):=by omega
 simp[Builtin.append_,jI ht w,jI hxt w,sizeOf,typeInfo,zeroValue,hi,hiz,hn,hN,hO,hle,h63',h48',Question.forced,newRow,grownCap]
def byteV(b:UInt8):Value:= .int .u8 (b.toNat:Int)
def jZ(H:AH)(k:Nat):Value->Option (Nat×List Value)
 | .slice none 0 0=>some (0,[])
 | .slice (some ⟨n,off,some k'⟩) len _=>
  match H n with
  |some b=>if k'=k/\off+len*k<=b.cells.length then some (len,(b.cells.drop off).take (len*k))else none
  |none=>none
 | .func (.yield k') _ rows=>if k'=k then some (rows.size,rows.toList.flatMap cellsL)else none
 | .string s=>if k=1 then some (s.size,s.data.toList.map byteV)else none
 |_=>none
theorem rows_cells{k:Nat}:∀(l:List Value),(∀(i:Nat) x,l[i]? =some x->∃r:Array Value,x= .agg r/\r.size=k)->
  (l.flatMap cellsL).length=l.length*k/\∀(p:Nat) v,(l.flatMap cellsL)[p]? =some v->∃(i j:Nat) (r:Array Value),j<k/\p=i*k+j/\l[i]? =some (.agg r)/\r[j]? =some v
 |[],_=>⟨by simp,fun p v h=>by simp at h⟩
 |x::xs,h=>by
  obtain⟨r,rfl,hr⟩:=h 0 x rfl
  obtain⟨h1,h2⟩:=rows_cells (k:=k) xs fun i x hi=>h (i+1) x (by simpa using hi)
  refine⟨?_,fun p v hp=> ?_⟩
  ·simp only[List.flatMap_cons,xD,h1,cellsL,Array.length_toList,hr,xJ,Nat.succ_mul]
   omega
  ·simp only[List.flatMap_cons,cellsL]at hp
   rw[List.getElem?_append]at hp
   simp only[Array.length_toList,hr]at hp
   split at hp
   ·rename_i hlt
    exact⟨0,p,r,hlt,by simp,rfl,by simpa using hp⟩
   ·rename_i hge
    obtain⟨i,j,r',g1,g2,g3,g4⟩:=h2 _ v hp
    exact⟨i+1,j,r',g1,by rw[Nat.succ_mul];omega,by simpa using g3,g4⟩
theorem acellsOf_sound{P:Program}{A:Nat->Prop}{ι:Ren}{H:AH}{Bd:Nat}{w:World}(hr:Rel A ι H Bd w){k l:Nat}{x x':Value}{xs:List Value}(hx:VR ι w x x')(h:jZ H k x=some (l,xs)):
  (∀w',(Builtin.lenOf x').run P w'= .ok l w')/\xs.length=l*k/\∃N:Array Value,LR ι w xs N.toList/\∀w':World,w'.heap=w.heap->(Builtin.firstCells k l x').run P w'= .ok N w':=by
 unfold jZ at h
 split at h
 ·cases h;cases hx
  exact⟨fun w'=>by simp[Builtin.lenOf],by simp,#[], .nil _ _,fun w' _=>by simp[Builtin.firstCells]⟩
 ·rename_i n off k' len c
  split at h
  ·rename_i b hb
   simp only[xU,xE,Prod.mk.injEq]at h
   obtain⟨⟨rfl,hle⟩,rfl,rfl⟩:=h
   cases hx with
   |sl hn hlc h0 h1 hA=>
   rename_i c' A'
   refine⟨fun w'=>by simp[Builtin.lenOf],by simp;omega,?_⟩
   rcases Nat.eq_zero_or_pos (len*k')with hz|hp
   ·refine⟨#[],by rw[hz];exact .nil _ _,fun w' _=> ?_⟩
    cases A' with
    |none=>simp[Builtin.firstCells]
    |some a=>simp[Builtin.firstCells,hz,loadCells,loadCellsFrom]
   ·have hl0:0<len:=Nat.pos_of_mul_pos_right hp
    rcases hA with hA|⟨B,base,size,hι,rfl,hrow,hsz⟩
    ·omega
    rcases hr.blk n b hb with⟨hvd,_⟩|⟨B1,base1,cs,e,fr,g1,g2,g3,g4,g5⟩
    ·rw[hι]at hvd;cases hvd
    rw[hι]at g1
    cases g1
    have hcs:base+off+len*k'<=cs.size:=by
     obtain⟨v',q,_⟩:=g5 (off+len*k'-1) (b.cells[off+len*k'-1]'(by omega)) (by simp)
     have:=(xS.1 q).1;omega
    refine⟨cs.extract (base+off) (base+off+len*k'),⟨by simp;omega,fun i v v' h2 h3=> ?_⟩,fun w' hw=> ?_⟩
    ·rw[List.getElem?_take]at h2
     split at h2
     ·rename_i hi
      rw[wP]at h2
      obtain⟨u,q1,q2⟩:=g5 (off+i) v h2
      have:cs[base+off+i]? =some v':=by
       rw[Array.getElem?_toList,Array.getElem?_extract]at h3
       split at h3
       ·exact h3
       ·cases h3
      rw[Nat.add_assoc,q1]at this
      cases this
      exact q2
     ·cases h2
    ·have g2':w'.heap[B]? =some (.cells cs e fr):=by rw[hw];exact g2
     simp only[Builtin.firstCells,loadCells,zP P g2' (base+off) (len*k') 0 #[] (by omega),Nat.add_zero,Array.empty_append]
  ·cases h
 ·rename_i k' fs rows
  simp only[xU,xE,Prod.mk.injEq]at h
  obtain⟨rfl,rfl,rfl⟩:=h
  cases hx with
  |lst0=>
   rename_i A' c'
   refine⟨fun w'=>by simp[Builtin.lenOf],by simp,#[], .nil _ _,fun w' _=> ?_⟩
   cases A' with
   |none=>simp[Builtin.firstCells]
   |some a=>simp[Builtin.firstCells,loadCells,loadCellsFrom]
  |lst hfz hB hl hsz hrr hc=>
   rename_i B base c' cs e fr
   obtain⟨q1,q2⟩:=rows_cells (k:=k') rows.toList fun i x hi=>hrr i x (by simpa using hi)
   have hm:rows.size*k'<=c'*k':=Nat.mul_le_mul_right _ hl
   refine⟨fun w'=>by simp[Builtin.lenOf],by simpa using q1,cs.extract base (base+rows.size*k'),⟨by rw[q1];simp;omega,fun p v v' h2 h3=> ?_⟩,fun w' hw=> ?_⟩
   ·obtain⟨i,j,r,g1,rfl,g3,g4⟩:=q2 p v h2
    rw[Array.getElem?_toList,Array.getElem?_extract]at h3
    split at h3
    ·exact hc i j r v v' (by simpa using g3) g4 (by rw[Nat.add_assoc];exact h3)
    ·cases h3
   ·have g2':w'.heap[B]? =some (.cells cs e fr):=by rw[hw];exact hB
    simp only[Builtin.firstCells,loadCells,zP P g2' base (rows.size*k') 0 #[] (by omega),Nat.add_zero,Array.empty_append]
 ·rename_i s
  simp only[xU,xE,Prod.mk.injEq]at h
  obtain⟨rfl,rfl,rfl⟩:=h
  cases hx
  refine⟨fun w'=>by simp[Builtin.lenOf],by simp,s.data.map byteV,⟨by simp,fun i v v' h1 h2=> ?_⟩,fun w' _=> ?_⟩
  ·simp only[Array.toList_map]at h2
   rw[h1]at h2
   cases h2
   rw[wN]at h1
   cases hq:s.data.toList[i]? with
   |none=>rw[hq]at h1;cases h1
   |some q=>rw[hq]at h1;cases h1;exact .int _ _
  ·have:s.extract 0 s.size=s:=by
    apply ByteArray.ext
    simp
   simp only[Builtin.firstCells,this,xX]
   rfl
 ·cases h
structure App where
 kill:Option Nat
 cells:List Value
 need:Nat
 cap:Nat
 k:Nat
def jU(c:Nat)(z:List Value):List Value:=(List.range (c*z.length)).map fun i=>z.getD (i%z.length) undef
theorem zmake_LR{ι:Ren}{w:World}{z:Value}{k:Nat}(n:Nat)(hzk:(cellsL z).length=k)(hzp:(cellsL z).all yI=true):LR ι w (jU n (cellsL z)) (Builtin.zeroCells z.cells n).toList:=by
 have hzs:z.cells.size=k:=by rw[zU]at hzk;simpa using hzk
 refine⟨by simp[jU,hzk,size_zeroCells,hzs],fun j v v' hv hv'=> ?_⟩
 have hj:j<n*k:=by have:=(xR.1 hv).1;simpa[jU,hzk]using this
 have hk0:0<k:=by
  rcases Nat.eq_zero_or_pos k with h|h
  ·subst h;simp at hj
  ·exact h
 have hjm:j%k<k:=Nat.mod_lt _ hk0
 have hv2:v=(cellsL z).getD (j%k) undef:=by
  unfold jU at hv
  rw[hzk,wN,List.getElem?_range hj]at hv
  cases hv;rfl
 have hjl:j%k<(cellsL z).length:=by omega
 have hp:yI v=true:=by
  rw[hv2,xF,xA hjl]
  exact List.all_eq_true.1 hzp _ (xH hjl)
 have:v'=v:=by
  have hl2:j%k<z.cells.size:=by omega
  have hlt:j<(Builtin.zeroCells z.cells n).size:=by rw[size_zeroCells,hzs];exact hj
  rw[Array.getElem?_toList,wA hlt]at hv'
  have he:v'=z.cells[j%k]! :=by
   rw[<-Option.some.inj hv']
   simp[Builtin.zeroCells,hzs]
  rw[he,hv2,xF,xA hjl,getElem!_pos z.cells (j%k) hl2,Option.getD_some]
  simp only[zU]
  simp
 rw[this]
 exact VR.plain hp
def appX(P:Program)(H:AH)(xt:TypeId)(k:Nat)(z:Value)(x:Value):Option (Nat×List Value):=
 match ask P (underlying xt)with
 |some (.int _)=>match x with
  | .int _ n=>if 0<=n/\n<=1073741824/\(cellsL z).all yI=true then some (n.toNat,jU n.toNat (cellsL z))else none
  |_=>none
 |some _=>jZ H k x
 |none=>none
def aappend(P:Program)(H:AH)(ts:List TypeId)(s x:Value):Option App:=
 match ts with
 |[t,xt]=>
  match ask P (underlying t)with
  |some (.slice e)=>
   match ask P (sizeOf e),ask P (zeroValue e)with
   |some k,some z=>
    match appX P H xt k z x with
    |some (l,xs)=>
     if(cellsL z).length=k/\xs.all kP=true/\e<P.types.size then
      match s with
      | .slice none 0 0=>some ⟨none,xs,l,0,k⟩
      | .slice (some ⟨n,off,some k'⟩) len c=>
       if k'=k then
        if c=0 then(if len=0 then some ⟨none,xs,l,0,k⟩else none)
        else
         match H n with
         |some b=>if b.own=true/\off+len*k<=b.cells.length then some ⟨some n,(b.cells.drop off).take (len*k)++xs,len+l,c-1,k⟩else none
         |none=>none
       else none
      |_=>none
     else none
    |none=>none
   |_,_=>none
  |_=>none
 |_=>none
theorem appX_run{P:Program}(hP:POk P){A:Nat->Prop}{ι:Ren}{H:AH}{Bd:Nat}{w:World}(hr:Rel A ι H Bd w){t xt e k:Nat}{z x x':Value}(ty:TypeId)(hx:VR ι w x x')(ht:ask P (underlying t)=some (.slice e))(hk:ask P (sizeOf e)=some k)(hz:ask P (zeroValue e)=some z)(hzk:(cellsL z).length=k)(hes:e<P.types.size)
  {l:Nat} {xs:List Value} (h:appX P H xt k z x=some (l,xs)):
  xs.length=l*k/\∃N:Array Value,LR ι w xs N.toList/\
   (∀(base:Option Addr) (sLen sCap:Nat) (w2:World),sLen+l<=sCap->(match base with|some a=>(storeCells (a.add (sLen*k)) N.toList).run P w|none=> .ok () w)= .ok () w2->(Builtin.append_ #[t,xt] ty #[.slice base sLen sCap,x']).run P w= .ok (.slice base (sLen+l) sCap) w2)/\
   (∀(base:Option Addr) (sLen sCap:Nat) (O:Array Value),(Builtin.firstCells k sLen (.slice base sLen sCap)).run P w.drew= .ok O w.drew->¬sLen+l<=sCap->sLen+l<=1073741824->
    (Builtin.append_ #[t,xt] ty #[.slice base sLen sCap,x']).run P w=
     .ok (.slice (some ⟨w.heap.size,0,none⟩) (sLen+l) (grownCap w (sLen+l) sCap e)) (w.drew.alloc (.cells (O++N++Builtin.zeroCells z.cells (grownCap w (sLen+l) sCap e-(sLen+l))) e))):=by
 unfold appX at h
 split at h
 ·rename_i q hxt
  split at h
  ·rename_i q2 n
   simp only[xU,xE,Prod.mk.injEq]at h
   obtain⟨⟨h0,h1,hzp⟩,rfl,rfl⟩:=h
   cases hx
   obtain⟨m,rfl⟩:=Int.eq_ofNat_of_zero_le h0
   obtain⟨i,hi,rfl,hiz⟩:=ask_info hk hz
   have hb:=hP.bytes e i hes hi
   have hw:IntKind.i64.wrap (m:Int)=m:=IntWalk.i64_in _ (by omega)
   have hneg:¬((m:Int)<0):=by omega
   have hmb:m*i.bytes<=140737488355328:=wE (Nat.mul_le_mul (show m<=1073741824 by omega) hb) (by decide)
   have h48i:¬(281474976710656<(m:Int)*(i.bytes:Int)):=by rw[<-Int.natCast_mul];omega
   refine⟨by simp[jU,hzk],Builtin.zeroCells z.cells m,zmake_LR m hzk hzp,fun base sLen sCap w2 hle h2=> ?_,fun base sLen sCap O hO hle hsz=> ?_⟩
   ·have hle:sLen+m<=sCap:=by simpa using hle
    have hne:(if m*i.size=0 then(#[]:Array Value)else Builtin.zeroCells z.cells m)=Builtin.zeroCells z.cells m:=by
     split
     ·rename_i h;exact(Array.eq_empty_of_size_eq_zero (by rw[size_zeroCells,zU]at *;simp at hzk;rw[hzk];exact h)).symm
     ·rfl
    by_cases h00:m*i.size=0
    ·rw[if_pos h00]at hne
     rw[<-hne]at h2
     cases base with
     |none=>
      simp only[Result.ok.injEq,true_and]at h2
      subst h2
      simp[Builtin.append_,jI ht w,jI hxt w,jM hk w,asInt,asIntOf,hw,hneg,h48i,typeInfo,hi,hle,h00]
     |some a=>
      simp only at h2
      simp[Builtin.append_,jI ht w,jI hxt w,jM hk w,asInt,asIntOf,hw,hneg,h48i,typeInfo,hi,hle,h00,h2]
    ·cases base with
     |none=>
      simp only[Result.ok.injEq,true_and]at h2
      subst h2
      simp[Builtin.append_,jI ht w,jI hxt w,jM hk w,asInt,asIntOf,hw,hneg,h48i,typeInfo,zeroValue,hi,hiz,hle,h00]
     |some a=>
      simp only at h2
      simp[Builtin.append_,jI ht w,jI hxt w,jM hk w,asInt,asIntOf,hw,hneg,h48i,typeInfo,zeroValue,hi,hiz,hle,h00,h2]
   ·have h63':¬(9223372036854775807<((sLen:Int)+(m:Int))):=by omega
    have hsz':sLen+m<=1073741824:=by simpa using hsz
    have hfit:(sLen+m)*i.bytes<=140737488355328:=wE (Nat.mul_le_mul hsz' hb) (by decide)
    have hle':¬sLen+m<=sCap:=by simpa using hle
    have h48:=growslice_fits (show sCap<sLen+m from by omega) hfit
    have h48':¬(281474976710656<Builtin.nextslicecap (sLen+m) sCap*i.bytes):=by omega
    by_cases h00:m*i.size=0
    ·have hne:Builtin.zeroCells z.cells m= #[]:=Array.eq_empty_of_size_eq_zero (by rw[size_zeroCells,zU]at *;simp at hzk;rw[hzk];exact h00)
     simp[Builtin.append_,jI ht w,jI hxt w,sizeOf,typeInfo,zeroValue,hi,hiz,asInt,asIntOf,hw,hneg,h48i,hO,hle',h63',h48',h00,hne,Question.forced,newRow,grownCap]
    ·simp[Builtin.append_,jI ht w,jI hxt w,sizeOf,typeInfo,zeroValue,hi,hiz,asInt,asIntOf,hw,hneg,h48i,hO,hle',h63',h48',h00,Question.forced,newRow,grownCap]
  ·cases h
 ·rename_i d hni hxt
  have hd:∀q,d≠ .int q:=fun q hq=>hni q hq
  obtain⟨hlen,hxl,N,hN,hNr⟩:=acellsOf_sound (P:=P) hr hx h
  exact⟨hxl,N,hN,fun base sLen sCap w2 hle h2=>append_room ty ht hxt hd hk (hlen w) (hNr w rfl) hle h2,fun base sLen sCap O hO hle hsz=>append_grow hP ty ht hxt hd hk hz (hlen w) (hNr w.drew rfl) hO hle hsz hes⟩
 ·cases h
def yK(H:AH)(r:App)(m:Nat):AH:=
 match r.kill with
 |some n=>upd (upd H n none) m (some ⟨r.cells,true⟩)
 |none=>upd H m (some ⟨r.cells,true⟩)
def vC(need cl:Nat):Nat:=if cl<=need then need+1 else cl+1
def zB(r:App)(m:Nat):Value:= .slice (some ⟨m,0,some r.k⟩) r.need (vC r.need r.cap)
theorem app_new{A:Nat->Prop}{ι:Ren}{H:AH}{Bd:Nat}{w:World}(hr:Rel A ι H Bd w){m:Nat}(hm:ι m=none)(hmb:m<Bd){L:List Value}{O N R:Array Value}{need c k cl:Nat}{e:TypeId}
  (hL:LR ι w L (O++N).toList) (hsz:L.length=need*k) (hR:R.size=(c-need)*k) (hc:need<=c) (hcl:cl<=need\/cl<=c):
  Rel A (ren ι m (.at w.heap.size 0)) (upd H m (some ⟨L,true⟩)) Bd (w.drew.alloc (.cells (O++N++R) e))/\
   VR (ren ι m (.at w.heap.size 0)) (w.drew.alloc (.cells (O++N++R) e)) (.slice (some ⟨m,0,some k⟩) need (vC need cl)) (.slice (some ⟨w.heap.size,0,none⟩) need c)/\
   Keep A ι w (ren ι m (.at w.heap.size 0)) (w.drew.alloc (.cells (O++N++R) e)):=by
 have h:=(hr.drew).new (e:=e) (L:=L) (cs:=O++N++R) (fr:=(0,0)) hm hmb (fun i v hv=> ?_) (fun i _ h=>by simp at h)
 ·refine⟨h, .sl ⟨_,jG _ _ _⟩ hc (fun h0=> ?_) ?_ (.inr ⟨w.heap.size,0,(O++N++R).size,jG _ _ _,rfl,⟨_,e,(0,0),alloc_new w.drew _,rfl⟩,?_⟩),(Keep.drew A w).trans (Keep.alloc A w.drew _)⟩
  ·unfold vC at h0;split at h0 <;>omega
  ·unfold vC;split <;>omega
  ·have h1:L.length=(O++N).toList.length:=hL.1
   simp only[Array.length_toList]at h1
   rw[Array.size_append,<-h1,hsz,hR,<-Nat.add_mul]
   have:need+(c-need)=c:=by omega
   rw[this];omega
 ·have hlt:i<L.length:=(xR.1 hv).1
  have hlt':i<(O++N).size:=by have:=hL.1;simp only[Array.length_toList]at this;omega
  have h2:=hL.2 i v ((O++N)[i]) hv (by simp only[Array.getElem?_toList];exact wA hlt')
  exact⟨(O++N)[i],by rw[Array.getElem?_append_left hlt'];exact wA hlt',VR.mono (w':=w.drew) (Ext.refl ι) (Fro.drew ι w) h2⟩
theorem lset_length:∀(vs cells:List Value) (o:Nat),(lset cells o vs).length=cells.length
 |[],_,_=>rfl
 |v::vs,cells,o=>by rw[lset,lset_length vs];simp
theorem lset_get:∀(vs cells:List Value) (o j:Nat),o+vs.length<=cells.length->(lset cells o vs)[j]? =if j<o then cells[j]? else if j<o+vs.length then vs[j-o]? else cells[j]?
 |[],cells,o,j,_=>by
  simp only[lset,xZ,Nat.add_zero]
  split
  ·rfl
  ·rfl
 |v::vs,cells,o,j,h=>by
  simp only[xJ]at h
  rw[lset,lset_get vs _ (o+1) j (by simp;omega)]
  simp only[xJ]
  by_cases h1:j<o
  ·rw[if_pos (by omega),if_pos h1,wS (by omega)]
  ·by_cases h2:j=o
   ·subst h2
    rw[if_pos (by omega),if_neg (by omega),if_pos (by omega),List.getElem?_set_self (by omega)]
    simp
   ·rw[if_neg (by omega),if_neg h1]
    by_cases h3:j<o+1+vs.length
    ·rw[if_pos h3,if_pos (by omega)]
     obtain⟨d,rfl⟩:∃d,j=o+1+d:=⟨j-(o+1),by omega⟩
     rw[show o+1+d-(o+1)=d from by omega,show o+1+d-o=d+1 from by omega,wM]
    ·rw[if_neg h3,if_neg (by omega),wS (by omega)]
theorem cellsL_size{z:Value}{k:Nat}(h:(cellsL z).length=k):z.cells.size=k:=by rw[zU]at h;simpa using h
theorem aappend_sound{P:Program}(hP:POk P){A:Nat->Prop}{ι:Ren}{H:AH}{Bd:Nat}{w:World}(hr:Rel A ι H Bd w){ts:List TypeId}(ty:TypeId){s x s' x':Value}(hs:VR ι w s s')(hx:VR ι w x x'){m:Nat}(hm:ι m=none)(hmb:m<Bd)
  {r:App} (h:aappend P H ts s x=some r) (hneed:r.need<=1073741824):
  ∃v' w' ι',(Builtin.append_ ts.toArray ty #[s',x']).run P w= .ok v' w'/\Rel A ι' (yK H r m) Bd w'/\VR ι' w' (zB r m) v'/\Keep A ι w ι' w'/\∀n,n≠m->ι' n=ι n:=by
 unfold aappend at h
 split at h
 ·rename_i t xt
  split at h
  ·rename_i e ht
   split at h
   ·rename_i k z hk hz
    split at h
    ·rename_i l xs hxs
     simp only[xU]at h
     obtain⟨⟨hzk,hxok,hes⟩,h⟩:=h
     obtain⟨hxl,N,hN,hroomS,hgrowS⟩:=appX_run hP hr ty hx ht hk hz hzk hes hxs
     have hgrow:∀(base:Option Addr) (sLen sCap:Nat) (O:Array Value) (L:List Value) (cl:Nat),s'= .slice base sLen sCap->LR ι w L (O++N).toList->L.length=(sLen+l)*k->cl<=sCap->
       (∀w':World,w'.heap=w.heap->(Builtin.firstCells k sLen (.slice base sLen sCap)).run P w'= .ok O w')->sLen+l<=1073741824->¬sLen+l<=sCap->
       ∃v' w',(Builtin.append_ #[t,xt] ty #[s',x']).run P w= .ok v' w'/\Rel A (ren ι m (.at w.heap.size 0)) (upd H m (some ⟨L,true⟩)) Bd w'/\
        VR (ren ι m (.at w.heap.size 0)) w' (.slice (some ⟨m,0,some k⟩) (sLen+l) (vC (sLen+l) cl)) v'/\Keep A ι w (ren ι m (.at w.heap.size 0)) w':=by
      intro base sLen sCap O L cl hs' hL hLl hcl hO hb hle
      subst hs'
      have hg:=hgrowS base sLen sCap O (hO w.drew rfl) hle hb
      have hge:=grownCap_ge w (sLen+l) sCap e
      obtain⟨q1,q2,q3⟩:=app_new hr (e:=e) (cl:=cl) (R:=Builtin.zeroCells z.cells (grownCap w (sLen+l) sCap e-(sLen+l))) (need:=sLen+l) (c:=grownCap w (sLen+l) sCap e) hm hmb hL hLl
       (by rw[size_zeroCells,cellsL_size hzk]) hge (.inl (by omega))
      exact⟨_,_,hg,q1,q2,q3⟩
     have hnil:∀(base:Option Addr) (c':Nat),s'= .slice base 0 c'->c'=0->l<=1073741824->
       ∃v' w' ι',(Builtin.append_ #[t,xt] ty #[s',x']).run P w= .ok v' w'/\Rel A ι' (upd H m (some ⟨xs,true⟩)) Bd w'/\VR ι' w' (.slice (some ⟨m,0,some k⟩) l (vC l 0)) v'/\Keep A ι w ι' w'/\∀n,n≠m->ι' n=ι n:=by
      intro base c' hs' hc0 hb
      subst hc0
      by_cases hl0:l=0
      ·subst hl0
       obtain rfl:xs=[]:=List.eq_nil_of_length_eq_zero (by omega)
       have hNe:N= #[]:=by have:=hN.1;exact Array.eq_empty_of_size_eq_zero (by simpa using this.symm)
       subst hNe
       subst hs'
       refine⟨_,w,ren ι m .void,hroomS _ _ _ _ (xC _) (by cases base <;>simp[storeCells]),hr.void hm hmb,?_,Keep.refl A w,fun n hn=>qX _ _ hn⟩
       exact .sl ⟨_,jG _ _ _⟩ (by simp) (fun h=>by simp[vC]at h) (by simp[vC]) (.inl rfl)
      ·obtain⟨v',w',h1,h2,h3,h4⟩:=hgrow base 0 0 #[] xs 0 hs' (by simpa using hN) (by simpa using hxl) (by omega) (fun w' _=>by cases base <;>simp[Builtin.firstCells,loadCells,loadCellsFrom]) (by omega) (by omega)
       simp only[Nat.zero_add]at h3
       exact⟨v',w',_,h1,h2,h3,h4,fun n hn=>qX _ _ hn⟩
     split at h
     ·cases h;cases hs
      exact hnil none 0 rfl rfl hneed
     ·rename_i n off k' len c
      simp only[xU]at h
      obtain⟨rfl,h⟩:=h
      cases hs with
      |sl hn hlc h0 h1 hA=>
      rename_i c' A'
      split at h
      ·rename_i hc
       simp only[xU,xE]at h
       obtain⟨rfl,rfl⟩:=h
       exact hnil A' c' rfl (h0 hc) hneed
      ·rename_i hc
       split at h
       ·rename_i b hb
        simp only[xU,xE]at h
        obtain⟨⟨ho,hle⟩,rfl⟩:=h
        simp only at hneed
        obtain⟨_,hol,O,hO,hOr⟩:=acellsOf_sound (P:=P) (k:=k') (l:=len) (xs:=(b.cells.drop off).take (len*k')) hr (VR.sl hn hlc h0 h1 hA) (by simp[jZ,hb,hle])
        by_cases hroom:len+l<=c'
        ·by_cases hc0:c'=0
         ·subst hc0
          obtain rfl:len=0:=by omega
          obtain rfl:l=0:=by omega
          obtain rfl:xs=[]:=List.eq_nil_of_length_eq_zero (by omega)
          have hNe:N= #[]:=by have:=hN.1;exact Array.eq_empty_of_size_eq_zero (by simpa using this.symm)
          subst hNe
          refine⟨_,w,ren ι m .void,hroomS _ _ _ _ hroom (by cases A' <;>simp[storeCells]),?_,?_,Keep.refl A w,fun n hn=>qX _ _ hn⟩
          ·have:=(hr.kill n).void hm hmb
           simpa[yK]using this
          ·exact .sl ⟨_,jG _ _ _⟩ (by simp) (fun h=>by simp[vC]at h;split at h <;>omega) (by simp only[vC];split <;>omega) (.inl rfl)
         ·rcases hA with hA|⟨B,base,size,hι,rfl,hrow,hsz⟩
          ·omega
          have hmul:(len+l)*k'<=c'*k':=Nat.mul_le_mul_right _ hroom
          have hadd:(len+l)*k'=len*k'+l*k':=Nat.add_mul _ _ _
          have hbs:base+b.cells.length<=size:=by
           rcases Nat.eq_zero_or_pos b.cells.length with h2|h2
           ·omega
           rcases hr.blk n b hb with⟨hvd,_⟩|⟨B1,base1,cs,e1,fr,g1,g2,g3,g4,g5⟩
           ·rw[hι]at hvd;cases hvd
           rw[hι]at g1
           cases g1
           obtain⟨v',q,_⟩:=g5 (b.cells.length-1) (b.cells[b.cells.length-1]'(by omega)) (by simp)
           have hq:=(xS.1 q).1
           obtain⟨cs',e',fr',q2,q3⟩:=hrow
           rw[g2]at q2
           cases q2
           omega
          have hr2:=hr.extend (m:=off+(len+l)*k'-b.cells.length) hb hι hrow (by omega) ho
          obtain⟨w2,s1,s2,s3⟩:=storeCells_run P (base:=base) (off+len*k') xs N.toList _ w ⟨b.cells++List.replicate (off+(len+l)*k'-b.cells.length) unk,b.own⟩ 0 hr2 (qJ _ _ _) ho hι hN hxok
           (by simp;omega)
          rw[upd_upd]at s2
          have s4:=s2.move (m:=m) (off:=off) (L:=(b.cells.drop off).take (len*k')++xs) (qJ _ _ _) rfl hι hm hmb (fun i v hv=> ?_)
          ·refine⟨_,w2,ren ι m (.at B (base+off)),hroomS _ _ _ _ hroom ?_,?_,?_,s3.trans (Keep.refl A w2),fun n hn=>qX _ _ hn⟩
           ·simp only[zD,Nat.add_assoc]
            exact s1
           ·simp only[yK]
            rw[upd_upd]at s4
            exact s4
           ·refine .sl ⟨_,jG _ _ _⟩ hroom (fun h=> ?_) ?_ (.inr ⟨B,base+off,size,jG _ _ _,by simp,hrow.mono s3.rows.rows,by omega⟩)
            ·simp only[vC]at h;split at h <;>omega
            ·simp only[vC];split <;>omega
          ·simp only[Nat.add_zero]
           rw[lset_get _ _ _ _ (by simp;omega)]
           rw[List.getElem?_append]at hv
           have hl1:((b.cells.drop off).take (len*k')).length=len*k':=by simp;omega
           rw[hl1]at hv
           split at hv
           ·rename_i hi
            rw[if_pos (by omega),wF (by omega)]
            rw[List.getElem?_take,if_pos hi,wP]at hv
            exact hv
           ·rename_i hi
            have hi2:i-len*k'<xs.length:=(xR.1 hv).1
            rw[if_neg (by omega),if_pos (by omega),show off+i-(off+len*k')=i-len*k' from by omega]
            exact hv
        ·obtain⟨v',w',q1,q2,q3,q4⟩:=hgrow A' len c' O _ (c-1) rfl (by rw[Array.toList_append];exact hO.append hN) (by rw[xD,hol,hxl,Nat.add_mul]) (by omega) hOr hneed hroom
         refine⟨v',w',ren ι m (.at w.heap.size 0),q1,?_,q3,q4,fun n hn=>qX _ _ hn⟩
         refine q2.sub fun j c hj=> ?_
         simp only[yK]at hj
         by_cases e1:j=m
         ·subst e1
          rw[qJ]at hj ⊢
          exact hj
         ·rw[qD _ _ e1]at hj ⊢
          by_cases e2:j=n
          ·subst e2;rw[qJ]at hj;cases hj
          ·rw[qD _ _ e2]at hj;exact hj
       ·cases h
     ·cases h
    ·cases h
   ·cases h
  ·cases h
 ·cases h
def adense(k:Nat):Nat->List (Nat×Value)->Option (List Value)
 |_,[]=>some []
 |i,(j,v)::rest=>if j=i/\isUnk v=false/\(cellsL v).length=k then(adense k (i+1) rest).map (cellsL v++ ·)else none
theorem adense_fill(k len:Nat):∀(ps:List (Nat×Value)) (i:Nat) (L cells:List Value),adense k i ps=some L->i+ps.length=len->cells.length=len*k->
  lfill (fun i=>some (i*k,k)) cells ps=some (cells.take (i*k)++L)
 |[],i,L,cells,h,hi,hc=>by
  cases h
  simp only[xZ,Nat.add_zero]at hi
  subst hi
  simp[lfill,<-hc]
 |(j,v)::ps,i,L,cells,h,hi,hc=>by
  unfold adense at h
  simp only[xU,Option.map_eq_some_iff]at h
  obtain⟨⟨rfl,hu,hk⟩,L',hL,rfl⟩:=h
  simp only[xJ]at hi
  have hle:(j+1)*k<=len*k:=Nat.mul_le_mul_right _ (by omega)
  have hm:(j+1)*k=j*k+k:=by rw[Nat.add_mul];omega
  have hle2:j*k+k<=cells.length:=by omega
  unfold lfill
  simp only
  rw[if_pos ⟨hu,hk,hle2⟩]
  rw[adense_fill k len ps (j+1) L' _ hL (by omega) (by simp;omega)]
  congr 1
  rw[hm,List.take_append_of_le_length (by simp;omega),xO (by simp;omega)]
  simp
def kU(P:Program)(t:TypeId)(len:Nat)(parts:List (Nat×Value)):Option (Nat×List Value):=
 match ask P (underlying t)with
 |some (.slice e)=>
  match ask P (sizeOf e),ask P (zeroValue e)with
  |some k,some _=>if len*k<=16777216/\parts.length=len then(adense k 0 parts).map fun L=>(k,L)else none
  |_,_=>none
 |_=>none
theorem parts_rel{ι:Ren}{w:World}{s:List Value}{a:Act}(hs:SR ι w s a.tmps)(parts:Array (Nat×Operand)):
  ∀(i:Nat) x x',(parts.toList.map fun x=>(x.1,SC.ev s x.2))[i]? =some x->((parts.map fun(i,x)=>(i,a.eval x)).toList)[i]? =some x'->x.1=x'.1/\VR ι w x.2 x'.2:=by
 intro i x x' h1 h2
 simp only[Array.toList_map,wN]at h1 h2
 cases hp:parts.toList[i]? with
 |none=>rw[hp]at h1;cases h1
 |some p=>
  rw[hp]at h1 h2
  simp only[wK,xE]at h1 h2
  subst h1;subst h2
  exact⟨rfl,hs.ev _⟩
theorem adense_length(k:Nat):∀(ps:List (Nat×Value)) (i:Nat) (L:List Value),adense k i ps=some L->L.length=ps.length*k
 |[],i,L,h=>by cases h;simp
 |(j,v)::ps,i,L,h=>by
  unfold adense at h
  simp only[xU,Option.map_eq_some_iff]at h
  obtain⟨⟨rfl,hu,hk⟩,L',hL,rfl⟩:=h
  rw[xD,adense_length k ps _ _ hL,hk,xJ,Nat.add_mul]
  omega
theorem abuildSlice_sound{P:Program}{A:Nat->Prop}{ι:Ren}{H:AH}{Bd:Nat}{w:World}(hr:Rel A ι H Bd w){t:TypeId}{len k:Nat}{L:List Value}{s:List Value}{a:Act}(hs:SR ι w s a.tmps)(parts:Array (Nat×Operand))
  {m:Nat} (hm:ι m=none) (hmb:m<Bd) (h:kU P t len (parts.toList.map fun x=>(x.1,ev s x.2))=some (k,L)):
  ∃v' w' ι',(Instr.buildSlice t len (parts.map fun(i,x)=>(i,a.eval x))).run P w= .ok v' w'/\Rel A ι' (upd H m (some ⟨L,true⟩)) Bd w'/\VR ι' w' (.slice (some ⟨m,0,some k⟩) len (len+1)) v'/\Keep A ι w ι' w'/\∀n,n≠m->ι' n=ι n:=by
 unfold kU at h
 split at h
 ·rename_i e ht
  split at h
  ·rename_i k1 z hk hz
   simp only[xU,Option.map_eq_some_iff,Prod.mk.injEq]at h
   obtain⟨⟨hle,hlen⟩,L',hL,rfl,rfl⟩:=h
   have hLl:=adense_length _ _ _ _ hL
   rw[hlen]at hLl
   have hf:=adense_fill k1 len _ 0 L' (List.replicate (len*k1) unk) hL (by omega) (by simp)
   simp only[Nat.zero_mul,List.take_zero,List.nil_append]at hf
   let z0:Array Value:=if len*k1=0 then #[]else z.cells
   obtain⟨r',hr',hlr⟩:=fill_sound (ι:=ι) (w:=w) (fun i=>some (i*k1,k1)) _ (parts.map fun(i,x)=>(i,a.eval x)).toList (List.replicate (len*k1) unk) ((Array.range (len*k1)).map fun i=>z0[i%z0.size]!) L'
    ⟨by simp,fun i v v' h1 _=>by
     rw[List.getElem?_replicate]at h1
     split at h1
     ·cases h1;exact .unk _
     ·cases h1⟩ (by simp) (parts_rel hs parts) hf
   have hrs:r'.size=len*k1:=by have:=hlr.1;simp at this;omega
   refine⟨.slice (some ⟨w.heap.size,0,none⟩) len len,w.alloc (.cells r' e),ren ι m (.at w.heap.size 0),?_,?_,?_,Keep.alloc A w _,fun n hn=>qX _ _ hn⟩
   ·unfold Instr.buildSlice
    have hzz:(if len*k1=0 then pure #[]else do pure (<-zeroValue e).cells:Sem (Array Value)).run P w= .ok z0 w:=by
     by_cases h0:len*k1=0
     ·simp only[if_pos h0,xX,z0]
     ·simp only[if_neg h0,xW,ask_zero hz w,xV,xX,z0]
    have hle':¬(len*k1>2^24):=by have:(2:Nat)^24=16777216:=by decide
                                 omega
    simp only[xW,jI ht w,xV,jM hk w,if_neg hle',hr',xX,newRow,run_newObj]
    by_cases h0:len*k1=0
    ·simp only[z0,if_pos h0]at hr'
     simp only[if_pos h0,xX,xV,hr',xW,newRow,run_newObj]
     rfl
    ·simp only[z0,if_neg h0]at hr'
     simp only[if_neg h0,xW,ask_zero hz w,xV,xX,hr',newRow,run_newObj]
     rfl
   ·exact hr.new hm hmb (fun i v hv=>by
     have hlt:i<r'.size:=by have:=(xR.1 hv).1;omega
     exact⟨r'[i],by simp[hlt],hlr.2 i v _ hv (by simp[hlt])⟩) (fun i _ h=>by simp at h)
   ·exact .sl ⟨_,jG _ _ _⟩ (xC _) (by omega) (by omega) (.inr ⟨w.heap.size,0,r'.size,jG _ _ _,rfl,⟨r',e,(0,0),alloc_new _ _,rfl⟩,by omega⟩)
  ·cases h
 ·cases h
theorem zmake_one(c:Nat)(v:Value):jU c [v]=List.replicate c v:=by
 unfold jU
 apply List.ext_getElem
 ·simp
 ·intro i h1 h2
  simp[Nat.mod_one]
def amake(P:Program)(t:TypeId)(len cap:Value):Option (Nat×List Value×Nat×Nat):=
 match ask P (underlying t),len,cap with
 |some (.slice e), .int _ n, .int _ c=>
  match ask P (sizeOf e),ask P (zeroValue e)with
  |some k,some z=>if 0<=n/\n<=c/\c<=1073741824/\(cellsL z).length=k/\(cellsL z).all yI=true/\e<P.types.size then some (k,jU c.toNat (cellsL z),n.toNat,c.toNat)else none
  |_,_=>none
 |_,_,_=>none
theorem amake_sound{P:Program}(hP:POk P){A:Nat->Prop}{ι:Ren}{H:AH}{Bd:Nat}{w:World}(hr:Rel A ι H Bd w){t:TypeId}{len cap len' cap':Value}(hl:VR ι w len len')(hc:VR ι w cap cap'){k n c:Nat}{L:List Value}
  {m:Nat} (hm:ι m=none) (hmb:m<Bd) (h:amake P t len cap=some (k,L,n,c)):
  ∃v' w' ι',(Instr.makeSlice t len' cap').run P w= .ok v' w'/\Rel A ι' (upd H m (some ⟨L,true⟩)) Bd w'/\VR ι' w' (.slice (some ⟨m,0,some k⟩) n (c+1)) v'/\Keep A ι w ι' w'/\∀n,n≠m->ι' n=ι n:=by
 unfold amake at h
 split at h
 ·rename_i e q1 n0 q2 c0 ht
  split at h
  ·rename_i k1 z hk hz
   simp only[xU,xE,Prod.mk.injEq]at h
   obtain⟨⟨h0,h1,h2,hzk,hzp,hes⟩,rfl,rfl,rfl,rfl⟩:=h
   cases hl;cases hc
   obtain⟨i,hi,hsz,hiz⟩:=ask_info hk hz
   have hb:=hP.bytes e i hes hi
   have hbc:(i.bytes:Int)*c0<=140737488355328:=by
    have hq:(i.bytes:Int)<=131072:=Int.ofNat_le.2 hb
    have:(i.bytes:Int)*c0<=131072*1073741824:=Int.mul_le_mul hq h2 (by omega) (by decide)
    omega
   have hbn:(i.bytes:Int)*n0<=140737488355328:=Int.le_trans (Int.mul_le_mul_of_nonneg_left h1 (Int.natCast_nonneg _)) hbc
   have e1:IntKind.i64.wrap n0=n0:=IntWalk.i64_in _ (by omega)
   have e2:IntKind.i64.wrap c0=c0:=IntWalk.i64_in _ (by omega)
   let cs:Array Value:=(Array.range (c0.toNat*k1)).map fun i=>(if c0.toNat*k1=0 then #[]else z.cells)[i%(if c0.toNat*k1=0 then(#[]:Array Value)else z.cells).size]!
   have hrun:(Instr.makeSlice t (.int q1 n0) (.int q2 c0)).run P w= .ok (.slice (some ⟨w.heap.size,0,none⟩) n0.toNat c0.toNat) (w.alloc (.cells cs e)):=by
    unfold Instr.makeSlice
    have h48:((2:Int)^48)=281474976710656:=by decide
    have t1:(decide (c0<0)||decide ((i.bytes:Int)*c0>2^48))=false:=by
     rw[h48];exact Bool.or_eq_false_iff.2 ⟨decide_eq_false (by omega),decide_eq_false (by omega)⟩
    have t2:decide (n0<0)=false:=decide_eq_false (by omega)
    have t3:decide (n0>c0)=false:=decide_eq_false (by omega)
    simp only[xW,jI ht w,xV,asInt,asIntOf,xX,typeInfo_run,hi,e1,e2,t1,t2,t3,Bool.or_false,Bool.false_eq_true,if_false,run_askRoom,jM hk w]
    by_cases hz0:c0.toNat*k1=0
    ·simp only[if_pos hz0,xX,xV,xW,newRow,run_newObj,cs]
     rfl
    ·simp only[if_neg hz0,xX,xV,xW,ask_zero hz w,newRow,run_newObj,cs]
     rfl
   have hcs:cs.size=c0.toNat*k1:=by simp[cs]
   have hLl:(jU c0.toNat (cellsL z)).length=c0.toNat*k1:=by simp[jU,hzk]
   refine⟨_,_,ren ι m (.at w.heap.size 0),hrun,?_,?_,Keep.alloc A w _,fun n hn=>qX _ _ hn⟩
   ·refine hr.new hm hmb (fun j v hv=> ?_) (fun _ _ h=>by simp at h)
    have hj:j<c0.toNat*k1:=by have:=(xR.1 hv).1;omega
    have hne:¬c0.toNat*k1=0:=by omega
    have hk0:0<k1:=Nat.pos_of_ne_zero fun h=>hne (by rw[h];simp)
    have hzs:z.cells.size=k1:=cellsL_size hzk
    have hjm:j%k1<k1:=Nat.mod_lt _ hk0
    have hv2:v=(cellsL z).getD (j%k1) undef:=by
     unfold jU at hv
     rw[hzk,wN,List.getElem?_range hj]at hv
     cases hv;rfl
    have hjl:j%k1<(cellsL z).length:=by omega
    have hp:yI v=true:=by
     rw[hv2,xF,xA hjl]
     exact List.all_eq_true.1 hzp _ (xH hjl)
    refine⟨v,?_,VR.plain hp⟩
    have:cs[j]? =some (z.cells[j%k1]!):=by
     simp only[cs,if_neg hne,hzs,Array.getElem?_map]
     rw[wA (by simpa using hj)]
     simp
    rw[this,hv2,xF,xA hjl]
    have hl2:j%k1<z.cells.size:=by omega
    simp only[getElem!_pos z.cells (j%k1) hl2,Option.getD_some,zU]
    simp
   ·exact .sl ⟨_,jG _ _ _⟩ (by omega) (by omega) (by omega) (.inr ⟨w.heap.size,0,cs.size,jG _ _ _,rfl,⟨cs,e,(0,0),alloc_new _ _,rfl⟩,by omega⟩)
  ·cases h
 ·cases h
def aclear(P:Program)(H:AH)(ts:List TypeId)(v:Value):Option AH:=
 match ts,v with
 |[t], .slice (some ⟨n,off,some k⟩) len _=>match ask P (underlying t)with
  |some (.slice e)=>match ask P (zeroValue e),H n with
   |some z,some b=>if b.own=true/\(cellsL z).length=k/\(cellsL z).all yI=true/\(cellsL z).all kP=true/\off+len*k<=b.cells.length then some (upd H n (some ⟨lset b.cells off (jU len (cellsL z)),true⟩))else none
   |_,_=>none
  |_=>none
 |_,_=>none
theorem zmake_cells(z:Value)(n:Nat):(Builtin.zeroCells z.cells n).toList=jU n (cellsL z):=by
 rw[zU]
 unfold Builtin.zeroCells jU
 apply List.ext_getElem
 ·simp
 ·intro i h1 h2
  have hi:i<n*z.cells.size:=by simpa using h1
  have hk:0<z.cells.size:=Nat.pos_of_ne_zero fun h=>by rw[h]at hi;simp at hi
  have hm:i%z.cells.size<z.cells.size:=Nat.mod_lt _ hk
  simp[getElem!_pos z.cells (i%z.cells.size) hm,hm]
theorem zmake_mem{z:List Value}{n:Nat}{v:Value}(h:v∈jU n z):v∈z:=by
 unfold jU at h
 obtain⟨i,hi,rfl⟩:=List.mem_map.1 h
 have hi:=List.mem_range.1 hi
 have hk:0<z.length:=Nat.pos_of_ne_zero fun h=>by rw[h]at hi;simp at hi
 have hm:i%z.length<z.length:=Nat.mod_lt _ hk
 rw[xF,xA hm]
 exact xH hm
theorem aclear_sound{P:Program}{A:Nat->Prop}{ι:Ren}{H H':AH}{Bd:Nat}{w:World}(hr:Rel A ι H Bd w){ts:Array TypeId}{ty:TypeId}{v v':Value}(hv:VR ι w v v')(h:aclear P H ts.toList v=some H'):
  ∃w',(Builtin.clear_ ts ty #[v']).run P w= .ok (.tuple #[]) w'/\Rel A ι H' Bd w'/\Keep A ι w ι w':=by
 unfold aclear at h
 split at h
 ·rename_i t n off k len c hts
  have hts:ts= #[t]:=by cases ts;simp_all
  subst hts
  split at h
  ·rename_i e ht
   split at h
   ·rename_i z b hz hb
    simp only[xU,xE]at h
    obtain⟨⟨ho,hk,hp,hc,hle⟩,rfl⟩:=h
    cases hv with
    |sl h1 h2 h3 h4 h5=>
    rename_i c' A'
    by_cases h0:len=0
    ·subst h0
     refine⟨w,?_,hr.sub fun m c hm=> ?_,Keep.refl A w⟩
     ·cases A' <;>simp[Builtin.clear_,jI ht w]
     ·by_cases e:m=n
      ·subst e
       rw[qJ]at hm
       cases hm
       rw[hb]
       obtain⟨cells,own⟩:=b
       simp only at ho
       subst ho
       simp[jU,lset]
      ·rw[qD H _ e]at hm;exact hm
    ·rcases h5 with h5|⟨B,base,size,g1,rfl,g3,g4⟩
     ·omega
     ·have hall:∀v∈jU len (cellsL z),yI v=true/\kP v=true:=fun v hv=>⟨List.all_eq_true.1 hp v (zmake_mem hv),List.all_eq_true.1 hc v (zmake_mem hv)⟩
      have hlen:(jU len (cellsL z)).length=len*k:=by simp[jU,hk]
      obtain⟨w',r1,r2,r3⟩:=storeCells_run P (base:=base) off (jU len (cellsL z)) (jU len (cellsL z)) H w b 0 hr hb ho g1 ⟨rfl,fun i v v' e1 e2=>by rw[e1]at e2;cases e2;exact VR.plain (hall v (wC e1)).1⟩ (List.all_eq_true.2 fun v hv=>(hall v hv).2) (by rw[hlen];omega)
      refine⟨w',?_,by simpa using r2,r3⟩
      obtain⟨m,rfl⟩:∃m,len=m+1:=⟨len-1,by omega⟩
      simp[Builtin.clear_,jI ht w,ask_zero hz w,zmake_cells,r1]
   ·cases h
  ·cases h
 ·cases h
theorem new_var{P:Program}{A:Nat->Prop}{ι:Ren}{H:AH}{Bd:Nat}{w:World}(hr:Rel A ι H Bd w){t:TypeId}{v v':Value}(hv:VR ι w v v')(hu:isUnk v=false){m:Nat}(hm:ι m=none)(hmb:m<Bd):
  ∃x w' ι',(Instr.box t v').run P w= .ok x w'/\Rel A ι' (upd H m (some ⟨cellsL v,true⟩)) Bd w'/\VR ι' w' (.pointer (some ⟨m,0,none⟩)) x/\Keep A ι w ι' w'/\∀n,n≠m->ι' n=ι n:=by
 have hl:=hv.cells hu
 refine⟨.pointer (some ⟨w.heap.size,0,none⟩),w.alloc (.cells v'.cells t),ren ι m (.at w.heap.size 0),?_,?_, .ptr (jG _ _ _),Keep.alloc A w _,fun n hn=>qX _ _ hn⟩
 ·simp only[Instr.box,newVar,newRow,xW,run_newObj,xV,xX]
  rfl
 ·refine hr.new hm hmb (fun i u hu=> ?_) (fun _ _ h=>by simp at h)
  have hlt:i<v'.cells.size:=by have h1:=(xR.1 hu).1;have h2:=hl.1;simp at h2;omega
  exact⟨v'.cells[i],by simp[hlt],hl.2 i u _ hu (by simp[hlt])⟩
theorem alloc_var{P:Program}{A:Nat->Prop}{ι:Ren}{H:AH}{Bd:Nat}{w:World}(hr:Rel A ι H Bd w){t:TypeId}{z:Value}(hz:ask P (zeroValue t)=some z)(hp:(cellsL z).all yI=true){m:Nat}(hm:ι m=none)(hmb:m<Bd):
  ∃x w' ι',(Instr.alloc t true (.tuple #[])).run P w= .ok x w'/\Rel A ι' (upd H m (some ⟨cellsL z,true⟩)) Bd w'/\VR ι' w' (.pointer (some ⟨m,0,none⟩)) x/\Keep A ι w ι' w'/\∀n,n≠m->ι' n=ι n:=by
 refine⟨.pointer (some ⟨w.heap.size,0,none⟩),w.alloc (.cells z.cells t),ren ι m (.at w.heap.size 0),?_,?_, .ptr (jG _ _ _),Keep.alloc A w _,fun n hn=>qX _ _ hn⟩
 ·simp only[Instr.alloc,newVar,newRow,xW,ask_zero hz w,run_newObj,xV,xX]
  rfl
 ·refine hr.new hm hmb (fun i u hu=> ?_) (fun _ _ h=>by simp at h)
  rw[zU]at hu
  exact⟨u,by simpa using hu,VR.plain (List.all_eq_true.1 hp u (by rw[zU];exact wC hu))⟩
def anums:List Value->Option (List Int)
 |[]=>some []
 | .int .u8 n::r=>(anums r).map (n:: ·)
 |_=>none
theorem anums_out{ι:Ren}{w:World}:∀(xs:List Value) (ns:List Int),anums xs=some ns->xs=ns.map (Value.int .u8)
 |[],ns,h=>by cases h;rfl
 |x::xs,ns,h=>by
  unfold anums at h
  split at h
  ·rename_i heq;cases heq
  ·rename_i n r heq
   cases heq
   obtain⟨q,hq,rfl⟩:=Option.map_eq_some_iff.1 h
   rw[anums_out (ι:=ι) (w:=w) _ _ hq];rfl
  ·cases h
def undBytes(P:Program)(t:TypeId):Bool:=match P.underlying t with
 |some (.slice e)=>match P.underlying e with|some (.int .u8)=>true|_=>false
 |_=>false
theorem undBytes_out{P:Program}{t:TypeId}(h:undBytes P t=true):∃e,P.underlying t=some (.slice e)/\P.underlying e=some (.int .u8):=by
 unfold undBytes at h
 split at h
 ·rename_i e he
  refine⟨e,he,?_⟩
  split at h
  ·assumption
  ·cases h
 ·cases h
def astring(P:Program)(H:AH)(src dst:TypeId)(x:Value):Option Value:=
 if undBytes P src=true/\undString P dst=true then
  match jZ H 1 x with
  |some (_,xs)=>(anums xs).map fun ns=> .string (strOfNums ns)
  |none=>none
 else none
theorem astring_sound{P:Program}{A:Nat->Prop}{ι:Ren}{H:AH}{Bd:Nat}{w:World}(hr:Rel A ι H Bd w){src dst:TypeId}{x x' v:Value}(hx:VR ι w x x')(hns:∀s,x≠ .string s)(h:astring P H src dst x=some v):
  (convert src dst x').run P w= .ok v w/\yI v=true:=by
 unfold astring at h
 simp only[xU]at h
 obtain⟨⟨hs,hd⟩,h⟩:=h
 obtain⟨e,h1,h2⟩:=undBytes_out hs
 have h3:=undString_out hd
 split at h
 ·rename_i l xs hxs
  obtain⟨ns,hn,rfl⟩:=Option.map_eq_some_iff.1 h
  have hxe:=anums_out (ι:=ι) (w:=w) _ _ hn
  refine⟨?_,rfl⟩
  obtain⟨hq1,hl,hq2⟩:=acellsOf_sound (P:=P) hr hx hxs
  unfold jZ at hxs
  split at hxs
  ·cases hxs;cases hx
   have:ns=[]:=by cases ns with
    |nil=>rfl
    |cons a b=>cases hxe
   subst this
   exact run_convert_bytes_nil w src e h1 h2 0 0 dst h3
  ·rename_i n off k' len c
   split at hxs
   ·rename_i b hb
    simp only[xU,xE,Prod.mk.injEq]at hxs
    obtain⟨⟨rfl,hle⟩,rfl,hxs⟩:=hxs
    cases hx with
    |sl hn' hlc h0' h1' hA=>
    rename_i c' A'
    have hnl:ns.length=len:=by rw[hxe]at hl;simpa using hl
    rcases Nat.eq_zero_or_pos len with hz|hp
    ·subst hz
     obtain rfl:ns=[]:=List.eq_nil_of_length_eq_zero hnl
     cases A' with
     |none=>exact run_convert_bytes_nil w src e h1 h2 0 c' dst h3
     |some a=>
      simp[convert,run_underlying h1,run_underlying h2,run_underlying h3,Conv.bytesToString,loadCells,loadCellsFrom]
      rfl
    ·rcases hA with hA|⟨B,base,size,hι,rfl,hrow,hsz⟩
     ·omega
     rcases hr.blk n b hb with⟨hvd,_⟩|⟨B1,base1,cs,e1,fr,g1,g2,g3,g4,g5⟩
     ·rw[hι]at hvd;cases hvd
     rw[hι]at g1
     cases g1
     refine run_convert_bytes_arg w src e h1 h2 B (base+off) len c' ns hnl (fun i hi=> ?_) dst h3
     have hxi:xs[i]? =some (.int .u8 (ns.getD i 0)):=by
      rw[hxe,wN,xA (by omega),xF,xA (by omega)]
      rfl
     rw[<-hxs,List.getElem?_take]at hxi
     split at hxi
     ·rw[wP]at hxi
      obtain⟨u,q1,q2⟩:=g5 (off+i) _ hxi
      cases q2
      rw[cell_of g2,Nat.add_assoc,q1]
     ·cases hxi
   ·cases hxs
  ·rename_i k' fs rows
   simp only[xU,xE,Prod.mk.injEq]at hxs
   obtain⟨rfl,rfl,hxs⟩:=hxs
   have hnl:ns.length=rows.size:=by rw[hxe]at hl;simpa using hl
   cases hx with
   |lst0=>
    rename_i A' c'
    obtain rfl:ns=[]:=List.eq_nil_of_length_eq_zero (by simpa using hnl)
    cases A' with
    |none=>exact run_convert_bytes_nil w src e h1 h2 0 c' dst h3
    |some a=>
     simp[convert,run_underlying h1,run_underlying h2,run_underlying h3,Conv.bytesToString,loadCells,loadCellsFrom]
     rfl
   |lst hfz hB hl2 hsz hrr hc=>
    rename_i B base c' cs e1 fr
    refine run_convert_bytes_arg w src e h1 h2 B base rows.size c' ns hnl (fun i hi=> ?_) dst h3
    have hi':i<rows.size:=by omega
    obtain⟨r,hr1,hr2⟩:=hrr i rows[i] (by simp[hi'])
    have hr3:rows[i]? =some (.agg r):=by rw[<-hr1];simp[hi']
    have hlt:base+i*1+0<cs.size:=by omega
    have hr4:r[0]? =some (r[0]'(by omega)):=by simp[hr2]
    have hv:=hc i 0 r _ _ hr3 hr4 (wA hlt)
    have hxi:xs[i]? =some (.int .u8 (ns.getD i 0)):=by
     rw[hxe,wN,xA (by omega),xF,xA (by omega)]
     rfl
    have hxr:xs[i]? =some (r[0]'(by omega)):=by
     rw[<-hxs]
     have key:∀(l:List Value) (i:Nat) (r:Array Value),(∀(i:Nat) x,l[i]? =some x->∃r:Array Value,x= .agg r/\r.size=1)->l[i]? =some (.agg r)->(l.flatMap cellsL)[i]? =r[0]? :=by
      intro l
      induction l with
      |nil=>intro i r _ h;simp at h
      |cons y ys ih=>
       intro i r hall h
       obtain⟨q,rfl,hq⟩:=hall 0 y rfl
       rw[List.flatMap_cons,List.getElem?_append]
       simp only[cellsL,Array.length_toList,hq]
       cases i with
       |zero=>simp at h;subst h;simp
       |succ i=>rw[if_neg (by omega)];exact ih i r (fun j x hj=>hall (j+1) x (by simpa using hj)) (by simpa using h)
     rw[key rows.toList i r (fun j x hj=>hrr j x (by simpa using hj)) (by simpa using hr3),hr4]
    rw[hxr]at hxi
    rw[Option.some.inj hxi]at hv
    generalize hcv:cs[base+i*1+0]=cv at hv
    cases hv
    rw[cell_of hB,show base+i=base+i*1+0 by omega,wA hlt,hcv]
  ·exact absurd rfl (hns _)
  ·cases hxs
 ·cases h
structure MapTy (P:Program) (t:TypeId):Prop where
 ex:∃kt et e i,P.underlying t=some (.map kt et)/\P.underlying kt=some (.array 2 e)/\P.underlying e=some (.int .i64)/\ask P (isAgg e)=some false/\P.info? e=some i/\P.cellsOf e=1/\ask P (zeroValue et)=some (.bool false)
def mapTy(P:Program)(t:TypeId):Bool:=match P.underlying t with
 |some (.map kt et)=>match P.underlying kt with
  |some (.array 2 e)=>match P.underlying e with
   |some (.int .i64)=>(match ask P (isAgg e)with|some false=>true|_=>false)&&(match P.info? e with|some _=>P.cellsOf e==1|none=>false)&&(match ask P (zeroValue et)with|some (.bool false)=>true|_=>false)
   |_=>false
  |_=>false
 |_=>false
theorem mapTy_out{P:Program}{t:TypeId}(h:mapTy P t=true):MapTy P t:=by
 unfold mapTy at h
 split at h
 ·rename_i kt et h1
  split at h
  ·rename_i e h2
   split at h
   ·rename_i h3
    simp only[Bool.and_eq_true]at h
    obtain⟨⟨h4,h5⟩,h6⟩:=h
    split at h4
    ·rename_i h4'
     split at h5
     ·rename_i i h5'
      split at h6
      ·rename_i h6'
       exact⟨kt,et,e,i,h1,h2,h3,h4',h5',by simpa using h5,h6'⟩
      ·cases h6
     ·cases h5
    ·cases h4
   ·cases h
  ·cases h
 ·cases h
def mrows:Value->Option (Array Value)
 | .func (.methodOf _ _) _ rows=>some rows
 |_=>none
def pairKey:Value->Option (Int×Int)
 | .agg cs=>match cs.toList with
  |[.int .i64 i, .int .i64 j]=>some (i,j)
  |_=>none
 |_=>none
theorem pairKey_out{v:Value}{i j:Int}(h:pairKey v=some (i,j)):v= .agg #[.int .i64 i, .int .i64 j]:=by
 unfold pairKey at h
 split at h
 ·rename_i cs
  split at h
  ·rename_i a b hc
   cases h
   obtain⟨l⟩:=cs
   simp only at hc
   subst hc
   rfl
  ·cases h
 ·cases h
def alookup(P:Program)(t:TypeId)(x i:Value):Option Bool:=
 if mapTy P t=true then match mrows x,pairKey i with
  |some rows,some (i,j)=>if 0<=i/\0<=j/\j<32 then match rows[i.toNat*32+j.toNat]? with
   |some (.bool b)=>some b
   |_=>none else none
  |_,_=>none else none
theorem alookup_out{P:Program}{t:TypeId}{x k:Value}{b:Bool}(h:alookup P t x k=some b):MapTy P t/\∃rows,mrows x=some rows/\∃i j:Nat,k= .agg #[.int .i64 i, .int .i64 j]/\j<32/\rows[i*32+j]? =some (.bool b):=by
 unfold alookup at h
 split at h
 ·rename_i ht
  split at h
  ·rename_i rows i j h1 h2
   split at h
   ·rename_i h3
    split at h
    ·rename_i c h4
     cases h
     refine⟨mapTy_out ht,rows,h1,i.toNat,j.toNat,?_,by omega,h4⟩
     rw[pairKey_out h2,Int.toNat_of_nonneg h3.1,Int.toNat_of_nonneg h3.2.1]
    ·cases h
   ·cases h
  ·cases h
 ·cases h
theorem alookup_rule{P:Program}{t:TypeId}(ht:mapTy P t=true){rows:Array Value}{i j:Nat}{b:Bool}(hj:j<32)(h:rows[i*32+j]? =some (.bool b)):
  alookup P t (.func (.methodOf 0 "") #[] rows) (.agg [.int .i64 i, .int .i64 j].toArray)=some b:=by
 unfold alookup
 rw[if_pos ht]
 simp only[mrows,pairKey]
 rw[if_pos ⟨by omega,by omega,by omega⟩]
 simp only[Int.toNat_natCast,h]
theorem mrows_out{ι:Ren}{w:World}{x x':Value}{rows:Array Value}(hx:VR ι w x x')(h:mrows x=some rows):∃B,x'= .map (some B)/\ι.mp B=some rows:=by
 unfold mrows at h
 split at h
 ·cases h
  cases hx with
  |mp h=>exact⟨_,rfl,h⟩
 ·cases h
section
variable {P:Program} (w:World)
theorem part_two{e:TypeId}(ha:ask P (isAgg e)=some false)(a b:Value)(i:Nat)(hi:i<2):(part e #[a,b] (i*1)).run P w= .ok (if i=0 then a else b) w:=by
 refine part_cell ha ?_ w
 match i,hi with
 |0,_=>rfl
 |1,_=>rfl
theorem range_two:List.range' 0 2=[0,1]:=rfl
theorem run_checkKey_two{kt e:TypeId}{i:_}(hk:P.underlying kt=some (.array 2 e))(he:P.underlying e=some (.int .i64))(ha:ask P (isAgg e)=some false)(hi:P.info? e=some i)(hs:P.cellsOf e=1)(em:Bool)(n:Nat)(a b:Int):
  (Instr.checkKey em (n+2) kt (.agg #[.int .i64 a, .int .i64 b])).run P w= .ok () w:=by
 have h1:∀(c:Int),(Instr.checkKey em (n+1) e (.int .i64 c)).run P w= .ok () w:=fun c=>by simp[Instr.checkKey,run_underlying he]
 have p0:(part e #[.int .i64 a, .int .i64 b] 0).run P w= .ok (.int .i64 a) w:=part_two w ha _ _ 0 (by omega)
 have p1:(part e #[.int .i64 a, .int .i64 b] 1).run P w= .ok (.int .i64 b) w:=part_two w ha _ _ 1 (by omega)
 rw[show n+2=(n+1)+1 from rfl,Instr.checkKey]
 simp only[xW,run_underlying hk,xV]
 simp only[Std.Legacy.Range.forIn_eq_forIn_range',Std.Legacy.Range.size,Nat.sub_zero,Nat.add_one_sub_one,Nat.div_one,range_two]
 simp only[List.forIn_cons,List.forIn_nil,xW,run_sizeOf w hi,hs,xV,Nat.zero_mul,Nat.one_mul,p0,p1,h1,xX]
theorem run_equal_two{kt e:TypeId}{i:_}(hk:P.underlying kt=some (.array 2 e))(he:P.underlying e=some (.int .i64))(ha:ask P (isAgg e)=some false)(hi:P.info? e=some i)(hs:P.cellsOf e=1)(a b c d:Int):
  (Op.equal kt (.agg #[.int .i64 a, .int .i64 b]) (.agg #[.int .i64 c, .int .i64 d])).run P w= .ok (decide (a=c/\b=d)) w:=by
 have h1:∀(n:Nat) (x y:Int),(Op.equalIn (n+1) e (.int .i64 x) (.int .i64 y)).run P w= .ok (x==y) w:=fun n x y=>by simp[Op.equalIn,run_underlying he]
 have p0:(part e #[.int .i64 a, .int .i64 b] 0).run P w= .ok (.int .i64 a) w:=part_two w ha _ _ 0 (by omega)
 have p1:(part e #[.int .i64 a, .int .i64 b] 1).run P w= .ok (.int .i64 b) w:=part_two w ha _ _ 1 (by omega)
 have q0:(part e #[.int .i64 c, .int .i64 d] 0).run P w= .ok (.int .i64 c) w:=part_two w ha _ _ 0 (by omega)
 have q1:(part e #[.int .i64 c, .int .i64 d] 1).run P w= .ok (.int .i64 d) w:=part_two w ha _ _ 1 (by omega)
 rw[Op.equal,show Op.maxDepth=9998+1+1 from rfl,Op.equalIn]
 simp only[xW,run_underlying hk,xV,run_sizeOf w hi,hs]
 simp only[Std.Legacy.Range.forIn_eq_forIn_range',Std.Legacy.Range.size,Nat.sub_zero,Nat.add_one_sub_one,Nat.div_one,range_two]
 simp only[List.forIn_cons,List.forIn_nil,xW,xV,Nat.zero_mul,Nat.one_mul,p0,p1,q0,q1,h1,xX]
 by_cases e1:a=c
 ·subst e1
  by_cases e2:b=d
  ·subst e2;simp[p1,h1]
  ·simp[p1,q1,h1,e2]
 ·simp[e1]
theorem run_asking{kt e:TypeId}{i:_}(hk:P.underlying kt=some (.array 2 e))(he:P.underlying e=some (.int .i64))(ha:ask P (isAgg e)=some false)(hi:P.info? e=some i)(hs:P.cellsOf e=1)(rows:Array Value)(a b:Nat):
  ∀(es:List MapEntry) (n:Nat),(∀x∈es,memoOK rows x.key x.val)->
   (Instr.findAsking kt (.agg #[.int .i64 a, .int .i64 b]) es n).run P w= .ok none w\/
   ∃j x,(Instr.findAsking kt (.agg #[.int .i64 a, .int .i64 b]) es n).run P w= .ok (some (n+j,x.val)) w/\es[j]? =some x/\x.key= .agg #[.int .i64 a, .int .i64 b]
 |[],n,_=> .inl (by simp[Instr.findAsking])
 |x::es,n,h=>by
  obtain⟨i1,j1,c,e1,_,_,_⟩:=h x (by simp)
  have hq:=run_equal_two w hk he ha hi hs (a:Int) b i1 j1
  by_cases heq:(a:Int)=i1/\(b:Int)=j1
  ·refine .inr ⟨0,x,?_,rfl,?_⟩
   ·have hq':=hq
    rw[decide_eq_true heq]at hq'
    simp only[Instr.findAsking,xW,e1,hq',xV,if_true,xX,Nat.add_zero]
   ·rw[e1,heq.1,heq.2]
  ·rcases run_asking hk he ha hi hs rows a b es (n+1) (fun y hy=>h y (by simp[hy]))with h1|⟨j,y,h1,h2,h3⟩
   ·refine .inl ?_
    simp only[Instr.findAsking,xW,e1,hq,xV,heq,decide_false,Bool.false_eq_true,if_false,h1]
   ·refine .inr ⟨j+1,y,?_,by simpa using h2,h3⟩
    simp only[Instr.findAsking,xW,e1,hq,xV,heq,decide_false,Bool.false_eq_true,if_false,h1]
    rw[show n+1+j=n+(j+1) by omega]
end
theorem getObj_map{P:Program}{w:World}{r:Nat}{es:Array MapEntry}{clock:Nat}(h:w.heap[r]? =some (.map es clock)):(getObj r).run P w= .ok (.map es clock) w:=by simp[getObj,Sem.run,h]
theorem vr_key{ι:Ren}{w:World}{i j:Int}{k':Value}(h:VR ι w (.agg #[.int .i64 i, .int .i64 j]) k'):k'= .agg #[.int .i64 i, .int .i64 j]:=by
 cases h with
 |agg hs h=>
  rename_i ys
  obtain⟨l⟩:=ys
  match l,hs with
  |[x,y],_=>
   have h0:=h 0 _ x rfl rfl
   have h1:=h 1 _ y rfl rfl
   cases h0;cases h1;rfl
theorem alookup_sound{P:Program}{A:Nat->Prop}{ι:Ren}{H:AH}{Bd:Nat}{w:World}{t:TypeId}{x k x' k':Value}{b:Bool}(hr:Rel A ι H Bd w)(hx:VR ι w x x')(hk:VR ι w k k')(h:alookup P t x k=some b):
  ∃v ok,(Instr.lookup t x' k' true).run P w= .ok (.tuple #[.bool v, .bool ok]) w/\((v=b/\ok=true)\/(v=false/\ok=false)):=by
 obtain⟨⟨kt,et,e,i,h1,h2,h3,h4,h5,h6,h7⟩,rows,hm,a,c,rfl,hc,hrow⟩:=alookup_out h
 obtain⟨B,rfl,hmp⟩:=mrows_out hx hm
 obtain⟨hA,es,clock,hB,hes⟩:=hr.mp B rows hmp
 obtain rfl:=vr_key hk
 have hck:=run_checkKey_two w h2 h3 h4 h5 h6 es.isEmpty 9998 (a:Int) c
 have hfk:=run_findKey_eq (P:=P) w (k:=kt) (by simp[h2]) (.agg #[.int .i64 a, .int .i64 c]) es.toList
 have hz:(zeroValue et).run P w= .ok (.bool false) w:=ask_zero h7 w
 rcases run_asking w h2 h3 h4 h5 h6 rows a c es.toList 0 (fun y hy=>hes y (Array.mem_toList_iff.1 hy))with g|⟨j,y,g1,g2,g3⟩
 ·refine⟨false,false,?_, .inr ⟨rfl,rfl⟩⟩
  simp only[Instr.lookup,xW,run_underlying h1,xV,getObj_map hB,xX,hck,hfk,g,hz,if_true]
 ·have hy:=hes y (Array.mem_toList_iff.1 (wC g2))
  obtain⟨i1,j1,b1,e1,e2,e3,e4⟩:=hy
  rw[g3]at e1
  simp only[Value.agg.injEq,Array.mk.injEq,xG,xK,true_and,and_true]at e1
  obtain⟨q1,q2⟩:=e1
  have q1':a=i1:=by omega
  have q2':c=j1:=by omega
  subst q1';subst q2'
  rw[hrow]at e4
  cases e4
  refine⟨b,true,?_, .inl ⟨rfl,rfl⟩⟩
  simp only[Instr.lookup,xW,run_underlying h1,xV,getObj_map hB,xX,hck,hfk,g1,e2,if_true]
def amapset(P:Program)(t:TypeId)(m k v:Value):Bool:=match alookup P t m k,v with
 |some b, .bool c=>b==c
 |_,_=>false
theorem Rel.mapset{A:Nat->Prop}{ι:Ren}{H:AH}{Bd:Nat}{w:World}(hr:Rel A ι H Bd w){B:Nat}{rows:Array Value}(hmp:ι.mp B=some rows){es:Array MapEntry}{c:Nat}(hes:∀e∈es,memoOK rows e.key e.val):
  Rel A ι H Bd {w with heap:=w.heap.setIfInBounds B (.map es c)}/\Keep A ι w ι {w with heap:=w.heap.setIfInBounds B (.map es c)}:=by
 obtain⟨hA,es0,c0,hB,_⟩:=hr.mp B rows hmp
 have hlt:B<w.heap.size:=(xS.1 hB).1
 have hne:∀B',B'≠B->(w.heap.setIfInBounds B (.map es c))[B']? =w.heap[B']? :=fun B' h=>Array.getElem?_setIfInBounds_ne (fun e=>h e.symm)
 have hsame:(w.heap.setIfInBounds B (.map es c))[B]? =some (.map es c):=Array.getElem?_setIfInBounds_self_of_lt hlt
 have hcell:∀(B':Nat) (cs:Array Value) (e:TypeId) (fr:Nat×Nat),w.heap[B']? =some (Obj.cells cs e fr)->B'≠B:=fun B' cs e fr h e1=>by subst e1;rw[hB]at h;cases h
 have hfro:Fro ι w {w with heap:=w.heap.setIfInBounds B (.map es c)}:=by
  refine⟨fun B' cs e fr h=>⟨cs,fr,(hne B' (hcell B' cs e fr h)).trans h,rfl⟩,fun B' cs e fr _ hx=>(hne B' (hcell B' cs e fr hx)).trans hx⟩
 have hbr:∀n b,H n=some b->∀B' base,ι n=some (.at B' base)->B'≠B:=fun n b hn B' base h1=>by
  rcases hr.blk n b hn with⟨hv,_⟩|⟨B1,base1,cs,e1,fr,g1,g2,_⟩
  ·rw[h1]at hv;cases hv
  ·rw[h1]at g1;cases g1;exact hcell _ _ _ _ g2
 refine⟨⟨hr.bound,fun n b hn=>(hr.blk n b hn).mono (Ext.refl ι) hfro fun B' base h1=>hne B' (hbr n b hn B' base h1),hr.apart,fun B' h=>hr.newA B' (by simpa using h),hr.froz,fun B' h=>by simpa using hr.fzlt B' h,
  fun n b h1 h2=>⟨(hr.glob n b h1 h2).1,(hr.glob n b h1 h2).2.mono hfro.rows⟩,fun B' p hp=>⟨(hr.mp B' p hp).1,?_⟩⟩,⟨rfl,rfl,rfl,by simp,fun B' h hA'=>hne B' fun e=>hA' (e▸hA),hfro,FzLe.refl _,fun _ h=> .inl h⟩⟩
 by_cases e:B'=B
 ·subst e
  rw[hmp]at hp
  cases hp
  exact⟨es,c,hsame,hes⟩
 ·exact(hr.mp B' p hp).2.other (hne B' e)
theorem sameBits_key(n:Nat)(i j:Int):Instr.sameBits (n+2) (.agg #[.int .i64 i, .int .i64 j]) (.agg #[.int .i64 i, .int .i64 j])=true:=by
 simp[Instr.sameBits]
theorem amapset_sound{P:Program}{A:Nat->Prop}{ι:Ren}{H:AH}{Bd:Nat}{w:World}{t:TypeId}{x k v x' k' v':Value}(hr:Rel A ι H Bd w)(hx:VR ι w x x')(hk:VR ι w k k')(hv:VR ι w v v')(h:amapset P t x k v=true):
  ∃w',(Instr.mapUpdate t x' k' v').run P w= .ok () w'/\Rel A ι H Bd w'/\Keep A ι w ι w':=by
 unfold amapset at h
 split at h
 ·rename_i b c hl
  have hbc:b=c:=by simpa using h
  subst hbc
  obtain⟨⟨kt,et,e,i,h1,h2,h3,h4,h5,h6,h7⟩,rows,hm,a,j0,rfl,hc,hrow⟩:=alookup_out hl
  obtain⟨B,rfl,hmp⟩:=mrows_out hx hm
  obtain⟨hA,es,clock,hB,hes⟩:=hr.mp B rows hmp
  obtain rfl:=vr_key hk
  cases hv
  have hck:=run_checkKey_two w h2 h3 h4 h5 h6 false 9998 (a:Int) j0
  have hfk:=run_findKey_eq (P:=P) w (k:=kt) (by simp[h2]) (.agg #[.int .i64 a, .int .i64 j0]) es.toList
  have hset:∀(es':Array MapEntry) (c':Nat),(setObj B (.map es' c')).run P w= .ok () {w with heap:=w.heap.setIfInBounds B (.map es' c')}:=fun es' c'=>by simp[setObj,Sem.run,hB]
  rcases run_asking w h2 h3 h4 h5 h6 rows a j0 es.toList 0 (fun y hy=>hes y (Array.mem_toList_iff.1 hy))with g|⟨j,y,g1,g2,g3⟩
  ·refine⟨_,?_,hr.mapset hmp (es:=es.push ⟨.agg #[.int .i64 a, .int .i64 j0], .bool b,clock⟩) (c:=clock+1) fun y hy=> ?_⟩
   ·simp only[Instr.mapUpdate,xW,run_underlying h1,xV,getObj_map hB,hck,hfk,g,hset]
   ·rcases Array.mem_push.1 hy with hy|rfl
    ·exact hes y hy
    ·exact⟨a,j0,b,rfl,rfl,hc,hrow⟩
  ·have hy:=hes y (Array.mem_toList_iff.1 (wC g2))
   have g2':es[j]? =some y:=by simpa using g2
   have hsb:=sameBits_key 9998 (a:Int) j0
   refine⟨_,?_,hr.mapset hmp (es:=es.modify j fun e=> {e with key:= .agg #[.int .i64 a, .int .i64 j0],val:= .bool b}) (c:=clock) fun z hz=> ?_⟩
   ·simp only[Instr.mapUpdate,xW,run_underlying h1,xV,getObj_map hB,hck,hfk,g1,hset,Nat.zero_add,g2',wK,Option.getD_some,g3,Instr.keyThatStays,hsb,if_true,xX]
   ·obtain⟨m,hm1,rfl⟩:=Array.getElem_of_mem hz
    rw[Array.getElem_modify]
    split
    ·exact⟨a,j0,b,rfl,rfl,hc,hrow⟩
    ·exact hes _ (Array.getElem_mem _)
 ·cases h
theorem amakeMap_sound{P:Program}{A:Nat->Prop}{ι:Ren}{H:AH}{Bd:Nat}{w:World}(hr:Rel A ι H Bd w)(t:TypeId)(rows:Array Value):
  ∃v ι' w',(Instr.makeMap t none).run P w= .ok v w'/\Rel A ι' H Bd w'/\VR ι' w' (.func (.methodOf 0 "") #[] rows) v/\Keep A ι w ι' w'/\∀n,ι' n=ι n:=by
 have hno:ι.mp w.heap.size=none:=by
  cases h:ι.mp w.heap.size with
  |none=>rfl
  |some p=>
   obtain⟨_,es,c,hB,_⟩:=hr.mp _ p h
   have:=(xS.1 hB).1
   omega
 have hle:FzLe ι ⟨ι.m,ι.fz,fun B=>if B=w.heap.size then some rows else ι.mp B⟩:=by
  refine⟨fun _ h=>h,fun B p h=> ?_⟩
  show(if B=w.heap.size then some rows else ι.mp B)=some p
  rw[if_neg (fun e=>by rw[e,hno]at h;cases h)];exact h
 have hx:Ext ι ⟨ι.m,ι.fz,fun B=>if B=w.heap.size then some rows else ι.mp B⟩:=⟨fun _ _ h=>h,hle⟩
 refine⟨_,⟨ι.m,ι.fz,fun B=>if B=w.heap.size then some rows else ι.mp B⟩,w.alloc (.map #[] 0),by simp only[Instr.makeMap,xW,run_newObj_alloc,xV,xX],?_, .mp (if_pos rfl),Keep.alloc A w _ hle,fun _=>rfl⟩
 refine⟨hr.bound,fun n b hn=>(hr.blk n b hn).mono hx (fro_alloc ι w _) fun B base hB=>RowKit.Below.heap_alloc w _ B (hr.lt hn hB),hr.apart,fun B hB=>hr.newA B (by simp at hB;omega),hr.froz,fun B hB=>by have:=hr.fzlt B hB;simp;omega,
  fun n b h1 h2=>⟨(hr.glob n b h1 h2).1,(hr.glob n b h1 h2).2.mono (rows_alloc w _)⟩,fun B p hp=> ?_⟩
 ·replace hp:(if B=w.heap.size then some rows else ι.mp B)=some p:=hp
  by_cases e:B=w.heap.size
  ·rw[if_pos e]at hp
   cases hp
   subst e
   exact⟨hr.newA _ (xC _),#[],0,alloc_new w _,fun y hy=>by simp at hy⟩
  ·rw[if_neg e]at hp
   exact⟨(hr.mp B p hp).1,(hr.mp B p hp).2.alloc _⟩
end Go.SC
namespace Go.SC
open Go
def Agr(Bd:Nat)(ι ι':Ren):Prop:=∀n,n<Bd->ι' n=ι n
theorem Agr.refl(Bd:Nat)(ι:Ren):Agr Bd ι ι:=fun _ _=>rfl
theorem Agr.trans{Bd Bd':Nat}{a b c:Ren}(h:Agr Bd a b)(k:Agr Bd' b c)(hle:Bd<=Bd'):Agr Bd a c:=fun n hn=>(k n (Nat.lt_of_lt_of_le hn hle)).trans (h n hn)
theorem Agr.ext{A:Nat->Prop}{ι ι':Ren}{H:AH}{Bd:Nat}{w:World}(h:Agr Bd ι ι')(hr:Rel A ι H Bd w)(hf:FzLe ι ι'):Ext ι ι':=⟨fun n l hl=>by
 rcases xM n Bd with hn|hn
 ·rw[h n hn,hl]
 ·rw[hr.bound n hn]at hl;exact(by cases hl),hf⟩
def NI(H H':AH):Prop:=∀n b,H' n=some b->b.own=false->∃b',H n=some b'/\b'.own=false
theorem NI.refl(H:AH):NI H H:=fun n b h k=>⟨b,h,k⟩
theorem NI.trans{a b c:AH}(h:NI a b)(k:NI b c):NI a c:=fun n x hx ho=>by
 obtain⟨y,h1,h2⟩:=k n x hx ho
 exact h n y h1 h2
theorem NI.upd{H G:AH}(h:NI H G)(n:Nat)(L:List Value):NI H (SC.upd G n (some ⟨L,true⟩)):=fun m b hm ho=>by
 by_cases e:m=n
 ·subst e;rw[qJ]at hm;cases hm;cases ho
 ·rw[qD _ _ e]at hm;exact h m b hm ho
theorem NI.kill{H G:AH}(h:NI H G)(n:Nat):NI H (SC.upd G n none):=fun m b hm ho=>by
 by_cases e:m=n
 ·subst e;rw[qJ]at hm;cases hm
 ·rw[qD _ _ e]at hm;exact h m b hm ho
theorem NI.sub{H G G':AH}(h:NI H G)(hs:∀n b,G' n=some b->G n=some b):NI H G':=fun m b hm ho=>h m b (hs m b hm) ho
def Enters(P:Program)(f:FuncId):Prop:=∀(args:Array Value) (w:World),(callFunc f args).run P w= .ok (.enter f args) w
def SCalls(P:Program)(f:FuncId)(args:List Value)(H:AH)(Bd:Nat)(post:Value->AH->Nat->Prop):Prop:=
 Enters P f/\∀(A:Nat->Prop) (ι:Ren) (vs:Array Value) (w:World),Rel A ι H Bd w->SR ι w args vs->
  Calls P f vs w fun e w'=>∃v r ι' H' Bd',e= .returned v/\post r H' Bd'/\Bd<=Bd'/\Rel A ι' H' Bd' w'/\VR ι' w' r v/\Keep A ι w ι' w'/\Agr Bd ι ι'/\NI H H'
theorem SCalls.mono{P:Program}{f:FuncId}{args:List Value}{H:AH}{Bd:Nat}{post post':Value->AH->Nat->Prop}(h:SCalls P f args H Bd post)(hp:∀r H' Bd',post r H' Bd'->Bd<=Bd'->post' r H' Bd'):
  SCalls P f args H Bd post':=
 ⟨h.1,fun A ι vs w hr hs=>(h.2 A ι vs w hr hs).mono fun _ _ ⟨v,r,ι',H',Bd',h1,h2,h3,h4⟩=>⟨v,r,ι',H',Bd',h1,hp r H' Bd' h2 h3,h3,h4⟩⟩
def OpT(P:Program)(o:Oper)(s:List Value)(H:AH)(Bd:Nat)(K:Value->AH->Nat->Prop):Prop:=
 ∀(A:Nat->Prop) (ι:Ren) (a:Act) (w:World),St A ι s H Bd a w->∀(Kc:Act->World->Prop) (Q:Exit->Act->World->Prop),
  (∀v r ι' H' Bd' w',K r H' Bd'->Bd<=Bd'->Rel A ι' H' Bd' w'->VR ι' w' r v->Keep A ι w ι' w'->Agr Bd ι ι'->NI H H'->Kc (a.put o.dst v) w')->o.wp P a w Kc Q
abbrev qH:=List Value->AH->Nat->(Value->AH->Nat->Prop)->Prop
structure Env (P:Program) where
 S:FuncId->qH
 ok:∀g args H Bd K,S g args H Bd K->SCalls P g args H Bd K
def Env.base(P:Program):Env P:=⟨fun g args H Bd K=>SCalls P g args H Bd K,fun _ _ _ _ _ h=>h⟩
def Env.add{P:Program}(E:Env P)(f:FuncId)(W:qH)(h:∀args H Bd K,W args H Bd K->SCalls P f args H Bd K):Env P:=
 ⟨fun g=>if g=f then W else E.S g,fun g args H Bd K hk=>by
  by_cases e:g=f
  ·subst e;exact h _ _ _ _ (by simpa using hk)
  ·exact E.ok g _ _ _ _ (by simpa[e]using hk)⟩
theorem aclear_ni{P:Program}{H H':AH}{ts:List TypeId}{v:Value}(h:aclear P H ts v=some H'):NI H H':=by
 unfold aclear at h
 split at h
 ·split at h
  ·split at h
   ·simp only[xU,xE]at h
    obtain⟨_,rfl⟩:=h
    exact(NI.refl _).upd _ _
   ·cases h
  ·cases h
 ·cases h
def isSl:Value->Bool
 | .slice .. =>true
 | .func (.yield _) _ _=>true
 |_=>false
def jW{P:Program}(E:Env P)(o:Oper)(s:List Value)(H:AH)(Bd:Nat)(K:Value->AH->Nat->Prop):Prop:=
 match o.op with
 | .load t x=>match ev s x with
  | .pointer (some ⟨n,off,none⟩)=>Yld (H n) fun b=>Yld (vX P t b off) fun v=>K v H Bd
  | .func (.method _) _ cs=>Yld (vX P t ⟨cs.toList,false⟩ 0) fun v=>K v H Bd
  |_=>False
 | .store t x y=>match ev s x with
  | .pointer (some ⟨n,off,none⟩)=>Yld (H n) fun b=>
    (b.own=true/\ask P (sizeOf t)=some (cellsL (ev s y)).length/\(cellsL (ev s y)).all kP=true/\off+(cellsL (ev s y)).length<=b.cells.length)/\
     K undef (upd H n (some ⟨lset b.cells off (cellsL (ev s y)),true⟩)) Bd
  |_=>False
 | .alloc t=>Yld (ask P (zeroValue t)) fun z=>(cellsL z).all yI=true/\K (.pointer (some ⟨Bd,0,none⟩)) (upd H Bd (some ⟨cellsL z,true⟩)) (Bd+1)
 | .box _ x=>isUnk (ev s x)=false/\K (.pointer (some ⟨Bd,0,none⟩)) (upd H Bd (some ⟨cellsL (ev s x),true⟩)) (Bd+1)
 | .buildSlice t len parts=>Yld (kU P t len (parts.toList.map fun x=>(x.1,ev s x.2))) fun r=>K (.slice (some ⟨Bd,0,some r.1⟩) len (len+1)) (upd H Bd (some ⟨r.2,true⟩)) (Bd+1)
 | .makeSlice t l c=>Yld (amake P t (ev s l) (ev s c)) fun r=>K (.slice (some ⟨Bd,0,some r.1⟩) r.2.2.1 (r.2.2.2+1)) (upd H Bd (some ⟨r.2.1,true⟩)) (Bd+1)
 | .convert src dst x=>if isSl (ev s x)=true then Yld (astring P H src dst (ev s x)) fun v=>K v H Bd else Yld (aval P s (.convert src dst x)) fun v=>K v H Bd
 | .call c=>match c.callee with
  | .value f=>match ev s f with
   | .func (.func g) first caps=>first= #[]/\E.S g (c.args.toList.map (ev s)++caps.toList) H Bd K
   |_=>False
  | .builtin .append=>match c.args.toList with
   |[x,y]=>Yld (aappend P H c.argTypes.toList (ev s x) (ev s y)) fun r=>r.need<=1073741824/\K (zB r Bd) (yK H r Bd) (Bd+1)
   |_=>False
  | .builtin .clear=>match c.args.toList with
   |[x]=>Yld (aclear P H c.argTypes.toList (ev s x)) fun H'=>K (.tuple #[]) H' Bd
   |_=>False
  | .builtin _=>Yld (aval P s (.call c)) fun v=>K v H Bd
  |_=>False
 | .makeMap t none=>∃rows:Array Value,K (.func (.methodOf 0 "") #[] rows) H Bd
 | .lookup t x i true=>Yld (alookup P t (ev s x) (ev s i)) fun b=>K (.tuple #[.bool b, .bool true]) H Bd/\K (.tuple #[.bool false, .bool false]) H Bd
 | .mapUpdate t x k v=>amapset P t (ev s x) (ev s k) (ev s v)=true/\K undef H Bd
 |op=>Yld (aval P s op) fun v=>K v H Bd
theorem opT_value{P:Program}{o:Oper}{s:List Value}{H:AH}{Bd:Nat}{K:Value->AH->Nat->Prop}
  (h:∀(A:Nat->Prop) (ι:Ren) (a:Act) (w:World),St A ι s H Bd a w->∃v r ι' H' Bd' w',(execOp a.eval o).run P w= .ok (.value v) w'/\K r H' Bd'/\Bd<=Bd'/\Rel A ι' H' Bd' w'/\VR ι' w' r v/\Keep A ι w ι' w'/\Agr Bd ι ι'/\NI H H'):
  OpT P o s H Bd K:=by
 intro A ι a w hst Kc Q hK
 obtain⟨v,r,ι',H',Bd',w',h1,h2,h3,h4,h5,h6,h7,h8⟩:=h A ι a w hst
 unfold Oper.wp
 rw[h1,Oper.upon_value]
 exact hK v r ι' H' Bd' w' h2 h3 h4 h5 h6 h7 h8
theorem opT_aval{P:Program}{o:Oper}{s:List Value}{H:AH}{Bd:Nat}{K:Value->AH->Nat->Prop}(h:Yld (aval P s o.op) fun v=>K v H Bd):OpT P o s H Bd K:=by
 obtain⟨r,hr,hk⟩:=h
 refine opT_value fun A ι a w hst=> ?_
 obtain⟨v,h1,h2⟩:=aval_sound (P:=P) hst.slots hr
 exact⟨v,r,ι,H,Bd,w,h1,hk,xC _,hst.rel,h2,Keep.refl A w,Agr.refl _ _,NI.refl _⟩
theorem opT_new{P:Program}{o:Oper}{s:List Value}{H:AH}{Bd:Nat}{K:Value->AH->Nat->Prop}{r:Value}{H':AH}(hk:K r H' (Bd+1))(hni:NI H H')
  (h:∀(A:Nat->Prop) (ι:Ren) (a:Act) (w:World),St A ι s H Bd a w->Rel A ι H (Bd+1) w->ι Bd=none->∃v ι' w',(execOp a.eval o).run P w= .ok (.value v) w'/\Rel A ι' H' (Bd+1) w'/\VR ι' w' r v/\Keep A ι w ι' w'/\∀n,n≠Bd->ι' n=ι n):
  OpT P o s H Bd K:=by
 refine opT_value fun A ι a w hst=> ?_
 obtain⟨v,ι',w',h1,h2,h3,h4,h5⟩:=h A ι a w hst (hst.rel.raise (Nat.le_succ _)) (hst.rel.bound _ (xC _))
 exact⟨v,r,ι',H',Bd+1,w',h1,hk,Nat.le_succ _,h2,h3,h4,fun n hn=>h5 n (Nat.ne_of_lt hn),hni⟩
theorem SR.args{ι:Ren}{w:World}{s:List Value}{a:Act}(hs:SR ι w s a.tmps)(xs:Array Operand){caps caps':Array Value}(hsz:caps.size=caps'.size)(hc:∀(i:Nat) v v',caps[i]? =some v->caps'[i]? =some v'->VR ι w v v'):
  SR ι w (xs.toList.map (SC.ev s)++caps.toList) (xs.map a.eval++caps'):=by
 obtain⟨h1,h2⟩:=hs.list xs
 have e1:(xs.toList.map (SC.ev s)).length=xs.size:=by simp
 have e2:(xs.map a.eval).size=xs.size:=by simp
 refine⟨by simp[hsz],fun i v v' g1 g2=> ?_⟩
 rw[List.getElem?_append,e1]at g1
 rw[Array.getElem?_append,e2]at g2
 split at g1
 ·rename_i hi
  rw[if_pos hi]at g2
  exact h2 i v v' (by simpa using g1) g2
 ·rename_i hi
  rw[if_neg hi]at g2
  exact hc _ v v' (by simpa using g1) g2
theorem astep_sound{P:Program}(hP:POk P){E:Env P}{o:Oper}{s:List Value}{H:AH}{Bd:Nat}{K:Value->AH->Nat->Prop}(h:jW E o s H Bd K):OpT P o s H Bd K:=by
 obtain⟨dst,op,type,pos,after,guard⟩:=o
 unfold jW at h
 simp only at h
 split at h
 ·
  rename_i t x
  split at h
  ·rename_i n off hx
   obtain⟨b,hb,v,hv,hk⟩:=h
   refine opT_value fun A ι a w hst=> ?_
   have hxv:=hst.slots.ev x
   rw[hx]at hxv
   obtain⟨v',h1,h2⟩:=aload_sound (P:=P) hst.rel hb hxv hv
   exact⟨v',v,ι,H,Bd,w,by simp only[execOp,xW,h1,xV,xX],hk,xC _,hst.rel,h2,Keep.refl A w,Agr.refl _ _,NI.refl _⟩
  ·rename_i m fs cs hx
   obtain⟨v,hv,hk⟩:=h
   refine opT_value fun A ι a w hst=> ?_
   have hxv:=hst.slots.ev x
   rw[hx]at hxv
   obtain⟨v',h1,h2⟩:=vload_sound (P:=P) hxv hv
   exact⟨v',v,ι,H,Bd,w,by simp only[execOp,xW,h1,xV,xX],hk,xC _,hst.rel,h2,Keep.refl A w,Agr.refl _ _,NI.refl _⟩
  ·cases h
 ·
  rename_i t x y
  split at h
  ·rename_i n off hx
   obtain⟨b,hb,⟨ho,hsz,hc,hle⟩,hk⟩:=h
   intro A ι a w hst Kc Q hK
   have hxv:=hst.slots.ev x
   rw[hx]at hxv
   obtain⟨B,base,hι,hxe⟩:=ev_ptr hxv
   have hu:isUnk (ev s y)=false:=by
    cases hy:ev s y <;>first|rfl|skip
    rename_i q
    cases q <;>first|rfl|(rw[hy]at hc;simp[cellsL,kP]at hc)
   have hy:=(hst.slots.ev y).cells hu
   obtain⟨w',h1,h2,h3⟩:=storeCells_run P (base:=base) off _ _ H w b 0 hst.rel hb ho hι hy hc (by omega)
   have hsz':(a.eval y).cells.size=(cellsL (ev s y)).length:=by rw[hy.1];simp
   unfold Oper.wp
   have:(execOp a.eval ⟨dst, .store t x y,type,pos,after,guard⟩).run P w= .ok .skip w':=by
    simp only[execOp,Instr.storeAt,hxe,Instr.sureAddr,storeVar,xW,xX,xV,jM hsz w,hsz',ne_eq,not_true_eq_false,if_false,h1]
   rw[this,Oper.upon_skip]
   exact hK undef undef ι _ Bd w' hk (xC _) h2 (.tuple rfl fun i v v' h1 _=>by simp at h1) h3 (Agr.refl _ _) ((NI.refl _).upd _ _)
  ·cases h
 ·
  rename_i t
  obtain⟨z,hz,hp,hk⟩:=h
  refine opT_new hk ((NI.refl _).upd _ _) fun A ι a w hst hr hn=> ?_
  obtain⟨v,w',ι',h1,h2,h3,h4,h5⟩:=alloc_var (P:=P) hr hz hp hn (Nat.lt_succ_self _)
  exact⟨v,ι',w',by simp only[execOp,xW,h1,xV,xX],h2,h3,h4,h5⟩
 ·
  rename_i t x
  obtain⟨hu,hk⟩:=h
  refine opT_new hk ((NI.refl _).upd _ _) fun A ι a w hst hr hn=> ?_
  obtain⟨v,w',ι',h1,h2,h3,h4,h5⟩:=new_var (P:=P) (t:=t) hr (hst.slots.ev x) hu hn (Nat.lt_succ_self _)
  exact⟨v,ι',w',by simp only[execOp,xW,h1,xV,xX],h2,h3,h4,h5⟩
 ·
  rename_i t len parts
  obtain⟨⟨k,L⟩,hb,hk⟩:=h
  refine opT_new hk ((NI.refl _).upd _ _) fun A ι a w hst hr hn=> ?_
  obtain⟨v,w',ι',h1,h2,h3,h4,h5⟩:=abuildSlice_sound (P:=P) hr hst.slots parts hn (Nat.lt_succ_self _) hb
  exact⟨v,ι',w',by simp only[execOp,xW,h1,xV,xX],h2,h3,h4,h5⟩
 ·
  rename_i t l c
  obtain⟨⟨k,L,n,c0⟩,hb,hk⟩:=h
  refine opT_new hk ((NI.refl _).upd _ _) fun A ι a w hst hr hn=> ?_
  obtain⟨v,w',ι',h1,h2,h3,h4,h5⟩:=amake_sound hP hr (hst.slots.ev l) (hst.slots.ev c) hn (Nat.lt_succ_self _) hb
  exact⟨v,ι',w',by simp only[execOp,xW,h1,xV,xX],h2,h3,h4,h5⟩
 ·
  rename_i src dst' x
  split at h
  ·rename_i hsl
   obtain⟨v,hv,hk⟩:=h
   refine opT_value fun A ι a w hst=> ?_
   obtain⟨h1,h2⟩:=astring_sound (P:=P) hst.rel (hst.slots.ev x) (fun s hs=>by rw[hs]at hsl;simp[isSl]at hsl) hv
   exact⟨v,v,ι,H,Bd,w,by simp only[execOp,xW,h1,xV,xX],hk,xC _,hst.rel,VR.plain h2,Keep.refl A w,Agr.refl _ _,NI.refl _⟩
  ·exact opT_aval h
 ·
  rename_i c
  obtain⟨callee,args,ts⟩:=c
  simp only at h
  split at h
  ·rename_i f
   split at h
   ·rename_i g first caps hf
    obtain⟨rfl,h⟩:=h
    obtain⟨hent,hc⟩:=E.ok _ _ _ _ _ h
    intro A ι a w hst Kc Q hK
    have hfv:=hst.slots.ev f
    rw[hf]at hfv
    generalize hfe:a.eval f=fv at hfv
    cases hfv with
    |func hsz hcap=>
    rename_i caps'
    have hcalls:=hc A ι _ w hst.rel (hst.slots.args args hsz hcap)
    unfold Oper.wp
    have:(execOp a.eval ⟨dst, .call ⟨.value f,args,ts⟩,type,pos,after,guard⟩).run P w= .ok (.enter g (args.map a.eval++caps')) w:=by
     simp only[execOp,resolve,hfe,Deferred.ofValue,invoke,xW,xX,xV,Array.empty_append]
     exact hent _ _
    rw[this,Oper.upon_enter]
    refine hcalls.mono fun e w' ⟨v,r,ι',H',Bd',he,h1,h2,h3,h4,h5,h6,h7⟩=> ?_
    subst he
    exact hK v r ι' H' Bd' w' h1 h2 h3 h4 h5 h6 h7
   ·cases h
  ·split at h
   ·rename_i x y hargs
    obtain⟨r,hr0,hn0,hk⟩:=h
    obtain rfl:args= #[x,y]:=by cases args;simp_all
    refine opT_new hk (by unfold yK;split <;>first|exact((NI.refl _).kill _).upd _ _|exact(NI.refl _).upd _ _) fun A ι a w hst hr hn=> ?_
    obtain⟨v,w',ι',h1,h2,h3,h4,h5⟩:=aappend_sound hP hr type (hst.slots.ev x) (hst.slots.ev y) hn (Nat.lt_succ_self _) hr0 hn0
    have h1':(Builtin.append_ ts type #[a.eval x,a.eval y]).run P w= .ok v w':=by simpa using h1
    refine⟨v,ι',w',?_,h2,h3,h4,h5⟩
    simp only[execOp,resolve,invoke,builtin,xW,xX,xV,List.map_toArray,List.map_cons,List.map_nil,h1']
   ·cases h
  ·split at h
   ·rename_i x hargs
    obtain⟨H',hc,hk⟩:=h
    obtain rfl:args= #[x]:=by cases args;simp_all
    refine opT_value fun A ι a w hst=> ?_
    obtain⟨w',h1,h2,h3⟩:=aclear_sound (P:=P) hst.rel (ty:=type) (hst.slots.ev x) hc
    refine⟨_,_,ι,H',Bd,w',?_,hk,xC _,h2, .tuple rfl fun i v v' e1 _=>by simp at e1,h3,Agr.refl _ _,aclear_ni hc⟩
    have h1':(Builtin.clear_ ts type #[a.eval x]).run P w= .ok (.tuple #[]) w':=by simpa using h1
    simp only[execOp,resolve,invoke,builtin,xW,xX,xV,List.map_toArray,List.map_cons,List.map_nil,h1']
   ·cases h
  ·exact opT_aval h
  ·cases h
 ·
  rename_i t
  obtain⟨rows,hk⟩:=h
  refine opT_value fun A ι a w hst=> ?_
  obtain⟨v,ι',w',h1,h2,h3,h4,h5⟩:=amakeMap_sound (P:=P) hst.rel t rows
  exact⟨v,_,ι',H,Bd,w',by simp only[execOp,Option.map_none,xW,h1,xV,xX],hk,xC _,h2,h3,h4,fun n _=>h5 n,NI.refl _⟩
 ·
  rename_i t x i
  obtain⟨b,hb,hk1,hk2⟩:=h
  refine opT_value fun A ι a w hst=> ?_
  obtain⟨v,ok,h1,h2⟩:=alookup_sound (P:=P) hst.rel (hst.slots.ev x) (hst.slots.ev i) hb
  have hv:∀c d:Bool,VR ι w (.tuple #[.bool c, .bool d]) (.tuple #[.bool c, .bool d]):=fun c d=> .tuple rfl fun j u u' g1 g2=>by
   rw[g1]at g2;cases g2
   match j with
   |0=>cases g1;exact .bool _
   |1=>cases g1;exact .bool _
   |j+2=>simp at g1
  refine⟨_,_,ι,H,Bd,w,by simp only[execOp,xW,h1,xV,xX],?_,xC _,hst.rel,hv v ok,Keep.refl A w,Agr.refl _ _,NI.refl _⟩
  rcases h2 with⟨rfl,rfl⟩|⟨rfl,rfl⟩
  ·exact hk1
  ·exact hk2
 ·
  rename_i t x k v
  obtain⟨hm,hk⟩:=h
  intro A ι a w hst Kc Q hK
  obtain⟨w',h1,h2,h3⟩:=amapset_sound (P:=P) hst.rel (hst.slots.ev x) (hst.slots.ev k) (hst.slots.ev v) hm
  unfold Oper.wp
  have:(execOp a.eval ⟨dst, .mapUpdate t x k v,type,pos,after,guard⟩).run P w= .ok .skip w':=by
   simp only[execOp,xW,xX,xV,h1]
  rw[this,Oper.upon_skip]
  exact hK undef undef ι _ Bd w' hk (xC _) h2 (.tuple rfl fun i v v' h1 _=>by simp at h1) h3 (Agr.refl _ _) (NI.refl _)
 ·exact opT_aval h
def sput(s:List Value)(d:Option Nat)(v:Value):List Value:=
 match d with
 |some d=>sset s d v
 |none=>s
def odst:List Oper->Nat->Option Nat
 |[],_=>none
 |o::_,0=>o.dst
 |_::l,n+1=>odst l n
theorem odst_eq:∀(l:List Oper) (n:Nat),odst l n=(l[n]?).bind (·.dst)
 |[],_=>rfl
 |_::_,0=>rfl
 |_::l,n+1=>by rw[odst,odst_eq l n];simp
def agard(ops:List Oper)(s:List Value)(j:Nat):Option Value:=
 match odst ops j with
 |some d=>some (sget s d)
 |none=>none
def Cnd(b:Bool)(A B:Prop):Prop:=(b=true->A)/\(b=false->B)
def vops{P:Program}(E:Env P)(ops:List Oper):List Oper->List Value->AH->Nat->(List Value->AH->Nat->Prop)->Prop
 |[],s,H,Bd,Q=>Q s H Bd
 |o::rest,s,H,Bd,Q=>
  match o.guard with
  |none=>jW E o s H Bd fun v H Bd=>vops E ops rest (sput s o.dst v) H Bd Q
  |some (j,want)=>
   match agard ops s j with
   |some (.bool b)=>Cnd (b==want) (jW E o s H Bd fun v H Bd=>vops E ops rest (sput s o.dst v) H Bd Q) (vops E ops rest (sput s o.dst undef) H Bd Q)
   |some (.tuple _)=>vops E ops rest (sput s o.dst undef) H Bd Q
   |_=>False
theorem SR.sput{ι:Ren}{w:World}{s:List Value}{a:Act}(h:SR ι w s a.tmps)(d:Option Nat){v v':Value}(hv:VR ι w v v'):SR ι w (SC.sput s d v) (a.put d v').tmps:=by
 cases d with
 |none=>exact h
 |some d=>
  simp only[SC.sput,sset_eq]
  exact h.set d hv
theorem vr_undef(ι:Ren)(w:World):VR ι w undef undef:= .tuple rfl fun i v v' h1 _=>by simp at h1
theorem St.put{A:Nat->Prop}{ι ι':Ren}{s:List Value}{H H':AH}{Bd Bd':Nat}{a:Act}{w w':World}(h:St A ι s H Bd a w)(hr:Rel A ι' H' Bd' w')(hk:Keep A ι w ι' w')(hag:Agr Bd ι ι')(d:Option Nat){r v:Value}(hv:VR ι' w' r v):
  St A ι' (sput s d r) H' Bd' (a.put d v) w':=
 ⟨hr,(h.slots.mono (hag.ext h.rel hk.fz) hk.rows).sput d hv,by cases d <;>exact h.defers⟩
theorem yL{ι:Ren}{w:World}{s:List Value}{ops:Array Oper}{a:Act}(h:SR ι w s a.tmps){j:Nat}{v:Value}(hv:agard ops.toList s j=some v):
  (∃v',((ops[j]?).bind (·.dst)).bind (a.tmps[·]?)=some v'/\VR ι w v v')\/(v=undef/\((ops[j]?).bind (·.dst)).bind (a.tmps[·]?)=none):=by
 unfold agard at hv
 rw[odst_eq,Array.getElem?_toList]at hv
 cases hd:(ops[j]?).bind (·.dst)with
 |none=>rw[hd]at hv;cases hv
 |some d=>
  rw[hd]at hv
  simp only[Option.bind_some,xE,zE]at hv ⊢
  subst hv
  by_cases hlt:d<s.length
  ·have hlt':d<a.tmps.size:=h.1▸hlt
   exact .inl ⟨a.tmps[d],by simp[hlt'],by
    rw[xF,xA hlt]
    exact h.2 d _ _ (xA hlt) (by simp[hlt'])⟩
  ·have hlt':¬d<a.tmps.size:=h.1▸hlt
   exact .inr ⟨by rw[xF,wQ (Nat.le_of_not_lt hlt)];rfl,by simp[hlt']⟩
theorem vops_sound{P:Program}(hP:POk P){E:Env P}{ops:Array Oper}{Q:List Value->AH->Nat->Prop}{Qc:Exit->Act->World->Prop}:
  ∀(l:List Oper) (s:List Value) (H:AH) (Bd:Nat),vops E ops.toList l s H Bd Q->∀(A:Nat->Prop) (ι:Ren) (a:Act) (w:World),St A ι s H Bd a w->
   (∀s' H' Bd' ι' a' w',Q s' H' Bd'->Bd<=Bd'->St A ι' s' H' Bd' a' w'->Keep A ι w ι' w'->Agr Bd ι ι'->NI H H'->Qc .normal a' w')->wpList P ops Qc l a w
 |[],s,H,Bd,h,A,ι,a,w,hst,hQ=>hQ s H Bd ι a w h (xC _) hst (Keep.refl A w) (Agr.refl _ _) (NI.refl _)
 |o::rest,s,H,Bd,h,A,ι,a,w,hst,hQ=>by
  have hstep:∀(hs:jW E o s H Bd fun v H Bd=>vops E ops.toList rest (sput s o.dst v) H Bd Q),o.wp P a w (wpList P ops Qc rest) Qc:=fun hs=>
   astep_sound hP hs A ι a w hst _ _ fun v r ι' H' Bd' w' h1 h2 h3 h4 h5 h6 h7=>
    vops_sound hP rest _ H' Bd' h1 A ι' _ w' (hst.put h3 h5 h6 o.dst h4) fun s2 H2 Bd2 ι2 a2 w2 g1 g2 g3 g4 g5 g6=>
     hQ s2 H2 Bd2 ι2 a2 w2 g1 (wE h2 g2) g3 (h5.trans g4) (h6.trans g5 h2) (h7.trans g6)
  have hskip:vops E ops.toList rest (sput s o.dst undef) H Bd Q->wpList P ops Qc rest (a.put o.dst undef) w:=fun hs=>
   vops_sound hP rest _ H Bd hs A ι _ w (hst.put hst.rel (Keep.refl A w) (Agr.refl _ _) o.dst (vr_undef ι w)) hQ
  unfold vops at h
  unfold wpList
  cases hg:o.guard with
  |none=>
   rw[hg]at h
   rw[if_pos (by simp[Region.wanted,hg])]
   exact .inl (hstep h)
  |some jw=>
   obtain⟨j,want⟩:=jw
   rw[hg]at h
   simp only at h
   split at h
   ·rename_i b hb
    have hy:yielded ops a.tmps j=some b:=by
     rcases yL hst.slots hb with⟨v',h1,h2⟩|⟨h1,_⟩
     ·cases h2;simp only[yielded,h1]
     ·cases h1
    by_cases hbw:b=want
    ·subst hbw
     rw[if_pos (by simp[Region.wanted,hg,hy])]
     exact .inl (hstep (h.1 (by simp)))
    ·rw[if_neg (by simp[Region.wanted,hg,hy,hbw])]
     exact hskip (h.2 (by simp[hbw]))
   ·rename_i vs hb
    have hy:yielded ops a.tmps j=none:=by
     rcases yL hst.slots hb with⟨v',h1,h2⟩|⟨_,h1⟩
     ·cases h2;simp only[yielded,h1]
     ·simp only[yielded,h1]
    rw[if_neg (by simp[Region.wanted,hg,hy])]
    exact hskip h
   ·cases h
abbrev yY:=Exit->List Value->AH->Nat->Prop
def Tr(P:Program)(N0:Nat)(c:Code)(Q:yY)(s:List Value)(H:AH)(Bd:Nat):Prop:=
 N0<=Bd->∀(A:Nat->Prop) (ι:Ren) (a:Act) (w:World),St A ι s H Bd a w->
  c.wp P (fun e a' w'=>∃ι' s' H' Bd',Q e s' H' Bd'/\N0<=Bd'/\St A ι' s' H' Bd' a' w'/\Keep A ι w ι' w'/\Agr N0 ι ι'/\NI H H') a w
theorem Tr.mono{P:Program}{N0:Nat}{c:Code}{Q Q':yY}{s:List Value}{H:AH}{Bd:Nat}(h:Tr P N0 c Q s H Bd)(hq:∀e s H Bd,Q e s H Bd->Q' e s H Bd):Tr P N0 c Q' s H Bd:=
 fun hN A ι a w hst=>wp_mono (h hN A ι a w hst) fun e a' w' ⟨ι',s',H',Bd',h1,h2⟩=>⟨ι',s',H',Bd',hq _ _ _ _ h1,h2⟩
def thenQ(next:List Value->AH->Nat->Prop)(Q:yY):yY
 | .normal=>next
 |e=>Q e
def inBlockQ(id:Nat)(Q:yY):yY
 | .exit id'=>if id'=id then Q .normal else Q (.exit id')
 |e=>Q e
@[simp] theorem thenQ_normal(n:List Value->AH->Nat->Prop)(Q:yY):thenQ n Q .normal=n:=rfl
@[simp] theorem thenQ_ret(n:List Value->AH->Nat->Prop)(Q:yY):thenQ n Q .ret=Q .ret:=rfl
@[simp] theorem thenQ_exit(n:List Value->AH->Nat->Prop)(Q:yY)(i:Nat):thenQ n Q (.exit i)=Q (.exit i):=rfl
@[simp] theorem inBlockQ_normal(id:Nat)(Q:yY):inBlockQ id Q .normal=Q .normal:=rfl
@[simp] theorem inBlockQ_ret(id:Nat)(Q:yY):inBlockQ id Q .ret=Q .ret:=rfl
@[simp] theorem inBlockQ_exit(id:Nat)(Q:yY)(i:Nat):inBlockQ id Q (.exit i)=if i=id then Q .normal else Q (.exit i):=rfl
def Le(H' H:AH):Prop:=∀n b,H' n=some b->H n=some b
theorem Le.refl(H:AH):Le H H:=fun _ _ h=>h
theorem Le.trans{a b c:AH}(h:Le a b)(k:Le b c):Le a c:=fun n x hx=>k n x (h n x hx)
theorem Le.fresh{H' H:AH}(h:Le H' H){n:Nat}(hn:H' n=none)(b:Option Blk):Le H' (SC.upd H n b):=fun m c hm=>by
 by_cases e:m=n
 ·subst e;rw[hn]at hm;cases hm
 ·rw[qD _ _ e];exact h m c hm
def fits:List Value->List Value->Prop
 |[],[]=>True
 |x::xs,y::ys=>(y=unk\/x=y)/\fits xs ys
 |_,_=>False
theorem fits_sound{ι:Ren}{w:World}:∀(s s':List Value),fits s s'->s.length=s'.length/\∀(i:Nat) y,s'[i]? =some y->y=unk\/s[i]? =some y
 |[],[],_=>⟨rfl,fun i y h=>by simp at h⟩
 |x::xs,y::ys,h=>by
  obtain⟨h1,h2⟩:=fits_sound (ι:=ι) (w:=w) xs ys h.2
  refine⟨by simp[h1],fun i z hz=> ?_⟩
  cases i with
  |zero=>
   simp only[wD,xE]at hz ⊢
   subst hz
   exact h.1
  |succ i=>simpa using h2 i z (by simpa using hz)
 |[],_::_,h=>h.elim
 |_::_,[],h=>h.elim
def Sub(s:List Value)(H:AH)(Bd:Nat)(s':List Value)(H':AH)(Bd':Nat):Prop:=fits s s'/\Le H' H/\Bd<=Bd'
theorem Sub.st{A:Nat->Prop}{ι:Ren}{s s':List Value}{H H':AH}{Bd Bd':Nat}{a:Act}{w:World}(h:Sub s H Bd s' H' Bd')(hst:St A ι s H Bd a w):St A ι s' H' Bd' a w:=by
 obtain⟨h1,h2⟩:=fits_sound (ι:=ι) (w:=w) s s' h.1
 refine⟨(hst.rel.sub h.2.1).raise h.2.2,⟨by rw[<-h1];exact hst.slots.1,fun i v v' g1 g2=> ?_⟩,hst.defers⟩
 rcases h2 i v g1 with rfl|g3
 ·exact .unk _
 ·exact hst.slots.2 i v v' g3 g2
theorem least_of(p:Nat->Prop):∀n,p n->∃k,p k/\∀m,p m->k<=m:=by
 intro n
 induction n using Nat.strongRecOn with
 |_ n ih=>
  intro hn
  by_cases h:∃m,m<n/\p m
  ·obtain⟨m,hm,hp⟩:=h;exact ih m hm hp
  ·exact⟨n,hn,fun m hm=>Nat.le_of_not_lt fun hlt=>h ⟨m,hlt,hm⟩⟩
open Classical in
noncomputable def leastN(p:Nat->Prop):Nat:=if h:∃k,p k/\∀m,p m->k<=m then Classical.choose h else 0
theorem leastN_spec{p:Nat->Prop}{n:Nat}(h:p n):p (leastN p)/\∀m,p m->leastN p<=m:=by
 unfold leastN
 rw[dif_pos (least_of p n h)]
 exact Classical.choose_spec (least_of p n h)
theorem tr_loop{P:Program}{N0:Nat}{c:Code}{Q:yY}{s:List Value}{H:AH}{Bd:Nat}{X:Type}(I:X->Prop)(sl:X->List Value)(hp:X->AH)(bd:X->Nat)(μ:X->Nat)(x0:X)(h0:I x0)
  (hs:Sub s H Bd (sl x0) (hp x0) (bd x0))
  (round:∀x,I x->N0<=bd x->Tr P N0 c (thenQ (fun s' H' Bd'=>∃y,I y/\μ y<μ x/\Sub s' H' Bd' (sl y) (hp y) (bd y)) Q) (sl x) (hp x) (bd x)):
  Tr P N0 (.loop c) Q s H Bd:=by
 intro hN A ι a w hst
 let Inv:X->Act->World->Prop:=fun x a' w'=>∃ι',I x/\N0<=bd x/\St A ι' (sl x) (hp x) (bd x) a' w'/\Keep A ι w ι' w'/\Agr N0 ι ι'/\NI H (hp x)
 refine wp_loop (I:=fun a' w'=>∃x,Inv x a' w') (μ:=fun a' w'=>leastN fun n=>∃x,μ x=n/\Inv x a' w') ?_ ?_
 ·exact⟨x0,ι,h0,wE hN hs.2.2,hs.st hst,Keep.refl A w,Agr.refl _ _,(NI.refl _).sub hs.2.1⟩
 ·rintro a1 w1 ⟨x1,hx1⟩
  obtain⟨⟨x,hμ,ι1,hI,hb,hst1,hk1,hag1,hni1⟩,hmin⟩:=leastN_spec (p:=fun n=>∃x,μ x=n/\Inv x a1 w1) ⟨x1,rfl,hx1⟩
  refine wp_mono (round x hI hb hb A ι1 a1 w1 hst1) fun e a2 w2 ⟨ι2,s2,H2,Bd2,h1,h2,h3,h4,h5,h6⟩=> ?_
  cases e with
  |normal=>
   obtain⟨y,hy,hlt,hsub⟩:=h1
   have hinv:Inv y a2 w2:=⟨ι2,hy,wE h2 hsub.2.2,hsub.st h3,hk1.trans h4,hag1.trans h5 (xC _),(hni1.trans h6).sub hsub.2.1⟩
   refine⟨⟨y,hinv⟩,?_⟩
   rw[<-hμ]
   exact Nat.lt_of_le_of_lt ((leastN_spec (p:=fun n=>∃x,μ x=n/\Inv x a2 w2) ⟨y,rfl,hinv⟩).2 _ ⟨y,rfl,hinv⟩) hlt
  |_=>exact⟨ι2,s2,H2,Bd2,h1,h2,h3,hk1.trans h4,hag1.trans h5 (xC _),hni1.trans h6⟩
inductive NB (Bd:Nat):Value->Prop
 |unk:NB Bd SC.unk
 |bool (b:Bool):NB Bd (.bool b)
 |int (k:IntKind) (n:Int):NB Bd (.int k n)
 |string (s:ByteArray):NB Bd (.string s)
 |nilp:NB Bd (.pointer none)
 |ptr {n off:Nat} (h:n<Bd):NB Bd (.pointer (some ⟨n,off,none⟩))
 |nils:NB Bd (.slice none 0 0)
 |sl {n off k len c:Nat} (h:n<Bd):NB Bd (.slice (some ⟨n,off,some k⟩) len c)
 |agg {xs:Array Value} (h:∀(i:Nat) v,xs[i]? =some v->NB Bd v):NB Bd (.agg xs)
 |tuple {xs:Array Value} (h:∀(i:Nat) v,xs[i]? =some v->NB Bd v):NB Bd (.tuple xs)
 |func {f:FuncId} {xs:Array Value} (h:∀(i:Nat) v,xs[i]? =some v->NB Bd v):NB Bd (.func (.func f) #[] xs)
 |nilf:NB Bd .nilFunc
 |nili:NB Bd .nilIface
 |iface {t:TypeId} {v:Value} (h:NB Bd v):NB Bd (.iface t v)
 |lst {k:Nat} {rows:Array Value} (h:∀(i j:Nat) (r:Array Value) v,rows[i]? =some (.agg r)->r[j]? =some v->NB Bd v):NB Bd (.func (.yield k) #[] rows)
 |vp {cells:Array Value} (h:∀(i:Nat) v,cells[i]? =some v->NB Bd v):NB Bd (.func (.method "") #[] cells)
 |mp {rows:Array Value}:NB Bd (.func (.methodOf 0 "") #[] rows)
theorem VR.nb{ι:Ren}{w:World}{Bd:Nat}(hb:∀n,Bd<=n->ι n=none){v v':Value}(h:VR ι w v v'):NB Bd v:=by
 have lt:∀ {n l},ι n=some l->n<Bd:=fun{n l} hn=>by
  rcases xM n Bd with h|h
  ·exact h
  ·rw[hb n h]at hn;cases hn
 induction h with
 |unk=>exact .unk
 |bool=>exact .bool _
 |int=>exact .int _ _
 |string=>exact .string _
 |nilp=>exact .nilp
 |ptr h=>exact .ptr (lt h)
 |nils=>exact .nils
 |sl hn=>obtain⟨l,hl⟩:=hn;exact .sl (lt hl)
 |agg hs _ ih=>
  refine .agg fun i v hv=> ?_
  have hlt:=(xS.1 hv).1
  exact ih i v _ hv (wA (hs▸hlt))
 |tuple hs _ ih=>
  refine .tuple fun i v hv=> ?_
  have hlt:=(xS.1 hv).1
  exact ih i v _ hv (wA (hs▸hlt))
 |func hs _ ih=>
  refine .func fun i v hv=> ?_
  have hlt:=(xS.1 hv).1
  exact ih i v _ hv (wA (hs▸hlt))
 |nilf=>exact .nilf
 |nili=>exact .nili
 |iface _ ih=>exact .iface ih
 |lst0=>exact .lst fun i j r v h1=>by simp at h1
 |lst hfz hB hl hsz hr hc ih=>
  rename_i k rows B base c' cs e fr
  refine .lst fun i j r v h1 h2=> ?_
  obtain⟨r',he,hk⟩:=hr i _ h1
  cases he
  have hi:=(xS.1 h1).1
  have hj:=(xS.1 h2).1
  have hm:i*k+k<=c'*k:=by
   have:i*k+k=(i+1)*k:=(Nat.succ_mul _ _).symm
   rw[this];exact Nat.mul_le_mul_right _ (by omega)
  exact ih i j r v _ h1 h2 (wA (by omega))
 |vp hfz hB hsz hc ih=>
  rename_i cells B base cs e fr
  refine .vp fun j v h1=> ?_
  have hj:=(xS.1 h1).1
  exact ih j v _ h1 (wA (by omega))
 |mp=>exact .mp
def cutR(ι:Ren)(Bd:Nat):Ren:=⟨fun n=>if n<Bd then ι n else none,ι.fz,ι.mp⟩
theorem VR.cut{ι:Ren}{w:World}{Bd:Nat}{v v':Value}(h:VR ι w v v')(hn:NB Bd v):VR (cutR ι Bd) w v v':=by
 have e:∀ {n},n<Bd->cutR ι Bd n=ι n:=fun h=>by simp[cutR,h]
 induction h with
 |unk=>exact .unk _
 |bool=>exact .bool _
 |int=>exact .int _ _
 |string=>exact .string _
 |nilp=>exact .nilp
 |ptr h=>cases hn with|ptr hn=>exact .ptr ((e hn).trans h)
 |nils=>exact .nils
 |sl h1 h2 h3 h4 h5=>cases hn with
  |sl hn=>
   refine .sl (by rw[e hn];exact h1) h2 h3 h4 (h5.imp id ?_)
   rintro⟨B,base,size,g1,g2⟩
   exact⟨B,base,size,(e hn).trans g1,g2⟩
 |agg hs _ ih=>cases hn with|agg hn=>exact .agg hs fun i v v' h1 h2=>ih i v v' h1 h2 (hn i v h1)
 |tuple hs _ ih=>cases hn with|tuple hn=>exact .tuple hs fun i v v' h1 h2=>ih i v v' h1 h2 (hn i v h1)
 |func hs _ ih=>cases hn with|func hn=>exact .func hs fun i v v' h1 h2=>ih i v v' h1 h2 (hn i v h1)
 |nilf=>exact .nilf
 |nili=>exact .nili
 |iface _ ih=>cases hn with|iface hn=>exact .iface (ih hn)
 |lst0=>exact .lst0
 |lst hfz hB hl hsz hr hc ih=>cases hn with|lst hn=>exact .lst hfz hB hl hsz hr fun i j r v v' h1 h2 h3=>ih i j r v v' h1 h2 h3 (hn i j r v h1 h2)
 |vp hfz hB hsz hc ih=>cases hn with|vp hn=>exact .vp hfz hB hsz fun j v v' h1 h2=>ih j v v' h1 h2 (hn j v h1)
 |mp h=>exact .mp h
structure HB (H:AH) (Bd:Nat):Prop where
 fresh:∀n,Bd<=n->H n=none
 nb:∀n b,H n=some b->∀v∈b.cells,NB Bd v
theorem Rel.hb{A:Nat->Prop}{ι:Ren}{H:AH}{Bd:Nat}{w:World}(h:Rel A ι H Bd w):HB H Bd:=by
 refine⟨fun n hn=> ?_,fun n b hb v hv=> ?_⟩
 ·cases hx:H n with
  |none=>rfl
  |some b=>have:=h.named hx;omega
 ·rcases h.blk n b hb with⟨_,hc⟩|⟨B,base,cs,e,fr,h1,h2,h3,h4,h5⟩
  ·rw[hc]at hv;cases hv
  ·obtain⟨i,hi,rfl⟩:=wO hv
   obtain⟨v',_,hr⟩:=h5 i b.cells[i] (by simp[hi])
   exact hr.nb h.bound
theorem Rel.cut{A:Nat->Prop}{ι:Ren}{H H':AH}{Bd Bd':Nat}{w:World}(h:Rel A ι H Bd w)(hle:Le H' H)(hb:HB H' Bd'):Rel A (cutR ι Bd') H' Bd' w:=by
 have e:∀ {n},n<Bd'->cutR ι Bd' n=ι n:=fun h=>by simp[cutR,h]
 have lt:∀ {n b},H' n=some b->n<Bd':=fun{n b} hn=>by
  rcases xM n Bd' with h|h
  ·exact h
  ·rw[hb.fresh n h]at hn;cases hn
 refine⟨fun n hn=>by simp[cutR];omega,fun n b hn=> ?_,fun n m b b' B base B' base' hne h1 h2 ho i1 i2=> ?_,h.newA,fun n b B base h1 ho i1=> ?_,h.fzlt,fun n b hn hq=>⟨(e (lt hn)).trans (h.glob n b (hle n b hn) hq).1,(h.glob n b (hle n b hn) hq).2⟩,h.mp⟩
 ·rcases h.blk n b (hle n b hn)with⟨hv,hc⟩|⟨B,base,cs,e1,fr,h1,h2,h3,h4,h5⟩
  ·exact .inl ⟨(e (lt hn)).trans hv,hc⟩
  ·refine .inr ⟨B,base,cs,e1,fr,(e (lt hn)).trans h1,h2,h3,h4,fun i v hv=> ?_⟩
   obtain⟨v',g1,g2⟩:=h5 i v hv
   exact⟨v',g1,g2.cut (hb.nb n b hn v (wC hv))⟩
 ·rw[e (lt h1)]at i1
  rw[e (lt h2)]at i2
  exact h.apart n m b b' B base B' base' hne (hle n b h1) (hle m b' h2) ho i1 i2
 ·rw[e (lt h1)]at i1
  exact h.froz n b B base (hle n b h1) ho i1
inductive Pub (H:AH) (S:Nat->Prop):Value->Value->Prop
 |same (v:Value):Pub H S v v
 |agg {xs ys:Array Value} (hs:xs.size=ys.size) (h:∀(i:Nat) v u,xs[i]? =some v->ys[i]? =some u->Pub H S v u):Pub H S (.agg xs) (.agg ys)
 |tuple {xs ys:Array Value} (hs:xs.size=ys.size) (h:∀(i:Nat) v u,xs[i]? =some v->ys[i]? =some u->Pub H S v u):Pub H S (.tuple xs) (.tuple ys)
 |empty {a:Option Addr} {c k:Nat}:Pub H S (.slice a 0 c) (.func (.yield k) #[] #[])
 |lst {n off k len c:Nat} {b:Blk} {rows:Array Value} (hS:S n) (hb:H n=some b) (ho:b.own=true) (hn:rows.size=len) (hle:off+len*k<=b.cells.length)
   (hr:∀(i:Nat) x,rows[i]? =some x->∃r:Array Value,x= .agg r/\r.size=k)
   (hc:∀(i j:Nat) (r:Array Value) v u,rows[i]? =some (.agg r)->b.cells[off+i*k+j]? =some v->r[j]? =some u->Pub H S v u):
   Pub H S (.slice (some ⟨n,off,some k⟩) len c) (.func (.yield k) #[] rows)
def frz(ι:Ren)(H:AH)(S:Nat->Prop):Ren:=⟨ι.m,fun B=>ι.fz B\/∃n b base,S n/\H n=some b/\b.own=true/\ι n=some (.at B base),ι.mp⟩
theorem zF(ι:Ren)(H:AH)(S:Nat->Prop):Ext ι (frz ι H S):=⟨fun _ _ h=>h,fun _ h=> .inl h,fun _ _ h=>h⟩
theorem VR.pub{A:Nat->Prop}{ι:Ren}{H:AH}{Bd:Nat}{w:World}(hr:Rel A ι H Bd w){S:Nat->Prop}{v u:Value}(hp:Pub H S v u):∀ {v':Value},VR ι w v v'->VR (frz ι H S) w u v':=by
 induction hp with
 |same v=>intro v' h;exact h.mono (zF ι H S) (Fro.refl ι w)
 |agg hs h ih=>
  rename_i xs ys
  intro v' hv
  cases hv with
  |agg hs2 h2=>
  refine .agg (hs.symm.trans hs2) fun i u x h3 h4=> ?_
  have hi:=(xS.1 h3).1
  exact ih i (xs[i]'(by omega)) u (wA (by omega)) h3 (h2 i _ x (wA (by omega)) h4)
 |tuple hs h ih=>
  rename_i xs ys
  intro v' hv
  cases hv with
  |tuple hs2 h2=>
  refine .tuple (hs.symm.trans hs2) fun i u x h3 h4=> ?_
  have hi:=(xS.1 h3).1
  exact ih i (xs[i]'(by omega)) u (wA (by omega)) h3 (h2 i _ x (wA (by omega)) h4)
 |empty=>
  intro v' hv
  cases hv with
  |nils=>exact .lst0
  |sl=>exact .lst0
 |lst hS hb ho hn hle hrr hc ih=>
  rename_i n off k len c b rows
  intro v' hv
  cases hv with
  |sl hn1 hl h0 h1 hA=>
  rename_i c' A'
  subst hn
  rcases hA with hA|⟨B,base,size,hι,rfl,⟨cs,e,fr,hB,rfl⟩,hsz⟩
  ·have:rows= #[]:=Array.eq_empty_of_size_eq_zero (by omega)
   subst this
   exact .lst0
  ·rcases hr.blk n b hb with⟨hvd,_⟩|⟨B1,base1,cs1,e1,fr1,g1,g2,g3,g4,g5⟩
   ·rw[hι]at hvd;cases hvd
   rw[hι]at g1
   cases g1
   rw[hB]at g2
   cases g2
   refine .lst (.inr ⟨n,b,base,hS,hb,ho,hι⟩) hB hl hsz hrr fun i j r u x q1 q2 q3=> ?_
   obtain⟨r',he,hk⟩:=hrr i _ q1
   cases he
   have hi:=(xS.1 q1).1
   have hj:=(xS.1 q2).1
   have hm:i*k+k<=rows.size*k:=by
    have:i*k+k=(i+1)*k:=(Nat.succ_mul _ _).symm
    rw[this];exact Nat.mul_le_mul_right _ (by omega)
   have hlt:off+i*k+j<b.cells.length:=by omega
   obtain⟨y,p1,p2⟩:=g5 (off+i*k+j) b.cells[off+i*k+j] (xA hlt)
   rw[show base+(off+i*k+j)=base+off+i*k+j by omega,q3]at p1
   cases p1
   exact ih i j r _ u q1 (xA hlt) q2 p2
theorem Rel.frzA{A:Nat->Prop}{ι:Ren}{H:AH}{Bd:Nat}{w:World}(hr:Rel A ι H Bd w)(S:Nat->Prop):∀B,(frz ι H S).fz B->ι.fz B\/A B:=by
 rintro B (h|⟨n,b,base,_,h2,h3,h4⟩)
 ·exact .inl h
 ·rcases hr.blk n b h2 with⟨hv,_⟩|⟨B1,base1,cs,e,fr,g1,g2,g3,_⟩
  ·rw[h4]at hv;cases hv
  ·rw[h4]at g1;cases g1;exact .inr (g3 h3).1
theorem Rel.pub{A:Nat->Prop}{ι:Ren}{H H':AH}{Bd:Nat}{w:World}(hr:Rel A ι H Bd w){S:Nat->Prop}(hle:Le H' H)(hS:∀n b,H' n=some b->¬S n):Rel A (frz ι H S) H' Bd w:=by
 have h:=hr.sub hle
 refine⟨h.bound,fun n b hn=>(h.blk n b hn).mono (zF ι H S) (Fro.refl ι w) (fun _ _ _=>rfl),h.apart,h.newA,fun n b B base h1 ho i1 hz=> ?_,fun B hz=> ?_,fun n b hn hq=>h.glob n b hn hq,h.mp⟩
 ·rcases hz with hz|⟨m,c,base',g1,g2,g3,g4⟩
  ·exact h.froz n b B base h1 ho i1 hz
  ·have hne:m≠n:=fun e=>hS n b h1 (e▸g1)
   exact hr.apart m n c b B base' B base hne g2 (hle n b h1) g3 g4 i1 rfl
 ·rcases hz with hz|⟨m,c,base',g1,g2,g3,g4⟩
  ·exact h.fzlt B hz
  ·exact hr.lt g2 g4
def aresult(P:Program)(s:List Value)(H:AH):ResultVar->Option Value
 | .tmp t=>some (sget s t)
 | .cell a t=>match sget s a with
  | .pointer (some ⟨n,off,none⟩)=>match H n with
   |some b=>vX P t b off
   |none=>none
  |_=>none
def yG(P:Program)(rs:List ResultVar)(s:List Value)(H:AH):Option (List Value):=
 match rs with
 |[]=>some []
 |r::rs=>match aresult P s H r,yG P rs s H with
  |some v,some vs=>some (v::vs)
  |_,_=>none
def vA:List Value->Value
 |[v]=>v
 |vs=> .tuple vs.toArray
def resOf(tmps:Array Value):ResultVar->Sem Value
 | .tmp t=>pure (tmps.getD t undef)
 | .cell x t=>do loadVar t (<-asAddr (tmps.getD x undef))
theorem results_eq(fn:Func)(tmps:Array Value):results fn tmps=(do
  let vs <-fn.results.mapM (resOf tmps)
  pure (if h:vs.size=1 then vs[0]else .tuple vs)):=rfl
theorem aresult_sound{P:Program}{A:Nat->Prop}{ι:Ren}{s:List Value}{H:AH}{Bd:Nat}{a:Act}{w:World}(hst:St A ι s H Bd a w){r:ResultVar}{v:Value}(h:aresult P s H r=some v):
  ∃v',(resOf a.tmps r).run P w= .ok v' w/\VR ι w v v':=by
 unfold aresult at h
 unfold resOf
 split at h
 ·cases h;exact⟨_,rfl,by rw[zE];exact hst.slots.get _⟩
 ·rename_i x t
  split at h
  ·rename_i n off hx
   split at h
   ·rename_i b hb
    have hxv:=hst.slots.get x
    rw[<-zE,hx]at hxv
    obtain⟨v',h1,h2⟩:=aload_sound (P:=P) hst.rel hb hxv h
    obtain⟨B,base,hι,hxe⟩:=ev_ptr hxv
    refine⟨v',?_,h2⟩
    simp only[hxe,asAddr,xW,xX,xV]
    rw[hxe]at h1
    simpa only[Instr.loadAt,Instr.sureAddr,xW,xX,xV]using h1
   ·cases h
  ·cases h
theorem aresults_list{P:Program}{A:Nat->Prop}{ι:Ren}{s:List Value}{H:AH}{Bd:Nat}{a:Act}{w:World}(hst:St A ι s H Bd a w):∀(rs:List ResultVar) (vs:List Value),yG P rs s H=some vs->
  ∃vs',(rs.mapM (resOf a.tmps)).run P w= .ok vs' w/\LR ι w vs vs'
 |[],vs,h=>by cases h;exact⟨[],rfl, .nil _ _⟩
 |r::rs,vs,h=>by
  unfold yG at h
  split at h
  ·rename_i v vs0 h1 h2
   cases h
   obtain⟨v',g1,g2⟩:=aresult_sound (P:=P) hst h1
   obtain⟨vs',g3,g4⟩:=aresults_list hst rs vs0 h2
   refine⟨v'::vs',?_, .cons g2 g4⟩
   rw[List.mapM_cons,xW,g1]
   simp only[xV,xW,g3,xX]
  ·cases h
theorem aresults_sound{P:Program}{fn:Func}{A:Nat->Prop}{ι:Ren}{s:List Value}{H:AH}{Bd:Nat}{a:Act}{w:World}(hst:St A ι s H Bd a w){vs:List Value}(h:yG P fn.results.toList s H=some vs):
  ∃v',(results fn a.tmps).run P w= .ok v' w/\VR ι w (vA vs) v':=by
 obtain⟨vs',h1,h2⟩:=aresults_list hst _ _ h
 rw[<-Array.toList_mapM,Sem.run_map]at h1
 rw[results_eq]
 cases hq:(fn.results.mapM (resOf a.tmps)).run P w with
 |halt x w'=>rw[hq]at h1;simp at h1
 |ok x w'=>
  rw[hq]at h1
  simp only[xV,Result.ok.injEq]at h1
  obtain⟨rfl,rfl⟩:=h1
  rw[xW,hq]
  simp only[xV,xX]
  refine⟨_,rfl,?_⟩
  by_cases hx:x.size=1
  ·rw[dif_pos hx]
   have hl:vs.length=1:=by rw[h2.1];simpa using hx
   match vs,hl with
   |[v],_=>exact h2.2 0 v _ rfl (by simp[hx])
  ·rw[dif_neg hx]
   have hl:vs.length≠1:=by rw[h2.1];simpa using hx
   have:vA vs= .tuple vs.toArray:=by
    match vs,hl with
    |[],_=>rfl
    |_::_::_,_=>rfl
   rw[this]
   exact .tuple (by have:=h2.1;simpa using this) fun i v v' g1 g2=>h2.2 i v v' (by simpa using g1) (by simpa using g2)
def RetQ(P:Program)(rs:List ResultVar)(H0:AH)(Bd0:Nat)(post:Value->AH->Nat->Prop)(s:List Value)(H:AH)(Bd:Nat):Prop:=
 Yld (yG P rs s H) fun vs=>∃u S H' Bd',Pub H S (vA vs) u/\(∀n b,H' n=some b->¬S n)/\Le H' H/\Bd0<=Bd'/\((Bd<=Bd'/\(HB H' Bd'->NB Bd' u->post u H' Bd'))\/(NB Bd' u/\HB H' Bd'/\post u H' Bd'))
def fnQ(P:Program)(rs:List ResultVar)(H0:AH)(Bd0:Nat)(post:Value->AH->Nat->Prop):yY
 | .normal=>RetQ P rs H0 Bd0 post
 | .ret=>RetQ P rs H0 Bd0 post
 |_=>fun _ _ _=>False
def free(H:AH)(n:Nat):Prop:=H n=none
def PureQ(P:Program)(rs:List ResultVar)(H0:AH)(r0:Value)(s:List Value)(H:AH)(Bd:Nat):Prop:=
 Yld (yG P rs s H) fun vs=>Le H0 H/\Pub H (free H0) (vA vs) r0
def pureQ(P:Program)(rs:List ResultVar)(H0:AH)(r0:Value):yY
 | .normal=>PureQ P rs H0 r0
 | .ret=>PureQ P rs H0 r0
 |_=>fun _ _ _=>False
theorem Tr.conv{P:Program}{N0:Nat}{c:Code}{Q Q':yY}{s:List Value}{H:AH}{Bd:Nat}(h:Tr P N0 c Q s H Bd)(hq:∀e s H Bd,N0<=Bd->Q e s H Bd->Q' e s H Bd):Tr P N0 c Q' s H Bd:=
 fun hN A ι a w hst=>wp_mono (h hN A ι a w hst) fun e a' w' ⟨ι',s',H',Bd',h1,h2,h3⟩=>⟨ι',s',H',Bd',hq _ _ _ _ h2 h1,h2,h3⟩
theorem scalls_of_tr{P:Program}{f:FuncId}{fn:Func}{c:Code}{args:List Value}{H:AH}{Bd:Nat}{post:Value->AH->Nat->Prop}(hf:P.funcs[f]? =some fn)(hb:fn.body=some c){rs:List ResultVar}(hrs:fn.results.toList=rs)(hent:Enters P f)
  (h:HB H Bd->(∀v∈args,NB Bd v)->Tr P Bd c (fnQ P rs H Bd post) (args++List.replicate (fn.ntmps-args.length) undef) H Bd):SCalls P f args H Bd post:=by
 subst hrs
 refine⟨hent,fun A ι vs w hr hs=> ?_⟩
 have hargs:∀v∈args,NB Bd v:=fun v hv=>by
  obtain⟨i,hi,rfl⟩:=wO hv
  have hlt:i<vs.size:=hs.1▸hi
  exact(hs.2 i args[i] vs[i] (by simp[hi]) (by simp[hlt])).nb hr.bound
 refine calls_of_wp hf hb (wp_mono ((h hr.hb hargs) (xC _) A ι _ w ⟨hr,⟨?_,fun i v v' h1 h2=> ?_⟩,rfl⟩) fun e a' w' ⟨ι',s',H',Bd',h1,h2,h3,h4,h5,h6⟩=> ?_)
 ·simp[hs.1]
 ·simp only at h2
  rw[List.getElem?_append]at h1
  rw[Array.getElem?_append]at h2
  rw[hs.1]at h1
  split at h1
  ·rename_i hi;rw[if_pos hi]at h2;exact hs.2 i v v' h1 h2
  ·rename_i hi
   rw[if_neg hi]at h2
   rw[List.getElem?_replicate]at h1
   rw[Array.getElem?_replicate]at h2
   split at h1
   ·rename_i hj
    rw[if_pos hj]at h2
    cases h1;cases h2;exact vr_undef ι w
   ·cases h1
 ·have key:RetQ P fn.results.toList H Bd post s' H' Bd'->a'.defers=[]/\∃v,(results fn a'.tmps).run P w'= .ok v w'/\
    ∃v1 r ι' H' Bd',Ending.returned v= .returned v1/\post r H' Bd'/\Bd<=Bd'/\Rel A ι' H' Bd' w'/\VR ι' w' r v1/\Keep A ι w ι' w'/\Agr Bd ι ι'/\NI H H':=by
   rintro⟨vs',hvs,u,S,H2,Bd2,p1,p2,g1,g2,g3⟩
   obtain⟨v',q1,q2⟩:=aresults_sound (P:=P) h3 hvs
   refine⟨h3.defers,v',q1,v',u,?_⟩
   have q3:=VR.pub h3.rel p1 q2
   have hrp:=h3.rel.pub g1 p2
   have hkp:Keep A ι w (frz ι' H' S) w':=h4.trans (Keep.refl A w' (zF ι' H' S).fz (h3.rel.frzA S))
   rcases g3 with⟨g3,g4⟩|⟨g3,g5,g4⟩
   ·have hr2:=hrp.raise g3
    exact⟨frz ι' H' S,H2,Bd2,rfl,g4 hr2.hb (q3.nb hr2.bound),g2,hr2,q3,hkp,h5,h6.sub g1⟩
   ·refine⟨cutR (frz ι' H' S) Bd2,H2,Bd2,rfl,g4,g2,hrp.cut (Le.refl _) g5,q3.cut g3,hkp.trans (Keep.refl A w'),fun n hn=> ?_,h6.sub g1⟩
    rw[<-h5 n hn]
    simp[cutR,frz];omega
  cases e with
  |normal=>exact key h1
  |ret=>exact key h1
  |_=>exact h1.elim
end Go.SC
