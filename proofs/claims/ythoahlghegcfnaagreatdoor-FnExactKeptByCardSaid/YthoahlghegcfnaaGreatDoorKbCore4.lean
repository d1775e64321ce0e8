/- Own objects as data; the walk through a tree. -/
import Derived.Test.YthoahlghegcfnaaGreatDoorKbCore3
import Derived.Lib.LaidTab
import Derived.ChangeArms
import Derived.ChangeStays
import Derived.SizedLaws
import Derived.ChangeSame
import Derived.ChangeOld
import Derived.OpenShut
import Derived.Handed
set_option linter.unusedSimpArgs false
set_option linter.unusedVariables false
namespace Go.SC
open Go
noncomputable def viewOf{X:Type}(f:X→Blk)(b:Blk):Option X:=open Classical in if h:∃x,b=f x then some (Classical.choose h)else none
theorem viewOf_eq{X:Type}{f:X→Blk}(hf:∀x y,f x=f y→x=y)(x:X):viewOf f (f x)=some x:=by
 have h:∃y,f x=f y:=⟨x,rfl⟩
 unfold viewOf
 rw[dif_pos h,←hf _ _ (Classical.choose_spec h)]
theorem viewOf_out{X:Type}{f:X→Blk}{b:Blk}{x:X}(h:viewOf f b=some x):b=f x:=by
 unfold viewOf at h
 split at h
 ·rename_i hq;cases h;exact Classical.choose_spec hq
 ·cases h
theorem flat_inj{α:Type}[Enc α]:∀ {xs ys:List α},flat xs=flat ys→xs=ys
 |[],[],_=>rfl
 |[],y::ys,h=>by
  have hk:0<Enc.k α:=Enc.pos
  have:=congrArg List.length h
  rw[flat_len,flat_len]at this
  simp only[List.length_nil,Nat.zero_mul,List.length_cons]at this
  rw[Nat.succ_mul]at this;omega
 |x::xs,[],h=>by
  have hk:0<Enc.k α:=Enc.pos
  have:=congrArg List.length h
  rw[flat_len,flat_len]at this
  simp only[List.length_nil,Nat.zero_mul,List.length_cons]at this
  rw[Nat.succ_mul]at this;omega
 |x::xs,y::ys,h=>by
  rw[flat_cons,flat_cons]at h
  have:=List.append_inj h (by rw[enc_len,enc_len])
  rw[enc_inj this.1,flat_inj this.2]
def flB{α:Type}[Enc α](xs:List α):Blk:=⟨flat xs,true⟩
@[go_sem] theorem viewOf_fl{α:Type}[Enc α](xs:List α):viewOf (flB (α:=α)) ⟨flat xs,true⟩=some xs:=
 viewOf_eq (f:=flB (α:=α)) (fun x y h=>flat_inj (Blk.mk.inj h).1) xs
@[go_sem] theorem viewOf_flnil{α:Type}[Enc α]:viewOf (flB (α:=α)) ⟨[],true⟩=some []:=viewOf_fl ([]:List α)
def badN(n:GNode)(depth:Int)(low high:List UInt8):Bool:=
 decide (4<depth)||(decide (1<depth)&&decide (n.keys.length<2))||decide (n.keys.length<1)||n.keys.any (fun k=> !inB k low high)
def rowN(n:GNode)(i:Nat):GRow:=⟨n.keys.getD i [],n.values.getD i 0⟩
def rowsN(n:GNode)(i:Nat):List GRow:=(List.range i).map (rowN n)
theorem rowsN_succ(n:GNode)(i:Nat):rowsN n (i+1)=rowsN n i++[rowN n i]:=by simp[rowsN,List.range_succ]
theorem rowsN_len(n:GNode)(i:Nat):(rowsN n i).length=i:=by simp[rowsN]
def loB(n:GNode)(low:List UInt8)(i:Nat):List UInt8:=if 0<i then n.keys.getD (i-1) []else low
def hiB(n:GNode)(high:List UInt8)(i:Nat):List UInt8:=if i<n.keys.length then n.keys.getD i []else high
abbrev Vis:=Int→List UInt8→List UInt8→GL17Walk→Int×GL17Walk
def visK(g:Vis)(n:GNode)(low high:List UInt8):Nat→Nat→GL17Walk→Int×GL17Walk
 |0,_,w=>(0,w)
 |k+1,i,w=>if(g (n.kids.getD i 0) (loB n low i) (hiB n high i) w).1≠0 then g (n.kids.getD i 0) (loB n low i) (hiB n high i) w else visK g n low high k (i+1) (g (n.kids.getD i 0) (loB n low i) (hiB n high i) w).2
def vis(ins:List Int→Int→List Int)(d:GDisk):Nat→Int→List UInt8→List UInt8→Int→GL17Walk→Int×GL17Walk
 |0,_,_,_,_,w=>(8,w)
 |f+1,id,low,high,depth,w=>
  if hasI w.pages id=true then(8,w)
  else if(nodeD d id).2≠0 then((nodeD d id).2,w)
  else if badN (nodeD d id).1 depth low high=true then(8,w)
  else if(nodeD d id).1.leaf=true then
   if w.deep=0∨w.deep=depth then(0,⟨ins w.pages id,w.rows++rowsN (nodeD d id).1 (nodeD d id).1.keys.length,depth⟩)else(8,⟨ins w.pages id,w.rows,w.deep⟩)
  else visK (fun k a b w=>vis ins d f k a b (depth+1) w) (nodeD d id).1 low high (nodeD d id).1.kids.length 0 ⟨ins w.pages id,w.rows,w.deep⟩
section
variable {ins:List Int→Int→List Int} {d:GDisk} {f:Nat} {id:Int} {low high:List UInt8} {depth:Int} {w:GL17Walk}
theorem vis_has(h:hasI w.pages id=true):vis ins d (f+1) id low high depth w=(8,w):=by rw[vis,if_pos h]
theorem vis_code(h:¬hasI w.pages id=true)(h2:(nodeD d id).2≠0):vis ins d (f+1) id low high depth w=((nodeD d id).2,w):=by rw[vis,if_neg h,if_pos h2]
theorem vis_bad(h:¬hasI w.pages id=true)(h2:(nodeD d id).2=0)(h3:badN (nodeD d id).1 depth low high=true):vis ins d (f+1) id low high depth w=(8,w):=by rw[vis,if_neg h,if_neg (by simpa using h2),if_pos h3]
theorem vis_leaf(h:¬hasI w.pages id=true)(h2:(nodeD d id).2=0)(h3:¬badN (nodeD d id).1 depth low high=true)(h4:(nodeD d id).1.leaf=true)(h5:w.deep=0∨w.deep=depth):
  vis ins d (f+1) id low high depth w=(0,⟨ins w.pages id,w.rows++rowsN (nodeD d id).1 (nodeD d id).1.keys.length,depth⟩):=by rw[vis,if_neg h,if_neg (by simpa using h2),if_neg h3,if_pos h4,if_pos h5]
theorem vis_leafN(h:¬hasI w.pages id=true)(h2:(nodeD d id).2=0)(h3:¬badN (nodeD d id).1 depth low high=true)(h4:(nodeD d id).1.leaf=true)(h5:¬(w.deep=0∨w.deep=depth)):
  vis ins d (f+1) id low high depth w=(8,⟨ins w.pages id,w.rows,w.deep⟩):=by rw[vis,if_neg h,if_neg (by simpa using h2),if_neg h3,if_pos h4,if_neg h5]
theorem vis_kids(h:¬hasI w.pages id=true)(h2:(nodeD d id).2=0)(h3:¬badN (nodeD d id).1 depth low high=true)(h4:¬(nodeD d id).1.leaf=true):
  vis ins d (f+1) id low high depth w=visK (fun k a b w=>vis ins d f k a b (depth+1) w) (nodeD d id).1 low high (nodeD d id).1.kids.length 0 ⟨ins w.pages id,w.rows,w.deep⟩:=by rw[vis,if_neg h,if_neg (by simpa using h2),if_neg h3,if_neg h4]
theorem nodeD_ok(h:(nodeD d id).2=0):nodeF (nodeD d id).1=0:=by
 unfold nodeD at h ⊢
 split at h
 ·cases h
 ·rename_i h1
  rw[if_neg h1]
  split at h
  ·rename_i h2;exact absurd h h2
  ·rename_i h2
   rw[if_neg h2]
   show nodeF (rdN _ _).node=0
   have h:(rdN (readPg (readD d id) id).1.kind (readPg (readD d id) id).1.body).code=0:=h
   generalize (readPg (readD d id) id).1=p at h ⊢
   unfold rdN at h ⊢
   split at h
   ·cases h
   ·rename_i h3
    rw[if_neg h3]
    split at h
    ·rename_i h4
     rw[if_pos h4]
     have:=prsN_some (leaf:=decide (p.kind=1)) (body:=p.body) (n:=(prsN (decide (p.kind=1)) p.body).1) (Prod.ext rfl h4)
     obtain⟨_,p',ks,vs,_,_,_,hz⟩:=this
     exact hz
    ·cases h
end
structure Grow (f:Nat) (w w':GL17Walk):Prop where
 pages:w'.pages.length≤w.pages.length+f
 rows:w'.rows.length≤w.rows.length+4*f
theorem Grow.refl(f:Nat)(w:GL17Walk):Grow f w w:=⟨by omega,by omega⟩
theorem Grow.trans{f g:Nat}{a b c:GL17Walk}(h:Grow f a b)(k:Grow g b c):Grow (f+g) a c:=⟨by have:=h.pages;have:=k.pages;omega,by have:=h.rows;have:=k.rows;omega⟩
theorem Grow.up{f g:Nat}{a b:GL17Walk}(h:Grow f a b)(hle:f≤g):Grow g a b:=⟨by have:=h.pages;omega,by have:=h.rows;omega⟩
theorem visK_grow{g:Vis}{n:GNode}{low high:List UInt8}{F:Nat}(hg:∀k a b w,Grow F w (g k a b w).2):∀(k i:Nat) (w:GL17Walk),Grow (k*F) w (visK g n low high k i w).2
 |0,i,w=>Grow.refl _ _
 |k+1,i,w=>by
  have h1:=hg (n.kids.getD i 0) (loB n low i) (hiB n high i) w
  rw[visK]
  split
  ·exact h1.up (by rw[Nat.succ_mul];omega)
  ·have:=h1.trans (visK_grow (n:=n) (low:=low) (high:=high) hg k (i+1) _)
   rw[Nat.succ_mul,Nat.add_comm];exact this
theorem vis_grow{ins:List Int→Int→List Int}(hi:∀l n,(ins l n).length≤l.length+1)(d:GDisk):∀(f:Nat) (id:Int) (low high:List UInt8) (depth:Int) (w:GL17Walk),Grow (6^f) w (vis ins d f id low high depth w).2
 |0,_,_,_,_,w=>Grow.refl _ _
 |f+1,id,low,high,depth,w=>by
  have hpos:0<6^f:=Nat.pow_pos (by omega)
  have h6:6^(f+1)=6*6^f:=by rw[Nat.pow_succ];omega
  have hp:=hi w.pages id
  by_cases h1:hasI w.pages id=true
  ·rw[vis_has h1];exact Grow.refl _ _
  by_cases h2:(nodeD d id).2=0
  case neg=>rw[vis_code h1 h2];exact Grow.refl _ _
  by_cases h3:badN (nodeD d id).1 depth low high=true
  ·rw[vis_bad h1 h2 h3];exact Grow.refl _ _
  have hN:=node_ok (nodeD_ok h2)
  have hkl:=hN.kl
  by_cases h4:(nodeD d id).1.leaf=true
  ·by_cases h5:w.deep=0∨w.deep=depth
   ·rw[vis_leaf h1 h2 h3 h4 h5]
    exact⟨show(ins w.pages id).length≤_ by omega,show(w.rows++rowsN _ _).length≤_ by rw[List.length_append,rowsN_len];omega⟩
   ·rw[vis_leafN h1 h2 h3 h4 h5]
    exact⟨show(ins w.pages id).length≤_ by omega,show w.rows.length≤_ by omega⟩
  ·rw[vis_kids h1 h2 h3 h4]
   have hk:=(hN.kids (by simpa using h4)).2.2.1
   have h5:=visK_grow (n:=(nodeD d id).1) (low:=low) (high:=high) (fun k a b w=>vis_grow hi d f k a b (depth+1) w) (nodeD d id).1.kids.length 0 ⟨ins w.pages id,w.rows,w.deep⟩
   have h6':(nodeD d id).1.kids.length*6^f≤5*6^f:=Nat.mul_le_mul_right _ (by omega)
   refine⟨Nat.le_trans h5.pages ?_,Nat.le_trans h5.rows ?_⟩
   ·show(ins w.pages id).length+_≤_;omega
   ·show w.rows.length+_≤_;omega
theorem oneV_cnt{body:List UInt8}(h:1≤body.length):oneV (body,false)=((body.getD 0 0).toNat:Int):=oneV_at (p:=0) h
theorem rd_fin{leaf:Bool}{body rest:List UInt8}{ks:List (List UInt8)}{vs kids:List Int}{fd:Bool}{kind:Int}(hk:kind=1∨kind=2)(hl:decide (kind=1)=leaf)
  (h:(fd=false∧1≤body.length∧∃p,prs leaf body (body.getD 0 0).toNat=some (p,ks,vs)∧kids=kidsE leaf body p ((body.getD 0 0).toNat+1)∧rest=body.drop (p+kids.length))∨(fd=true∧(prsN leaf body).2=false)):
  (endV (rest,fd)=true→nodeF ⟨leaf,ks,vs,kids⟩=0→packN' ⟨leaf,ks,vs,kids⟩=body∧rdN kind body=⟨0,⟨leaf,ks,vs,kids⟩⟩)∧((endV (rest,fd)=false∨nodeF ⟨leaf,ks,vs,kids⟩≠0)→rdN kind body=⟨5,noNd⟩):=by
 subst hl
 rcases h with⟨rfl,hb,p,hp,rfl,rfl⟩|⟨rfl,hn⟩
 ·have hple:p≤body.length:=prs_le hb hp
  have hkb:(kidsE (decide (kind=1)) body p ((body.getD 0 0).toNat+1)).length≤body.length-p:=by
   unfold kidsE kidsB
   split
   ·simp
   ·rw[List.length_map,List.length_take,List.length_drop];omega
  refine⟨fun h1 h2=> ?_,fun h=>rdN_F hk ?_⟩
  ·have he:p+(kidsE (decide (kind=1)) body p ((body.getD 0 0).toNat+1)).length=body.length:=by
    unfold endV at h1
    simp only[Bool.not_false,Bool.true_and,decide_eq_true_eq,List.length_drop]at h1
    omega
   obtain⟨g1,g2⟩:=prsN_T hb hp he h2
   exact⟨g2,rdN_T hk g1⟩
  ·refine prsN_bad hp fun⟨h1,h2⟩=>h.elim (fun h=> ?_) fun h=>h h2
   unfold endV at h
   simp only[Bool.not_false,Bool.true_and,decide_eq_false_iff_not,List.length_drop]at h
   omega
 ·exact⟨fun h=>by unfold endV at h;simp at h,fun _=>rdN_F hk hn⟩
noncomputable def dataOf{α:Type}[Enc α](cs:List Value):Option α:=open Classical in if h:∃x:α,cs=enc x then some (Classical.choose h)else none
theorem dataOf_enc{α:Type}[Enc α](x:α):dataOf (enc x)=some x:=by
 have h:∃y:α,enc x=enc y:=⟨x,rfl⟩
 unfold dataOf
 rw[dif_pos h,←enc_inj (Classical.choose_spec h)]
theorem dataOf_out{α:Type}[Enc α]{cs:List Value}{x:α}(h:dataOf cs=some x):cs=enc x:=by
 unfold dataOf at h
 split at h
 ·rename_i hq;cases h;exact Classical.choose_spec hq
 ·cases h
@[go_sem] theorem dataOf_GDisk(a:List (List UInt8))(b:List GPut):dataOf (α:=GDisk) [lst a,lst b]=some ⟨a,b⟩:=dataOf_enc (⟨a,b⟩:GDisk)
def wkB(x:List Int×Nat×Nat×Nat×Int):Blk:=⟨[lst x.1, .slice (some ⟨x.2.1,0,some 2⟩) x.2.2.1 x.2.2.2.1, .int .i64 x.2.2.2.2],true⟩
@[go_sem] theorem viewOf_wk(p:List Int)(m l c:Nat)(z:Int):viewOf wkB ⟨[lst p, .slice (some ⟨m,0,some 2⟩) l c, .int .i64 z],true⟩=some (p,m,l,c,z):=
 viewOf_eq (f:=wkB) (fun x y h=>by
  unfold wkB at h
  simp only[Blk.mk.injEq,List.cons.injEq,lst_inj,Value.slice.injEq,Option.some.injEq,Addr.mk.injEq,Value.int.injEq,true_and,and_true]at h
  obtain⟨h1,⟨h2,h3,h4⟩,h5⟩:=h
  exact Prod.ext h1 (Prod.ext h2 (Prod.ext h3 (Prod.ext h4 h5)))) (p,m,l,c,z)
theorem rowsN_zero(n:GNode):rowsN n 0=[]:=rfl
theorem getD_some{α:Type}{l:List α}{i:Nat}{x d:α}(h:l[i]? =some x):l.getD i d=x:=by rw[List.getD_eq_getElem?_getD,h];rfl
theorem visK_succ{g:Vis}{n:GNode}{low high:List UInt8}{k i:Nat}{w:GL17Walk}(h:¬(g (n.kids.getD i 0) (loB n low i) (hiB n high i) w).1≠0):visK g n low high (k+1) i w=visK g n low high k (i+1) (g (n.kids.getD i 0) (loB n low i) (hiB n high i) w).2:=by rw[visK,if_neg h]
theorem visK_stop{g:Vis}{n:GNode}{low high:List UInt8}{k i:Nat}{w:GL17Walk}(h:(g (n.kids.getD i 0) (loB n low i) (hiB n high i) w).1≠0):visK g n low high (k+1) i w=g (n.kids.getD i 0) (loB n low i) (hiB n high i) w:=by rw[visK,if_pos h]
def noWk:GL17Walk:=⟨[],[],0⟩
def treeS(d:GDisk)(root:Int):GL17Walk×Int:=if root=0 then(noWk,0)else if(vis putL d 5 root [] [] 1 noWk).1≠0 then(noWk,(vis putL d 5 root [] [] 1 noWk).1)else((vis putL d 5 root [] [] 1 noWk).2,0)
def chn(d:GDisk):Nat→Int→List UInt8→List Int→List UInt8×List Int×Int
 |0,_,_,_=>([],[],2)
 |f+1,id,data,pages=>
  if ¬(2≤id∧id≤(d.sectors.length:Int)-1)then([],[],3)
  else if hasI pages id=true then([],[],8)
  else if(readPg (readD d id) id).2≠0 then([],[],(readPg (readD d id) id).2)
  else if(readPg (readD d id) id).1.kind≠3∨(readPg (readD d id) id).1.body.length<2 then([],[],1)
  else if 400<(data++(readPg (readD d id) id).1.body.drop 1).length then([],[],2)
  else if((readPg (readD d id) id).1.body.getD 0 0).toNat=0 then(data++(readPg (readD d id) id).1.body.drop 1,pages++[id],0)
  else chn d f ((readPg (readD d id) id).1.body.getD 0 0).toNat (data++(readPg (readD d id) id).1.body.drop 1) (pages++[id])
def chainD(d:GDisk)(head:Int):List UInt8×List Int×Int:=chn d 401 head [] []
def chainR(d:GDisk)(head:Int):GChainResult:=if diskF d≠0 then⟨diskF d,[],[]⟩else⟨(chainD d head).2.2,(chainD d head).1,(chainD d head).2.1⟩
theorem any_hasI(l:List Int)(n:Int):(l.any fun x=>decide (n=x))=hasI l n:=by
 unfold hasI
 congr 1
 funext x
 exact decide_eq_decide.2 ⟨fun h=>h.symm,fun h=>h.symm⟩
theorem cmpB_anti:∀(a b:List UInt8),Lib.compareBytes a b= -Lib.compareBytes b a
 |[],[]=>rfl
 |[],b::ys=>rfl
 |a::xs,[]=>rfl
 |a::xs,b::ys=>by
  have ih:=cmpB_anti xs ys
  unfold Lib.compareBytes
  rcases Nat.lt_trichotomy a.toNat b.toNat with h|h|h
  ·have h1:a<b:=h
   have h2:¬b<a:=fun g=>Nat.lt_asymm h g
   simp[h1,h2]
  ·obtain rfl:=UInt8.toNat_inj.1 h
   have h1:¬a<a:=Nat.lt_irrefl _
   simp[h1,ih]
  ·have h1:b<a:=h
   have h2:¬a<b:=fun g=>Nat.lt_asymm h g
   simp[h1,h2]
def bvV(l:List UInt8):Value:=if l=[]then .slice none 0 0 else lst l
theorem bvV_inj{a b:List UInt8}(h:bvV a=bvV b):a=b:=by
 unfold bvV at h
 split at h <;>split at h
 ·rename_i h1 h2;rw[h1,h2]
 ·unfold lst LST at h;cases h
 ·unfold lst LST at h;cases h
 ·exact lst_inj.1 h
noncomputable def bvOf(v:Value):Option (List UInt8):=open Classical in if h:∃x,v=bvV x then some (Classical.choose h)else none
theorem bvOf_eq(x:List UInt8):bvOf (bvV x)=some x:=by
 have h:∃y,bvV x=bvV y:=⟨x,rfl⟩
 unfold bvOf
 rw[dif_pos h,←bvV_inj (Classical.choose_spec h)]
theorem bvOf_out{v:Value}{x:List UInt8}(h:bvOf v=some x):v=bvV x:=by
 unfold bvOf at h
 split at h
 ·rename_i hq;cases h;exact Classical.choose_spec hq
 ·cases h
@[go_sem] theorem bvOf_nil:bvOf (.slice none 0 0)=some []:=by
 have:=bvOf_eq []
 simpa[bvV]using this
@[go_sem] theorem bvOf_lst{xs:List UInt8}(h:xs≠[]):bvOf (lst xs)=some xs:=by
 have:=bvOf_eq xs
 simpa[bvV,h]using this
def twB(x:List (List UInt8)×List GPut×Nat×Nat×Nat×Nat×Nat×Nat×Int):Blk:=
 ⟨[lst x.1,lst x.2.1, .slice (some ⟨x.2.2.1,0,some 1⟩) x.2.2.2.1 x.2.2.2.2.1, .slice (some ⟨x.2.2.2.2.2.1,0,some 2⟩) x.2.2.2.2.2.2.1 x.2.2.2.2.2.2.2.1, .int .i64 x.2.2.2.2.2.2.2.2],true⟩
@[go_sem] theorem viewOf_tw(s:List (List UInt8))(p:List GPut)(m l c m2 l2 c2:Nat)(z:Int):viewOf twB ⟨[lst s,lst p, .slice (some ⟨m,0,some 1⟩) l c, .slice (some ⟨m2,0,some 2⟩) l2 c2, .int .i64 z],true⟩=some (s,p,m,l,c,m2,l2,c2,z):=
 viewOf_eq (f:=twB) (fun x y h=>by
  obtain⟨x1,x2,x3,x4,x5,x6,x7,x8,x9⟩:=x
  obtain⟨y1,y2,y3,y4,y5,y6,y7,y8,y9⟩:=y
  unfold twB at h
  simp only[Blk.mk.injEq,List.cons.injEq,lst_inj,Value.slice.injEq,Option.some.injEq,Addr.mk.injEq,Value.int.injEq,true_and,and_true]at h
  obtain⟨h1,h2,⟨h3,h4,h5⟩,⟨h6,h7,h8⟩,h9⟩:=h
  subst h1;subst h2;subst h3;subst h4;subst h5;subst h6;subst h7;subst h8;subst h9;rfl) (s,p,m,l,c,m2,l2,c2,z)
theorem out3{H:AH}{n m k:Nat}{b c e:Blk}(hn:H n=some b)(hm:H m=some c)(hk:H k=some e)(hd:n≠m)(hd2:n≠k)(hd3:m≠k):∃G,H=upd (upd (upd G n (some b)) m (some c)) k (some e)∧(free G n∧free G m∧free G k)∧upd (upd (upd H n none) m none) k none=G∧∀Bd,HB H Bd→HB G Bd:=by
 obtain⟨G1,e1,⟨f1,f2⟩,g1,h1⟩:=out2 hn hm hd
 have hk1:G1 k=some e:=by rw[←g1,upd_other _ _ (fun q=>hd3 q.symm),upd_other _ _ (fun q=>hd2 q.symm)];exact hk
 obtain⟨G,e2,f3,g2,h2⟩:=out1 hk1
 refine⟨G,?_,⟨?_,?_,f3⟩,by rw[g1];exact g2,fun Bd h=>h2 Bd (h1 Bd h)⟩
 ·rw[e1,e2,upd_comm (m:=k) (n:=n) (fun q=>hd2 q.symm),upd_comm (m:=k) (n:=m) (fun q=>hd3 q.symm)]
 ·have:G n=none:=by rw[←g2,upd_other _ _ hd2];exact f1
  exact this
 ·have:G m=none:=by rw[←g2,upd_other _ _ hd3];exact f2
  exact this
theorem inB_yes{k low high:List UInt8}(h1:low=[]∨¬Lib.compareBytes k low<0)(h2:high=[]∨¬0≤Lib.compareBytes k high):(!inB k low high)=false:=by
 have:=cmpB_anti k low
 unfold inB
 have g1:(decide (low.length=0)||decide (Lib.compareBytes low k≤0))=true:=by
  rcases h1 with rfl|h
  ·rfl
  ·simp only[Bool.or_eq_true,decide_eq_true_eq];omega
 have g2:(decide (high.length=0)||decide (Lib.compareBytes k high<0))=true:=by
  rcases h2 with rfl|h
  ·rfl
  ·simp only[Bool.or_eq_true,decide_eq_true_eq];omega
 rw[g1,g2];rfl
theorem inB_no1{k low high:List UInt8}(h:low≠[])(h1:Lib.compareBytes k low<0):(!inB k low high)=true:=by
 have:=cmpB_anti k low
 unfold inB
 have g1:(decide (low.length=0)||decide (Lib.compareBytes low k≤0))=false:=by
  simp only[Bool.or_eq_false_iff,decide_eq_false_iff_not]
  exact⟨fun e=>h (List.eq_nil_of_length_eq_zero e),by omega⟩
 rw[g1];rfl
theorem inB_no2{k low high:List UInt8}(h:high≠[])(h1:0≤Lib.compareBytes k high):(!inB k low high)=true:=by
 unfold inB
 have g2:(decide (high.length=0)||decide (Lib.compareBytes k high<0))=false:=by
  simp only[Bool.or_eq_false_iff,decide_eq_false_iff_not]
  exact⟨fun e=>h (List.eq_nil_of_length_eq_zero e),by omega⟩
 rw[g2];simp
theorem bvV_ne{l:List UInt8}(h:l≠[]):bvV l=lst l:=if_neg h
end Go.SC
namespace Go.SC
theorem len_pos{α:Type}{l:List α}(h:l≠[]):0<l.length:=List.length_pos_iff.2 h
@[go_sem] theorem anil_nn:anil (.slice none 0 0) (.slice none 0 0)=some true:=(rfl)
def treeI(d:GDisk)(root:Int):Int×GL17Walk:=if root=0 then(0,noWk)else vis (fun l n=>l++[n]) d 5 root [] [] 1 noWk
def twC(d:GDisk)(w:GL17Walk)(a b:Nat):List Value:=[lst d.sectors,lst d.pending, .slice (some ⟨a,0,some 1⟩) w.pages.length (w.pages.length+1), .slice (some ⟨b,0,some 2⟩) w.rows.length (w.rows.length+1), .int .i64 w.deep]
@[go_sem] theorem twC_eq(d:GDisk)(w:GL17Walk)(a b:Nat):twC d w a b=[lst d.sectors,lst d.pending, .slice (some ⟨a,0,some 1⟩) w.pages.length (w.pages.length+1), .slice (some ⟨b,0,some 2⟩) w.rows.length (w.rows.length+1), .int .i64 w.deep]:=(rfl)
def treeO(d:GDisk)(root:Int):Int×GDisk×GL17Walk:=if diskF d≠0 then(diskF d,⟨[],[]⟩,noWk)else((treeI d root).1,d,(treeI d root).2)
def pagesR(d:GDisk)(root:Int):GIntsResult:=if(treeO d root).1≠0 then⟨(treeO d root).1,[]⟩else⟨0,sortI (treeI d root).2.pages⟩
theorem treeI_len(d:GDisk)(root:Int):(treeI d root).2.pages.length≤7776∧(treeI d root).2.rows.length≤31104:=by
 unfold treeI
 split
 ·exact⟨Nat.zero_le _,Nat.zero_le _⟩
 ·have h:=vis_grow (ins:=fun l n=>l++[n]) (fun l n=>by simp) d 5 root [] [] 1 noWk
  have h1:=h.pages
  have h2:=h.rows
  have e1:noWk.pages.length=0:=rfl
  have e2:noWk.rows.length=0:=rfl
  rw[e1]at h1;rw[e2]at h2
  exact⟨by omega,by omega⟩
def keptA(d:GDisk)(p:GSuper):List Int:=sortI (treeI d p.root).2.pages
def keptB(d:GDisk)(p:GSuper):List Int:=sortI (treeI d p.root).2.pages++sortI (treeI d p.shadow).2.pages
def keptN(d:GDisk)(p:GSuper):List Int:=if p.next_=0 then []else(chainD d p.next_).2.1
def keptL(d:GDisk)(p:GSuper):List Int:=keptB d p++(chainD d p.theory).2.1++keptN d p
def keptP(d:GDisk)(p:GSuper):GIntsResult:=
 if(treeI d p.root).1≠0 then⟨(treeI d p.root).1,[]⟩
 else if(treeI d p.shadow).1≠0 then⟨(treeI d p.shadow).1,[]⟩
 else if(chainD d p.theory).2.2≠0 then⟨(chainD d p.theory).2.2,[]⟩
 else if p.next_≠0∧(chainD d p.next_).2.2≠0 then⟨(chainD d p.next_).2.2,[]⟩
 else if incI (sortI (keptL d p))=true then⟨0,sortI (keptL d p)⟩else⟨6,[]⟩
def keptR(d:GDisk)(p:GSuper):GIntsResult:=if diskF d≠0 then⟨diskF d,[]⟩else if superF p≠0 then⟨superF p,[]⟩else keptP d p
theorem chn_len(d:GDisk):∀(f:Nat) (id:Int) (data:List UInt8) (pages:List Int),(chn d f id data pages).2.1.length≤pages.length+f
 |0,_,_,_=>by simp[chn]
 |f+1,id,data,pages=>by
  rw[chn]
  split
  ·simp
  ·split
   ·simp
   ·split
    ·simp
    ·split
     ·simp
     ·split
      ·simp
      ·split
       ·simp <;>omega
       ·have:=chn_len d f ((readPg (readD d id) id).1.body.getD 0 0).toNat (data++(readPg (readD d id) id).1.body.drop 1) (pages++[id])
        rw[List.length_append]at this
        simp only[List.length_cons,List.length_nil]at this
        omega
theorem chainD_len(d:GDisk)(h:Int):(chainD d h).2.1.length≤401:=by
 have:=chn_len d 401 h [] []
 simpa[chainD]using this
theorem keptL_len(d:GDisk)(p:GSuper):(keptL d p).length≤20000:=by
 have h1:=(treeI_len d p.root).1
 have h2:=(treeI_len d p.shadow).1
 have h3:=chainD_len d p.theory
 have h4:=chainD_len d p.next_
 unfold keptL keptB keptN
 rw[List.length_append,List.length_append,List.length_append,sort_len,sort_len]
 split
 ·simp only[List.length_nil];omega
 ·omega
structure SuperOK (p:GSuper):Prop where
 gen:1≤p.gen∧p.gen≤60000
 ver:1≤p.version∧p.version≤60000
 root:0≤p.root∧p.root≤63
 shadow:0≤p.shadow∧p.shadow≤63
 next_:0≤p.next_∧p.next_≤63
 theory:2≤p.theory∧p.theory≤63
 cur:p.cursor.length≤16
 sig:sigF p.symbols=0
 mov:p.moving=true→p.next_≠0
 rest:p.moving=false→p.shadow=0∧p.next_=0∧p.cursor=[]
theorem isRt_rg{n:Int}(h:isRt n=true):0≤n∧n≤63:=by
 unfold isRt isPg at h
 simp only[Bool.or_eq_true,decide_eq_true_eq]at h
 omega
theorem super_ok{p:GSuper}(h:superF p=0):SuperOK p:=by
 unfold superF at h
 split at h
 ·rename_i h1
  obtain⟨⟨g,v⟩,a,b,c,t⟩:=h1
  split at h
  ·omega
  ·rename_i h2
   split at h
   ·omega
   ·rename_i h3
    have ht:2≤p.theory∧p.theory≤63:=of_decide_eq_true t
    refine⟨g,v,isRt_rg a,isRt_rg b,isRt_rg c,ht,by omega,h,fun hm hn=>h3 (.inl ⟨hm,hn⟩),fun hm=> ?_⟩
    refine⟨Decidable.not_not.1 fun hq=>h3 (.inr ⟨hm, .inl hq⟩),Decidable.not_not.1 fun hq=>h3 (.inr ⟨hm, .inr (.inl hq)⟩),?_⟩
    exact List.eq_nil_of_length_eq_zero (Nat.eq_zero_of_not_pos fun hq=>h3 (.inr ⟨hm, .inr (.inr hq)⟩))
 ·omega
theorem pagesR_ok{d:GDisk}{root:Int}(hd:diskF d=0):pagesR d root=if(treeI d root).1≠0 then⟨(treeI d root).1,[]⟩else⟨0,sortI (treeI d root).2.pages⟩:=by
 have e:treeO d root=((treeI d root).1,d,(treeI d root).2):=by unfold treeO;rw[if_neg (by simpa using hd)]
 unfold pagesR
 rw[e]
theorem chainR_ok{d:GDisk}{h:Int}(hd:diskF d=0):chainR d h=⟨(chainD d h).2.2,(chainD d h).1,(chainD d h).2.1⟩:=by
 unfold chainR
 rw[if_neg (by simpa using hd)]
abbrev Rise(l:List Int):Prop:=l.Pairwise (· < ·)
theorem rise_ext:∀ {a b:List Int},Rise a→Rise b→(∀x,x∈a↔x∈b)→a=b
 |[],[],_,_,_=>rfl
 |[],b::bs,_,_,h=>absurd ((h b).2 (List.mem_cons_self)) (by simp)
 |a::xs,[],_,_,h=>absurd ((h a).1 (List.mem_cons_self)) (by simp)
 |a::xs,b::ys,ha,hb,h=>by
  have ha':=List.pairwise_cons.1 ha
  have hb':=List.pairwise_cons.1 hb
  have hab:a=b:=by
   have h1:=(h a).1 List.mem_cons_self
   have h2:=(h b).2 List.mem_cons_self
   rcases List.mem_cons.1 h1 with e|h1
   ·exact e
   ·rcases List.mem_cons.1 h2 with e|h2
    ·exact e.symm
    ·have:=hb'.1 a h1
     have:=ha'.1 b h2
     omega
  subst hab
  rw[rise_ext ha'.2 hb'.2 fun x=> ?_]
  constructor
  ·intro hx
   rcases List.mem_cons.1 ((h x).1 (List.mem_cons_of_mem _ hx))with e|h'
   ·subst e;exact absurd (ha'.1 _ hx) (by omega)
   ·exact h'
  ·intro hx
   rcases List.mem_cons.1 ((h x).2 (List.mem_cons_of_mem _ hx))with e|h'
   ·subst e;exact absurd (hb'.1 _ hx) (by omega)
   ·exact h'
theorem rise_nodup{l:List Int}(h:Rise l):l.Nodup:=h.imp fun h=>by omega
theorem incI_iff:∀ {l:List Int},incI l=true↔Rise l:=fun{l}=>by
 constructor
 ·intro h
  refine List.pairwise_iff_getElem.2 ?_
  have step:∀k (hk:k+1<l.length),l[k]<l[k+1]:=fun k hk=>by
   apply Decidable.byContradiction
   intro hn
   have:=incI_no (List.getElem?_eq_getElem (show k<l.length by omega)) (List.getElem?_eq_getElem hk) hn
   rw[h]at this;cases this
  intro i j hi hj hij
  induction j with
  |zero=>omega
  |succ j ih=>
   rcases Nat.lt_or_ge i j with hq|hq
   ·exact Int.lt_trans (ih (by omega) hq) (step j hj)
   ·obtain rfl:i=j:=by omega
    exact step i hj
 ·intro h
  exact incI_yes fun k x y h1 h2=>by
   obtain⟨hk1,rfl⟩:=List.getElem?_eq_some_iff.1 h1
   obtain⟨hk2,rfl⟩:=List.getElem?_eq_some_iff.1 h2
   exact List.pairwise_iff_getElem.1 h _ _ hk1 hk2 (by omega)
theorem sortI_mem(l:List Int)(x:Int):x∈sortI l↔x∈l:=by unfold sortI;exact List.mem_mergeSort
theorem sortI_nd(l:List Int):(sortI l).Nodup↔l.Nodup:=(List.mergeSort_perm l _).nodup_iff
theorem sortI_le(l:List Int):(sortI l).Pairwise (· ≤ ·):=by
 have:=List.pairwise_mergeSort (le:=fun x y:Int=>decide (x≤y)) (fun a b c h1 h2=>by simp at *;omega) (fun a b=>by simp;omega) l
 exact this.imp fun h=>by simpa using h
theorem sortI_rise{l:List Int}:Rise (sortI l)↔l.Nodup:=by
 constructor
 ·intro h;exact(sortI_nd l).1 (rise_nodup h)
 ·intro h
  exact((sortI_le l).and ((sortI_nd l).2 h)).imp fun⟨h1,h2⟩=>by omega
theorem putS_inv{l:List Int}(hl:Rise l)(n:Int):∀i,i≤l.length→
  ((putS l n i).2=false→(putS l n i).1=l.take i∧∀x∈l.take i,x<n)∧
  ((putS l n i).2=true→Rise (putS l n i).1∧(∀x,x∈(putS l n i).1↔x=n∨x∈l.take i)∧∃y∈l.take i,n≤y)
 |0,_=>⟨fun _=>⟨by simp[putS],by simp⟩,fun h=>by simp[putS]at h⟩
 |i+1,hi=>by
  obtain⟨h1,h2⟩:=putS_inv hl n i (by omega)
  have hlt:i<l.length:=by omega
  have hg:l.getD i 0=l[i]:=getD_some (List.getElem?_eq_getElem hlt)
  have htk:l.take (i+1)=l.take i++[l[i]]:=List.take_succ_eq_append_getElem hlt
  have hup:∀x∈l.take i,x<l[i]:=fun x hx=>by
   obtain⟨j,hj,rfl⟩:=List.getElem_of_mem hx
   have hj':j<i:=by rw[List.length_take]at hj;omega
   rw[List.getElem_take]
   exact List.pairwise_iff_getElem.1 hl _ _ _ _ hj'
  have htr:Rise (l.take i):=hl.sublist (List.take_sublist _ _)
  rw[putS,hg]
  cases hd:(putS l n i).2 with
  |false=>
   obtain⟨g1,g2⟩:=h1 hd
   by_cases hn:n≤l[i]
   ·rw[if_pos ⟨rfl,hn⟩]
    refine⟨(fun h=>by cases h),fun _=> ?_⟩
    rw[g1,htk]
    by_cases he:l[i]=n
    ·rw[if_pos he]
     refine⟨?_,fun x=> ?_,l[i],List.mem_append_right _ (List.mem_singleton.2 rfl),hn⟩
     ·simp only[List.append_nil]
      exact List.pairwise_append.2 ⟨htr,List.pairwise_singleton _ _,fun x hx y hy=>by rw[List.mem_singleton.1 hy];exact hup x hx⟩
     ·simp only[List.append_nil,List.mem_append,List.mem_singleton]
      rw[he]
      constructor
      ·rintro(h|h)
       ·exact .inr (.inl h)
       ·exact .inl h
      ·rintro(h|h|h)
       ·exact .inr h
       ·exact .inl h
       ·exact .inr h
    ·rw[if_neg he]
     have hlt2:n<l[i]:=by omega
     refine⟨?_,fun x=> ?_,l[i],List.mem_append_right _ (List.mem_singleton.2 rfl),hn⟩
     ·rw[List.append_assoc]
      refine List.pairwise_append.2 ⟨htr,by simp[hlt2],fun x hx y hy=> ?_⟩
      simp only[List.mem_append,List.mem_singleton]at hy
      rcases hy with rfl|rfl
      ·exact g2 x hx
      ·exact hup x hx
     ·simp only[List.mem_append,List.mem_singleton]
      constructor
      ·rintro((h|h)|h)
       ·exact .inr (.inl h)
       ·exact .inl h
       ·exact .inr (.inr h)
      ·rintro(h|h|h)
       ·exact .inl (.inr h)
       ·exact .inl (.inl h)
       ·exact .inr h
   ·rw[if_neg (fun h=>hn h.2)]
    refine⟨fun _=>⟨by rw[g1,htk],fun x hx=> ?_⟩,(fun h=>by cases h)⟩
    rw[htk]at hx
    rcases List.mem_append.1 hx with h|h
    ·exact g2 x h
    ·rw[List.mem_singleton.1 h];omega
  |true=>
   obtain⟨g1,g2,y,g3,g4⟩:=h2 hd
   rw[if_neg (fun h=>by cases h.1)]
   refine⟨(fun h=>by cases h),fun _=> ?_⟩
   refine⟨List.pairwise_append.2 ⟨g1,List.pairwise_singleton _ _,fun x hx z hz=> ?_⟩,fun x=> ?_,y,by rw[htk];exact List.mem_append_left _ g3,g4⟩
   ·rw[List.mem_singleton.1 hz]
    have:=hup y g3
    rcases(g2 x).1 hx with rfl|hx
    ·omega
    ·exact hup x hx
   ·rw[htk,List.mem_append,List.mem_append,g2 x]
    constructor
    ·rintro((h|h)|h)
     ·exact .inl h
     ·exact .inr (.inl h)
     ·exact .inr (.inr h)
    ·rintro(h|h|h)
     ·exact .inl (.inl h)
     ·exact .inl (.inr h)
     ·exact .inr h
theorem putL_inv{l:List Int}(hl:Rise l)(n:Int):Rise (putL l n)∧∀x,x∈putL l n↔x=n∨x∈l:=by
 obtain⟨h1,h2⟩:=putS_inv hl n l.length (Nat.le_refl _)
 rw[List.take_length]at h1 h2
 unfold putL
 cases hd:(putS l n l.length).2 with
 |false=>
  obtain⟨g1,g2⟩:=h1 hd
  rw[if_neg (by simp),g1]
  refine⟨List.pairwise_append.2 ⟨hl,List.pairwise_singleton _ _,fun x hx y hy=>by rw[List.mem_singleton.1 hy];exact g2 x hx⟩,fun x=> ?_⟩
  rw[List.mem_append,List.mem_singleton];exact or_comm
 |true=>
  obtain⟨g1,g2,_⟩:=h2 hd
  rw[if_pos rfl]
  exact⟨g1,g2⟩
theorem hasI_iff{l:List Int}{n:Int}:hasI l n=true↔n∈l:=by
 unfold hasI
 rw[List.any_eq_true]
 constructor
 ·rintro⟨x,h1,h2⟩
  have:x=n:=by simpa using h2
  subst this;exact h1
 ·intro h;exact⟨n,h,by simp⟩
theorem addS_inv{l:List Int}(hl:Rise l)(more:List Int):∀i,i≤more.length→
  Rise (addS l more i).1∧(∀x,x∈(addS l more i).1↔x∈l∨x∈more.take i)∧((addS l more i).2=true↔(l++more.take i).Nodup)
 |0,_=>by
  refine⟨hl,fun x=>by simp[addS],?_⟩
  simp only[List.take_zero,List.append_nil]
  exact⟨fun _=>rise_nodup hl,fun _=>rfl⟩
 |i+1,hi=>by
  obtain⟨h1,h2,h3⟩:=addS_inv hl more i (by omega)
  have hlt:i<more.length:=by omega
  have hg:more.getD i 0=more[i]:=getD_some (List.getElem?_eq_getElem hlt)
  have htk:more.take (i+1)=more.take i++[more[i]]:=List.take_succ_eq_append_getElem hlt
  obtain⟨k1,k2⟩:=putL_inv h1 more[i]
  have e1:(addS l more (i+1)).1=putL (addS l more i).1 more[i]:=by show putL _ _=_;rw[hg]
  have e2:(addS l more (i+1)).2=if hasI (addS l more i).1 more[i]=true then false else(addS l more i).2:=by show(if _ then false else _)=_;rw[hg]
  rw[e1,e2,htk]
  refine⟨k1,fun x=> ?_,?_⟩
  ·rw[k2 x,h2 x,List.mem_append,List.mem_singleton]
   constructor
   ·rintro(h|h|h)
    ·exact .inr (.inr h)
    ·exact .inl h
    ·exact .inr (.inl h)
   ·rintro(h|h|h)
    ·exact .inr (.inl h)
    ·exact .inr (.inr h)
    ·exact .inl h
  ·rw[←List.append_assoc,List.nodup_append]
   by_cases hh:hasI (addS l more i).1 more[i]=true
   ·rw[if_pos hh]
    refine⟨(fun h=>by cases h),fun h=> ?_⟩
    have:=(h2 more[i]).1 (hasI_iff.1 hh)
    exact absurd rfl (h.2.2 more[i] (List.mem_append.2 this) more[i] (List.mem_singleton.2 rfl))
   ·rw[if_neg hh,h3]
    refine⟨fun h=>⟨h,by simp,fun a ha b hb e=> ?_⟩,fun h=>h.1⟩
    rw[List.mem_singleton.1 hb]at e
    subst e
    exact hh (hasI_iff.2 ((h2 _).2 (List.mem_append.1 ha)))
theorem addL_inv{l:List Int}(hl:Rise l)(more:List Int):Rise (addL l more).1∧(∀x,x∈(addL l more).1↔x∈l∨x∈more)∧((addL l more).2=true↔(l++more).Nodup):=by
 have h:=addS_inv hl more more.length (Nat.le_refl _)
 rw[List.take_length]at h
 exact h
structure Two (w w':GL17Walk):Prop where
 rise:Rise w.pages
 mem:∀x,x∈w.pages↔x∈w'.pages
 nd:w'.pages.Nodup
 rows:w.rows=w'.rows
 deep:w.deep=w'.deep
abbrev app1:List Int→Int→List Int:=fun l n=>l++[n]
theorem Two.put{w w':GL17Walk}(h:Two w w'){id:Int}(hn:¬hasI w.pages id=true)(rows:List GRow)(deep:Int):Two ⟨putL w.pages id,rows,deep⟩ ⟨app1 w'.pages id,rows,deep⟩:=by
 obtain⟨k1,k2⟩:=putL_inv h.rise id
 refine⟨k1,fun x=> ?_,?_,rfl,rfl⟩
 ·show x∈putL w.pages id↔x∈w'.pages++[id]
  rw[k2 x,List.mem_append,List.mem_singleton,h.mem x];exact or_comm
 ·show(w'.pages++[id]).Nodup
  refine List.nodup_append.2 ⟨h.nd,by simp,fun a ha b hb e=> ?_⟩
  rw[List.mem_singleton.1 hb]at e
  subst e
  exact hn (hasI_iff.2 ((h.mem _).2 ha))
theorem Two.has{w w':GL17Walk}(h:Two w w')(id:Int):hasI w.pages id=hasI w'.pages id:=by
 rw[Bool.eq_iff_iff,hasI_iff,hasI_iff];exact h.mem id
theorem visK_two{g g':Vis}{n:GNode}{low high:List UInt8}(hg:∀k a b w w',Two w w'→(g k a b w).1=(g' k a b w').1∧Two (g k a b w).2 (g' k a b w').2):
  ∀(k i:Nat) (w w':GL17Walk),Two w w'→(visK g n low high k i w).1=(visK g' n low high k i w').1∧Two (visK g n low high k i w).2 (visK g' n low high k i w').2
 |0,i,w,w',h=>⟨rfl,h⟩
 |k+1,i,w,w',h=>by
  obtain⟨h1,h2⟩:=hg (n.kids.getD i 0) (loB n low i) (hiB n high i) w w' h
  rw[visK,visK,←h1]
  split
  ·exact⟨h1,h2⟩
  ·exact visK_two hg k (i+1) _ _ h2
theorem vis_two(d:GDisk):∀(f:Nat) (id:Int) (low high:List UInt8) (depth:Int) (w w':GL17Walk),Two w w'→
  (vis putL d f id low high depth w).1=(vis app1 d f id low high depth w').1∧Two (vis putL d f id low high depth w).2 (vis app1 d f id low high depth w').2
 |0,_,_,_,_,_,_,h=>⟨rfl,h⟩
 |f+1,id,low,high,depth,w,w',h=>by
  have hh:=h.has id
  by_cases h1:hasI w.pages id=true
  ·rw[vis_has h1,vis_has (by rw[←hh];exact h1)];exact⟨rfl,h⟩
  have h1':¬hasI w'.pages id=true:=by rw[←hh];exact h1
  by_cases h2:(nodeD d id).2=0
  case neg=>rw[vis_code h1 h2,vis_code h1' h2];exact⟨rfl,h⟩
  by_cases h3:badN (nodeD d id).1 depth low high=true
  ·rw[vis_bad h1 h2 h3,vis_bad h1' h2 h3];exact⟨rfl,h⟩
  by_cases h4:(nodeD d id).1.leaf=true
  ·by_cases h5:w.deep=0∨w.deep=depth
   ·rw[vis_leaf h1 h2 h3 h4 h5,vis_leaf h1' h2 h3 h4 (by rw[←h.deep];exact h5),h.rows]
    exact⟨rfl,h.put h1 _ _⟩
   ·rw[vis_leafN h1 h2 h3 h4 h5,vis_leafN h1' h2 h3 h4 (by rw[←h.deep];exact h5),h.rows,h.deep]
    exact⟨rfl,h.put h1 _ _⟩
  ·rw[vis_kids h1 h2 h3 h4,vis_kids h1' h2 h3 h4,h.rows,h.deep]
   exact visK_two (fun k a b w w' h=>vis_two d f k a b (depth+1) w w' h) _ _ _ _ (h.put h1 _ _)
theorem no_two:Two noWk noWk:=⟨List.Pairwise.nil,fun _=>Iff.rfl,List.Pairwise.nil,rfl,rfl⟩
theorem tree_two(d:GDisk)(root:Int):(treeS d root).2=(treeI d root).1∧((treeI d root).1=0→Two (treeS d root).1 (treeI d root).2):=by
 unfold treeS treeI
 by_cases h:root=0
 ·rw[if_pos h,if_pos h];exact⟨rfl,fun _=>no_two⟩
 ·rw[if_neg h,if_neg h]
  obtain⟨h1,h2⟩:=vis_two d 5 root [] [] 1 noWk noWk no_two
  by_cases hc:(vis putL d 5 root [] [] 1 noWk).1=0
  ·simp only[ne_eq,hc,not_true_eq_false,if_false]
   rw[hc]at h1
   exact⟨h1,fun _=>h2⟩
  ·simp only[ne_eq,hc,not_false_eq_true,if_true]
   exact⟨h1,fun h=>absurd (h1.trans h) hc⟩
theorem chn_nd(d:GDisk):∀(f:Nat) (id:Int) (data:List UInt8) (pages:List Int),pages.Nodup→(chn d f id data pages).2.1.Nodup
 |0,_,_,_,_=>List.Pairwise.nil
 |f+1,id,data,pages,h=>by
  rw[chn]
  split
  ·exact List.Pairwise.nil
  ·split
   ·exact List.Pairwise.nil
   ·rename_i hh
    have hn:(pages++[id]).Nodup:=List.nodup_append.2 ⟨h,by simp,fun a ha b hb e=>by
     rw[List.mem_singleton.1 hb]at e
     subst e
     exact hh (hasI_iff.2 ha)⟩
    split
    ·exact List.Pairwise.nil
    ·split
     ·exact List.Pairwise.nil
     ·split
      ·exact List.Pairwise.nil
      ·split
       ·exact hn
       ·exact chn_nd d f _ _ _ hn
theorem chainD_nd(d:GDisk)(h:Int):(chainD d h).2.1.Nodup:=chn_nd d 401 h [] [] List.Pairwise.nil
def keptS(d:GDisk)(p:GSuper):List Int×Int:=
 if(treeS d p.root).2≠0 then([],(treeS d p.root).2)
 else if(treeS d p.shadow).2≠0 then([],(treeS d p.shadow).2)
 else if(chainD d p.theory).2.2≠0 then([],(chainD d p.theory).2.2)
 else if p.next_≠0∧(chainD d p.next_).2.2≠0 then([],(chainD d p.next_).2.2)
 else if(addL (treeS d p.root).1.pages (treeS d p.shadow).1.pages).2=true∧(addL (addL (treeS d p.root).1.pages (treeS d p.shadow).1.pages).1 (chainD d p.theory).2.1).2=true∧
  (addL (addL (addL (treeS d p.root).1.pages (treeS d p.shadow).1.pages).1 (chainD d p.theory).2.1).1 (keptN d p)).2=true then
  ((addL (addL (addL (treeS d p.root).1.pages (treeS d p.shadow).1.pages).1 (chainD d p.theory).2.1).1 (keptN d p)).1,0)
 else([],6)
theorem nd_app{a b a' b':List Int}(ha:∀x,x∈a↔x∈a')(hb:∀x,x∈b↔x∈b')(h1:a.Nodup)(h2:a'.Nodup)(h3:b.Nodup)(h4:b'.Nodup):(a++b).Nodup↔(a'++b').Nodup:=by
 rw[List.nodup_append,List.nodup_append]
 constructor
 ·rintro⟨_,_,h⟩;exact⟨h2,h4,fun x hx y hy=>h x ((ha x).2 hx) y ((hb y).2 hy)⟩
 ·rintro⟨_,_,h⟩;exact⟨h1,h3,fun x hx y hy=>h x ((ha x).1 hx) y ((hb y).1 hy)⟩
theorem kept_two(d:GDisk)(p:GSuper):keptS d p=((keptP d p).list,(keptP d p).code):=by
 obtain⟨r1,r2⟩:=tree_two d p.root
 obtain⟨s1,s2⟩:=tree_two d p.shadow
 unfold keptS keptP
 rw[r1,s1]
 by_cases h1:(treeI d p.root).1=0
 case neg=>simp only[ne_eq,h1,not_false_eq_true,if_true]
 simp only[ne_eq,h1,not_true_eq_false,if_false]
 by_cases h2:(treeI d p.shadow).1=0
 case neg=>simp only[ne_eq,h2,not_false_eq_true,if_true]
 simp only[ne_eq,h2,not_true_eq_false,if_false]
 by_cases h3:(chainD d p.theory).2.2=0
 case neg=>simp only[ne_eq,h3,not_false_eq_true,if_true]
 simp only[ne_eq,h3,not_true_eq_false,if_false]
 by_cases h4:¬p.next_=0∧¬(chainD d p.next_).2.2=0
 ·simp only[h4,not_false_eq_true,and_self,if_true]
 simp only[h4,if_false]
 have tr:=r2 h1
 have ts:=s2 h2
 obtain⟨a1,a2,a3⟩:=addL_inv tr.rise (treeS d p.shadow).1.pages
 obtain⟨b1,b2,b3⟩:=addL_inv a1 (chainD d p.theory).2.1
 obtain⟨c1,c2,c3⟩:=addL_inv b1 (keptN d p)
 have hnd:(keptN d p).Nodup:=by unfold keptN;split;exact List.Pairwise.nil;exact chainD_nd _ _
 have hcd:=chainD_nd d p.theory
 have m1:∀x,x∈(addL (treeS d p.root).1.pages (treeS d p.shadow).1.pages).1↔x∈keptB d p:=fun x=>by
  rw[a2 x,tr.mem x,ts.mem x];unfold keptB;rw[List.mem_append,sortI_mem,sortI_mem]
 have m2:∀x,x∈(addL (addL (treeS d p.root).1.pages (treeS d p.shadow).1.pages).1 (chainD d p.theory).2.1).1↔x∈keptB d p++(chainD d p.theory).2.1:=fun x=>by
  rw[b2 x,m1 x,List.mem_append]
 have m3:∀x,x∈(addL (addL (addL (treeS d p.root).1.pages (treeS d p.shadow).1.pages).1 (chainD d p.theory).2.1).1 (keptN d p)).1↔x∈keptL d p:=fun x=>by
  rw[c2 x,m2 x];exact List.mem_append.symm
 have n1:(addL (treeS d p.root).1.pages (treeS d p.shadow).1.pages).2=true↔(keptB d p).Nodup:=by
  rw[a3]
  exact nd_app (fun x=>by rw[tr.mem x,sortI_mem]) (fun x=>by rw[ts.mem x,sortI_mem]) (rise_nodup tr.rise) ((sortI_nd _).2 tr.nd) (rise_nodup ts.rise) ((sortI_nd _).2 ts.nd)
 have key:((addL (treeS d p.root).1.pages (treeS d p.shadow).1.pages).2=true∧(addL (addL (treeS d p.root).1.pages (treeS d p.shadow).1.pages).1 (chainD d p.theory).2.1).2=true∧
  (addL (addL (addL (treeS d p.root).1.pages (treeS d p.shadow).1.pages).1 (chainD d p.theory).2.1).1 (keptN d p)).2=true)↔(keptL d p).Nodup:=by
  constructor
  ·rintro⟨g1,g2,g3⟩
   have k1:=n1.1 g1
   have k2:(keptB d p++(chainD d p.theory).2.1).Nodup:=(nd_app m1 (fun _=>Iff.rfl) (rise_nodup a1) k1 hcd hcd).1 (b3.1 g2)
   exact(nd_app m2 (fun _=>Iff.rfl) (rise_nodup b1) k2 hnd hnd).1 (c3.1 g3)
  ·intro h
   have k2:(keptB d p++(chainD d p.theory).2.1).Nodup:=(List.nodup_append.1 h).1
   have k1:(keptB d p).Nodup:=(List.nodup_append.1 k2).1
   exact⟨n1.2 k1,b3.2 ((nd_app m1 (fun _=>Iff.rfl) (rise_nodup a1) k1 hcd hcd).2 k2),c3.2 ((nd_app m2 (fun _=>Iff.rfl) (rise_nodup b1) k2 hnd hnd).2 h)⟩
 by_cases hn:(keptL d p).Nodup
 ·rw[if_pos (key.2 hn),if_pos (incI_iff.2 (sortI_rise.2 hn))]
  have:(addL (addL (addL (treeS d p.root).1.pages (treeS d p.shadow).1.pages).1 (chainD d p.theory).2.1).1 (keptN d p)).1=sortI (keptL d p):=rise_ext c1 (sortI_rise.2 hn) fun x=>by rw[m3 x,sortI_mem]
  rw[this]
 ·rw[if_neg (fun h=>hn (key.1 h)),if_neg (fun h=>hn (sortI_rise.1 (incI_iff.1 h)))]
theorem treeS_len(d:GDisk)(root:Int):(treeS d root).1.pages.length≤7776:=by
 unfold treeS
 split
 ·exact Nat.zero_le _
 ·split
  ·exact Nat.zero_le _
  ·have h:=(vis_grow putL_len d 5 root [] [] 1 noWk).pages
   have e1:noWk.pages.length=0:=rfl
   rw[e1]at h
   show(vis putL d 5 root [] [] 1 noWk).2.pages.length≤7776
   omega
theorem addL_len(l more:List Int):(addL l more).1.length≤l.length+more.length:=addS_len l more more.length
theorem giveR_nilI(v:Value):giveR (some ⟨[],true⟩) 1 0 v=lst ([]:List Int):=giveR_flat (α:=Int) [] rfl rfl v
theorem u8_flat(z:Int):[Value.int .u8 (z%256)]=flat [u8z z]:=by rw[flat_one];show _=[Value.int .u8 ((u8z z).toNat:Int)];rw[u8z_int]
def nodeB(b:UInt8):Int:=if b.toNat<32 then(b.toNat:Int)-1 else 31-(b.toNat:Int)
def okB(s:GSignature)(b:UInt8):Bool:=if b.toNat<32 then isSym s ((b.toNat:Int)-1)else isNode s (31-(b.toNat:Int))
def rtT(data:List UInt8)(i:Nat):List Int:=(data.take i).map nodeB
def rtS(s:GSignature)(data:List UInt8):Nat→Nat→List Int
 |0,_=>[]
 |f+1,i=>if data.length≤i then []else if okB s (data.getD i 0)=true then(if termG s (rtT data (i+1))=0 then rtT data (i+1)else rtS s data f (i+1))else []
def rt(s:GSignature)(data:List UInt8):List Int:=rtS s data 24 0
def PkT(t:List Int):Prop:=t.length≤24∧smallN t
theorem PkT.sm{t:List Int}(h:PkT t):sm t∧t.length≤1000000∧smallN t:=⟨(sm_ints _).2 (by have:=h.1;omega),by have:=h.1;omega,h.2⟩
inductive OV
 |v (x:Value)
 |sl (k len:Nat) (cells:List OV)
namespace OV
mutual
def num:OV→Nat
 | .v _=>0
 | .sl _ _ cs=>numL cs+1
def numL:List OV→Nat
 |[]=>0
 |c::cs=>num c+numL cs
end
def val(b:Nat):OV→Value
 | .v x=>x
 | .sl k len _=> .slice (some ⟨b,0,some k⟩) len (len+1)
def valL:Nat→List OV→List Value
 |_,[]=>[]
 |b,c::cs=>val b c::valL (b+num c) cs
mutual
def bl:Nat→OV→List (List Value)
 |_, .v _=>[]
 |b, .sl _ _ cs=>valL (b+1) cs::blL (b+1) cs
def blL:Nat→List OV→List (List Value)
 |_,[]=>[]
 |b,c::cs=>bl b c++blL (b+num c) cs
end
mutual
def dat:OV→Value
 | .v x=>x
 | .sl k len cs=> .func (.yield k) #[] (rowsOf k len (datL cs)).toArray
def datL:List OV→List Value
 |[]=>[]
 |c::cs=>dat c::datL cs
end
mutual
def ok:OV→Prop
 | .v x=>(∀B,NB B x)∧VC x
 | .sl k len cs=>cs.length=len*k∧okL cs
def okL:List OV→Prop
 |[]=>True
 |c::cs=>ok c∧okL cs
end
mutual
def At(H:AH)(lo:Nat):OV→Value→List (Option Nat)→Prop
 | .v x,u,σ=>u=x∧σ=[]
 | .sl k len cs,u,σ=>(∃m c us τ,u= .slice (some ⟨m,0,some k⟩) len c∧σ=some m::τ∧lo≤m∧H m=some ⟨us,true⟩∧AtL H lo cs us τ)∨(u= .slice none 0 0∧σ=[none]∧len=0∧cs=[])
def AtL(H:AH)(lo:Nat):List OV→List Value→List (Option Nat)→Prop
 |[],us,σ=>us=[]∧σ=[]
 |c::cs,us,σ=>∃u vs σ1 σ2,us=u::vs∧σ=σ1++σ2∧At H lo c u σ1∧AtL H lo cs vs σ2
end
theorem valL_len:∀(cs:List OV) (b:Nat),(valL b cs).length=cs.length
 |[],_=>rfl
 |c::cs,b=>by simp[valL,valL_len cs]
theorem valL_app:∀(a c:List OV) (b:Nat),valL b (a++c)=valL b a++valL (b+numL a) c
 |[],c,b=>by simp[valL,numL]
 |x::a,c,b=>by simp[valL,numL,valL_app a,Nat.add_assoc]
theorem numL_app:∀(a c:List OV),numL (a++c)=numL a+numL c
 |[],c=>by simp[numL]
 |x::a,c=>by simp[numL,numL_app a,Nat.add_assoc]
theorem blL_app:∀(a c:List OV) (b:Nat),blL b (a++c)=blL b a++blL (b+numL a) c
 |[],c,b=>by simp[blL,numL]
 |x::a,c,b=>by simp[blL,numL,blL_app a,Nat.add_assoc]
theorem datL_app:∀(a c:List OV),datL (a++c)=datL a++datL c
 |[],c=>rfl
 |x::a,c=>by simp[datL,datL_app a]
theorem okL_app:∀(a c:List OV),okL (a++c)↔okL a∧okL c
 |[],c=>by simp[okL]
 |x::a,c=>by simp[okL,okL_app a,and_assoc]
theorem datL_len:∀(cs:List OV),(datL cs).length=cs.length
 |[]=>rfl
 |c::cs=>by simp[datL,datL_len cs]
mutual
theorem bl_len:∀(o:OV) (b:Nat),(bl b o).length=num o
 | .v _,_=>rfl
 | .sl _ _ cs,b=>by simp[bl,num,blL_len cs]
theorem blL_len:∀(cs:List OV) (b:Nat),(blL b cs).length=numL cs
 |[],_=>rfl
 |c::cs,b=>by simp[blL,numL,bl_len c,blL_len cs]
end
mutual
theorem At.len{H:AH}{lo:Nat}:∀ {o:OV} {u:Value} {σ:List (Option Nat)},At H lo o u σ→σ.length=num o
 | .v x,u,σ,h=>by obtain⟨_,rfl⟩:=h;rfl
 | .sl k len cs,u,σ,h=>by
  rcases h with⟨m,c,us,τ,_,rfl,_,_,h⟩|⟨_,rfl,_,rfl⟩
  ·simp[num,AtL.len h]
  ·rfl
theorem AtL.len{H:AH}{lo:Nat}:∀ {cs:List OV} {us:List Value} {σ:List (Option Nat)},AtL H lo cs us σ→σ.length=numL cs
 |[],us,σ,h=>by obtain⟨_,rfl⟩:=h;rfl
 |c::cs,us,σ,h=>by
  obtain⟨u,vs,σ1,σ2,rfl,rfl,h1,h2⟩:=h
  simp[numL,At.len h1,AtL.len h2]
end
theorem AtL.size{H:AH}{lo:Nat}:∀ {cs:List OV} {us:List Value} {σ:List (Option Nat)},AtL H lo cs us σ→us.length=cs.length
 |[],us,σ,h=>by obtain⟨rfl,_⟩:=h;rfl
 |c::cs,us,σ,h=>by
  obtain⟨u,vs,σ1,σ2,rfl,rfl,h1,h2⟩:=h
  simp[AtL.size h2]
mutual
theorem At.mono{H H':AH}{lo lo':Nat}(hlo:lo'≤lo):∀ {o:OV} {u:Value} {σ:List (Option Nat)},At H lo o u σ→(∀m,some m∈σ→H' m=H m)→At H' lo' o u σ
 | .v x,u,σ,h,_=>h
 | .sl k len cs,u,σ,h,hm=>by
  rcases h with⟨m,c,us,τ,rfl,rfl,h1,h2,h⟩|h
  ·exact .inl ⟨m,c,us,τ,rfl,rfl,Nat.le_trans hlo h1,by rw[hm m (by simp)];exact h2,AtL.mono hlo h fun q hq=>hm q (by simp[hq])⟩
  ·exact .inr h
theorem AtL.mono{H H':AH}{lo lo':Nat}(hlo:lo'≤lo):∀ {cs:List OV} {us:List Value} {σ:List (Option Nat)},AtL H lo cs us σ→(∀m,some m∈σ→H' m=H m)→AtL H' lo' cs us σ
 |[],us,σ,h,_=>h
 |c::cs,us,σ,h,hm=>by
  obtain⟨u,vs,σ1,σ2,rfl,rfl,h1,h2⟩:=h
  exact⟨u,vs,σ1,σ2,rfl,rfl,At.mono hlo h1 fun m hq=>hm m (by simp[hq]),AtL.mono hlo h2 fun m hq=>hm m (by simp[hq])⟩
end
mutual
theorem At.le{H H':AH}{lo:Nat}(hle:Le H H'):∀ {o:OV} {u:Value} {σ:List (Option Nat)},At H lo o u σ→At H' lo o u σ
 | .v x,u,σ,h=>h
 | .sl k len cs,u,σ,h=>by
  rcases h with⟨m,c,us,τ,rfl,rfl,h1,h2,h⟩|h
  ·exact .inl ⟨m,c,us,τ,rfl,rfl,h1,hle m _ h2,AtL.le hle h⟩
  ·exact .inr h
theorem AtL.le{H H':AH}{lo:Nat}(hle:Le H H'):∀ {cs:List OV} {us:List Value} {σ:List (Option Nat)},AtL H lo cs us σ→AtL H' lo cs us σ
 |[],us,σ,h=>h
 |c::cs,us,σ,h=>by
  obtain⟨u,vs,σ1,σ2,rfl,rfl,h1,h2⟩:=h
  exact⟨u,vs,σ1,σ2,rfl,rfl,At.le hle h1,AtL.le hle h2⟩
end
theorem AtL.app{H:AH}{lo:Nat}:∀ {a c:List OV} {us vs:List Value} {σ τ:List (Option Nat)},AtL H lo a us σ→AtL H lo c vs τ→AtL H lo (a++c) (us++vs) (σ++τ)
 |[],c,us,vs,σ,τ,h,h'=>by obtain⟨rfl,rfl⟩:=h;simpa using h'
 |x::a,c,us,vs,σ,τ,h,h'=>by
  obtain⟨u,ws,σ1,σ2,rfl,rfl,h1,h2⟩:=h
  exact⟨u,ws++vs,σ1,σ2++τ,rfl,by simp,h1,AtL.app h2 h'⟩
mutual
theorem At.lo{H:AH}{lo:Nat}:∀ {o:OV} {u:Value} {σ:List (Option Nat)},At H lo o u σ→∀m,some m∈σ→lo≤m∧∃us,H m=some ⟨us,true⟩
 | .v x,u,σ,h,m,hm=>by obtain⟨_,rfl⟩:=h;simp at hm
 | .sl k len cs,u,σ,h,m,hm=>by
  rcases h with⟨q,c,us,τ,rfl,rfl,h1,h2,h⟩|⟨_,rfl,_,_⟩
  ·rcases List.mem_cons.1 hm with e|hm
   ·cases e;exact⟨h1,us,h2⟩
   ·exact AtL.lo h m hm
  ·simp at hm
theorem AtL.lo{H:AH}{lo:Nat}:∀ {cs:List OV} {us:List Value} {σ:List (Option Nat)},AtL H lo cs us σ→∀m,some m∈σ→lo≤m∧∃us,H m=some ⟨us,true⟩
 |[],us,σ,h,m,hm=>by obtain⟨_,rfl⟩:=h;simp at hm
 |c::cs,us,σ,h,m,hm=>by
  obtain⟨u,vs,σ1,σ2,rfl,rfl,h1,h2⟩:=h
  rcases List.mem_append.1 hm with hm|hm
  ·exact At.lo h1 m hm
  ·exact AtL.lo h2 m hm
end
mutual
theorem At.pubG{H:AH}{lo:Nat}{S:Nat→Prop}(hS:∀m us,lo≤m→H m=some ⟨us,true⟩→S m):∀ {o:OV} {u:Value} {σ:List (Option Nat)},At H lo o u σ→ok o→Pub H S u (dat o)
 | .v x,u,σ,h,_=>by obtain⟨rfl,_⟩:=h;exact .same _
 | .sl k len cs,u,σ,h,hk=>by
  rcases h with⟨m,c,us,τ,rfl,rfl,h1,h2,h⟩|⟨rfl,rfl,rfl,rfl⟩
  ·have hl:=hk.1
   have hus:=AtL.size h
   have hp:=AtL.pubG hS h hk.2
   refine .lst (b:=⟨us,true⟩) (hS m us h1 h2) h2 rfl (by simp[rowsOf_len]) (by show 0+len*k≤us.length;omega) (fun i x hx=> ?_) (fun i j r v u h1 h2 h3=> ?_)
   ·have hi:i<len:=by have:=(Array.getElem?_eq_some_iff.1 hx).1;simpa[rowsOf_len]using this
    have:=rowsOf_get k len (datL cs) i hi
    rw[List.getElem?_toArray,this]at hx
    cases hx
    refine⟨_,rfl,?_⟩
    have:(i+1)*k≤len*k:=Nat.mul_le_mul_right _ hi
    rw[Nat.succ_mul]at this
    have:=datL_len cs
    simp;omega
   ·have hi:i<len:=by have:=(Array.getElem?_eq_some_iff.1 h1).1;simpa[rowsOf_len]using this
    have h4:=rowsOf_get k len (datL cs) i hi
    rw[List.getElem?_toArray,h4]at h1
    cases h1
    have hj:j<k:=by
     have:=(Array.getElem?_eq_some_iff.1 h3).1
     simp at this;omega
    rw[List.getElem?_toArray,List.getElem?_take,if_pos hj,List.getElem?_drop]at h3
    rw[Nat.zero_add]at h2
    exact hp (i*k+j) v u h2 h3
  ·exact .empty
theorem AtL.pubG{H:AH}{lo:Nat}{S:Nat→Prop}(hS:∀m us,lo≤m→H m=some ⟨us,true⟩→S m):∀ {cs:List OV} {us:List Value} {σ:List (Option Nat)},AtL H lo cs us σ→okL cs→∀(i:Nat) v u,us[i]? =some v→(datL cs)[i]? =some u→Pub H S v u
 |[],us,σ,h,_=>by obtain⟨rfl,_⟩:=h;intro i v u h;simp at h
 |c::cs,us,σ,h,hk=>by
  obtain⟨u,vs,σ1,σ2,rfl,rfl,h1,h2⟩:=h
  intro i v w e1 e2
  cases i with
  |zero=>simp only[List.getElem?_cons_zero,Option.some.injEq,datL]at e1 e2;subst e1;subst e2;exact At.pubG hS h1 hk.1
  |succ i=>simp only[List.getElem?_cons_succ,datL]at e1 e2;exact AtL.pubG hS h2 hk.2 i v w e1 e2
end
theorem AtL.pub{H:AH}{lo:Nat}{cs:List OV}{us:List Value}{σ:List (Option Nat)}(h:AtL H lo cs us σ)(hk:okL cs):∀(i:Nat) v u,us[i]? =some v→(datL cs)[i]? =some u→Pub H (ownS H) v u:=AtL.pubG (fun m us _ h=>⟨_,h,rfl⟩) h hk
def blkOK(H:AH)(Bd:Nat)(F:List (Option Nat))(x:Option (Option Nat))(c:Option (List Value)):Prop:=match x with
 |some none=>c=some []
 |some (some m)=>Bd≤m∧∃us cc,H m=some ⟨us,true⟩∧c=some cc∧cc.length=us.length∧∀(j:Nat) v u,cc[j]? =some v→us[j]? =some u→RN F Bd v u
 |none=>True
mutual
theorem At.rn{H:AH}{Bd:Nat}{F:List (Option Nat)}:∀ {o:OV} {u:Value} {σ:List (Option Nat)} (i:Nat),At H Bd o u σ→ok o→(∀q,q<σ.length→F[i+q]? =σ[q]?)→RN F Bd (val (Bd+i) o) u∧∀q,q<σ.length→blkOK H Bd F σ[q]? (bl (Bd+i) o)[q]?
 | .v x,u,σ,i,h,hk,hF=>by
  obtain⟨rfl,rfl⟩:=h
  exact⟨.same (hk.1 Bd),fun q hq=>absurd hq (Nat.not_lt_zero _)⟩
 | .sl k len cs,u,σ,i,h,hk,hF=>by
  rcases h with⟨m,c,us,τ,rfl,rfl,h1,h2,h⟩|⟨rfl,rfl,rfl,rfl⟩
  ·have hi:=hF 0 (by simp)
   simp only[Nat.add_zero,List.getElem?_cons_zero]at hi
   have ih:=AtL.rn (F:=F) (i+1) h hk.2 fun q hq=>by
    have:=hF (q+1) (by simpa using hq)
    simp only[List.getElem?_cons_succ]at this
    rw[←this];congr 1;omega
   refine⟨.sl hi,fun q hq=> ?_⟩
   cases q with
   |zero=>exact⟨h1,us,_,h2,rfl,by rw[valL_len,AtL.size h],fun j v u e1 e2=>ih.1 j v u (by rw[←Nat.add_assoc];exact e1) e2⟩
   |succ q=>
    have:=ih.2 q (by simpa using hq)
    rw[←Nat.add_assoc]at this
    simpa[bl]using this
  ·have hi:=hF 0 (by simp)
   simp only[Nat.add_zero,List.getElem?_cons_zero]at hi
   refine⟨.nil hi,fun q hq=> ?_⟩
   cases q with
   |zero=>rfl
   |succ q=>simp at hq
theorem AtL.rn{H:AH}{Bd:Nat}{F:List (Option Nat)}:∀ {cs:List OV} {us:List Value} {σ:List (Option Nat)} (i:Nat),AtL H Bd cs us σ→okL cs→(∀q,q<σ.length→F[i+q]? =σ[q]?)→(∀(j:Nat) v u,(valL (Bd+i) cs)[j]? =some v→us[j]? =some u→RN F Bd v u)∧∀q,q<σ.length→blkOK H Bd F σ[q]? (blL (Bd+i) cs)[q]?
 |[],us,σ,i,h,hk,hF=>by
  obtain⟨rfl,rfl⟩:=h
  exact⟨fun j v u h=>by simp[valL]at h,fun q hq=>absurd hq (Nat.not_lt_zero _)⟩
 |c::cs,us,σ,i,h,hk,hF=>by
  obtain⟨u,vs,σ1,σ2,rfl,rfl,h1,h2⟩:=h
  have hl:=At.len h1
  obtain⟨a1,a2⟩:=At.rn (F:=F) i h1 hk.1 fun q hq=>by
   rw[hF q (by rw[List.length_append];omega),List.getElem?_append_left hq]
  obtain⟨b1,b2⟩:=AtL.rn (F:=F) (i+num c) h2 hk.2 fun q hq=>by
   rw[show i+num c+q=i+(num c+q) by omega,hF (num c+q) (by rw[List.length_append];omega),List.getElem?_append_right (by omega),hl]
   congr 1;omega
  refine⟨fun j v w e1 e2=> ?_,fun q hq=> ?_⟩
  ·cases j with
   |zero=>simp only[List.getElem?_cons_zero,Option.some.injEq,valL]at e1 e2;subst e1;subst e2;exact a1
   |succ j=>simp only[List.getElem?_cons_succ,valL]at e1 e2;exact b1 j v w (by rw[←Nat.add_assoc];exact e1) e2
  ·rw[blL]
   by_cases hq1:q<σ1.length
   ·rw[List.getElem?_append_left hq1,List.getElem?_append_left (by rw[bl_len];omega)]
    exact a2 q hq1
   ·rw[List.getElem?_append_right (by omega),List.getElem?_append_right (by rw[bl_len];omega),bl_len,←hl]
    rw[List.length_append]at hq
    have:=b2 (q-σ1.length) (by omega)
    rw[←Nat.add_assoc,←hl]at this
    exact this
end
def nd(σ:List (Option Nat)):Prop:=∀(i j m:Nat),σ[i]? =some (some m)→σ[j]? =some (some m)→i=j
end OV
inductive RV
 |one (o:OV)
 |agg (cs:List OV)
namespace RV
def cs:RV→List OV
 |one o=>[o]
 |agg cs=>cs
def val(b:Nat):RV→Value
 |one o=>o.val b
 |agg cs=> .agg (OV.valL b cs).toArray
def At(H:AH)(lo:Nat):RV→Value→List (Option Nat)→Prop
 |one o,u,σ=>OV.At H lo o u σ
 |agg cs,u,σ=>∃us,u= .agg us.toArray∧OV.AtL H lo cs us σ
theorem At.atL{H:AH}{lo:Nat}{r:RV}{u:Value}{σ:List (Option Nat)}(h:r.At H lo u σ):∃us,OV.AtL H lo r.cs us σ:=by
 cases r with
 |one o=>exact⟨[u],u,[],σ,[],rfl,by simp,h,rfl,rfl⟩
 |agg cs=>obtain⟨us,_,h⟩:=h;exact⟨us,h⟩
theorem At.anew{H H0:AH}{Bd:Nat}{r:RV}{u:Value}{σ:List (Option Nat)}(h:r.At H Bd u σ)(hk:OV.okL r.cs)(hn:OV.nd σ)(hle:Le H0 H):Anew H0 Bd u H σ (OV.blL Bd r.cs) (r.val Bd):=by
 have hF:∀q,q<σ.length→σ[0+q]? =σ[q]? :=fun q _=>by rw[Nat.zero_add]
 obtain⟨us,hL⟩:=h.atL
 obtain⟨a1,a2⟩:=OV.AtL.rn (F:=σ) 0 hL hk hF
 have hlen:σ.length=(OV.blL Bd r.cs).length:=by rw[OV.blL_len];exact OV.AtL.len hL
 refine⟨hlen,hle,?_,fun i hi=> ?_,fun i m hi=> ?_,hn⟩
 ·cases r with
  |one o=>exact(OV.At.rn (F:=σ) 0 h hk.1 hF).1
  |agg cs=>
   obtain⟨us,rfl,h⟩:=h
   refine .agg (by simp[OV.valL_len,OV.AtL.size h]) fun i v u e1 e2=> ?_
   exact(OV.AtL.rn (F:=σ) 0 h hk hF).1 i v u (by simpa using e1) (by simpa using e2)
 ·have hq:=(List.getElem?_eq_some_iff.1 hi).1
  have:=a2 i hq
  rw[hi]at this
  exact this
 ·have hq:=(List.getElem?_eq_some_iff.1 hi).1
  have:=a2 i hq
  rw[hi]at this
  obtain⟨g1,us,cc,g2,g3,g4,g5⟩:=this
  exact⟨g1,_,cc,g2,rfl,g3,g4,g5⟩
end RV
def OwnNQ(P:Program)(rs:List ResultVar)(H0:AH)(Bd0:Nat)(r0:RV)(s:List Value)(H:AH)(Bd:Nat):Prop:=
 Yld (aresults P rs s H) fun vs=>OwnN H0 Bd0 r0 (tupleOf vs) H
where
 OwnN (H0:AH) (Bd0:Nat) (r0:RV) (v:Value) (H:AH):Prop:=Le H0 H∧∃σ,r0.At H Bd0 v σ∧OV.nd σ
def ownNQ(P:Program)(rs:List ResultVar)(H0:AH)(Bd0:Nat)(r0:RV):APost
 | .normal=>OwnNQ P rs H0 Bd0 r0
 | .ret=>OwnNQ P rs H0 Bd0 r0
 |_=>fun _ _ _=>False
section
variable {P:Program} {s:List Value} {H:AH} {Bd:Nat}
@[go_sem ↓] theorem ownNQ_ret (rs:List ResultVar) (H0:AH) (B0:Nat) (r0:RV):ownNQ P rs H0 B0 r0 .ret=OwnNQ P rs H0 B0 r0:=(rfl)
@[go_sem ↓] theorem OwnNQ_eq (rs:List ResultVar) (H0:AH) (B0:Nat) (r0:RV):OwnNQ P rs H0 B0 r0 s H Bd=Yld (aresults P rs s H) fun vs=>OwnNQ.OwnN H0 B0 r0 (tupleOf vs) H:=(rfl)
end
theorem fn_ownN{P:Program}(hP:POk P)(E:Env P)(PL:List (Nat×List Nat×List Stp×JT)){f:FuncId}{fn:Func}{c:Code}{args:List Value}{H:AH}{Bd:Nat}{K:Value→AH→Nat→Prop}(r0:RV)(hr:OV.okL r0.cs)(hK:K (r0.val Bd) (putU H Bd (OV.blL Bd r0.cs)) (Bd+OV.numL r0.cs))
  (hf:P.funcs[f]? =some fn) (hb:fn.body=some c) {rs:List ResultVar} (hrs:fn.results.toList=rs) {m:Nat} (hm:fn.ntmps=m) (hm2:args.length≤m) (hent:Enters P f) (hp:plansOK PL c=true)
  (h:HB H Bd→(∀v∈args,NB Bd v)→vq E PL Bd c (ownNQ P rs H Bd r0) (aS m undef (idx 0 args)) H Bd):SCalls P f args H Bd K:=by
 refine SCalls.of_hb hent fun hH=>anew ?_
 rw[putU_eq hH,←OV.blL_len r0.cs Bd]at hK
 subst hm
 rw[←start_aS args _ hm2]at h
 refine scalls_of_tr hf hb hrs hent fun hh ha=>(vq_sound hP PL c _ _ H Bd hp (h hh ha)).conv fun e s' H' Bd' hle hq=> ?_
 have key:OwnNQ P rs H Bd r0 s' H' Bd'→RetQ P rs H Bd (fun r H' _=>∃σ L r0,Anew H Bd r H' σ L r0∧K r0 (putN H Bd L) (Bd+L.length)) s' H' Bd':=fun⟨vs,h1,h2,σ,h3,h4⟩=>
  ⟨vs,h1,tupleOf vs,fun _=>False,H',Bd', .same _,fun _ _ _ h=>h,Le.refl _,hle, .inl ⟨Nat.le_refl _,fun hb2 _=>⟨σ,_,_,h3.anew hr h4 h2,hK⟩⟩⟩
 cases e with
 |normal=>exact key hq
 |ret=>exact key hq
 |_=>exact hq.elim
theorem tr_ownB{P:Program}{N0:Nat}{c:Code}{Q:APost}{s:List Value}{H:AH}{Bd:Nat}{X:Type}(k:Nat)(ps:List Pth)(hk:ps.length=k)(base:X→AH)(I:X→Prop)(μ:X→Nat)(sl:Nat→X→List (Nat×Value))(ml:Nat→X→List (Nat×Blk))(x0:X)(h0:I x0)
  (hs:∀N,Bd≤N→CanT N ps s H (sl N x0) (base x0) (ml N x0))
  (round:∀N x,Bd≤N→I x→HB (base x) N→HB (mem (base x) (ml N x)) (N+k)→∀F:List Value→AH→Nat→Prop,(∀y s' H' B',μ y<μ x→I y→s'.length=s.length→(∀N',B'≤N'→CanT N' ps s' H' (sl N' y) (base y) (ml N' y))→F s' H' B')→Tr P (N+k) c (thenQ F Q) (aS s.length unk (sl N x)) (mem (base x) (ml N x)) (N+k)):Tr P N0 (.loop c) Q s H Bd:=by
 intro hN A ι a w hst
 have sub:∀ {G H:AH} {B N:Nat},HB H B→Le G H→B≤N→(∀n b,G n=some b→n<N∧∀v∈b.cells,NB N v)∧HB G N:=fun{G H B N} hH hle hBN=>by
  have h1:∀n b,G n=some b→n<N∧∀v∈b.cells,NB N v:=fun n b hn=>⟨Nat.lt_of_lt_of_le (hb_in hH (hle n b hn)) hBN,fun v hv=>(hH.nb n b (hle n b hn) v hv).up hBN⟩
  refine⟨h1,fun n hn=> ?_,fun n b hn=>(h1 n b hn).2⟩
  cases hg:G n with
  |none=>rfl
  |some b=>have:=(h1 n b hg).1;omega
 let Inv:X→Act→World→Prop:=fun x a' w'=>∃N ι',Bd≤N∧I x∧HB (base x) N∧St A ι' (aS s.length unk (sl N x)) (mem (base x) (ml N x)) (N+k) a' w'∧Keep A ι w ι' w'∧Agr N0 ι ι'∧NI H (mem (base x) (ml N x))
 have hagr:∀ {ι:Ren} {σ:List (Option Nat)} {H:AH} {S:Nat→Prop} {N:Nat},N0≤N→Agr N0 ι (rnR (frz ι H S) N σ):=fun hN n hn=>(rnR_lt (by omega)).trans rfl
 refine wp_loop (I:=fun a' w'=>∃x,Inv x a' w') (μ:=fun a' w'=>leastN fun n=>∃x,μ x=n∧Inv x a' w') ?_ ?_
 ·have hct:=hs Bd (Nat.le_refl _)
  have hG:=sub hst.rel.hb hct.1 (Nat.le_refl _)
  have hc:=hct.can (Bd:=Bd) hG.1 (n:=s.length) rfl
  have h1:=hc.st hst
  rw[srcs_len,hk]at h1
  exact⟨x0,Bd,_,Nat.le_refl _,h0,hG.2,h1,Keep.rn (Keep.refl A w (ext_frz ι H _).fz (hst.rel.frzA _)),hagr hN,hc.ni⟩
 ·rintro a1 w1 ⟨x1,hx1⟩
  obtain⟨⟨x,hμ,N,ι1,hBN,hI,hG1,hst1,hk1,hag1,hni1⟩,hmin⟩:=leastN_spec (p:=fun n=>∃x,μ x=n∧Inv x a1 w1) ⟨x1,rfl,hx1⟩
  refine wp_mono (round N x hBN hI hG1 hst1.rel.hb (fun s' H' B'=>∃y,μ y<μ x∧I y∧s'.length=s.length∧∀N',B'≤N'→CanT N' ps s' H' (sl N' y) (base y) (ml N' y)) (fun y s' H' B' q1 q2 q3 q4=>⟨y,q1,q2,q3,q4⟩) (Nat.le_refl _) A ι1 a1 w1 hst1) fun e a2 w2 ⟨ι2,s2,H2,Bd2,h1,h2,h3,h4,h5,h6⟩=> ?_
  have hag2:Agr N0 ι ι2:=fun n hn=>(h5 n (by omega)).trans (hag1 n hn)
  cases e with
  |normal=>
   obtain⟨y,hlt,hy,hl,hct⟩:=h1
   have hct:=hct Bd2 (Nat.le_refl _)
   have hG:=sub h3.rel.hb hct.1 (Nat.le_refl _)
   have hc:=hct.can (Bd:=Bd2) hG.1 hl
   have q1:=hc.st h3
   rw[srcs_len,hk]at q1
   have hinv:Inv y a2 w2:=⟨Bd2,_,by omega,hy,hG.2,q1,(hk1.trans h4).trans (Keep.rn (Keep.refl A w2 (ext_frz ι2 H2 _).fz (h3.rel.frzA _))),fun n hn=>(hagr (by omega:N0≤Bd2) n hn).trans (hag2 n hn),(hni1.trans h6).trans hc.ni⟩
   refine⟨⟨y,hinv⟩,?_⟩
   rw[←hμ]
   exact Nat.lt_of_le_of_lt ((leastN_spec (p:=fun n=>∃x,μ x=n∧Inv x a2 w2) ⟨y,rfl,hinv⟩).2 _ ⟨y,rfl,hinv⟩) hlt
  |_=>exact⟨ι2,s2,H2,Bd2,h1,by omega,h3,hk1.trans h4,hag2,hni1.trans h6⟩
end Go.SC
namespace Go.SC
open Go
def behind(l:List GRow)(k:List UInt8):List GRow:=l.filter fun r=>decide (0<Lib.compareBytes r.key k)
def keep(xs:List GRow)(q:GRow→Bool)(j:Nat):List GRow:=(xs.take j).filter fun r=> !q r
namespace OV
def Has(H:AH)(n:Nat)(cs:List OV):Prop:=∀(q:Nat) (c:List Value),(blL n cs)[q]? =some c→H (n+q)=some ⟨c,true⟩
theorem Has.app{H:AH}{n:Nat}{a c:List OV}:Has H n (a++c)↔Has H n a∧Has H (n+numL a) c:=by
 unfold Has
 rw[blL_app]
 refine⟨fun h=>⟨fun q x hq=> ?_,fun q x hq=> ?_⟩,fun h q x hq=> ?_⟩
 ·exact h q x (by rw[List.getElem?_append_left (List.getElem?_eq_some_iff.1 hq).1];exact hq)
 ·have:=h (numL a+q) x (by rw[List.getElem?_append_right (by rw[blL_len];omega),blL_len,Nat.add_sub_cancel_left];exact hq)
  rw[←Nat.add_assoc]at this;exact this
 ·by_cases hl:q<(blL n a).length
  ·rw[List.getElem?_append_left hl]at hq;exact h.1 q x hq
  ·rw[List.getElem?_append_right (by omega),blL_len]at hq
   rw[blL_len]at hl
   have:=h.2 _ x hq
   rw[show n+numL a+(q-numL a)=n+q by omega]at this;exact this
def canon(n k:Nat):List (Option Nat):=(List.range k).map fun q=>some (n+q)
theorem canon_succ(n k:Nat):canon n (k+1)=some n::canon (n+1) k:=by
 unfold canon
 rw[List.range_succ_eq_map,List.map_cons,List.map_map]
 congr 1
 refine List.map_congr_left fun q _=> ?_
 show some (n+(q+1))=some (n+1+q)
 congr 1;omega
theorem canon_add(n a b:Nat):canon n (a+b)=canon n a++canon (n+a) b:=by
 unfold canon
 rw[List.range_add,List.map_append,List.map_map]
 congr 1
 refine List.map_congr_left fun q _=> ?_
 show some (n+(a+q))=some (n+a+q)
 congr 1;omega
theorem canon_mem{n k m:Nat}:some m∈canon n k↔n≤m∧m<n+k:=by
 unfold canon
 rw[List.mem_map]
 refine⟨fun⟨q,h1,h2⟩=> ?_,fun h=>⟨m-n,List.mem_range.2 (by omega),by congr 1;omega⟩⟩
 have:=List.mem_range.1 h1
 cases h2;omega
theorem canon_get{n k q m:Nat}(h:(canon n k)[q]? =some (some m)):m=n+q:=by
 unfold canon at h
 rw[List.getElem?_map]at h
 cases hr:(List.range k)[q]? with
 |none=>rw[hr]at h;cases h
 |some x=>
  rw[hr]at h
  have:=List.getElem?_range (List.getElem?_eq_some_iff.1 hr).1 |>.symm.trans (by simpa using hr)
  cases h
  obtain⟨h1,h2⟩:=List.getElem?_eq_some_iff.1 hr
  simp at h2;omega
theorem canon_nd(n k:Nat):nd (canon n k):=fun i j m h1 h2=>by
 have:=canon_get h1;have:=canon_get h2;omega
mutual
theorem at_canon{H:AH}{lo:Nat}:∀(o:OV) (n:Nat),(∀(q:Nat) c,(bl n o)[q]? =some c→H (n+q)=some ⟨c,true⟩)→lo≤n→At H lo o (val n o) (canon n (num o))
 | .v x,n,_,_=>⟨rfl,rfl⟩
 | .sl k len cs,n,h,hlo=> .inl ⟨n,len+1,valL (n+1) cs,canon (n+1) (numL cs),rfl,canon_succ _ _,hlo,h 0 _ rfl,atL_canon cs (n+1) (fun q c hq=>by
  have:=h (q+1) c (by simpa[bl]using hq)
  rw[show n+(q+1)=n+1+q by omega]at this;exact this) (by omega)⟩
theorem atL_canon{H:AH}{lo:Nat}:∀(cs:List OV) (n:Nat),Has H n cs→lo≤n→AtL H lo cs (valL n cs) (canon n (numL cs))
 |[],n,_,_=>⟨rfl,rfl⟩
 |c::cs,n,h,hlo=>by
  have hc:Has H n ([c]++cs):=h
  obtain⟨h1,h2⟩:=Has.app.1 hc
  have e:numL [c]=num c:=by simp[numL]
  rw[e]at h2
  exact⟨val n c,valL (n+num c) cs,canon n (num c),canon (n+num c) (numL cs),rfl,canon_add _ _ _,at_canon c n (fun q x hq=>h1 q x (by simpa[blL]using hq)) hlo,atL_canon cs (n+num c) h2 (by omega)⟩
end
theorem Has.out{H H':AH}{n:Nat}{cs:List OV}(h:∀m,n≤m→m<n+numL cs→H' m=H m):Has H' n cs=Has H n cs:=by
 refine propext ⟨fun g q c hq=> ?_,fun g q c hq=> ?_⟩
 ·have:=(List.getElem?_eq_some_iff.1 hq).1
  rw[blL_len]at this
  rw[←h _ (by omega) (by omega)];exact g q c hq
 ·have:=(List.getElem?_eq_some_iff.1 hq).1
  rw[blL_len]at this
  rw[h _ (by omega) (by omega)];exact g q c hq
@[go_sem] theorem has_upd{H:AH}{n m:Nat}{b:Option Blk}{cs:List OV}(h:m<n∨n+numL cs≤m):Has (upd H m b) n cs=Has H n cs:=Has.out fun q h1 h2=>upd_other _ _ (by omega)
end OV
theorem put_out:∀(L:List (List Value)) (H:AH) (b n:Nat),n<b∨b+L.length≤n→putU H b L n=H n
 |[],_,_,_,_=>rfl
 |c::L,H,b,n,h=>by
  rw[List.length_cons]at h
  show putU (upd H b _) (b+1) L n=_
  rw[put_out L _ _ _ (by omega),upd_other _ _ (by omega)]
theorem put_in:∀(L:List (List Value)) (H:AH) (b q:Nat) (c:List Value),L[q]? =some c→putU H b L (b+q)=some ⟨c,true⟩
 |[],_,_,_,_,h=>by simp at h
 |c::L,H,b,0,x,h=>by
  show putU (upd H b _) (b+1) L b=_
  rw[put_out L _ _ _ (by omega),upd_same];cases h;rfl
 |c::L,H,b,q+1,x,h=>by
  have:=put_in L (upd H b (some ⟨c,true⟩)) (b+1) q x (by simpa using h)
  rw[show b+1+q=b+(q+1) by omega]at this;exact this
def oput(H:AH)(n:Nat)(cs:List OV):AH:=putU H n (OV.blL n cs)
theorem oput_out{H:AH}{b n:Nat}{cs:List OV}(h:n<b∨b+OV.numL cs≤n):oput H b cs n=H n:=put_out _ _ _ _ (by rw[OV.blL_len];exact h)
theorem oput_in(H:AH)(n:Nat)(cs:List OV):OV.Has (oput H n cs) n cs:=fun q c hq=>put_in _ _ _ _ _ hq
@[go_sem] theorem oput_new(H:AH)(n:Nat)(cs:List OV):OV.Has (oput H n cs) n cs=True:=eq_true (oput_in H n cs)
@[go_sem low] theorem has_oput {H:AH} {n m:Nat} {cs ds:List OV} (h:m+OV.numL ds≤n∨n+OV.numL cs≤m):OV.Has (oput H m ds) n cs=OV.Has H n cs:=OV.Has.out fun q h1 h2=>oput_out (by omega)
@[go_sem low] theorem oput_lt {H:AH} {b n:Nat} {cs:List OV} (h:n<b∨b+OV.numL cs≤n):oput H b cs n=H n:=oput_out h
theorem free_oput{H:AH}{b n:Nat}{cs:List OV}(h:n<b∨b+OV.numL cs≤n):free (oput H b cs) n=free H n:=by
 unfold free;rw[oput_out h]
theorem Le_oput{G H:AH}(n:Nat)(cs:List OV)(h:Le G H):Le (oput G n cs) (oput H n cs):=fun m b hm=>by
 by_cases e:m<n∨n+OV.numL cs≤m
 ·rw[oput_out e]at hm ⊢;exact h m b hm
 ·obtain⟨q,rfl⟩:∃q,m=n+q:=⟨m-n,by omega⟩
  have hq:q<(OV.blL n cs).length:=by rw[OV.blL_len];omega
  have h1:=oput_in G n cs q _ (List.getElem?_eq_getElem hq)
  have h2:=oput_in H n cs q _ (List.getElem?_eq_getElem hq)
  rw[h1]at hm;rw[h2];exact hm
theorem Le_oputN{G H:AH}{n:Nat}{cs:List OV}(h:Le G H)(hf:∀m,n≤m→m<n+OV.numL cs→G m=none):Le G (oput H n cs):=fun m b hm=>by
 by_cases e:m<n∨n+OV.numL cs≤m
 ·rw[oput_out e];exact h m b hm
 ·rw[hf m (by omega) (by omega)]at hm;cases hm
class OEnc (α:Type) [Enc α] where
 oc:α→List OV
 dat:∀x,OV.datL (oc x)=enc x
 ok:∀x,OV.okL (oc x)
def ocL{α:Type}[Enc α][OEnc α](xs:List α):List OV:=xs.flatMap OEnc.oc
theorem ocL_cons{α:Type}[Enc α][OEnc α](x:α)(xs:List α):ocL (x::xs)=OEnc.oc x++ocL xs:=rfl
theorem ocL_app{α:Type}[Enc α][OEnc α](xs ys:List α):ocL (xs++ys)=ocL xs++ocL ys:=List.flatMap_append
theorem ocL_dat{α:Type}[Enc α][OEnc α]:∀xs:List α,OV.datL (ocL xs)=flat xs
 |[]=>rfl
 |x::xs=>by rw[ocL_cons,OV.datL_app,OEnc.dat,ocL_dat xs];rfl
theorem ocL_ok{α:Type}[Enc α][OEnc α]:∀xs:List α,OV.okL (ocL xs)
 |[]=>trivial
 |x::xs=>by rw[ocL_cons,OV.okL_app];exact⟨OEnc.ok x,ocL_ok xs⟩
theorem ocL_len{α:Type}[Enc α][OEnc α](xs:List α):(ocL xs).length=xs.length*Enc.k α:=by
 rw[←OV.datL_len,ocL_dat,flat_len]
def ols{α:Type}[Enc α][OEnc α](xs:List α):OV:= .sl (Enc.k α) xs.length (ocL xs)
theorem ols_dat{α:Type}[Enc α][OEnc α](xs:List α):OV.dat (ols xs)=lst xs:=by
 show Value.func _ _ (rowsOf _ _ (OV.datL (ocL xs))).toArray=_
 rw[ocL_dat,rowsOf_flat];rfl
theorem ols_ok{α:Type}[Enc α][OEnc α](xs:List α):OV.ok (ols xs):=⟨ocL_len xs,ocL_ok xs⟩
instance :OEnc Int:=⟨fun n=>[.v (.int .i64 n)],fun _=>rfl,fun _=>⟨⟨fun _=> .int _ _, .int _ _⟩,trivial⟩⟩
instance :OEnc UInt8:=⟨fun n=>[.v (.int .u8 (n.toNat:Int))],fun _=>rfl,fun _=>⟨⟨fun _=> .int _ _, .int _ _⟩,trivial⟩⟩
instance :OEnc Bool:=⟨fun n=>[.v (.bool n)],fun _=>rfl,fun _=>⟨⟨fun _=> .bool _, .bool _⟩,trivial⟩⟩
instance :OEnc ByteArray:=⟨fun n=>[.v (.string n)],fun _=>rfl,fun _=>⟨⟨fun _=> .string _, .string _⟩,trivial⟩⟩
instance {α:Type} [Enc α] [OEnc α]:OEnc (List α):=⟨fun xs=>[ols xs],fun xs=>by show [OV.dat (ols xs)]=_;rw[ols_dat];rfl,fun xs=>⟨ols_ok xs,trivial⟩⟩
theorem Has_pub{H:AH}{n:Nat}{cs:List OV}(h:OV.Has H n cs)(hk:OV.okL cs):Pub H (ownS H) (.agg (OV.valL n cs).toArray) (.agg (OV.datL cs).toArray):=by
 refine .agg (by simp[OV.valL_len,OV.datL_len]) fun i v u h1 h2=> ?_
 exact OV.AtL.pub (OV.atL_canon cs n h (Nat.zero_le n)) hk i v u (by simpa using h1) (by simpa using h2)
theorem Has_pubX{α:Type}[Enc α][OEnc α]{H:AH}{n:Nat}{x:α}(h:OV.Has H n (OEnc.oc x)):Pub H (ownS H) (.agg (OV.valL n (OEnc.oc x)).toArray) (.agg (enc x).toArray):=by
 rw[←OEnc.dat];exact Has_pub h (OEnc.ok x)
theorem pubc_nil{H:AH}{S:Nat→Prop}:PubC H S [] []:=PubC.of _ _ rfl fun i v u h _=>by simp at h
theorem pubc_cons{H:AH}{S:Nat→Prop}{v u:Value}{vs us:List Value}(h:Pub H S v u)(hs:PubC H S vs us):PubC H S (v::vs) (u::us):=by
 obtain⟨h1,h2⟩:=PubC.get _ _ hs
 refine PubC.of _ _ (by simp[h1]) fun i a b e1 e2=> ?_
 cases i with
 |zero=>cases e1;cases e2;exact h
 |succ i=>exact h2 i a b (by simpa using e1) (by simpa using e2)
def LendN(W:Trans):Trans:=fun args H Bd K=>∃args',PubC H (ownS H) args args'∧W args' H Bd K
theorem LendN_ok{P:Program}{f:FuncId}{W:Trans}(h:∀args H Bd K,W args H Bd K→SCalls P f args H Bd K)(hp:PureV W):∀args H Bd K,LendN W args H Bd K→SCalls P f args H Bd K:=fun args H Bd K ⟨args',hc,hk⟩=>by
 obtain⟨r,h1,h2,h3⟩:=hp _ _ _ _ hk
 refine SCalls.of_hb (h _ _ _ _ hk).1 fun hb=> ?_
 refine lend hc (h _ _ _ _ (h3 _ _ (sees_mns H) ⟨h1,fun n _=>rfl,fun n b hn hx v hv=> ?_,?_⟩))
 ·rw[mns_none hb hn]at hx;cases hx
 ·rw[mrg_mns hb];exact h2
theorem LendNO_ok{P:Program}{f:FuncId}{W:Trans}(h:∀args H Bd K,W args H Bd K→SCalls P f args H Bd K)(hp:PureO W):∀args H Bd K,LendN W args H Bd K→SCalls P f args H Bd K:=fun args H Bd K ⟨args',hc,hk⟩=>by
 obtain⟨r,L,h1,h4,h2,h3⟩:=hp _ _ _ _ hk
 refine SCalls.of_hb (h _ _ _ _ hk).1 fun hb=> ?_
 have hf:∀n,Bd≤n→mns H n=none:=fun n hn=>mns_none hb hn
 have hat:=putU_at L (mns H) Bd hf
 have hat2:=putU_at L H Bd hb.fresh
 refine lend hc (h _ _ _ _ (h3 _ _ (sees_mns H) ⟨h1,fun n hn=>by rw[hat n,if_pos hn],fun n b hn hx v hv=> ?_,?_⟩))
 ·rw[hat n,if_neg (by omega)]at hx
  cases hc:L[n-Bd]? with
  |none=>rw[hc]at hx;cases hx
  |some c=>rw[hc]at hx;cases hx;exact h4 c (List.mem_of_getElem? hc) v hv
 ·have:mrg H (putU (mns H) Bd L) Bd=putU H Bd L:=by
   funext n
   unfold mrg
   rw[hat2 n]
   split
   ·rfl
   ·rename_i hn
    rw[hat n,if_neg hn]
  rw[this];exact h2
namespace OV
mutual
theorem At.nb{H:AH}{lo N:Nat}(hH:HB H N):∀ {o:OV} {u:Value} {σ:List (Option Nat)},At H lo o u σ→ok o→NB N u
 | .v x,u,σ,h,hk=>by obtain⟨rfl,_⟩:=h;exact hk.1 N
 | .sl k len cs,u,σ,h,hk=>by
  rcases h with⟨m,c,us,τ,rfl,rfl,h1,h2,h⟩|⟨rfl,rfl,rfl,rfl⟩
  ·exact .sl (hb_in hH h2)
  ·exact .nils
theorem AtL.nb{H:AH}{lo N:Nat}(hH:HB H N):∀ {cs:List OV} {us:List Value} {σ:List (Option Nat)},AtL H lo cs us σ→okL cs→∀v∈us,NB N v
 |[],us,σ,h,_,w,hv=>by obtain⟨rfl,_⟩:=h;cases hv
 |c::cs,us,σ,h,hk,w,hv=>by
  obtain⟨u,vs,σ1,σ2,rfl,rfl,h1,h2⟩:=h
  rcases List.mem_cons.1 hv with rfl|hv
  ·exact At.nb hH h1 hk.1
  ·exact AtL.nb hH h2 hk.2 w hv
end
theorem nd_app{σ τ:List (Option Nat)}(h1:nd σ)(h2:nd τ)(h:∀m,some m∈σ→some m∉τ):nd (σ++τ):=fun i j m e1 e2=>by
 by_cases hi:i<σ.length
 ·rw[List.getElem?_append_left hi]at e1
  by_cases hj:j<σ.length
  ·rw[List.getElem?_append_left hj]at e2;exact h1 i j m e1 e2
  ·rw[List.getElem?_append_right (by omega)]at e2
   exact absurd (List.mem_of_getElem? e2) (h m (List.mem_of_getElem? e1))
 ·rw[List.getElem?_append_right (by omega)]at e1
  by_cases hj:j<σ.length
  ·rw[List.getElem?_append_left hj]at e2
   exact absurd (List.mem_of_getElem? e1) (h m (List.mem_of_getElem? e2))
  ·rw[List.getElem?_append_right (by omega)]at e2
   have:=h2 _ _ m e1 e2;omega
theorem nd_nil:nd []:=fun i j m h _=>by simp at h
theorem nd_cons{n:Nat}{σ:List (Option Nat)}(h:nd σ)(hn:some n∉σ):nd (some n::σ):=by
 have:=nd_app (σ:=[some n]) (τ:=σ) (fun i j m e1 e2=>by
  cases i <;>cases j <;>simp_all) h (fun m hm=>by simp at hm;subst hm;exact hn)
 exact this
def Parts(H:AH):Nat→List (Nat×List OV)→Prop
 |_,[]=>True
 |lo,(n,cs)::r=>lo≤n∧Has H n cs∧Parts H (n+numL cs) r
theorem Parts.at{H:AH}:∀ {l:List (Nat×List OV)} {lo:Nat},Parts H lo l→∃σ,AtL H lo (l.flatMap fun p=>p.2) (l.flatMap fun p=>valL p.1 p.2) σ∧nd σ∧∀m,some m∈σ→lo≤m
 |[],_,_=>⟨[],⟨rfl,rfl⟩,nd_nil,fun m h=>by cases h⟩
 |(n,cs)::r,lo,⟨h1,h2,h3⟩=>by
  obtain⟨σ,g1,g2,g3⟩:=Parts.at h3
  refine⟨canon n (numL cs)++σ,?_,nd_app (canon_nd _ _) g2 fun m hm hq=> ?_,fun m hm=> ?_⟩
  ·exact AtL.app (atL_canon cs n h2 h1) (AtL.mono (by omega) g1 fun _ _=>rfl)
  ·have:=canon_mem.1 hm;have:=g3 m hq;omega
  ·rcases List.mem_append.1 hm with hm|hm
   ·have:=canon_mem.1 hm;omega
   ·have:=g3 m hm;omega
end OV
theorem Le_new{G H:AH}{n:Nat}{b:Option Blk}(h:Le G H)(hn:G n=none):Le G (upd H n b):=fun m c hm=>by
 by_cases e:m=n
 ·subst e;rw[hn]at hm;cases hm
 ·rw[upd_other _ _ e];exact h m c hm
theorem own_one{α:Type}[Enc α][OEnc α]{H G:AH}{Bd N c k:Nat}{xs:List α}{us:List Value}{σ:List (Option Nat)}(hA:OV.AtL G Bd (ocL xs) us σ)(hn:OV.nd σ)(hG:HB G N)(hle:Le H G)(hN:Bd≤N)(hk:Enc.k α=k:=by rfl):
  OwnNQ.OwnN H Bd (.one (ols xs)) (.slice (some ⟨N,0,some k⟩) xs.length c) (upd G N (some ⟨us,true⟩)):=by
 subst hk
 have h0:=hG.fresh N (Nat.le_refl N)
 refine⟨Le_new hle (by cases e:H N with|none=>rfl|some b=>have:=hle N b e;rw[h0]at this;cases this),some N::σ, .inl ⟨N,c,us,σ,rfl,rfl,hN,upd_same _ _ _,OV.AtL.le (Le_new (Le.refl _) h0) hA⟩,OV.nd_cons hn fun hm=> ?_⟩
 obtain⟨_,us',h1⟩:=OV.AtL.lo hA N hm
 rw[h0]at h1;cases h1
theorem own_agg{H H':AH}{Bd:Nat}{cs:List OV}{us:List Value}(l:List (Nat×List OV))(hp:OV.Parts H' Bd l)(hle:Le H H')(hc:(l.flatMap fun p=>p.2)=cs:=by rfl)(hu:(l.flatMap fun p=>OV.valL p.1 p.2)=us:=by rfl):OwnNQ.OwnN H Bd (.agg cs) (.agg us.toArray) H':=by
 subst hc;subst hu
 obtain⟨σ,h1,h2,_⟩:=hp.at
 exact⟨hle,σ,⟨_,rfl,h1⟩,h2⟩
theorem zmake_succ(z:List Value)(m:Nat):zmake (m+1) z=z++zmake m z:=by
 unfold zmake
 apply List.ext_getElem
 ·simp[Nat.succ_mul];omega
 ·intro i h1 h2
  have hi:i<(m+1)*z.length:=by simpa using h1
  rw[List.getElem_map,List.getElem_range]
  by_cases h:i<z.length
  ·rw[List.getElem_append_left h,Nat.mod_eq_of_lt h,List.getD_eq_getElem?_getD,List.getElem?_eq_getElem h];rfl
  ·rw[List.getElem_append_right (by omega),List.getElem_map,List.getElem_range]
   congr 1
   rw[Nat.mod_eq_sub_mod (by omega)]
theorem lset_mid(a b c z:List Value)(h:z.length=b.length):lset (a++(b++c)) a.length z=a++(z++c):=by
 refine List.ext_getElem? fun j=> ?_
 rw[lset_get _ _ _ _ (by simp;omega)]
 split
 ·rw[List.getElem?_append_left (by omega),List.getElem?_append_left (by omega)]
 ·split
  ·rw[List.getElem?_append_right (by omega),List.getElem?_append_left (by omega)]
  ·rw[List.getElem?_append_right (by omega),List.getElem?_append_right (by omega),List.getElem?_append_right (by omega),List.getElem?_append_right (by omega),h]
theorem fill_lset{us z cs:List Value}{n i k:Nat}(h1:us.length=i*k)(h2:cs.length=k)(h3:z.length=k)(hi:i<n):lset (us++zmake (n-i) z) (i*k) cs=(us++cs)++zmake (n-(i+1)) z:=by
 rw[show n-i=(n-(i+1))+1 by omega,zmake_succ,←h1,lset_mid _ _ _ _ (by omega),List.append_assoc]
theorem fill_next{α:Type}[Enc α][OEnc α]{G:AH}{Bd N m:Nat}{xs:List α}{i:Nat}{us:List Value}{σ:List (Option Nat)}(hi:i<xs.length)(hA:OV.AtL G Bd (ocL (xs.take i)) us σ)(hn:OV.nd σ)(hG:HB G N)(hm:N≤m)(hB:Bd≤N):
  OV.AtL (oput G m (OEnc.oc xs[i])) Bd (ocL (xs.take (i+1))) (us++OV.valL m (OEnc.oc xs[i])) (σ++OV.canon m (OV.numL (OEnc.oc xs[i])))∧OV.nd (σ++OV.canon m (OV.numL (OEnc.oc xs[i]))):=by
 have hf:∀q,m≤q→q<m+OV.numL (OEnc.oc xs[i])→G q=none:=fun q hq _=>hG.fresh q (by omega)
 rw[List.take_succ_eq_append_getElem hi,ocL_app,show ocL [xs[i]]=OEnc.oc xs[i]++[]from rfl,List.append_nil]
 refine⟨OV.AtL.app (OV.AtL.le (Le_oputN (Le.refl _) hf) hA) (OV.atL_canon _ m (oput_in _ _ _) (by omega)),OV.nd_app hn (OV.canon_nd _ _) fun q hq hq2=> ?_⟩
 obtain⟨_,us',h1⟩:=OV.AtL.lo hA q hq
 have:=OV.canon_mem.1 hq2
 rw[hG.fresh q (by omega)]at h1;cases h1
theorem fill_len{α:Type}[Enc α][OEnc α]{G:AH}{Bd:Nat}{xs:List α}{i:Nat}{us:List Value}{σ:List (Option Nat)}(hi:i≤xs.length)(hA:OV.AtL G Bd (ocL (xs.take i)) us σ):us.length=i*Enc.k α:=by
 rw[OV.AtL.size hA,ocL_len,List.length_take,Nat.min_eq_left hi]
class OFl (α:Type) [Enc α] [OEnc α]:Prop where
 h:∀x:α,OEnc.oc x=(enc x).map OV.v
theorem numL_v:∀l:List Value,OV.numL (l.map OV.v)=0
 |[]=>rfl
 |x::l=>by simp[OV.numL,OV.num,numL_v l]
theorem valL_v:∀(l:List Value) (n:Nat),OV.valL n (l.map OV.v)=l
 |[],_=>rfl
 |x::l,n=>by simp[OV.valL,OV.val,OV.num,valL_v l]
theorem blL_v:∀(l:List Value) (n:Nat),OV.blL n (l.map OV.v)=[]
 |[],_=>rfl
 |x::l,n=>by simp[OV.blL,OV.bl,blL_v l]
theorem ocL_fl{α:Type}[Enc α][OEnc α][h:OFl α]:∀xs:List α,ocL xs=(flat xs).map OV.v
 |[]=>rfl
 |x::xs=>by rw[ocL_cons,ocL_fl xs,h.h];simp[flat_cons]
instance :OFl UInt8:=⟨fun _=>rfl⟩
section
variable {α:Type} [Enc α] [OEnc α]
@[go_sem] theorem numL_fl[OFl α](xs:List α):OV.numL (OEnc.oc xs)=1:=by
 show OV.num (ols xs)+0=1
 unfold ols OV.num
 rw[ocL_fl,numL_v]
@[go_sem] theorem oput_fl[OFl α](H:AH)(n:Nat)(xs:List α):oput H n (OEnc.oc xs)=upd H n (some ⟨flat xs,true⟩):=by
 have e:OV.blL n (OEnc.oc xs)=[flat xs]:=by
  show OV.bl n (ols xs)++[]=_
  rw[List.append_nil]
  unfold ols OV.bl
  rw[ocL_fl,valL_v,blL_v]
 unfold oput;rw[e];rfl
@[go_sem] theorem has_fl[OFl α](H:AH)(n:Nat)(xs:List α):OV.Has H n (OEnc.oc xs)=(H n=some ⟨flat xs,true⟩):=by
 have e:OV.blL n (OEnc.oc xs)=[flat xs]:=by
  show OV.bl n (ols xs)++[]=_
  rw[List.append_nil]
  unfold ols OV.bl
  rw[ocL_fl,valL_v,blL_v]
 unfold OV.Has;rw[e]
 exact propext ⟨fun h=>h 0 _ rfl,fun h q c hq=>by
  cases q with
  |zero=>cases hq;exact h
  |succ q=>simp at hq⟩
@[go_sem] theorem valL_list{k:Nat}[hk:EncK α k](n:Nat)(xs:List α):OV.valL n (OEnc.oc xs)=[.slice (some ⟨n,0,some k⟩) xs.length (xs.length+1)]:=by
 show [OV.val n (ols xs)]=_
 unfold ols OV.val;rw[hk.h]
end
@[go_sem] theorem numL_int(n:Int):OV.numL (OEnc.oc n)=0:=(rfl)
@[go_sem] theorem numL_bool(n:Bool):OV.numL (OEnc.oc n)=0:=(rfl)
@[go_sem] theorem oput_int(H:AH)(b:Nat)(n:Int):oput H b (OEnc.oc n)=H:=(rfl)
theorem has_none(H:AH)(b:Nat)(l:List Value):OV.Has H b (l.map OV.v)=True:=eq_true fun q c hq=>by rw[blL_v]at hq;simp at hq
@[go_sem] theorem has_int(H:AH)(b:Nat)(n:Int):OV.Has H b (OEnc.oc n)=True:=has_none H b [.int .i64 n]
@[go_sem] theorem has_bool(H:AH)(b:Nat)(n:Bool):OV.Has H b (OEnc.oc n)=True:=has_none H b [.bool n]
@[go_sem] theorem valL_int(b:Nat)(n:Int):OV.valL b (OEnc.oc n)=[.int .i64 n]:=(rfl)
@[go_sem] theorem valL_bool(b:Nat)(n:Bool):OV.valL b (OEnc.oc n)=[.bool n]:=(rfl)
theorem putU_app:∀(L M:List (List Value)) (H:AH) (n:Nat),putU H n (L++M)=putU (putU H n L) (n+L.length) M
 |[],M,H,n=>rfl
 |c::L,M,H,n=>by
  show putU (upd H n _) (n+1) (L++M)=putU (putU (upd H n _) (n+1) L) (n+(L.length+1)) M
  rw[putU_app L M,show n+1+L.length=n+(L.length+1) by omega]
@[go_sem] theorem oput_app(H:AH)(n:Nat)(a b:List OV):oput H n (a++b)=oput (oput H n a) (n+OV.numL a) b:=by
 unfold oput;rw[OV.blL_app,putU_app,OV.blL_len]
@[go_sem] theorem has_app(H:AH)(n:Nat)(a b:List OV):OV.Has H n (a++b)=(OV.Has H n a∧OV.Has H (n+OV.numL a) b):=propext OV.Has.app
@[go_sem] theorem numL_app'(a b:List OV):OV.numL (a++b)=OV.numL a+OV.numL b:=OV.numL_app a b
@[go_sem] theorem valL_app'(n:Nat)(a b:List OV):OV.valL n (a++b)=OV.valL n a++OV.valL (n+OV.numL a) b:=OV.valL_app a b n
theorem Le_oputB{G H:AH}{B n:Nat}{cs:List OV}(hb:HB G B)(h:B≤n):Le G (oput H n cs)=Le G H:=by
 refine propext ⟨fun g m b hm=> ?_,fun g=>Le_oputN g fun m h1 _=>hb.fresh m (by omega)⟩
 have hlt:=hb_in hb hm
 have:=g m b hm
 rw[oput_out (.inl (by omega))]at this;exact this
theorem rql_nb{B0:Nat}{xs:List Value}(h:∀v∈xs,NB B0 v):∀(σ:List (Option Nat)) (N:Nat) (S:Nat→Prop) (H:AH),B0≤N→rql σ N S H xs xs=True:=fun σ N S H hle=>eq_true ⟨rfl,fun i v u e1 e2=>by rw[e1]at e2;cases e2;exact .same ((h v (List.mem_of_getElem? e1)).up hle)⟩
theorem nb_zmake{N k:Nat}{z:List Value}(h:∀v∈z,NB N v):∀v∈zmake k z,NB N v:=fun v hv=>h v (zmake_mem hv)
theorem nb_app{N:Nat}{a b:List Value}(h:∀v∈a,NB N v)(k:∀v∈b,NB N v):∀v∈a++b,NB N v:=fun v hv=>(List.mem_append.1 hv).elim (h v) (k v)
theorem nb_up{N M:Nat}{a:List Value}(h:∀v∈a,NB N v)(hle:N≤M):∀v∈a,NB M v:=fun v hv=>(h v hv).up hle
theorem nbs_all{N:Nat}:∀ {l:List Value},NBs N l→∀v∈l,NB N v
 |[],_,v,h=>by cases h
 |x::l,hl,v,h=>by
  rcases List.mem_cons.1 h with rfl|h
  ·exact hl.1
  ·exact nbs_all hl.2 v h
theorem valL_nb:∀ {cs:List OV} (n:Nat),OV.okL cs→∀v∈OV.valL n cs,NB (n+OV.numL cs) v
 |[],n,_,v,h=>by cases h
 |c::cs,n,hk,v,h=>by
  rcases List.mem_cons.1 h with rfl|h
  ·cases c with
   |v x=>exact hk.1.1 _
   |sl k len ds=>exact .sl (by show n<n+(OV.numL ds+1+OV.numL cs);omega)
  ·have:=valL_nb (n+OV.num c) hk.2 v h
   rw[Nat.add_assoc]at this;exact this
theorem fill_all{us z:List Value}{n i k:Nat}(h1:us.length=i*k)(h3:z.length=k)(hi:i<n):(us++zmake (n-i) z).length=n*k:=by
 have:(zmake (n-i) z).length=(n-i)*k:=by simp[zmake,h3]
 rw[List.length_append,h1,this,←Nat.add_mul]
 congr 1;omega
end Go.SC
namespace Go.SC
open Go
instance :OEnc GSymbol:=⟨fun x=>OEnc.oc x.name++OEnc.oc x.arity,fun x=>by simp only[OV.datL_app,OEnc.dat];rfl,fun x=>(OV.okL_app _ _).2 ⟨OEnc.ok x.name,OEnc.ok x.arity⟩⟩
instance :OFl GSymbol:=⟨fun _=>rfl⟩
instance :OEnc GSignature:=⟨fun x=>OEnc.oc x.symbols,fun x=>by simp only[OV.datL_app,OEnc.dat];rfl,fun x=>OEnc.ok x.symbols⟩
@[go_sem] theorem oc_GSignature(x:GSignature):OEnc.oc x=OEnc.oc x.symbols:=(rfl)
instance :OEnc GPut:=⟨fun x=>OEnc.oc x.sector++OEnc.oc x.bytes,fun x=>by simp only[OV.datL_app,OEnc.dat];rfl,fun x=>(OV.okL_app _ _).2 ⟨OEnc.ok x.sector,OEnc.ok x.bytes⟩⟩
@[go_sem] theorem oc_GPut(x:GPut):OEnc.oc x=OEnc.oc x.sector++OEnc.oc x.bytes:=(rfl)
instance :OEnc GDisk:=⟨fun x=>OEnc.oc x.sectors++OEnc.oc x.pending,fun x=>by simp only[OV.datL_app,OEnc.dat];rfl,fun x=>(OV.okL_app _ _).2 ⟨OEnc.ok x.sectors,OEnc.ok x.pending⟩⟩
@[go_sem] theorem oc_GDisk(x:GDisk):OEnc.oc x=OEnc.oc x.sectors++OEnc.oc x.pending:=(rfl)
instance :OEnc GSuper:=⟨fun x=>OEnc.oc x.gen++OEnc.oc x.root++OEnc.oc x.shadow++OEnc.oc x.theory++OEnc.oc x.next_++OEnc.oc x.version++OEnc.oc x.moving++OEnc.oc x.cursor++OEnc.oc x.symbols,fun x=>by simp only[OV.datL_app,OEnc.dat];rfl,fun x=>(OV.okL_app _ _).2 ⟨(OV.okL_app _ _).2 ⟨(OV.okL_app _ _).2 ⟨(OV.okL_app _ _).2 ⟨(OV.okL_app _ _).2 ⟨(OV.okL_app _ _).2 ⟨(OV.okL_app _ _).2 ⟨(OV.okL_app _ _).2 ⟨OEnc.ok x.gen,OEnc.ok x.root⟩,OEnc.ok x.shadow⟩,OEnc.ok x.theory⟩,OEnc.ok x.next_⟩,OEnc.ok x.version⟩,OEnc.ok x.moving⟩,OEnc.ok x.cursor⟩,OEnc.ok x.symbols⟩⟩
@[go_sem] theorem oc_GSuper(x:GSuper):OEnc.oc x=OEnc.oc x.gen++OEnc.oc x.root++OEnc.oc x.shadow++OEnc.oc x.theory++OEnc.oc x.next_++OEnc.oc x.version++OEnc.oc x.moving++OEnc.oc x.cursor++OEnc.oc x.symbols:=(rfl)
class OW (α:Type) [Enc α] [OEnc α] (w:outParam Nat):Prop where
 h:∀x:α,OV.numL (OEnc.oc x)=w
instance {β:Type} [Enc β] [OEnc β] [OFl β]:OW (List β) 1:=⟨fun xs=>numL_fl xs⟩
section
variable {α:Type} {w:Nat} [Enc α] [OEnc α] [ho:OW α w]
theorem ocL_num(xs:List α):OV.numL (ocL xs)=xs.length*w:=by
 induction xs with
 |nil=>simp[ocL,OV.numL]
 |cons x xs ih=>rw[ocL_cons,OV.numL_app,ih,ho.h,List.length_cons,Nat.succ_mul,Nat.add_comm]
theorem oc_num(xs:List α):OV.numL (OEnc.oc xs)=xs.length*w+1:=by
 show OV.num (ols xs)+0=_
 unfold ols OV.num
 rw[ocL_num]
theorem ocL_split{xs:List α}{i:Nat}(hi:i<xs.length):ocL xs=ocL (xs.take i)++(OEnc.oc xs[i]++ocL (xs.drop (i+1))):=by
 conv=>lhs;rw[←List.take_append_drop i xs,List.drop_eq_getElem_cons hi,ocL_app,ocL_cons]
theorem valL_split(n:Nat){xs:List α}{i:Nat}(hi:i<xs.length):OV.valL n (ocL xs)=OV.valL n (ocL (xs.take i))++(OV.valL (n+i*w) (OEnc.oc xs[i])++OV.valL (n+i*w+w) (ocL (xs.drop (i+1)))):=by
 rw[ocL_split hi,OV.valL_app,OV.valL_app,ocL_num,List.length_take,Nat.min_eq_left (by omega),ho.h]
theorem valL_take(n:Nat){xs:List α}{i:Nat}(hi:i<xs.length):(OV.valL n (ocL (xs.take i))).length=i*Enc.k α:=by
 rw[OV.valL_len,ocL_len,List.length_take,Nat.min_eq_left (by omega)]
theorem oc_len(x:α):(OEnc.oc x).length=Enc.k α:=by rw[←OV.datL_len,OEnc.dat,enc_len]
theorem valL_all(n:Nat)(xs:List α):(OV.valL n (ocL xs)).length=xs.length*Enc.k α:=by rw[OV.valL_len,ocL_len]
theorem valL_cell(n:Nat){xs:List α}{i j:Nat}(hi:i<xs.length)(hj:j<Enc.k α):(OV.valL n (ocL xs))[i*Enc.k α+j]? =(OV.valL (n+i*w) (OEnc.oc xs[i]))[j]? :=by
 have hl:=valL_take n hi
 rw[valL_split n hi,List.getElem?_append_right (by omega),hl,Nat.add_sub_cancel_left,List.getElem?_append_left (by rw[OV.valL_len,oc_len];exact hj)]
theorem valL_set(n:Nat){xs:List α}{i:Nat}(hi:i<xs.length)(y:α):lset (OV.valL n (ocL xs)) (i*Enc.k α) (OV.valL (n+i*w) (OEnc.oc y))=OV.valL n (ocL (xs.set i y)):=by
 have hi2:i<(xs.set i y).length:=by simpa using hi
 rw[valL_split n hi2,valL_split n hi,←valL_take n hi,lset_mid _ _ _ _ (by rw[OV.valL_len,OV.valL_len,oc_len,oc_len])]
 congr 1
 ·congr 2;rw[List.take_set_of_le (Nat.le_refl i)]
 ·congr 1
  ·simp
  ·congr 2;rw[List.drop_set_of_lt (Nat.lt_succ_self i)]
theorem blL_cons_sl(n k len:Nat)(cs:List OV):OV.blL n [.sl k len cs]=OV.valL (n+1) cs::OV.blL (n+1) cs:=by
 show OV.bl n (.sl k len cs)++[]=_
 rw[List.append_nil];rfl
theorem has_ocL{H:AH}:∀ {xs:List α} {n:Nat},OV.Has H n (ocL xs)↔∀(i:Nat) (hi:i<xs.length),OV.Has H (n+i*w) (OEnc.oc xs[i])
 |[],n=>by
  refine⟨fun _ i hi=>absurd hi (Nat.not_lt_zero _),fun _ q c hq=>by simp[ocL,OV.blL]at hq⟩
 |x::xs,n=>by
  rw[ocL_cons,OV.Has.app,ho.h,has_ocL]
  refine⟨fun⟨h1,h2⟩ i hi=> ?_,fun h=>⟨by have:=h 0 (Nat.zero_lt_succ _);rw[Nat.zero_mul,Nat.add_zero]at this;exact this,fun i hi=> ?_⟩⟩
  ·cases i with
   |zero=>simpa using h1
   |succ i=>
    have:=h2 i (by simpa using hi)
    rw[show n+(i+1)*w=n+w+i*w by rw[Nat.succ_mul];omega];exact this
  ·have:=h (i+1) (by simpa using hi)
   rw[show n+(i+1)*w=n+w+i*w by rw[Nat.succ_mul];omega]at this;exact this
theorem has_elems{H:AH}{xs:List α}{n:Nat}:OV.Has H n (OEnc.oc xs)↔H n=some ⟨OV.valL (n+1) (ocL xs),true⟩∧∀(i:Nat) (hi:i<xs.length),OV.Has H (n+1+i*w) (OEnc.oc xs[i]):=by
 have e:OV.blL n (OEnc.oc xs)=OV.valL (n+1) (ocL xs)::OV.blL (n+1) (ocL xs):=blL_cons_sl n (Enc.k α) xs.length (ocL xs)
 rw[←has_ocL]
 unfold OV.Has
 rw[e]
 refine⟨fun h=>⟨h 0 _ rfl,fun q c hq=> ?_⟩,fun⟨h1,h2⟩ q c hq=> ?_⟩
 ·have:=h (q+1) c (by simpa using hq)
  rw[show n+(q+1)=n+1+q by omega]at this;exact this
 ·cases q with
  |zero=>cases hq;exact h1
  |succ q=>
   have:=h2 q c (by simpa using hq)
   rw[show n+(q+1)=n+1+q by omega];exact this
theorem has_set{H H':AH}{xs:List α}{n i:Nat}(hi:i<xs.length){y:α}(h:OV.Has H n (OEnc.oc xs))(h1:H' n=some ⟨OV.valL (n+1) (ocL (xs.set i y)),true⟩)(h2:OV.Has H' (n+1+i*w) (OEnc.oc y))
  (h3:∀m,m≠n→m<n+1+i*w∨n+1+i*w+w≤m→H' m=H m):OV.Has H' n (OEnc.oc (xs.set i y)):=by
 obtain⟨_,g2⟩:=has_elems.1 h
 refine has_elems.2 ⟨h1,fun j hj=> ?_⟩
 by_cases e:i=j
 ·subst e;simpa using h2
 ·have hj':j<xs.length:=by simpa using hj
  rw[List.getElem_set_ne e]
  have:=g2 j hj'
  refine(OV.Has.out (H:=H) fun m m1 m2=>h3 m (by omega) ?_).mpr this
  rw[ho.h]at m2
  rcases Nat.lt_or_gt_of_ne e with hlt|hgt
  ·right
   have:(i+1)*w≤j*w:=Nat.mul_le_mul_right _ hlt
   rw[Nat.succ_mul]at this;omega
  ·left
   have:(j+1)*w≤i*w:=Nat.mul_le_mul_right _ hgt
   rw[Nat.succ_mul]at this;omega
end
theorem oput_eq{H H':AH}{n:Nat}{cs:List OV}(h:OV.Has H' n cs)(h2:∀m,m<n∨n+OV.numL cs≤m→H' m=H m):H'=oput H n cs:=by
 funext m
 by_cases e:m<n∨n+OV.numL cs≤m
 ·rw[h2 m e,oput_out e]
 ·obtain⟨q,rfl⟩:∃q,m=n+q:=⟨m-n,by omega⟩
  have hq:q<(OV.blL n cs).length:=by rw[OV.blL_len];omega
  rw[h q _ (List.getElem?_eq_getElem hq),oput_in H n cs q _ (List.getElem?_eq_getElem hq)]
class MkD (α:Type) where
 put:Int→α→α
 cnt:α→Nat
instance {β:Type} {w:Nat} [Mk β w]:MkD (List β):=⟨fun q xs=>mkL β q xs.length,fun xs=>xs.length*w⟩
section
variable {α:Type} [MkD α]
def cntD(xs:List α):Nat:=(xs.map MkD.cnt).sum
def mkDL:Int→List α→List α
 |_,[]=>[]
 |q,x::xs=>MkD.put q x::mkDL (q+(MkD.cnt x:Nat)) xs
theorem mkDL_len:∀(q:Int) (xs:List α),(mkDL q xs).length=xs.length
 |_,[]=>rfl
 |q,x::xs=>by simp[mkDL,mkDL_len _ xs]
theorem mkDL_get:∀(q:Int) (xs:List α) (i:Nat) (hi:i<xs.length),(mkDL q xs)[i]? =some (MkD.put (q+(cntD (xs.take i):Nat)) xs[i])
 |q,[],i,hi=>absurd hi (Nat.not_lt_zero _)
 |q,x::xs,0,hi=>by simp[mkDL,cntD]
 |q,x::xs,i+1,hi=>by
  have:=mkDL_get (q+(MkD.cnt x:Nat)) xs i (by simpa using hi)
  simp only[mkDL,List.getElem?_cons_succ,this,List.take_succ_cons,List.getElem_cons_succ]
  congr 2
  unfold cntD
  simp only[List.map_cons,List.sum_cons]
  omega
def mkTo(q:Int)(i:Nat)(xs:List α):List α:=(mkDL q xs).take i++xs.drop i
theorem mkTo_zero(q:Int)(xs:List α):mkTo q 0 xs=xs:=by simp[mkTo]
theorem mkTo_end(q:Int)(xs:List α):mkTo q xs.length xs=mkDL q xs:=by
 unfold mkTo
 rw[←mkDL_len q xs,List.take_length]
 simp[mkDL_len]
theorem mkTo_len(q:Int)(i:Nat)(xs:List α):(mkTo q i xs).length=xs.length:=by
 unfold mkTo
 simp[mkDL_len];omega
theorem mkTo_get(q:Int){i:Nat}{xs:List α}(hi:i<xs.length):(mkTo q i xs)[i]? =some xs[i]:=by
 unfold mkTo
 have hl:((mkDL q xs).take i).length=i:=by rw[List.length_take,mkDL_len];omega
 rw[List.getElem?_append_right (by omega),hl,Nat.sub_self,List.getElem?_drop,Nat.add_zero,List.getElem?_eq_getElem hi]
theorem mkTo_succ(q:Int){i:Nat}{xs:List α}(hi:i<xs.length):mkTo q (i+1) xs=(mkTo q i xs).set i (MkD.put (q+(cntD (xs.take i):Nat)) xs[i]):=by
 unfold mkTo
 have hm:=mkDL_get q xs i hi
 have hl:((mkDL q xs).take i).length=i:=by rw[List.length_take,mkDL_len];omega
 have hi2:i<(mkDL q xs).length:=by rw[mkDL_len];exact hi
 rw[List.getElem?_eq_getElem hi2]at hm
 rw[List.take_succ_eq_append_getElem hi2,Option.some.inj hm,List.set_append_right _ _ (by omega),hl,Nat.sub_self,List.drop_eq_getElem_cons hi,List.set_cons_zero,List.append_assoc]
 rfl
theorem cntD_succ{i:Nat}{xs:List α}(hi:i<xs.length):cntD (xs.take (i+1))=cntD (xs.take i)+MkD.cnt xs[i]:=by
 unfold cntD
 rw[List.take_succ_eq_append_getElem hi,List.map_append,List.sum_append];simp
theorem cntD_take(i:Nat)(xs:List α):cntD (xs.take i)≤cntD xs:=by
 have:cntD xs=cntD (xs.take i)+cntD (xs.drop i):=by
  unfold cntD
  rw[←List.sum_append,←List.map_append,List.take_append_drop]
 omega
end
mutual
theorem bl_nb:∀(o:OV) (n:Nat),OV.ok o→∀c∈OV.bl n o,∀w∈c,NB (n+OV.num o) w
 | .v x,n,hk,c,hc,w,hw=>by simp[OV.bl]at hc
 | .sl kk len ds,n,hk,c,hc,w,hw=>by
  rcases List.mem_cons.1 hc with rfl|hc
  ·exact(valL_nb (n+1) hk.2 w hw).up (by show n+1+OV.numL ds≤n+(OV.numL ds+1);omega)
  ·exact(blL_nb ds (n+1) hk.2 c hc w hw).up (by show n+1+OV.numL ds≤n+(OV.numL ds+1);omega)
theorem blL_nb:∀(cs:List OV) (n:Nat),OV.okL cs→∀c∈OV.blL n cs,∀w∈c,NB (n+OV.numL cs) w
 |[],n,hk,c,hc,w,hw=>by simp[OV.blL]at hc
 |o::cs,n,hk,c,hc,w,hw=>by
  rcases List.mem_append.1 hc with hc|hc
  ·exact(bl_nb o n hk.1 c hc w hw).up (by show n+OV.num o≤n+(OV.num o+OV.numL cs);omega)
  ·exact(blL_nb cs (n+OV.num o) hk.2 c hc w hw).up (by show n+OV.num o+OV.numL cs≤n+(OV.num o+OV.numL cs);omega)
end
theorem HB_oput{H:AH}{Bd n:Nat}{cs ds:List OV}(hh:HB H Bd)(h:OV.Has H n cs)(hd:OV.okL ds)(hn:OV.numL ds=OV.numL cs):HB (oput H n ds) Bd:=by
 have hlt:OV.numL ds=0∨n+OV.numL ds≤Bd:=by
  rw[hn]
  by_cases e:OV.numL cs=0
  ·exact .inl e
  ·have hq:OV.numL cs-1<(OV.blL n cs).length:=by rw[OV.blL_len];omega
   have:=hb_in hh (h _ _ (List.getElem?_eq_getElem hq))
   omega
 refine⟨fun m hm=> ?_,fun m b hm v hv=> ?_⟩
 ·rw[oput_out (by omega)];exact hh.fresh m hm
 ·by_cases e:m<n∨n+OV.numL ds≤m
  ·rw[oput_out e]at hm;exact hh.nb m b hm v hv
  ·obtain⟨q,rfl⟩:∃q,m=n+q:=⟨m-n,by omega⟩
   have hq:q<(OV.blL n ds).length:=by rw[OV.blL_len];omega
   rw[oput_in H n ds q _ (List.getElem?_eq_getElem hq)]at hm
   cases hm
   exact(blL_nb ds n hd _ (List.getElem_mem hq) v hv).up (by omega)
instance :OW GPut 1:=⟨fun x=>by simp only[go_sem]⟩
instance :MkD GPut:=⟨fun q x=>⟨q,mkL UInt8 (q+1) x.bytes.length⟩,fun x=>x.bytes.length+1⟩
theorem cntD_nil{α:Type}[MkD α]:cntD ([]:List α)=0:=rfl
theorem mkTo_at{α:Type}[MkD α](q:Int){i:Nat}{xs:List α}(hi:i<xs.length)(h:i<(mkTo q i xs).length):(mkTo q i xs)[i]=xs[i]:=by
 have:=mkTo_get q hi
 rw[List.getElem?_eq_getElem h]at this
 exact Option.some.inj this
theorem set_lset2{cells:List Value}{i:Nat}{v s:Value}(h:cells[i+1]? =some s):cells.set i v=lset cells i [v,s]:=by
 show _=(cells.set i v).set (i+1) s
 refine List.ext_getElem? fun j=> ?_
 by_cases e:i+1=j
 ·subst e
  have hl:=(List.getElem?_eq_some_iff.1 h).1
  rw[List.getElem?_set_ne (by omega),h,List.getElem?_set_self (by simpa using hl)]
 ·rw[List.getElem?_set_ne e]
theorem mkD_num{α:Type}{w:Nat}[Enc α][OEnc α][OW α w][MkD α](q:Int)(xs:List α):OV.numL (OEnc.oc (mkDL q xs))=OV.numL (OEnc.oc xs):=by rw[oc_num,oc_num,mkDL_len]
theorem set_same{cells:List Value}{i:Nat}{v:Value}(h:cells[i]? =some v):lset cells i [v]=cells:=by
 show cells.set i v=cells
 have hl:=(List.getElem?_eq_some_iff.1 h).1
 refine List.ext_getElem? fun j=> ?_
 by_cases e:i=j
 ·subst e;rw[List.getElem?_set_self hl,h]
 ·rw[List.getElem?_set_ne e]
theorem has_lt{H:AH}{Bd n:Nat}{cs:List OV}(hh:HB H Bd)(h:OV.Has H n cs):OV.numL cs=0∨n+OV.numL cs≤Bd:=by
 by_cases e:OV.numL cs=0
 ·exact .inl e
 ·have hq:OV.numL cs-1<(OV.blL n cs).length:=by rw[OV.blL_len];omega
  have:=hb_in hh (h _ _ (List.getElem?_eq_getElem hq))
  omega
theorem Has_pubB{α:Type}[Enc α][OEnc α]{H:AH}{b n:Nat}{x:α}(h:OV.Has H n (OEnc.oc x))(hn:b≤n):Pub H (fun m=>b≤m) (.agg (OV.valL n (OEnc.oc x)).toArray) (.agg (enc x).toArray):=by
 rw[←OEnc.dat]
 refine .agg (by simp[OV.valL_len,OV.datL_len]) fun i v u h1 h2=> ?_
 exact OV.AtL.pubG (S:=fun m=>b≤m) (fun m _ hm _=>hm) (OV.atL_canon (OEnc.oc x) n h hn) (OEnc.ok x) i v u (by simpa using h1) (by simpa using h2)
def GiveN(W:Trans):Trans:=fun args H Bd K=>∃(args':List Value) (G:AH) (b:Nat),PubC H (fun m=>b≤m) args args'∧Le G H∧(∀n c,G n=some c→n<b)∧W args' G Bd K
theorem GiveN_ok{P:Program}{f:FuncId}{W:Trans}(h:∀args H Bd K,W args H Bd K→SCalls P f args H Bd K):∀args H Bd K,GiveN W args H Bd K→SCalls P f args H Bd K:=fun args H Bd K ⟨args',G,b,hp,hle,hb,hk⟩=>
 give (fun m=>b≤m) hp hle (fun n c hn hs=>by have:=hb n c hn;omega) (h _ _ _ _ hk)
structure Bx (P:Prop):Type where
def Held(P:Prop)(_:Bx P):Prop:=P
theorem held{P:Prop}{x:Bx P}(h:P):Held P x:=h
theorem Le_hi{G M:AH}{b n:Nat}{x:Option Blk}(hG:∀m c,G m=some c→m<b)(h:b≤n):Le G (upd M n x)=Le G M:=by
 refine propext ⟨fun g m c hm=> ?_,fun g m c hm=> ?_⟩
 ·have hlt:=hG m c hm
  have:=g m c hm
  rw[upd_other _ _ (by omega)]at this;exact this
 ·have hlt:=hG m c hm
  rw[upd_other _ _ (by omega)];exact g m c hm
theorem Le_hiO{G M:AH}{b n:Nat}{cs:List OV}(hG:∀m c,G m=some c→m<b)(h:b≤n):Le G (oput M n cs)=Le G M:=by
 refine propext ⟨fun g m c hm=> ?_,fun g m c hm=> ?_⟩
 ·have hlt:=hG m c hm
  have:=g m c hm
  rw[oput_out (.inl (by omega))]at this;exact this
 ·have hlt:=hG m c hm
  rw[oput_out (.inl (by omega))];exact g m c hm
theorem names_upd{G:AH}{b n:Nat}{x:Option Blk}(hG:∀m c,G m=some c→m<b)(h:n<b):∀m c,upd G n x m=some c→m<b:=fun m c hm=>by
 by_cases e:m=n
 ·omega
 ·rw[upd_other _ _ e]at hm;exact hG m c hm
theorem pub_as{H:AH}{S:Nat→Prop}{v v' u:Value}(h:Pub H S v u)(e:v=v'):Pub H S v' u:=e▸h
theorem keptR_len(d:GDisk)(p:GSuper):(keptR d p).list.length≤20000:=by
 have hk:=keptL_len d p
 have hs:=sort_len (keptL d p)
 unfold keptR
 split
 ·exact Nat.zero_le _
 ·split
  ·exact Nat.zero_le _
  ·unfold keptP
   repeat' split
   all_goals first|exact Nat.zero_le _|(show(sortI (keptL d p)).length≤20000;omega)
theorem keptR_sm(d:GDisk)(p:GSuper):sm (keptR d p):=⟨trivial,(sm_ints _).2 (by have:=keptR_len d p;omega)⟩
theorem cntD_tot{α:Type}[MkD α][Sz α]:∀ {xs:List α},(∀x:α,MkD.cnt x≤tot x+1)→cntD xs≤tot xs
 |xs,h=>by
  rw[tot_list]
  induction xs with
  |nil=>exact Nat.zero_le _
  |cons x xs ih=>
   have:=h x
   unfold cntD at ih ⊢
   simp only[List.map_cons,List.sum_cons,List.length_cons]
   omega
theorem cntD_bytes(xs:List (List UInt8)):cntD xs≤tot xs:=cntD_tot fun x=>by
 have:tot x=x.length:=by simp
 show x.length*1≤_
 omega
theorem cntD_puts(xs:List GPut):cntD xs≤tot xs:=cntD_tot fun x=>by
 have:tot x=x.bytes.length:=by simp[tot_GPut]
 show x.bytes.length+1≤_
 omega
end Go.SC
namespace Go.SC
open Go
theorem cj{a b:Prop}(x:a)(y:b):a∧b:=⟨x,y⟩
theorem At.fld2{H:AH}{v:Value}{l:List Value}(h:At H v l){m:Nat}(hl:l.length=m){P:Program}{t f p o k:Nat}{a:Bool}[hf:TyF P t f p k a](ho:o+p≤m):afldAddr P t (vadd v o) f=some (vadd v (o+p)):=by
 rcases h with⟨r,rfl⟩|⟨n,off,b,rfl,_⟩
 ·rw[vadd_vp,afldAddr_V,if_pos (by simp;omega),vadd_vp,List.drop_drop]
 ·show afldAddr P t (.pointer (some ⟨n,off+o,none⟩)) f=some (.pointer (some ⟨n,off+(o+p),none⟩))
  rw[afldAddr_ptr,Nat.add_assoc]
theorem At.all{H:AH}{v:Value}{l:List Value}(h:At H v l)(m:Nat)(hl:l.length=m):
  anilck v=some v∧(∀(P:Program) (t f o k:Nat) (a:Bool) [TyF P t f o k a],o≤m→afldAddr P t v f=some (vadd v o))
  ∧(∀(P:Program) (t o k:Nat) (a:Bool) (z:Value) [TyZ P t k a z] (H':AH),o+k≤m→o<m→Le H H'→aloadV P t H' (vadd v o)=aload P t ⟨l.drop o,false⟩ 0)
  ∧(∀(P:Program) (t k:Nat) (a:Bool) (z:Value) [TyZ P t k a z] (H':AH),k≤m→0<m→Le H H'→aloadV P t H' v=aload P t ⟨l,false⟩ 0)
  ∧(∀(k:Nat) (H':AH),k≤m→Le H H'→cellsAt H' k v=some (l.take k))
  ∧(∀(k o:Nat) (H':AH),o+k≤m→Le H H'→cellsAt H' k (vadd v o)=some ((l.drop o).take k))
  ∧∀(P:Program) (t f p o k:Nat) (a:Bool) [TyF P t f p k a],o+p≤m→afldAddr P t (vadd v o) f=some (vadd v (o+p)):=
 ⟨h.nil,fun _ _ _ _ _ _=>h.fldL hl,fun _ _ _ _ _ _ _ _=>h.ldL hl,fun _ _ _ _ _ _ _=>h.ld0L hl,fun _ _=>h.cellsL hl,fun _ _ _=>h.cellsOL hl,fun _ _ _ _ _ _ _ _=>h.fld2 hl⟩
theorem R0{P Q:Prop}(q:Q)(e:P=Q:=by conv=>lhs;simp (maxSteps:=2000000) (disch:=first|assumption|(refine asm_intro ?_;assumption)|exact Nat.le_add_right _ _|exact Nat.le_refl _|omega|(simp (disch:=first|exact Nat.le_add_right _ _|omega) only[Le_upd hb,Le_app hb,Le_rfl,free_T hb,free_upd];done)|fail) only[go_sem,push_cast,and_pos,Le_updF,Le_upd hb,free_T hb]):P:=e.mpr q
theorem R{F P Q:Prop}(f:F)(q:Q)(e:F→P=Q:=by intro F_;conv=>lhs;simp (maxSteps:=2000000) (disch:=first|assumption|(refine asm_intro ?_;assumption)|exact Nat.le_add_right _ _|exact Nat.le_refl _|omega|(simp (disch:=first|exact Nat.le_add_right _ _|omega) only[Le_upd hb,Le_app hb,Le_rfl,free_T hb,free_upd];done)|fail) only[go_sem,push_cast,and_pos,Le_updF,Le_upd hb,free_T hb,F_]):P:=(e f).mpr q
theorem RA0{P Q:Prop}(q:Q)(e:P=Q:=by conv=>lhs;simp (maxSteps:=2000000) (disch:=first|assumption|(refine asm_intro ?_;assumption)|exact Nat.le_add_right _ _|exact Nat.le_refl _|omega|(simp (disch:=first|exact Nat.le_add_right _ _|omega) only[Le_upd hb,Le_app hb,Le_rfl,free_T hb,free_upd];done)|fail) only[go_sem,push_cast,and_pos,Le_updF,Le_upd hb,free_T hb,appVal,appHeap,HB.no hb]):P:=e.mpr q
theorem RA{F P Q:Prop}(f:F)(q:Q)(e:F→P=Q:=by intro F_;conv=>lhs;simp (maxSteps:=2000000) (disch:=first|assumption|(refine asm_intro ?_;assumption)|exact Nat.le_add_right _ _|exact Nat.le_refl _|omega|(simp (disch:=first|exact Nat.le_add_right _ _|omega) only[Le_upd hb,Le_app hb,Le_rfl,free_T hb,free_upd];done)|fail) only[go_sem,push_cast,and_pos,Le_updF,Le_upd hb,free_T hb,appVal,appHeap,HB.no hb,F_]):P:=(e f).mpr q
theorem S0{P Q:Prop}(q:Q)(e:P=Q:=by conv=>lhs;simp (maxSteps:=2000000) (disch:=first|assumption|(refine asm_intro ?_;assumption)|exact Nat.le_add_right _ _|exact Nat.le_refl _|omega|(simp (disch:=first|assumption|exact Nat.le_add_right _ _|omega) only[Le_upd hb,Le_app hb,Le_updF,Le_rfl,free_T hb,free_upd];done)|fail) only[go_sem,push_cast,and_pos,Le_updF,Le_upd hb,free_T hb]):P:=e.mpr q
theorem S{F P Q:Prop}(f:F)(q:Q)(e:F→P=Q:=by intro F_;conv=>lhs;simp (maxSteps:=2000000) (disch:=first|assumption|(refine asm_intro ?_;assumption)|exact Nat.le_add_right _ _|exact Nat.le_refl _|omega|(simp (disch:=first|assumption|exact Nat.le_add_right _ _|omega) only[Le_upd hb,Le_app hb,Le_updF,Le_rfl,free_T hb,free_upd];done)|fail) only[go_sem,push_cast,and_pos,Le_updF,Le_upd hb,free_T hb,F_]):P:=(e f).mpr q
theorem SA0{P Q:Prop}(q:Q)(e:P=Q:=by conv=>lhs;simp (maxSteps:=2000000) (disch:=first|assumption|(refine asm_intro ?_;assumption)|exact Nat.le_add_right _ _|exact Nat.le_refl _|omega|(simp (disch:=first|assumption|exact Nat.le_add_right _ _|omega) only[Le_upd hb,Le_app hb,Le_updF,Le_rfl,free_T hb,free_upd];done)|fail) only[go_sem,push_cast,and_pos,Le_updF,Le_upd hb,free_T hb,appVal,appHeap,HB.no hb]):P:=e.mpr q
theorem SA{F P Q:Prop}(f:F)(q:Q)(e:F→P=Q:=by intro F_;conv=>lhs;simp (maxSteps:=2000000) (disch:=first|assumption|(refine asm_intro ?_;assumption)|exact Nat.le_add_right _ _|exact Nat.le_refl _|omega|(simp (disch:=first|assumption|exact Nat.le_add_right _ _|omega) only[Le_upd hb,Le_app hb,Le_updF,Le_rfl,free_T hb,free_upd];done)|fail) only[go_sem,push_cast,and_pos,Le_updF,Le_upd hb,free_T hb,appVal,appHeap,HB.no hb,F_]):P:=(e f).mpr q
def Cv{P:Program}(E:Env P)(PL:List (Nat×List Nat×List Stp×JT)):Prop:=∀ {N0:Nat} {c:Code} {Q:APost} {s:List Value} {H:AH} {Bd:Nat},plansOK PL c=true→vq E PL N0 c Q s H Bd→Tr P N0 c Q s H Bd
theorem withC{P:Program}(hP:POk P){E:Env P}{PL:List (Nat×List Nat×List Stp×JT)}{N0:Nat}{c:Code}{Q:APost}{s:List Value}{H:AH}{Bd:Nat}(h:Cv E PL→vq E PL N0 c Q s H Bd):vq E PL N0 c Q s H Bd:=h fun h1 h2=>vq_conv hP h1 h2
theorem enc_ij{α:Type}[Enc α]{x y:α}:(enc x=enc y)=(x=y):=propext ⟨enc_inj,fun h=>by rw[h]⟩
theorem ex1{α0:Type}{args:List Value}{f:α0→List Value}{B:α0→Prop}(a0:α0)(h0:args=f a0)(hf:∀x0,f a0=f x0→a0=x0:=by intro x0 e;simp only[List.cons.injEq,Value.agg.injEq,toArr_inj,enc_ij,Value.int.injEq,Value.bool.injEq,Value.string.injEq,lst_inj,u8_inj,true_and,and_true]at e;exact e):(∃x0,args=f x0∧B x0)=B a0:=by
 subst h0
 refine propext ⟨fun h=> ?_,fun h=>⟨a0,rfl,h⟩⟩
 obtain⟨x0,e,h⟩:=h
 obtain rfl:=hf x0 e
 exact h
theorem ex2{α0 α1:Type}{args:List Value}{f:α0→α1→List Value}{B:α0→α1→Prop}(a0:α0)(a1:α1)(h0:args=f a0 a1)(hf:∀x0 x1,f a0 a1=f x0 x1→a0=x0∧a1=x1:=by intro x0 x1 e;simp only[List.cons.injEq,Value.agg.injEq,toArr_inj,enc_ij,Value.int.injEq,Value.bool.injEq,Value.string.injEq,lst_inj,u8_inj,true_and,and_true]at e;exact e):(∃x0 x1,args=f x0 x1∧B x0 x1)=B a0 a1:=by
 subst h0
 refine propext ⟨fun h=> ?_,fun h=>⟨a0,a1,rfl,h⟩⟩
 obtain⟨x0,x1,e,h⟩:=h
 obtain⟨rfl,rfl⟩:=hf x0 x1 e
 exact h
theorem ex3{α0 α1 α2:Type}{args:List Value}{f:α0→α1→α2→List Value}{B:α0→α1→α2→Prop}(a0:α0)(a1:α1)(a2:α2)(h0:args=f a0 a1 a2)(hf:∀x0 x1 x2,f a0 a1 a2=f x0 x1 x2→a0=x0∧a1=x1∧a2=x2:=by intro x0 x1 x2 e;simp only[List.cons.injEq,Value.agg.injEq,toArr_inj,enc_ij,Value.int.injEq,Value.bool.injEq,Value.string.injEq,lst_inj,u8_inj,true_and,and_true]at e;exact e):(∃x0 x1 x2,args=f x0 x1 x2∧B x0 x1 x2)=B a0 a1 a2:=by
 subst h0
 refine propext ⟨fun h=> ?_,fun h=>⟨a0,a1,a2,rfl,h⟩⟩
 obtain⟨x0,x1,x2,e,h⟩:=h
 obtain⟨rfl,rfl,rfl⟩:=hf x0 x1 x2 e
 exact h
theorem cant{P:Prop}(e:P:=by simp (disch:=first|assumption|omega|(simp (disch:=omega) only[free_upd,free_T hb];done)|(simp (disch:=first|omega|(simp (disch:=omega) only[free_upd,free_T hb];done)) only[go_sem,push_cast,and_pos,Le_updF,free_upd,free_T hb];done)|fail) only[go_sem,push_cast,and_pos,Le_updF,Le_rfl,Le_upd hb,free_upd,free_T hb,flat_nil,flat_append,flat_one,enc_int,enc_list,enc_byte,enc_str,enc_bool,List.append_assoc,List.length_append,List.length_cons,List.length_nil,Nat.zero_add,List.take_zero,List.map_nil,List.append_nil,u8_flat,List.replicate_zero];all_goals (try simp only[Value.int.injEq,Value.slice.injEq,true_and,and_true]) <;>all_goals (try(first|trivial|omega|grind))):P:=e
theorem canf{F P:Prop}(f:F)(e:F→P:=by intro F_;simp (disch:=first|assumption|omega|(simp (disch:=omega) only[free_upd,free_T hb];done)|(simp (disch:=first|omega|(simp (disch:=omega) only[free_upd,free_T hb];done)) only[go_sem,push_cast,and_pos,Le_updF,free_upd,free_T hb];done)|fail) only[go_sem,push_cast,and_pos,Le_updF,Le_rfl,Le_upd hb,free_upd,free_T hb,flat_nil,flat_append,flat_one,enc_int,enc_list,enc_byte,enc_str,enc_bool,List.append_assoc,List.length_append,List.length_cons,List.length_nil,Nat.zero_add,List.take_zero,List.map_nil,List.append_nil,u8_flat,List.replicate_zero,F_];all_goals (try simp only[Value.int.injEq,Value.slice.injEq,true_and,and_true]) <;>all_goals (try(first|trivial|omega|grind))):P:=e f
theorem rq_all{B0:Nat}{v:Value}(h:NB B0 v):∀(σ:List (Option Nat)) (N:Nat) (S:Nat→Prop) (H:AH),B0≤N→RQ σ N S H v v=True:=fun _ _ _ _ hle=>rq_nb h hle
theorem fnp{P:Program}(hP:POk P)(E:Env P)(PL:List (Nat×List Nat×List Stp×JT)){f:FuncId}{fn:Func}{c:Code}{args:List Value}{H:AH}{Bd:Nat}{K:Value→AH→Nat→Prop}{r0:Value}(hK:K r0 H Bd)(hf:P.funcs[f]? =some fn){m:Nat}(hm:fn.ntmps=m)(hent:Enters P f)(rs:List ResultVar)
  (h:HB H Bd→(∀v∈args,NB Bd v)→vq E PL Bd c (pureQ P rs H r0) (aS m undef (idx 0 args)) H Bd)
  (hb:fn.body=some c:=by rfl) (hrs:fn.results.toList=rs:=by rfl) (hm2:args.length≤m:=by simp) (hp:plansOK PL c=true:=by kernel_rfl)
  (hnb:(∀v∈args,NB Bd v)→HB H Bd→NB Bd r0:=by intro _ _;first|exact .int _ _|exact .bool _|exact .string _|exact lst_nb _ _|exact agg_nb _ _):SCalls P f args H Bd K:=fn_pure hP E PL r0 hK hf hb hrs hm hm2 hent hp hnb h
def ιw(w:World):Ren:=⟨fun _=>none,fun B=>B<w.heap.size,fun _=>none⟩
class Opn (P:Program) (t:TypeId) (α:Type) [Enc α] [Sz α]:Prop where
 k:P.cellsOf t=Enc.k α
 b:1≤P.bytesOf t
 op:∀ {H:Type} (enc0:TypeId×Value→H) (w:World) (fuel:Nat) (cs:List Value) (x:DataW H×List MemPlace),DataW.trod enc0 P w 0 (fun _=>true) true fuel t cs=some x→
  (x.1.weights P t).all (· ≤reachBytes)=true→∃a:α,LR (ιw w) w (enc a) cs∧sm a∧rg a
theorem opn_int{P:Program}{t:TypeId}(hu:P.underlying t=some (.int .i64))(hk:P.cellsOf t=1)(hb:1≤P.bytesOf t):Opn P t Int:=by
 refine⟨hk,hb,fun enc0 w fuel cs x h _=> ?_⟩
 obtain⟨n,rfl,rfl,hw⟩:=DataW.trod_int hu h
 refine⟨n, .cons (.int _ _) (.nil _ _),trivial,?_⟩
 simp[Lit.wf,IntKind.min,IntKind.max,IntKind.signed,IntKind.bits]at hw
 exact hw
theorem opn_byte{P:Program}{t:TypeId}(hu:P.underlying t=some (.int .u8))(hk:P.cellsOf t=1)(hb:1≤P.bytesOf t):Opn P t UInt8:=by
 refine⟨hk,hb,fun enc0 w fuel cs x h _=> ?_⟩
 obtain⟨n,rfl,rfl,hw⟩:=DataW.trod_int hu h
 have hr:0≤n∧n<256:=by
  simp[Lit.wf,IntKind.min,IntKind.max,IntKind.bits,IntKind.signed]at hw
  omega
 refine⟨UInt8.ofNat n.toNat, .cons ?_ (.nil _ _),trivial,trivial⟩
 have:((UInt8.ofNat n.toNat).toNat:Int)=n:=by
  simp;omega
 rw[this]
 exact .int _ _
theorem opn_bool{P:Program}{t:TypeId}(hu:P.underlying t=some .bool)(hk:P.cellsOf t=1)(hb:1≤P.bytesOf t):Opn P t Bool:=by
 refine⟨hk,hb,fun enc0 w fuel cs x h _=> ?_⟩
 obtain⟨n,rfl,rfl⟩:=DataW.trod_bool hu h
 exact⟨n, .cons (.bool _) (.nil _ _),trivial,trivial⟩
theorem opn_str{P:Program}{t:TypeId}(hu:P.underlying t=some .string)(hk:P.cellsOf t=1)(hb:1≤P.bytesOf t):Opn P t ByteArray:=by
 refine⟨hk,hb,fun enc0 w fuel cs x h hw=> ?_⟩
 obtain⟨s,rfl,rfl,_⟩:=DataW.trod_string hu h
 refine⟨s, .cons (.string _) (.nil _ _),?_,trivial⟩
 simp only[DataW.weights,List.all_cons,List.all_nil,Bool.and_true,decide_eq_true_eq,Array.length_toList]at hw
 show s.size≤281474976710656
 have:s.size=s.data.size:=rfl
 have:reachBytes≤281474976710656:=by decide
 omega
theorem choose_list{α:Type}(p:Nat→α→Prop):∀n:Nat,(∀i,i<n→∃a,p i a)→∃l:List α,l.length=n∧∀(i:Nat) (a:α),l[i]? =some a→p i a
 |0,_=>⟨[],rfl,fun i a h=>by simp at h⟩
 |n+1,h=>by
  obtain⟨l,hl,hp⟩:=choose_list p n fun i hi=>h i (Nat.lt_succ_of_lt hi)
  obtain⟨a,ha⟩:=h n (Nat.lt_succ_self n)
  refine⟨l++[a],by simp[hl],fun i x hx=> ?_⟩
  rw[List.getElem?_append]at hx
  split at hx
  ·exact hp i x hx
  ·rename_i hge
   have:i-l.length=0:=by
    have:=(List.getElem?_eq_some_iff.1 hx).1
    simpa using this
   rw[this]at hx
   simp at hx
   subst hx
   rwa[show i=n by omega]
theorem weightsAll_mem{H:Type}{P:Program}{e:TypeId}:∀(l:List (DataW H)) (d:DataW H),d∈l→(DataW.weightsAll P e l).all (· ≤reachBytes)=true→(d.weights P e).all (· ≤reachBytes)=true
 |[],d,h,_=>by cases h
 |x::xs,d,h,hw=>by
  simp only[DataW.weightsAll,List.all_append,Bool.and_eq_true]at hw
  rcases List.mem_cons.1 h with rfl|h
  ·exact hw.1
  ·exact weightsAll_mem xs d h hw.2
theorem opn_list{P:Program}{t e:TypeId}{α:Type}[Enc α][Sz α](he:Opn P e α)(hu:P.underlying t=some (.slice e))(hk:P.cellsOf t=1)(hb:1≤P.bytesOf t):Opn P t (List α):=by
 refine⟨hk,hb,fun{H} enc0 w fuel cs x h hw=> ?_⟩
 rcases DataW.trod_slice hu h with⟨rfl,rfl⟩|⟨a,len,cap,elems,rest,n,rfl,rfl,rfl,_,hlc,_,hel,hget,hrest,_⟩
 ·exact⟨[], .cons .lst0 (.nil _ _),⟨by simp,by simp⟩,by simp[rg,Sz.r]⟩
 ·simp only[DataW.weights,hu,List.all_cons,List.all_append,Bool.and_eq_true,decide_eq_true_eq,List.length_map]at hw
  obtain⟨hw1,hw2,hw3⟩:=hw
  have hb1:=he.b
  have hlen:elems.length≤281474976710656:=by
   have:elems.length*1≤(elems.length+rest.length)*P.bytesOf e:=Nat.mul_le_mul (by omega) hb1
   have:reachBytes≤281474976710656:=by decide
   omega
  have hstep:∀i,i<len→∃a0:α,∃csi,w.cells? 0 (a.add (i*P.cellsOf e)) (P.cellsOf e)=some csi∧LR (ιw w) w (enc a0) csi∧sm a0∧rg a0:=fun i hi=>by
   have h1:=hget i hi
   have hlt:i<elems.length:=by omega
   rw[List.getElem?_eq_getElem hlt]at h1
   obtain⟨csi,h2,h3⟩:=Option.bind_eq_some_iff.1 h1
   obtain⟨a0,q1,q2⟩:=he.op enc0 w n csi _ h3 (weightsAll_mem _ _ (List.mem_map_of_mem (List.getElem_mem hlt)) hw2)
   exact⟨a0,csi,h2,q1,q2⟩
  obtain⟨xs,hxl,hx⟩:=choose_list _ len hstep
  refine⟨xs, .cons ?_ (.nil _ _),⟨by omega,fun y hy=> ?_⟩,fun y hy=> ?_⟩
  ·rcases Nat.eq_zero_or_pos len with hz|hp
   ·subst hz
    obtain rfl:=List.eq_nil_of_length_eq_zero hxl
    exact .lst0
   ·obtain⟨cs0,hc0,hl0,_⟩:=hx 0 (xs[0]'(by omega)) (by simp[hxl,hp])
    obtain⟨_,hcl,hcg⟩:=World.cells?_some hc0
    have hkpos:0<P.cellsOf e:=by rw[he.k];exact Enc.pos
    have hg0:=hcg 0 hkpos
    rw[List.getElem?_eq_getElem (by omega)]at hg0
    simp only[Nat.zero_mul]at hg0
    have e0:∀a:Addr,a.add 0=a:=fun a=>by unfold Addr.add;rfl
    rw[e0,e0]at hg0
    obtain⟨B,base,sp⟩:=a
    have hsp:sp=none:=World.cell?_spot hg0
    subst hsp
    obtain⟨cs,e1,fr,hB⟩:∃cs e1 fr,w.heap[B]? =some (.cells cs e1 fr):=by
     unfold World.cell? at hg0
     split at hg0
     ·rename_i cs e1 fr hh
      exact⟨_,_,_,hh⟩
     ·cases hg0
    have hcell:∀i,i<cap→∃csi,w.cells? 0 (Addr.add ⟨B,base,none⟩ (i*P.cellsOf e)) (P.cellsOf e)=some csi:=fun i hi=>by
     rcases Nat.lt_or_ge i len with h1|h1
     ·obtain⟨_,csi,h2,_⟩:=hstep i h1;exact⟨csi,h2⟩
     ·obtain⟨hr1,hr2⟩:=hrest rfl
      have h2:=hr2 (i-len) (by omega)
      rw[List.getElem?_eq_getElem (by omega),show len+(i-len)=i by omega]at h2
      obtain⟨csi,h3,_⟩:=Option.bind_eq_some_iff.1 h2
      exact⟨csi,h3⟩
    have hat:∀i csi,w.cells? 0 (Addr.add ⟨B,base,none⟩ (i*P.cellsOf e)) (P.cellsOf e)=some csi→csi.length=P.cellsOf e∧∀j,j<P.cellsOf e→cs[base+i*P.cellsOf e+j]? =csi[j]? :=fun i csi hi=>by
     obtain⟨_,h1,h2⟩:=World.cells?_some hi
     refine⟨h1,fun j hj=> ?_⟩
     have:=h2 j hj
     rw[add_addr,add_addr,cell_of hB]at this
     exact this
    have hsz:base+cap*P.cellsOf e≤cs.size:=by
     obtain⟨csi,hi⟩:=hcell (cap-1) (by omega)
     obtain⟨h1,h2⟩:=hat _ _ hi
     have h3:=h2 (P.cellsOf e-1) (by omega)
     rw[List.getElem?_eq_getElem (by omega)]at h3
     have h4:=(Array.getElem?_eq_some_iff.1 h3).1
     have h5:(cap-1)*P.cellsOf e+P.cellsOf e=cap*P.cellsOf e:=by
      rw[←Nat.succ_mul];congr 1;omega
     omega
    have hlst:=VR.lst (ι:=ιw w) (w:=w) (k:=Enc.k α) (rows:=((xs.map enc).map fun r=>Value.agg r.toArray).toArray) (base:=base) (c':=cap) (B:=B) (cs:=cs) (e:=e1) (fr:=fr)
     (by show B<w.heap.size;exact(Array.getElem?_eq_some_iff.1 hB).1) hB (by simp;omega) (by rw[←he.k];exact hsz) (fun i x hi=>by
      simp only[List.getElem?_toArray,List.getElem?_map]at hi
      cases hq:xs[i]? with
      |none=>rw[hq]at hi;cases hi
      |some y=>
       rw[hq]at hi
       simp only[Option.map_some,Option.some.injEq]at hi
       exact⟨_,hi.symm,by simp[enc_len]⟩) (fun i j r v v' h1 h2 h3=>by
      simp only[List.getElem?_toArray,List.getElem?_map]at h1
      cases hq:xs[i]? with
      |none=>rw[hq]at h1;cases h1
      |some y=>
       rw[hq]at h1
       simp only[Option.map_some,Option.some.injEq,Value.agg.injEq]at h1
       subst h1
       obtain⟨csi,q1,q2,_⟩:=hx i y hq
       obtain⟨g1,g2⟩:=hat i csi q1
       have hj:j<(enc y).length:=by
        have:=(Array.getElem?_eq_some_iff.1 h2).1;simpa using this
       rw[enc_len,←he.k]at hj
       have g3:=g2 j hj
       rw[he.k]at g3
       rw[g3]at h3
       exact q2.2 j v v' (by simpa using h2) h3)
    have hs:((xs.map enc).map fun r=>Value.agg r.toArray).toArray.size=len:=by simp[hxl]
    rw[hs]at hlst
    exact hlst
  ·obtain⟨i,hi,rfl⟩:=List.getElem_of_mem hy
   obtain⟨_,_,_,q,_⟩:=hx i xs[i] (by simp[hi])
   exact q
  ·obtain⟨i,hi,rfl⟩:=List.getElem_of_mem hy
   obtain⟨_,_,_,_,q⟩:=hx i xs[i] (by simp[hi])
   exact q
structure OpnL (P:Program) (fs:List Field) (o:Nat) (β:Type) [Enc β] [Sz β]:Prop where
 op:∀ {H:Type} (enc0:TypeId×Value→H) (w:World) (n:Nat) (cs:List Value) (xs:List (DataW H×List MemPlace)),xs.length=fs.length→
  (∀(i:Nat) (f:Field),fs[i]? =some f→DataW.trod enc0 P w 0 (fun _=>true) true n f.type ((cs.drop f.offset).take (P.cellsOf f.type))=xs[i]?)→
  (DataW.weightsEach P (fs.map (·.type)) (xs.map (·.1))).all (· ≤reachBytes)=true→∃y:β,LR (ιw w) w (enc y) ((cs.drop o).take (Enc.k β))∧sm y∧rg y
theorem OpnL.one{P:Program}{f:Field}{o:Nat}{α:Type}[Enc α][Sz α](h:Opn P f.type α)(ho:f.offset=o):OpnL P [f] o α:=by
 refine⟨fun enc0 w n cs xs hl hx hw=> ?_⟩
 match xs,hl with
 |[x],_=>
  have:=hx 0 f rfl
  simp only[List.map_cons,List.map_nil,DataW.weightsEach,List.append_nil]at hw
  rw[←ho,←h.k]
  exact h.op enc0 w n _ x this hw
theorem OpnL.cons{P:Program}{f:Field}{fs:List Field}{o o':Nat}{α β:Type}[Enc α][Sz α][Enc β][Sz β](h:Opn P f.type α)(ho:f.offset=o)(ho':o'=o+Enc.k α)(hs:OpnL P fs o' β):OpnL P (f::fs) o (α×β):=by
 refine⟨fun enc0 w n cs xs hl hx hw=> ?_⟩
 match xs,hl with
 |x::xs,hl=>
  have h0:=hx 0 f rfl
  simp only[List.map_cons,DataW.weightsEach,List.all_append,Bool.and_eq_true]at hw
  obtain⟨a,q1,q2,q3⟩:=h.op enc0 w n _ x h0 hw.1
  obtain⟨b,p1,p2,p3⟩:=hs.op enc0 w n cs xs (by simpa using hl) (fun i g hg=>hx (i+1) g hg) hw.2
  refine⟨(a,b),?_,⟨q2,p2⟩,⟨q3,p3⟩⟩
  rw[ho,h.k]at q1
  have:(cs.drop o).take (Enc.k (α×β))=(cs.drop o).take (Enc.k α)++(cs.drop o').take (Enc.k β):=by
   show(cs.drop o).take (Enc.k α+Enc.k β)=_
   rw[List.take_add,List.drop_drop,ho']
  rw[this]
  exact q1.append p1
theorem opn_struct{P:Program}{t:TypeId}{fs:Array Field}{α β:Type}[Enc α][Sz α][Enc β][Sz β](f:α→β)(g:β→α)(hfg:∀y,f (g y)=y)(henc:∀x:α,enc x=enc (f x))(hsm:∀x:α,sm (f x)→sm x)(hrg:∀x:α,rg (f x)→rg x)
  (hu:P.underlying t=some (.struct fs)) (hk:P.cellsOf t=Enc.k α) (hk':Enc.k α=Enc.k β) (hb:1≤P.bytesOf t) (h:OpnL P fs.toList 0 β):Opn P t α:=by
 refine⟨hk,hb,fun enc0 w fuel cs x hx hw=> ?_⟩
 obtain⟨xs,n,_,rfl,hl,hxl,hg⟩:=DataW.trod_struct hu hx
 simp only[DataW.weights,hu]at hw
 obtain⟨y,q1,q2,q3⟩:=h.op enc0 w n cs xs (by simpa using hxl) (fun i f hf=>hg i f (by simpa using hf)) hw
 refine⟨g y,?_,hsm _ (by rw[hfg];exact q2),hrg _ (by rw[hfg];exact q3)⟩
 rw[henc,hfg]
 rw[List.drop_zero,List.take_of_length_le (by rw[hl,hk,hk'];exact Nat.le_refl _)]at q1
 exact q1
def ιg(w:World)(G:Nat):Ren:=⟨fun n=>if n<G then some (.at n 0)else none,fun B=>B<w.heap.size,fun _=>none⟩
theorem law_calls_g{P:Program}{f:FuncId}{vals:List Value}{H0:AH}{G:Nat}(h:SCalls P f vals H0 G (fun r _ _=>r= .bool true))(w:World)(args:Array Value)(hv:SR (ιw w) w vals args)
  (hg:∀n b,H0 n=some b→n<G∧b.own=false∧∃cs e fr,w.heap[n]? =some (.cells cs e fr)∧cs.size=b.cells.length∧∀i v,b.cells[i]? =some v→∃v',cs[0+i]? =some v'∧VR (ιw w) w v v'):
  Calls P f args w fun e w'=>e= .returned (.bool true)∧(∀B:Nat,B<w.heap.size→w'.heap[B]? =w.heap[B]?)∧w'.os=w.os∧w'.output=w.output:=by
 have hx:Ext (ιw w) (ιg w G):=⟨fun _ _ h=>(by cases h),fun _ h=>h,fun _ _ h=>h⟩
 have hr:Rel (fun B=>w.heap.size≤B) (ιg w G) H0 G w:=by
  refine⟨fun n hn=>if_neg (by omega),fun n b hn=> ?_,fun n _ b _ _ _ _ _ _ h1 _ ho=> ?_,fun _ h=>h,fun n b _ _ h1 ho=> ?_,fun _ h=>h,fun n b hn _=> ?_,fun _ _ h=>(by cases h)⟩
  ·obtain⟨g1,g2,cs,e,fr,g3,g4,g5⟩:=hg n b hn
   refine .inr ⟨n,0,cs,e,fr,if_pos g1,g3,fun ho=>(by rw[g2]at ho;cases ho),fun _ hA=> ?_,fun i v hi=> ?_⟩
   ·have:=(Array.getElem?_eq_some_iff.1 g3).1
    exact absurd this (Nat.not_lt.2 hA)
   ·obtain⟨v',k1,k2⟩:=g5 i v hi
    exact⟨v',k1,k2.mono hx (Fro.refl _ w)⟩
  ·have:=(hg n b h1).2.1;rw[ho]at this;cases this
  ·have:=(hg n b h1).2.1;rw[ho]at this;cases this
  ·obtain⟨g1,g2,cs,e,fr,g3,g4,g5⟩:=hg n b hn
   exact⟨if_pos g1,cs,e,fr,g3,g4⟩
 refine(h.2 _ (ιg w G) args w hr (hv.mono hx (Fro.refl _ w))).mono fun e w' ⟨v,r,ι',H',Bd',he,hp,_,_,hvr,hk,_,_⟩=> ?_
 subst hp
 cases hvr
 exact⟨he,fun B hB=>hk.block B hB (Nat.not_le.2 hB),hk.os,hk.output⟩
theorem law_calls{P:Program}{f:FuncId}{vals:List Value}(h:SCalls P f vals (fun _=>none) 0 (fun r _ _=>r= .bool true))(w:World)(args:Array Value)(hv:SR (ιw w) w vals args):
  Calls P f args w fun e w'=>e= .returned (.bool true)∧(∀B:Nat,B<w.heap.size→w'.heap[B]? =w.heap[B]?)∧w'.os=w.os∧w'.output=w.output:=
 law_calls_g h w args hv fun _ _ h=>by cases h
theorem kept_same{w w':World}(h:∀B:Nat,B<w.heap.size→w'.heap[B]? =w.heap[B]?)(ho:w'.os=w.os)(hp:w'.output=w.output)(may:MemPlace→Prop):w.keptBut w' may:=by
 refine⟨ho,hp,fun i hi=> ?_⟩
 rw[h i hi]
 cases hx:w.heap[i]? with
 |none=>rfl
 |some o=>cases o <;>first|exact⟨rfl,rfl,rfl,fun _ _=>rfl⟩|exact .inr ⟨rfl,rfl⟩|rfl
theorem trodAll_stays{H:Type}{enc0:TypeId×Value→H}{P:Program}{w w':World}(K:Kids P (· <P.types.size))(hsz:∀ {t e:TypeId},t<P.types.size→P.underlying t=some (.slice e)→0<P.cellsOf e)
  (hh:∀B:Nat,B<w.heap.size→w'.heap[B]? =w.heap[B]?) {sp:Nat→Bool} (hs:∀B,B<w.heap.size→sp B=true):
  ∀ {ts:List TypeId} {vs:List Value} {ds:List (DataW H)} {p:List MemPlace},(∀t∈ts,t<P.types.size)→DataW.TrodAll enc0 P w 0 (fun _=>true) true ts vs ds p→DataW.TrodAll enc0 P w' 0 sp true ts vs ds p
 |[],[],[],_,_,h=>h
 |t::ts,v::vs,d::ds,ps,ht,⟨p,q,⟨fuel,h1⟩,h2,e⟩=>by
  refine⟨p,q,⟨fuel,DataW.trod_stays K hsz (fun h=>by cases h) (ht t (by simp)) h1 (fun x hx=> ?_) (fun x hx=>hs _ ?_)⟩,trodAll_stays K hsz hh hs (fun t h=>ht t (by simp[h])) h2,e⟩
  ·have hb:=DataW.trod_lt _ _ _ _ h1 x hx
   cases x with
   |cell b off=>
    show w'.cell? _=w.cell? _
    unfold World.cell?
    rw[hh b hb]
   |map b=>exact hh b hb
  ·exact DataW.trod_lt _ _ _ _ h1 x hx
theorem vr_struct{P:Program}{ι:Ren}{w:World}{l:List Value}{v:Value}{r:Reach}{base:Nat}{t:TypeId}{fs:Array Field}(ht:P.underlying t=some (.struct fs))(hk:Value.okWide P w r base t v)(h:LR ι w l v.cells.toList):VR ι w (.agg l.toArray) v:=by
 obtain⟨cs,rfl,_⟩:=WideShapes.okWide_struct ht hk
 exact h.agg
theorem sr_cons{ι:Ren}{w:World}{u v:Value}{us vs:List Value}(h:VR ι w u v)(hs:SR ι w us vs.toArray):SR ι w (u::us) (v::vs).toArray:=by
 refine⟨by have:=hs.1;simp at this ⊢;omega,fun i x y h1 h2=> ?_⟩
 cases i with
 |zero=>simp at h1 h2;subst h1;subst h2;exact h
 |succ i=>exact hs.2 i x y (by simpa using h1) (by simpa using h2)
theorem sr_nil{ι:Ren}{w:World}:SR ι w [] (#[]:Array Value):=⟨rfl,fun i x y h1 _=>by simp at h1⟩
theorem handed_and_shaped{H:Type}{enc:TypeId×Value→H}{a:Assume}{C:Checked}{os:Os}{f:FuncId}{fn:Func}{s:ChangeSpec}{conds:List PathCond}{apart fresh handsOn again:Bool}{X:World→Array Value→Prop}
  (hX:∀(w w':World) (args:Array Value),w.heap=w'.heap→X w args→X w' args)
  (own:ownKnob C.prog.godebug=none) (started:os.Started) (noInit:C.prog.inits.idxOf? f=none) (hfn:C.prog.funcs[f]? =some fn)
  (witness:∃(w:World) (tape:Tape) (i:Input),w.os=os∧(w.forCall tape i).Shaped C.prog∧i.vars=[]∧Input.okWide C.prog (w.forCall tape i) .any w.heap.size f i∧
   ((s.pre enc C.prog fn conds apart (w.forCall tape i).memory i.args∧X (w.forCall tape i).memory i.args)∧sizedMet enc C.prog fn (OpenSpec.ofChange s) apart (w.forCall tape i).memory i.args)∧a.holds C.prog (lone (Frame.enter C.prog f i.args .normal) [] (w.forCall tape i)))
  (contract:∀(W:World) (base:Nat) (args:Array Value) (ds gs:List (DataW H)) (before:List MemPlace),
   (∀(j:Nat) t v,fn.params[j]? =some t→args[j]? =some v→Value.okWide C.prog W .any base t v)→
   DataW.Whole enc C.prog fn.params.toList s.vars apart W args.toList ds gs before→
   conds.all (PathCond.test C.prog ⟨fn.params.toList,ds,s.plain.varTypes C.prog,gs⟩)=true→
   (DataW.weightsEach C.prog (fn.params.toList++s.plain.varTypes C.prog) (ds++gs)).all (· ≤reachBytes)=true→X W args→W.ShapedOpen C.prog→
   Calls C.prog f args W fun e W'=>∃v,e= .returned v∧s.post enc C.prog fn apart fresh handsOn again W args v W'):
  ReturnsInHanded a C os f .any (fun w args=>(s.pre enc C.prog fn conds apart w args∧X w args)∧sizedMet enc C.prog fn (OpenSpec.ofChange s) apart w args) (s.post enc C.prog fn apart fresh handsOn again):=by
 refine returnsInHanded_of_calls own started noInit witness fun w tape i _ hsh _ hok hpre _=> ?_
 obtain⟨_,_,_,fn',hfn',_,_,_,_,hval⟩:=hok
 obtain rfl:fn'=fn:=Option.some.inj (hfn'.symm.trans hfn)
 obtain⟨⟨⟨ds,gs,before,hw,hc⟩,hx⟩,hz⟩:=hpre
 refine(contract (w.forCall tape i) w.heap.size i.args ds gs before hval (DataW.Whole.of_heap (w':=w.forCall tape i) (by rfl) hw) hc (hz.weights hw) (hX _ _ _ (by rfl) hx) hsh).mono fun e W' ⟨v,he,hp⟩=> ?_
 subst he
 exact ChangeSpec.post_blind hp
end Go.SC
