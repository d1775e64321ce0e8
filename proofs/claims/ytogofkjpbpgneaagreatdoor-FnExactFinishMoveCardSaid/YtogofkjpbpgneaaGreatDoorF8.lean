/- YtogofkjpbpgneaaGreatDoorF8 -/
import Derived.Test.YtogofkjpbpgneaaGreatDoorF7
set_option linter.unusedSimpArgs false
set_option linter.unusedVariables false
set_option maxRecDepth 20000
set_option maxHeartbeats 4000000
namespace Go.Proofs.YtogofkjpbpgneaaGreatDoor
open Go Go.SC Tryz
variable {H:AH} {Bd:Nat} {K:Value->AH->Nat->Prop}
def W64:qH:=fun g' H Bd K=>∃(x:GAct) (y:GAct),g'=[.agg (enc x).toArray, .agg (enc y).toArray]/\((sm x)/\K (.bool (decide (x=y))) H Bd)
@[go_sem ↓] theorem W64_eq (a b:Int) (c:List UInt8) (d e:Int) (f:List UInt8):W64 [.agg #[iv a,iv b,lst c], .agg #[iv d,iv e,lst f]] H Bd K=((sm (GAct.mk a (GPut.mk b c)))/\K (.bool (decide ((GAct.mk a (GPut.mk b c))=(GAct.mk d (GPut.mk e f))))) H Bd):=ex2 (GAct.mk a (GPut.mk b c)) (GAct.mk d (GPut.mk e f)) rfl
theorem W64_ok:OK 64 W64:=by
 rintro _ H Bd K ⟨x,y,rfl,hpre,hK⟩
 refine fnp pok (uA.uB W66_ok) [] hK func64 ntmps64 call64 [.tmp 4] fun hb ha=>?_
 simp only[sm_GAct]at hpre
 simp (maxSteps:=2000000) (disch:=first|exact dq|fail) only[go_sem,push_cast,qB,qA,qL hb,qE hb,hpre]
 cases x;cases y
 simp only[Cnp,GAct.mk.injEq]
 constructor <;>intros <;>simp_all
def W33:qH:=fun g' H Bd K=>∃(xs:List GAct) (ys:List GAct),g'=[lst xs,lst ys]/\((sm xs)/\K (.bool (decide (xs=ys))) H Bd)
@[go_sem ↓] theorem W33_eq (a b:List GAct):W33 [lst a,lst b] H Bd K=((sm a)/\K (.bool (decide (a=b))) H Bd):=ex2 a b rfl
theorem W33_ok:OK 33 W33:=by
 rintro _ H Bd K ⟨xs,ys,rfl,hpre,hK⟩
 refine fnp pok (uA.uB W64_ok) [(6,[0,1,2,3,4,5,6,7,8,9],[z0 0,z0 1,z0 2,z0 3,z0 4,z0 5,z0 6,z0 7,z0 8,z0 9], .nil)] hK func33 ntmps33 call33 [.tmp 4] fun hb ha=>?_
 refine jF pok fun cv=>?_
 have hlen:=qS hpre
 simp (maxSteps:=2000000) (disch:=first|exact dq|fail) only[go_sem,push_cast,qB,qA,qL hb,qE hb]
 refine Cnp.of (fun hl=>?_) (fun hl=>cmp_len (by omega))
 have hl':xs.length=ys.length:=by omega
 refine jA (fun i=>∀j,j<i->xs[j]? =ys[j]?) xs.length (fun i=>[(0,lst xs),(1,lst ys),(5,iv i)]) (fun j h=>by omega) (by simp only[go_sem,push_cast,qB,qA]) ?_
 intro i B0 hI hi hB
 refine cv (by kernel_rfl) ?_
 rcases xM i xs.length with hlt|hge
 ·have e1:xs[i]? =some xs[i]:=xA hlt
  have e2:ys[i]? =some (ys[i]'(by omega)):=xA _
  have hx:=yP hpre (xH hlt)
  simp (maxSteps:=2000000) (disch:=first|exact dq|fail) only[go_sem,push_cast,qB,qA,qL hb,qE hb,e1,e2,hx]
  exact cmp_step hl' hI hlt (by omega) rfl fun h=>h
 ·simp (maxSteps:=2000000) (disch:=first|exact dq|fail) only[go_sem,push_cast,qB,qA,qL hb,qE hb]
  refine cv (by kernel_rfl) ?_
  simp (maxSteps:=2000000) (disch:=first|exact dq|fail) only[go_sem,push_cast,qB,qA,qL hb,qE hb]
  exact cmp_end hl' hI hge
def W10:qH:=fun g' H Bd K=>∃(x:GActsResult) (y:GActsResult),g'=[.agg (enc x).toArray, .agg (enc y).toArray]/\((sm x)/\K (.bool (decide (x=y))) H Bd)
@[go_sem ↓] theorem W10_eq (a:Int) (b:List GAct) (c:Int) (d:List GAct):W10 [.agg #[iv a,lst b], .agg #[iv c,lst d]] H Bd K=((sm (GActsResult.mk a b))/\K (.bool (decide ((GActsResult.mk a b)=(GActsResult.mk c d)))) H Bd):=ex2 (GActsResult.mk a b) (GActsResult.mk c d) rfl
theorem W10_ok:OK 10 W10:=by
 rintro _ H Bd K ⟨x,y,rfl,hpre,hK⟩
 refine fnp pok (uA.uB W33_ok) [] hK func10 ntmps10 call10 [.tmp 4] fun hb ha=>?_
 simp only[sm_GActsResult]at hpre
 simp (maxSteps:=2000000) (disch:=first|exact dq|fail) only[go_sem,push_cast,qB,qA,qL hb,qE hb,hpre]
 cases x;cases y
 simp only[Cnp,GActsResult.mk.injEq]
 constructor <;>intros <;>simp_all
theorem N10_pure:PureV W10:=by
 rintro _ H Bd K ⟨x0,x1,rfl,hpre,hK⟩
 exact⟨_,by first|exact .bool _|exact .int _ _|exact .string _|exact vc_enc _,hK,fun H' K' hs h=>⟨x0,x1,rfl,hpre,h⟩⟩
def N10:qH:=LendN W10
@[go_sem ↓] theorem N10_eq (a b:Value):N10 [a,b] H Bd K=Held (N10 [a,b] H Bd K) ⟨⟩:=(rfl)
theorem N10_ok:OK 10 N10:=LendN_ok W10_ok N10_pure
def W34:qH:=fun g' H Bd K=>∃(xs:List (List UInt8)) (ys:List (List UInt8)),g'=[lst xs,lst ys]/\((sm xs)/\K (.bool (decide (xs=ys))) H Bd)
@[go_sem ↓] theorem W34_eq (a b:List (List UInt8)):W34 [lst a,lst b] H Bd K=((sm a)/\K (.bool (decide (a=b))) H Bd):=ex2 a b rfl
theorem W34_ok:OK 34 W34:=by
 rintro _ H Bd K ⟨xs,ys,rfl,hpre,hK⟩
 refine fnp pok (uA.uB W65_ok) [(6,[0,1,2,3,4,5,6,7,8,9],[z0 0,z0 1,z0 2,z0 3,z0 4,z0 5,z0 6,z0 7,z0 8,z0 9], .nil)] hK func34 ntmps34 call34 [.tmp 4] fun hb ha=>?_
 refine jF pok fun cv=>?_
 have hlen:=qS hpre
 simp (maxSteps:=2000000) (disch:=first|exact dq|fail) only[go_sem,push_cast,qB,qA,qL hb,qE hb]
 refine Cnp.of (fun hl=>?_) (fun hl=>cmp_len (by omega))
 have hl':xs.length=ys.length:=by omega
 refine jA (fun i=>∀j,j<i->xs[j]? =ys[j]?) xs.length (fun i=>[(0,lst xs),(1,lst ys),(5,iv i)]) (fun j h=>by omega) (by simp only[go_sem,push_cast,qB,qA]) ?_
 intro i B0 hI hi hB
 refine cv (by kernel_rfl) ?_
 rcases xM i xs.length with hlt|hge
 ·have e1:xs[i]? =some xs[i]:=xA hlt
  have e2:ys[i]? =some (ys[i]'(by omega)):=xA _
  have hx:=yP hpre (xH hlt)
  simp (maxSteps:=2000000) (disch:=first|exact dq|fail) only[go_sem,push_cast,qB,qA,qL hb,qE hb,e1,e2,hx]
  exact cmp_step hl' hI hlt (by omega) rfl fun h=>h
 ·simp (maxSteps:=2000000) (disch:=first|exact dq|fail) only[go_sem,push_cast,qB,qA,qL hb,qE hb]
  refine cv (by kernel_rfl) ?_
  simp (maxSteps:=2000000) (disch:=first|exact dq|fail) only[go_sem,push_cast,qB,qA,qL hb,qE hb]
  exact cmp_end hl' hI hge
def W35:qH:=fun g' H Bd K=>∃(xs:List GPut) (ys:List GPut),g'=[lst xs,lst ys]/\((sm xs)/\K (.bool (decide (xs=ys))) H Bd)
@[go_sem ↓] theorem W35_eq (a b:List GPut):W35 [lst a,lst b] H Bd K=((sm a)/\K (.bool (decide (a=b))) H Bd):=ex2 a b rfl
theorem W35_ok:OK 35 W35:=by
 rintro _ H Bd K ⟨xs,ys,rfl,hpre,hK⟩
 refine fnp pok (uA.uB W66_ok) [(6,[0,1,2,3,4,5,6,7,8,9],[z0 0,z0 1,z0 2,z0 3,z0 4,z0 5,z0 6,z0 7,z0 8,z0 9], .nil)] hK func35 ntmps35 call35 [.tmp 4] fun hb ha=>?_
 refine jF pok fun cv=>?_
 have hlen:=qS hpre
 simp (maxSteps:=2000000) (disch:=first|exact dq|fail) only[go_sem,push_cast,qB,qA,qL hb,qE hb]
 refine Cnp.of (fun hl=>?_) (fun hl=>cmp_len (by omega))
 have hl':xs.length=ys.length:=by omega
 refine jA (fun i=>∀j,j<i->xs[j]? =ys[j]?) xs.length (fun i=>[(0,lst xs),(1,lst ys),(5,iv i)]) (fun j h=>by omega) (by simp only[go_sem,push_cast,qB,qA]) ?_
 intro i B0 hI hi hB
 refine cv (by kernel_rfl) ?_
 rcases xM i xs.length with hlt|hge
 ·have e1:xs[i]? =some xs[i]:=xA hlt
  have e2:ys[i]? =some (ys[i]'(by omega)):=xA _
  have hx:=yP hpre (xH hlt)
  simp (maxSteps:=2000000) (disch:=first|exact dq|fail) only[go_sem,push_cast,qB,qA,qL hb,qE hb,e1,e2,hx]
  exact cmp_step hl' hI hlt (by omega) rfl fun h=>h
 ·simp (maxSteps:=2000000) (disch:=first|exact dq|fail) only[go_sem,push_cast,qB,qA,qL hb,qE hb]
  refine cv (by kernel_rfl) ?_
  simp (maxSteps:=2000000) (disch:=first|exact dq|fail) only[go_sem,push_cast,qB,qA,qL hb,qE hb]
  exact cmp_end hl' hI hge
def W11:qH:=fun g' H Bd K=>∃(x:GDisk) (y:GDisk),g'=[.agg (enc x).toArray, .agg (enc y).toArray]/\((sm x)/\K (.bool (decide (x=y))) H Bd)
@[go_sem ↓] theorem W11_eq (a:List (List UInt8)) (b:List GPut) (c:List (List UInt8)) (d:List GPut):W11 [.agg #[lst a,lst b], .agg #[lst c,lst d]] H Bd K=((sm (GDisk.mk a b))/\K (.bool (decide ((GDisk.mk a b)=(GDisk.mk c d)))) H Bd):=ex2 (GDisk.mk a b) (GDisk.mk c d) rfl
theorem W11_ok:OK 11 W11:=by
 rintro _ H Bd K ⟨x,y,rfl,hpre,hK⟩
 refine fnp pok ((uA.uB W34_ok).uB W35_ok) [] hK func11 ntmps11 call11 [.tmp 4] fun hb ha=>?_
 simp only[sm_GDisk]at hpre
 simp (maxSteps:=2000000) (disch:=first|exact dq|fail) only[go_sem,push_cast,qB,qA,qL hb,qE hb,hpre]
 cases x;cases y
 simp only[Cnp,GDisk.mk.injEq]
 constructor <;>intros <;>simp_all
theorem N11_pure:PureV W11:=by
 rintro _ H Bd K ⟨x0,x1,rfl,hpre,hK⟩
 exact⟨_,by first|exact .bool _|exact .int _ _|exact .string _|exact vc_enc _,hK,fun H' K' hs h=>⟨x0,x1,rfl,hpre,h⟩⟩
def N11:qH:=LendN W11
@[go_sem ↓] theorem N11_eq (a b:Value):N11 [a,b] H Bd K=Held (N11 [a,b] H Bd K) ⟨⟩:=(rfl)
theorem N11_ok:OK 11 N11:=LendN_ok W11_ok N11_pure
@[go_sem ↓] def BW67 (q:Int) (n:Nat) (l:Nat) (c:Nat):Tq:=fun H Bd K=>(Yld (H n) fun b0=>(b0.own=true/\b0.cells.length=l*1/\0<=q/\q+(l*1:Nat)<=4611686018427387904/\l<=281474976710656)/\K (iv (q+(l*1:Nat))) (upd H n (some ⟨qO (mkL UInt8 q l),true⟩)) Bd)
def W67:qH:=fun g' H Bd K=>∃(q:Int) (n:Nat) (l:Nat) (c:Nat),g'=[sv n 1 l c,iv q]/\BW67 q n l c H Bd K
@[go_sem ↓] theorem W67_eq (a b c:Nat) (d:Int):W67 [sv a 1 b c,iv d] H Bd K=BW67 d a b c H Bd K:=by
 refine propext ⟨fun h=>?_,fun h=>⟨_,_,_,_,rfl,h⟩⟩
 obtain⟨q',n',l',c',e,h⟩:=h
 skip
 simp only[xG,Value.agg.injEq,jD,xK,Value.bool.injEq,Value.string.injEq,xY,Value.func.injEq,Value.pointer.injEq,xE,Addr.mk.injEq,lst_inj,true_and,and_true,and_assoc]at e
 obtain⟨rfl,rfl,rfl,rfl⟩:=e
 exact h
theorem W67_ok:OK 67 W67:=by
 rintro _ H Bd K ⟨q,n,l,c,rfl,⟨cells,ow⟩,hb0,⟨ho,hc,h1,h2,h3⟩,hK⟩
 simp only at ho hc
 subst ho
 refine fn_set pok uA [] _ hK (fun hh=>hb_setF hh hb0 _) func67 rfl (rs:=[.tmp 4]) rfl ntmps67 (by simp) call67 (by kernel_rfl) (fun ha hb=> .int _ _) (fun hb ha=>?_)
 refine jF pok fun cv=>?_
 have hLe:=le_own hb0
 refine R hb0 ?_
 refine tr_st (X:=Nat) (fun i=>i<=l) (fun i=>l-i) (fun i=>[(0,sv n 1 l c),(1,iv (q+(i*1:Nat))),(5,iv i)]) (fun i=>upd H n (some ⟨mkC UInt8 q i cells,true⟩)) 0 (xT _) (by simp only[go_sem,push_cast,qB,qA,mkC_zero,hLe,Nat.zero_mul,Int.natCast_zero,Int.add_zero]<;>exact cT) (by first|exact Le.refl _|simp (disch:=first|assumption|omega) only[go_sem,push_cast,qB,qA,qU,jP,mkC_zero,hLe,Nat.zero_mul,Int.natCast_zero,Int.add_zero]) ?_
 intro i Bi hIi hBi hbi Fi hFi
 refine cv (by kernel_rfl) ?_
 rcases xM i l with hlt|hge
 ·obtain⟨b,hbv⟩:∃b:UInt8,UInt8.ofNat ((q+(i*1:Nat))%256).toNat=b:=⟨_,rfl⟩
  have hv:(q+(i:Int))%256=(b.toNat:Int):=by rw[<-hbv,UInt8.toNat_ofNat'];omega
  have hset:(mkC UInt8 q i cells).set i (.int .u8 (b.toNat:Int))=mkC UInt8 q (i+1) cells:=by rw[<-hbv];exact mkC_set1 (n:=l) q cells hc hlt (by rw[Nat.mul_one];rfl)
  have hln:(mkC UInt8 q i cells).length=cells.length:=mkC_len q i cells (by rw[hc];exact Nat.mul_le_mul_right _ hIi)
  refine R (cj3 hv hset hln) ?_
  refine hFi (i+1) _ _ _ ?_ ?_ (by first|exact Le.refl _|simp (disch:=first|assumption|omega|(simp (disch:=omega) only[qG,qE hb];done)) only[go_sem,push_cast,qB,qA,qU,jP,qG,qE hb,hset]) (by simp only[go_sem,push_cast,qB,qA]) (by simp only[go_sem,push_cast,qB,qA,hset]<;>exact cT)
  all_goals omega
 ·refine R0 ?_
  obtain rfl:i=l:=by omega
  rw[mkC_end q cells hc]
  refine cv (by kernel_rfl) ?_
  exact R0 trivial
def W36:qH:=fun g' H Bd K=>∃(xs:List (List UInt8)) (n c:Nat) (q:Int),g'=[sv n 1 xs.length c,iv q]/\(OV.Has H n (OEnc.oc xs)/\sm xs/\0<=q/\q+(kD xs:Nat)<=4611686018427387904)/\K (iv (q+(kD xs:Nat))) (oput H n (OEnc.oc (mkDL q xs))) Bd
@[go_sem ↓] theorem W36_eq (a b:Value):W36 [a,b] H Bd K=Held (W36 [a,b] H Bd K) ⟨⟩:=(rfl)
theorem W36_ok:OK 36 W36:=by
 rintro _ H Bd K ⟨xs,n,c,q,rfl,⟨hH,hsm,h1,h2⟩,hK⟩
 refine fn_set pok (uA.uB W67_ok) [] _ hK (fun hh=>HB_oput hh hH (OEnc.ok _) (vG _ _)) func36 rfl (rs:=[.tmp 4]) rfl ntmps36 (by simp) call36 (by kernel_rfl) (fun ha hb=> .int _ _) (fun hb ha=>?_)
 refine jF pok fun cv=>?_
 have hlen:=qS hsm
 refine R0 ?_
 refine tr_st (X:=Nat×AH) (fun x=>x.1<=xs.length/\OV.Has x.2 n (OEnc.oc (mkTo q x.1 xs))/\(∀m,m<n\/n+OV.numL (OEnc.oc xs)<=m->x.2 m=H m)) (fun x=>xs.length-x.1) (fun x=>[(0,sv n 1 xs.length c),(1,iv (q+(kD (xs.take x.1):Nat))),(5,iv (x.1:Nat))]) (fun x=>x.2) (0,H) (⟨xT _,by rw[mkTo_zero];exact hH,fun m _=>rfl⟩) (by simp only[go_sem,push_cast,qB,qA,List.take_zero,cntD_nil,Int.natCast_zero,Int.add_zero]<;>exact cT) (by first|exact Le.refl _|simp (disch:=first|assumption|omega) only[go_sem,push_cast,qB,qA,qU,jP,List.take_zero,cntD_nil,Int.natCast_zero,Int.add_zero]) ?_
 intro x Bx hIx hBx hbx Fx hFx
 refine cv (by kernel_rfl) ?_
 obtain⟨i,G⟩:=x
 obtain⟨i1,i2,i3⟩:=hIx
 simp only at i1 i2 i3
 rcases xM i xs.length with hlt|hge
 ·have hlt2:i<(mkTo q i xs).length:=by rw[mkTo_len];exact hlt
  have gx:=mkTo_at q hlt hlt2
  obtain⟨g1,g2⟩:=has_elems.1 i2
  have g3:=g2 i hlt2
  rw[gx]at g3
  have hx:=yP hsm (xH hlt)
  have hct:=cntD_take (i+1) xs
  have hcs:=cntD_succ hlt
  have hal:=valL_all (n+1) (mkTo q i xs)
  rw[mkTo_len]at hal
  have hms:=mkTo_succ q hlt
  have hnn:OV.numL (OEnc.oc xs)=xs.length*1+1:=oc_num xs
  simp only[go_sem,Nat.mul_one]at g3
  have g4:=valL_cell (n+1) (j:=0) hlt2 (by decide)
  rw[gx]at g4
  have hk1:Enc.k (List UInt8)=1:=rfl
  simp only[hk1,go_sem,Nat.mul_one,Nat.add_zero]at g4 hal
  have hy:MkD.put (q+(kD (xs.take i):Nat)) xs[i]=mkL UInt8 (q+(kD (xs.take i):Nat)) xs[i].length:=rfl
  have hy2:MkD.cnt xs[i]=xs[i].length*1:=rfl
  rw[hy]at hms
  rw[hy2,Nat.mul_one]at hcs
  have hl:=qS hx
  have hsets:=valL_set (n+1) hlt2 (mkL UInt8 (q+(kD (xs.take i):Nat)) xs[i].length)
  simp (maxSteps:=2000000) (disch:=first|exact dq|fail) only[go_sem,push_cast,qB,qA,qL hb,qE hb,g1,g3,g4,hal,hlt,mkL_len,jJ]
  refine hFx (i+1,upd G (n+1+i) (some ⟨qO (mkL UInt8 (q+(kD (xs.take i):Nat)) xs[i].length),true⟩)) _ _ _ ?_ ?_ (by first|exact Le.refl _|simp (disch:=first|assumption|omega|(simp (disch:=omega) only[qG,qE hb];done)) only[go_sem,push_cast,qB,qA,qU,jP,qG,qE hb,hcs,Int.natCast_add,Int.add_assoc]) (by simp only[go_sem,push_cast,qB,qA]) (by simp only[go_sem,push_cast,qB,qA,hcs,Int.natCast_add,Int.add_assoc]<;>exact cT)
  ·show xs.length-(i+1)<xs.length-i
   omega
  ·refine⟨hlt,?_,fun m hm=>?_⟩
   ·show OV.Has _ n (OEnc.oc (mkTo q (i+1) xs))
    rw[hms]
    refine has_set hlt2 i2 ?_ ?_ fun m h1 h2=>?_
    ·show upd G (n+1+i) _ n=_
     rw[qD _ _ (by omega),g1,<-hsets]
     have e5:OV.valL (n+1+i*1) (OEnc.oc (mkL UInt8 (q+(kD (xs.take i):Nat)) xs[i].length))=[sv (n+1+i) 1 xs[i].length (xs[i].length+1)]:=by simp only[go_sem,Nat.mul_one,mkL_len]
     rw[e5,hk1,Nat.mul_one]
     have e6:=set_same g4
     exact congrArg (fun z=>some (⟨z,true⟩:Blk)) e6.symm
    ·simp only[go_sem,Nat.mul_one,qJ]
    ·exact qD _ _ (by omega)
   ·show upd G _ _ m=H m
    rw[qD _ _ (by omega)];exact i3 m hm
 ·refine R0 ?_
  obtain rfl:i=xs.length:=by omega
  rw[mkTo_end]at i2
  have hG:=oput_eq i2 (by rw[vG];exact i3)
  refine cv (by kernel_rfl) ?_
  refine R (@List.take_length UInt8) ?_
  rw[hG];exact⟨Le.refl _,by rw[wH]⟩
def W37:qH:=fun g' H Bd K=>∃(xs:List GPut) (n c:Nat) (q:Int),g'=[sv n 2 xs.length c,iv q]/\(OV.Has H n (OEnc.oc xs)/\sm xs/\0<=q/\q+(kD xs:Nat)<=4611686018427387904)/\K (iv (q+(kD xs:Nat))) (oput H n (OEnc.oc (mkDL q xs))) Bd
@[go_sem ↓] theorem W37_eq (a b:Value):W37 [a,b] H Bd K=Held (W37 [a,b] H Bd K) ⟨⟩:=(rfl)
theorem W37_ok:OK 37 W37:=by
 rintro _ H Bd K ⟨xs,n,c,q,rfl,⟨hH,hsm,h1,h2⟩,hK⟩
 refine fn_set pok (uA.uB W67_ok) [] _ hK (fun hh=>HB_oput hh hH (OEnc.ok _) (vG _ _)) func37 rfl (rs:=[.tmp 4]) rfl ntmps37 (by simp) call37 (by kernel_rfl) (fun ha hb=> .int _ _) (fun hb ha=>?_)
 refine jF pok fun cv=>?_
 have hlen:=qS hsm
 refine R0 ?_
 refine tr_st (X:=Nat×AH) (fun x=>x.1<=xs.length/\OV.Has x.2 n (OEnc.oc (mkTo q x.1 xs))/\(∀m,m<n\/n+OV.numL (OEnc.oc xs)<=m->x.2 m=H m)) (fun x=>xs.length-x.1) (fun x=>[(0,sv n 2 xs.length c),(1,iv (q+(kD (xs.take x.1):Nat))),(5,iv (x.1:Nat))]) (fun x=>x.2) (0,H) (⟨xT _,by rw[mkTo_zero];exact hH,fun m _=>rfl⟩) (by simp only[go_sem,push_cast,qB,qA,List.take_zero,cntD_nil,Int.natCast_zero,Int.add_zero]<;>exact cT) (by first|exact Le.refl _|simp (disch:=first|assumption|omega) only[go_sem,push_cast,qB,qA,qU,jP,List.take_zero,cntD_nil,Int.natCast_zero,Int.add_zero]) ?_
 intro x Bx hIx hBx hbx Fx hFx
 refine cv (by kernel_rfl) ?_
 obtain⟨i,G⟩:=x
 obtain⟨i1,i2,i3⟩:=hIx
 simp only at i1 i2 i3
 rcases xM i xs.length with hlt|hge
 ·have hlt2:i<(mkTo q i xs).length:=by rw[mkTo_len];exact hlt
  have gx:=mkTo_at q hlt hlt2
  obtain⟨g1,g2⟩:=has_elems.1 i2
  have g3:=g2 i hlt2
  rw[gx]at g3
  have hx:=yP hsm (xH hlt)
  have hct:=cntD_take (i+1) xs
  have hcs:=cntD_succ hlt
  have hal:=valL_all (n+1) (mkTo q i xs)
  rw[mkTo_len]at hal
  have hms:=mkTo_succ q hlt
  have hnn:OV.numL (OEnc.oc xs)=xs.length*1+1:=oc_num xs
  simp only[go_sem,Nat.mul_one,Nat.add_zero]at g3
  have hk1:Enc.k GPut=2:=rfl
  have g4:=valL_cell (n+1) (j:=0) hlt2 (by decide)
  have g5:=valL_cell (n+1) (j:=1) hlt2 (by decide)
  rw[gx]at g4 g5
  simp only[hk1,go_sem,Nat.mul_one,Nat.add_zero,wD,wM,List.cons_append,List.nil_append]at g4 g5 hal
  have hy:MkD.put (q+(kD (xs.take i):Nat)) xs[i]=⟨q+(kD (xs.take i):Nat),mkL UInt8 (q+(kD (xs.take i):Nat)+1) xs[i].bytes.length⟩:=rfl
  have hy2:MkD.cnt xs[i]=xs[i].bytes.length+1:=rfl
  rw[hy]at hms
  rw[hy2]at hcs
  have hl:=qS hx.2
  have hsets:=valL_set (n+1) hlt2 (⟨q+(kD (xs.take i):Nat),mkL UInt8 (q+(kD (xs.take i):Nat)+1) xs[i].bytes.length⟩:GPut)
  have e7:=set_lset2 (v:=iv (q+(kD (xs.take i):Nat))) g5
  have g6:((OV.valL (n+1) (ocL (mkTo q i xs))).set (i*2) (iv (q+(kD (xs.take i):Nat))))[i*2+1]? =some (sv (n+1+i) 1 xs[i].bytes.length (xs[i].bytes.length+1)):=by rw[wS (by omega)];exact g5
  simp (maxSteps:=2000000) (disch:=first|exact dq|fail) only[go_sem,push_cast,qB,qA,qL hb,qE hb,g1,g3,g4,g5,g6,hal,hlt,mkL_len,jJ,List.length_set]
  refine hFx (i+1,upd (upd G n (some ⟨(OV.valL (n+1) (ocL (mkTo q i xs))).set (i*2) (iv (q+(kD (xs.take i):Nat))),true⟩)) (n+1+i) (some ⟨qO (mkL UInt8 (q+(kD (xs.take i):Nat)+1) xs[i].bytes.length),true⟩)) _ _ _ ?_ ?_ (by first|exact Le.refl _|simp (disch:=first|assumption|omega|(simp (disch:=omega) only[qG,qE hb];done)) only[go_sem,push_cast,qB,qA,qU,jP,qG,qE hb,hcs,Int.natCast_add,Int.add_assoc]) (by simp only[go_sem,push_cast,qB,qA]) (by simp only[go_sem,push_cast,qB,qA,hcs,Int.natCast_add,Int.add_assoc]<;>exact cT)
  ·show xs.length-(i+1)<xs.length-i
   omega
  ·refine⟨hlt,?_,fun m hm=>?_⟩
   ·show OV.Has _ n (OEnc.oc (mkTo q (i+1) xs))
    rw[hms]
    refine has_set hlt2 i2 ?_ ?_ fun m h1 h2=>?_
    ·show upd (upd G n _) (n+1+i) _ n=_
     rw[qD _ _ (by omega),qJ,e7,<-hsets]
     have e5:OV.valL (n+1+i*1) (OEnc.oc (⟨q+(kD (xs.take i):Nat),mkL UInt8 (q+(kD (xs.take i):Nat)+1) xs[i].bytes.length⟩:GPut))=[iv (q+(kD (xs.take i):Nat)),sv (n+1+i) 1 xs[i].bytes.length (xs[i].bytes.length+1)]:=by simp only[go_sem,Nat.mul_one,Nat.add_zero,mkL_len,List.cons_append,List.nil_append]
     rw[e5,hk1]
    ·simp only[go_sem,Nat.mul_one,Nat.add_zero,qJ,and_true,true_and]
    ·show upd (upd G n _) (n+1+i) _ m=_
     rw[qD _ _ (by omega),qD _ _ h1]
   ·show upd (upd G n _) (n+1+i) _ m=H m
    rw[qD _ _ (by omega),qD _ _ (by omega)];exact i3 m hm
 ·refine R0 ?_
  obtain rfl:i=xs.length:=by omega
  rw[mkTo_end]at i2
  have hG:=oput_eq i2 (by rw[vG];exact i3)
  refine cv (by kernel_rfl) ?_
  refine R (@List.take_length UInt8) ?_
  rw[hG];exact⟨Le.refl _,by rw[wH]⟩
def W12:qH:=fun g' H Bd K=>∃(x:GDisk) (n:Nat) (q:Int),g'=[.agg #[sv n 1 (x.sectors).length ((x.sectors).length+1),sv (n+OV.numL (OEnc.oc (x.sectors))) 2 (x.pending).length ((x.pending).length+1)],iv q]/\(OV.Has H n (OEnc.oc x)/\sm x/\0<=q/\q+(kD x.sectors:Nat)+(kD x.pending:Nat)<=4611686018427387904)/\K (iv (q+(kD x.sectors:Nat)+(kD x.pending:Nat))) (oput H n (OEnc.oc (⟨mkDL (q) x.sectors,mkDL (q+(kD x.sectors:Nat)) x.pending⟩:GDisk))) Bd
@[go_sem ↓] theorem W12_eq (a b:Value):W12 [a,b] H Bd K=Held (W12 [a,b] H Bd K) ⟨⟩:=(rfl)
theorem W12_ok:OK 12 W12:=by
 rintro _ H Bd K ⟨x,n,q,rfl,⟨hH,hsm,h1,h2⟩,hK⟩
 have hnn:OV.numL (OEnc.oc (⟨mkDL (q) x.sectors,mkDL (q+(kD x.sectors:Nat)) x.pending⟩:GDisk))=OV.numL (OEnc.oc x):=by simp only[go_sem,vG]
 refine fn_set pok ((uA.uB W36_ok).uB W37_ok) [] _ hK (fun hh=>HB_oput hh hH (OEnc.ok _) hnn) func12 rfl (rs:=[.tmp 4]) rfl ntmps12 (by simp) call12 (by kernel_rfl) (fun ha hb=> .int _ _) (fun hb ha=>?_)
 have hlt:=has_lt hb hH
 simp only[go_sem]at hH hlt
 simp only[sm_GDisk]at hsm
 obtain⟨hH0,hH1⟩:=hH
 obtain⟨hm0,hm1⟩:=hsm
 have hp0:0<OV.numL (OEnc.oc x.sectors):=by rw[oc_num];omega
 have hp1:0<OV.numL (OEnc.oc x.pending):=by rw[oc_num];omega
 have he0:OV.numL (OEnc.oc (mkDL (q) x.sectors))=OV.numL (OEnc.oc x.sectors):=vG _ _
 have he1:OV.numL (OEnc.oc (mkDL (q+(kD x.sectors:Nat)) x.pending))=OV.numL (OEnc.oc x.pending):=vG _ _
 refine R0 ?_
 refine held ⟨x.sectors,_,_,_,rfl,⟨by simp (disch:=omega) only[go_sem,vG,hH0],hm0,by omega,by omega⟩,?_⟩
 refine R (cj he0 he1) ?_
 refine held ⟨x.pending,_,_,_,rfl,⟨by simp (disch:=omega) only[go_sem,vG,hH1],hm1,by omega,by omega⟩,?_⟩
 refine R (cj he0 he1) ?_
 exact(Le_oput _ _ (Le_oput _ _ (Le_new (Le.refl H) (hb.fresh Bd (xC Bd)))))
def W38:qH:=fun g' H Bd K=>∃(xs:List GAct) (n c:Nat) (q:Int),g'=[sv n 3 xs.length c,iv q]/\(OV.Has H n (OEnc.oc xs)/\sm xs/\0<=q/\q+(kD xs:Nat)<=4611686018427387904)/\K (iv (q+(kD xs:Nat))) (oput H n (OEnc.oc (mkDL q xs))) Bd
@[go_sem ↓] theorem W38_eq (a b:Value):W38 [a,b] H Bd K=Held (W38 [a,b] H Bd K) ⟨⟩:=(rfl)
theorem W38_ok:OK 38 W38:=by
 rintro _ H Bd K ⟨xs,n,c,q,rfl,⟨hH,hsm,h1,h2⟩,hK⟩
 refine fn_set pok (uA.uB W67_ok) [] _ hK (fun hh=>HB_oput hh hH (OEnc.ok _) (vG _ _)) func38 rfl (rs:=[.tmp 4]) rfl ntmps38 (by simp) call38 (by kernel_rfl) (fun ha hb=> .int _ _) (fun hb ha=>?_)
 refine jF pok fun cv=>?_
 have hlen:=qS hsm
 refine R0 ?_
 refine tr_st (X:=Nat×AH) (fun x=>x.1<=xs.length/\OV.Has x.2 n (OEnc.oc (mkTo q x.1 xs))/\(∀m,m<n\/n+OV.numL (OEnc.oc xs)<=m->x.2 m=H m)) (fun x=>xs.length-x.1) (fun x=>[(0,sv n 3 xs.length c),(1,iv (q+(kD (xs.take x.1):Nat))),(5,iv (x.1:Nat))]) (fun x=>x.2) (0,H) (⟨xT _,by rw[mkTo_zero];exact hH,fun m _=>rfl⟩) (by simp only[go_sem,push_cast,qB,qA,List.take_zero,cntD_nil,Int.natCast_zero,Int.add_zero]<;>exact cT) (by first|exact Le.refl _|simp (disch:=first|assumption|omega) only[go_sem,push_cast,qB,qA,qU,jP,List.take_zero,cntD_nil,Int.natCast_zero,Int.add_zero]) ?_
 intro x Bx hIx hBx hbx Fx hFx
 refine cv (by kernel_rfl) ?_
 obtain⟨i,G⟩:=x
 obtain⟨i1,i2,i3⟩:=hIx
 simp only at i1 i2 i3
 rcases xM i xs.length with hlt|hge
 ·have hlt2:i<(mkTo q i xs).length:=by rw[mkTo_len];exact hlt
  have gx:=mkTo_at q hlt hlt2
  obtain⟨g1,g2⟩:=has_elems.1 i2
  have g3:=g2 i hlt2
  rw[gx]at g3
  have hx:=yP hsm (xH hlt)
  have hct:=cntD_take (i+1) xs
  have hcs:=cntD_succ hlt
  have hal:=valL_all (n+1) (mkTo q i xs)
  rw[mkTo_len]at hal
  have hms:=mkTo_succ q hlt
  have hnn:OV.numL (OEnc.oc xs)=xs.length*1+1:=oc_num xs
  simp only[go_sem,Nat.mul_one,Nat.add_zero]at g3
  have hk1:Enc.k GAct=3:=rfl
  have g4:=valL_cell (n+1) (j:=0) hlt2 (by decide)
  have g5:=valL_cell (n+1) (j:=1) hlt2 (by decide)
  have g6:=valL_cell (n+1) (j:=2) hlt2 (by decide)
  rw[gx]at g4 g5 g6
  simp only[hk1,go_sem,Nat.mul_one,Nat.add_zero,wD,wM,List.cons_append,List.nil_append]at g4 g5 g6 hal
  have hy:MkD.put (q+(kD (xs.take i):Nat)) xs[i]=⟨q+(kD (xs.take i):Nat),⟨q+(kD (xs.take i):Nat)+1,mkL UInt8 (q+(kD (xs.take i):Nat)+1+1) xs[i].put.bytes.length⟩⟩:=rfl
  have hy2:MkD.cnt xs[i]=xs[i].put.bytes.length+2:=rfl
  rw[hy]at hms
  rw[hy2]at hcs
  have hl:=qS hx.2.2
  have hsets:=valL_set (n+1) hlt2 (⟨q+(kD (xs.take i):Nat),⟨q+(kD (xs.take i):Nat)+1,mkL UInt8 (q+(kD (xs.take i):Nat)+1+1) xs[i].put.bytes.length⟩⟩:GAct)
  have e7:=set_lsetA (v:=iv (q+(kD (xs.take i):Nat))) (w:=iv (q+(kD (xs.take i):Nat)+1)) g6
  have g7:(((OV.valL (n+1) (ocL (mkTo q i xs))).set (i*3) (iv (q+(kD (xs.take i):Nat)))).set (i*3+1) (iv (q+(kD (xs.take i):Nat)+1)))[i*3+2]? =some (sv (n+1+i) 1 xs[i].put.bytes.length (xs[i].put.bytes.length+1)):=by rw[wS (by omega),wS (by omega)];exact g6
  simp (maxSteps:=2000000) (disch:=first|exact dq|fail) only[go_sem,push_cast,qB,qA,qL hb,qE hb,g1,g3,g4,g5,g6,g7,hal,hlt,mkL_len,jJ,List.length_set]
  refine hFx (i+1,upd (upd G n (some ⟨((OV.valL (n+1) (ocL (mkTo q i xs))).set (i*3) (iv (q+(kD (xs.take i):Nat)))).set (i*3+1) (iv (q+(kD (xs.take i):Nat)+1)),true⟩)) (n+1+i) (some ⟨qO (mkL UInt8 (q+(kD (xs.take i):Nat)+1+1) xs[i].put.bytes.length),true⟩)) _ _ _ ?_ ?_ (by first|exact Le.refl _|simp (disch:=first|assumption|omega|(simp (disch:=omega) only[qG,qE hb];done)) only[go_sem,push_cast,qB,qA,qU,jP,qG,qE hb,hcs,Int.natCast_add,Int.add_assoc]) (by simp only[go_sem,push_cast,qB,qA]) (by simp only[go_sem,push_cast,qB,qA,hcs,Int.natCast_add,Int.add_assoc]<;>exact cT)
  ·show xs.length-(i+1)<xs.length-i
   omega
  ·refine⟨hlt,?_,fun m hm=>?_⟩
   ·show OV.Has _ n (OEnc.oc (mkTo q (i+1) xs))
    rw[hms]
    refine has_set hlt2 i2 ?_ ?_ fun m h1 h2=>?_
    ·show upd (upd G n _) (n+1+i) _ n=_
     rw[qD _ _ (by omega),qJ,e7,<-hsets]
     have e5:OV.valL (n+1+i*1) (OEnc.oc (⟨q+(kD (xs.take i):Nat),⟨q+(kD (xs.take i):Nat)+1,mkL UInt8 (q+(kD (xs.take i):Nat)+1+1) xs[i].put.bytes.length⟩⟩:GAct))=[iv (q+(kD (xs.take i):Nat)),iv (q+(kD (xs.take i):Nat)+1),sv (n+1+i) 1 xs[i].put.bytes.length (xs[i].put.bytes.length+1)]:=by simp only[go_sem,Nat.mul_one,Nat.add_zero,mkL_len,List.cons_append,List.nil_append]
     rw[e5,hk1]
    ·simp only[go_sem,Nat.mul_one,Nat.add_zero,qJ,and_true,true_and]
    ·show upd (upd G n _) (n+1+i) _ m=_
     rw[qD _ _ (by omega),qD _ _ h1]
   ·show upd (upd G n _) (n+1+i) _ m=H m
    rw[qD _ _ (by omega),qD _ _ (by omega)];exact i3 m hm
 ·refine R0 ?_
  obtain rfl:i=xs.length:=by omega
  rw[mkTo_end]at i2
  have hG:=oput_eq i2 (by rw[vG];exact i3)
  refine cv (by kernel_rfl) ?_
  refine R (@List.take_length UInt8) ?_
  rw[hG];exact⟨Le.refl _,by rw[wH]⟩
def W13:qH:=fun g' H Bd K=>∃(x:GActsResult) (n:Nat) (q:Int),g'=[.agg #[iv (x.code),sv n 3 (x.acts).length ((x.acts).length+1)],iv q]/\(OV.Has H n (OEnc.oc x)/\sm x/\0<=q/\q+(kD x.acts:Nat)<=4611686018427387904)/\K (iv (q+(kD x.acts:Nat))) (oput H n (OEnc.oc (⟨x.code,mkDL (q) x.acts⟩:GActsResult))) Bd
@[go_sem ↓] theorem W13_eq (a b:Value):W13 [a,b] H Bd K=Held (W13 [a,b] H Bd K) ⟨⟩:=(rfl)
theorem W13_ok:OK 13 W13:=by
 rintro _ H Bd K ⟨x,n,q,rfl,⟨hH,hsm,h1,h2⟩,hK⟩
 have hnn:OV.numL (OEnc.oc (⟨x.code,mkDL (q) x.acts⟩:GActsResult))=OV.numL (OEnc.oc x):=by simp only[go_sem,vG]
 refine fn_set pok (uA.uB W38_ok) [] _ hK (fun hh=>HB_oput hh hH (OEnc.ok _) hnn) func13 rfl (rs:=[.tmp 4]) rfl ntmps13 (by simp) call13 (by kernel_rfl) (fun ha hb=> .int _ _) (fun hb ha=>?_)
 have hlt:=has_lt hb hH
 simp only[go_sem]at hH hlt
 simp only[sm_GActsResult]at hsm
 have hH0:=hH
 obtain⟨hm0,hm1⟩:=hsm
 have hp0:0<OV.numL (OEnc.oc x.acts):=by rw[oc_num];omega
 have he0:OV.numL (OEnc.oc (mkDL (q) x.acts))=OV.numL (OEnc.oc x.acts):=vG _ _
 refine R0 ?_
 refine held ⟨x.acts,_,_,_,rfl,⟨by simp (disch:=omega) only[go_sem,vG,hH0],hm1,by omega,by omega⟩,?_⟩
 refine R he0 ?_
 exact(Le_oput _ _ (Le_new (Le.refl H) (hb.fresh Bd (xC Bd))))
@[go_sem ↓] def BW68 (xs:List UInt8) (k:Int):Tq:=fun H Bd K=>((sm xs/\0<=k/\k+(xs.length*1:Nat)<=4611686018427387904/\xs=mkL UInt8 k xs.length)/\K (iv (k+(xs.length*1:Nat))) H Bd)
def W68:qH:=fun g' H Bd K=>∃(xs:List UInt8) (k:Int),g'=[lst xs,iv k]/\BW68 xs k H Bd K
@[go_sem ↓] theorem W68_eq (a:List UInt8) (b:Int):W68 [lst a,iv b] H Bd K=BW68 a b H Bd K:=ex2 a b rfl
theorem W68_ok:OK 68 W68:=by
 rintro _ H Bd K ⟨xs,k,rfl,hpre,hK⟩
 refine fnp pok uA [] hK func68 ntmps68 call68 [.tmp 4] fun hb ha=>?_
 refine jF pok fun cv=>?_
 obtain⟨h1,h2,h3,h4⟩:=hpre
 have hlen:=qS h1
 refine R0 ?_
 refine jA (fun i=>True) (xs.length) (fun i=>[(0,lst xs),(1,iv (k+(i*1:Nat))),(5,iv i)]) (trivial) (by simp only[go_sem,push_cast,qB,qA,Int.zero_mul,Int.add_zero]) ?_
 intro i Bi hIi hii hBi
 refine cv (by kernel_rfl) ?_
 rcases xM i (xs.length)with hlti|hgei
 ·have e1:xs[i]? =some (UInt8.ofNat ((k+(i:Int))%256).toNat):=by
   rw[h4,mkL_get k hlti];first|rfl|(rw[Nat.mul_one];rfl)
  have hu:((UInt8.ofNat ((k+(i:Int))%256).toNat).toNat:Int)=(k+(i:Int))%256:=by rw[UInt8.toNat_ofNat'];omega
  exact R (cj e1 hu) trivial
 ·refine R0 ?_
  obtain rfl:i=xs.length:=by omega
  refine cv (by kernel_rfl) ?_
  exact R0 trivial
def W39:qH:=fun g' H Bd K=>∃(xs:List GAct) (k:Int),g'=[lst xs,iv k]/\((sm xs/\0<=k/\k+(kD xs:Nat)<=4611686018427387904/\xs=mkDL k xs)/\K (iv (k+(kD xs:Nat))) H Bd)
@[go_sem ↓] theorem W39_eq (a:List GAct) (b:Int):W39 [lst a,iv b] H Bd K=((sm a/\0<=b/\b+(kD a:Nat)<=4611686018427387904/\a=mkDL b a)/\K (iv (b+(kD a:Nat))) H Bd):=ex2 a b rfl
theorem W39_ok:OK 39 W39:=by
 rintro _ H Bd K ⟨xs,k,rfl,hpre,hK⟩
 refine fnp pok (uA.uB W68_ok) [] hK func39 ntmps39 call39 [.tmp 4] fun hb ha=>?_
 refine jF pok fun cv=>?_
 obtain⟨h1,h2,h3,h4⟩:=hpre
 have hlen:=qS h1
 refine R0 ?_
 refine jA (fun i=>True) (xs.length) (fun i=>[(0,lst xs),(1,iv (k+(kD (xs.take i):Nat))),(5,iv i)]) (trivial) (by simp only[go_sem,push_cast,qB,qA,List.take_zero,cntD_nil,Int.natCast_zero,Int.add_zero]) ?_
 intro i Bi hIi hii hBi
 refine cv (by kernel_rfl) ?_
 rcases xM i (xs.length)with hlti|hgei
 ·have e0:=mkDL_get k xs i hlti
  rw[<-h4]at e0
  have hx:=yP h1 (xH hlti)
  have hct:=cntD_take (i+1) xs
  have hcs:=cntD_succ hlti
  have hy:MkD.put (k+(kD (xs.take i):Nat)) xs[i]=⟨k+(kD (xs.take i):Nat),⟨k+(kD (xs.take i):Nat)+1,mkL UInt8 (k+(kD (xs.take i):Nat)+1+1) xs[i].put.bytes.length⟩⟩:=rfl
  have hy2:MkD.cnt xs[i]=xs[i].put.bytes.length+2:=rfl
  rw[hy]at e0
  rw[hy2]at hcs
  have hl:=qS hx.2.2
  generalize hm:xs[i].put.bytes.length=m at*
  have hg1:sm (mkL UInt8 (k+(kD (xs.take i):Nat)+1+1) m):=mkL_sm _ (by omega)
  simp (maxSteps:=2000000) (disch:=first|exact dq|fail) only[go_sem,push_cast,qB,qA,qL hb,qE hb,e0,hg1,mkL_len,hcs]
 ·refine R0 ?_
  obtain rfl:i=xs.length:=by omega
  have et:kD (List.take xs.length xs)=kD xs:=by rw[wH]
  refine cv (by kernel_rfl) ?_
  exact R et trivial
@[go_sem ↓] def BW14 (x:GActsResult) (k:Int):Tq:=fun H Bd K=>((sm x/\0<=k/\k+(kD x.acts:Nat)<=4611686018427387904/\x.acts=mkDL k x.acts)/\K (iv (k+(kD x.acts:Nat))) H Bd)
def W14:qH:=fun g' H Bd K=>∃(x:GActsResult) (k:Int),g'=[.agg (enc x).toArray,iv k]/\BW14 x k H Bd K
@[go_sem ↓] theorem W14_eq (a:Int) (b:List GAct) (c:Int):W14 [.agg #[iv a,lst b],iv c] H Bd K=BW14 (GActsResult.mk a b) c H Bd K:=ex2 (GActsResult.mk a b) c rfl
theorem W14_ok:OK 14 W14:=by
 rintro _ H Bd K ⟨x,k,rfl,hpre,hK⟩
 refine fnp pok (uA.uB W39_ok) [] hK func14 ntmps14 call14 [.tmp 4] fun hb ha=>?_
 obtain⟨h1,h2,h3,h4⟩:=hpre
 have h5:sm x.acts:=h1.2
 have h6:(x.acts=mkDL k x.acts)=True:=eq_true h4
 have h7:¬(k+(kD x.acts:Nat)<0):=by omega
 clear h4
 exact R (cj5 h2 h3 h5 h6 h7) trivial
theorem N14_pure:PureV W14:=by
 rintro _ H Bd K ⟨x0,x1,rfl,hpre,hK⟩
 exact⟨_,by first|exact .bool _|exact .int _ _|exact .string _|exact vc_enc _,hK,fun H' K' hs h=>⟨x0,x1,rfl,hpre,h⟩⟩
def N14:qH:=LendN W14
@[go_sem ↓] theorem N14_eq (a b:Value):N14 [a,b] H Bd K=Held (N14 [a,b] H Bd K) ⟨⟩:=(rfl)
theorem N14_ok:OK 14 N14:=LendN_ok W14_ok N14_pure
@[go_sem ↓] def BV41 (d:GDisk) (st:GL18State):Tq:=fun H Bd K=>((sm d/\DiskOK d/\R64 st.super.root)/\K (lst (rowsI d st.super.root)) H Bd)
def V41:qH:=fun g' H Bd K=>∃(d:GDisk) (st:GL18State),g'=[.agg (enc d).toArray, .agg (enc st).toArray]/\BV41 d st H Bd K
@[go_sem ↓] theorem V41_eq (a:List (List UInt8)) (b:List GPut) (c d e f g h:Int) (i:Bool) (j:List UInt8) (k:List GSymbol) (l m:List Int) (n o:List GEquation) (p:List Int) (q r:List GEquation):V41 [.agg #[lst a,lst b], .agg #[iv c,iv d,iv e,iv f,iv g,iv h, .bool i,lst j,lst k,lst l,lst m,lst n,lst o,lst p,lst q,lst r]] H Bd K=BV41 (GDisk.mk a b) (GL18State.mk (GSuper.mk c d e f g h i j (GSignature.mk k)) l (GTheory.mk m n o) (GTheory.mk p q r)) H Bd K:=ex2 (GDisk.mk a b) (GL18State.mk (GSuper.mk c d e f g h i j (GSignature.mk k)) l (GTheory.mk m n o) (GTheory.mk p q r)) rfl
def W41:qH:=fun g' H Bd K=>∃(pd pst:Value),g'=[pd,pst]/\Yld (qI H 2 pd) fun cd=>Yld (qI H 16 pst) fun cst=>qQ V41 [.agg cd.toArray, .agg cst.toArray] H Bd K
@[go_sem ↓] theorem W41_eq (a b:Value):W41 [a,b] H Bd K=(Yld (qI H 2 a) fun cd=>Yld (qI H 16 b) fun cst=>qQ V41 (idS [.agg cd.toArray, .agg cst.toArray]) H Bd K):=px2 a b
theorem W41_ok:OK 41 W41:=by
 rintro _ H Bd K ⟨pd,pst,rfl,cd,ed,cst,est,h⟩
 obtain⟨d,st,e,hpre,hK⟩:=h
 simp only[xG,and_true]at e
 obtain⟨Ed,Est⟩:=e
 obtain rfl:=qR Ed
 obtain rfl:=qR Est
 refine fnp pok (uA.uB W71_ok) [] hK func41 ntmps41 call41 [.tmp 4] fun hb ha=>?_
 have Pd:=qM ed (NB.vpok (ha pd (by simp)))
 simp only[jR]at Pd
 have Zd:=Pd.all 2 rfl
 have Yd:=jE (ha pd (by simp))
 have Pst:=qM est (NB.vpok (ha pst (by simp)))
 simp only[jR,enc_GL18State,qN,vQ,enc_GTheory]at Pst
 have Zst:=Pst.all 16 rfl
 have Yst:=jE (ha pst (by simp))
 obtain⟨h1,h2,h3⟩:=hpre
 have e:=treeS_rows d st.super.root
 exact R (cj6 Zd Zst h1 h2 h3 e) trivial
def W119:qH:=fun g' H Bd K=>∃(l:List GRow),g'=[lst l]/\((KeyOK l/\l.length<=31104)/\K (lst l) H Bd)
@[go_sem ↓] theorem W119_eq (a:List GRow):W119 [lst a] H Bd K=((KeyOK a/\a.length<=31104)/\K (lst a) H Bd):=ex1 a rfl
theorem W119_ok:OK 119 W119:=by
 rintro _ H Bd K ⟨l,rfl,hpre,hK⟩
 refine fnp pok (uA.uB W129_ok) [(5,[0,1,2,3,4,5,7,8,9,10,11,6,12,13,14,15],[z0 0,z0 1,z0 2,z0 3,z0 4,z0 5,z0 7,z0 8,z0 9,z0 10,z0 11,⟨6,[],[11]⟩,z0 12,z0 13,⟨14,[13],[]⟩,z0 15], .nil)] hK func119 ntmps119 call119 [.tmp 2] fun hb ha=>?_
 refine jF pok fun cv=>?_
 obtain⟨h1,h2⟩:=hpre
 refine R0 ?_
 refine yM (X:=Nat) hb (by omega) 1 [.s 3] rfl (fun x=>x<=l.length) (fun x=>l.length-x) (fun Nx x=>[(0,lst l),(3,sv Nx 2 (l.take x).length ((l.take x).length+1)),(4,iv x)]) (fun Nx x=>[(Nx,⟨qO (l.take x),true⟩)]) 0 (xT _) (fun Nx hNx=>(cant)) ?_
 intro Nx x hNx hIx hbx Fx hFx
 simp only[mem_cons,jC]at hbx ⊢
 refine cv (by kernel_rfl) ?_
 by_cases hlt:x<l.length
 ·have e1:l[x]? =some (l[x]'hlt):=xA _
  have hst:l.take (x+1)=l.take x++[l[x]'hlt]:=xP hlt
  have hkl:=h1 _ (xH hlt)
  have hk2:(l[x]'hlt).key.length<=1000000:=by omega
  have hlx:(l.take x).length=x:=by rw[xQ];omega
  generalize hE:(l[x]'hlt)=E at*
  obtain⟨key,value⟩:=E
  refine RA (cj4 e1 hE hlt hk2) ?_
  refine hFx (x+1) _ _ _ ?_ ?_ (by simp only[go_sem,push_cast,qB,qA]) ((canf (cj hst enc_GRow)))
  ·show l.length-(x+1)<l.length-x
   omega
  ·exact hlt
 ·obtain rfl:x=l.length:=by omega
  refine R hlt ?_
  refine cv (by kernel_rfl) ?_
  rw[wH]
  refine R0 ?_
  exact qV (by simp (disch:=first|assumption|omega) only[go_sem,push_cast,qB,qA]) (hb.fresh _ (by omega)) rfl (by first|rfl|exact(yS _).symm|simp|omega)
def J119:qH:=GiveA W119
@[go_sem ↓] theorem J119_eq (a:Value):J119 [a] H Bd K=qQ W119 (idS [giveA H a]) (killAll H [a]) Bd K:=(rfl)
theorem J119_ok:OK 119 J119:=GiveA_ok W119_ok
def W77:qH:=fun g' H Bd K=>∃(l:List GRow) (k:List UInt8) (n:Int),g'=[lst l,lst k,iv n]/\((KeyOK l/\l.length<=31104/\sm k/\n=(l.length:Int))/\K (lst (yW l k)) H Bd)
@[go_sem ↓] theorem W77_eq (a:List GRow) (b:List UInt8) (c:Int):W77 [lst a,lst b,iv c] H Bd K=((KeyOK a/\a.length<=31104/\sm b/\c=(a.length:Int))/\K (lst (yW a b)) H Bd):=ex3 a b c rfl
theorem W77_ok:OK 77 W77:=by
 rintro _ H Bd K ⟨l,k,n,rfl,hpre,hK⟩
 refine fnp pok ((uA.uB W118_ok).uB J119_ok) [(3,[],[],(.k 5 (.grp true 14 18 4 [15,16,17,18] 19 none (.k 4 .nil) .nil)))] hK func77 ntmps77 call77 [.tmp 6] fun hb ha=>?_
 refine jF pok fun cv=>?_
 obtain⟨h1,h2,h3,hn⟩:=hpre
 refine R0 ?_
 refine yM (X:=Nat) hb (by omega) 1 [.s 7] rfl (fun x=>x<=l.length) (fun x=>l.length-x) (fun Nx x=>[(0,lst l),(1,lst k),(2,iv n),(7,sv Nx 2 (yW (l.take x) k).length ((yW (l.take x) k).length+1)),(8,iv x)]) (fun Nx x=>[(Nx,⟨qO (yW (l.take x) k),true⟩)]) 0 (xT _) (fun Nx hNx=>(canf (show yW [] k=[]from rfl))) ?_
 intro Nx x hNx hIx hbx Fx hFx
 simp only[mem_cons,jC]at hbx ⊢
 refine cv (by kernel_rfl) ?_
 have hbl:(yW (l.take x) k).length<=x:=wE (behind_len _ _) (by rw[xQ];omega)
 by_cases hlt:x<l.length
 ·have e1:l[x]? =some (l[x]'hlt):=xA _
  have hst:yW (l.take (x+1)) k=yW (l.take x) k++yW [l[x]'hlt] k:=by rw[xP hlt];exact List.filter_append ..
  have hkl:=h1 _ (xH hlt)
  have hks:sm (l[x]'hlt).key:=⟨by omega,fun _ _=>trivial⟩
  have hgo:((yW (l.take x) k).length:Int)<(l.length:Int):=by omega
  generalize hE:(l[x]'hlt)=E at*
  obtain⟨key,value⟩:=E
  by_cases hc:0<Lib.compareBytes key k
  ·have hs2:yW [(⟨key,value⟩:GRow)] k=[⟨key,value⟩]:=by unfold yW;rw[List.filter_cons_of_pos (by simpa using hc)];rfl
   rw[hs2]at hst
   refine RA (cj8 e1 hE hn hgo hlt hks h3 hc) ?_
   refine hFx (x+1) _ _ _ ?_ ?_ (by simp only[go_sem,push_cast,qB,qA]) ((canf (cj hst enc_GRow)))
   ·show l.length-(x+1)<l.length-x
    omega
   ·exact hlt
  ·have hs2:yW [(⟨key,value⟩:GRow)] k=[]:=by unfold yW;rw[List.filter_cons_of_neg (by simpa using hc)];rfl
   rw[hs2,wL]at hst
   refine RA (cj8 e1 hE hn hgo hlt hks h3 hc) ?_
   refine hFx (x+1) _ _ _ ?_ ?_ (by simp only[go_sem,push_cast,qB,qA]) ((canf hst))
   ·show l.length-(x+1)<l.length-x
    omega
   ·exact hlt
 ·obtain rfl:x=l.length:=by omega
  have hk:=behind_ok h1 k
  have hl3:(yW l k).length<=31104:=wE (behind_len _ _) h2
  rw[wH]at hbl ⊢
  refine R hlt ?_
  refine cv (by kernel_rfl) ?_
  exact R (cj hk hl3) trivial
def W47:qH:=fun g' H Bd K=>∃(l:List GRow) (k:List UInt8),g'=[lst l,lst k]/\((KeyOK l/\l.length<=31104/\sm k)/\K (lst (yW l k)) H Bd)
@[go_sem ↓] theorem W47_eq (a:List GRow) (b:List UInt8):W47 [lst a,lst b] H Bd K=((KeyOK a/\a.length<=31104/\sm b)/\K (lst (yW a b)) H Bd):=ex2 a b rfl
theorem W47_ok:OK 47 W47:=by
 rintro _ H Bd K ⟨l,k,rfl,hpre,hK⟩
 refine fnp pok (uA.uB W77_ok) [] hK func47 ntmps47 call47 [.tmp 4] fun hb ha=>?_
 obtain⟨h1,h2,h3⟩:=hpre
 exact R (cj3 h1 h2 h3) trivial
def W20:qH:=fun g' H Bd K=>∃(d:GDisk),g'=[.agg (enc d).toArray]/\((sm d)/\K (.agg (enc (finR d)).toArray) H Bd)
@[go_sem ↓] theorem W20_eq (a:List (List UInt8)) (b:List GPut):W20 [.agg #[lst a,lst b]] H Bd K=((sm (GDisk.mk a b))/\K (.agg (enc (finR (GDisk.mk a b))).toArray) H Bd):=ex1 (GDisk.mk a b) rfl
theorem W20_ok:OK 20 W20:=by
 rintro _ H Bd K ⟨d,rfl,hpre,hK⟩
 refine fnp pok (((((uA.uB W24_ok).uB W25_ok).uB W41_ok).uB W47_ok).uB W26_ok) [(7,[1,2,0,3,4,5],[z0 1,z0 2,⟨0,[],[2]⟩,z0 3,z0 4,z0 5], .nil),(9,[],[],(.k 4 (.grp false 30 33 3 [31,32,33] 34 none (.k 3 .nil) .nil)))] hK func20 ntmps20 call20 [.cell 2 29] fun hb ha=>?_
 have hc:=openS_code d
 by_cases q:(openS d).2=0
 case neg=>
  have e:finR d=⟨(openS d).2,[]⟩:=by unfold finR;rw[<-hc,if_pos q]
  rw[e]
  exact R (cj hpre q) trivial
 obtain⟨hd,hs,hS⟩:=openS_ok q
 obtain⟨hp,hk⟩:=openS_more q
 have h2:=disk_ok hd
 have hR:finR d=if(openS d).1.super.moving=false then⟨8,[]⟩else if(yW (rowsI d (openS d).1.super.root) (openS d).1.super.cursor)≠[]then⟨2,[]⟩else if 60000<=(openS d).1.super.gen\/60000<=(openS d).1.super.version then⟨7,[]⟩else⟨0,actsD (Int.tmod ((openS d).1.super.gen+1) 2) (kW (nextS (finS (openS d).1.super)))⟩:=by
  unfold finR;rw[<-hc,if_neg (by simpa using q),<-hs]
 have hk2:(openS d).1.kept.length<=1000000:=by omega
 have hcur:=hS.cur
 have hrt:=hS.root
 have hsg:=hS.sig
 have hsl:=(yT hsg).len
 have hgn:=hS.gen
 have hvr:=hS.ver
 have hno:=finS_ok hS
 generalize hQ:(openS d).1.super=Q at*
 have hss:sm Q.symbols:=⟨show Q.symbols.symbols.length<=281474976710656 by omega,fun x hx=>⟨show x.name.size<=281474976710656 by have:=zQ ((yT hsg).nm x hx).1;omega,trivial⟩⟩
 have hsQ:sm Q:=⟨trivial,trivial,trivial,trivial,trivial,trivial,trivial,⟨show Q.cursor.length<=281474976710656 by omega,fun _ _=>trivial⟩,hss⟩
 have r1:R64 Q.root:=⟨by omega,by omega⟩
 obtain⟨k1,k2⟩:=rowsI_ok d Q.root
 by_cases q2:Q.moving=true
 case neg=>
  have q2:Q.moving=false:=by simpa using q2
  rw[if_pos q2]at hR
  rw[hR]
  exact R (cj4 hpre q hQ q2) trivial
 rw[if_neg (by rw[q2];decide)]at hR
 have hcs:sm Q.cursor:=hsQ.2.2.2.2.2.2.2.1
 by_cases q4:yW (rowsI d Q.root) Q.cursor=[]
 case neg=>
  rw[if_pos q4]at hR
  have q4':0<(yW (rowsI d Q.root) Q.cursor).length:=List.length_pos_iff.2 q4
  rw[hR]
  exact R (cj10 hpre q hQ q2 h2 r1 k1 k2 hcs q4') trivial
 rw[if_neg (by simpa using q4)]at hR
 have q4':(yW (rowsI d Q.root) Q.cursor).length=0:=by rw[q4];rfl
 by_cases q3:60000<=Q.gen\/60000<=Q.version
 ·rw[if_pos q3]at hR
  rw[hR]
  exact R (cj11 hpre q hQ q2 h2 r1 k1 k2 hcs q4' q3) trivial
 ·rw[if_neg q3]at hR
  have h6:=hno q2 q3
  obtain⟨q5,q6⟩:¬60000<=Q.gen/\¬60000<=Q.version:=⟨fun h=>q3 (.inl h),fun h=>q3 (.inr h)⟩
  have h7:R64 (Q.gen+1):=⟨by omega,by omega⟩
  have hpt:=eq_true hp
  have eF:finS Q=⟨Q.gen,Q.shadow,Q.shadow,Q.next_,Q.next_,Q.version+1,true,Q.cursor,Q.symbols⟩:=by unfold finS;rw[q2]
  have hsR:sm (⟨Q.gen,Q.shadow,Q.shadow,Q.next_,Q.next_,Q.version+1,true,Q.cursor,Q.symbols⟩:GSuper):=hsQ
  rw[eF]at h6 hR
  have h7t:=eq_true h7
  clear h7
  rw[hR]
  clear hp
  simp (maxSteps:=2000000) (disch:=first|exact dq|fail) only[go_sem,push_cast,qB,qA,qL hb,qE hb,hpre,q,hQ,q2,h2,r1,k1,k2,hcs,q4',q5,q6,hpt,hk2,hsR,h6,h7t]
def K20:qH:=GiveN W20
@[go_sem ↓] theorem K20_eq (a:Value):K20 [a] H Bd K=Held (K20 [a] H Bd K) ⟨⟩:=(rfl)
theorem K20_ok:OK 20 K20:=GiveN_ok W20_ok
@[go_sem ↓] def BW43 (d:GDisk) (root:Int):Tq:=fun H Bd K=>((sm d/\R64 root)/\K (.agg #[iv (vU d root).1,sv Bd 2 (rowsO d root).length ((rowsO d root).length+1)]) (upd H Bd (some ⟨qO (rowsO d root),true⟩)) (Bd+1))
def W43:qH:=fun g' H Bd K=>∃(d:GDisk) (root:Int),g'=[.agg (enc d).toArray,iv root]/\BW43 d root H Bd K
@[go_sem ↓] theorem W43_eq (a:List (List UInt8)) (b:List GPut) (c:Int):W43 [.agg #[lst a,lst b],iv c] H Bd K=BW43 (GDisk.mk a b) c H Bd K:=ex2 (GDisk.mk a b) c rfl
theorem W43_ok:OK 43 W43:=by
 rintro _ H Bd K ⟨d,root,rfl,hpre,hK⟩
 refine fn_can pok (uA.uB W73_ok) [] H [.m (Bd+1) 1] (.agg #[iv (vU d root).1,sv Bd 2 (rowsO d root).length ((rowsO d root).length+1)]) [(Bd,⟨qO (rowsO d root),true⟩)] hK (by simp) id func43 rfl (rs:=[.cell 4 87]) rfl ntmps43 (by simp) call43 (by kernel_rfl) (fun _ hb ha=>?_)
 clear hK
 obtain⟨h1,h2⟩:=hpre
 by_cases q:(vU d root).1=0
 ·have e:rowsO d root=(vU d root).2.2.rows:=by unfold rowsO;rw[if_neg (by simpa using q)]
  rw[e,q]
  exact R (cj3 h1 h2 q) trivial
 ·have e:rowsO d root=[]:=by unfold rowsO;rw[if_pos q]
  rw[e]
  simp (maxSteps:=2000000) (disch:=first|exact dq|fail) only[go_sem,push_cast,qB,qA,qL hb,qE hb,h1,h2,q,qZ,xZ]
@[go_sem ↓] def BV79 (r:GRow) (p:GSuper):Tq:=fun H Bd K=>((sm r/\sm p)/\K (.bool (decide (Lib.compareBytes r.key p.cursor<=0))) H Bd)
def V79:qH:=fun g' H Bd K=>∃(r:GRow) (p:GSuper),g'=[.agg (enc r).toArray, .agg (enc p).toArray]/\BV79 r p H Bd K
@[go_sem ↓] theorem V79_eq (a:List UInt8) (b c d e f g h:Int) (i:Bool) (j:List UInt8) (k:List GSymbol):V79 [.agg #[lst a,iv b], .agg #[iv c,iv d,iv e,iv f,iv g,iv h, .bool i,lst j,lst k]] H Bd K=BV79 (GRow.mk a b) (GSuper.mk c d e f g h i j (GSignature.mk k)) H Bd K:=ex2 (GRow.mk a b) (GSuper.mk c d e f g h i j (GSignature.mk k)) rfl
def W79:qH:=fun g' H Bd K=>∃(vr pp:Value),g'=[vr,pp]/\Yld (qI H 9 pp) fun cp=>qQ V79 [vr, .agg cp.toArray] H Bd K
@[go_sem ↓] theorem W79_eq (a b:Value):W79 [a,b] H Bd K=(Yld (qI H 9 b) fun cp=>qQ V79 (idS [a, .agg cp.toArray]) H Bd K):=px2 a b
theorem W79_ok:OK 79 W79:=by
 rintro _ H Bd K ⟨vr,pp,rfl,cp,ep,h⟩
 obtain⟨r,p,e,hpre,hK⟩:=h
 simp only[xG,and_true]at e
 obtain⟨rfl,Ep⟩:=e
 obtain rfl:=qR Ep
 refine fnp pok (uA.uB W80_ok) [] hK func79 ntmps79 call79 [.tmp 3] fun hb ha=>?_
 have Pp:=qM ep (NB.vpok (ha pp (by simp)))
 simp only[qN,vQ]at Pp
 have Zp:=Pp.all 9 rfl
 have Yp:=jE (ha pp (by simp))
 obtain⟨h1,h2⟩:=hpre
 have h3:=h1.1
 have h4:sm p.cursor:=h2.2.2.2.2.2.2.2.1
 exact R (cj3 Zp h3 h4) trivial
def W120:qH:=DfT 79 (fun xs p n l c H Bd K=>K (iv (fidx (fun r=>decide (Lib.compareBytes r.key p.cursor<=0)) xs)) H Bd)
@[go_sem ↓] theorem W120_eq (a b c d:Nat):W120 [sv a 2 b c, .func (.func 79) #[] #[pt d]] H Bd K=DfB (fun xs p a b c H Bd K=>K (iv (fidx (fun r=>decide (Lib.compareBytes r.key p.cursor<=0)) xs)) H Bd) a b c d H Bd K:=DfT_eq _ _ a b c d H Bd K
theorem W120_ok:OK 120 W120:=by
 rintro _ H Bd K ⟨n,l,c,m,rfl,b0,hb0,xs,hx,b2,hb2,p,hp,⟨hd,hl,hc,hs,hsp⟩,hK⟩
 obtain rfl:=kX hx
 obtain⟨pc,po⟩:=b2
 obtain rfl:pc=enc p:=dataOf_out hp
 simp only[flB]at hb0 hK
 subst hl
 have hlen:=qS hs
 refine yF pok (uA.uB W79_ok) [] _ hK func120 rfl (rs:=[.tmp 4]) rfl ntmps120 (by simp) call120 (by kernel_rfl) (fun ha hb=> .int _ _) (fun hb ha=>?_)
 refine jF pok fun cv=>?_
 simp only[vQ]at hb2
 refine R0 ?_
 refine jA (fun i=>∀j,j<i->∀x,xs[j]? =some x->(fun r=>decide (Lib.compareBytes r.key p.cursor<=0)) x=false) (xs.length) (fun i=>[(0,sv n 2 xs.length c),(1, .func (.func 79) #[] #[pt m]),(7,iv xs.length),(8,iv i)]) (by simp) (by simp only[go_sem,push_cast,qB,qA]) ?_
 intro i Bi hIi hii hBi
 refine cv (by kernel_rfl) ?_
 rcases xM i (xs.length)with hlti|hgei
 ·have e1:xs[i]? =some xs[i]:=xA hlti
  have hr:=yP hs (xH hlti)
  have e2:=row_cells e1
  refine R (cj6 hb0 hb2 e1 e2 hr hsp) ?_
  exact⟨fun h=>by rw[zC hlti hIi (by simpa using h)],fun h=>fun j hj x hx=>by
   by_cases e:j=i
   ·subst e;rw[e1]at hx;cases hx;simpa using h
   ·have:=hIi j (by omega) x hx;simpa using this⟩
 ·refine R0 ?_
  refine cv (by kernel_rfl) ?_
  refine R0 ?_
  rw[vY fun j hj x hx=>hIi j (by omega) x hx]
def W78:qH:=DfT 79 (fun xs p n l c H Bd K=>K (sv n 2 (keep xs (fun r=>decide (Lib.compareBytes r.key p.cursor<=0)) xs.length).length c) (upd H n (some ⟨qO (keep xs (fun r=>decide (Lib.compareBytes r.key p.cursor<=0)) xs.length)++jU (xs.length-(keep xs (fun r=>decide (Lib.compareBytes r.key p.cursor<=0)) xs.length).length) [sn,iv 0],true⟩)) Bd)
@[go_sem ↓] theorem W78_eq (a b c d:Nat):W78 [sv a 2 b c, .func (.func 79) #[] #[pt d]] H Bd K=DfB (fun xs p a b c H Bd K=>K (sv a 2 (keep xs (fun r=>decide (Lib.compareBytes r.key p.cursor<=0)) xs.length).length c) (upd H a (some ⟨qO (keep xs (fun r=>decide (Lib.compareBytes r.key p.cursor<=0)) xs.length)++jU (xs.length-(keep xs (fun r=>decide (Lib.compareBytes r.key p.cursor<=0)) xs.length).length) [sn,iv 0],true⟩)) Bd) a b c d H Bd K:=DfT_eq _ _ a b c d H Bd K
theorem W78_ok:OK 78 W78:=by
 rintro _ H Bd K ⟨n,l,c,m,rfl,b0,hb0,xs,hx,b2,hb2,p,hp,⟨hd,hl,hc,hs,hsp⟩,hK⟩
 obtain rfl:=kX hx
 obtain⟨pc,po⟩:=b2
 obtain rfl:pc=enc p:=dataOf_out hp
 simp only[flB]at hb0 hK
 subst hl
 have hlen:=qS hs
 obtain⟨G,rfl,⟨gn,gm⟩,gE,gH⟩:=out2 hb0 hb2 hd
 have hd2:m≠n:=fun e=>hd e.symm
 rw[upd_swap hd]at hK
 refine fn_set pok ((uA.uB W79_ok).uB W120_ok) [] _ hK (fun hh=>by rw[<-upd_swap (a:=some ⟨qO xs,true⟩) hd];exact hb_setZ hh hb0 _ nb_row) func78 rfl (rs:=[.tmp 4]) rfl ntmps78 (by simp) call78 (by kernel_rfl) (fun ha hb=> .sl (zI hb hb0)) (fun hh ha=>?_)
 refine jF pok fun cv=>?_
 simp only[vQ]at hb2
 have hnB:=zI hh hb0
 have hmB:=zI hh hb2
 have hb:=gH Bd hh
 clear hK gE gH hb0 hb2
 have hf:∀x,(keep xs (fun r=>decide (Lib.compareBytes r.key p.cursor<=0)) x).length<=x/\(keep xs (fun r=>decide (Lib.compareBytes r.key p.cursor<=0)) x).length<=xs.length:=fun x=>keep_le _ _ _
 rcases fidx_spec3 (fun r=>decide (Lib.compareBytes r.key p.cursor<=0)) xs with⟨f1,f2⟩|⟨i,hi,f1,f2,f3⟩
 ·have e:keep xs (fun r=>decide (Lib.compareBytes r.key p.cursor<=0)) xs.length=xs:=(keep_all fun i hi x hx=>f2 x (wC hx)).trans wH
  have hz0:qO xs++jU (xs.length-xs.length) [sn,iv 0]=qO xs:=by rw[Nat.sub_self];exact wL _
  rw[e,hz0]
  exact R (cj6 hs hsp hd hd2 hc f1) trivial
 have k1:keep xs (fun r=>decide (Lib.compareBytes r.key p.cursor<=0)) (i+1)=xs.take i:=(keep_yes hi f2).trans (keep_all fun j hj x hx=>by rw[xA (by omega)]at hx;have hx:=Option.some.inj hx;rw[<-hx];exact f3 j hj)
 have k2:kept xs (fun r=>decide (Lib.compareBytes r.key p.cursor<=0)) (i+1)=xs:=(kpt_same hi f2).trans (kpt_all (by omega) fun j hj x hx=>by rw[xA (by omega)]at hx;have hx:=Option.some.inj hx;rw[<-hx];exact f3 j hj)
 have k3:(keep xs (fun r=>decide (Lib.compareBytes r.key p.cursor<=0)) (i+1)).length=i:=by rw[k1,xQ];omega
 have f4:¬(i:Int)= -1:=by omega
 have yc:=jE (ha (.func (.func 79) #[] #[pt m]) (by simp))
 refine R (cj7 hs hsp hd hd2 hc f1 f4) ?_
 refine yM (X:=Nat) hb (by omega) 0 [] rfl (fun x=>i<x/\x<=xs.length/\(keep xs (fun r=>decide (Lib.compareBytes r.key p.cursor<=0)) x).length<x) (fun x=>xs.length-x) (fun Nx x=>[(0,sv n 2 xs.length c),(1, .func (.func 79) #[] #[pt m]),(5,iv ((keep xs (fun r=>decide (Lib.compareBytes r.key p.cursor<=0)) x).length:Nat)),(6,iv (x:Nat))]) (fun Nx x=>[(n,⟨qO (kept xs (fun r=>decide (Lib.compareBytes r.key p.cursor<=0)) x),true⟩),(m,⟨[iv p.gen,iv p.root,iv p.shadow,iv p.theory,iv p.next_,iv p.version, .bool p.moving,lst p.cursor,lst p.symbols.symbols],po⟩)]) (i+1) (⟨Nat.lt_succ_self _,hi,by rw[k3];exact Nat.lt_succ_self _⟩) (fun Nx hNx=>(canf (cj5 hd hd2 k2 k3 yc))) ?_
 intro Nx x hNx hIx hbx Fx hFx
 simp only[mem_cons,jC]at hbx ⊢
 refine cv (by kernel_rfl) ?_
 obtain⟨i1,i2,i3⟩:=hIx
 have hkl:=kpt_len xs (fun r=>decide (Lib.compareBytes r.key p.cursor<=0)) x
 have hfl:(qO (kept xs (fun r=>decide (Lib.compareBytes r.key p.cursor<=0)) x)).length=xs.length*2:=by rw[jJ,hkl];rfl
 have hfx:=hf x
 by_cases hlt:x<xs.length
 ·have e1:=kpt_get xs (fun r=>decide (Lib.compareBytes r.key p.cursor<=0)) hlt
  have e2:=row_cells e1
  have hr:=yP hs (xH hlt)
  by_cases hq:Lib.compareBytes (xs[x]'hlt).key p.cursor<=0
  ·have k4:keep xs (fun r=>decide (Lib.compareBytes r.key p.cursor<=0)) (x+1)=keep xs (fun r=>decide (Lib.compareBytes r.key p.cursor<=0)) x:=keep_yes hlt (decide_eq_true hq)
   have k5:kept xs (fun r=>decide (Lib.compareBytes r.key p.cursor<=0)) (x+1)=kept xs (fun r=>decide (Lib.compareBytes r.key p.cursor<=0)) x:=kpt_same hlt (decide_eq_true hq)
   refine R (cj9 hd hd2 hlt hkl e1 e2 hr hsp hq) ?_
   refine hFx (x+1) _ _ _ ?_ ?_ (by simp only[go_sem,push_cast,qB,qA]) ((canf (cj5 hd hd2 k4 k5 yc)))
   ·show xs.length-(x+1)<xs.length-x
    omega
   ·exact⟨by omega,hlt,by rw[k4];omega⟩
  ·have hl2:(keep xs (fun r=>decide (Lib.compareBytes r.key p.cursor<=0)) x).length<xs.length:=by omega
   have k4:(keep xs (fun r=>decide (Lib.compareBytes r.key p.cursor<=0)) (x+1)).length=(keep xs (fun r=>decide (Lib.compareBytes r.key p.cursor<=0)) x).length+1:=by rw[keep_no (q:=(fun r=>decide (Lib.compareBytes r.key p.cursor<=0))) hlt (decide_eq_false hq),xD];rfl
   have k5:=set_two (by rw[hkl];exact hl2) (kpt_set (q:=(fun r=>decide (Lib.compareBytes r.key p.cursor<=0))) hlt (decide_eq_false hq) hl2)
   refine R (cj11 hd hd2 hlt hkl e1 e2 hr hsp hq hl2 k5) ?_
   refine hFx (x+1) _ _ _ ?_ ?_ (by simp only[go_sem,push_cast,qB,qA]) ((canf (cj5 hd hd2 k4 k5 yc)))
   ·show xs.length-(x+1)<xs.length-x
    omega
   ·exact⟨by omega,hlt,by rw[k4];omega⟩
 ·obtain rfl:x=xs.length:=by omega
  have c1:(xs.length:Int)<=((c-1:Nat):Int):=by omega
  have c2:((keep xs (fun r=>decide (Lib.compareBytes r.key p.cursor<=0)) xs.length).length:Int)<=((c-1:Nat):Int):=by omega
  have c3:((xs.length:Int)-((keep xs (fun r=>decide (Lib.compareBytes r.key p.cursor<=0)) xs.length).length:Int)).toNat=xs.length-(keep xs (fun r=>decide (Lib.compareBytes r.key p.cursor<=0)) xs.length).length:=by omega
  have c4:((keep xs (fun r=>decide (Lib.compareBytes r.key p.cursor<=0)) xs.length).length:Int)<=(xs.length:Int):=by omega
  have c5:(keep xs (fun r=>decide (Lib.compareBytes r.key p.cursor<=0)) xs.length).length*2+(xs.length-(keep xs (fun r=>decide (Lib.compareBytes r.key p.cursor<=0)) xs.length).length)*2<=(qO (kept xs (fun r=>decide (Lib.compareBytes r.key p.cursor<=0)) xs.length)).length:=by omega
  have hzf:lset (qO (kept xs (fun r=>decide (Lib.compareBytes r.key p.cursor<=0)) xs.length)) ((keep xs (fun r=>decide (Lib.compareBytes r.key p.cursor<=0)) xs.length).length*2) (jU (xs.length-(keep xs (fun r=>decide (Lib.compareBytes r.key p.cursor<=0)) xs.length).length) [sn,iv 0])=qO (keep xs (fun r=>decide (Lib.compareBytes r.key p.cursor<=0)) xs.length)++jU (xs.length-(keep xs (fun r=>decide (Lib.compareBytes r.key p.cursor<=0)) xs.length).length) [sn,iv 0]:=clear_tail (keep_le xs (fun r=>decide (Lib.compareBytes r.key p.cursor<=0)) xs.length).2
  have hsw:∀x y,upd (upd G m y) n x=upd (upd G n x) m y:=fun x y=>upd_comm hd2
  refine R (cj3 hd hd2 hlt) ?_
  refine cv (by kernel_rfl) ?_
  have hsv:∀a b c,upd (upd (upd G n a) m b) n c=upd (upd G n c) m b:=fun a b c=>upd_swap hd
  refine R (cj10 hd hd2 c1 c2 c3 c4 c5 hzf hsw hsv) ?_
  exact .same _
end Go.Proofs.YtogofkjpbpgneaaGreatDoor
