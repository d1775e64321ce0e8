/- YtogofkjpbpgneaaGreatDoorE8 -/
import Derived.Test.YtogofkjpbpgneaaGreatDoorE7
set_option linter.unusedSimpArgs false
set_option linter.unusedVariables false
set_option maxRecDepth 20000
set_option maxHeartbeats 4000000
namespace Go.Proofs.YtogofkjpbpgneaaGreatDoor
open Go Go.SC Tryz
variable {H:AH} {Bd:Nat} {K:Value->AH->Nat->Prop}
def W64:qH:=fun g' H Bd K=>∃(x:GAct) (y:GAct),g'=[.agg (enc x).toArray, .agg (enc y).toArray]/\((sm x)/\K (.bool (decide (x=y))) H Bd)
@[go_sem ↓] theorem W64_eq (a b:Int) (c:List UInt8) (d e:Int) (f:List UInt8):W64 [.agg #[iv a,iv b,lst c], .agg #[iv d,iv e,lst f]] H Bd K=((sm (GAct.mk a (GPut.mk b c)))/\K (.bool (decide ((GAct.mk a (GPut.mk b c))=(GAct.mk d (GPut.mk e f))))) H Bd):=ex2 (GAct.mk a (GPut.mk b c)) (GAct.mk d (GPut.mk e f)) rfl
theorem W64_ok:OK 64 W64:=by
 rintro _ H Bd K ⟨x,y,rfl,hpre,hK⟩
 refine fnp pok (uA.uB W66_ok) [] hK func64 ntmps64 call64 [.tmp 4] fun hb ha=>?_
 simp only[sm_GAct]at hpre
 simp (maxSteps:=2000000) (disch:=first|exact dq|fail) only[go_sem,push_cast,qB,qA,qK hb,qE hb,hpre]
 cases x;cases y
 simp only[Cnp,GAct.mk.injEq]
 constructor <;>intros <;>simp_all
def W33:qH:=fun g' H Bd K=>∃(xs:List GAct) (ys:List GAct),g'=[lst xs,lst ys]/\((sm xs)/\K (.bool (decide (xs=ys))) H Bd)
@[go_sem ↓] theorem W33_eq (a b:List GAct):W33 [lst a,lst b] H Bd K=((sm a)/\K (.bool (decide (a=b))) H Bd):=ex2 a b rfl
theorem W33_ok:OK 33 W33:=by
 rintro _ H Bd K ⟨xs,ys,rfl,hpre,hK⟩
 refine fnp pok (uA.uB W64_ok) [(6,[0,1,2,3,4,5,6,7,8,9],[z0 0,z0 1,z0 2,z0 3,z0 4,z0 5,z0 6,z0 7,z0 8,z0 9], .nil)] hK func33 ntmps33 call33 [.tmp 4] fun hb ha=>?_
 refine jE pok fun cv=>?_
 have hlen:=qT hpre
 simp (maxSteps:=2000000) (disch:=first|exact dq|fail) only[go_sem,push_cast,qB,qA,qK hb,qE hb]
 refine Cnp.of (fun hl=>?_) (fun hl=>cmp_len (by omega))
 have hl':xs.length=ys.length:=by omega
 refine jA (fun i=>∀j,j<i->xs[j]? =ys[j]?) xs.length (fun i=>[(0,lst xs),(1,lst ys),(5,iv i)]) (fun j h=>by omega) (by simp only[go_sem,push_cast,qB,qA]) ?_
 intro i B0 hI hi hB
 refine cv (by kernel_rfl) ?_
 rcases xM i xs.length with hlt|hge
 ·have e1:xs[i]? =some xs[i]:=xA hlt
  have e2:ys[i]? =some (ys[i]'(by omega)):=xA _
  have hx:=yS hpre (xH hlt)
  simp (maxSteps:=2000000) (disch:=first|exact dq|fail) only[go_sem,push_cast,qB,qA,qK hb,qE hb,e1,e2,hx]
  exact cmp_step hl' hI hlt (by omega) rfl fun h=>h
 ·simp (maxSteps:=2000000) (disch:=first|exact dq|fail) only[go_sem,push_cast,qB,qA,qK hb,qE hb]
  refine cv (by kernel_rfl) ?_
  simp (maxSteps:=2000000) (disch:=first|exact dq|fail) only[go_sem,push_cast,qB,qA,qK hb,qE hb]
  exact cmp_end hl' hI hge
def W10:qH:=fun g' H Bd K=>∃(x:GActsResult) (y:GActsResult),g'=[.agg (enc x).toArray, .agg (enc y).toArray]/\((sm x)/\K (.bool (decide (x=y))) H Bd)
@[go_sem ↓] theorem W10_eq (a:Int) (b:List GAct) (c:Int) (d:List GAct):W10 [.agg #[iv a,lst b], .agg #[iv c,lst d]] H Bd K=((sm (GActsResult.mk a b))/\K (.bool (decide ((GActsResult.mk a b)=(GActsResult.mk c d)))) H Bd):=ex2 (GActsResult.mk a b) (GActsResult.mk c d) rfl
theorem W10_ok:OK 10 W10:=by
 rintro _ H Bd K ⟨x,y,rfl,hpre,hK⟩
 refine fnp pok (uA.uB W33_ok) [] hK func10 ntmps10 call10 [.tmp 4] fun hb ha=>?_
 simp only[sm_GActsResult]at hpre
 simp (maxSteps:=2000000) (disch:=first|exact dq|fail) only[go_sem,push_cast,qB,qA,qK hb,qE hb,hpre]
 cases x;cases y
 simp only[Cnp,GActsResult.mk.injEq]
 constructor <;>intros <;>simp_all
theorem N10_pure:PureV W10:=by
 rintro _ H Bd K ⟨x0,x1,rfl,hpre,hK⟩
 exact⟨_,by first|exact .bool _|exact .int _ _|exact .string _|exact vc_enc _,hK,fun H' K' hs h=>⟨x0,x1,rfl,hpre,h⟩⟩
def N10:qH:=LendN W10
@[go_sem ↓] theorem N10_eq (a b:Value):N10 [a,b] H Bd K=Held (N10 [a,b] H Bd K) ⟨⟩:=(rfl)
theorem N10_ok:OK 10 N10:=LendN_ok W10_ok N10_pure
def W34:qH:=fun g' H Bd K=>∃(xs:List (List UInt8)) (ys:List (List UInt8)),g'=[lst xs,lst ys]/\((sm xs)/\K (.bool (decide (xs=ys))) H Bd)
@[go_sem ↓] theorem W34_eq (a b:List (List UInt8)):W34 [lst a,lst b] H Bd K=((sm a)/\K (.bool (decide (a=b))) H Bd):=ex2 a b rfl
theorem W34_ok:OK 34 W34:=by
 rintro _ H Bd K ⟨xs,ys,rfl,hpre,hK⟩
 refine fnp pok (uA.uB W65_ok) [(6,[0,1,2,3,4,5,6,7,8,9],[z0 0,z0 1,z0 2,z0 3,z0 4,z0 5,z0 6,z0 7,z0 8,z0 9], .nil)] hK func34 ntmps34 call34 [.tmp 4] fun hb ha=>?_
 refine jE pok fun cv=>?_
 have hlen:=qT hpre
 simp (maxSteps:=2000000) (disch:=first|exact dq|fail) only[go_sem,push_cast,qB,qA,qK hb,qE hb]
 refine Cnp.of (fun hl=>?_) (fun hl=>cmp_len (by omega))
 have hl':xs.length=ys.length:=by omega
 refine jA (fun i=>∀j,j<i->xs[j]? =ys[j]?) xs.length (fun i=>[(0,lst xs),(1,lst ys),(5,iv i)]) (fun j h=>by omega) (by simp only[go_sem,push_cast,qB,qA]) ?_
 intro i B0 hI hi hB
 refine cv (by kernel_rfl) ?_
 rcases xM i xs.length with hlt|hge
 ·have e1:xs[i]? =some xs[i]:=xA hlt
  have e2:ys[i]? =some (ys[i]'(by omega)):=xA _
  have hx:=yS hpre (xH hlt)
  simp (maxSteps:=2000000) (disch:=first|exact dq|fail) only[go_sem,push_cast,qB,qA,qK hb,qE hb,e1,e2,hx]
  exact cmp_step hl' hI hlt (by omega) rfl fun h=>h
 ·simp (maxSteps:=2000000) (disch:=first|exact dq|fail) only[go_sem,push_cast,qB,qA,qK hb,qE hb]
  refine cv (by kernel_rfl) ?_
  simp (maxSteps:=2000000) (disch:=first|exact dq|fail) only[go_sem,push_cast,qB,qA,qK hb,qE hb]
  exact cmp_end hl' hI hge
def W35:qH:=fun g' H Bd K=>∃(xs:List GPut) (ys:List GPut),g'=[lst xs,lst ys]/\((sm xs)/\K (.bool (decide (xs=ys))) H Bd)
@[go_sem ↓] theorem W35_eq (a b:List GPut):W35 [lst a,lst b] H Bd K=((sm a)/\K (.bool (decide (a=b))) H Bd):=ex2 a b rfl
theorem W35_ok:OK 35 W35:=by
 rintro _ H Bd K ⟨xs,ys,rfl,hpre,hK⟩
 refine fnp pok (uA.uB W66_ok) [(6,[0,1,2,3,4,5,6,7,8,9],[z0 0,z0 1,z0 2,z0 3,z0 4,z0 5,z0 6,z0 7,z0 8,z0 9], .nil)] hK func35 ntmps35 call35 [.tmp 4] fun hb ha=>?_
 refine jE pok fun cv=>?_
 have hlen:=qT hpre
 simp (maxSteps:=2000000) (disch:=first|exact dq|fail) only[go_sem,push_cast,qB,qA,qK hb,qE hb]
 refine Cnp.of (fun hl=>?_) (fun hl=>cmp_len (by omega))
 have hl':xs.length=ys.length:=by omega
 refine jA (fun i=>∀j,j<i->xs[j]? =ys[j]?) xs.length (fun i=>[(0,lst xs),(1,lst ys),(5,iv i)]) (fun j h=>by omega) (by simp only[go_sem,push_cast,qB,qA]) ?_
 intro i B0 hI hi hB
 refine cv (by kernel_rfl) ?_
 rcases xM i xs.length with hlt|hge
 ·have e1:xs[i]? =some xs[i]:=xA hlt
  have e2:ys[i]? =some (ys[i]'(by omega)):=xA _
  have hx:=yS hpre (xH hlt)
  simp (maxSteps:=2000000) (disch:=first|exact dq|fail) only[go_sem,push_cast,qB,qA,qK hb,qE hb,e1,e2,hx]
  exact cmp_step hl' hI hlt (by omega) rfl fun h=>h
 ·simp (maxSteps:=2000000) (disch:=first|exact dq|fail) only[go_sem,push_cast,qB,qA,qK hb,qE hb]
  refine cv (by kernel_rfl) ?_
  simp (maxSteps:=2000000) (disch:=first|exact dq|fail) only[go_sem,push_cast,qB,qA,qK hb,qE hb]
  exact cmp_end hl' hI hge
def W11:qH:=fun g' H Bd K=>∃(x:GDisk) (y:GDisk),g'=[.agg (enc x).toArray, .agg (enc y).toArray]/\((sm x)/\K (.bool (decide (x=y))) H Bd)
@[go_sem ↓] theorem W11_eq (a:List (List UInt8)) (b:List GPut) (c:List (List UInt8)) (d:List GPut):W11 [.agg #[lst a,lst b], .agg #[lst c,lst d]] H Bd K=((sm (GDisk.mk a b))/\K (.bool (decide ((GDisk.mk a b)=(GDisk.mk c d)))) H Bd):=ex2 (GDisk.mk a b) (GDisk.mk c d) rfl
theorem W11_ok:OK 11 W11:=by
 rintro _ H Bd K ⟨x,y,rfl,hpre,hK⟩
 refine fnp pok ((uA.uB W34_ok).uB W35_ok) [] hK func11 ntmps11 call11 [.tmp 4] fun hb ha=>?_
 simp only[sm_GDisk]at hpre
 simp (maxSteps:=2000000) (disch:=first|exact dq|fail) only[go_sem,push_cast,qB,qA,qK hb,qE hb,hpre]
 cases x;cases y
 simp only[Cnp,GDisk.mk.injEq]
 constructor <;>intros <;>simp_all
theorem N11_pure:PureV W11:=by
 rintro _ H Bd K ⟨x0,x1,rfl,hpre,hK⟩
 exact⟨_,by first|exact .bool _|exact .int _ _|exact .string _|exact vc_enc _,hK,fun H' K' hs h=>⟨x0,x1,rfl,hpre,h⟩⟩
def N11:qH:=LendN W11
@[go_sem ↓] theorem N11_eq (a b:Value):N11 [a,b] H Bd K=Held (N11 [a,b] H Bd K) ⟨⟩:=(rfl)
theorem N11_ok:OK 11 N11:=LendN_ok W11_ok N11_pure
@[go_sem ↓] def BW67 (q:Int) (n:Nat) (l:Nat) (c:Nat):Tq:=fun H Bd K=>(Yld (H n) fun b0=>(b0.own=true/\b0.cells.length=l*1/\0<=q/\q+(l*1:Nat)<=4611686018427387904/\l<=281474976710656)/\K (iv (q+(l*1:Nat))) (upd H n (some ⟨qO (mkL UInt8 q l),true⟩)) Bd)
def W67:qH:=fun g' H Bd K=>∃(q:Int) (n:Nat) (l:Nat) (c:Nat),g'=[sv n 1 l c,iv q]/\BW67 q n l c H Bd K
@[go_sem ↓] theorem W67_eq (a b c:Nat) (d:Int):W67 [sv a 1 b c,iv d] H Bd K=BW67 d a b c H Bd K:=by
 refine propext ⟨fun h=>?_,fun h=>⟨_,_,_,_,rfl,h⟩⟩
 obtain⟨q',n',l',c',e,h⟩:=h
 skip
 simp only[xG,Value.agg.injEq,jC,xK,Value.bool.injEq,Value.string.injEq,xY,Value.func.injEq,Value.pointer.injEq,xE,Addr.mk.injEq,lst_inj,true_and,and_true,and_assoc]at e
 obtain⟨rfl,rfl,rfl,rfl⟩:=e
 exact h
theorem W67_ok:OK 67 W67:=by
 rintro _ H Bd K ⟨q,n,l,c,rfl,⟨cells,ow⟩,hb0,⟨ho,hc,h1,h2,h3⟩,hK⟩
 simp only at ho hc
 subst ho
 refine fn_set pok uA [] _ hK (fun hh=>hb_setF hh hb0 _) func67 rfl (rs:=[.tmp 4]) rfl ntmps67 (by simp) call67 (by kernel_rfl) (fun ha hb=> .int _ _) (fun hb ha=>?_)
 refine jE pok fun cv=>?_
 have hLe:=le_own hb0
 refine R hb0 ?_
 refine tr_st (X:=Nat) (fun i=>i<=l) (fun i=>l-i) (fun i=>[(0,sv n 1 l c),(1,iv (q+(i*1:Nat))),(5,iv i)]) (fun i=>upd H n (some ⟨mkC UInt8 q i cells,true⟩)) 0 (xT _) (by simp only[go_sem,push_cast,qB,qA,mkC_zero,hLe,Nat.zero_mul,Int.natCast_zero,Int.add_zero]<;>exact cT) (by first|exact Le.refl _|simp (disch:=first|assumption|omega) only[go_sem,push_cast,qB,qA,qU,jM,mkC_zero,hLe,Nat.zero_mul,Int.natCast_zero,Int.add_zero]) ?_
 intro i Bi hIi hBi hbi Fi hFi
 refine cv (by kernel_rfl) ?_
 rcases xM i l with hlt|hge
 ·obtain⟨b,hbv⟩:∃b:UInt8,UInt8.ofNat ((q+(i*1:Nat))%256).toNat=b:=⟨_,rfl⟩
  have hv:(q+(i:Int))%256=(b.toNat:Int):=by rw[<-hbv,UInt8.toNat_ofNat'];omega
  have hset:(mkC UInt8 q i cells).set i (.int .u8 (b.toNat:Int))=mkC UInt8 q (i+1) cells:=by rw[<-hbv];exact mkC_set1 (n:=l) q cells hc hlt (by rw[Nat.mul_one];rfl)
  have hln:(mkC UInt8 q i cells).length=cells.length:=mkC_len q i cells (by rw[hc];exact Nat.mul_le_mul_right _ hIi)
  refine R (cj hv (cj hset hln)) ?_
  refine hFi (i+1) _ _ _ ?_ ?_ (by first|exact Le.refl _|simp (disch:=first|assumption|omega|(simp (disch:=omega) only[qF,qE hb];done)) only[go_sem,push_cast,qB,qA,qU,jM,qF,qE hb,hset]) (by simp only[go_sem,push_cast,qB,qA]) (by simp only[go_sem,push_cast,qB,qA,hset]<;>exact cT)
  all_goals omega
 ·refine R0 ?_
  obtain rfl:i=l:=by omega
  rw[mkC_end q cells hc]
  refine cv (by kernel_rfl) ?_
  exact R0 trivial
def W36:qH:=fun g' H Bd K=>∃(xs:List (List UInt8)) (n c:Nat) (q:Int),g'=[sv n 1 xs.length c,iv q]/\(OV.Has H n (OEnc.oc xs)/\sm xs/\0<=q/\q+(kD xs:Nat)<=4611686018427387904)/\K (iv (q+(kD xs:Nat))) (oput H n (OEnc.oc (mkDL q xs))) Bd
@[go_sem ↓] theorem W36_eq (a b:Value):W36 [a,b] H Bd K=Held (W36 [a,b] H Bd K) ⟨⟩:=(rfl)
theorem W36_ok:OK 36 W36:=by
 rintro _ H Bd K ⟨xs,n,c,q,rfl,⟨hH,hsm,h1,h2⟩,hK⟩
 refine fn_set pok (uA.uB W67_ok) [] _ hK (fun hh=>HB_oput hh hH (OEnc.ok _) (vE _ _)) func36 rfl (rs:=[.tmp 4]) rfl ntmps36 (by simp) call36 (by kernel_rfl) (fun ha hb=> .int _ _) (fun hb ha=>?_)
 refine jE pok fun cv=>?_
 have hlen:=qT hsm
 refine R0 ?_
 refine tr_st (X:=Nat×AH) (fun x=>x.1<=xs.length/\OV.Has x.2 n (OEnc.oc (mkTo q x.1 xs))/\(∀m,m<n\/n+OV.numL (OEnc.oc xs)<=m->x.2 m=H m)) (fun x=>xs.length-x.1) (fun x=>[(0,sv n 1 xs.length c),(1,iv (q+(kD (xs.take x.1):Nat))),(5,iv (x.1:Nat))]) (fun x=>x.2) (0,H) (⟨xT _,by rw[mkTo_zero];exact hH,fun m _=>rfl⟩) (by simp only[go_sem,push_cast,qB,qA,List.take_zero,cntD_nil,Int.natCast_zero,Int.add_zero]<;>exact cT) (by first|exact Le.refl _|simp (disch:=first|assumption|omega) only[go_sem,push_cast,qB,qA,qU,jM,List.take_zero,cntD_nil,Int.natCast_zero,Int.add_zero]) ?_
 intro x Bx hIx hBx hbx Fx hFx
 refine cv (by kernel_rfl) ?_
 obtain⟨i,G⟩:=x
 obtain⟨i1,i2,i3⟩:=hIx
 simp only at i1 i2 i3
 rcases xM i xs.length with hlt|hge
 ·have hlt2:i<(mkTo q i xs).length:=by rw[mkTo_len];exact hlt
  have gx:=mkTo_at q hlt hlt2
  obtain⟨g1,g2⟩:=has_elems.1 i2
  have g3:=g2 i hlt2
  rw[gx]at g3
  have hx:=yS hsm (xH hlt)
  have hct:=cntD_take (i+1) xs
  have hcs:=cntD_succ hlt
  have hal:=valL_all (n+1) (mkTo q i xs)
  rw[mkTo_len]at hal
  have hms:=mkTo_succ q hlt
  have hnn:OV.numL (OEnc.oc xs)=xs.length*1+1:=oc_num xs
  simp only[go_sem,Nat.mul_one]at g3
  have g4:=valL_cell (n+1) (j:=0) hlt2 (by decide)
  rw[gx]at g4
  have hk1:Enc.k (List UInt8)=1:=rfl
  simp only[hk1,go_sem,Nat.mul_one,Nat.add_zero]at g4 hal
  have hy:MkD.put (q+(kD (xs.take i):Nat)) xs[i]=mkL UInt8 (q+(kD (xs.take i):Nat)) xs[i].length:=rfl
  have hy2:MkD.cnt xs[i]=xs[i].length*1:=rfl
  rw[hy]at hms
  rw[hy2,Nat.mul_one]at hcs
  have hl:=qT hx
  have hsets:=valL_set (n+1) hlt2 (mkL UInt8 (q+(kD (xs.take i):Nat)) xs[i].length)
  simp (maxSteps:=2000000) (disch:=first|exact dq|fail) only[go_sem,push_cast,qB,qA,qK hb,qE hb,g1,g3,g4,hal,hlt,mkL_len,jQ]
  refine hFx (i+1,upd G (n+1+i) (some ⟨qO (mkL UInt8 (q+(kD (xs.take i):Nat)) xs[i].length),true⟩)) _ _ _ ?_ ?_ (by first|exact Le.refl _|simp (disch:=first|assumption|omega|(simp (disch:=omega) only[qF,qE hb];done)) only[go_sem,push_cast,qB,qA,qU,jM,qF,qE hb,hcs,Int.natCast_add,Int.add_assoc]) (by simp only[go_sem,push_cast,qB,qA]) (by simp only[go_sem,push_cast,qB,qA,hcs,Int.natCast_add,Int.add_assoc]<;>exact cT)
  ·show xs.length-(i+1)<xs.length-i
   omega
  ·refine⟨hlt,?_,fun m hm=>?_⟩
   ·show OV.Has _ n (OEnc.oc (mkTo q (i+1) xs))
    rw[hms]
    refine has_set hlt2 i2 ?_ ?_ fun m h1 h2=>?_
    ·show upd G (n+1+i) _ n=_
     rw[qD _ _ (by omega),g1,<-hsets]
     have e5:OV.valL (n+1+i*1) (OEnc.oc (mkL UInt8 (q+(kD (xs.take i):Nat)) xs[i].length))=[sv (n+1+i) 1 xs[i].length (xs[i].length+1)]:=by simp only[go_sem,Nat.mul_one,mkL_len]
     rw[e5,hk1,Nat.mul_one]
     have e6:=set_same g4
     exact congrArg (fun z=>some (⟨z,true⟩:Blk)) e6.symm
    ·simp only[go_sem,Nat.mul_one,qJ]
    ·exact qD _ _ (by omega)
   ·show upd G _ _ m=H m
    rw[qD _ _ (by omega)];exact i3 m hm
 ·refine R0 ?_
  obtain rfl:i=xs.length:=by omega
  rw[mkTo_end]at i2
  have hG:=oput_eq i2 (by rw[vE];exact i3)
  refine cv (by kernel_rfl) ?_
  refine R (@List.take_length UInt8) ?_
  rw[hG];exact⟨Le.refl _,by rw[wH]⟩
def W37:qH:=fun g' H Bd K=>∃(xs:List GPut) (n c:Nat) (q:Int),g'=[sv n 2 xs.length c,iv q]/\(OV.Has H n (OEnc.oc xs)/\sm xs/\0<=q/\q+(kD xs:Nat)<=4611686018427387904)/\K (iv (q+(kD xs:Nat))) (oput H n (OEnc.oc (mkDL q xs))) Bd
@[go_sem ↓] theorem W37_eq (a b:Value):W37 [a,b] H Bd K=Held (W37 [a,b] H Bd K) ⟨⟩:=(rfl)
theorem W37_ok:OK 37 W37:=by
 rintro _ H Bd K ⟨xs,n,c,q,rfl,⟨hH,hsm,h1,h2⟩,hK⟩
 refine fn_set pok (uA.uB W67_ok) [] _ hK (fun hh=>HB_oput hh hH (OEnc.ok _) (vE _ _)) func37 rfl (rs:=[.tmp 4]) rfl ntmps37 (by simp) call37 (by kernel_rfl) (fun ha hb=> .int _ _) (fun hb ha=>?_)
 refine jE pok fun cv=>?_
 have hlen:=qT hsm
 refine R0 ?_
 refine tr_st (X:=Nat×AH) (fun x=>x.1<=xs.length/\OV.Has x.2 n (OEnc.oc (mkTo q x.1 xs))/\(∀m,m<n\/n+OV.numL (OEnc.oc xs)<=m->x.2 m=H m)) (fun x=>xs.length-x.1) (fun x=>[(0,sv n 2 xs.length c),(1,iv (q+(kD (xs.take x.1):Nat))),(5,iv (x.1:Nat))]) (fun x=>x.2) (0,H) (⟨xT _,by rw[mkTo_zero];exact hH,fun m _=>rfl⟩) (by simp only[go_sem,push_cast,qB,qA,List.take_zero,cntD_nil,Int.natCast_zero,Int.add_zero]<;>exact cT) (by first|exact Le.refl _|simp (disch:=first|assumption|omega) only[go_sem,push_cast,qB,qA,qU,jM,List.take_zero,cntD_nil,Int.natCast_zero,Int.add_zero]) ?_
 intro x Bx hIx hBx hbx Fx hFx
 refine cv (by kernel_rfl) ?_
 obtain⟨i,G⟩:=x
 obtain⟨i1,i2,i3⟩:=hIx
 simp only at i1 i2 i3
 rcases xM i xs.length with hlt|hge
 ·have hlt2:i<(mkTo q i xs).length:=by rw[mkTo_len];exact hlt
  have gx:=mkTo_at q hlt hlt2
  obtain⟨g1,g2⟩:=has_elems.1 i2
  have g3:=g2 i hlt2
  rw[gx]at g3
  have hx:=yS hsm (xH hlt)
  have hct:=cntD_take (i+1) xs
  have hcs:=cntD_succ hlt
  have hal:=valL_all (n+1) (mkTo q i xs)
  rw[mkTo_len]at hal
  have hms:=mkTo_succ q hlt
  have hnn:OV.numL (OEnc.oc xs)=xs.length*1+1:=oc_num xs
  simp only[go_sem,Nat.mul_one,Nat.add_zero]at g3
  have hk1:Enc.k GPut=2:=rfl
  have g4:=valL_cell (n+1) (j:=0) hlt2 (by decide)
  have g5:=valL_cell (n+1) (j:=1) hlt2 (by decide)
  rw[gx]at g4 g5
  simp only[hk1,go_sem,Nat.mul_one,Nat.add_zero,wD,wM,List.cons_append,List.nil_append]at g4 g5 hal
  have hy:MkD.put (q+(kD (xs.take i):Nat)) xs[i]=⟨q+(kD (xs.take i):Nat),mkL UInt8 (q+(kD (xs.take i):Nat)+1) xs[i].bytes.length⟩:=rfl
  have hy2:MkD.cnt xs[i]=xs[i].bytes.length+1:=rfl
  rw[hy]at hms
  rw[hy2]at hcs
  have hl:=qT hx.2
  have hsets:=valL_set (n+1) hlt2 (⟨q+(kD (xs.take i):Nat),mkL UInt8 (q+(kD (xs.take i):Nat)+1) xs[i].bytes.length⟩:GPut)
  have e7:=set_lset2 (v:=iv (q+(kD (xs.take i):Nat))) g5
  have g6:((OV.valL (n+1) (ocL (mkTo q i xs))).set (i*2) (iv (q+(kD (xs.take i):Nat))))[i*2+1]? =some (sv (n+1+i) 1 xs[i].bytes.length (xs[i].bytes.length+1)):=by rw[wS (by omega)];exact g5
  simp (maxSteps:=2000000) (disch:=first|exact dq|fail) only[go_sem,push_cast,qB,qA,qK hb,qE hb,g1,g3,g4,g5,g6,hal,hlt,mkL_len,jQ,List.length_set]
  refine hFx (i+1,upd (upd G n (some ⟨(OV.valL (n+1) (ocL (mkTo q i xs))).set (i*2) (iv (q+(kD (xs.take i):Nat))),true⟩)) (n+1+i) (some ⟨qO (mkL UInt8 (q+(kD (xs.take i):Nat)+1) xs[i].bytes.length),true⟩)) _ _ _ ?_ ?_ (by first|exact Le.refl _|simp (disch:=first|assumption|omega|(simp (disch:=omega) only[qF,qE hb];done)) only[go_sem,push_cast,qB,qA,qU,jM,qF,qE hb,hcs,Int.natCast_add,Int.add_assoc]) (by simp only[go_sem,push_cast,qB,qA]) (by simp only[go_sem,push_cast,qB,qA,hcs,Int.natCast_add,Int.add_assoc]<;>exact cT)
  ·show xs.length-(i+1)<xs.length-i
   omega
  ·refine⟨hlt,?_,fun m hm=>?_⟩
   ·show OV.Has _ n (OEnc.oc (mkTo q (i+1) xs))
    rw[hms]
    refine has_set hlt2 i2 ?_ ?_ fun m h1 h2=>?_
    ·show upd (upd G n _) (n+1+i) _ n=_
     rw[qD _ _ (by omega),qJ,e7,<-hsets]
     have e5:OV.valL (n+1+i*1) (OEnc.oc (⟨q+(kD (xs.take i):Nat),mkL UInt8 (q+(kD (xs.take i):Nat)+1) xs[i].bytes.length⟩:GPut))=[iv (q+(kD (xs.take i):Nat)),sv (n+1+i) 1 xs[i].bytes.length (xs[i].bytes.length+1)]:=by simp only[go_sem,Nat.mul_one,Nat.add_zero,mkL_len,List.cons_append,List.nil_append]
     rw[e5,hk1]
    ·simp only[go_sem,Nat.mul_one,Nat.add_zero,qJ,and_true,true_and]
    ·show upd (upd G n _) (n+1+i) _ m=_
     rw[qD _ _ (by omega),qD _ _ h1]
   ·show upd (upd G n _) (n+1+i) _ m=H m
    rw[qD _ _ (by omega),qD _ _ (by omega)];exact i3 m hm
 ·refine R0 ?_
  obtain rfl:i=xs.length:=by omega
  rw[mkTo_end]at i2
  have hG:=oput_eq i2 (by rw[vE];exact i3)
  refine cv (by kernel_rfl) ?_
  refine R (@List.take_length UInt8) ?_
  rw[hG];exact⟨Le.refl _,by rw[wH]⟩
def W12:qH:=fun g' H Bd K=>∃(x:GDisk) (n:Nat) (q:Int),g'=[.agg #[sv n 1 (x.sectors).length ((x.sectors).length+1),sv (n+OV.numL (OEnc.oc (x.sectors))) 2 (x.pending).length ((x.pending).length+1)],iv q]/\(OV.Has H n (OEnc.oc x)/\sm x/\0<=q/\q+(kD x.sectors:Nat)+(kD x.pending:Nat)<=4611686018427387904)/\K (iv (q+(kD x.sectors:Nat)+(kD x.pending:Nat))) (oput H n (OEnc.oc (⟨mkDL (q) x.sectors,mkDL (q+(kD x.sectors:Nat)) x.pending⟩:GDisk))) Bd
@[go_sem ↓] theorem W12_eq (a b:Value):W12 [a,b] H Bd K=Held (W12 [a,b] H Bd K) ⟨⟩:=(rfl)
theorem W12_ok:OK 12 W12:=by
 rintro _ H Bd K ⟨x,n,q,rfl,⟨hH,hsm,h1,h2⟩,hK⟩
 have hnn:OV.numL (OEnc.oc (⟨mkDL (q) x.sectors,mkDL (q+(kD x.sectors:Nat)) x.pending⟩:GDisk))=OV.numL (OEnc.oc x):=by simp only[go_sem,vE]
 refine fn_set pok ((uA.uB W36_ok).uB W37_ok) [] _ hK (fun hh=>HB_oput hh hH (OEnc.ok _) hnn) func12 rfl (rs:=[.tmp 4]) rfl ntmps12 (by simp) call12 (by kernel_rfl) (fun ha hb=> .int _ _) (fun hb ha=>?_)
 have hlt:=has_lt hb hH
 simp only[go_sem]at hH hlt
 simp only[sm_GDisk]at hsm
 obtain⟨hH0,hH1⟩:=hH
 obtain⟨hm0,hm1⟩:=hsm
 have hp0:0<OV.numL (OEnc.oc x.sectors):=by rw[oc_num];omega
 have hp1:0<OV.numL (OEnc.oc x.pending):=by rw[oc_num];omega
 have he0:OV.numL (OEnc.oc (mkDL (q) x.sectors))=OV.numL (OEnc.oc x.sectors):=vE _ _
 have he1:OV.numL (OEnc.oc (mkDL (q+(kD x.sectors:Nat)) x.pending))=OV.numL (OEnc.oc x.pending):=vE _ _
 refine R0 ?_
 refine held ⟨x.sectors,_,_,_,rfl,⟨by simp (disch:=omega) only[go_sem,vE,hH0],hm0,by omega,by omega⟩,?_⟩
 refine R (cj he0 he1) ?_
 refine held ⟨x.pending,_,_,_,rfl,⟨by simp (disch:=omega) only[go_sem,vE,hH1],hm1,by omega,by omega⟩,?_⟩
 refine R (cj he0 he1) ?_
 exact(Le_oput _ _ (Le_oput _ _ (Le_new (Le.refl H) (hb.fresh Bd (xC Bd)))))
def W38:qH:=fun g' H Bd K=>∃(xs:List GAct) (n c:Nat) (q:Int),g'=[sv n 3 xs.length c,iv q]/\(OV.Has H n (OEnc.oc xs)/\sm xs/\0<=q/\q+(kD xs:Nat)<=4611686018427387904)/\K (iv (q+(kD xs:Nat))) (oput H n (OEnc.oc (mkDL q xs))) Bd
@[go_sem ↓] theorem W38_eq (a b:Value):W38 [a,b] H Bd K=Held (W38 [a,b] H Bd K) ⟨⟩:=(rfl)
theorem W38_ok:OK 38 W38:=by
 rintro _ H Bd K ⟨xs,n,c,q,rfl,⟨hH,hsm,h1,h2⟩,hK⟩
 refine fn_set pok (uA.uB W67_ok) [] _ hK (fun hh=>HB_oput hh hH (OEnc.ok _) (vE _ _)) func38 rfl (rs:=[.tmp 4]) rfl ntmps38 (by simp) call38 (by kernel_rfl) (fun ha hb=> .int _ _) (fun hb ha=>?_)
 refine jE pok fun cv=>?_
 have hlen:=qT hsm
 refine R0 ?_
 refine tr_st (X:=Nat×AH) (fun x=>x.1<=xs.length/\OV.Has x.2 n (OEnc.oc (mkTo q x.1 xs))/\(∀m,m<n\/n+OV.numL (OEnc.oc xs)<=m->x.2 m=H m)) (fun x=>xs.length-x.1) (fun x=>[(0,sv n 3 xs.length c),(1,iv (q+(kD (xs.take x.1):Nat))),(5,iv (x.1:Nat))]) (fun x=>x.2) (0,H) (⟨xT _,by rw[mkTo_zero];exact hH,fun m _=>rfl⟩) (by simp only[go_sem,push_cast,qB,qA,List.take_zero,cntD_nil,Int.natCast_zero,Int.add_zero]<;>exact cT) (by first|exact Le.refl _|simp (disch:=first|assumption|omega) only[go_sem,push_cast,qB,qA,qU,jM,List.take_zero,cntD_nil,Int.natCast_zero,Int.add_zero]) ?_
 intro x Bx hIx hBx hbx Fx hFx
 refine cv (by kernel_rfl) ?_
 obtain⟨i,G⟩:=x
 obtain⟨i1,i2,i3⟩:=hIx
 simp only at i1 i2 i3
 rcases xM i xs.length with hlt|hge
 ·have hlt2:i<(mkTo q i xs).length:=by rw[mkTo_len];exact hlt
  have gx:=mkTo_at q hlt hlt2
  obtain⟨g1,g2⟩:=has_elems.1 i2
  have g3:=g2 i hlt2
  rw[gx]at g3
  have hx:=yS hsm (xH hlt)
  have hct:=cntD_take (i+1) xs
  have hcs:=cntD_succ hlt
  have hal:=valL_all (n+1) (mkTo q i xs)
  rw[mkTo_len]at hal
  have hms:=mkTo_succ q hlt
  have hnn:OV.numL (OEnc.oc xs)=xs.length*1+1:=oc_num xs
  simp only[go_sem,Nat.mul_one,Nat.add_zero]at g3
  have hk1:Enc.k GAct=3:=rfl
  have g4:=valL_cell (n+1) (j:=0) hlt2 (by decide)
  have g5:=valL_cell (n+1) (j:=1) hlt2 (by decide)
  have g6:=valL_cell (n+1) (j:=2) hlt2 (by decide)
  rw[gx]at g4 g5 g6
  simp only[hk1,go_sem,Nat.mul_one,Nat.add_zero,wD,wM,List.cons_append,List.nil_append]at g4 g5 g6 hal
  have hy:MkD.put (q+(kD (xs.take i):Nat)) xs[i]=⟨q+(kD (xs.take i):Nat),⟨q+(kD (xs.take i):Nat)+1,mkL UInt8 (q+(kD (xs.take i):Nat)+1+1) xs[i].put.bytes.length⟩⟩:=rfl
  have hy2:MkD.cnt xs[i]=xs[i].put.bytes.length+2:=rfl
  rw[hy]at hms
  rw[hy2]at hcs
  have hl:=qT hx.2.2
  have hsets:=valL_set (n+1) hlt2 (⟨q+(kD (xs.take i):Nat),⟨q+(kD (xs.take i):Nat)+1,mkL UInt8 (q+(kD (xs.take i):Nat)+1+1) xs[i].put.bytes.length⟩⟩:GAct)
  have e7:=set_lsetA (v:=iv (q+(kD (xs.take i):Nat))) (w:=iv (q+(kD (xs.take i):Nat)+1)) g6
  have g7:(((OV.valL (n+1) (ocL (mkTo q i xs))).set (i*3) (iv (q+(kD (xs.take i):Nat)))).set (i*3+1) (iv (q+(kD (xs.take i):Nat)+1)))[i*3+2]? =some (sv (n+1+i) 1 xs[i].put.bytes.length (xs[i].put.bytes.length+1)):=by rw[wS (by omega),wS (by omega)];exact g6
  simp (maxSteps:=2000000) (disch:=first|exact dq|fail) only[go_sem,push_cast,qB,qA,qK hb,qE hb,g1,g3,g4,g5,g6,g7,hal,hlt,mkL_len,jQ,List.length_set]
  refine hFx (i+1,upd (upd G n (some ⟨((OV.valL (n+1) (ocL (mkTo q i xs))).set (i*3) (iv (q+(kD (xs.take i):Nat)))).set (i*3+1) (iv (q+(kD (xs.take i):Nat)+1)),true⟩)) (n+1+i) (some ⟨qO (mkL UInt8 (q+(kD (xs.take i):Nat)+1+1) xs[i].put.bytes.length),true⟩)) _ _ _ ?_ ?_ (by first|exact Le.refl _|simp (disch:=first|assumption|omega|(simp (disch:=omega) only[qF,qE hb];done)) only[go_sem,push_cast,qB,qA,qU,jM,qF,qE hb,hcs,Int.natCast_add,Int.add_assoc]) (by simp only[go_sem,push_cast,qB,qA]) (by simp only[go_sem,push_cast,qB,qA,hcs,Int.natCast_add,Int.add_assoc]<;>exact cT)
  ·show xs.length-(i+1)<xs.length-i
   omega
  ·refine⟨hlt,?_,fun m hm=>?_⟩
   ·show OV.Has _ n (OEnc.oc (mkTo q (i+1) xs))
    rw[hms]
    refine has_set hlt2 i2 ?_ ?_ fun m h1 h2=>?_
    ·show upd (upd G n _) (n+1+i) _ n=_
     rw[qD _ _ (by omega),qJ,e7,<-hsets]
     have e5:OV.valL (n+1+i*1) (OEnc.oc (⟨q+(kD (xs.take i):Nat),⟨q+(kD (xs.take i):Nat)+1,mkL UInt8 (q+(kD (xs.take i):Nat)+1+1) xs[i].put.bytes.length⟩⟩:GAct))=[iv (q+(kD (xs.take i):Nat)),iv (q+(kD (xs.take i):Nat)+1),sv (n+1+i) 1 xs[i].put.bytes.length (xs[i].put.bytes.length+1)]:=by simp only[go_sem,Nat.mul_one,Nat.add_zero,mkL_len,List.cons_append,List.nil_append]
     rw[e5,hk1]
    ·simp only[go_sem,Nat.mul_one,Nat.add_zero,qJ,and_true,true_and]
    ·show upd (upd G n _) (n+1+i) _ m=_
     rw[qD _ _ (by omega),qD _ _ h1]
   ·show upd (upd G n _) (n+1+i) _ m=H m
    rw[qD _ _ (by omega),qD _ _ (by omega)];exact i3 m hm
 ·refine R0 ?_
  obtain rfl:i=xs.length:=by omega
  rw[mkTo_end]at i2
  have hG:=oput_eq i2 (by rw[vE];exact i3)
  refine cv (by kernel_rfl) ?_
  refine R (@List.take_length UInt8) ?_
  rw[hG];exact⟨Le.refl _,by rw[wH]⟩
def W13:qH:=fun g' H Bd K=>∃(x:GActsResult) (n:Nat) (q:Int),g'=[.agg #[iv (x.code),sv n 3 (x.acts).length ((x.acts).length+1)],iv q]/\(OV.Has H n (OEnc.oc x)/\sm x/\0<=q/\q+(kD x.acts:Nat)<=4611686018427387904)/\K (iv (q+(kD x.acts:Nat))) (oput H n (OEnc.oc (⟨x.code,mkDL (q) x.acts⟩:GActsResult))) Bd
@[go_sem ↓] theorem W13_eq (a b:Value):W13 [a,b] H Bd K=Held (W13 [a,b] H Bd K) ⟨⟩:=(rfl)
theorem W13_ok:OK 13 W13:=by
 rintro _ H Bd K ⟨x,n,q,rfl,⟨hH,hsm,h1,h2⟩,hK⟩
 have hnn:OV.numL (OEnc.oc (⟨x.code,mkDL (q) x.acts⟩:GActsResult))=OV.numL (OEnc.oc x):=by simp only[go_sem,vE]
 refine fn_set pok (uA.uB W38_ok) [] _ hK (fun hh=>HB_oput hh hH (OEnc.ok _) hnn) func13 rfl (rs:=[.tmp 4]) rfl ntmps13 (by simp) call13 (by kernel_rfl) (fun ha hb=> .int _ _) (fun hb ha=>?_)
 have hlt:=has_lt hb hH
 simp only[go_sem]at hH hlt
 simp only[sm_GActsResult]at hsm
 have hH0:=hH
 obtain⟨hm0,hm1⟩:=hsm
 have hp0:0<OV.numL (OEnc.oc x.acts):=by rw[oc_num];omega
 have he0:OV.numL (OEnc.oc (mkDL (q) x.acts))=OV.numL (OEnc.oc x.acts):=vE _ _
 refine R0 ?_
 refine held ⟨x.acts,_,_,_,rfl,⟨by simp (disch:=omega) only[go_sem,vE,hH0],hm1,by omega,by omega⟩,?_⟩
 refine R he0 ?_
 exact(Le_oput _ _ (Le_new (Le.refl H) (hb.fresh Bd (xC Bd))))
@[go_sem ↓] def BW68 (xs:List UInt8) (k:Int):Tq:=fun H Bd K=>((sm xs/\0<=k/\k+(xs.length*1:Nat)<=4611686018427387904/\xs=mkL UInt8 k xs.length)/\K (iv (k+(xs.length*1:Nat))) H Bd)
def W68:qH:=fun g' H Bd K=>∃(xs:List UInt8) (k:Int),g'=[lst xs,iv k]/\BW68 xs k H Bd K
@[go_sem ↓] theorem W68_eq (a:List UInt8) (b:Int):W68 [lst a,iv b] H Bd K=BW68 a b H Bd K:=ex2 a b rfl
theorem W68_ok:OK 68 W68:=by
 rintro _ H Bd K ⟨xs,k,rfl,hpre,hK⟩
 refine fnp pok uA [] hK func68 ntmps68 call68 [.tmp 4] fun hb ha=>?_
 refine jE pok fun cv=>?_
 obtain⟨h1,h2,h3,h4⟩:=hpre
 have hlen:=qT h1
 refine R0 ?_
 refine jA (fun i=>True) (xs.length) (fun i=>[(0,lst xs),(1,iv (k+(i*1:Nat))),(5,iv i)]) (trivial) (by simp only[go_sem,push_cast,qB,qA,Int.zero_mul,Int.add_zero]) ?_
 intro i Bi hIi hii hBi
 refine cv (by kernel_rfl) ?_
 rcases xM i (xs.length)with hlti|hgei
 ·have e1:xs[i]? =some (UInt8.ofNat ((k+(i:Int))%256).toNat):=by
   rw[h4,mkL_get k hlti];first|rfl|(rw[Nat.mul_one];rfl)
  have hu:((UInt8.ofNat ((k+(i:Int))%256).toNat).toNat:Int)=(k+(i:Int))%256:=by rw[UInt8.toNat_ofNat'];omega
  exact R (cj e1 hu) trivial
 ·refine R0 ?_
  obtain rfl:i=xs.length:=by omega
  refine cv (by kernel_rfl) ?_
  exact R0 trivial
def W39:qH:=fun g' H Bd K=>∃(xs:List GAct) (k:Int),g'=[lst xs,iv k]/\((sm xs/\0<=k/\k+(kD xs:Nat)<=4611686018427387904/\xs=mkDL k xs)/\K (iv (k+(kD xs:Nat))) H Bd)
@[go_sem ↓] theorem W39_eq (a:List GAct) (b:Int):W39 [lst a,iv b] H Bd K=((sm a/\0<=b/\b+(kD a:Nat)<=4611686018427387904/\a=mkDL b a)/\K (iv (b+(kD a:Nat))) H Bd):=ex2 a b rfl
theorem W39_ok:OK 39 W39:=by
 rintro _ H Bd K ⟨xs,k,rfl,hpre,hK⟩
 refine fnp pok (uA.uB W68_ok) [] hK func39 ntmps39 call39 [.tmp 4] fun hb ha=>?_
 refine jE pok fun cv=>?_
 obtain⟨h1,h2,h3,h4⟩:=hpre
 have hlen:=qT h1
 refine R0 ?_
 refine jA (fun i=>True) (xs.length) (fun i=>[(0,lst xs),(1,iv (k+(kD (xs.take i):Nat))),(5,iv i)]) (trivial) (by simp only[go_sem,push_cast,qB,qA,List.take_zero,cntD_nil,Int.natCast_zero,Int.add_zero]) ?_
 intro i Bi hIi hii hBi
 refine cv (by kernel_rfl) ?_
 rcases xM i (xs.length)with hlti|hgei
 ·have e0:=mkDL_get k xs i hlti
  rw[<-h4]at e0
  have hx:=yS h1 (xH hlti)
  have hct:=cntD_take (i+1) xs
  have hcs:=cntD_succ hlti
  have hy:MkD.put (k+(kD (xs.take i):Nat)) xs[i]=⟨k+(kD (xs.take i):Nat),⟨k+(kD (xs.take i):Nat)+1,mkL UInt8 (k+(kD (xs.take i):Nat)+1+1) xs[i].put.bytes.length⟩⟩:=rfl
  have hy2:MkD.cnt xs[i]=xs[i].put.bytes.length+2:=rfl
  rw[hy]at e0
  rw[hy2]at hcs
  have hl:=qT hx.2.2
  generalize hm:xs[i].put.bytes.length=m at*
  have hg1:sm (mkL UInt8 (k+(kD (xs.take i):Nat)+1+1) m):=mkL_sm _ (by omega)
  simp (maxSteps:=2000000) (disch:=first|exact dq|fail) only[go_sem,push_cast,qB,qA,qK hb,qE hb,e0,hg1,mkL_len,hcs]
 ·refine R0 ?_
  obtain rfl:i=xs.length:=by omega
  have et:kD (List.take xs.length xs)=kD xs:=by rw[wH]
  refine cv (by kernel_rfl) ?_
  exact R et trivial
@[go_sem ↓] def BW14 (x:GActsResult) (k:Int):Tq:=fun H Bd K=>((sm x/\0<=k/\k+(kD x.acts:Nat)<=4611686018427387904/\x.acts=mkDL k x.acts)/\K (iv (k+(kD x.acts:Nat))) H Bd)
def W14:qH:=fun g' H Bd K=>∃(x:GActsResult) (k:Int),g'=[.agg (enc x).toArray,iv k]/\BW14 x k H Bd K
@[go_sem ↓] theorem W14_eq (a:Int) (b:List GAct) (c:Int):W14 [.agg #[iv a,lst b],iv c] H Bd K=BW14 (GActsResult.mk a b) c H Bd K:=ex2 (GActsResult.mk a b) c rfl
theorem W14_ok:OK 14 W14:=by
 rintro _ H Bd K ⟨x,k,rfl,hpre,hK⟩
 refine fnp pok (uA.uB W39_ok) [] hK func14 ntmps14 call14 [.tmp 4] fun hb ha=>?_
 obtain⟨h1,h2,h3,h4⟩:=hpre
 have h5:sm x.acts:=h1.2
 have h6:(x.acts=mkDL k x.acts)=True:=eq_true h4
 have h7:¬(k+(kD x.acts:Nat)<0):=by omega
 clear h4
 exact R (cj h2 (cj h3 (cj h5 (cj h6 h7)))) trivial
theorem N14_pure:PureV W14:=by
 rintro _ H Bd K ⟨x0,x1,rfl,hpre,hK⟩
 exact⟨_,by first|exact .bool _|exact .int _ _|exact .string _|exact vc_enc _,hK,fun H' K' hs h=>⟨x0,x1,rfl,hpre,h⟩⟩
def N14:qH:=LendN W14
@[go_sem ↓] theorem N14_eq (a b:Value):N14 [a,b] H Bd K=Held (N14 [a,b] H Bd K) ⟨⟩:=(rfl)
theorem N14_ok:OK 14 N14:=LendN_ok W14_ok N14_pure
def W3:qH:=fun g' H Bd K=>∃(d:GDisk),g'=[.agg (enc d).toArray]/\((sm d)/\K (.bool true) H Bd)
theorem W3_ok:OK 3 W3:=by
 rintro _ H Bd K ⟨d,rfl,hpre,hK⟩
 refine fnp pok (((((((((uA.uB W6_ok).uB P8_ok).uB K7_ok).uB Q9_ok).uB N10_ok).uB N11_ok).uB W12_ok).uB W13_ok).uB N14_ok) [(10,[0,1,2,3,4],[z0 0,z0 1,⟨2,[],[0]⟩,z0 3,z0 4], .nil),(14,[],[],(.k 3 (.grp false 37 41 4 [38,39,40,41] 42 none (.k 4 .nil) .nil)))] hK func3 ntmps3 call3 [.tmp 2] fun hb ha=>?_
 have h0:=hpre
 have z0:=szP_or (tot d) (1048576)
 have y0:=szP_ub (tot d) (left:=1048576) (by omega)
 by_cases q0:szP (tot d) 1048576<0
 ·exact R (cj h0 q0) trivial
 have t0:tot d<=1048576:=by omega
 have hfr:∀n,Bd<=n->H n=none:=fun n hn=>hb.fresh n hn
 have k0:=actsR_sm (dropR_ok d)
 have k1:_/\_:=dropR_ok d
 refine R (cj h0 (cj q0 (cj t0 hfr))) ?_
 have hif:∀(p:Prop) [Decidable p] (x y:Option Blk),¬p->(if p then x else y)=y:=fun p _ x y h=>if_neg h
 have hip:∀(p:Prop) [Decidable p] (x y:Option Blk),p->(if p then x else y)=x:=fun p _ x y h=>if_pos h
 have hn0:∀m c,H m=some c->m<Bd:=fun m c hm=>hb_in hb hm
 have hG:∀m c,upd H Bd (some ⟨[lst d.sectors,lst d.pending],true⟩) m=some c->m<Bd+1:=names_upd (fun m c hm=>by have:=hn0 m c hm;omega) (by omega)
 refine held ⟨[.agg (enc d).toArray],_,Bd+1,?_,?_,hG,?_⟩
 ·refine kA (pub_as (Has_pubB (x:=d) (n:=Bd+1) ?_ ?_) ?_) pubc_nil
  all_goals first|omega|(simp (disch:=first|assumption|omega) only[go_sem,push_cast,qB,qA,Nat.add_assoc,hif,hip,qJ];done)|skip
 ·simp (disch:=first|assumption|omega) only[Le_hi hG,Le_hiO hG,qU]
 simp (maxSteps:=2000000) (disch:=first|exact dq|fail) only[go_sem,push_cast,qB,qA,qK hb,qE hb,hif,hip,h0,hfr]
 refine held ⟨[.agg (enc d).toArray],?_,?_⟩
 ·refine kA (pub_as (Has_pubX (x:=d) (n:=Bd+1+(OV.numL (OEnc.oc d.sectors)+(OV.numL (OEnc.oc d.pending)+1))) ?_) ?_) pubc_nil
  all_goals first|omega|(simp (disch:=first|assumption|omega) only[go_sem,push_cast,qB,qA,Nat.add_assoc,hif,hip,qJ];done)|skip
 simp (maxSteps:=2000000) (disch:=first|exact dq|fail) only[go_sem,push_cast,qB,qA,qK hb,qE hb,hif,hip,h0,hfr,k0,vH]
 refine held ⟨[.agg (enc (yW d)).toArray, .agg (enc (yW d)).toArray],?_,?_⟩
 ·refine kA (pub_as (Has_pubX (x:=yW d) (n:=Bd+1+(OV.numL (OEnc.oc d.sectors)+(OV.numL (OEnc.oc d.pending)+1))+(OV.numL (OEnc.oc d.sectors)+(OV.numL (OEnc.oc d.pending)+1))) ?_) ?_) (kA (pub_as (.same (.agg (enc (yW d)).toArray)) ?_) pubc_nil)
  all_goals first|omega|rfl|(simp (disch:=first|assumption|omega) only[go_sem,push_cast,qB,qA,Nat.add_assoc,hif,hip,qJ];done)|skip
 simp (maxSteps:=2000000) (disch:=first|exact dq|fail) only[go_sem,push_cast,qB,qA,qK hb,qE hb,hif,hip,h0,hfr,k0,vH]
 refine held ⟨[.agg (enc d).toArray, .agg (enc d).toArray],?_,?_⟩
 ·refine kA (pub_as (Has_pubX (x:=d) (n:=Bd+1+(OV.numL (OEnc.oc d.sectors)+(OV.numL (OEnc.oc d.pending)+1))) ?_) ?_) (kA (pub_as (Has_pubX (x:=d) (n:=Bd+1+(OV.numL (OEnc.oc d.sectors)+(OV.numL (OEnc.oc d.pending)+1))+(OV.numL (OEnc.oc d.sectors)+(OV.numL (OEnc.oc d.pending)+1))+(OV.numL (OEnc.oc (yW d).acts)+1)+5) ?_) ?_) pubc_nil)
  all_goals first|omega|rfl|(simp (disch:=first|assumption|omega) only[go_sem,push_cast,qB,qA,Nat.add_assoc,hif,hip,qJ];done)|skip
 simp (maxSteps:=2000000) (disch:=first|exact dq|fail) only[go_sem,push_cast,qB,qA,qK hb,qE hb,hif,hip,h0,hfr,k0,vH]
 have c0:=cntD_bytes d.sectors
 have c1:=cntD_puts d.pending
 have c2:tot d=tot d.sectors+tot d.pending:=by simp[tot_GDisk]
 refine held ⟨d,Bd+1+(OV.numL (OEnc.oc d.sectors)+(OV.numL (OEnc.oc d.pending)+1)),1,rfl,⟨?_,h0,by omega,by omega⟩,?_⟩
 ·simp (disch:=first|assumption|omega) only[go_sem,push_cast,qB,qA,Nat.add_assoc,hif,hip,qJ]
 have e0:OV.numL (OEnc.oc (mkDL 1 d.sectors))=OV.numL (OEnc.oc d.sectors):=vE _ _
 have e1:OV.numL (OEnc.oc (mkDL (1+(kD d.sectors:Nat)) d.pending))=OV.numL (OEnc.oc d.pending):=vE _ _
 simp (maxSteps:=2000000) (disch:=first|exact dq|fail) only[go_sem,push_cast,qB,qA,qK hb,qE hb,hif,hip,h0,hfr,k0,vH,e0,e1]
 refine⟨false,held ⟨[.agg (enc (yW d)).toArray, .agg (enc (yW d)).toArray],?_,?_⟩,?_⟩
 ·refine kA (pub_as (Has_pubX (x:=yW d) (n:=Bd+1+(OV.numL (OEnc.oc d.sectors)+(OV.numL (OEnc.oc d.pending)+1))+(OV.numL (OEnc.oc d.sectors)+(OV.numL (OEnc.oc d.pending)+1))) ?_) ?_) (kA (pub_as (.same (.agg (enc (yW d)).toArray)) ?_) pubc_nil)
  all_goals first|omega|rfl|(simp (disch:=first|assumption|omega) only[go_sem,push_cast,qB,qA,Nat.add_assoc,hif,hip,qJ,e0,e1];done)|skip
 ·simp (maxSteps:=2000000) (disch:=first|exact dq|fail) only[go_sem,push_cast,qB,qA,qK hb,qE hb,hif,hip,h0,hfr,k0,vH,e0,e1]
 simp (maxSteps:=2000000) (disch:=first|exact dq|fail) only[go_sem,push_cast,qB,qA,qK hb,qE hb,hif,hip,h0,hfr,k0,vH,e0,e1]
 have c3:=cntA_le k1.2
 obtain⟨s1,s2⟩:=mkA_same 1 (yW d).acts
 have s3:=acts_sm (l:=mkDL 1 (yW d).acts) (by rw[zK];exact k1.1) (mkA_le 1 k1.2)
 have s4:sm (⟨(yW d).code,mkDL 1 (yW d).acts⟩:GActsResult):=⟨trivial,s3⟩
 refine held ⟨yW d,Bd+1+(OV.numL (OEnc.oc d.sectors)+(OV.numL (OEnc.oc d.pending)+1))+(OV.numL (OEnc.oc d.sectors)+(OV.numL (OEnc.oc d.pending)+1)),1,rfl,⟨?_,k0,by omega,by omega⟩,?_⟩
 ·simp (disch:=first|assumption|omega) only[go_sem,push_cast,qB,qA,Nat.add_assoc,hif,hip,qJ,e0,e1]
 have e2:OV.numL (OEnc.oc (mkDL 1 (yW d).acts))=OV.numL (OEnc.oc (yW d).acts):=vE _ _
 simp (maxSteps:=2000000) (disch:=first|exact dq|fail) only[go_sem,push_cast,qB,qA,qK hb,qE hb,hif,hip,h0,hfr,k0,vH,e0,e1,e2]
 refine held ⟨[.agg (enc (⟨(yW d).code,mkDL 1 (yW d).acts⟩:GActsResult)).toArray,iv 1],?_,?_⟩
 ·refine kA (pub_as (Has_pubX (x:=(⟨(yW d).code,mkDL 1 (yW d).acts⟩:GActsResult)) (n:=Bd+1+(OV.numL (OEnc.oc d.sectors)+(OV.numL (OEnc.oc d.pending)+1))+(OV.numL (OEnc.oc d.sectors)+(OV.numL (OEnc.oc d.pending)+1))) ?_) ?_) (kA (.same _) pubc_nil)
  all_goals first|omega|rfl|(simp (disch:=first|assumption|omega) only[go_sem,push_cast,qB,qA,Nat.add_assoc,hif,hip,qJ,e0,e1,e2,zK];done)|skip
 have s5:¬(1+(kD (yW d).acts:Int)<0):=by omega
 simp (maxSteps:=2000000) (disch:=first|exact dq|fail) only[go_sem,push_cast,qB,qA,qK hb,qE hb,hif,hip,h0,hfr,k0,vH,e0,e1,e2,s1,s2,s4,s5]
 refine held ⟨[.agg (enc d).toArray],?_,?_⟩
 ·refine kA (pub_as (Has_pubX (x:=d) (n:=Bd+1+(OV.numL (OEnc.oc d.sectors)+(OV.numL (OEnc.oc d.pending)+1))+(OV.numL (OEnc.oc d.sectors)+(OV.numL (OEnc.oc d.pending)+1))+(OV.numL (OEnc.oc (yW d).acts)+1)+5+(OV.numL (OEnc.oc d.sectors)+OV.numL (OEnc.oc d.pending))) ?_) ?_) pubc_nil
  all_goals first|omega|(simp (disch:=first|assumption|omega) only[go_sem,push_cast,qB,qA,Nat.add_assoc,hif,hip,qJ,e0,e1,e2];done)|skip
 simp (maxSteps:=2000000) (disch:=first|exact dq|fail) only[go_sem,push_cast,qB,qA,qK hb,qE hb,hif,hip,h0,hfr,k0,vH,e0,e1,e2,s1,s2,s4,s5]
 refine held ⟨[.agg (enc (yW d)).toArray, .agg (enc (yW d)).toArray],?_,?_⟩
 ·refine kA (pub_as (Has_pubX (x:=yW d) (n:=Bd+1+(OV.numL (OEnc.oc d.sectors)+(OV.numL (OEnc.oc d.pending)+1))+(OV.numL (OEnc.oc d.sectors)+(OV.numL (OEnc.oc d.pending)+1))+(OV.numL (OEnc.oc (yW d).acts)+1)+5+(OV.numL (OEnc.oc d.sectors)+OV.numL (OEnc.oc d.pending))+(OV.numL (OEnc.oc d.sectors)+OV.numL (OEnc.oc d.pending))) ?_) ?_) (kA (pub_as (.same (.agg (enc (yW d)).toArray)) ?_) pubc_nil)
  all_goals first|omega|rfl|(simp (disch:=first|assumption|omega) only[go_sem,push_cast,qB,qA,Nat.add_assoc,hif,hip,qJ,e0,e1,e2];done)|skip
 simp (maxSteps:=2000000) (disch:=first|exact dq|fail) only[go_sem,push_cast,qB,qA,qK hb,qE hb,hif,hip,h0,hfr,k0,vH,e0,e1,e2,s1,s2,s4,s5]
 refine held ⟨[.agg (enc (⟨(yW d).code,mkDL 1 (yW d).acts⟩:GActsResult)).toArray,iv 1],?_,?_⟩
 ·refine kA (pub_as (Has_pubX (x:=(⟨(yW d).code,mkDL 1 (yW d).acts⟩:GActsResult)) (n:=Bd+1+(OV.numL (OEnc.oc d.sectors)+(OV.numL (OEnc.oc d.pending)+1))+(OV.numL (OEnc.oc d.sectors)+(OV.numL (OEnc.oc d.pending)+1))) ?_) ?_) (kA (.same _) pubc_nil)
  all_goals first|omega|rfl|(simp (disch:=first|assumption|omega) only[go_sem,push_cast,qB,qA,Nat.add_assoc,hif,hip,qJ,e0,e1,e2,zK];done)|skip
 simp (maxSteps:=2000000) (disch:=first|exact dq|fail) only[go_sem,push_cast,qB,qA,qK hb,qE hb,hif,hip,h0,hfr,k0,vH,e0,e1,e2,s1,s2,s4,s5,Le_hi hn0,Le_hiO hn0,qU]
end Go.Proofs.YtogofkjpbpgneaaGreatDoor
