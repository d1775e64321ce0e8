/- YtogofkjpbpgneaaGreatDoorD8 -/
import Derived.Test.YtogofkjpbpgneaaGreatDoorD7
set_option linter.unusedSimpArgs false
set_option linter.unusedVariables false
set_option maxRecDepth 20000
set_option maxHeartbeats 2000000
namespace Go.Proofs.YtogofkjpbpgneaaGreatDoor
open Go Go.SC Tryz
variable {H:AH} {Bd:Nat} {K:Value->AH->Nat->Prop}
def W65:qH:=fun args H Bd K=>∃(xs:List UInt8) (ys:List UInt8),args=[lst xs,lst ys]/\((sm xs)/\K (.bool (decide (xs=ys))) H Bd)
@[go_sem ↓] theorem W65_eq (a b:List UInt8):W65 [lst a,lst b] H Bd K=((sm a)/\K (.bool (decide (a=b))) H Bd):=ex2 a b rfl
theorem W65_ok:OK 65 W65:=by
 rintro args H Bd K ⟨xs,ys,rfl,hpre,hK⟩
 refine fnp pok (Env.base _) [(6,[0,1,2,3,4,5,6,7,8],[z0 0,z0 1,z0 2,z0 3,z0 4,z0 5,z0 6,z0 7,z0 8], .nil)] hK func65 ntmps65 call65 [.tmp 4] fun hb ha=> ?_
 refine jD pok fun cv=> ?_
 have hlen:=qR hpre
 simp (maxSteps:=2000000) (disch:=first|exact dq|fail) only[go_sem,push_cast,qB,qA,qK hb,qE hb]
 refine Cnp.of (fun hl=> ?_) (fun hl=>cmp_len (by omega))
 have hl':xs.length=ys.length:=by omega
 refine qY (fun i=>∀j,j<i->xs[j]? =ys[j]?) xs.length (fun i=>[(0,lst xs),(1,lst ys),(5, .int .i64 i)]) (fun j h=>by omega) (by simp only[go_sem,push_cast,qB,qA]) ?_
 intro i B0 hI hi hB
 refine cv (by kernel_rfl) ?_
 rcases xM i xs.length with hlt|hge
 ·have e1:xs[i]? =some xs[i]:=xA hlt
  have e2:ys[i]? =some (ys[i]'(by omega)):=xA _
  have hx:=yQ hpre (xH hlt)
  simp (maxSteps:=2000000) (disch:=first|exact dq|fail) only[go_sem,push_cast,qB,qA,qK hb,qE hb,e1,e2,hx]
  exact cmp_step hl' hI hlt (by omega) rfl fun h=>h
 ·simp (maxSteps:=2000000) (disch:=first|exact dq|fail) only[go_sem,push_cast,qB,qA,qK hb,qE hb]
  refine cv (by kernel_rfl) ?_
  simp (maxSteps:=2000000) (disch:=first|exact dq|fail) only[go_sem,push_cast,qB,qA,qK hb,qE hb]
  exact cmp_end hl' hI hge
def W34:qH:=fun args H Bd K=>∃(xs:List (List UInt8)) (ys:List (List UInt8)),args=[lst xs,lst ys]/\((sm xs)/\K (.bool (decide (xs=ys))) H Bd)
@[go_sem ↓] theorem W34_eq (a b:List (List UInt8)):W34 [lst a,lst b] H Bd K=((sm a)/\K (.bool (decide (a=b))) H Bd):=ex2 a b rfl
theorem W34_ok:OK 34 W34:=by
 rintro args H Bd K ⟨xs,ys,rfl,hpre,hK⟩
 refine fnp pok ((Env.base _).add 65 _ W65_ok) [(6,[0,1,2,3,4,5,6,7,8,9],[z0 0,z0 1,z0 2,z0 3,z0 4,z0 5,z0 6,z0 7,z0 8,z0 9], .nil)] hK func34 ntmps34 call34 [.tmp 4] fun hb ha=> ?_
 refine jD pok fun cv=> ?_
 have hlen:=qR hpre
 simp (maxSteps:=2000000) (disch:=first|exact dq|fail) only[go_sem,push_cast,qB,qA,qK hb,qE hb]
 refine Cnp.of (fun hl=> ?_) (fun hl=>cmp_len (by omega))
 have hl':xs.length=ys.length:=by omega
 refine qY (fun i=>∀j,j<i->xs[j]? =ys[j]?) xs.length (fun i=>[(0,lst xs),(1,lst ys),(5, .int .i64 i)]) (fun j h=>by omega) (by simp only[go_sem,push_cast,qB,qA]) ?_
 intro i B0 hI hi hB
 refine cv (by kernel_rfl) ?_
 rcases xM i xs.length with hlt|hge
 ·have e1:xs[i]? =some xs[i]:=xA hlt
  have e2:ys[i]? =some (ys[i]'(by omega)):=xA _
  have hx:=yQ hpre (xH hlt)
  simp (maxSteps:=2000000) (disch:=first|exact dq|fail) only[go_sem,push_cast,qB,qA,qK hb,qE hb,e1,e2,hx]
  exact cmp_step hl' hI hlt (by omega) rfl fun h=>h
 ·simp (maxSteps:=2000000) (disch:=first|exact dq|fail) only[go_sem,push_cast,qB,qA,qK hb,qE hb]
  refine cv (by kernel_rfl) ?_
  simp (maxSteps:=2000000) (disch:=first|exact dq|fail) only[go_sem,push_cast,qB,qA,qK hb,qE hb]
  exact cmp_end hl' hI hge
def W66:qH:=fun args H Bd K=>∃(x:GPut) (y:GPut),args=[.agg (enc x).toArray, .agg (enc y).toArray]/\((sm x)/\K (.bool (decide (x=y))) H Bd)
@[go_sem ↓] theorem W66_eq (a:Int) (b:List UInt8) (c:Int) (d:List UInt8):W66 [.agg #[.int .i64 a,lst b], .agg #[.int .i64 c,lst d]] H Bd K=((sm (GPut.mk a b))/\K (.bool (decide ((GPut.mk a b)=(GPut.mk c d)))) H Bd):=ex2 (GPut.mk a b) (GPut.mk c d) rfl
theorem W66_ok:OK 66 W66:=by
 rintro args H Bd K ⟨x,y,rfl,hpre,hK⟩
 refine fnp pok ((Env.base _).add 65 _ W65_ok) [] hK func66 ntmps66 call66 [.tmp 4] fun hb ha=> ?_
 simp only[sm_GPut]at hpre
 simp (maxSteps:=2000000) (disch:=first|exact dq|fail) only[go_sem,push_cast,qB,qA,qK hb,qE hb,hpre]
 cases x;cases y
 simp only[Cnp,GPut.mk.injEq]
 constructor <;>intros <;>simp_all
def W35:qH:=fun args H Bd K=>∃(xs:List GPut) (ys:List GPut),args=[lst xs,lst ys]/\((sm xs)/\K (.bool (decide (xs=ys))) H Bd)
@[go_sem ↓] theorem W35_eq (a b:List GPut):W35 [lst a,lst b] H Bd K=((sm a)/\K (.bool (decide (a=b))) H Bd):=ex2 a b rfl
theorem W35_ok:OK 35 W35:=by
 rintro args H Bd K ⟨xs,ys,rfl,hpre,hK⟩
 refine fnp pok ((Env.base _).add 66 _ W66_ok) [(6,[0,1,2,3,4,5,6,7,8,9],[z0 0,z0 1,z0 2,z0 3,z0 4,z0 5,z0 6,z0 7,z0 8,z0 9], .nil)] hK func35 ntmps35 call35 [.tmp 4] fun hb ha=> ?_
 refine jD pok fun cv=> ?_
 have hlen:=qR hpre
 simp (maxSteps:=2000000) (disch:=first|exact dq|fail) only[go_sem,push_cast,qB,qA,qK hb,qE hb]
 refine Cnp.of (fun hl=> ?_) (fun hl=>cmp_len (by omega))
 have hl':xs.length=ys.length:=by omega
 refine qY (fun i=>∀j,j<i->xs[j]? =ys[j]?) xs.length (fun i=>[(0,lst xs),(1,lst ys),(5, .int .i64 i)]) (fun j h=>by omega) (by simp only[go_sem,push_cast,qB,qA]) ?_
 intro i B0 hI hi hB
 refine cv (by kernel_rfl) ?_
 rcases xM i xs.length with hlt|hge
 ·have e1:xs[i]? =some xs[i]:=xA hlt
  have e2:ys[i]? =some (ys[i]'(by omega)):=xA _
  have hx:=yQ hpre (xH hlt)
  simp (maxSteps:=2000000) (disch:=first|exact dq|fail) only[go_sem,push_cast,qB,qA,qK hb,qE hb,e1,e2,hx]
  exact cmp_step hl' hI hlt (by omega) rfl fun h=>h
 ·simp (maxSteps:=2000000) (disch:=first|exact dq|fail) only[go_sem,push_cast,qB,qA,qK hb,qE hb]
  refine cv (by kernel_rfl) ?_
  simp (maxSteps:=2000000) (disch:=first|exact dq|fail) only[go_sem,push_cast,qB,qA,qK hb,qE hb]
  exact cmp_end hl' hI hge
def W11:qH:=fun args H Bd K=>∃(x:GDisk) (y:GDisk),args=[.agg (enc x).toArray, .agg (enc y).toArray]/\((sm x)/\K (.bool (decide (x=y))) H Bd)
@[go_sem ↓] theorem W11_eq (a:List (List UInt8)) (b:List GPut) (c:List (List UInt8)) (d:List GPut):W11 [.agg #[lst a,lst b], .agg #[lst c,lst d]] H Bd K=((sm (GDisk.mk a b))/\K (.bool (decide ((GDisk.mk a b)=(GDisk.mk c d)))) H Bd):=ex2 (GDisk.mk a b) (GDisk.mk c d) rfl
theorem W11_ok:OK 11 W11:=by
 rintro args H Bd K ⟨x,y,rfl,hpre,hK⟩
 refine fnp pok (((Env.base _).add 34 _ W34_ok).add 35 _ W35_ok) [] hK func11 ntmps11 call11 [.tmp 4] fun hb ha=> ?_
 simp only[sm_GDisk]at hpre
 simp (maxSteps:=2000000) (disch:=first|exact dq|fail) only[go_sem,push_cast,qB,qA,qK hb,qE hb,hpre]
 cases x;cases y
 simp only[Cnp,GDisk.mk.injEq]
 constructor <;>intros <;>simp_all
theorem N11_pure:PureV W11:=by
 rintro args H Bd K ⟨x0,x1,rfl,hpre,hK⟩
 exact⟨_,by first|exact .bool _|exact .int _ _|exact .string _|exact vc_enc _,hK,fun H' K' hs h=>⟨x0,x1,rfl,hpre,h⟩⟩
def N11:qH:=LendN W11
@[go_sem ↓] theorem N11_eq (a b:Value):N11 [a,b] H Bd K=Held (N11 [a,b] H Bd K) ⟨⟩:=(rfl)
theorem N11_ok:OK 11 N11:=LendN_ok W11_ok N11_pure
def W67:qH:=fun args H Bd K=>∃(q:Int) (n:Nat) (l:Nat) (c:Nat),args=[.slice (some ⟨n,0,some 1⟩) l c, .int .i64 q]/\(Yld (H n) fun b0=>(b0.own=true/\b0.cells.length=l*1/\0<=q/\q+(l*1:Nat)<=4611686018427387904/\l<=281474976710656)/\K (.int .i64 (q+(l*1:Nat))) (upd H n (some ⟨qO (mkL UInt8 q l),true⟩)) Bd)
@[go_sem ↓] theorem W67_eq (a b c:Nat) (d:Int):W67 [.slice (some ⟨a,0,some 1⟩) b c, .int .i64 d] H Bd K=(Yld (H a) fun b0=>(b0.own=true/\b0.cells.length=b*1/\0<=d/\d+(b*1:Nat)<=4611686018427387904/\b<=281474976710656)/\K (.int .i64 (d+(b*1:Nat))) (upd H a (some ⟨qO (mkL UInt8 d b),true⟩)) Bd):=by
 refine propext ⟨fun h=> ?_,fun h=>⟨_,_,_,_,rfl,h⟩⟩
 obtain⟨q',n',l',c',e,h⟩:=h
 skip
 simp only[xG,Value.agg.injEq,jB,xK,Value.bool.injEq,Value.string.injEq,xY,Value.func.injEq,Value.pointer.injEq,xE,Addr.mk.injEq,lst_inj,true_and,and_true,and_assoc]at e
 obtain⟨rfl,rfl,rfl,rfl⟩:=e
 exact h
theorem W67_ok:OK 67 W67:=by
 rintro args H Bd K ⟨q,n,l,c,rfl,⟨cells,ow⟩,hb0,⟨ho,hc,h1,h2,h3⟩,hK⟩
 simp only at ho hc
 subst ho
 refine fn_set pok (Env.base _) [] _ hK (fun hh=>hb_setF hh hb0 _) func67 rfl (rs:=[.tmp 4]) rfl ntmps67 (by simp) call67 (by kernel_rfl) (fun ha hb=> .int _ _) (fun hb ha=> ?_)
 refine jD pok fun cv=> ?_
 have hLe:=le_own hb0
 refine R hb0 ?_
 refine tr_st (X:=Nat) (fun i=>i<=l) (fun i=>l-i) (fun i=>[(0, .slice (some ⟨n,0,some 1⟩) l c),(1, .int .i64 (q+(i*1:Nat))),(5, .int .i64 i)]) (fun i=>upd H n (some ⟨mkC UInt8 q i cells,true⟩)) 0 (xT _) (by simp only[go_sem,push_cast,qB,qA,mkC_zero,hLe,Nat.zero_mul,Int.natCast_zero,Int.add_zero]<;>exact cT) (by first|exact Le.refl _|simp (disch:=first|assumption|omega) only[go_sem,push_cast,qB,qA,qT,jK,mkC_zero,hLe,Nat.zero_mul,Int.natCast_zero,Int.add_zero]) ?_
 intro i Bi hIi hBi hbi Fi hFi
 refine cv (by kernel_rfl) ?_
 rcases xM i l with hlt|hge
 ·obtain⟨b,hbv⟩:∃b:UInt8,UInt8.ofNat ((q+(i*1:Nat))%256).toNat=b:=⟨_,rfl⟩
  have hv:(q+(i:Int))%256=(b.toNat:Int):=by rw[<-hbv,UInt8.toNat_ofNat'];omega
  have hset:(mkC UInt8 q i cells).set i (.int .u8 (b.toNat:Int))=mkC UInt8 q (i+1) cells:=by rw[<-hbv];exact mkC_set1 (n:=l) q cells hc hlt (by rw[Nat.mul_one];rfl)
  have hln:(mkC UInt8 q i cells).length=cells.length:=mkC_len q i cells (by rw[hc];exact Nat.mul_le_mul_right _ hIi)
  refine R (cj hv (cj hset hln)) ?_
  refine hFi (i+1) _ _ _ ?_ ?_ (by first|exact Le.refl _|simp (disch:=first|assumption|omega|(simp (disch:=omega) only[qF,qE hb];done)) only[go_sem,push_cast,qB,qA,qT,jK,qF,qE hb,hset]) (by simp only[go_sem,push_cast,qB,qA]) (by simp only[go_sem,push_cast,qB,qA,hset]<;>exact cT)
  all_goals omega
 ·refine R0 ?_
  obtain rfl:i=l:=by omega
  rw[mkC_end q cells hc]
  refine cv (by kernel_rfl) ?_
  exact R0 trivial
def W36:qH:=fun args H Bd K=>∃(xs:List (List UInt8)) (n c:Nat) (q:Int),args=[.slice (some ⟨n,0,some 1⟩) xs.length c, .int .i64 q]/\(OV.Has H n (OEnc.oc xs)/\sm xs/\0<=q/\q+(kJ xs:Nat)<=4611686018427387904)/\K (.int .i64 (q+(kJ xs:Nat))) (oput H n (OEnc.oc (mkDL q xs))) Bd
@[go_sem ↓] theorem W36_eq (a b:Value):W36 [a,b] H Bd K=Held (W36 [a,b] H Bd K) ⟨⟩:=(rfl)
theorem W36_ok:OK 36 W36:=by
 rintro args H Bd K ⟨xs,n,c,q,rfl,⟨hH,hsm,h1,h2⟩,hK⟩
 refine fn_set pok ((Env.base _).add 67 _ W67_ok) [] _ hK (fun hh=>HB_oput hh hH (OEnc.ok _) (vF _ _)) func36 rfl (rs:=[.tmp 4]) rfl ntmps36 (by simp) call36 (by kernel_rfl) (fun ha hb=> .int _ _) (fun hb ha=> ?_)
 refine jD pok fun cv=> ?_
 have hlen:=qR hsm
 refine R0 ?_
 refine tr_st (X:=Nat×AH) (fun x=>x.1<=xs.length/\OV.Has x.2 n (OEnc.oc (mkTo q x.1 xs))/\(∀m,m<n\/n+OV.numL (OEnc.oc xs)<=m->x.2 m=H m)) (fun x=>xs.length-x.1) (fun x=>[(0, .slice (some ⟨n,0,some 1⟩) xs.length c),(1, .int .i64 (q+(kJ (xs.take x.1):Nat))),(5, .int .i64 (x.1:Nat))]) (fun x=>x.2) (0,H) (⟨xT _,by rw[mkTo_zero];exact hH,fun m _=>rfl⟩) (by simp only[go_sem,push_cast,qB,qA,List.take_zero,cntD_nil,Int.natCast_zero,Int.add_zero]<;>exact cT) (by first|exact Le.refl _|simp (disch:=first|assumption|omega) only[go_sem,push_cast,qB,qA,qT,jK,List.take_zero,cntD_nil,Int.natCast_zero,Int.add_zero]) ?_
 intro x Bx hIx hBx hbx Fx hFx
 refine cv (by kernel_rfl) ?_
 obtain⟨i,G⟩:=x
 obtain⟨i1,i2,i3⟩:=hIx
 simp only at i1 i2 i3
 rcases xM i xs.length with hlt|hge
 ·have hlt2:i<(mkTo q i xs).length:=by rw[mkTo_len];exact hlt
  have gx:=mkTo_at q hlt hlt2
  obtain⟨g1,g2⟩:=has_elems.1 i2
  have g3:=g2 i hlt2
  rw[gx]at g3
  have hx:=yQ hsm (xH hlt)
  have hct:=cntD_take (i+1) xs
  have hcs:=cntD_succ hlt
  have hal:=valL_all (n+1) (mkTo q i xs)
  rw[mkTo_len]at hal
  have hms:=mkTo_succ q hlt
  have hnn:OV.numL (OEnc.oc xs)=xs.length*1+1:=oc_num xs
  simp only[go_sem,Nat.mul_one]at g3
  have g4:=valL_cell (n+1) (j:=0) hlt2 (by decide)
  rw[gx]at g4
  have hk1:Enc.k (List UInt8)=1:=rfl
  simp only[hk1,go_sem,Nat.mul_one,Nat.add_zero]at g4 hal
  have hy:MkD.put (q+(kJ (xs.take i):Nat)) xs[i]=mkL UInt8 (q+(kJ (xs.take i):Nat)) xs[i].length:=rfl
  have hy2:MkD.cnt xs[i]=xs[i].length*1:=rfl
  rw[hy]at hms
  rw[hy2,Nat.mul_one]at hcs
  have hl:=qR hx
  have hsets:=valL_set (n+1) hlt2 (mkL UInt8 (q+(kJ (xs.take i):Nat)) xs[i].length)
  simp (maxSteps:=2000000) (disch:=first|exact dq|fail) only[go_sem,push_cast,qB,qA,qK hb,qE hb,g1,g3,g4,hal,hlt,mkL_len,jQ]
  refine hFx (i+1,upd G (n+1+i) (some ⟨qO (mkL UInt8 (q+(kJ (xs.take i):Nat)) xs[i].length),true⟩)) _ _ _ ?_ ?_ (by first|exact Le.refl _|simp (disch:=first|assumption|omega|(simp (disch:=omega) only[qF,qE hb];done)) only[go_sem,push_cast,qB,qA,qT,jK,qF,qE hb,hcs,Int.natCast_add,Int.add_assoc]) (by simp only[go_sem,push_cast,qB,qA]) (by simp only[go_sem,push_cast,qB,qA,hcs,Int.natCast_add,Int.add_assoc]<;>exact cT)
  ·show xs.length-(i+1)<xs.length-i
   omega
  ·refine⟨hlt,?_,fun m hm=> ?_⟩
   ·show OV.Has _ n (OEnc.oc (mkTo q (i+1) xs))
    rw[hms]
    refine has_set hlt2 i2 ?_ ?_ fun m h1 h2=> ?_
    ·show upd G (n+1+i) _ n=_
     rw[qD _ _ (by omega),g1,<-hsets]
     have e5:OV.valL (n+1+i*1) (OEnc.oc (mkL UInt8 (q+(kJ (xs.take i):Nat)) xs[i].length))=[.slice (some ⟨n+1+i,0,some 1⟩) xs[i].length (xs[i].length+1)]:=by simp only[go_sem,Nat.mul_one,mkL_len]
     rw[e5,hk1,Nat.mul_one]
     have e6:=set_same g4
     exact congrArg (fun z=>some (⟨z,true⟩:Blk)) e6.symm
    ·simp only[go_sem,Nat.mul_one,qJ]
    ·exact qD _ _ (by omega)
   ·show upd G _ _ m=H m
    rw[qD _ _ (by omega)];exact i3 m hm
 ·refine R0 ?_
  obtain rfl:i=xs.length:=by omega
  rw[mkTo_end]at i2
  have hG:=oput_eq i2 (by rw[vF];exact i3)
  refine cv (by kernel_rfl) ?_
  refine R (@List.take_length UInt8) ?_
  rw[hG];exact⟨Le.refl _,by rw[List.take_length]⟩
def W37:qH:=fun args H Bd K=>∃(xs:List GPut) (n c:Nat) (q:Int),args=[.slice (some ⟨n,0,some 2⟩) xs.length c, .int .i64 q]/\(OV.Has H n (OEnc.oc xs)/\sm xs/\0<=q/\q+(kJ xs:Nat)<=4611686018427387904)/\K (.int .i64 (q+(kJ xs:Nat))) (oput H n (OEnc.oc (mkDL q xs))) Bd
@[go_sem ↓] theorem W37_eq (a b:Value):W37 [a,b] H Bd K=Held (W37 [a,b] H Bd K) ⟨⟩:=(rfl)
theorem W37_ok:OK 37 W37:=by
 rintro args H Bd K ⟨xs,n,c,q,rfl,⟨hH,hsm,h1,h2⟩,hK⟩
 refine fn_set pok ((Env.base _).add 67 _ W67_ok) [] _ hK (fun hh=>HB_oput hh hH (OEnc.ok _) (vF _ _)) func37 rfl (rs:=[.tmp 4]) rfl ntmps37 (by simp) call37 (by kernel_rfl) (fun ha hb=> .int _ _) (fun hb ha=> ?_)
 refine jD pok fun cv=> ?_
 have hlen:=qR hsm
 refine R0 ?_
 refine tr_st (X:=Nat×AH) (fun x=>x.1<=xs.length/\OV.Has x.2 n (OEnc.oc (mkTo q x.1 xs))/\(∀m,m<n\/n+OV.numL (OEnc.oc xs)<=m->x.2 m=H m)) (fun x=>xs.length-x.1) (fun x=>[(0, .slice (some ⟨n,0,some 2⟩) xs.length c),(1, .int .i64 (q+(kJ (xs.take x.1):Nat))),(5, .int .i64 (x.1:Nat))]) (fun x=>x.2) (0,H) (⟨xT _,by rw[mkTo_zero];exact hH,fun m _=>rfl⟩) (by simp only[go_sem,push_cast,qB,qA,List.take_zero,cntD_nil,Int.natCast_zero,Int.add_zero]<;>exact cT) (by first|exact Le.refl _|simp (disch:=first|assumption|omega) only[go_sem,push_cast,qB,qA,qT,jK,List.take_zero,cntD_nil,Int.natCast_zero,Int.add_zero]) ?_
 intro x Bx hIx hBx hbx Fx hFx
 refine cv (by kernel_rfl) ?_
 obtain⟨i,G⟩:=x
 obtain⟨i1,i2,i3⟩:=hIx
 simp only at i1 i2 i3
 rcases xM i xs.length with hlt|hge
 ·have hlt2:i<(mkTo q i xs).length:=by rw[mkTo_len];exact hlt
  have gx:=mkTo_at q hlt hlt2
  obtain⟨g1,g2⟩:=has_elems.1 i2
  have g3:=g2 i hlt2
  rw[gx]at g3
  have hx:=yQ hsm (xH hlt)
  have hct:=cntD_take (i+1) xs
  have hcs:=cntD_succ hlt
  have hal:=valL_all (n+1) (mkTo q i xs)
  rw[mkTo_len]at hal
  have hms:=mkTo_succ q hlt
  have hnn:OV.numL (OEnc.oc xs)=xs.length*1+1:=oc_num xs
  simp only[go_sem,Nat.mul_one,Nat.add_zero]at g3
  have hk1:Enc.k GPut=2:=rfl
  have g4:=valL_cell (n+1) (j:=0) hlt2 (by decide)
  have g5:=valL_cell (n+1) (j:=1) hlt2 (by decide)
  rw[gx]at g4 g5
  simp only[hk1,go_sem,Nat.mul_one,Nat.add_zero,wD,List.getElem?_cons_succ,List.cons_append,List.nil_append]at g4 g5 hal
  have hy:MkD.put (q+(kJ (xs.take i):Nat)) xs[i]=⟨q+(kJ (xs.take i):Nat),mkL UInt8 (q+(kJ (xs.take i):Nat)+1) xs[i].bytes.length⟩:=rfl
  have hy2:MkD.cnt xs[i]=xs[i].bytes.length+1:=rfl
  rw[hy]at hms
  rw[hy2]at hcs
  have hl:=qR hx.2
  have hsets:=valL_set (n+1) hlt2 (⟨q+(kJ (xs.take i):Nat),mkL UInt8 (q+(kJ (xs.take i):Nat)+1) xs[i].bytes.length⟩:GPut)
  have e7:=set_lset2 (v:= .int .i64 (q+(kJ (xs.take i):Nat))) g5
  have g6:((OV.valL (n+1) (ocL (mkTo q i xs))).set (i*2) (.int .i64 (q+(kJ (xs.take i):Nat))))[i*2+1]? =some (.slice (some ⟨n+1+i,0,some 1⟩) xs[i].bytes.length (xs[i].bytes.length+1)):=by rw[List.getElem?_set_ne (by omega)];exact g5
  simp (maxSteps:=2000000) (disch:=first|exact dq|fail) only[go_sem,push_cast,qB,qA,qK hb,qE hb,g1,g3,g4,g5,g6,hal,hlt,mkL_len,jQ,List.length_set]
  refine hFx (i+1,upd (upd G n (some ⟨(OV.valL (n+1) (ocL (mkTo q i xs))).set (i*2) (.int .i64 (q+(kJ (xs.take i):Nat))),true⟩)) (n+1+i) (some ⟨qO (mkL UInt8 (q+(kJ (xs.take i):Nat)+1) xs[i].bytes.length),true⟩)) _ _ _ ?_ ?_ (by first|exact Le.refl _|simp (disch:=first|assumption|omega|(simp (disch:=omega) only[qF,qE hb];done)) only[go_sem,push_cast,qB,qA,qT,jK,qF,qE hb,hcs,Int.natCast_add,Int.add_assoc]) (by simp only[go_sem,push_cast,qB,qA]) (by simp only[go_sem,push_cast,qB,qA,hcs,Int.natCast_add,Int.add_assoc]<;>exact cT)
  ·show xs.length-(i+1)<xs.length-i
   omega
  ·refine⟨hlt,?_,fun m hm=> ?_⟩
   ·show OV.Has _ n (OEnc.oc (mkTo q (i+1) xs))
    rw[hms]
    refine has_set hlt2 i2 ?_ ?_ fun m h1 h2=> ?_
    ·show upd (upd G n _) (n+1+i) _ n=_
     rw[qD _ _ (by omega),qJ,e7,<-hsets]
     have e5:OV.valL (n+1+i*1) (OEnc.oc (⟨q+(kJ (xs.take i):Nat),mkL UInt8 (q+(kJ (xs.take i):Nat)+1) xs[i].bytes.length⟩:GPut))=[.int .i64 (q+(kJ (xs.take i):Nat)), .slice (some ⟨n+1+i,0,some 1⟩) xs[i].bytes.length (xs[i].bytes.length+1)]:=by simp only[go_sem,Nat.mul_one,Nat.add_zero,mkL_len,List.cons_append,List.nil_append]
     rw[e5,hk1]
    ·simp only[go_sem,Nat.mul_one,Nat.add_zero,qJ,and_true,true_and]
    ·show upd (upd G n _) (n+1+i) _ m=_
     rw[qD _ _ (by omega),qD _ _ h1]
   ·show upd (upd G n _) (n+1+i) _ m=H m
    rw[qD _ _ (by omega),qD _ _ (by omega)];exact i3 m hm
 ·refine R0 ?_
  obtain rfl:i=xs.length:=by omega
  rw[mkTo_end]at i2
  have hG:=oput_eq i2 (by rw[vF];exact i3)
  refine cv (by kernel_rfl) ?_
  refine R (@List.take_length UInt8) ?_
  rw[hG];exact⟨Le.refl _,by rw[List.take_length]⟩
def W12:qH:=fun args H Bd K=>∃(x:GDisk) (n:Nat) (q:Int),args=[.agg #[.slice (some ⟨n,0,some 1⟩) (x.sectors).length ((x.sectors).length+1), .slice (some ⟨n+OV.numL (OEnc.oc (x.sectors)),0,some 2⟩) (x.pending).length ((x.pending).length+1)], .int .i64 q]/\(OV.Has H n (OEnc.oc x)/\sm x/\0<=q/\q+(kJ x.sectors:Nat)+(kJ x.pending:Nat)<=4611686018427387904)/\K (.int .i64 (q+(kJ x.sectors:Nat)+(kJ x.pending:Nat))) (oput H n (OEnc.oc (⟨mkDL (q) x.sectors,mkDL (q+(kJ x.sectors:Nat)) x.pending⟩:GDisk))) Bd
@[go_sem ↓] theorem W12_eq (a b:Value):W12 [a,b] H Bd K=Held (W12 [a,b] H Bd K) ⟨⟩:=(rfl)
theorem W12_ok:OK 12 W12:=by
 rintro args H Bd K ⟨x,n,q,rfl,⟨hH,hsm,h1,h2⟩,hK⟩
 have hnn:OV.numL (OEnc.oc (⟨mkDL (q) x.sectors,mkDL (q+(kJ x.sectors:Nat)) x.pending⟩:GDisk))=OV.numL (OEnc.oc x):=by simp only[go_sem,vF]
 refine fn_set pok (((Env.base _).add 36 _ W36_ok).add 37 _ W37_ok) [] _ hK (fun hh=>HB_oput hh hH (OEnc.ok _) hnn) func12 rfl (rs:=[.tmp 4]) rfl ntmps12 (by simp) call12 (by kernel_rfl) (fun ha hb=> .int _ _) (fun hb ha=> ?_)
 have hlt:=has_lt hb hH
 simp only[go_sem]at hH hlt
 simp only[sm_GDisk]at hsm
 obtain⟨hH0,hH1⟩:=hH
 obtain⟨hm0,hm1⟩:=hsm
 have hp0:0<OV.numL (OEnc.oc x.sectors):=by rw[oc_num];omega
 have hp1:0<OV.numL (OEnc.oc x.pending):=by rw[oc_num];omega
 have he0:OV.numL (OEnc.oc (mkDL (q) x.sectors))=OV.numL (OEnc.oc x.sectors):=vF _ _
 have he1:OV.numL (OEnc.oc (mkDL (q+(kJ x.sectors:Nat)) x.pending))=OV.numL (OEnc.oc x.pending):=vF _ _
 refine R0 ?_
 refine held ⟨x.sectors,_,_,_,rfl,⟨by simp (disch:=omega) only[go_sem,vF,hH0],hm0,by omega,by omega⟩,?_⟩
 refine R (cj he0 he1) ?_
 refine held ⟨x.pending,_,_,_,rfl,⟨by simp (disch:=omega) only[go_sem,vF,hH1],hm1,by omega,by omega⟩,?_⟩
 refine R (cj he0 he1) ?_
 exact(Le_oput _ _ (Le_oput _ _ (Le_new (Le.refl H) (hb.fresh Bd (xC Bd)))))
def W75:qH:=fun args H Bd K=>∃(q:Int) (n:Nat) (l:Nat) (c:Nat),args=[.slice (some ⟨n,0,some 1⟩) l c, .int .i64 q]/\(Yld (H n) fun b0=>(b0.own=true/\b0.cells.length=l*1/\0<=q/\q+(l*1:Nat)<=4611686018427387904/\l<=281474976710656)/\K (.int .i64 (q+(l*1:Nat))) (upd H n (some ⟨qO (mkL Int q l),true⟩)) Bd)
@[go_sem ↓] theorem W75_eq (a b c:Nat) (d:Int):W75 [.slice (some ⟨a,0,some 1⟩) b c, .int .i64 d] H Bd K=(Yld (H a) fun b0=>(b0.own=true/\b0.cells.length=b*1/\0<=d/\d+(b*1:Nat)<=4611686018427387904/\b<=281474976710656)/\K (.int .i64 (d+(b*1:Nat))) (upd H a (some ⟨qO (mkL Int d b),true⟩)) Bd):=by
 refine propext ⟨fun h=> ?_,fun h=>⟨_,_,_,_,rfl,h⟩⟩
 obtain⟨q',n',l',c',e,h⟩:=h
 skip
 simp only[xG,Value.agg.injEq,jB,xK,Value.bool.injEq,Value.string.injEq,xY,Value.func.injEq,Value.pointer.injEq,xE,Addr.mk.injEq,lst_inj,true_and,and_true,and_assoc]at e
 obtain⟨rfl,rfl,rfl,rfl⟩:=e
 exact h
theorem W75_ok:OK 75 W75:=by
 rintro args H Bd K ⟨q,n,l,c,rfl,⟨cells,ow⟩,hb0,⟨ho,hc,h1,h2,h3⟩,hK⟩
 simp only at ho hc
 subst ho
 refine fn_set pok (Env.base _) [] _ hK (fun hh=>hb_setF hh hb0 _) func75 rfl (rs:=[.tmp 4]) rfl ntmps75 (by simp) call75 (by kernel_rfl) (fun ha hb=> .int _ _) (fun hb ha=> ?_)
 refine jD pok fun cv=> ?_
 have hLe:=le_own hb0
 refine R hb0 ?_
 refine tr_st (X:=Nat) (fun i=>i<=l) (fun i=>l-i) (fun i=>[(0, .slice (some ⟨n,0,some 1⟩) l c),(1, .int .i64 (q+(i*1:Nat))),(5, .int .i64 i)]) (fun i=>upd H n (some ⟨mkC Int q i cells,true⟩)) 0 (xT _) (by simp only[go_sem,push_cast,qB,qA,mkC_zero,hLe,Nat.zero_mul,Int.natCast_zero,Int.add_zero]<;>exact cT) (by first|exact Le.refl _|simp (disch:=first|assumption|omega) only[go_sem,push_cast,qB,qA,qT,jK,mkC_zero,hLe,Nat.zero_mul,Int.natCast_zero,Int.add_zero]) ?_
 intro i Bi hIi hBi hbi Fi hFi
 refine cv (by kernel_rfl) ?_
 rcases xM i l with hlt|hge
 ·have hset:(mkC Int q i cells).set i (.int .i64 (q+(i:Nat)))=mkC Int q (i+1) cells:=mkC_set1 (n:=l) q cells hc hlt (by rw[Nat.mul_one];rfl)
  have hln:(mkC Int q i cells).length=cells.length:=mkC_len q i cells (by rw[hc];exact Nat.mul_le_mul_right _ hIi)
  refine R (cj hset hln) ?_
  refine hFi (i+1) _ _ _ ?_ ?_ (by first|exact Le.refl _|simp (disch:=first|assumption|omega|(simp (disch:=omega) only[qF,qE hb];done)) only[go_sem,push_cast,qB,qA,qT,jK,qF,qE hb,hset]) (by simp only[go_sem,push_cast,qB,qA]) (by simp only[go_sem,push_cast,qB,qA,hset]<;>exact cT)
  all_goals omega
 ·refine R0 ?_
  obtain rfl:i=l:=by omega
  rw[mkC_end q cells hc]
  refine cv (by kernel_rfl) ?_
  exact R0 trivial
def W45:qH:=fun args H Bd K=>∃(xs:List GRecord) (n c:Nat) (q:Int),args=[.slice (some ⟨n,0,some 2⟩) xs.length c, .int .i64 q]/\(OV.Has H n (OEnc.oc xs)/\sm xs/\0<=q/\q+(kJ xs:Nat)<=4611686018427387904)/\K (.int .i64 (q+(kJ xs:Nat))) (oput H n (OEnc.oc (mkDL q xs))) Bd
@[go_sem ↓] theorem W45_eq (a b:Value):W45 [a,b] H Bd K=Held (W45 [a,b] H Bd K) ⟨⟩:=(rfl)
theorem W45_ok:OK 45 W45:=by
 rintro args H Bd K ⟨xs,n,c,q,rfl,⟨hH,hsm,h1,h2⟩,hK⟩
 refine fn_set pok ((Env.base _).add 75 _ W75_ok) [] _ hK (fun hh=>HB_oput hh hH (OEnc.ok _) (vF _ _)) func45 rfl (rs:=[.tmp 4]) rfl ntmps45 (by simp) call45 (by kernel_rfl) (fun ha hb=> .int _ _) (fun hb ha=> ?_)
 refine jD pok fun cv=> ?_
 have hlen:=qR hsm
 refine R0 ?_
 refine tr_st (X:=Nat×AH) (fun x=>x.1<=xs.length/\OV.Has x.2 n (OEnc.oc (mkTo q x.1 xs))/\(∀m,m<n\/n+OV.numL (OEnc.oc xs)<=m->x.2 m=H m)) (fun x=>xs.length-x.1) (fun x=>[(0, .slice (some ⟨n,0,some 2⟩) xs.length c),(1, .int .i64 (q+(kJ (xs.take x.1):Nat))),(5, .int .i64 (x.1:Nat))]) (fun x=>x.2) (0,H) (⟨xT _,by rw[mkTo_zero];exact hH,fun m _=>rfl⟩) (by simp only[go_sem,push_cast,qB,qA,List.take_zero,cntD_nil,Int.natCast_zero,Int.add_zero]<;>exact cT) (by first|exact Le.refl _|simp (disch:=first|assumption|omega) only[go_sem,push_cast,qB,qA,qT,jK,List.take_zero,cntD_nil,Int.natCast_zero,Int.add_zero]) ?_
 intro x Bx hIx hBx hbx Fx hFx
 refine cv (by kernel_rfl) ?_
 obtain⟨i,G⟩:=x
 obtain⟨i1,i2,i3⟩:=hIx
 simp only at i1 i2 i3
 rcases xM i xs.length with hlt|hge
 ·have hlt2:i<(mkTo q i xs).length:=by rw[mkTo_len];exact hlt
  have gx:=mkTo_at q hlt hlt2
  obtain⟨g1,g2⟩:=has_elems.1 i2
  have g3:=g2 i hlt2
  rw[gx]at g3
  have hx:=yQ hsm (xH hlt)
  have hct:=cntD_take (i+1) xs
  have hcs:=cntD_succ hlt
  have hal:=valL_all (n+1) (mkTo q i xs)
  rw[mkTo_len]at hal
  have hms:=mkTo_succ q hlt
  have hnn:OV.numL (OEnc.oc xs)=xs.length*1+1:=oc_num xs
  simp only[go_sem,Nat.mul_one,Nat.add_zero]at g3
  have hk1:Enc.k GRecord=2:=rfl
  have g4:=valL_cell (n+1) (j:=0) hlt2 (by decide)
  have g5:=valL_cell (n+1) (j:=1) hlt2 (by decide)
  rw[gx]at g4 g5
  simp only[hk1,go_sem,Nat.mul_one,Nat.add_zero,wD,List.getElem?_cons_succ,List.cons_append,List.nil_append]at g4 g5 hal
  have hy:MkD.put (q+(kJ (xs.take i):Nat)) xs[i]=⟨mkL Int (q+(kJ (xs.take i):Nat)) xs[i].term.length,q+(kJ (xs.take i):Nat)+xs[i].term.length⟩:=rfl
  have hy2:MkD.cnt xs[i]=xs[i].term.length+1:=rfl
  rw[hy]at hms
  rw[hy2]at hcs
  have hl:=qR hx.1
  have hsets:=valL_set (n+1) hlt2 (⟨mkL Int (q+(kJ (xs.take i):Nat)) xs[i].term.length,q+(kJ (xs.take i):Nat)+xs[i].term.length⟩:GRecord)
  have e7:=set_lsetR (v:= .int .i64 (q+(kJ (xs.take i):Nat)+xs[i].term.length)) g4
  simp (maxSteps:=2000000) (disch:=first|exact dq|fail) only[go_sem,push_cast,qB,qA,qK hb,qE hb,g1,g3,g4,g5,hal,hlt,mkL_len,jQ,List.length_set]
  refine hFx (i+1,upd (upd G (n+1+i) (some ⟨qO (mkL Int (q+(kJ (xs.take i):Nat)) xs[i].term.length),true⟩)) n (some ⟨(OV.valL (n+1) (ocL (mkTo q i xs))).set (i*2+1) (.int .i64 (q+(kJ (xs.take i):Nat)+xs[i].term.length)),true⟩)) _ _ _ ?_ ?_ (by first|exact Le.refl _|simp (disch:=first|assumption|omega|(simp (disch:=omega) only[qF,qE hb];done)) only[go_sem,push_cast,qB,qA,qT,jK,qF,qE hb,hcs,Int.natCast_add,Int.add_assoc]) (by simp only[go_sem,push_cast,qB,qA]) (by simp only[go_sem,push_cast,qB,qA,hcs,Int.natCast_add,Int.add_assoc]<;>exact cT)
  ·show xs.length-(i+1)<xs.length-i
   omega
  ·refine⟨hlt,?_,fun m hm=> ?_⟩
   ·show OV.Has _ n (OEnc.oc (mkTo q (i+1) xs))
    rw[hms]
    refine has_set hlt2 i2 ?_ ?_ fun m h1 h2=> ?_
    ·show upd (upd G (n+1+i) _) n _ n=_
     rw[qJ,e7,<-hsets]
     have e5:OV.valL (n+1+i*1) (OEnc.oc (⟨mkL Int (q+(kJ (xs.take i):Nat)) xs[i].term.length,q+(kJ (xs.take i):Nat)+xs[i].term.length⟩:GRecord))=[.slice (some ⟨n+1+i,0,some 1⟩) xs[i].term.length (xs[i].term.length+1), .int .i64 (q+(kJ (xs.take i):Nat)+xs[i].term.length)]:=by simp only[go_sem,Nat.mul_one,Nat.add_zero,mkL_len,List.cons_append,List.nil_append]
     rw[e5,hk1]
    ·simp (disch:=omega) only[go_sem,Nat.mul_one,Nat.add_zero,qJ,qD,and_true,true_and]
    ·show upd (upd G (n+1+i) _) n _ m=_
     rw[qD _ _ h1,qD _ _ (by omega)]
   ·show upd (upd G (n+1+i) _) n _ m=H m
    rw[qD _ _ (by omega),qD _ _ (by omega)];exact i3 m hm
 ·refine R0 ?_
  obtain rfl:i=xs.length:=by omega
  rw[mkTo_end]at i2
  have hG:=oput_eq i2 (by rw[vF];exact i3)
  refine cv (by kernel_rfl) ?_
  refine R (@List.take_length UInt8) ?_
  rw[hG];exact⟨Le.refl _,by rw[List.take_length]⟩
def W18:qH:=fun args H Bd K=>∃(x:GRecordsResult) (n:Nat) (q:Int),args=[.agg #[.int .i64 (x.code), .slice (some ⟨n,0,some 2⟩) (x.records).length ((x.records).length+1)], .int .i64 q]/\(OV.Has H n (OEnc.oc x)/\sm x/\0<=q/\q+(kJ x.records:Nat)<=4611686018427387904)/\K (.int .i64 (q+(kJ x.records:Nat))) (oput H n (OEnc.oc (⟨x.code,mkDL (q) x.records⟩:GRecordsResult))) Bd
@[go_sem ↓] theorem W18_eq (a b:Value):W18 [a,b] H Bd K=Held (W18 [a,b] H Bd K) ⟨⟩:=(rfl)
theorem W18_ok:OK 18 W18:=by
 rintro args H Bd K ⟨x,n,q,rfl,⟨hH,hsm,h1,h2⟩,hK⟩
 have hnn:OV.numL (OEnc.oc (⟨x.code,mkDL (q) x.records⟩:GRecordsResult))=OV.numL (OEnc.oc x):=by simp only[go_sem,vF]
 refine fn_set pok ((Env.base _).add 45 _ W45_ok) [] _ hK (fun hh=>HB_oput hh hH (OEnc.ok _) hnn) func18 rfl (rs:=[.tmp 4]) rfl ntmps18 (by simp) call18 (by kernel_rfl) (fun ha hb=> .int _ _) (fun hb ha=> ?_)
 have hlt:=has_lt hb hH
 simp only[go_sem]at hH hlt
 simp only[sm_GRecordsResult]at hsm
 have hH0:=hH
 obtain⟨hm0,hm1⟩:=hsm
 have hp0:0<OV.numL (OEnc.oc x.records):=by rw[oc_num];omega
 have he0:OV.numL (OEnc.oc (mkDL (q) x.records))=OV.numL (OEnc.oc x.records):=vF _ _
 refine R0 ?_
 refine held ⟨x.records,_,_,_,rfl,⟨by simp (disch:=omega) only[go_sem,vF,hH0],hm1,by omega,by omega⟩,?_⟩
 refine R he0 ?_
 exact(Le_oput _ _ (Le_new (Le.refl H) (hb.fresh Bd (xC Bd))))
@[go_sem ↓] def BW76 (xs:List Int) (k:Int):Tq:=fun H Bd K=>((sm xs/\0<=k/\k+(xs.length*1:Nat)<=4611686018427387904/\xs=mkL Int k xs.length)/\K (.int .i64 (k+(xs.length*1:Nat))) H Bd)
def W76:qH:=fun args H Bd K=>∃(xs:List Int) (k:Int),args=[lst xs, .int .i64 k]/\BW76 xs k H Bd K
@[go_sem ↓] theorem W76_eq (a:List Int) (b:Int):W76 [lst a, .int .i64 b] H Bd K=BW76 a b H Bd K:=ex2 a b rfl
theorem W76_ok:OK 76 W76:=by
 rintro args H Bd K ⟨xs,k,rfl,hpre,hK⟩
 refine fnp pok (Env.base _) [] hK func76 ntmps76 call76 [.tmp 4] fun hb ha=> ?_
 refine jD pok fun cv=> ?_
 obtain⟨h1,h2,h3,h4⟩:=hpre
 have hlen:=qR h1
 refine R0 ?_
 refine qY (fun i=>True) (xs.length) (fun i=>[(0,lst xs),(1, .int .i64 (k+(i*1:Nat))),(5, .int .i64 i)]) (trivial) (by simp only[go_sem,push_cast,qB,qA,Int.zero_mul,Int.add_zero]) ?_
 intro i Bi hIi hii hBi
 refine cv (by kernel_rfl) ?_
 rcases xM i (xs.length)with hlti|hgei
 ·have e1:xs[i]? =some (k+(i:Int)):=by
   rw[h4,mkL_get k hlti];first|rfl|(rw[Nat.mul_one];rfl)
  exact R e1 trivial
 ·refine R0 ?_
  obtain rfl:i=xs.length:=by omega
  refine cv (by kernel_rfl) ?_
  exact R0 trivial
def W46:qH:=fun args H Bd K=>∃(xs:List GRecord) (k:Int),args=[lst xs, .int .i64 k]/\((sm xs/\0<=k/\k+(kJ xs:Nat)<=4611686018427387904/\xs=mkDL k xs)/\K (.int .i64 (k+(kJ xs:Nat))) H Bd)
@[go_sem ↓] theorem W46_eq (a:List GRecord) (b:Int):W46 [lst a, .int .i64 b] H Bd K=((sm a/\0<=b/\b+(kJ a:Nat)<=4611686018427387904/\a=mkDL b a)/\K (.int .i64 (b+(kJ a:Nat))) H Bd):=ex2 a b rfl
theorem W46_ok:OK 46 W46:=by
 rintro args H Bd K ⟨xs,k,rfl,hpre,hK⟩
 refine fnp pok ((Env.base _).add 76 _ W76_ok) [] hK func46 ntmps46 call46 [.tmp 4] fun hb ha=> ?_
 refine jD pok fun cv=> ?_
 obtain⟨h1,h2,h3,h4⟩:=hpre
 have hlen:=qR h1
 refine R0 ?_
 refine qY (fun i=>True) (xs.length) (fun i=>[(0,lst xs),(1, .int .i64 (k+(kJ (xs.take i):Nat))),(5, .int .i64 i)]) (trivial) (by simp only[go_sem,push_cast,qB,qA,List.take_zero,cntD_nil,Int.natCast_zero,Int.add_zero]) ?_
 intro i Bi hIi hii hBi
 refine cv (by kernel_rfl) ?_
 rcases xM i (xs.length)with hlti|hgei
 ·have e0:=mkDL_get k xs i hlti
  rw[<-h4]at e0
  have hx:=yQ h1 (xH hlti)
  have hct:=cntD_take (i+1) xs
  have hcs:=cntD_succ hlti
  have hy:MkD.put (k+(kJ (xs.take i):Nat)) xs[i]=⟨mkL Int (k+(kJ (xs.take i):Nat)) xs[i].term.length,k+(kJ (xs.take i):Nat)+xs[i].term.length⟩:=rfl
  have hy2:MkD.cnt xs[i]=xs[i].term.length+1:=rfl
  rw[hy]at e0
  rw[hy2]at hcs
  have hl:=qR hx.1
  generalize hm:xs[i].term.length=m at*
  have hg1:sm (mkL Int (k+(kJ (xs.take i):Nat)) m):=mkL_sm _ (by omega)
  simp (maxSteps:=2000000) (disch:=first|exact dq|fail) only[go_sem,push_cast,qB,qA,qK hb,qE hb,e0,hg1,mkL_len,hcs]
 ·refine R0 ?_
  obtain rfl:i=xs.length:=by omega
  have et:kJ (List.take xs.length xs)=kJ xs:=by rw[List.take_length]
  refine cv (by kernel_rfl) ?_
  exact R et trivial
@[go_sem ↓] def BW19 (x:GRecordsResult) (k:Int):Tq:=fun H Bd K=>((sm x/\0<=k/\k+(kJ x.records:Nat)<=4611686018427387904/\x.records=mkDL k x.records)/\K (.int .i64 (k+(kJ x.records:Nat))) H Bd)
def W19:qH:=fun args H Bd K=>∃(x:GRecordsResult) (k:Int),args=[.agg (enc x).toArray, .int .i64 k]/\BW19 x k H Bd K
@[go_sem ↓] theorem W19_eq (a:Int) (b:List GRecord) (c:Int):W19 [.agg #[.int .i64 a,lst b], .int .i64 c] H Bd K=BW19 (GRecordsResult.mk a b) c H Bd K:=ex2 (GRecordsResult.mk a b) c rfl
theorem W19_ok:OK 19 W19:=by
 rintro args H Bd K ⟨x,k,rfl,hpre,hK⟩
 refine fnp pok ((Env.base _).add 46 _ W46_ok) [] hK func19 ntmps19 call19 [.tmp 4] fun hb ha=> ?_
 obtain⟨h1,h2,h3,h4⟩:=hpre
 have h5:sm x.records:=h1.2
 have h6:(x.records=mkDL k x.records)=True:=eq_true h4
 have h7:¬(k+(kJ x.records:Nat)<0):=by omega
 clear h4
 exact R (cj h2 (cj h3 (cj h5 (cj h6 h7)))) trivial
theorem N19_pure:PureV W19:=by
 rintro args H Bd K ⟨x0,x1,rfl,hpre,hK⟩
 exact⟨_,by first|exact .bool _|exact .int _ _|exact .string _|exact vc_enc _,hK,fun H' K' hs h=>⟨x0,x1,rfl,hpre,h⟩⟩
def N19:qH:=LendN W19
@[go_sem ↓] theorem N19_eq (a b:Value):N19 [a,b] H Bd K=Held (N19 [a,b] H Bd K) ⟨⟩:=(rfl)
theorem N19_ok:OK 19 N19:=LendN_ok W19_ok N19_pure
def W4:qH:=fun args H Bd K=>∃(d:GDisk),args=[.agg (enc d).toArray]/\((sm d)/\K (.bool true) H Bd)
theorem W4_ok:OK 4 W4:=by
 rintro args H Bd K ⟨d,rfl,hpre,hK⟩
 refine fnp pok ((((((((((Env.base _).add 6 _ W6_ok).add 8 _ P8_ok).add 15 _ K15_ok).add 16 _ Q16_ok).add 17 _ N17_ok).add 11 _ N11_ok).add 12 _ W12_ok).add 18 _ W18_ok).add 19 _ N19_ok) [(10,[0,1,2,3,4],[z0 0,z0 1,⟨2,[],[0]⟩,z0 3,z0 4], .nil),(14,[],[],(.k 3 (.grp false 37 41 4 [38,39,40,41] 42 none (.k 4 .nil) .nil)))] hK func4 ntmps4 call4 [.tmp 2] fun hb ha=> ?_
 have h0:=hpre
 have z0:=szP_or (tot d) (1048576)
 have y0:=szP_ub (tot d) (left:=1048576) (by omega)
 by_cases q0:szP (tot d) 1048576<0
 ·exact R (cj h0 q0) trivial
 have t0:tot d<=1048576:=by omega
 have hfr:∀n,Bd<=n->H n=none:=fun n hn=>hb.fresh n hn
 have k0:=rcsR_sm d
 have k1:=rcsR_len d
 refine R (cj h0 (cj q0 (cj t0 hfr))) ?_
 have hif:∀(p:Prop) [Decidable p] (x y:Option Blk),¬p->(if p then x else y)=y:=fun p _ x y h=>if_neg h
 have hip:∀(p:Prop) [Decidable p] (x y:Option Blk),p->(if p then x else y)=x:=fun p _ x y h=>if_pos h
 have hn0:∀m c,H m=some c->m<Bd:=fun m c hm=>hb_in hb hm
 have hG:∀m c,upd H Bd (some ⟨[lst d.sectors,lst d.pending],true⟩) m=some c->m<Bd+1:=names_upd (fun m c hm=>by have:=hn0 m c hm;omega) (by omega)
 refine held ⟨[.agg (enc d).toArray],_,Bd+1,?_,?_,hG,?_⟩
 ·refine yZ (pub_as (Has_pubB (x:=d) (n:=Bd+1) ?_ ?_) ?_) pubc_nil
  all_goals first|omega|(simp (disch:=first|assumption|omega) only[go_sem,push_cast,qB,qA,Nat.add_assoc,hif,hip,qJ];done)|skip
 ·simp (disch:=first|assumption|omega) only[Le_hi hG,Le_hiO hG,qT]
 simp (maxSteps:=2000000) (disch:=first|exact dq|fail) only[go_sem,push_cast,qB,qA,qK hb,qE hb,hif,hip,h0,hfr]
 refine held ⟨[.agg (enc d).toArray],?_,?_⟩
 ·refine yZ (pub_as (Has_pubX (x:=d) (n:=Bd+1+(OV.numL (OEnc.oc d.sectors)+(OV.numL (OEnc.oc d.pending)+1))) ?_) ?_) pubc_nil
  all_goals first|omega|(simp (disch:=first|assumption|omega) only[go_sem,push_cast,qB,qA,Nat.add_assoc,hif,hip,qJ];done)|skip
 simp (maxSteps:=2000000) (disch:=first|exact dq|fail) only[go_sem,push_cast,qB,qA,qK hb,qE hb,hif,hip,h0,hfr,k0,vI]
 refine held ⟨[.agg (enc (rcsR d)).toArray, .agg (enc (rcsR d)).toArray],?_,?_⟩
 ·refine yZ (pub_as (Has_pubX (x:=rcsR d) (n:=Bd+1+(OV.numL (OEnc.oc d.sectors)+(OV.numL (OEnc.oc d.pending)+1))+(OV.numL (OEnc.oc d.sectors)+(OV.numL (OEnc.oc d.pending)+1))) ?_) ?_) (yZ (pub_as (.same (.agg (enc (rcsR d)).toArray)) ?_) pubc_nil)
  all_goals first|omega|rfl|(simp (disch:=first|assumption|omega) only[go_sem,push_cast,qB,qA,Nat.add_assoc,hif,hip,qJ];done)|skip
 simp (maxSteps:=2000000) (disch:=first|exact dq|fail) only[go_sem,push_cast,qB,qA,qK hb,qE hb,hif,hip,h0,hfr,k0,vI]
 refine held ⟨[.agg (enc d).toArray, .agg (enc d).toArray],?_,?_⟩
 ·refine yZ (pub_as (Has_pubX (x:=d) (n:=Bd+1+(OV.numL (OEnc.oc d.sectors)+(OV.numL (OEnc.oc d.pending)+1))) ?_) ?_) (yZ (pub_as (Has_pubX (x:=d) (n:=Bd+1+(OV.numL (OEnc.oc d.sectors)+(OV.numL (OEnc.oc d.pending)+1))+(OV.numL (OEnc.oc d.sectors)+(OV.numL (OEnc.oc d.pending)+1))+(OV.numL (OEnc.oc (rcsR d).records)+1)+5) ?_) ?_) pubc_nil)
  all_goals first|omega|rfl|(simp (disch:=first|assumption|omega) only[go_sem,push_cast,qB,qA,Nat.add_assoc,hif,hip,qJ];done)|skip
 simp (maxSteps:=2000000) (disch:=first|exact dq|fail) only[go_sem,push_cast,qB,qA,qK hb,qE hb,hif,hip,h0,hfr,k0,vI]
 have c0:=cntD_bytes d.sectors
 have c1:=cntD_puts d.pending
 have c2:tot d=tot d.sectors+tot d.pending:=by simp[tot_GDisk]
 refine held ⟨d,Bd+1+(OV.numL (OEnc.oc d.sectors)+(OV.numL (OEnc.oc d.pending)+1)),1,rfl,⟨?_,h0,by omega,by omega⟩,?_⟩
 ·simp (disch:=first|assumption|omega) only[go_sem,push_cast,qB,qA,Nat.add_assoc,hif,hip,qJ]
 have e0:OV.numL (OEnc.oc (mkDL 1 d.sectors))=OV.numL (OEnc.oc d.sectors):=vF _ _
 have e1:OV.numL (OEnc.oc (mkDL (1+(kJ d.sectors:Nat)) d.pending))=OV.numL (OEnc.oc d.pending):=vF _ _
 simp (maxSteps:=2000000) (disch:=first|exact dq|fail) only[go_sem,push_cast,qB,qA,qK hb,qE hb,hif,hip,h0,hfr,k0,vI,e0,e1]
 refine⟨false,held ⟨[.agg (enc (rcsR d)).toArray, .agg (enc (rcsR d)).toArray],?_,?_⟩,?_⟩
 ·refine yZ (pub_as (Has_pubX (x:=rcsR d) (n:=Bd+1+(OV.numL (OEnc.oc d.sectors)+(OV.numL (OEnc.oc d.pending)+1))+(OV.numL (OEnc.oc d.sectors)+(OV.numL (OEnc.oc d.pending)+1))) ?_) ?_) (yZ (pub_as (.same (.agg (enc (rcsR d)).toArray)) ?_) pubc_nil)
  all_goals first|omega|rfl|(simp (disch:=first|assumption|omega) only[go_sem,push_cast,qB,qA,Nat.add_assoc,hif,hip,qJ,e0,e1];done)|skip
 ·simp (maxSteps:=2000000) (disch:=first|exact dq|fail) only[go_sem,push_cast,qB,qA,qK hb,qE hb,hif,hip,h0,hfr,k0,vI,e0,e1]
 simp (maxSteps:=2000000) (disch:=first|exact dq|fail) only[go_sem,push_cast,qB,qA,qK hb,qE hb,hif,hip,h0,hfr,k0,vI,e0,e1]
 have c3:=cntR_le k1.2
 obtain⟨s1,s2⟩:=mkR_same 1 (rcsR d).records
 have s3:=recs_sm (l:=mkDL 1 (rcsR d).records) (by rw[zI];exact k1.1) (mkR_le 1 k1.2)
 have s4:sm (⟨(rcsR d).code,mkDL 1 (rcsR d).records⟩:GRecordsResult):=⟨trivial,s3⟩
 refine held ⟨rcsR d,Bd+1+(OV.numL (OEnc.oc d.sectors)+(OV.numL (OEnc.oc d.pending)+1))+(OV.numL (OEnc.oc d.sectors)+(OV.numL (OEnc.oc d.pending)+1)),1,rfl,⟨?_,k0,by omega,by omega⟩,?_⟩
 ·simp (disch:=first|assumption|omega) only[go_sem,push_cast,qB,qA,Nat.add_assoc,hif,hip,qJ,e0,e1]
 have e2:OV.numL (OEnc.oc (mkDL 1 (rcsR d).records))=OV.numL (OEnc.oc (rcsR d).records):=vF _ _
 simp (maxSteps:=2000000) (disch:=first|exact dq|fail) only[go_sem,push_cast,qB,qA,qK hb,qE hb,hif,hip,h0,hfr,k0,vI,e0,e1,e2]
 refine held ⟨[.agg (enc (⟨(rcsR d).code,mkDL 1 (rcsR d).records⟩:GRecordsResult)).toArray, .int .i64 1],?_,?_⟩
 ·refine yZ (pub_as (Has_pubX (x:=(⟨(rcsR d).code,mkDL 1 (rcsR d).records⟩:GRecordsResult)) (n:=Bd+1+(OV.numL (OEnc.oc d.sectors)+(OV.numL (OEnc.oc d.pending)+1))+(OV.numL (OEnc.oc d.sectors)+(OV.numL (OEnc.oc d.pending)+1))) ?_) ?_) (yZ (.same _) pubc_nil)
  all_goals first|omega|rfl|(simp (disch:=first|assumption|omega) only[go_sem,push_cast,qB,qA,Nat.add_assoc,hif,hip,qJ,e0,e1,e2,zI];done)|skip
 have s5:¬(1+(kJ (rcsR d).records:Int)<0):=by omega
 simp (maxSteps:=2000000) (disch:=first|exact dq|fail) only[go_sem,push_cast,qB,qA,qK hb,qE hb,hif,hip,h0,hfr,k0,vI,e0,e1,e2,s1,s2,s4,s5]
 refine held ⟨[.agg (enc d).toArray],?_,?_⟩
 ·refine yZ (pub_as (Has_pubX (x:=d) (n:=Bd+1+(OV.numL (OEnc.oc d.sectors)+(OV.numL (OEnc.oc d.pending)+1))+(OV.numL (OEnc.oc d.sectors)+(OV.numL (OEnc.oc d.pending)+1))+(OV.numL (OEnc.oc (rcsR d).records)+1)+5+(OV.numL (OEnc.oc d.sectors)+OV.numL (OEnc.oc d.pending))) ?_) ?_) pubc_nil
  all_goals first|omega|(simp (disch:=first|assumption|omega) only[go_sem,push_cast,qB,qA,Nat.add_assoc,hif,hip,qJ,e0,e1,e2];done)|skip
 simp (maxSteps:=2000000) (disch:=first|exact dq|fail) only[go_sem,push_cast,qB,qA,qK hb,qE hb,hif,hip,h0,hfr,k0,vI,e0,e1,e2,s1,s2,s4,s5]
 refine held ⟨[.agg (enc (rcsR d)).toArray, .agg (enc (rcsR d)).toArray],?_,?_⟩
 ·refine yZ (pub_as (Has_pubX (x:=rcsR d) (n:=Bd+1+(OV.numL (OEnc.oc d.sectors)+(OV.numL (OEnc.oc d.pending)+1))+(OV.numL (OEnc.oc d.sectors)+(OV.numL (OEnc.oc d.pending)+1))+(OV.numL (OEnc.oc (rcsR d).records)+1)+5+(OV.numL (OEnc.oc d.sectors)+OV.numL (OEnc.oc d.pending))+(OV.numL (OEnc.oc d.sectors)+OV.numL (OEnc.oc d.pending))) ?_) ?_) (yZ (pub_as (.same (.agg (enc (rcsR d)).toArray)) ?_) pubc_nil)
  all_goals first|omega|rfl|(simp (disch:=first|assumption|omega) only[go_sem,push_cast,qB,qA,Nat.add_assoc,hif,hip,qJ,e0,e1,e2];done)|skip
 simp (maxSteps:=2000000) (disch:=first|exact dq|fail) only[go_sem,push_cast,qB,qA,qK hb,qE hb,hif,hip,h0,hfr,k0,vI,e0,e1,e2,s1,s2,s4,s5]
 refine held ⟨[.agg (enc (⟨(rcsR d).code,mkDL 1 (rcsR d).records⟩:GRecordsResult)).toArray, .int .i64 1],?_,?_⟩
 ·refine yZ (pub_as (Has_pubX (x:=(⟨(rcsR d).code,mkDL 1 (rcsR d).records⟩:GRecordsResult)) (n:=Bd+1+(OV.numL (OEnc.oc d.sectors)+(OV.numL (OEnc.oc d.pending)+1))+(OV.numL (OEnc.oc d.sectors)+(OV.numL (OEnc.oc d.pending)+1))) ?_) ?_) (yZ (.same _) pubc_nil)
  all_goals first|omega|rfl|(simp (disch:=first|assumption|omega) only[go_sem,push_cast,qB,qA,Nat.add_assoc,hif,hip,qJ,e0,e1,e2,zI];done)|skip
 simp (maxSteps:=2000000) (disch:=first|exact dq|fail) only[go_sem,push_cast,qB,qA,qK hb,qE hb,hif,hip,h0,hfr,k0,vI,e0,e1,e2,s1,s2,s4,s5,Le_hi hn0,Le_hiO hn0,qT]
end Go.Proofs.YtogofkjpbpgneaaGreatDoor
