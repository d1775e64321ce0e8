/- YtogofkjpbpgneaaGreatDoorF1 -/
import Derived.Test.YtogofkjpbpgneaaGreatDoorFmLib
set_option linter.unusedSimpArgs false
set_option linter.unusedVariables false
set_option maxRecDepth 20000
set_option maxHeartbeats 2000000
namespace Go.Proofs.YtogofkjpbpgneaaGreatDoor
open Go Go.SC Tryz
variable {H:AH} {Bd:Nat} {K:Value->AH->Nat->Prop}
def W49:qH:=fun g' H Bd K=>∃(xs:List UInt8) (left:Int),g'=[lst xs,iv left]/\((sm xs/\ -1<=left/\left<=1048576)/\K (iv (szP (tot xs) left)) H Bd)
@[go_sem ↓] theorem W49_eq (a:List UInt8) (b:Int):W49 [lst a,iv b] H Bd K=((sm a/\ -1<=b/\b<=1048576)/\K (iv (szP (tot a) b)) H Bd):=ex2 a b rfl
theorem W49_ok:OK 49 W49:=by
 rintro _ H Bd K ⟨xs,left,rfl,hpre,hK⟩
 refine fnp pok uA [] hK func49 ntmps49 call49 [.tmp 4] fun hb ha=>?_
 obtain⟨h1,h2,h3⟩:=hpre
 have hlen:=qS h1
 have e:tot xs=xs.length:=by simp
 rw[e]
 simp (maxSteps:=2000000) (disch:=first|exact dq|fail) only[go_sem,push_cast,qB,qA,qL hb,qE hb]
 unfold szP
 exact Cnp.of (fun h=>by rw[if_pos h]) (fun h=>by rw[if_neg h])
def W22:qH:=fun g' H Bd K=>∃(xs:List (List UInt8)) (left:Int),g'=[lst xs,iv left]/\((sm xs/\0<=left/\left<=1048576)/\K (iv (szP (tot xs) left)) H Bd)
@[go_sem ↓] theorem W22_eq (a:List (List UInt8)) (b:Int):W22 [lst a,iv b] H Bd K=((sm a/\0<=b/\b<=1048576)/\K (iv (szP (tot a) b)) H Bd):=ex2 a b rfl
theorem W22_ok:OK 22 W22:=by
 rintro _ H Bd K ⟨xs,left,rfl,hpre,hK⟩
 refine fnp pok (uA.uB W49_ok) [] hK func22 ntmps22 call22 [.tmp 4] fun hb ha=>?_
 refine jF pok fun cv=>?_
 obtain⟨h1,h2,h3⟩:=hpre
 have hlen:=qS h1
 have e:tot xs=xs.length+(xs.map tot).sum:=tot_list xs
 simp (maxSteps:=2000000) (disch:=first|exact dq|fail) only[go_sem,push_cast,qB,qA,qL hb,qE hb]
 refine Cnp.of (fun h=>by rw[e,szP_neg h]) (fun h=>?_)
 refine jA (fun i=>0<=left-xs.length-totTo xs i) xs.length (fun i=>[(0,lst xs),(1,iv (left-xs.length-totTo xs i)),(5,iv i)]) (by simp;omega) (by simp only[go_sem,push_cast,qB,qA,totTo_zero,Int.sub_zero]) ?_
 intro i B0 hI hi hB
 refine cv (by kernel_rfl) ?_
 rcases xM i xs.length with hlt|hge
 ·have e1:xs[i]? =some xs[i]:=xA hlt
  have hx:=yP h1 (xH hlt)
  have hst:=totTo_succ xs hlt
  skip
  simp (maxSteps:=2000000) (disch:=first|exact dq|fail) only[go_sem,push_cast,qB,qA,qL hb,qE hb,e1,hx]
  exact sz_step hlt hI
 ·simp (maxSteps:=2000000) (disch:=first|exact dq|fail) only[go_sem,push_cast,qB,qA,qL hb,qE hb]
  refine cv (by kernel_rfl) ?_
  simp (maxSteps:=2000000) (disch:=first|exact dq|fail) only[go_sem,push_cast,qB,qA,qL hb,qE hb]
  exact sz_end hge hI
def W50:qH:=fun g' H Bd K=>∃(x:GPut) (left:Int),g'=[.agg (enc x).toArray,iv left]/\((sm x/\0<=left/\left<=1048576)/\K (iv (szP (tot x) left)) H Bd)
@[go_sem ↓] theorem W50_eq (a:Int) (b:List UInt8) (c:Int):W50 [.agg #[iv a,lst b],iv c] H Bd K=((sm (GPut.mk a b)/\0<=c/\c<=1048576)/\K (iv (szP (tot (GPut.mk a b)) c)) H Bd):=ex2 (GPut.mk a b) c rfl
theorem W50_ok:OK 50 W50:=by
 rintro _ H Bd K ⟨x,left,rfl,hpre,hK⟩
 refine fnp pok (uA.uB W49_ok) [] hK func50 ntmps50 call50 [.tmp 4] fun hb ha=>?_
 obtain⟨h1,h2,h3⟩:=hpre
 simp only[sm_GPut,sm_str]at h1
 have q0:=h3
 have q1:=szP_ub (tot x.bytes) (left:=left) (by omega)
 have ez:tot x=tot x.bytes:=by simp[tot_GPut]
 rw[ez]
 simp (maxSteps:=2000000) (disch:=first|exact dq|fail) only[go_sem,push_cast,qB,qA,qL hb,qE hb,h1]
 first|exact szP_last|exact szP_lastT
def W23:qH:=fun g' H Bd K=>∃(xs:List GPut) (left:Int),g'=[lst xs,iv left]/\((sm xs/\0<=left/\left<=1048576)/\K (iv (szP (tot xs) left)) H Bd)
@[go_sem ↓] theorem W23_eq (a:List GPut) (b:Int):W23 [lst a,iv b] H Bd K=((sm a/\0<=b/\b<=1048576)/\K (iv (szP (tot a) b)) H Bd):=ex2 a b rfl
theorem W23_ok:OK 23 W23:=by
 rintro _ H Bd K ⟨xs,left,rfl,hpre,hK⟩
 refine fnp pok (uA.uB W50_ok) [] hK func23 ntmps23 call23 [.tmp 4] fun hb ha=>?_
 refine jF pok fun cv=>?_
 obtain⟨h1,h2,h3⟩:=hpre
 have hlen:=qS h1
 have e:tot xs=xs.length+(xs.map tot).sum:=tot_list xs
 simp (maxSteps:=2000000) (disch:=first|exact dq|fail) only[go_sem,push_cast,qB,qA,qL hb,qE hb]
 refine Cnp.of (fun h=>by rw[e,szP_neg h]) (fun h=>?_)
 refine jA (fun i=>0<=left-xs.length-totTo xs i) xs.length (fun i=>[(0,lst xs),(1,iv (left-xs.length-totTo xs i)),(5,iv i)]) (by simp;omega) (by simp only[go_sem,push_cast,qB,qA,totTo_zero,Int.sub_zero]) ?_
 intro i B0 hI hi hB
 refine cv (by kernel_rfl) ?_
 rcases xM i xs.length with hlt|hge
 ·have e1:xs[i]? =some xs[i]:=xA hlt
  have hx:=yP h1 (xH hlt)
  have hst:=totTo_succ xs hlt
  skip
  simp (maxSteps:=2000000) (disch:=first|exact dq|fail) only[go_sem,push_cast,qB,qA,qL hb,qE hb,e1,hx]
  exact sz_step hlt hI
 ·simp (maxSteps:=2000000) (disch:=first|exact dq|fail) only[go_sem,push_cast,qB,qA,qL hb,qE hb]
  refine cv (by kernel_rfl) ?_
  simp (maxSteps:=2000000) (disch:=first|exact dq|fail) only[go_sem,push_cast,qB,qA,qL hb,qE hb]
  exact sz_end hge hI
def W6:qH:=fun g' H Bd K=>∃(x:GDisk) (left:Int),g'=[.agg (enc x).toArray,iv left]/\((sm x/\0<=left/\left<=1048576)/\K (iv (szP (tot x) left)) H Bd)
@[go_sem ↓] theorem W6_eq (a:List (List UInt8)) (b:List GPut) (c:Int):W6 [.agg #[lst a,lst b],iv c] H Bd K=((sm (GDisk.mk a b)/\0<=c/\c<=1048576)/\K (iv (szP (tot (GDisk.mk a b)) c)) H Bd):=ex2 (GDisk.mk a b) c rfl
theorem W6_ok:OK 6 W6:=by
 rintro _ H Bd K ⟨x,left,rfl,hpre,hK⟩
 refine fnp pok ((uA.uB W22_ok).uB W23_ok) [] hK func6 ntmps6 call6 [.tmp 4] fun hb ha=>?_
 obtain⟨h1,h2,h3⟩:=hpre
 simp only[sm_GDisk,sm_str]at h1
 have q0:=h3
 have q1:=szP_ub (tot x.sectors) (left:=left) (by omega)
 have q2:=szP_ub (tot x.pending) (left:=szP (tot x.sectors) (left)) (by omega)
 have ez:tot x=tot x.sectors+(tot x.pending):=by simp[tot_GDisk]
 rw[ez]
 simp (maxSteps:=2000000) (disch:=first|exact dq|fail) only[go_sem,push_cast,qB,qA,qL hb,qE hb,h1]
 refine szP_go (fun e=>e.symm) (fun e=>?_)
 rw[e]
 first|exact szP_last|exact szP_lastT
@[go_sem ↓] def BO55 (xs:List UInt8):Tq:=fun H Bd K=>((sm xs/\tot xs<=1048576)/\K (sv Bd 1 (xs).length ((xs).length+1)) (upd H Bd (some ⟨qO (xs),true⟩)) (Bd+1))
def O55:qH:=fun g' H Bd K=>∃(xs:List UInt8),g'=[lst xs]/\BO55 xs H Bd K
@[go_sem ↓] theorem O55_eq (a:List UInt8):O55 [lst a] H Bd K=BO55 a H Bd K:=ex1 a rfl
theorem O55_ok:OK 55 O55:=by
 rintro _ H Bd K ⟨xs,rfl,hpre,hK⟩
 refine fn_own pok uA [] (sv Bd 1 (xs).length ((xs).length+1)) [qO (xs)] hK func55 rfl (rs:=[.tmp 2]) rfl ntmps55 (by simp) call55 (by kernel_rfl) (fun cells hc v hv=>by simp only[wG,List.not_mem_nil,or_false]at hc;rcases hc with rfl <;>exact flat_nb _ _ _ hv) (fun hb ha=>?_)
 refine jF pok fun cv=>?_
 obtain⟨h1,h2⟩:=hpre
 have e:tot xs=xs.length+(xs.map tot).sum:=tot_list xs
 simp (maxSteps:=2000000) (disch:=first|exact dq|fail) only[go_sem,push_cast,qB,qA,qL hb,qE hb]
 refine tr_fill (α:=UInt8) hb xs (fun i=>[(0,lst xs),(3,sv Bd 1 xs.length (xs.length+1)),(4,iv i)]) _ (zmake_len _ _) ⟨xC _,by omega⟩ (by simp only[go_sem,push_cast,qB,qA]) (Le.refl _) ?_
 intro i L B hi hL hF hB hb'
 refine cv (by kernel_rfl) ?_
 have hL':L.length=xs.length*1:=hL
 rcases xM i xs.length with hlt|hge
 ·have e1:xs[i]? =some xs[i]:=xA hlt
  have hx:=yP h1 (xH hlt)
  have hx2:tot xs[i]<=(xs.map tot).sum:=tot_mem hlt
  simp (maxSteps:=2000000) (disch:=first|exact dq|fail) only[go_sem,push_cast,qB,qA,qL hb,qE hb,e1,hx]
  exact⟨_,rfl,Le.refl _⟩
 ·simp (maxSteps:=2000000) (disch:=first|exact dq|fail) only[go_sem,push_cast,qB,qA,qL hb,qE hb]
  have hf:L=qO xs:=by
   rw[xO (by rw[hL];exact Nat.mul_le_mul_right _ hge),xO hge]at hF
   exact hF
  subst hf
  refine cv (by kernel_rfl) ?_
  simp (maxSteps:=2000000) (disch:=first|exact dq|fail) only[go_sem,push_cast,qB,qA,qL hb,qE hb]
def P27:qH:=fun g' H Bd K=>∃(xs:List (List UInt8)),g'=[lst xs]/\((sm xs/\tot xs<=1048576)/\K (sv Bd 1 (xs).length ((xs).length+1)) (oput H Bd (OEnc.oc (xs))) (Bd+OV.numL (OEnc.oc (xs))))
@[go_sem ↓] theorem P27_eq (a:List (List UInt8)):P27 [lst a] H Bd K=((sm a/\tot a<=1048576)/\K (sv Bd 1 (a).length ((a).length+1)) (oput H Bd (OEnc.oc (a))) (Bd+OV.numL (OEnc.oc (a)))):=ex1 a rfl
theorem P27_ok:OK 27 P27:=by
 rintro _ H Bd K ⟨xs,rfl,hpre,hK⟩
 refine fn_ownN pok (uA.uB O55_ok) [] (.one (ols (xs))) (⟨ols_ok _,trivial⟩) hK func27 rfl (rs:=[.tmp 2]) rfl ntmps27 (by simp) call27 (by kernel_rfl) (fun hb ha=>?_)
 clear hK
 refine jF pok fun cv=>?_
 obtain⟨h1,h2⟩:=hpre
 have e:tot xs=xs.length+(xs.map tot).sum:=tot_list xs
 have hbH:=hb
 have hz:∀v∈[sn],NB Bd v:=(nbs_all ⟨.nils,trivial⟩)
 have yz:=fun k=>rql_nb (nb_zmake (k:=k) hz)
 refine R0 ?_
 refine tr_ownB (X:=Nat×AH×List Value×List (Option Nat)) 1 [.s 3] rfl (fun x=>x.2.1) (fun x=>x.1<=xs.length/\OV.AtL x.2.1 Bd (ocL (xs.take x.1)) x.2.2.1 x.2.2.2/\OV.nd x.2.2.2/\Le H x.2.1) (fun x=>xs.length-x.1) (fun Nx x=>[(0,lst xs),(3,sv Nx 1 xs.length (xs.length+1)),(4,iv (x.1:Nat))]) (fun Nx x=>[(Nx,⟨x.2.2.1++jU (xs.length-x.1) [sn],true⟩)]) (0,H,[],[]) (⟨xT _,⟨rfl,rfl⟩,OV.nd_nil,Le.refl _⟩) (fun Nx hNx=>(by simp (disch:=first|assumption|omega|(simp (disch:=omega) only[qG,qE hb];done)|(simp (disch:=first|omega|(simp (disch:=omega) only[qG,qE hb];done)) only[go_sem,push_cast,qB,qA,qG,qE hb];done)|fail) only[go_sem,push_cast,qB,qA,qU,qL hb,qG,qE hb,qZ,qK,qT,jS,jH,jB,jT,jK,xL,xD,xJ,xZ,Nat.zero_add,List.nil_append,Nat.sub_zero,yz]<;>exact cT)) ?_
 intro Nx x hNx hIx hGx hbx Fx hFx
 simp only[mem_cons,jC]at hbx hGx ⊢
 refine cv (by kernel_rfl) ?_
 obtain⟨i,G,us,σ⟩:=x
 obtain⟨i1,i2,i3,i4⟩:=hIx
 simp only at i1 i2 i3 i4 hGx hbx
 have hb:=hGx
 have hul:us.length=i*1:=fill_len i1 i2
 have hnb:=OV.AtL.nb hGx i2 (ocL_ok _)
 by_cases hlt:i<xs.length
 ·have e1:xs[i]? =some xs[i]:=xA hlt
  have hx:=yP h1 (xH hlt)
  have hx2:tot xs[i]<=(xs.map tot).sum:=tot_mem hlt
  have hx3:tot xs[i]<=1048576:=by omega
  have hfl:=fill_lset (z:=[sn]) (cs:=[sv (Nx+1) 1 (xs[i]).length ((xs[i]).length+1)]) hul rfl rfl hlt
  have hnx:=fill_next hlt i2 i3 hGx (m:=Nx+1) (by omega) (by omega)
  generalize hE:xs[i]=E at*
  simp only[lset,Nat.mul_one,xL,List.cons_append,List.nil_append]at hfl
  have hle:=Le_oput (Nx+1) (OEnc.oc E) (Le_new (H:=G) (n:=Nx) (b:=some ⟨us++jU (xs.length-i) [sn],true⟩) (Le.refl G) (hGx.fresh Nx (xC _)))
  simp only[go_sem]at hle
  have hul2:(us++jU (xs.length-i) [sn]).length=xs.length*1:=fill_all hul rfl hlt
  have hx4:tot E<=1048576:=hx3
  refine R (cj7 e1 hE hx hx4 hlt hfl hul2) ?_
  have hq1:=nb_app (nb_app (nb_up hnb (by omega:Nx<=Nx+1+OV.numL (OEnc.oc E))) (valL_nb (Nx+1) (OEnc.ok E))) (nb_zmake (k:=xs.length-(i+1)) (nb_up hz (by omega)))
  have yq:=rql_nb hq1
  simp only[go_sem,xL]at yq
  refine hFx (i+1,oput G (Nx+1) (OEnc.oc E),us++OV.valL (Nx+1) (OEnc.oc E),σ++OV.canon (Nx+1) (OV.numL (OEnc.oc E))) _ _ _ ?_ ?_ (by simp only[go_sem,push_cast,qB,qA]) (fun Mx hMx=>(canf (cj3 yq yz hle)))
  ·show xs.length-(i+1)<xs.length-i
   omega
  ·exact⟨hlt,hnx.1,hnx.2,Le_oputN i4 fun m h1 _=>hbH.fresh m (by omega)⟩
 ·obtain rfl:i=xs.length:=by omega
  rw[wH]at i2
  have hz0:us++jU (xs.length-xs.length) [sn]=us:=by rw[Nat.sub_self];exact wL _
  refine R hz0 ?_
  refine cv (by kernel_rfl) ?_
  refine R hz0 ?_
  exact own_one i2 i3 hGx i4 (by omega)
@[go_sem ↓] def BO56 (x:GPut):Tq:=fun H Bd K=>((sm x/\tot x<=1048576)/\K (.agg #[iv ((x).sector),sv Bd 1 ((x).bytes).length (((x).bytes).length+1)]) (upd H Bd (some ⟨qO ((x).bytes),true⟩)) (Bd+1))
def O56:qH:=fun g' H Bd K=>∃(x:GPut),g'=[.agg (enc x).toArray]/\BO56 x H Bd K
@[go_sem ↓] theorem O56_eq (a:Int) (b:List UInt8):O56 [.agg #[iv a,lst b]] H Bd K=BO56 (GPut.mk a b) H Bd K:=ex1 (GPut.mk a b) rfl
theorem O56_ok:OK 56 O56:=by
 rintro _ H Bd K ⟨x,rfl,hpre,hK⟩
 refine fn_own pok (uA.uB O55_ok) [] (.agg #[iv ((x).sector),sv Bd 1 ((x).bytes).length (((x).bytes).length+1)]) [qO ((x).bytes)] hK func56 rfl (rs:=[.cell 2 105]) rfl ntmps56 (by simp) call56 (by kernel_rfl) (fun cells hc v hv=>by simp only[wG,List.not_mem_nil,or_false]at hc;rcases hc with rfl <;>exact flat_nb _ _ _ hv) (fun hb ha=>?_)
 obtain⟨h1,h2⟩:=hpre
 simp only[sm_GPut]at h1
 simp only[tot_GPut]at h2
 simp (maxSteps:=2000000) (disch:=first|exact dq|fail) only[go_sem,push_cast,qB,qA,qL hb,qE hb,h1]
@[go_sem ↓] def BP28 (xs:List GPut):Tq:=fun H Bd K=>((sm xs/\tot xs<=1048576)/\K (sv Bd 2 (xs).length ((xs).length+1)) (oput H Bd (OEnc.oc (xs))) (Bd+OV.numL (OEnc.oc (xs))))
def P28:qH:=fun g' H Bd K=>∃(xs:List GPut),g'=[lst xs]/\BP28 xs H Bd K
@[go_sem ↓] theorem P28_eq (a:List GPut):P28 [lst a] H Bd K=BP28 a H Bd K:=ex1 a rfl
theorem P28_ok:OK 28 P28:=by
 rintro _ H Bd K ⟨xs,rfl,hpre,hK⟩
 refine fn_ownN pok (uA.uB O56_ok) [] (.one (ols (xs))) (⟨ols_ok _,trivial⟩) hK func28 rfl (rs:=[.tmp 2]) rfl ntmps28 (by simp) call28 (by kernel_rfl) (fun hb ha=>?_)
 clear hK
 refine jF pok fun cv=>?_
 obtain⟨h1,h2⟩:=hpre
 have e:tot xs=xs.length+(xs.map tot).sum:=tot_list xs
 have hbH:=hb
 have hz:∀v∈[iv 0,sn],NB Bd v:=(nbs_all ⟨.int _ _, .nils,trivial⟩)
 have yz:=fun k=>rql_nb (nb_zmake (k:=k) hz)
 refine R0 ?_
 refine tr_ownB (X:=Nat×AH×List Value×List (Option Nat)) 1 [.s 3] rfl (fun x=>x.2.1) (fun x=>x.1<=xs.length/\OV.AtL x.2.1 Bd (ocL (xs.take x.1)) x.2.2.1 x.2.2.2/\OV.nd x.2.2.2/\Le H x.2.1) (fun x=>xs.length-x.1) (fun Nx x=>[(0,lst xs),(3,sv Nx 2 xs.length (xs.length+1)),(4,iv (x.1:Nat))]) (fun Nx x=>[(Nx,⟨x.2.2.1++jU (xs.length-x.1) [iv 0,sn],true⟩)]) (0,H,[],[]) (⟨xT _,⟨rfl,rfl⟩,OV.nd_nil,Le.refl _⟩) (fun Nx hNx=>(by simp (disch:=first|assumption|omega|(simp (disch:=omega) only[qG,qE hb];done)|(simp (disch:=first|omega|(simp (disch:=omega) only[qG,qE hb];done)) only[go_sem,push_cast,qB,qA,qG,qE hb];done)|fail) only[go_sem,push_cast,qB,qA,qU,qL hb,qG,qE hb,qZ,qK,qT,jS,jH,jB,jT,jK,xL,xD,xJ,xZ,Nat.zero_add,List.nil_append,Nat.sub_zero,yz]<;>exact cT)) ?_
 intro Nx x hNx hIx hGx hbx Fx hFx
 simp only[mem_cons,jC]at hbx hGx ⊢
 refine cv (by kernel_rfl) ?_
 obtain⟨i,G,us,σ⟩:=x
 obtain⟨i1,i2,i3,i4⟩:=hIx
 simp only at i1 i2 i3 i4 hGx hbx
 have hb:=hGx
 have hul:us.length=i*2:=fill_len i1 i2
 have hnb:=OV.AtL.nb hGx i2 (ocL_ok _)
 by_cases hlt:i<xs.length
 ·have e1:xs[i]? =some xs[i]:=xA hlt
  have hx:=yP h1 (xH hlt)
  have hx2:tot xs[i]<=(xs.map tot).sum:=tot_mem hlt
  have hx3:tot xs[i]<=1048576:=by omega
  have hfl:=fill_lset (z:=[iv 0,sn]) (cs:=[iv (xs[i].sector),sv (Nx+1) 1 (xs[i].bytes).length ((xs[i].bytes).length+1)]) hul rfl rfl hlt
  have hnx:=fill_next hlt i2 i3 hGx (m:=Nx+1) (by omega) (by omega)
  generalize hE:xs[i]=E at*
  simp only[lset,Nat.mul_one,xL,List.cons_append,List.nil_append]at hfl
  have hle:=Le_oput (Nx+1) (OEnc.oc E) (Le_new (H:=G) (n:=Nx) (b:=some ⟨us++jU (xs.length-i) [iv 0,sn],true⟩) (Le.refl G) (hGx.fresh Nx (xC _)))
  simp only[go_sem]at hle
  have hul2:(us++jU (xs.length-i) [iv 0,sn]).length=xs.length*2:=fill_all hul rfl hlt
  have hx4:tot E<=1048576:=hx3
  refine R (cj7 e1 hE hx hx4 hlt hfl hul2) ?_
  have hq1:=nb_app (nb_app (nb_up hnb (by omega:Nx<=Nx+1+OV.numL (OEnc.oc E))) (valL_nb (Nx+1) (OEnc.ok E))) (nb_zmake (k:=xs.length-(i+1)) (nb_up hz (by omega)))
  have yq:=rql_nb hq1
  simp only[go_sem,xL]at yq
  refine hFx (i+1,oput G (Nx+1) (OEnc.oc E),us++OV.valL (Nx+1) (OEnc.oc E),σ++OV.canon (Nx+1) (OV.numL (OEnc.oc E))) _ _ _ ?_ ?_ (by simp only[go_sem,push_cast,qB,qA]) (fun Mx hMx=>(canf (cj3 yq yz hle)))
  ·show xs.length-(i+1)<xs.length-i
   omega
  ·exact⟨hlt,hnx.1,hnx.2,Le_oputN i4 fun m h1 _=>hbH.fresh m (by omega)⟩
 ·obtain rfl:i=xs.length:=by omega
  rw[wH]at i2
  have hz0:us++jU (xs.length-xs.length) [iv 0,sn]=us:=by rw[Nat.sub_self];exact wL _
  refine R hz0 ?_
  refine cv (by kernel_rfl) ?_
  refine R hz0 ?_
  exact own_one i2 i3 hGx i4 (by omega)
@[go_sem ↓] def BP8 (x:GDisk):Tq:=fun H Bd K=>((sm x/\tot x<=1048576)/\K (.agg #[sv Bd 1 (x.sectors).length ((x.sectors).length+1),sv (Bd+OV.numL (OEnc.oc (x.sectors))) 2 (x.pending).length ((x.pending).length+1)]) (oput H Bd (OEnc.oc (x))) (Bd+OV.numL (OEnc.oc (x))))
def P8:qH:=fun g' H Bd K=>∃(x:GDisk),g'=[.agg (enc x).toArray]/\BP8 x H Bd K
@[go_sem ↓] theorem P8_eq (a:List (List UInt8)) (b:List GPut):P8 [.agg #[lst a,lst b]] H Bd K=BP8 (GDisk.mk a b) H Bd K:=ex1 (GDisk.mk a b) rfl
theorem P8_ok:OK 8 P8:=by
 rintro _ H Bd K ⟨x,rfl,hpre,hK⟩
 refine fn_ownN pok ((uA.uB P27_ok).uB P28_ok) [] (.agg (OEnc.oc (x))) (OEnc.ok _) hK func8 rfl (rs:=[.cell 2 33]) rfl ntmps8 (by simp) call8 (by kernel_rfl) (fun hb ha=>?_)
 clear hK
 obtain⟨h1,h2⟩:=hpre
 simp only[sm_GDisk]at h1
 simp only[tot_GDisk]at h2
 refine R h1 ?_
 refine own_agg [(_,OEnc.oc x.sectors),(_,OEnc.oc x.pending)] ?_ ?_ rfl rfl
 ·refine⟨by omega,?_,by omega,?_,trivial⟩
  all_goals (simp (disch:=first|assumption|omega) only[go_sem,push_cast,qB,qA,qG,qE hb])
 ·simp (disch:=first|assumption|omega|(simp (disch:=first|assumption|omega) only[qG,free_oput,qE hb];done)) only[go_sem,push_cast,qB,qA,qL hb,Le_oputB hb,qE hb,qU]
def W81:qH:=fun g' H Bd K=>∃(n:Int) (low:Int) (high:Int),g'=[iv n,iv low,iv high]/\(K (.bool (decide (low<=n/\n<=high))) H Bd)
@[go_sem ↓] theorem W81_eq (a b c:Int):W81 [iv a,iv b,iv c] H Bd K=(K (.bool (decide (b<=a/\a<=c))) H Bd):=ex3 a b c rfl
theorem W81_ok:OK 81 W81:=by
 rintro _ H Bd K ⟨n,low,high,rfl,hK⟩
 refine fnp pok uA [(1,[],[],(.k 4 (.grp true 10 13 3 [11,12,13] 14 none (.k 3 .nil) (.k 1 .nil))))] hK func81 ntmps81 call81 [.tmp 6] fun hb ha=>?_
 simp (maxSteps:=2000000) (disch:=first|exact dq|fail) only[go_sem,push_cast,qB,qA,qL hb,qE hb]
 all_goals first|done|trivial|((try simp only[Cnp,Imp]);grind)
def W51:qH:=fun g' H Bd K=>∃(d:GDisk),g'=[.agg (enc d).toArray]/\((sm d)/\K (iv (yR d)) H Bd)
@[go_sem ↓] theorem W51_eq (a:List (List UInt8)) (b:List GPut):W51 [.agg #[lst a,lst b]] H Bd K=((sm (GDisk.mk a b))/\K (iv (yR (GDisk.mk a b))) H Bd):=ex1 (GDisk.mk a b) rfl
theorem W51_ok:OK 51 W51:=by
 rintro _ H Bd K ⟨d,rfl,hpre,hK⟩
 refine fnp pok (uA.uB W81_ok) [(24,[0,1,2,3,4,5,6,7,8,9,10,11,12],[z0 0,z0 1,z0 2,z0 3,z0 4,z0 5,z0 6,z0 7,z0 8,z0 9,z0 10,z0 11,z0 12], .nil)] hK func51 ntmps51 call51 [.tmp 2] fun hb ha=>?_
 refine jF pok fun cv=>?_
 have hd:=hpre
 simp only[sm_GDisk]at hpre
 have hlen:=qS hpre.1
 have hlen2:=qS hpre.2
 rcases Decidable.em (¬(8<=d.sectors.length/\d.sectors.length<=64))with h8|h8
 ·have hf:yR d=2:=by unfold yR;rw[if_pos h8]
  refine R (cj hd hf) ?_
  all_goals first|trivial|exact fun a b=>absurd (And.intro (by omega) (by omega)) h8
 have hf:yR d=diskG d:=by unfold yR;rw[if_neg h8]
 rw[hf]
 obtain⟨h81,h82⟩:=Decidable.not_not.1 h8
 refine R (cj h81 h82) ?_
 refine jA (fun k=>∀j,j<k->∀x,d.sectors[j]? =some x->decide (x.length≠96)=false) (d.sectors.length) (fun k=>[(1,pt Bd),(3,iv d.sectors.length),(4,iv k)]) (by simp) (by simp only[go_sem,push_cast,qB,qA]) ?_
 intro k Bk hIk hik hBk
 refine cv (by kernel_rfl) ?_
 rcases xM k (d.sectors.length)with hltk|hgek
 ·have e1:d.sectors[k]? =some d.sectors[k]:=xA hltk
  have hx:=qS (yP hpre.1 (xH hltk))
  by_cases h9:d.sectors[k].length=96
  ·refine R (cj e1 h9) ?_
   intro j hj x hx2
   by_cases e:j=k
   ·subst e;rw[e1]at hx2;cases hx2;simpa using h9
   ·simpa using hIk j (by omega) x hx2
  ·have hg:diskG d=1:=by unfold diskG;rw[if_pos (any_hit hltk (by simpa using h9))]
   rw[hg]
   exact R (cj e1 h9) trivial
 ·have hany:d.sectors.any (fun b=>decide (b.length≠96))=false:=vL fun j hj x hx=>hIk j (by omega) x hx
  refine R0 ?_
  refine cv (by kernel_rfl) ?_
  by_cases hp:d.pending.length>d.sectors.length
  ·have hg:diskG d=2:=by unfold diskG;rw[if_neg (by rw[hany];exact Bool.false_ne_true),if_pos hp]
   rw[hg]
   exact R hp trivial
  have hg:diskG d=if putF d.sectors.length d.pending≠0 then putF d.sectors.length d.pending else if(d.pending.map (·.sector)).Nodup then 0 else 6:=by unfold diskG;rw[if_neg (by rw[hany];exact Bool.false_ne_true),if_neg hp]
  refine R hp ?_
  refine jA (fun i=>putF d.sectors.length (d.pending.drop i)=putF d.sectors.length d.pending) (d.pending.length) (fun i=>[(1,pt Bd),(3,iv d.sectors.length),(5,iv i)]) (by simp) (by simp only[go_sem,push_cast,qB,qA]) ?_
  intro i Bi hIi hii hBi
  refine cv (by kernel_rfl) ?_
  rcases xM i (d.pending.length)with hlti|hgei
  ·have e1:d.pending[i]? =some d.pending[i]:=xA hlti
   have hd2:=wI hlti
   have hx:=yP hpre.2 (xH hlti)
   simp only[sm_GPut]at hx
   have hx2:=qS hx.2
   rw[hd2,putF]at hIi
   by_cases hr:0<=d.pending[i].sector/\d.pending[i].sector<=(d.sectors.length:Int)-1
   ·rw[if_neg (by simpa using hr)]at hIi
    by_cases hb9:d.pending[i].bytes.length=96
    ·rw[if_neg (by simpa using hb9)]at hIi
     obtain⟨hr1,hr2⟩:=hr
     exact R (cj6 e1 hd hr1 hr2 hb9 hIi) trivial
    ·rw[if_pos hb9]at hIi
     have hg2:diskG d=1:=by rw[hg,<-hIi];rfl
     obtain⟨hr1,hr2⟩:=hr
     rw[hg2]
     exact R (cj5 e1 hd hr1 hr2 hb9) trivial
   ·rw[if_pos hr]at hIi
    have hg2:diskG d=3:=by rw[hg,<-hIi];rfl
    rw[hg2]
    refine R (cj3 e1 hd hr) ?_
    all_goals (first|trivial|exact fun a b=>absurd (And.intro (by omega) (by omega)) hr|(intros;omega))
  ·refine R0 ?_
   have h0:putF d.sectors.length d.pending=0:=by rw[<-hIi,List.drop_of_length_le hgei];rfl
   rw[h0]at hg
   simp only[ne_eq,not_true_eq_false,if_false]at hg
   refine cv (by kernel_rfl) ?_
   refine R0 ?_
   refine jA (fun j=>∀a b x y,b<a->a<j->d.pending[a]? =some x->d.pending[b]? =some y->x.sector≠y.sector) (d.pending.length) (fun j=>[(1,pt Bd),(3,iv d.sectors.length),(6,iv j)]) (by simp) (by simp only[go_sem,push_cast,qB,qA]) ?_
   intro j Bj hIj hij hBj
   refine cv (by kernel_rfl) ?_
   rcases xM j (d.pending.length)with hltj|hgej
   ·have e1:d.pending[j]? =some d.pending[j]:=xA hltj
    refine R e1 ?_
    refine jA (fun m=>∀b y,b<m->d.pending[b]? =some y->d.pending[j].sector≠y.sector) (j) (fun m=>[(1,pt Bd),(3,iv d.sectors.length),(6,iv j),(7,iv m)]) (by simp) (by simp only[go_sem,push_cast,qB,qA]) ?_
    intro m Bm hIm him hBm
    refine cv (by kernel_rfl) ?_
    rcases xM m (j)with hltm|hgem
    ·have e2:d.pending[m]? =some (d.pending[m]'(by omega)):=xA _
     by_cases hq:d.pending[j].sector=(d.pending[m]'(by omega)).sector
     ·have hn:¬(d.pending.map (·.sector)).Nodup:=nodup_map_not (f:=(·.sector)) hltm hltj hq
      rw[if_neg hn]at hg
      rw[hg]
      exact R (cj3 e1 e2 hq) trivial
     ·refine R (cj3 e1 e2 hq) ?_
      intro b y hb1 hb2
      by_cases e:b=m
      ·subst e;rw[e2]at hb2;cases hb2;exact hq
      ·exact hIm b y (by omega) hb2
    ·refine R0 ?_
     intro a b x y h1 h2 h3 h4
     by_cases e:a=j
     ·subst e;rw[e1]at h3;cases h3;exact hIm b y (by omega) h4
     ·exact hIj a b x y h1 (by omega) h3 h4
   ·refine R0 ?_
    refine cv (by kernel_rfl) ?_
    have h7:(d.pending.map (·.sector)).Nodup:=nodup_map fun i j x y h1 h2 h3 h4=>hIj i j x y h1 (by omega) h3 h4
    rw[if_pos h7]at hg
    rw[hg]
    exact R0 trivial
def W132:qH:=fun g' H Bd K=>∃(xs:List UInt8),g'=[lst xs]/\((sm xs)/\K (iv (sumB 29 xs)) H Bd)
@[go_sem ↓] theorem W132_eq (a:List UInt8):W132 [lst a] H Bd K=((sm a)/\K (iv (sumB 29 a)) H Bd):=ex1 a rfl
theorem W132_ok:OK 132 W132:=by
 rintro _ H Bd K ⟨xs,rfl,hpre,hK⟩
 refine fnp pok uA [] hK func132 ntmps132 call132 [.tmp 2] fun hb ha=>?_
 refine jF pok fun cv=>?_
 have hlen:=qS hpre
 refine R0 ?_
 refine jA (fun i=>True) (xs.length) (fun i=>[(0,lst xs),(3,iv (sumB 29 (xs.take i))),(4,iv i)]) (trivial) (by simp only[go_sem,push_cast,qB,qA,List.take_zero,sumB]) ?_
 intro i Bi hIi hii hBi
 refine cv (by kernel_rfl) ?_
 rcases xM i (xs.length)with hlti|hgei
 ·have e1:xs[i]? =some xs[i]:=xA hlti
  have hst:=sumB_take hlti
  have hr:=sum_rg (xs.take i)
  have hby:(xs[i].toNat:Int)<256:=by have:=xs[i].toNat_lt;omega
  have ht:(sumB 29 (xs.take i)*227+(xs[i].toNat:Int)+1).tmod 65521=(sumB 29 (xs.take i)*227+(xs[i].toNat:Int)+1)%65521:=Int.tmod_eq_emod_of_nonneg (by omega)
  have hcm:227*sumB 29 (xs.take i)=sumB 29 (xs.take i)*227:=Int.mul_comm _ _
  exact R (cj4 e1 hst hcm ht) trivial
 ·refine R0 ?_
  refine cv (by kernel_rfl) ?_
  rw[xO hgei]
  exact R0 trivial
def W130:qH:=fun g' H Bd K=>∃(n:Int),g'=[iv n]/\((0<=n/\n<=65535)/\K (lst (jX n)) H Bd)
@[go_sem ↓] theorem W130_eq (a:Int):W130 [iv a] H Bd K=((0<=a/\a<=65535)/\K (lst (jX a)) H Bd):=ex1 a rfl
theorem W130_ok:OK 130 W130:=by
 rintro _ H Bd K ⟨n,rfl,hpre,hK⟩
 refine fnp pok uA [] hK func130 ntmps130 call130 [.tmp 2] fun hb ha=>?_
 obtain⟨h1,h2⟩:=hpre
 have e1:n.tdiv 256=n/256:=Int.tdiv_eq_ediv_of_nonneg h1
 have e2:n.tmod 256=n%256:=Int.tmod_eq_emod_of_nonneg h1
 have e3:n%256%256=n%256:=by omega
 have hl:2=(jX n).length:=rfl
 simp (maxSteps:=2000000) (disch:=first|exact dq|fail) only[go_sem,push_cast,qB,qA,qL hb,qE hb,e1,e2,e3,<-pairB_flat n]
 exact qV (qJ _ _ _) (hb.fresh _ (by omega)) rfl rfl
def W129:qH:=fun g' H Bd K=>∃(xs:List UInt8),g'=[lst xs]/\((xs.length<=1000000)/\K (lst xs) H Bd)
@[go_sem ↓] theorem W129_eq (a:List UInt8):W129 [lst a] H Bd K=((a.length<=1000000)/\K (lst a) H Bd):=ex1 a rfl
theorem W129_ok:OK 129 W129:=by
 rintro _ H Bd K ⟨xs,rfl,hpre,hK⟩
 refine fnp pok uA [] hK func129 ntmps129 call129 [.tmp 2] fun hb ha=>?_
 have hok:=flat_ok xs
 refine RA hok ?_
 exact qV (qJ _ _ _) (hb.fresh _ (by omega)) rfl rfl
def W245:qH:=fun g' H Bd K=>∃(s:ByteArray),g'=[.string s]/\((s.size<=281474976710656)/\K (.bool (isNm s)) H Bd)
@[go_sem ↓] theorem W245_eq (a:ByteArray):W245 [.string a] H Bd K=((a.size<=281474976710656)/\K (.bool (isNm a)) H Bd):=ex1 a rfl
theorem W245_ok:OK 245 W245:=by
 rintro _ H Bd K ⟨s,rfl,hpre,hK⟩
 refine fnp pok uA [(1,[],[],(.k 4 (.grp false 7 10 3 [8,9,10] 11 none (.k 3 .nil) .nil))),(6,[],[],(.k 5 (.grp false 22 26 4 [23,24,25,26] 27 none (.k 4 .nil) .nil)))] hK func245 ntmps245 call245 [.tmp 2] fun hb ha=>?_
 refine jF pok fun cv=>?_
 refine R0 ?_
 refine⟨fun h=>?_,fun h1 h2=>?_⟩
 ·unfold isNm;grind
 refine jA (fun i=>∀j,j<i->97<=byteAt s j/\byteAt s j<=122) (s.size) (fun i=>[(0, .string s),(3,iv i)]) (by simp) (by simp only[go_sem,push_cast,qB,qA]) ?_
 intro i Bi hIi hii hBi
 refine cv (by kernel_rfl) ?_
 rcases xM i (s.size)with hlti|hgei
 ·refine R0 ?_
  unfold isNm
  all_goals first|done|trivial|((try simp only[Cnp,Imp]);grind)
 ·refine R0 ?_
  refine cv (by kernel_rfl) ?_
  refine R0 ?_
  unfold isNm
  all_goals first|done|trivial|((try simp only[Cnp,Imp]);grind)
def W214:qH:=fun g' H Bd K=>∃(s:GSignature),g'=[.agg (enc s).toArray]/\((sm s)/\K (iv (kE s)) H Bd)
@[go_sem ↓] theorem W214_eq (a:List GSymbol):W214 [.agg #[lst a]] H Bd K=((sm (GSignature.mk a))/\K (iv (kE (GSignature.mk a))) H Bd):=ex1 (GSignature.mk a) rfl
theorem W214_ok:OK 214 W214:=by
 rintro _ H Bd K ⟨s,rfl,hpre,hK⟩
 refine fnp pok ((uA.uB W245_ok).uB W81_ok) [(2,[],[],(.k 3 (.grp false 13 15 2 [14,15] 16 none (.k 2 .nil) .nil))),(17,[0,1,2,3,4,5,6,7,8,9,10,11,12],[z0 0,z0 1,z0 2,z0 3,z0 4,z0 5,z0 6,z0 7,z0 8,z0 9,z0 10,z0 11,z0 12], .nil)] hK func214 ntmps214 call214 [.tmp 2] fun hb ha=>?_
 refine jF pok fun cv=>?_
 simp only[yN]at hpre
 have hlen:=qS hpre
 refine R0 ?_
 refine⟨fun h=>by unfold kE;rw[if_pos (by omega)],fun h1 h2=>?_⟩
 have hs:kE s=sigG s:=by unfold kE;rw[if_neg (by omega)]
 rw[hs]
 refine jA (fun i=>symL (s.symbols.drop i)=symL s.symbols) (s.symbols.length) (fun i=>[(1,pt Bd),(3,iv s.symbols.length),(4,iv i)]) (by simp) (by simp only[go_sem,push_cast,qB,qA]) ?_
 intro i Bi hIi hii hBi
 refine cv (by kernel_rfl) ?_
 rcases xM i (s.symbols.length)with hlti|hgei
 ·have e1:s.symbols[i]? =some s.symbols[i]:=xA hlti
  have hd:=wI hlti
  have hx:=yP hpre (xH hlti)
  simp only[sm_GSymbol,sm_str,sm_int,and_true]at hx
  rw[hd,symL]at hIi
  refine R (cj e1 hx) ?_
  generalize symL (List.drop (i+1) s.symbols)=q at*
  unfold sigG
  all_goals first|done|trivial|((try simp only[Cnp,Imp]);grind)
 ·refine R0 ?_
  refine cv (by kernel_rfl) ?_
  refine R0 ?_
  have h0:symL s.symbols=0:=by rw[<-hIi,List.drop_of_length_le hgei];rfl
  refine jA (fun j=>∀a b x y,b<a->a<j->s.symbols[a]? =some x->s.symbols[b]? =some y->x.name≠y.name) (s.symbols.length) (fun j=>[(1,pt Bd),(3,iv s.symbols.length),(5,iv j)]) (by simp) (by simp only[go_sem,push_cast,qB,qA]) ?_
  intro j Bj hIj hij hBj
  refine cv (by kernel_rfl) ?_
  rcases xM j (s.symbols.length)with hltj|hgej
  ·have e1:s.symbols[j]? =some s.symbols[j]:=xA hltj
   refine R e1 ?_
   refine jA (fun k=>∀b y,b<k->s.symbols[b]? =some y->s.symbols[j].name≠y.name) (j) (fun k=>[(1,pt Bd),(3,iv s.symbols.length),(5,iv j),(6,iv k)]) (by simp) (by simp only[go_sem,push_cast,qB,qA]) ?_
   intro k Bk hIk hik hBk
   refine cv (by kernel_rfl) ?_
   rcases xM k (j)with hltk|hgek
   ·have e2:s.symbols[k]? =some (s.symbols[k]'(by omega)):=xA _
    refine R (cj e1 e2) ?_
    refine⟨fun h=>?_,fun h=>fun b y hb1 hb2=>?_⟩
    ·unfold sigG
     rw[if_neg (by simp[h0]),if_pos (nodup_map_not hltk hltj h)]
    ·by_cases e:b=k
     ·subst e;rw[e2]at hb2;cases hb2;exact h
     ·exact hIk b y (by omega) hb2
   ·refine R0 ?_
    intro a b x y h1 h2 h3 h4
    by_cases e:a=j
    ·subst e;rw[e1]at h3;cases h3;exact hIk b y (by omega) h4
    ·exact hIj a b x y h1 (by omega) h3 h4
  ·refine R0 ?_
   refine cv (by kernel_rfl) ?_
   refine R0 ?_
   have h7:(s.symbols.map (·.name)).Nodup:=nodup_map fun i j x y h1 h2 h3 h4=>hIj i j x y h1 (by omega) h3 h4
   have hg:sigG s=if s.symbols.any (fun x=>decide (x.arity=0))=true then 0 else 4:=by
    unfold sigG
    rw[if_neg (by simp[h0]),if_neg (by simp[h7])]
   rw[hg]
   refine jA (fun l=>∀b,b<l->∀y,s.symbols[b]? =some y->decide (y.arity=0)=false) (s.symbols.length) (fun l=>[(1,pt Bd),(3,iv s.symbols.length),(7,iv l)]) (by simp) (by simp only[go_sem,push_cast,qB,qA]) ?_
   intro l Bl hIl hil hBl
   refine cv (by kernel_rfl) ?_
   rcases xM l (s.symbols.length)with hltl|hgel
   ·have e2:s.symbols[l]? =some s.symbols[l]:=xA hltl
    refine R e2 ?_
    refine⟨fun h=>?_,fun h=>fun b hb1 y hb2=>?_⟩
    ·rw[if_pos (any_hit hltl (by simpa using h))]
    ·by_cases e:b=l
     ·subst e;rw[e2]at hb2;cases hb2;simpa using h
     ·simpa using hIl b (by omega) y hb2
   ·refine R0 ?_
    refine cv (by kernel_rfl) ?_
    refine R0 ?_
    rw[if_neg (by rw[vL fun j hj x hx=>hIl j (by omega) x hx];simp)]
def W170:qH:=fun g' H Bd K=>∃(data:List UInt8),g'=[lst data]/\((data.length<=1000000)/\K (.tuple #[.agg (enc ((rd2 data).1)).toArray,iv ((rd2 data).2)]) H Bd)
@[go_sem ↓] theorem W170_eq (a:List UInt8):W170 [lst a] H Bd K=((a.length<=1000000)/\K (.tuple #[.agg (enc ((rd2 a).1)).toArray,iv ((rd2 a).2)]) H Bd):=ex1 a rfl
theorem W170_ok:OK 170 W170:=by
 rintro _ H Bd K ⟨data,rfl,hpre,hK⟩
 refine yF pok (uA.uB W214_ok) [(7,[],[],(.k 7 (.grp true 21 23 2 [22,23] 24 none (.k 2 .nil) .nil))),(14,[0,1,2,3,4,5,6,7,8,9,10,11,12,13,14,15,16,17,18,19,20,21,22,23],[z0 0,z0 1,z0 2,z0 3,z0 4,z0 5,z0 6,z0 7,z0 8,z0 9,z0 10,z0 11,z0 12,z0 13,z0 14,z0 15,z0 16,z0 17,z0 18,z0 19,z0 20,⟨21,[20],[]⟩,z0 22,⟨23,[20],[]⟩], .nil)] _ hK func170 rfl (rs:=[.cell 2 51, .tmp 3]) rfl ntmps170 (by simp) call170 (by kernel_rfl) (fun ha hb=>tup_nb ⟨agg_nb _ _, .int _ _,trivial⟩) (fun hb ha=>?_)
 refine jF pok fun cv=>?_
 by_cases h0:data.length<1
 ·have e:rd2 data=(⟨[]⟩,0):=by unfold rd2;rw[if_pos h0]
  rw[e]
  exact R h0 trivial
 have e0:data[0]? =some (data[0]'(by omega)):=xA _
 have f0:data.getD 0 0=data[0]'(by omega):=getD_some e0
 have b0:((data[0]'(by omega)).toNat:Int)<=255:=by have:=(data[0]'(by omega)).toNat_lt;omega
 generalize hc:(data[0]'(by omega))=c at*
 have hN:rd2 data=match sp2 data (min c.toNat 7)with|none=>(⟨[]⟩,0)|some (l,p)=>if kE ⟨l⟩≠0 then(⟨[]⟩,0)else(⟨l⟩,(p:Int)):=by
  unfold rd2;rw[if_neg h0,f0];rfl
 refine R h0 ?_
 refine yM (X:=Nat×List GSymbol×Nat) hb (by omega) 1 [.m (Bd+2) 0] rfl (fun x=>x.1<=min c.toNat 7/\sp2 data x.1=some (x.2.1,x.2.2)) (fun x=>7-x.1) (fun Nx x=>[(0,lst data),(2,pt Bd),(4,pt (Bd+1)),(5,pt (Bd+2)),(6,iv x.2.2),(7,iv x.1)]) (fun Nx x=>[(Bd,⟨[sn],true⟩),(Bd+1,⟨[sn],true⟩),(Bd+2,⟨[sv Nx 2 x.2.1.length (x.2.1.length+1)],true⟩),(Nx,⟨qO x.2.1,true⟩)]) (0,[],1) (⟨xT _,rfl⟩) (fun Nx hNx=>(cant)) ?_
 intro Nx x hNx hIx hbx Fx hFx
 simp only[mem_cons,jC]at hbx ⊢
 refine cv (by kernel_rfl) ?_
 obtain⟨i,out,p⟩:=x
 obtain⟨i1,i2⟩:=hIx
 simp only at i1 i2
 obtain⟨l1,l2,l3,l4⟩:=sp2_len i2
 have l5:=l2 (by omega)
 by_cases hgo:i<min c.toNat 7
 ·have g1:(i:Int)<(c.toNat:Int):=by omega
  have g2:(i:Int)<=6:=by omega
  have hst:sp2 data (i+1)=if data.length<=p then none else if data.length<p+(data.getD p 0).toNat+2 then none
   else some (out++[⟨bstr ((data.drop (p+1)).take (data.getD p 0).toNat),((data.getD (p+1+(data.getD p 0).toNat) 0).toNat:Int)⟩],p+(data.getD p 0).toNat+2):=by
   conv=>lhs;unfold sp2
   rw[i2]
  by_cases hp:data.length<=p
  ·have hn:=sp2_none (by rw[hst,if_pos hp]) (min c.toNat 7) (show i+1<=_ by omega)
   have e:rd2 data=(⟨[]⟩,0):=by rw[hN,hn]
   rw[e]
   exact R (cj5 e0 hc g1 g2 hp) trivial
  have e1:data[p]? =some (data[p]'(by omega)):=xA _
  have f1:data.getD p 0=data[p]'(by omega):=getD_some e1
  have b1:((data[p]'(by omega)).toNat:Int)<=255:=by have:=(data[p]'(by omega)).toNat_lt;omega
  rw[if_neg hp,f1]at hst
  generalize hk:(data[p]'(by omega))=k at*
  by_cases hp2:data.length<p+k.toNat+2
  ·have hn:=sp2_none (by rw[hst,if_pos hp2]) (min c.toNat 7) (show i+1<=_ by omega)
   have e:rd2 data=(⟨[]⟩,0):=by rw[hN,hn]
   have hp2':(data.length:Int)<(p:Int)+(k.toNat:Int)+2:=by omega
   rw[e]
   exact R (cj8 e0 hc e1 hk g1 g2 hp hp2') trivial
  rw[if_neg hp2]at hst
  have hp2':¬(data.length:Int)<(p:Int)+(k.toNat:Int)+2:=by omega
  have e2:data[p+1+k.toNat]? =some (data[p+1+k.toNat]'(by omega)):=xA _
  have f2:data.getD (p+1+k.toNat) 0=data[p+1+k.toNat]'(by omega):=getD_some e2
  have b2:((data[p+1+k.toNat]'(by omega)).toNat:Int)<=255:=by have:=(data[p+1+k.toNat]'(by omega)).toNat_lt;omega
  rw[f2]at hst
  have c1:((p:Int)+1).toNat=p+1:=by omega
  have c2:((p:Int)+1+(k.toNat:Int)).toNat=p+1+k.toNat:=by omega
  have hdt:List.drop (p+1) (List.take (p+1+k.toNat) data)=List.take k.toNat (List.drop (p+1) data):=by rw[List.drop_take,Nat.add_sub_cancel_left]
  refine RA (cj12 e0 hc e1 hk e2 g1 g2 hp hp2' c1 c2 hdt) ?_
  refine hFx (i+1,out++[⟨bstr (List.take k.toNat (List.drop (p+1) data)),((data[p+1+k.toNat]'(by omega)).toNat:Int)⟩],p+k.toNat+2) _ _ _ ?_ ?_ (by simp only[go_sem,push_cast,qB,qA]) ((canf enc_GSymbol))
  ·show 7-(i+1)<7-i
   omega
  ·exact⟨show i+1<=_ by omega,hst⟩
 obtain rfl:i=min c.toNat 7:=by omega
 rw[i2]at hN
 simp only at hN
 have hsm:sm (⟨out⟩:GSignature):=⟨show out.length<=281474976710656 by omega,fun x hx=>⟨show x.name.size<=281474976710656 by have:=l4 x hx;omega,trivial⟩⟩
 by_cases g1:((min c.toNat 7:Nat):Int)<(c.toNat:Int)
 case' pos=>have g2:¬((min c.toNat 7:Nat):Int)<=6:=by omega
 case' neg=>have g2:True:=trivial
 all_goals
  refine R (cj4 e0 hc g1 g2) ?_
  refine Tr.to hb (by omega) 0 [] rfl (fun Nk=>[(0,lst data),(2,pt Bd),(4,pt (Bd+1)),(5,pt (Bd+2)),(6,iv p)]) (fun Nk=>[(Bd,⟨[sn],true⟩),(Bd+1,⟨[sn],true⟩),(Bd+2,⟨[lst out],true⟩)]) (fun Nk hNk=>(cant)) ?_
  intro Nk hNk hbk
  simp only[mem_cons,jC]at hbk ⊢
  refine cv (by kernel_rfl) ?_
  by_cases hf:kE ⟨out⟩=0
  ·rw[if_neg (by simpa using hf)]at hN
   rw[hN]
   exact R (cj hsm hf) trivial
  ·rw[if_pos hf]at hN
   rw[hN]
   exact R (cj hsm hf) trivial
def W216:qH:=fun g' H Bd K=>∃(n:Int),g'=[iv n]/\(K (.bool (isPg n)) H Bd)
@[go_sem ↓] theorem W216_eq (a:Int):W216 [iv a] H Bd K=(K (.bool (isPg a)) H Bd):=ex1 a rfl
theorem W216_ok:OK 216 W216:=by
 rintro _ H Bd K ⟨n,rfl,hK⟩
 refine fnp pok (uA.uB W81_ok) [] hK func216 ntmps216 call216 [.tmp 2] fun hb ha=>?_
 refine R0 ?_
 unfold isPg
 all_goals first|done|trivial|((try simp only[Cnp,Imp]);grind)
def W215:qH:=fun g' H Bd K=>∃(n:Int),g'=[iv n]/\(K (.bool (isRt n)) H Bd)
@[go_sem ↓] theorem W215_eq (a:Int):W215 [iv a] H Bd K=(K (.bool (isRt a)) H Bd):=ex1 a rfl
theorem W215_ok:OK 215 W215:=by
 rintro _ H Bd K ⟨n,rfl,hK⟩
 refine fnp pok (uA.uB W216_ok) [(1,[],[],(.k 3 (.grp false 5 7 2 [6,7] 8 none (.k 2 .nil) (.k 1 .nil))))] hK func215 ntmps215 call215 [.tmp 2] fun hb ha=>?_
 refine R0 ?_
 unfold isRt
 all_goals first|done|trivial|((try simp only[Cnp,Imp]);grind)
@[go_sem ↓] def BW171 (p:GSuper):Tq:=fun H Bd K=>((sm p)/\K (iv (yX p)) H Bd)
def W171:qH:=fun g' H Bd K=>∃(p:GSuper),g'=[.agg (enc p).toArray]/\BW171 p H Bd K
@[go_sem ↓] theorem W171_eq (a b c d e f:Int) (g:Bool) (h:List UInt8) (i:List GSymbol):W171 [.agg #[iv a,iv b,iv c,iv d,iv e,iv f, .bool g,lst h,lst i]] H Bd K=BW171 (GSuper.mk a b c d e f g h (GSignature.mk i)) H Bd K:=ex1 (GSuper.mk a b c d e f g h (GSignature.mk i)) rfl
theorem W171_ok:OK 171 W171:=by
 rintro _ H Bd K ⟨p,rfl,hpre,hK⟩
 refine fnp pok ((((uA.uB W81_ok).uB W215_ok).uB W216_ok).uB W214_ok) [(1,[],[],(.k 5 (.grp false 7 11 4 [8,9,10,11] 12 none (.k 4 .nil) .nil))),(3,[],[],(.k 5 (.grp false 17 21 4 [18,19,20,21] 22 none (.k 4 .nil) (.k 1 (.grp false 23 27 4 [24,25,26,27] 28 none (.k 4 .nil) (.k 1 (.grp false 29 33 4 [30,31,32,33] 34 none (.k 4 .nil) .nil))))))),(7,[],[],(.k 3 (.grp true 41 44 3 [42,43,44] 45 none (.k 3 .nil) (.k 1 (.grp false 46 65 19 [47,48,49,50,51,52,53,54,55,56,57,58,59,60,61,62,63,64,65] 66 none (.k 4 (.grp true 50 64 14 [51,52,53,54,55,56,57,58,59,60,61,62,63,64] 65 (some (46,false)) (.k 4 (.grp false 54 57 3 [55,56,57] 58 (some (50,true)) (.k 3 .nil) (.k 1 (.grp false 59 63 4 [60,61,62,63] 64 (some (50,true)) (.k 4 .nil) .nil)))) .nil)) .nil)))))] hK func171 ntmps171 call171 [.tmp 2] fun hb ha=>?_
 have hss:=hpre
 simp only[sm_GSuper]at hpre
 obtain⟨_,_,_,_,_,_,_,hc,hs⟩:=hpre
 have hlc:=qS hc
 by_cases g:((1<=p.gen/\p.gen<=60000)/\(1<=p.version/\p.version<=60000))/\isRt p.root=true/\isRt p.shadow=true/\isRt p.next_=true/\isPg p.theory=true
 case neg=>
  have e:yX p=3:=by unfold yX;rw[if_neg g]
  by_cases g1:1<=p.gen/\p.gen<=60000
  case neg=>
   refine R (cj3 hs e g1) ?_
   all_goals first|done|trivial|((try simp only[Cnp,Imp]);grind)
  by_cases g2:1<=p.version/\p.version<=60000
  case neg=>
   refine R (cj4 hs e g1 g2) ?_
   all_goals first|done|trivial|((try simp only[Cnp,Imp]);grind)
  by_cases g3:isRt p.root=true
  case neg=>simp (maxSteps:=2000000) (disch:=first|exact dq|fail) only[go_sem,push_cast,qB,qA,qL hb,qE hb,hs,e,g1,g2,g3]
  by_cases g4:isRt p.shadow=true
  case neg=>simp (maxSteps:=2000000) (disch:=first|exact dq|fail) only[go_sem,push_cast,qB,qA,qL hb,qE hb,hs,e,g1,g2,g3,g4]
  by_cases g5:isRt p.next_=true
  case neg=>simp (maxSteps:=2000000) (disch:=first|exact dq|fail) only[go_sem,push_cast,qB,qA,qL hb,qE hb,hs,e,g1,g2,g3,g4,g5]
  have g6:¬isPg p.theory=true:=fun h=>g ⟨⟨g1,g2⟩,g3,g4,g5,h⟩
  exact R (cj8 hs e g1 g2 g3 g4 g5 g6) trivial
 have hg:yX p=if 16<p.cursor.length then 2 else if(p.moving=true/\p.next_=0)\/(p.moving=false/\(p.shadow≠0\/p.next_≠0\/0<p.cursor.length))then 8 else kE p.symbols:=by unfold yX;rw[if_pos g]
 obtain⟨⟨g1,g2⟩,g3,g4,g5,g6⟩:=g
 by_cases g7:16<p.cursor.length
 ·rw[if_pos g7]at hg
  exact R (cj9 hs hg g1 g2 g3 g4 g5 g6 g7) trivial
 rw[if_neg g7]at hg
 have hz0:isRt 0=true:=rfl
 by_cases gm:p.moving=true
 ·have gm2:¬p.moving=false:=by simp[gm]
  by_cases g8:p.next_=0
  ·rw[if_pos (.inl ⟨gm,g8⟩)]at hg
   exact R (cj12 hs hg g1 g2 g3 g4 g5 g6 g7 hz0 gm g8) trivial
  ·rw[if_neg (fun h=>h.elim (fun h=>g8 h.2) fun h=>gm2 h.1)]at hg
   exact R (cj12 hs hg g1 g2 g3 g4 g5 g6 g7 hz0 gm g8) trivial
 ·have gm2:p.moving=false:=by simpa using gm
  by_cases g8:p.shadow=0
  case neg=>
   rw[if_pos (.inr ⟨gm2, .inl g8⟩)]at hg
   exact R (cj12 hs hg g1 g2 g3 g4 g5 g6 g7 hz0 gm2 g8) trivial
  by_cases g9:p.next_=0
  case neg=>
   rw[if_pos (.inr ⟨gm2, .inr (.inl g9)⟩)]at hg
   exact R (cj13 hs hg g1 g2 g3 g4 g5 g6 g7 hz0 gm2 g8 g9) trivial
  by_cases g10:0<p.cursor.length
  ·rw[if_pos (.inr ⟨gm2, .inr (.inr g10)⟩)]at hg
   exact R (cj14 hs hg g1 g2 g3 g4 g5 g6 g7 hz0 gm2 g8 g9 g10) trivial
  ·rw[if_neg (fun h=>h.elim (fun h=>gm h.1) fun h=>h.2.elim (fun h=>h g8) fun h=>h.elim (fun h=>h g9) g10)]at hg
   exact R (cj14 hs hg g1 g2 g3 g4 g5 g6 g7 hz0 gm2 g8 g9 g10) trivial
@[go_sem ↓] def BU130 (n:Int):Tq:=fun H Bd K=>((0<=n/\n<=65535)/\K (sv Bd 1 (jX n).length ((jX n).length+1)) (upd H Bd (some ⟨qO (jX n),true⟩)) (Bd+1))
def U130:qH:=fun g' H Bd K=>∃(n:Int),g'=[iv n]/\BU130 n H Bd K
@[go_sem ↓] theorem U130_eq (a:Int):U130 [iv a] H Bd K=BU130 a H Bd K:=ex1 a rfl
theorem U130_ok:OK 130 U130:=by
 rintro _ H Bd K ⟨n,rfl,hpre,hK⟩
 refine fn_own pok uA [] (sv Bd 1 (jX n).length ((jX n).length+1)) [qO (jX n)] hK func130 rfl (rs:=[.tmp 2]) rfl ntmps130 (by simp) call130 (by kernel_rfl) (fun cells hc v hv=>by simp only[wG,List.not_mem_nil,or_false]at hc;rcases hc with rfl <;>exact flat_nb _ _ _ hv) (fun hb ha=>?_)
 obtain⟨h1,h2⟩:=hpre
 have e1:n.tdiv 256=n/256:=Int.tdiv_eq_ediv_of_nonneg h1
 have e2:n.tmod 256=n%256:=Int.tmod_eq_emod_of_nonneg h1
 have e3:n%256%256=n%256:=by omega
 have hl:2=(jX n).length:=rfl
 simp (maxSteps:=2000000) (disch:=first|exact dq|fail) only[go_sem,push_cast,qB,qA,qL hb,qE hb,e1,e2,e3,<-pairB_flat n]
 all_goals (first|done|trivial|omega|simp)
def V131:qH:=fun g' H Bd K=>∃(s:GSignature),g'=[.agg (enc s).toArray]/\((sm s/\SigOK s)/\K (lst (sigB s)) H Bd)
@[go_sem ↓] theorem V131_eq (a:List GSymbol):V131 [.agg #[lst a]] H Bd K=((sm (GSignature.mk a)/\SigOK (GSignature.mk a))/\K (lst (sigB (GSignature.mk a))) H Bd):=ex1 (GSignature.mk a) rfl
def W131:qH:=fun g' H Bd K=>∃(ps:Value),g'=[ps]/\Yld (qI H 1 ps) fun cs=>qQ V131 [.agg cs.toArray] H Bd K
@[go_sem ↓] theorem W131_eq (a:Value):W131 [a] H Bd K=(Yld (qI H 1 a) fun cs=>qQ V131 (idS [.agg cs.toArray]) H Bd K):=px1 a
theorem W131_ok:OK 131 W131:=by
 rintro _ H Bd K ⟨ps,rfl,cs,es,h⟩
 obtain⟨s,e,hpre,hK⟩:=h
 simp only[xG,and_true]at e
 have Es:=e
 obtain rfl:=qR Es
 refine fnp pok uA [] hK func131 ntmps131 call131 [.tmp 2] fun hb ha=>?_
 have Ps:=qM es (NB.vpok (ha ps (by simp)))
 simp only[qN]at Ps
 have Zs:=Ps.all 1 rfl
 have Ys:=jE (ha ps (by simp))
 refine jF pok fun cv=>?_
 obtain⟨h1,hs⟩:=hpre
 have hlen:=hs.len
 refine RA Zs ?_
 refine yM (X:=Nat) hb (by omega) 1 [.s 3] rfl (fun x=>x<=s.symbols.length) (fun x=>s.symbols.length-x) (fun Nx x=>[(0,ps),(3,sv Nx 1 (sigA s x).length ((sigA s x).length+1)),(4,iv x)]) (fun Nx x=>[(Nx,⟨qO (sigA s x),true⟩)]) 0 (xT _) (fun Nx hNx=>(by simp (disch:=first|assumption|omega|(simp (disch:=omega) only[qG,qE hb];done)|(simp (disch:=first|omega|(simp (disch:=omega) only[qG,qE hb];done)) only[go_sem,push_cast,qB,qA,qG,qE hb];done)|fail) only[go_sem,push_cast,qB,qA,qU,qL hb,qG,qE hb,qZ,qK,qT,jS,jH,jB,jT,jK,xL,xD,xJ,xZ,Nat.zero_add,rq_nb (ha ps (by simp)),sigA_zero,jB,kZ]<;>exact cT)) ?_
 intro Nx x hNx hIx hbx Fx hFx
 simp only[mem_cons,jC]at hbx ⊢
 refine cv (by kernel_rfl) ?_
 rcases xM x s.symbols.length with hlt|hge
 ·have e1:s.symbols[x]? =some s.symbols[x]:=xA hlt
  have hl:=sigA_len (fun y hy=>(hs.nm y hy).1) x hIx
  have hnm:=zQ (hs.nm _ (xH hlt)).1
  have hst:=sigA_succ e1
  have hsl:(sigA s (x+1)).length=(sigA s x).length+1+s.symbols[x].name.size+1:=by
   rw[hst,xD];unfold symB
   simp only[xJ,xD,xZ,zA];omega
  simp (maxSteps:=2000000) (disch:=first|exact dq|fail) only[go_sem,push_cast,qB,qA,qL hb,qE hb,Zs,e1,zB,yK,HB.no hb,zA,take_lo,len_lo]
  refine hFx (x+1) _ _ _ ?_ ?_ (by simp only[go_sem,push_cast,qB,qA]) ((by simp (disch:=first|assumption|omega|(simp (disch:=omega) only[qG,qE hb];done)|(simp (disch:=first|omega|(simp (disch:=omega) only[qG,qE hb];done)) only[go_sem,push_cast,qB,qA,qG,qE hb];done)|fail) only[go_sem,push_cast,qB,qA,qU,qL hb,qG,qE hb,qZ,qK,qT,jS,jH,jB,jT,jK,xL,xD,xJ,xZ,Nat.zero_add,rq_nb (ha ps (by simp)),hst,hsl,zA,symB,kZ,jO,List.cons_append,List.nil_append,Nat.add_assoc]<;>exact cT))
  ·show s.symbols.length-(x+1)<s.symbols.length-x
   omega
  ·exact hlt
 ·obtain rfl:x=s.symbols.length:=Nat.le_antisymm hIx hge
  have hall:=sigA_all s
  refine R Zs ?_
  refine cv (by kernel_rfl) ?_
  refine R (cj Zs hall.symm) ?_
  exact qV (by simp (disch:=first|assumption|omega) only[go_sem,push_cast,qB,qA]) (hb.fresh _ (by omega)) rfl (by first|rfl|exact(yS _).symm|simp|omega)
theorem L132_pure:PureV W132:=by
 rintro _ H Bd K ⟨x0,rfl,hpre,hK⟩
 exact⟨_,by first|exact .bool _|exact .int _ _|exact .string _|exact vc_enc _,hK,fun H' K' hs h=>⟨x0,rfl,hpre,h⟩⟩
def L132:qH:=LendA W132
@[go_sem ↓] theorem L132_eq (a:Value):L132 [a] H Bd K=qQ W132 (idS [giveA H a]) H Bd K:=(rfl)
theorem L132_ok:OK 132 L132:=LendA_ok W132_ok L132_pure
@[go_sem ↓] def BV89 (p:GSuper):Tq:=fun H Bd K=>((sm p/\SuperOK p)/\K (lst (kW p)) H Bd)
def V89:qH:=fun g' H Bd K=>∃(p:GSuper),g'=[.agg (enc p).toArray]/\BV89 p H Bd K
@[go_sem ↓] theorem V89_eq (a b c d e f:Int) (g:Bool) (h:List UInt8) (i:List GSymbol):V89 [.agg #[iv a,iv b,iv c,iv d,iv e,iv f, .bool g,lst h,lst i]] H Bd K=BV89 (GSuper.mk a b c d e f g h (GSignature.mk i)) H Bd K:=ex1 (GSuper.mk a b c d e f g h (GSignature.mk i)) rfl
def W89:qH:=fun g' H Bd K=>∃(pp:Value),g'=[pp]/\Yld (qI H 9 pp) fun cp=>qQ V89 [.agg cp.toArray] H Bd K
@[go_sem ↓] theorem W89_eq (a:Value):W89 [a] H Bd K=(Yld (qI H 9 a) fun cp=>qQ V89 (idS [.agg cp.toArray]) H Bd K):=px1 a
theorem W89_ok:OK 89 W89:=by
 rintro _ H Bd K ⟨pp,rfl,cp,ep,h⟩
 obtain⟨p,e,hpre,hK⟩:=h
 simp only[xG,and_true]at e
 have Ep:=e
 obtain rfl:=qR Ep
 refine fnp pok (((uA.uB U130_ok).uB W131_ok).uB L132_ok) [(2,[0,1,2,3,4,5,6,7,8,9,10,11,12,13,14,15,16,17,18,19,20,21,22,23],[z0 0,z0 1,z0 2,z0 3,z0 4,z0 5,z0 6,z0 7,z0 8,z0 9,z0 10,z0 11,z0 12,z0 13,z0 14,z0 15,z0 16,z0 17,z0 18,z0 19,z0 20,z0 21,⟨22,[21],[]⟩,z0 23], .nil)] hK func89 ntmps89 call89 [.tmp 2] fun hb ha=>?_
 have Pp:=qM ep (NB.vpok (ha pp (by simp)))
 simp only[qN,vQ]at Pp
 have Zp:=Pp.all 9 rfl
 have Yp:=jE (ha pp (by simp))
 refine jF pok fun cv=>?_
 obtain⟨h1,hS⟩:=hpre
 simp only[sm_GSuper]at h1
 obtain⟨_,_,_,_,_,_,_,hc,hs⟩:=h1
 have hg:=hS.gen
 have hv:=hS.ver
 have hcl:=hS.cur
 have hk:=yT hS.sig
 have hsl:=sigB_len hk
 have hHl:=supH_len (p:=p)
 have hPl:=supP_len hS
 have pg:=jQ p.gen
 have pv:=jQ p.version
 have pq:=jQ (sumB 29 (supP p))
 have hsr:=sum_rg (supP p)
 have hsmP:sm (supP p):=⟨by omega,fun _ _=>trivial⟩
 have hPx:∀m:Int,m=((movB p).toNat:Int)->qO (jX p.gen)++[Value.int .u8 (p.root%256),Value.int .u8 (p.shadow%256),Value.int .u8 (p.theory%256),Value.int .u8 (p.next_%256)]++qO (jX p.version)++[Value.int .u8 m,Value.int .u8 ((p.cursor.length:Int)%256)]++qO p.cursor++qO (sigB p.symbols)=qO (supH p):=fun m hm=>by
  subst hm
  unfold supH
  simp only[qK,jO,qZ,jB,kZ,xL,List.cons_append,List.nil_append]
 by_cases hm:p.moving=true
 case' pos=>have hP:=hPx 1 (by unfold movB;rw[if_pos hm];rfl)
 case' neg=>have hP:=hPx 0 (by unfold movB;rw[if_neg hm];rfl)
 all_goals
  refine RL (cj6 Zp hs hk hm jQ hP) ?_
  refine yM (X:=Nat) hb (by omega) 1 [.s 3] rfl (fun x=>x<=92-(supH p).length) (fun x=>92-(supH p).length-x) (fun Nx x=>[(0,pp),(3,sv Nx 1 (supH p++List.replicate x (0:UInt8)).length ((supH p++List.replicate x (0:UInt8)).length+1))]) (fun Nx x=>[(Nx,⟨qO (supH p++List.replicate x (0:UInt8)),true⟩)]) 0 (xT _) (fun Nx hNx=>(canf (cj Yp hHl))) ?_
  intro Nx x hNx hIx hbx Fx hFx
  simp only[mem_cons,jC]at hbx ⊢
  refine cv (by kernel_rfl) ?_
  have hxl:(supH p++List.replicate x (0:UInt8)).length=(supH p).length+x:=by rw[xD,List.length_replicate]
  by_cases hlt:(supH p++List.replicate x (0:UInt8)).length<92
  ·refine RA (cj Zp hlt) ?_
   refine hFx (x+1) _ _ _ ?_ ?_ (by simp only[go_sem,push_cast,qB,qA]) ((by simp (disch:=first|assumption|omega|(simp (disch:=omega) only[qG,qE hb];done)|(simp (disch:=first|omega|(simp (disch:=omega) only[qG,qE hb];done)) only[go_sem,push_cast,qB,qA,qG,qE hb];done)|fail) only[go_sem,push_cast,qB,qA,qU,qL hb,qG,qE hb,qZ,qK,qT,jS,jH,jB,jT,jK,xL,xD,xJ,xZ,Nat.zero_add,rq_nb (ha pp (by simp)),List.replicate_succ',List.length_replicate]<;>exact cT))
   ·show 92-(supH p).length-(x+1)<92-(supH p).length-x
    omega
   ·show x+1<=92-(supH p).length
    omega
  ·obtain rfl:x=92-(supH p).length:=by omega
   have hQ:supH p++List.replicate (92-(supH p).length) (0:UInt8)=supP p:=rfl
   refine R (cj Zp hlt) ?_
   rw[hQ]at hxl ⊢
   refine cv (by kernel_rfl) ?_
   refine RL (cj4 Zp jQ hPl hsmP) ?_
   unfold kW
   exact qV (by simp (disch:=first|assumption|omega) only[go_sem,push_cast,qB,qA,qK,qT,jS,jH,jB,jT,jK,xL,List.cons_append,List.nil_append]) (hb.fresh _ (by omega)) rfl (lenS hPl)
def W122:qH:=fun g' H Bd K=>∃(data:List UInt8),g'=[lst data]/\((data.length=96)/\K (.tuple #[.agg (enc ((rdS data).1)).toArray,iv ((rdS data).2)]) H Bd)
@[go_sem ↓] theorem W122_eq (a:List UInt8):W122 [lst a] H Bd K=((a.length=96)/\K (.tuple #[.agg (enc ((rdS a).1)).toArray,iv ((rdS a).2)]) H Bd):=ex1 a rfl
theorem W122_ok:OK 122 W122:=by
 rintro _ H Bd K ⟨data,rfl,hpre,hK⟩
 refine yF pok ((((((uA.uB W132_ok).uB W130_ok).uB W129_ok).uB W170_ok).uB W171_ok).uB W89_ok) [(3,[0,1,2,3,4,5,6,7,8,9,10,11,12,13,14,15,16,17,18,19],[z0 0,z0 1,z0 2,z0 3,z0 4,z0 5,z0 6,z0 7,z0 8,z0 9,z0 10,z0 11,z0 12,z0 13,z0 14,z0 15,z0 16,z0 17,z0 18,z0 19], .nil),(5,[0,1,2,3,7,8,9,10,11,12,13,4,5,6,14],[z0 0,z0 1,z0 2,z0 3,z0 7,z0 8,z0 9,z0 10,z0 11,z0 12,z0 13,⟨4,[],[13]⟩,⟨5,[],[13]⟩,z0 6,z0 14], .nil),(7,[0,1,2,3,4,5,6,7,8,9,10,11,12,13,14,15,16,17,18,19,20,21,22,23,24,25,26,27,28,29,30,31,32,33,34,35,36,37,38,39,40,41,42],[z0 0,z0 1,z0 2,z0 3,z0 4,z0 5,z0 6,z0 7,z0 8,z0 9,z0 10,z0 11,z0 12,z0 13,z0 14,z0 15,z0 16,z0 17,z0 18,z0 19,z0 20,z0 21,z0 22,z0 23,z0 24,z0 25,z0 26,z0 27,z0 28,z0 29,z0 30,z0 31,z0 32,z0 33,z0 34,z0 35,z0 36,z0 37,z0 38,z0 39,z0 40,z0 41,⟨42,[41],[]⟩], .nil),(16,[0,1,2,3,6,7,4,5,8,9],[z0 0,z0 1,z0 2,z0 3,z0 6,z0 7,⟨4,[],[7]⟩,z0 5,z0 8,z0 9], .nil)] _ hK func122 rfl (rs:=[.cell 2 53, .tmp 3]) rfl ntmps122 (by simp) call122 (by kernel_rfl) (fun ha hb=>tup_nb ⟨agg_nb _ _, .int _ _,trivial⟩) (fun hb ha=>?_)
 have g0:data[0]? =some (data[0]'(by omega)):=xA _
 have g1:data[1]? =some (data[1]'(by omega)):=xA _
 have g2:data[2]? =some (data[2]'(by omega)):=xA _
 have g3:data[3]? =some (data[3]'(by omega)):=xA _
 have g4:data[4]? =some (data[4]'(by omega)):=xA _
 have g5:data[5]? =some (data[5]'(by omega)):=xA _
 have g6:data[6]? =some (data[6]'(by omega)):=xA _
 have g7:data[7]? =some (data[7]'(by omega)):=xA _
 have g8:data[8]? =some (data[8]'(by omega)):=xA _
 have g9:data[9]? =some (data[9]'(by omega)):=xA _
 have g94:data[94]? =some (data[94]'(by omega)):=xA _
 have g95:data[95]? =some (data[95]'(by omega)):=xA _
 have hz:∀i (h:i<data.length),data.getD i 0=data[i]:=fun i h=>getD_some (xA h)
 have hby:∀b:UInt8,((b.toNat:Int))<=255:=fun b=>by have:=b.toNat_lt;omega
 have hb6:∀b:UInt8,(b.toNat:Int)<=9223372036854775807:=fun b=>by have:=b.toNat_lt;omega
 have w0:=hby (data[0]'(by omega))
 have w1:=hby (data[1]'(by omega))
 have w6:=hby (data[6]'(by omega))
 have w7:=hby (data[7]'(by omega))
 have hsm92:sm (List.take 92 data):=⟨by rw[xQ];omega,fun _ _=>trivial⟩
 have hsr:=sum_rg (List.take 92 data)
 have hd92:List.drop 92 (List.take 94 data)=List.take 2 (List.drop 92 data):=by rw[List.drop_take]
 by_cases h1:data.getD 94 0=data.getD 0 0/\data.getD 95 0=data.getD 1 0
 case neg=>
  have e:rdS data=(yD,8):=by unfold rdS;rw[if_pos h1]
  rw[e];unfold yD
  rw[hz 94 (by omega),hz 0 (by omega),hz 95 (by omega),hz 1 (by omega)]at h1
  by_cases h2:(data[94]'(by omega))=(data[0]'(by omega))
  ·have h3:¬(data[95]'(by omega))=(data[1]'(by omega)):=fun h=>h1 ⟨h2,h⟩
   exact R (cj7 hpre g0 g1 g94 g95 h2 h3) trivial
  ·exact R (cj6 hpre g0 g1 g94 g95 h2) trivial
 have hR1:rdS data=if jX (sumB 29 (data.take 92))≠(data.drop 92).take 2 then(yD,11)else rdS5 data:=by unfold rdS;rw[if_neg (fun h=>h h1)]
 rw[hz 94 (by omega),hz 0 (by omega),hz 95 (by omega),hz 1 (by omega)]at h1
 obtain⟨h2,h3⟩:=h1
 by_cases h4:jX (sumB 29 (List.take 92 data))=List.take 2 (List.drop 92 data)
 case neg=>
  rw[if_pos h4]at hR1
  rw[hR1];unfold yD
  exact R (cj10 hpre g0 g1 g94 g95 h2 h3 hsm92 hd92 h4) trivial
 rw[if_neg (by simpa using h4)]at hR1
 rw[hR1]
 by_cases h5:16<(data[9]'(by omega)).toNat
 ·have e:rdS5 data=(yD,5):=rdS5_no fun p hp=>by have:=sup9 hp;rw[hz 9 (by omega)]at this;omega
  have h5':(16:Int)<((data[9]'(by omega)).toNat:Int):=by omega
  rw[e];unfold yD
  exact R (cj20 hpre g0 g1 g2 g3 g4 g5 g6 g7 g8 g9 g94 g95 hb6 h2 h3 hsm92 hd92 h4 h5') trivial
 have h5':¬(16:Int)<((data[9]'(by omega)).toNat:Int):=by omega
 have hF:=supS_fin (data:=data) (by rw[hz 9 (by omega)];omega)
 rw[hz 9 (by omega)]at hF
 have c9:((10:Int)+((data[9]'(by omega)).toNat:Int)).toNat=10+(data[9]'(by omega)).toNat:=by omega
 have hdt:List.drop 10 (List.take (10+(data[9]'(by omega)).toNat) data)=List.take (data[9]'(by omega)).toNat (List.drop 10 data):=by rw[List.drop_take,Nat.add_sub_cancel_left]
 have hcl:(List.take (data[9]'(by omega)).toNat (List.drop 10 data)).length<=16:=by rw[xQ];omega
 have hcl2:(List.take (data[9]'(by omega)).toNat (List.drop 10 data)).length<=1000000:=by omega
 have hdl:(List.drop (10+(data[9]'(by omega)).toNat) (List.take 92 data)).length<=1000000:=by rw[xI,xQ];omega
 generalize hD:List.drop (10+(data[9]'(by omega)).toNat) (List.take 92 data)=D at*
 generalize hCu:List.take (data[9]'(by omega)).toNat (List.drop 10 data)=cur at*
 by_cases h6:(rd2 D).2=0
 ·have e:rdS5 data=(yD,5):=rdS5_no fun p hp=>(hF p hp).1 h6
  rw[e];unfold yD
  exact R (cj20 hpre g0 g1 g2 g3 g4 g5 g6 g7 g8 g9 g94 g95 hb6 h2 h3 hsm92 hd92 h4 (cj8 h5' c9 hdt hcl2 hD hCu hdl h6)) trivial
 have hsf:=rd2_ok h6
 have hC:=candS_eq data cur (rd2 D).1
 simp only[b8,hz 0 (by omega),hz 1 (by omega),hz 2 (by omega),hz 3 (by omega),hz 4 (by omega),hz 5 (by omega),hz 6 (by omega),hz 7 (by omega),hz 8 (by omega)]at hC
 have hL:=supS_last (data:=data) (cur:=cur) (sy:=(rd2 D).1) rfl fun p hp=>(hF p hp).2
 have hss:=(yT hsf)
 have hsmC:sm (candS data cur (rd2 D).1):=by
  refine⟨trivial,trivial,trivial,trivial,trivial,trivial,trivial,⟨show cur.length<=281474976710656 by omega,fun _ _=>trivial⟩,?_⟩
  show sm (rd2 D).1
  exact⟨show(rd2 D).1.symbols.length<=281474976710656 by have:=hss.len;omega,fun x hx=>⟨show x.name.size<=281474976710656 by have:=zQ (hss.nm x hx).1;omega,trivial⟩⟩
 generalize hK:candS data cur (rd2 D).1=C at*
 by_cases h7:yX C=0
 case neg=>
  rw[hL.2 (.inl h7)];unfold yD
  exact R (cj20 hpre g0 g1 g2 g3 g4 g5 g6 g7 g8 g9 g94 g95 hb6 h2 h3 hsm92 hd92 h4 (cj11 h5' c9 hdt hcl2 hD hCu hdl h6 hC.symm hsmC h7)) trivial
 have hSC:=kJ h7
 by_cases h8:kW C=data
 ·rw[hL.1 h7 h8]
  refine R (cj20 hpre g0 g1 g2 g3 g4 g5 g6 g7 g8 g9 g94 g95 hb6 h2 h3 hsm92 hd92 h4 (cj13 h5' c9 hdt hcl2 hD hCu hdl h6 hC.symm hsmC hSC h7 h8)) ?_
  subst hC
  exact R0 trivial
 ·rw[hL.2 (.inr h8)];unfold yD
  exact R (cj20 hpre g0 g1 g2 g3 g4 g5 g6 g7 g8 g9 g94 g95 hb6 h2 h3 hsm92 hd92 h4 (cj13 h5' c9 hdt hcl2 hD hCu hdl h6 hC.symm hsmC hSC h7 h8)) trivial
@[go_sem ↓] def BV82 (d:GDisk):Tq:=fun H Bd K=>((sm d/\DiskOK d)/\K (.tuple #[.agg (enc ((jL d).1)).toArray,iv ((jL d).2)]) H Bd)
def V82:qH:=fun g' H Bd K=>∃(d:GDisk),g'=[.agg (enc d).toArray]/\BV82 d H Bd K
@[go_sem ↓] theorem V82_eq (a:List (List UInt8)) (b:List GPut):V82 [.agg #[lst a,lst b]] H Bd K=BV82 (GDisk.mk a b) H Bd K:=ex1 (GDisk.mk a b) rfl
def W82:qH:=fun g' H Bd K=>∃(pd:Value),g'=[pd]/\Yld (qI H 2 pd) fun cd=>qQ V82 [.agg cd.toArray] H Bd K
@[go_sem ↓] theorem W82_eq (a:Value):W82 [a] H Bd K=(Yld (qI H 2 a) fun cd=>qQ V82 (idS [.agg cd.toArray]) H Bd K):=px1 a
theorem W82_ok:OK 82 W82:=by
 rintro _ H Bd K ⟨pd,rfl,cd,ed,h⟩
 obtain⟨d,e,hpre,hK⟩:=h
 simp only[xG,and_true]at e
 have Ed:=e
 obtain rfl:=qR Ed
 refine yF pok (uA.uB W122_ok) [(8,[],[],(.k 3 (.grp true 33 38 5 [34,35,36,37,38] 39 none (.k 5 .nil) (.k 1 (.grp true 40 45 5 [41,42,43,44,45] 46 none (.k 5 .nil) .nil)))))] _ hK func82 rfl (rs:=[.cell 2 53, .tmp 3]) rfl ntmps82 (by simp) call82 (by kernel_rfl) (fun ha hb=>tup_nb ⟨agg_nb _ _, .int _ _,trivial⟩) (fun hb ha=>?_)
 have Pd:=qM ed (NB.vpok (ha pd (by simp)))
 simp only[jR]at Pd
 have Zd:=Pd.all 2 rfl
 have Yd:=jE (ha pd (by simp))
 refine jF pok fun cv=>?_
 obtain⟨h1,h2⟩:=hpre
 have hsl:=h2.len
 by_cases hp:0<d.pending.length
 ·have e:jL d=(yD,8):=by unfold jL;rw[if_pos hp]
  rw[e];unfold yD
  exact R (cj Zd hp) trivial
 refine R (cj Zd hp) ?_
 refine yM (X:=Nat) hb (by omega) 0 [] rfl (fun x=>x<=2) (fun x=>2-x) (fun Nx x=>[(0,pd),(2,pt Bd),(4,pt (Bd+1)),(5,iv x)]) (fun Nx x=>[(Bd,⟨[iv 0,iv 0,iv 0,iv 0,iv 0,iv 0, .bool false,sn,sn],true⟩),(Bd+1,⟨[iv (opB d x).gen,iv (opB d x).root,iv (opB d x).shadow,iv (opB d x).theory,iv (opB d x).next_,iv (opB d x).version, .bool (opB d x).moving,lst (opB d x).cursor,lst (opB d x).symbols.symbols],true⟩)]) 0 (xT _) (fun Nx hNx=>(by simp (disch:=first|assumption|omega|(simp (disch:=omega) only[qG,qE hb];done)|(simp (disch:=first|omega|(simp (disch:=omega) only[qG,qE hb];done)) only[go_sem,push_cast,qB,qA,qG,qE hb];done)|fail) only[go_sem,push_cast,qB,qA,qU,qL hb,qG,qE hb,qZ,qK,qT,jS,jH,jB,jT,jK,xL,xD,xJ,xZ,Nat.zero_add,rq_nb (ha pd (by simp)),opB_zero,yD]<;>exact cT)) ?_
 intro Nx x hNx hIx hbx Fx hFx
 simp only[mem_cons,jC]at hbx ⊢
 refine cv (by kernel_rfl) ?_
 have hlt:x<2->x<d.sectors.length:=fun h=>by omega
 by_cases hx:x<2
 ·have e1:d.sectors[x]? =some (d.sectors[x]'(hlt hx)):=xA _
  have f1:d.sectors.getD x []=d.sectors[x]'(hlt hx):=getD_some e1
  have hsec:(d.sectors[x]'(hlt hx)).length=96:=h2.sec _ (xH _)
  have hst:opB d (x+1)=if(rdS (d.sectors.getD x [])).2=0/\(rdS (d.sectors.getD x [])).1.gen%2=(x:Int)/\(opB d x).gen<(rdS (d.sectors.getD x [])).1.gen then(rdS (d.sectors.getD x [])).1 else opB d x:=rfl
  rw[f1]at hst
  generalize hD:(d.sectors[x]'(hlt hx))=D at*
  have hsD:sm D:=⟨by omega,fun _ _=>trivial⟩
  have hRD:rdSR D=⟨(rdS D).2,(rdS D).1⟩:=by unfold rdSR;rw[if_neg (by simpa using hsec)]
  generalize hQ:(rdS D).1=Q at*
  have hx':(x:Int)<2:=by omega
  by_cases hc:(rdS D).2=0
  case neg=>
   rw[if_neg (fun h=>hc h.1)]at hst
   refine R (cj8 Zd e1 hsec hsD hRD hQ hx' hc) ?_
   refine hFx (x+1) _ _ _ ?_ ?_ (by simp only[go_sem,push_cast,qB,qA]) ((canf (cj Yd hst)))
   ·show 2-(x+1)<2-x
    omega
   ·show x+1<=2
    omega
  have hg:=(kJ (by rw[<-hQ];exact rdS_ok hc:yX Q=0)).gen
  have htm:Q.gen.tmod 2=Q.gen%2:=Int.tmod_eq_emod_of_nonneg (by omega)
  by_cases hm:Q.gen%2=(x:Int)
  case neg=>
   rw[if_neg (fun h=>hm h.2.1)]at hst
   refine R (cj10 Zd e1 hsec hsD hRD hQ hx' hc htm hm) ?_
   refine hFx (x+1) _ _ _ ?_ ?_ (by simp only[go_sem,push_cast,qB,qA]) ((canf (cj Yd hst)))
   ·show 2-(x+1)<2-x
    omega
   ·show x+1<=2
    omega
  by_cases hgt:(opB d x).gen<Q.gen
  case neg=>
   rw[if_neg (fun h=>hgt h.2.2)]at hst
   refine R (cj11 Zd e1 hsec hsD hRD hQ hx' hc htm hm hgt) ?_
   refine hFx (x+1) _ _ _ ?_ ?_ (by simp only[go_sem,push_cast,qB,qA]) ((canf (cj Yd hst)))
   ·show 2-(x+1)<2-x
    omega
   ·show x+1<=2
    omega
  rw[if_pos ⟨hc,hm,hgt⟩]at hst
  refine R (cj11 Zd e1 hsec hsD hRD hQ hx' hc htm hm hgt) ?_
  refine hFx (x+1) _ _ _ ?_ ?_ (by simp only[go_sem,push_cast,qB,qA]) ((canf (cj Yd hst)))
  ·show 2-(x+1)<2-x
   omega
  ·show x+1<=2
   omega
 obtain rfl:x=2:=by omega
 have e0:jL d=if(opB d 2).gen=0 then(yD,4)else(opB d 2,0):=by unfold jL;rw[if_neg hp]
 refine R Zd ?_
 refine cv (by kernel_rfl) ?_
 by_cases hg:(opB d 2).gen=0
 ·rw[if_pos hg]at e0
  rw[e0];unfold yD
  exact R (cj Zd hg) trivial
 ·rw[if_neg hg]at e0
  rw[e0]
  exact R (cj Zd hg) trivial
def W124:qH:=fun g' H Bd K=>∃(l:List Int) (n:Int),g'=[lst l,iv n]/\((sm l)/\K (.bool (hasI l n)) H Bd)
@[go_sem ↓] theorem W124_eq (a:List Int) (b:Int):W124 [lst a,iv b] H Bd K=((sm a)/\K (.bool (hasI a b)) H Bd):=ex2 a b rfl
theorem W124_ok:OK 124 W124:=by
 rintro _ H Bd K ⟨l,n,rfl,hpre,hK⟩
 refine fnp pok uA [] hK func124 ntmps124 call124 [.tmp 4] fun hb ha=>?_
 refine jF pok fun cv=>?_
 have hlen:=qS hpre
 refine R0 ?_
 refine jA (fun i=>∀j,j<i->∀x,l[j]? =some x->decide (x=n)=false) (l.length) (fun i=>[(0,lst l),(1,iv n),(5,iv i)]) (by simp) (by simp only[go_sem,push_cast,qB,qA]) ?_
 intro i Bi hIi hii hBi
 refine cv (by kernel_rfl) ?_
 rcases xM i (l.length)with hlti|hgei
 ·have e1:l[i]? =some l[i]:=xA hlti
  refine R e1 ?_
  unfold hasI
  refine⟨fun h=>?_,fun h=>fun j hj x hx=>?_⟩
  ·rw[any_hit hlti (by simpa using h)]
  ·by_cases e:j=i
   ·subst e;rw[e1]at hx;cases hx;simpa using h
   ·simpa using hIi j (by omega) x hx
 ·refine R0 ?_
  refine cv (by kernel_rfl) ?_
  refine R0 ?_
  unfold hasI
  rw[vL fun j hj x hx=>hIi j (by omega) x hx]
def V174:qH:=fun g' H Bd K=>∃(d:GDisk) (n:Int),g'=[.agg (enc d).toArray,iv n]/\((sm d)/\K (iv (waitD d n)) H Bd)
@[go_sem ↓] theorem V174_eq (a:List (List UInt8)) (b:List GPut) (c:Int):V174 [.agg #[lst a,lst b],iv c] H Bd K=((sm (GDisk.mk a b))/\K (iv (waitD (GDisk.mk a b) c)) H Bd):=ex2 (GDisk.mk a b) c rfl
def W174:qH:=fun g' H Bd K=>∃(pd vn:Value),g'=[pd,vn]/\Yld (qI H 2 pd) fun cd=>qQ V174 [.agg cd.toArray,vn] H Bd K
@[go_sem ↓] theorem W174_eq (a b:Value):W174 [a,b] H Bd K=(Yld (qI H 2 a) fun cd=>qQ V174 (idS [.agg cd.toArray,b]) H Bd K):=px2 a b
theorem W174_ok:OK 174 W174:=by
 rintro _ H Bd K ⟨pd,vn,rfl,cd,ed,h⟩
 obtain⟨d,n,e,hpre,hK⟩:=h
 simp only[xG,and_true]at e
 obtain⟨Ed,rfl⟩:=e
 obtain rfl:=qR Ed
 refine fnp pok uA [] hK func174 ntmps174 call174 [.tmp 4] fun hb ha=>?_
 have Pd:=qM ed (NB.vpok (ha pd (by simp)))
 simp only[jR]at Pd
 have Zd:=Pd.all 2 rfl
 have Yd:=jE (ha pd (by simp))
 refine jF pok fun cv=>?_
 simp only[sm_GDisk]at hpre
 have hlen:=qS hpre.2
 refine R Zd ?_
 refine jA (fun i=>∀j,j<i->∀x,d.pending[j]? =some x->decide (x.sector=n)=false) (d.pending.length) (fun i=>[(0,pd),(1,iv n),(5,iv i)]) (by simp) (by simp only[go_sem,push_cast,qB,qA]) ?_
 intro i Bi hIi hii hBi
 refine cv (by kernel_rfl) ?_
 rcases xM i (d.pending.length)with hlti|hgei
 ·have e1:d.pending[i]? =some d.pending[i]:=xA hlti
  refine R (cj Zd e1) ?_
  unfold waitD
  exact⟨fun h=>by rw[zC hlti hIi (by simpa using h)],fun h=>fun j hj x hx=>by
   by_cases e:j=i
   ·subst e;rw[e1]at hx;cases hx;simpa using h
   ·simpa using hIi j (by omega) x hx⟩
 ·refine R Zd ?_
  refine cv (by kernel_rfl) ?_
  refine R Zd ?_
  unfold waitD
  rw[vY fun j hj x hx=>hIi j (by omega) x hx]
@[go_sem ↓] def BV126 (d:GDisk) (n:Int):Tq:=fun H Bd K=>((sm d/\DiskOK d/\0<=n/\n<d.sectors.length)/\K (lst (yH d n)) H Bd)
def V126:qH:=fun g' H Bd K=>∃(d:GDisk) (n:Int),g'=[.agg (enc d).toArray,iv n]/\BV126 d n H Bd K
@[go_sem ↓] theorem V126_eq (a:List (List UInt8)) (b:List GPut) (c:Int):V126 [.agg #[lst a,lst b],iv c] H Bd K=BV126 (GDisk.mk a b) c H Bd K:=ex2 (GDisk.mk a b) c rfl
def W126:qH:=fun g' H Bd K=>∃(pd vn:Value),g'=[pd,vn]/\Yld (qI H 2 pd) fun cd=>qQ V126 [.agg cd.toArray,vn] H Bd K
@[go_sem ↓] theorem W126_eq (a b:Value):W126 [a,b] H Bd K=(Yld (qI H 2 a) fun cd=>qQ V126 (idS [.agg cd.toArray,b]) H Bd K):=px2 a b
theorem W126_ok:OK 126 W126:=by
 rintro _ H Bd K ⟨pd,vn,rfl,cd,ed,h⟩
 obtain⟨d,n,e,hpre,hK⟩:=h
 simp only[xG,and_true]at e
 obtain⟨Ed,rfl⟩:=e
 obtain rfl:=qR Ed
 refine fnp pok (uA.uB W174_ok) [] hK func126 ntmps126 call126 [.tmp 4] fun hb ha=>?_
 have Pd:=qM ed (NB.vpok (ha pd (by simp)))
 simp only[jR]at Pd
 have Zd:=Pd.all 2 rfl
 have Yd:=jE (ha pd (by simp))
 obtain⟨h1,h2,h3,h4⟩:=hpre
 by_cases hw:0<=waitD d n
 ·have hlt:=wait_lt hw
  have e1:d.pending[(waitD d n).toNat]? =some d.pending[(waitD d n).toNat]:=xA hlt
  have hr:yH d n=d.pending[(waitD d n).toNat].bytes:=by unfold yH;rw[if_pos hw,e1];rfl
  exact R (cj5 Zd h1 hw e1 hr) trivial
 ·have hlt:n.toNat<d.sectors.length:=by omega
  have e1:d.sectors[n.toNat]? =some d.sectors[n.toNat]:=xA hlt
  have hr:yH d n=d.sectors[n.toNat]:=by unfold yH;rw[if_neg hw,e1];rfl
  exact R (cj5 Zd h1 hw e1 hr) trivial
end Go.Proofs.YtogofkjpbpgneaaGreatDoor
