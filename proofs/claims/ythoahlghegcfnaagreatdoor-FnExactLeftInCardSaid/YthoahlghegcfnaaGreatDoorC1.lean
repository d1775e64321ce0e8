/- YthoahlghegcfnaaGreatDoorC1 -/
import Derived.Test.YthoahlghegcfnaaGreatDoorLfLib
set_option linter.unusedSimpArgs false
set_option linter.unusedVariables false
set_option maxRecDepth 20000
namespace Go.Proofs.YthoahlghegcfnaaGreatDoor
open Go Go.SC
variable {H:AH} {Bd:Nat} {K:Value→AH→Nat→Prop}
def W48:qJ:=fun args H Bd K=>∃(xs:List UInt8) (left:Int),args=[lst xs, .int .i64 left]∧((sm xs∧ -1≤left∧left≤1048576)∧K (.int .i64 (szP (tot xs) left)) H Bd)
@[go_sem ↓] theorem W48_eq (xs:List UInt8) (left:Int):W48 [lst xs, .int .i64 left] H Bd K=((sm xs∧ -1≤left∧left≤1048576)∧K (.int .i64 (szP (tot xs) left)) H Bd):=ex2 xs left rfl
theorem W48_ok:OK 48 W48:=by
 rintro args H Bd K ⟨xs,left,rfl,hpre,hK⟩
 refine fnp pok (Env.base _) [] hK Tryz.func48 Tryz.ntmps48 Tryz.call48 [.tmp 4] fun hb ha=> ?_
 obtain⟨h1,h2,h3⟩:=hpre
 have hlen:=qY h1
 have e:tot xs=xs.length:=by simp
 rw[e]
 simp (maxSteps:=2000000) (disch:=first|assumption|(refine qI ?_;assumption)|exact Nat.le_add_right _ _|exact Nat.le_refl _|omega|(simp (disch:=first|exact Nat.le_add_right _ _|omega) only[qG hb,qR hb,qM,qE hb,qC];done)|fail) only[go_sem,push_cast,qB,qA,qG hb,qE hb]
 unfold szP
 exact Cnp.of (fun h=>by rw[if_pos h]) (fun h=>by rw[if_neg h])
def W46:qJ:=fun args H Bd K=>∃(xs:List (List UInt8)) (left:Int),args=[lst xs, .int .i64 left]∧((sm xs∧0≤left∧left≤1048576)∧K (.int .i64 (szP (tot xs) left)) H Bd)
@[go_sem ↓] theorem W46_eq (xs:List (List UInt8)) (left:Int):W46 [lst xs, .int .i64 left] H Bd K=((sm xs∧0≤left∧left≤1048576)∧K (.int .i64 (szP (tot xs) left)) H Bd):=ex2 xs left rfl
theorem W46_ok:OK 46 W46:=by
 rintro args H Bd K ⟨xs,left,rfl,hpre,hK⟩
 refine fnp pok ((Env.base _).add 48 _ W48_ok) [] hK Tryz.func46 Tryz.ntmps46 Tryz.call46 [.tmp 4] fun hb ha=> ?_
 refine jH pok fun cv=> ?_
 obtain⟨h1,h2,h3⟩:=hpre
 have hlen:=qY h1
 have e:tot xs=xs.length+(xs.map tot).sum:=tot_list xs
 simp (maxSteps:=2000000) (disch:=first|assumption|(refine qI ?_;assumption)|exact Nat.le_add_right _ _|exact Nat.le_refl _|omega|(simp (disch:=first|exact Nat.le_add_right _ _|omega) only[qG hb,qR hb,qM,qE hb,qC];done)|fail) only[go_sem,push_cast,qB,qA,qG hb,qE hb]
 refine Cnp.of (fun h=>by rw[e,szP_neg h]) (fun h=> ?_)
 refine jB (fun i=>0≤left-xs.length-totTo xs i) xs.length (fun i=>[(0,lst xs),(1, .int .i64 (left-xs.length-totTo xs i)),(5, .int .i64 i)]) (by simp;omega) (by simp only[go_sem,push_cast,qB,qA,totTo_zero,Int.sub_zero]) ?_
 intro i B0 hI hi hB
 refine cv (by kernel_rfl) ?_
 rcases Nat.lt_or_ge i xs.length with hlt|hge
 ·have e1:xs[i]? =some xs[i]:=List.getElem?_eq_getElem hlt
  have hx:=kC h1 (List.getElem_mem hlt)
  have hst:=totTo_succ xs hlt
  skip
  simp (maxSteps:=2000000) (disch:=first|assumption|(refine qI ?_;assumption)|exact Nat.le_add_right _ _|exact Nat.le_refl _|omega|(simp (disch:=first|exact Nat.le_add_right _ _|omega) only[qG hb,qR hb,qM,qE hb,qC];done)|fail) only[go_sem,push_cast,qB,qA,qG hb,qE hb,e1,hx]
  exact sz_step hlt hI
 ·simp (maxSteps:=2000000) (disch:=first|assumption|(refine qI ?_;assumption)|exact Nat.le_add_right _ _|exact Nat.le_refl _|omega|(simp (disch:=first|exact Nat.le_add_right _ _|omega) only[qG hb,qR hb,qM,qE hb,qC];done)|fail) only[go_sem,push_cast,qB,qA,qG hb,qE hb]
  refine cv (by kernel_rfl) ?_
  simp (maxSteps:=2000000) (disch:=first|assumption|(refine qI ?_;assumption)|exact Nat.le_add_right _ _|exact Nat.le_refl _|omega|(simp (disch:=first|exact Nat.le_add_right _ _|omega) only[qG hb,qR hb,qM,qE hb,qC];done)|fail) only[go_sem,push_cast,qB,qA,qG hb,qE hb]
  exact sz_end hge hI
def W104:qJ:=fun args H Bd K=>∃(x:GPut) (left:Int),args=[.agg (enc x).toArray, .int .i64 left]∧((sm x∧0≤left∧left≤1048576)∧K (.int .i64 (szP (tot x) left)) H Bd)
@[go_sem ↓] theorem W104_eq (x_sector:Int) (x_bytes:List UInt8) (left:Int):W104 [.agg #[.int .i64 x_sector,lst x_bytes], .int .i64 left] H Bd K=((sm (GPut.mk x_sector x_bytes)∧0≤left∧left≤1048576)∧K (.int .i64 (szP (tot (GPut.mk x_sector x_bytes)) left)) H Bd):=ex2 (GPut.mk x_sector x_bytes) left rfl
theorem W104_ok:OK 104 W104:=by
 rintro args H Bd K ⟨x,left,rfl,hpre,hK⟩
 refine fnp pok ((Env.base _).add 48 _ W48_ok) [] hK Tryz.func104 Tryz.ntmps104 Tryz.call104 [.tmp 4] fun hb ha=> ?_
 obtain⟨h1,h2,h3⟩:=hpre
 simp only[sm_GPut,sm_str]at h1
 have q0:=h3
 have q1:=szP_ub (tot x.bytes) (left:=left) (by omega)
 have ez:tot x=tot x.bytes:=by simp[tot_GPut]
 rw[ez]
 simp (maxSteps:=2000000) (disch:=first|assumption|(refine qI ?_;assumption)|exact Nat.le_add_right _ _|exact Nat.le_refl _|omega|(simp (disch:=first|exact Nat.le_add_right _ _|omega) only[qG hb,qR hb,qM,qE hb,qC];done)|fail) only[go_sem,push_cast,qB,qA,qG hb,qE hb,h1]
 first|exact szP_last|exact szP_lastT
def W47:qJ:=fun args H Bd K=>∃(xs:List GPut) (left:Int),args=[lst xs, .int .i64 left]∧((sm xs∧0≤left∧left≤1048576)∧K (.int .i64 (szP (tot xs) left)) H Bd)
@[go_sem ↓] theorem W47_eq (xs:List GPut) (left:Int):W47 [lst xs, .int .i64 left] H Bd K=((sm xs∧0≤left∧left≤1048576)∧K (.int .i64 (szP (tot xs) left)) H Bd):=ex2 xs left rfl
theorem W47_ok:OK 47 W47:=by
 rintro args H Bd K ⟨xs,left,rfl,hpre,hK⟩
 refine fnp pok ((Env.base _).add 104 _ W104_ok) [] hK Tryz.func47 Tryz.ntmps47 Tryz.call47 [.tmp 4] fun hb ha=> ?_
 refine jH pok fun cv=> ?_
 obtain⟨h1,h2,h3⟩:=hpre
 have hlen:=qY h1
 have e:tot xs=xs.length+(xs.map tot).sum:=tot_list xs
 simp (maxSteps:=2000000) (disch:=first|assumption|(refine qI ?_;assumption)|exact Nat.le_add_right _ _|exact Nat.le_refl _|omega|(simp (disch:=first|exact Nat.le_add_right _ _|omega) only[qG hb,qR hb,qM,qE hb,qC];done)|fail) only[go_sem,push_cast,qB,qA,qG hb,qE hb]
 refine Cnp.of (fun h=>by rw[e,szP_neg h]) (fun h=> ?_)
 refine jB (fun i=>0≤left-xs.length-totTo xs i) xs.length (fun i=>[(0,lst xs),(1, .int .i64 (left-xs.length-totTo xs i)),(5, .int .i64 i)]) (by simp;omega) (by simp only[go_sem,push_cast,qB,qA,totTo_zero,Int.sub_zero]) ?_
 intro i B0 hI hi hB
 refine cv (by kernel_rfl) ?_
 rcases Nat.lt_or_ge i xs.length with hlt|hge
 ·have e1:xs[i]? =some xs[i]:=List.getElem?_eq_getElem hlt
  have hx:=kC h1 (List.getElem_mem hlt)
  have hst:=totTo_succ xs hlt
  skip
  simp (maxSteps:=2000000) (disch:=first|assumption|(refine qI ?_;assumption)|exact Nat.le_add_right _ _|exact Nat.le_refl _|omega|(simp (disch:=first|exact Nat.le_add_right _ _|omega) only[qG hb,qR hb,qM,qE hb,qC];done)|fail) only[go_sem,push_cast,qB,qA,qG hb,qE hb,e1,hx]
  exact sz_step hlt hI
 ·simp (maxSteps:=2000000) (disch:=first|assumption|(refine qI ?_;assumption)|exact Nat.le_add_right _ _|exact Nat.le_refl _|omega|(simp (disch:=first|exact Nat.le_add_right _ _|omega) only[qG hb,qR hb,qM,qE hb,qC];done)|fail) only[go_sem,push_cast,qB,qA,qG hb,qE hb]
  refine cv (by kernel_rfl) ?_
  simp (maxSteps:=2000000) (disch:=first|assumption|(refine qI ?_;assumption)|exact Nat.le_add_right _ _|exact Nat.le_refl _|omega|(simp (disch:=first|exact Nat.le_add_right _ _|omega) only[qG hb,qR hb,qM,qE hb,qC];done)|fail) only[go_sem,push_cast,qB,qA,qG hb,qE hb]
  exact sz_end hge hI
def W9:qJ:=fun args H Bd K=>∃(x:GDisk) (left:Int),args=[.agg (enc x).toArray, .int .i64 left]∧((sm x∧0≤left∧left≤1048576)∧K (.int .i64 (szP (tot x) left)) H Bd)
@[go_sem ↓] theorem W9_eq (x_sectors:List (List UInt8)) (x_pending:List GPut) (left:Int):W9 [.agg #[lst x_sectors,lst x_pending], .int .i64 left] H Bd K=((sm (GDisk.mk x_sectors x_pending)∧0≤left∧left≤1048576)∧K (.int .i64 (szP (tot (GDisk.mk x_sectors x_pending)) left)) H Bd):=ex2 (GDisk.mk x_sectors x_pending) left rfl
theorem W9_ok:OK 9 W9:=by
 rintro args H Bd K ⟨x,left,rfl,hpre,hK⟩
 refine fnp pok (((Env.base _).add 46 _ W46_ok).add 47 _ W47_ok) [] hK Tryz.func9 Tryz.ntmps9 Tryz.call9 [.tmp 4] fun hb ha=> ?_
 obtain⟨h1,h2,h3⟩:=hpre
 simp only[sm_GDisk,sm_str]at h1
 have q0:=h3
 have q1:=szP_ub (tot x.sectors) (left:=left) (by omega)
 have q2:=szP_ub (tot x.pending) (left:=szP (tot x.sectors) (left)) (by omega)
 have ez:tot x=tot x.sectors+(tot x.pending):=by simp[tot_GDisk]
 rw[ez]
 simp (maxSteps:=2000000) (disch:=first|assumption|(refine qI ?_;assumption)|exact Nat.le_add_right _ _|exact Nat.le_refl _|omega|(simp (disch:=first|exact Nat.le_add_right _ _|omega) only[qG hb,qR hb,qM,qE hb,qC];done)|fail) only[go_sem,push_cast,qB,qA,qG hb,qE hb,h1]
 refine szP_go (fun e=>e.symm) (fun e=> ?_)
 rw[e]
 first|exact szP_last|exact szP_lastT
def W54:qJ:=fun args H Bd K=>∃(xs:List UInt8),args=[lst xs]∧((sm xs∧tot xs≤1048576)∧K (lst xs) H Bd)
@[go_sem ↓] theorem W54_eq (xs:List UInt8):W54 [lst xs] H Bd K=((sm xs∧tot xs≤1048576)∧K (lst xs) H Bd):=ex1 xs rfl
theorem W54_ok:OK 54 W54:=by
 rintro args H Bd K ⟨xs,rfl,hpre,hK⟩
 refine fnp pok (Env.base _) [] hK Tryz.func54 Tryz.ntmps54 Tryz.call54 [.tmp 2] fun hb ha=> ?_
 refine jH pok fun cv=> ?_
 obtain⟨h1,h2⟩:=hpre
 have e:tot xs=xs.length+(xs.map tot).sum:=tot_list xs
 simp (maxSteps:=2000000) (disch:=first|assumption|(refine qI ?_;assumption)|exact Nat.le_add_right _ _|exact Nat.le_refl _|omega|(simp (disch:=first|exact Nat.le_add_right _ _|omega) only[qG hb,qR hb,qM,qE hb,qC];done)|fail) only[go_sem,push_cast,qB,qA,qG hb,qE hb]
 refine tr_fill (α:=UInt8) hb xs (fun i=>[(0,lst xs),(3, .slice (some ⟨Bd,0,some 1⟩) xs.length (xs.length+1)),(4, .int .i64 i)]) _ (zmake_len _ _) ⟨Nat.le_refl _,by omega⟩ (by simp only[go_sem,push_cast,qB,qA]) (Le.refl _) ?_
 intro i L B hi hL hF hB hb'
 refine cv (by kernel_rfl) ?_
 have hL':L.length=xs.length*1:=hL
 rcases Nat.lt_or_ge i xs.length with hlt|hge
 ·have e1:xs[i]? =some xs[i]:=List.getElem?_eq_getElem hlt
  have hx:=kC h1 (List.getElem_mem hlt)
  have hx2:tot xs[i]≤(xs.map tot).sum:=tot_mem hlt
  simp (maxSteps:=2000000) (disch:=first|assumption|(refine qI ?_;assumption)|exact Nat.le_add_right _ _|exact Nat.le_refl _|omega|(simp (disch:=first|exact Nat.le_add_right _ _|omega) only[qG hb,qR hb,qM,qE hb,qC];done)|fail) only[go_sem,push_cast,qB,qA,qG hb,qE hb,e1,hx]
  exact⟨_,rfl,Le.refl _⟩
 ·simp (maxSteps:=2000000) (disch:=first|assumption|(refine qI ?_;assumption)|exact Nat.le_add_right _ _|exact Nat.le_refl _|omega|(simp (disch:=first|exact Nat.le_add_right _ _|omega) only[qG hb,qR hb,qM,qE hb,qC];done)|fail) only[go_sem,push_cast,qB,qA,qG hb,qE hb]
  have hf:L=qQ xs:=by
   rw[List.take_of_length_le (by rw[hL];exact Nat.mul_le_mul_right _ hge),List.take_of_length_le hge]at hF
   exact hF
  subst hf
  refine Tr.fin hb 3 (Nat.le_refl Bd) (by simp only[go_sem,push_cast,qB,qA];rfl) rfl ?_
  refine cv (by kernel_rfl) ?_
  simp (maxSteps:=2000000) (disch:=first|assumption|(refine qI ?_;assumption)|exact Nat.le_add_right _ _|exact Nat.le_refl _|omega|(simp (disch:=first|exact Nat.le_add_right _ _|omega) only[qG hb,qR hb,qM,qE hb,qC];done)|fail) only[go_sem,push_cast,qB,qA,qG hb,qE hb]
def W52:qJ:=fun args H Bd K=>∃(xs:List (List UInt8)),args=[lst xs]∧((sm xs∧tot xs≤1048576)∧K (lst xs) H Bd)
@[go_sem ↓] theorem W52_eq (xs:List (List UInt8)):W52 [lst xs] H Bd K=((sm xs∧tot xs≤1048576)∧K (lst xs) H Bd):=ex1 xs rfl
theorem W52_ok:OK 52 W52:=by
 rintro args H Bd K ⟨xs,rfl,hpre,hK⟩
 refine fnp pok ((Env.base _).add 54 _ W54_ok) [] hK Tryz.func52 Tryz.ntmps52 Tryz.call52 [.tmp 2] fun hb ha=> ?_
 refine jH pok fun cv=> ?_
 obtain⟨h1,h2⟩:=hpre
 have e:tot xs=xs.length+(xs.map tot).sum:=tot_list xs
 simp (maxSteps:=2000000) (disch:=first|assumption|(refine qI ?_;assumption)|exact Nat.le_add_right _ _|exact Nat.le_refl _|omega|(simp (disch:=first|exact Nat.le_add_right _ _|omega) only[qG hb,qR hb,qM,qE hb,qC];done)|fail) only[go_sem,push_cast,qB,qA,qG hb,qE hb]
 refine tr_fill (α:=(List UInt8)) hb xs (fun i=>[(0,lst xs),(3, .slice (some ⟨Bd,0,some 1⟩) xs.length (xs.length+1)),(4, .int .i64 i)]) _ (zmake_len _ _) ⟨Nat.le_refl _,by omega⟩ (by simp only[go_sem,push_cast,qB,qA]) (Le.refl _) ?_
 intro i L B hi hL hF hB hb'
 refine cv (by kernel_rfl) ?_
 have hL':L.length=xs.length*1:=hL
 rcases Nat.lt_or_ge i xs.length with hlt|hge
 ·have e1:xs[i]? =some xs[i]:=List.getElem?_eq_getElem hlt
  have hx:=kC h1 (List.getElem_mem hlt)
  have hx2:tot xs[i]≤(xs.map tot).sum:=tot_mem hlt
  simp (maxSteps:=2000000) (disch:=first|assumption|(refine qI ?_;assumption)|exact Nat.le_add_right _ _|exact Nat.le_refl _|omega|(simp (disch:=first|exact Nat.le_add_right _ _|omega) only[qG hb,qR hb,qM,qE hb,qC];done)|fail) only[go_sem,push_cast,qB,qA,qG hb,qE hb,e1,hx]
  exact⟨_,rfl,Le.refl _⟩
 ·simp (maxSteps:=2000000) (disch:=first|assumption|(refine qI ?_;assumption)|exact Nat.le_add_right _ _|exact Nat.le_refl _|omega|(simp (disch:=first|exact Nat.le_add_right _ _|omega) only[qG hb,qR hb,qM,qE hb,qC];done)|fail) only[go_sem,push_cast,qB,qA,qG hb,qE hb]
  have hf:L=qQ xs:=by
   rw[List.take_of_length_le (by rw[hL];exact Nat.mul_le_mul_right _ hge),List.take_of_length_le hge]at hF
   exact hF
  subst hf
  refine Tr.fin hb 3 (Nat.le_refl Bd) (by simp only[go_sem,push_cast,qB,qA];rfl) rfl ?_
  refine cv (by kernel_rfl) ?_
  simp (maxSteps:=2000000) (disch:=first|assumption|(refine qI ?_;assumption)|exact Nat.le_add_right _ _|exact Nat.le_refl _|omega|(simp (disch:=first|exact Nat.le_add_right _ _|omega) only[qG hb,qR hb,qM,qE hb,qC];done)|fail) only[go_sem,push_cast,qB,qA,qG hb,qE hb]
def W111:qJ:=fun args H Bd K=>∃(x:GPut),args=[.agg (enc x).toArray]∧((sm x∧tot x≤1048576)∧K (.agg (enc x).toArray) H Bd)
@[go_sem ↓] theorem W111_eq (x_sector:Int) (x_bytes:List UInt8):W111 [.agg #[.int .i64 x_sector,lst x_bytes]] H Bd K=((sm (GPut.mk x_sector x_bytes)∧tot (GPut.mk x_sector x_bytes)≤1048576)∧K (.agg (enc ((GPut.mk x_sector x_bytes))).toArray) H Bd):=ex1 (GPut.mk x_sector x_bytes) rfl
theorem W111_ok:OK 111 W111:=by
 rintro args H Bd K ⟨x,rfl,hpre,hK⟩
 refine fnp pok ((Env.base _).add 54 _ W54_ok) [] hK Tryz.func111 Tryz.ntmps111 Tryz.call111 [.cell 2 160] fun hb ha=> ?_
 obtain⟨h1,h2⟩:=hpre
 simp only[sm_GPut]at h1
 simp only[tot_GPut]at h2
 simp (maxSteps:=2000000) (disch:=first|assumption|(refine qI ?_;assumption)|exact Nat.le_add_right _ _|exact Nat.le_refl _|omega|(simp (disch:=first|exact Nat.le_add_right _ _|omega) only[qG hb,qR hb,qM,qE hb,qC];done)|fail) only[go_sem,push_cast,qB,qA,qG hb,qE hb,h1]
def W53:qJ:=fun args H Bd K=>∃(xs:List GPut),args=[lst xs]∧((sm xs∧tot xs≤1048576)∧K (lst xs) H Bd)
@[go_sem ↓] theorem W53_eq (xs:List GPut):W53 [lst xs] H Bd K=((sm xs∧tot xs≤1048576)∧K (lst xs) H Bd):=ex1 xs rfl
theorem W53_ok:OK 53 W53:=by
 rintro args H Bd K ⟨xs,rfl,hpre,hK⟩
 refine fnp pok ((Env.base _).add 111 _ W111_ok) [] hK Tryz.func53 Tryz.ntmps53 Tryz.call53 [.tmp 2] fun hb ha=> ?_
 refine jH pok fun cv=> ?_
 obtain⟨h1,h2⟩:=hpre
 have e:tot xs=xs.length+(xs.map tot).sum:=tot_list xs
 simp (maxSteps:=2000000) (disch:=first|assumption|(refine qI ?_;assumption)|exact Nat.le_add_right _ _|exact Nat.le_refl _|omega|(simp (disch:=first|exact Nat.le_add_right _ _|omega) only[qG hb,qR hb,qM,qE hb,qC];done)|fail) only[go_sem,push_cast,qB,qA,qG hb,qE hb]
 refine tr_fill (α:=GPut) hb xs (fun i=>[(0,lst xs),(3, .slice (some ⟨Bd,0,some 2⟩) xs.length (xs.length+1)),(4, .int .i64 i)]) _ (zmake_len _ _) ⟨Nat.le_refl _,by omega⟩ (by simp only[go_sem,push_cast,qB,qA]) (Le.refl _) ?_
 intro i L B hi hL hF hB hb'
 refine cv (by kernel_rfl) ?_
 have hL':L.length=xs.length*2:=hL
 rcases Nat.lt_or_ge i xs.length with hlt|hge
 ·have e1:xs[i]? =some xs[i]:=List.getElem?_eq_getElem hlt
  have hx:=kC h1 (List.getElem_mem hlt)
  have hx2:tot xs[i]≤(xs.map tot).sum:=tot_mem hlt
  simp (maxSteps:=2000000) (disch:=first|assumption|(refine qI ?_;assumption)|exact Nat.le_add_right _ _|exact Nat.le_refl _|omega|(simp (disch:=first|exact Nat.le_add_right _ _|omega) only[qG hb,qR hb,qM,qE hb,qC];done)|fail) only[go_sem,push_cast,qB,qA,qG hb,qE hb,e1,hx]
  exact⟨_,rfl,Le.refl _⟩
 ·simp (maxSteps:=2000000) (disch:=first|assumption|(refine qI ?_;assumption)|exact Nat.le_add_right _ _|exact Nat.le_refl _|omega|(simp (disch:=first|exact Nat.le_add_right _ _|omega) only[qG hb,qR hb,qM,qE hb,qC];done)|fail) only[go_sem,push_cast,qB,qA,qG hb,qE hb]
  have hf:L=qQ xs:=by
   rw[List.take_of_length_le (by rw[hL];exact Nat.mul_le_mul_right _ hge),List.take_of_length_le hge]at hF
   exact hF
  subst hf
  refine Tr.fin hb 3 (Nat.le_refl Bd) (by simp only[go_sem,push_cast,qB,qA];rfl) rfl ?_
  refine cv (by kernel_rfl) ?_
  simp (maxSteps:=2000000) (disch:=first|assumption|(refine qI ?_;assumption)|exact Nat.le_add_right _ _|exact Nat.le_refl _|omega|(simp (disch:=first|exact Nat.le_add_right _ _|omega) only[qG hb,qR hb,qM,qE hb,qC];done)|fail) only[go_sem,push_cast,qB,qA,qG hb,qE hb]
def W12:qJ:=fun args H Bd K=>∃(x:GDisk),args=[.agg (enc x).toArray]∧((sm x∧tot x≤1048576)∧K (.agg (enc x).toArray) H Bd)
@[go_sem ↓] theorem W12_eq (x_sectors:List (List UInt8)) (x_pending:List GPut):W12 [.agg #[lst x_sectors,lst x_pending]] H Bd K=((sm (GDisk.mk x_sectors x_pending)∧tot (GDisk.mk x_sectors x_pending)≤1048576)∧K (.agg (enc ((GDisk.mk x_sectors x_pending))).toArray) H Bd):=ex1 (GDisk.mk x_sectors x_pending) rfl
theorem W12_ok:OK 12 W12:=by
 rintro args H Bd K ⟨x,rfl,hpre,hK⟩
 refine fnp pok (((Env.base _).add 52 _ W52_ok).add 53 _ W53_ok) [] hK Tryz.func12 Tryz.ntmps12 Tryz.call12 [.cell 2 40] fun hb ha=> ?_
 obtain⟨h1,h2⟩:=hpre
 simp only[sm_GDisk]at h1
 simp only[tot_GDisk]at h2
 simp (maxSteps:=2000000) (disch:=first|assumption|(refine qI ?_;assumption)|exact Nat.le_add_right _ _|exact Nat.le_refl _|omega|(simp (disch:=first|exact Nat.le_add_right _ _|omega) only[qG hb,qR hb,qM,qE hb,qC];done)|fail) only[go_sem,push_cast,qB,qA,qG hb,qE hb,h1]
def W105:qJ:=fun args H Bd K=>∃(n:Int) (low:Int) (high:Int),args=[.int .i64 n, .int .i64 low, .int .i64 high]∧(K (.bool (decide (low≤n∧n≤high))) H Bd)
@[go_sem ↓] theorem W105_eq (n:Int) (low:Int) (high:Int):W105 [.int .i64 n, .int .i64 low, .int .i64 high] H Bd K=(K (.bool (decide (low≤n∧n≤high))) H Bd):=ex3 n low high rfl
theorem W105_ok:OK 105 W105:=by
 rintro args H Bd K ⟨n,low,high,rfl,hK⟩
 refine fnp pok (Env.base _) [(1,[],[],(.k 4 (.grp true 10 13 3 [11,12,13] 14 none (.k 3 .nil) (.k 1 .nil))))] hK Tryz.func105 Tryz.ntmps105 Tryz.call105 [.tmp 6] fun hb ha=> ?_
 simp (maxSteps:=2000000) (disch:=first|assumption|(refine qI ?_;assumption)|exact Nat.le_add_right _ _|exact Nat.le_refl _|omega|(simp (disch:=first|exact Nat.le_add_right _ _|omega) only[qG hb,qR hb,qM,qE hb,qC];done)|fail) only[go_sem,push_cast,qB,qA,qG hb,qE hb]
 all_goals first|done|trivial|((try simp only[Cnp,Imp]);grind)
def W49:qJ:=fun args H Bd K=>∃(d:GDisk),args=[.agg (enc d).toArray]∧((sm d)∧K (.int .i64 (yN d)) H Bd)
@[go_sem ↓] theorem W49_eq (d_sectors:List (List UInt8)) (d_pending:List GPut):W49 [.agg #[lst d_sectors,lst d_pending]] H Bd K=((sm (GDisk.mk d_sectors d_pending))∧K (.int .i64 (yN (GDisk.mk d_sectors d_pending))) H Bd):=ex1 (GDisk.mk d_sectors d_pending) rfl
set_option maxHeartbeats 2000000 in
theorem W49_ok:OK 49 W49:=by
 rintro args H Bd K ⟨d,rfl,hpre,hK⟩
 refine fnp pok ((Env.base _).add 105 _ W105_ok) [(24,[0,1,2,3,4,5,6,7,8,9,10,11,12],[⟨0,[],[]⟩,⟨1,[],[]⟩,⟨2,[],[]⟩,⟨3,[],[]⟩,⟨4,[],[]⟩,⟨5,[],[]⟩,⟨6,[],[]⟩,⟨7,[],[]⟩,⟨8,[],[]⟩,⟨9,[],[]⟩,⟨10,[],[]⟩,⟨11,[],[]⟩,⟨12,[],[]⟩], .nil)] hK Tryz.func49 Tryz.ntmps49 Tryz.call49 [.tmp 2] fun hb ha=> ?_
 refine jH pok fun cv=> ?_
 have hd:=hpre
 simp only[sm_GDisk]at hpre
 have hlen:=qY hpre.1
 have hlen2:=qY hpre.2
 rcases Decidable.em (¬(8≤d.sectors.length∧d.sectors.length≤64))with h8|h8
 ·have hf:yN d=2:=by unfold yN;rw[if_pos h8]
  refine R (cj hd hf) ?_
  all_goals first|trivial|exact fun a b=>absurd (And.intro (by omega) (by omega)) h8
 have hf:yN d=diskG d:=by unfold yN;rw[if_neg h8]
 rw[hf]
 obtain⟨h81,h82⟩:=Decidable.not_not.1 h8
 refine R (cj h81 h82) ?_
 refine jB (fun k=>∀j,j<k→∀x,d.sectors[j]? =some x→decide (x.length≠96)=false) (d.sectors.length) (fun k=>[(1, .pointer (some ⟨Bd,0,none⟩)),(3, .int .i64 d.sectors.length),(4, .int .i64 k)]) (by simp) (by simp only[go_sem,push_cast,qB,qA]) ?_
 intro k Bk hIk hik hBk
 refine cv (by kernel_rfl) ?_
 rcases Nat.lt_or_ge k (d.sectors.length)with hltk|hgek
 ·have e1:d.sectors[k]? =some d.sectors[k]:=List.getElem?_eq_getElem hltk
  have hx:=qY (kC hpre.1 (List.getElem_mem hltk))
  by_cases h9:d.sectors[k].length=96
  ·refine R (cj e1 h9) ?_
   intro j hj x hx2
   by_cases e:j=k
   ·subst e;rw[e1]at hx2;cases hx2;simpa using h9
   ·simpa using hIk j (by omega) x hx2
  ·have hg:diskG d=1:=by unfold diskG;rw[if_pos (any_hit hltk (by simpa using h9))]
   rw[hg]
   exact R (cj e1 h9) trivial
 ·have hany:d.sectors.any (fun b=>decide (b.length≠96))=false:=vG fun j hj x hx=>hIk j (by omega) x hx
  refine R0 ?_
  refine cv (by kernel_rfl) ?_
  by_cases hp:d.pending.length>d.sectors.length
  ·have hg:diskG d=2:=by unfold diskG;rw[if_neg (by rw[hany];exact Bool.false_ne_true),if_pos hp]
   rw[hg]
   exact R hp trivial
  have hg:diskG d=if putF d.sectors.length d.pending≠0 then putF d.sectors.length d.pending else if(d.pending.map (·.sector)).Nodup then 0 else 6:=by unfold diskG;rw[if_neg (by rw[hany];exact Bool.false_ne_true),if_neg hp]
  refine R hp ?_
  refine jB (fun i=>putF d.sectors.length (d.pending.drop i)=putF d.sectors.length d.pending) (d.pending.length) (fun i=>[(1, .pointer (some ⟨Bd,0,none⟩)),(3, .int .i64 d.sectors.length),(5, .int .i64 i)]) (by simp) (by simp only[go_sem,push_cast,qB,qA]) ?_
  intro i Bi hIi hii hBi
  refine cv (by kernel_rfl) ?_
  rcases Nat.lt_or_ge i (d.pending.length)with hlti|hgei
  ·have e1:d.pending[i]? =some d.pending[i]:=List.getElem?_eq_getElem hlti
   have hd2:=List.drop_eq_getElem_cons hlti
   have hx:=kC hpre.2 (List.getElem_mem hlti)
   simp only[sm_GPut]at hx
   have hx2:=qY hx.2
   rw[hd2,putF]at hIi
   by_cases hr:0≤d.pending[i].sector∧d.pending[i].sector≤(d.sectors.length:Int)-1
   ·rw[if_neg (by simpa using hr)]at hIi
    by_cases hb9:d.pending[i].bytes.length=96
    ·rw[if_neg (by simpa using hb9)]at hIi
     obtain⟨hr1,hr2⟩:=hr
     exact R (cj e1 (cj hd (cj hr1 (cj hr2 (cj hb9 hIi))))) trivial
    ·rw[if_pos hb9]at hIi
     have hg2:diskG d=1:=by rw[hg,←hIi];rfl
     obtain⟨hr1,hr2⟩:=hr
     rw[hg2]
     exact R (cj e1 (cj hd (cj hr1 (cj hr2 hb9)))) trivial
   ·rw[if_pos hr]at hIi
    have hg2:diskG d=3:=by rw[hg,←hIi];rfl
    rw[hg2]
    refine R (cj e1 (cj hd hr)) ?_
    all_goals (first|trivial|exact fun a b=>absurd (And.intro (by omega) (by omega)) hr|(intros;omega))
  ·refine R0 ?_
   have h0:putF d.sectors.length d.pending=0:=by rw[←hIi,List.drop_of_length_le hgei];rfl
   rw[h0]at hg
   simp only[ne_eq,not_true_eq_false,if_false]at hg
   refine cv (by kernel_rfl) ?_
   refine R0 ?_
   refine jB (fun j=>∀a b x y,b<a→a<j→d.pending[a]? =some x→d.pending[b]? =some y→x.sector≠y.sector) (d.pending.length) (fun j=>[(1, .pointer (some ⟨Bd,0,none⟩)),(3, .int .i64 d.sectors.length),(6, .int .i64 j)]) (by simp) (by simp only[go_sem,push_cast,qB,qA]) ?_
   intro j Bj hIj hij hBj
   refine cv (by kernel_rfl) ?_
   rcases Nat.lt_or_ge j (d.pending.length)with hltj|hgej
   ·have e1:d.pending[j]? =some d.pending[j]:=List.getElem?_eq_getElem hltj
    refine R e1 ?_
    refine jB (fun m=>∀b y,b<m→d.pending[b]? =some y→d.pending[j].sector≠y.sector) (j) (fun m=>[(1, .pointer (some ⟨Bd,0,none⟩)),(3, .int .i64 d.sectors.length),(6, .int .i64 j),(7, .int .i64 m)]) (by simp) (by simp only[go_sem,push_cast,qB,qA]) ?_
    intro m Bm hIm him hBm
    refine cv (by kernel_rfl) ?_
    rcases Nat.lt_or_ge m (j)with hltm|hgem
    ·have e2:d.pending[m]? =some (d.pending[m]'(by omega)):=List.getElem?_eq_getElem _
     by_cases hq:d.pending[j].sector=(d.pending[m]'(by omega)).sector
     ·have hn:¬(d.pending.map (·.sector)).Nodup:=nodup_map_not (f:=(·.sector)) hltm hltj hq
      rw[if_neg hn]at hg
      rw[hg]
      exact R (cj e1 (cj e2 hq)) trivial
     ·refine R (cj e1 (cj e2 hq)) ?_
      intro b y hb1 hb2
      by_cases e:b=m
      ·subst e;rw[e2]at hb2;cases hb2;exact hq
      ·exact hIm b y (by omega) hb2
    ·refine R0 ?_
     intro a b x y h1 h2 h3 h4
     by_cases e:a=j
     ·subst e;rw[e1]at h3;cases h3;exact hIm b y (by omega) h4
     ·exact hIj a b x y h1 (by omega) h3 h4
   ·refine R0 ?_
    refine cv (by kernel_rfl) ?_
    have h7:(d.pending.map (·.sector)).Nodup:=nodup_map fun i j x y h1 h2 h3 h4=>hIj i j x y h1 (by omega) h3 h4
    rw[if_pos h7]at hg
    rw[hg]
    exact R0 trivial
def W240:qJ:=fun args H Bd K=>∃(xs:List UInt8),args=[lst xs]∧((sm xs)∧K (.int .i64 (sumB 29 xs)) H Bd)
@[go_sem ↓] theorem W240_eq (xs:List UInt8):W240 [lst xs] H Bd K=((sm xs)∧K (.int .i64 (sumB 29 xs)) H Bd):=ex1 xs rfl
theorem W240_ok:OK 240 W240:=by
 rintro args H Bd K ⟨xs,rfl,hpre,hK⟩
 refine fnp pok (Env.base _) [] hK Tryz.func240 Tryz.ntmps240 Tryz.call240 [.tmp 2] fun hb ha=> ?_
 refine jH pok fun cv=> ?_
 have hlen:=qY hpre
 refine R0 ?_
 refine jB (fun i=>True) (xs.length) (fun i=>[(0,lst xs),(3, .int .i64 (sumB 29 (xs.take i))),(4, .int .i64 i)]) (trivial) (by simp only[go_sem,push_cast,qB,qA,List.take_zero,sumB]) ?_
 intro i Bi hIi hii hBi
 refine cv (by kernel_rfl) ?_
 rcases Nat.lt_or_ge i (xs.length)with hlti|hgei
 ·have e1:xs[i]? =some xs[i]:=List.getElem?_eq_getElem hlti
  have hst:=sumB_take hlti
  have hr:=sum_rg (xs.take i)
  have hby:(xs[i].toNat:Int)<256:=by have:=xs[i].toNat_lt;omega
  have ht:(sumB 29 (xs.take i)*227+(xs[i].toNat:Int)+1).tmod 65521=(sumB 29 (xs.take i)*227+(xs[i].toNat:Int)+1)%65521:=Int.tmod_eq_emod_of_nonneg (by omega)
  have hcm:227*sumB 29 (xs.take i)=sumB 29 (xs.take i)*227:=Int.mul_comm _ _
  exact R (cj e1 (cj hst (cj hcm ht))) trivial
 ·refine R0 ?_
  refine cv (by kernel_rfl) ?_
  rw[List.take_of_length_le hgei]
  exact R0 trivial
def W239:qJ:=fun args H Bd K=>∃(n:Int),args=[.int .i64 n]∧((0≤n∧n≤65535)∧K (lst (jP n)) H Bd)
@[go_sem ↓] theorem W239_eq (n:Int):W239 [.int .i64 n] H Bd K=((0≤n∧n≤65535)∧K (lst (jP n)) H Bd):=ex1 n rfl
theorem W239_ok:OK 239 W239:=by
 rintro args H Bd K ⟨n,rfl,hpre,hK⟩
 refine fnp pok (Env.base _) [] hK Tryz.func239 Tryz.ntmps239 Tryz.call239 [.tmp 2] fun hb ha=> ?_
 obtain⟨h1,h2⟩:=hpre
 have e1:n.tdiv 256=n/256:=Int.tdiv_eq_ediv_of_nonneg h1
 have e2:n.tmod 256=n%256:=Int.tmod_eq_emod_of_nonneg h1
 have e3:n%256%256=n%256:=by omega
 have hl:2=(jP n).length:=rfl
 simp (maxSteps:=2000000) (disch:=first|assumption|(refine qI ?_;assumption)|exact Nat.le_add_right _ _|exact Nat.le_refl _|omega|(simp (disch:=first|exact Nat.le_add_right _ _|omega) only[qG hb,qR hb,qM,qE hb,qC];done)|fail) only[go_sem,push_cast,qB,qA,qG hb,qE hb,e1,e2,e3,←pairB_flat n]
 exact jA (qN _ _ _) (hb.fresh _ (by omega)) rfl rfl
def W241:qJ:=fun args H Bd K=>∃(xs:List UInt8),args=[lst xs]∧((xs.length≤1000000)∧K (lst xs) H Bd)
@[go_sem ↓] theorem W241_eq (xs:List UInt8):W241 [lst xs] H Bd K=((xs.length≤1000000)∧K (lst xs) H Bd):=ex1 xs rfl
theorem W241_ok:OK 241 W241:=by
 rintro args H Bd K ⟨xs,rfl,hpre,hK⟩
 refine fnp pok (Env.base _) [] hK Tryz.func241 Tryz.ntmps241 Tryz.call241 [.tmp 2] fun hb ha=> ?_
 have hok:=flat_ok xs
 refine RA hok ?_
 exact jA (qN _ _ _) (hb.fresh _ (by omega)) rfl rfl
def W127:qJ:=fun args H Bd K=>∃(s:ByteArray),args=[.string s]∧((s.size≤281474976710656)∧K (.bool (isNm s)) H Bd)
@[go_sem ↓] theorem W127_eq (s:ByteArray):W127 [.string s] H Bd K=((s.size≤281474976710656)∧K (.bool (isNm s)) H Bd):=ex1 s rfl
set_option maxHeartbeats 2000000 in
theorem W127_ok:OK 127 W127:=by
 rintro args H Bd K ⟨s,rfl,hpre,hK⟩
 refine fnp pok (Env.base _) [(1,[],[],(.k 4 (.grp false 7 10 3 [8,9,10] 11 none (.k 3 .nil) .nil))),(6,[],[],(.k 5 (.grp false 22 26 4 [23,24,25,26] 27 none (.k 4 .nil) .nil)))] hK Tryz.func127 Tryz.ntmps127 Tryz.call127 [.tmp 2] fun hb ha=> ?_
 refine jH pok fun cv=> ?_
 refine R0 ?_
 refine⟨fun h=> ?_,fun h1 h2=> ?_⟩
 ·unfold isNm;grind
 refine jB (fun i=>∀j,j<i→97≤byteAt s j∧byteAt s j≤122) (s.size) (fun i=>[(0, .string s),(3, .int .i64 i)]) (by simp) (by simp only[go_sem,push_cast,qB,qA]) ?_
 intro i Bi hIi hii hBi
 refine cv (by kernel_rfl) ?_
 rcases Nat.lt_or_ge i (s.size)with hlti|hgei
 ·refine R0 ?_
  unfold isNm
  all_goals first|done|trivial|((try simp only[Cnp,Imp]);grind)
 ·refine R0 ?_
  refine cv (by kernel_rfl) ?_
  refine R0 ?_
  unfold isNm
  all_goals first|done|trivial|((try simp only[Cnp,Imp]);grind)
def W72:qJ:=fun args H Bd K=>∃(s:GSignature),args=[.agg (enc s).toArray]∧((sm s)∧K (.int .i64 (yK s)) H Bd)
@[go_sem ↓] theorem W72_eq (s_symbols:List GSymbol):W72 [.agg #[lst s_symbols]] H Bd K=((sm (GSignature.mk s_symbols))∧K (.int .i64 (yK (GSignature.mk s_symbols))) H Bd):=ex1 (GSignature.mk s_symbols) rfl
set_option maxHeartbeats 2000000 in
theorem W72_ok:OK 72 W72:=by
 rintro args H Bd K ⟨s,rfl,hpre,hK⟩
 refine fnp pok (((Env.base _).add 127 _ W127_ok).add 105 _ W105_ok) [(2,[],[],(.k 3 (.grp false 13 15 2 [14,15] 16 none (.k 2 .nil) .nil))),(17,[0,1,2,3,4,5,6,7,8,9,10,11,12],[⟨0,[],[]⟩,⟨1,[],[]⟩,⟨2,[],[]⟩,⟨3,[],[]⟩,⟨4,[],[]⟩,⟨5,[],[]⟩,⟨6,[],[]⟩,⟨7,[],[]⟩,⟨8,[],[]⟩,⟨9,[],[]⟩,⟨10,[],[]⟩,⟨11,[],[]⟩,⟨12,[],[]⟩], .nil)] hK Tryz.func72 Tryz.ntmps72 Tryz.call72 [.tmp 2] fun hb ha=> ?_
 refine jH pok fun cv=> ?_
 simp only[yL]at hpre
 have hlen:=qY hpre
 refine R0 ?_
 refine⟨fun h=>by unfold yK;rw[if_pos (by omega)],fun h1 h2=> ?_⟩
 have hs:yK s=sigG s:=by unfold yK;rw[if_neg (by omega)]
 rw[hs]
 refine jB (fun i=>symL (s.symbols.drop i)=symL s.symbols) (s.symbols.length) (fun i=>[(1, .pointer (some ⟨Bd,0,none⟩)),(3, .int .i64 s.symbols.length),(4, .int .i64 i)]) (by simp) (by simp only[go_sem,push_cast,qB,qA]) ?_
 intro i Bi hIi hii hBi
 refine cv (by kernel_rfl) ?_
 rcases Nat.lt_or_ge i (s.symbols.length)with hlti|hgei
 ·have e1:s.symbols[i]? =some s.symbols[i]:=List.getElem?_eq_getElem hlti
  have hd:=List.drop_eq_getElem_cons hlti
  have hx:=kC hpre (List.getElem_mem hlti)
  simp only[sm_GSymbol,sm_str,sm_int,and_true]at hx
  rw[hd,symL]at hIi
  refine R (cj e1 hx) ?_
  generalize symL (List.drop (i+1) s.symbols)=q at*
  unfold sigG
  all_goals first|done|trivial|((try simp only[Cnp,Imp]);grind)
 ·refine R0 ?_
  refine cv (by kernel_rfl) ?_
  refine R0 ?_
  have h0:symL s.symbols=0:=by rw[←hIi,List.drop_of_length_le hgei];rfl
  refine jB (fun j=>∀a b x y,b<a→a<j→s.symbols[a]? =some x→s.symbols[b]? =some y→x.name≠y.name) (s.symbols.length) (fun j=>[(1, .pointer (some ⟨Bd,0,none⟩)),(3, .int .i64 s.symbols.length),(5, .int .i64 j)]) (by simp) (by simp only[go_sem,push_cast,qB,qA]) ?_
  intro j Bj hIj hij hBj
  refine cv (by kernel_rfl) ?_
  rcases Nat.lt_or_ge j (s.symbols.length)with hltj|hgej
  ·have e1:s.symbols[j]? =some s.symbols[j]:=List.getElem?_eq_getElem hltj
   refine R e1 ?_
   refine jB (fun k=>∀b y,b<k→s.symbols[b]? =some y→s.symbols[j].name≠y.name) (j) (fun k=>[(1, .pointer (some ⟨Bd,0,none⟩)),(3, .int .i64 s.symbols.length),(5, .int .i64 j),(6, .int .i64 k)]) (by simp) (by simp only[go_sem,push_cast,qB,qA]) ?_
   intro k Bk hIk hik hBk
   refine cv (by kernel_rfl) ?_
   rcases Nat.lt_or_ge k (j)with hltk|hgek
   ·have e2:s.symbols[k]? =some (s.symbols[k]'(by omega)):=List.getElem?_eq_getElem _
    refine R (cj e1 e2) ?_
    refine⟨fun h=> ?_,fun h=>fun b y hb1 hb2=> ?_⟩
    ·unfold sigG
     rw[if_neg (by simp[h0]),if_pos (nodup_map_not hltk hltj h)]
    ·by_cases e:b=k
     ·subst e;rw[e2]at hb2;cases hb2;exact h
     ·exact hIk b y (by omega) hb2
   ·refine R0 ?_
    intro a b x y h1 h2 h3 h4
    by_cases e:a=j
    ·subst e;rw[e1]at h3;cases h3;exact hIk b y (by omega) h4
    ·exact hIj a b x y h1 (by omega) h3 h4
  ·refine R0 ?_
   refine cv (by kernel_rfl) ?_
   refine R0 ?_
   have h7:(s.symbols.map (·.name)).Nodup:=nodup_map fun i j x y h1 h2 h3 h4=>hIj i j x y h1 (by omega) h3 h4
   have hg:sigG s=if s.symbols.any (fun x=>decide (x.arity=0))=true then 0 else 4:=by
    unfold sigG
    rw[if_neg (by simp[h0]),if_neg (by simp[h7])]
   rw[hg]
   refine jB (fun l=>∀b,b<l→∀y,s.symbols[b]? =some y→decide (y.arity=0)=false) (s.symbols.length) (fun l=>[(1, .pointer (some ⟨Bd,0,none⟩)),(3, .int .i64 s.symbols.length),(7, .int .i64 l)]) (by simp) (by simp only[go_sem,push_cast,qB,qA]) ?_
   intro l Bl hIl hil hBl
   refine cv (by kernel_rfl) ?_
   rcases Nat.lt_or_ge l (s.symbols.length)with hltl|hgel
   ·have e2:s.symbols[l]? =some s.symbols[l]:=List.getElem?_eq_getElem hltl
    refine R e2 ?_
    refine⟨fun h=> ?_,fun h=>fun b hb1 y hb2=> ?_⟩
    ·rw[if_pos (any_hit hltl (by simpa using h))]
    ·by_cases e:b=l
     ·subst e;rw[e2]at hb2;cases hb2;simpa using h
     ·simpa using hIl b (by omega) y hb2
   ·refine R0 ?_
    refine cv (by kernel_rfl) ?_
    refine R0 ?_
    rw[if_neg (by rw[vG fun j hj x hx=>hIl j (by omega) x hx];simp)]
def W284:qJ:=fun args H Bd K=>∃(data:List UInt8),args=[lst data]∧((data.length≤1000000)∧K (.tuple #[.agg (enc ((rd2 data).1)).toArray, .int .i64 ((rd2 data).2)]) H Bd)
@[go_sem ↓] theorem W284_eq (data:List UInt8):W284 [lst data] H Bd K=((data.length≤1000000)∧K (.tuple #[.agg (enc ((rd2 data).1)).toArray, .int .i64 ((rd2 data).2)]) H Bd):=ex1 data rfl
set_option maxHeartbeats 2000000 in
theorem W284_ok:OK 284 W284:=by
 rintro args H Bd K ⟨data,rfl,hpre,hK⟩
 refine yE pok ((Env.base _).add 72 _ W72_ok) [(7,[],[],(.k 7 (.grp true 21 23 2 [22,23] 24 none (.k 2 .nil) .nil))),(14,[0,1,2,3,4,5,6,7,8,9,10,11,12,13,14,15,16,17,18,19,20,21,22,23],[⟨0,[],[]⟩,⟨1,[],[]⟩,⟨2,[],[]⟩,⟨3,[],[]⟩,⟨4,[],[]⟩,⟨5,[],[]⟩,⟨6,[],[]⟩,⟨7,[],[]⟩,⟨8,[],[]⟩,⟨9,[],[]⟩,⟨10,[],[]⟩,⟨11,[],[]⟩,⟨12,[],[]⟩,⟨13,[],[]⟩,⟨14,[],[]⟩,⟨15,[],[]⟩,⟨16,[],[]⟩,⟨17,[],[]⟩,⟨18,[],[]⟩,⟨19,[],[]⟩,⟨20,[],[]⟩,⟨21,[20],[]⟩,⟨22,[],[]⟩,⟨23,[20],[]⟩], .nil)] _ hK Tryz.func284 rfl (rs:=[.cell 2 44, .tmp 3]) rfl Tryz.ntmps284 (by simp) Tryz.call284 (by kernel_rfl) (fun ha hb=>tup_nb ⟨agg_nb _ _, .int _ _,trivial⟩) (fun hb ha=> ?_)
 refine jH pok fun cv=> ?_
 by_cases h0:data.length<1
 ·have e:rd2 data=(⟨[]⟩,0):=by unfold rd2;rw[if_pos h0]
  rw[e]
  exact R h0 trivial
 have e0:data[0]? =some (data[0]'(by omega)):=List.getElem?_eq_getElem _
 have f0:data.getD 0 0=data[0]'(by omega):=getD_some e0
 have b0:((data[0]'(by omega)).toNat:Int)≤255:=by have:=(data[0]'(by omega)).toNat_lt;omega
 generalize hc:(data[0]'(by omega))=c at*
 have hN:rd2 data=match sp2 data (min c.toNat 7)with|none=>(⟨[]⟩,0)|some (l,p)=>if yK ⟨l⟩≠0 then(⟨[]⟩,0)else(⟨l⟩,(p:Int)):=by
  unfold rd2;rw[if_neg h0,f0];rfl
 refine R h0 ?_
 refine kB (X:=Nat×List GSymbol×Nat) hb (by omega) 1 [.m (Bd+2) 0] rfl (fun x=>x.1≤min c.toNat 7∧sp2 data x.1=some (x.2.1,x.2.2)) (fun x=>7-x.1) (fun Nx x=>[(0,lst data),(2, .pointer (some ⟨Bd,0,none⟩)),(4, .pointer (some ⟨Bd+1,0,none⟩)),(5, .pointer (some ⟨Bd+2,0,none⟩)),(6, .int .i64 x.2.2),(7, .int .i64 x.1)]) (fun Nx x=>[(Bd,⟨[.slice none 0 0],true⟩),(Bd+1,⟨[.slice none 0 0],true⟩),(Bd+2,⟨[.slice (some ⟨Nx,0,some 2⟩) x.2.1.length (x.2.1.length+1)],true⟩),(Nx,⟨qQ x.2.1,true⟩)]) (0,[],1) (⟨Nat.zero_le _,rfl⟩) (fun Nx hNx=>(cant)) ?_
 intro Nx x hNx hIx hbx Fx hFx
 simp only[mem_cons,jK]at hbx ⊢
 refine cv (by kernel_rfl) ?_
 obtain⟨i,out,p⟩:=x
 obtain⟨i1,i2⟩:=hIx
 simp only at i1 i2
 obtain⟨l1,l2,l3,l4⟩:=sp2_len i2
 have l5:=l2 (by omega)
 by_cases hgo:i<min c.toNat 7
 ·have g1:(i:Int)<(c.toNat:Int):=by omega
  have g2:(i:Int)≤6:=by omega
  have hst:sp2 data (i+1)=if data.length≤p then none else if data.length<p+(data.getD p 0).toNat+2 then none
   else some (out++[⟨bstr ((data.drop (p+1)).take (data.getD p 0).toNat),((data.getD (p+1+(data.getD p 0).toNat) 0).toNat:Int)⟩],p+(data.getD p 0).toNat+2):=by
   conv=>lhs;unfold sp2
   rw[i2]
  by_cases hp:data.length≤p
  ·have hn:=sp2_none (by rw[hst,if_pos hp]) (min c.toNat 7) (show i+1≤_ by omega)
   have e:rd2 data=(⟨[]⟩,0):=by rw[hN,hn]
   rw[e]
   exact R (cj e0 (cj hc (cj g1 (cj g2 hp)))) trivial
  have e1:data[p]? =some (data[p]'(by omega)):=List.getElem?_eq_getElem _
  have f1:data.getD p 0=data[p]'(by omega):=getD_some e1
  have b1:((data[p]'(by omega)).toNat:Int)≤255:=by have:=(data[p]'(by omega)).toNat_lt;omega
  rw[if_neg hp,f1]at hst
  generalize hk:(data[p]'(by omega))=k at*
  by_cases hp2:data.length<p+k.toNat+2
  ·have hn:=sp2_none (by rw[hst,if_pos hp2]) (min c.toNat 7) (show i+1≤_ by omega)
   have e:rd2 data=(⟨[]⟩,0):=by rw[hN,hn]
   have hp2':(data.length:Int)<(p:Int)+(k.toNat:Int)+2:=by omega
   rw[e]
   exact R (cj e0 (cj hc (cj e1 (cj hk (cj g1 (cj g2 (cj hp hp2'))))))) trivial
  rw[if_neg hp2]at hst
  have hp2':¬(data.length:Int)<(p:Int)+(k.toNat:Int)+2:=by omega
  have e2:data[p+1+k.toNat]? =some (data[p+1+k.toNat]'(by omega)):=List.getElem?_eq_getElem _
  have f2:data.getD (p+1+k.toNat) 0=data[p+1+k.toNat]'(by omega):=getD_some e2
  have b2:((data[p+1+k.toNat]'(by omega)).toNat:Int)≤255:=by have:=(data[p+1+k.toNat]'(by omega)).toNat_lt;omega
  rw[f2]at hst
  have c1:((p:Int)+1).toNat=p+1:=by omega
  have c2:((p:Int)+1+(k.toNat:Int)).toNat=p+1+k.toNat:=by omega
  have hdt:List.drop (p+1) (List.take (p+1+k.toNat) data)=List.take k.toNat (List.drop (p+1) data):=by rw[List.drop_take,Nat.add_sub_cancel_left]
  refine RA (cj e0 (cj hc (cj e1 (cj hk (cj e2 (cj g1 (cj g2 (cj hp (cj hp2' (cj c1 (cj c2 hdt))))))))))) ?_
  refine hFx (i+1,out++[⟨bstr (List.take k.toNat (List.drop (p+1) data)),((data[p+1+k.toNat]'(by omega)).toNat:Int)⟩],p+k.toNat+2) _ _ _ ?_ ?_ (by simp only[go_sem,push_cast,qB,qA]) ((canf enc_GSymbol))
  ·show 7-(i+1)<7-i
   omega
  ·exact⟨show i+1≤_ by omega,hst⟩
 obtain rfl:i=min c.toNat 7:=by omega
 rw[i2]at hN
 simp only at hN
 have hsm:sm (⟨out⟩:GSignature):=⟨show out.length≤281474976710656 by omega,fun x hx=>⟨show x.name.size≤281474976710656 by have:=l4 x hx;omega,trivial⟩⟩
 by_cases g1:((min c.toNat 7:Nat):Int)<(c.toNat:Int)
 case' pos=>have g2:¬((min c.toNat 7:Nat):Int)≤6:=by omega
 case' neg=>have g2:True:=trivial
 all_goals
  refine R (cj e0 (cj hc (cj g1 g2))) ?_
  refine Tr.to hb (by omega) 0 [] rfl (fun Nk=>[(0,lst data),(2, .pointer (some ⟨Bd,0,none⟩)),(4, .pointer (some ⟨Bd+1,0,none⟩)),(5, .pointer (some ⟨Bd+2,0,none⟩)),(6, .int .i64 p)]) (fun Nk=>[(Bd,⟨[.slice none 0 0],true⟩),(Bd+1,⟨[.slice none 0 0],true⟩),(Bd+2,⟨[lst out],true⟩)]) (fun Nk hNk=>(cant)) ?_
  intro Nk hNk hbk
  simp only[mem_cons,jK]at hbk ⊢
  refine cv (by kernel_rfl) ?_
  by_cases hf:yK ⟨out⟩=0
  ·rw[if_neg (by simpa using hf)]at hN
   rw[hN]
   exact R (cj hsm hf) trivial
  ·rw[if_pos hf]at hN
   rw[hN]
   exact R (cj hsm hf) trivial
def W107:qJ:=fun args H Bd K=>∃(n:Int),args=[.int .i64 n]∧(K (.bool (isPg n)) H Bd)
@[go_sem ↓] theorem W107_eq (n:Int):W107 [.int .i64 n] H Bd K=(K (.bool (isPg n)) H Bd):=ex1 n rfl
theorem W107_ok:OK 107 W107:=by
 rintro args H Bd K ⟨n,rfl,hK⟩
 refine fnp pok ((Env.base _).add 105 _ W105_ok) [] hK Tryz.func107 Tryz.ntmps107 Tryz.call107 [.tmp 2] fun hb ha=> ?_
 refine R0 ?_
 unfold isPg
 all_goals first|done|trivial|((try simp only[Cnp,Imp]);grind)
def W106:qJ:=fun args H Bd K=>∃(n:Int),args=[.int .i64 n]∧(K (.bool (isRt n)) H Bd)
@[go_sem ↓] theorem W106_eq (n:Int):W106 [.int .i64 n] H Bd K=(K (.bool (isRt n)) H Bd):=ex1 n rfl
theorem W106_ok:OK 106 W106:=by
 rintro args H Bd K ⟨n,rfl,hK⟩
 refine fnp pok ((Env.base _).add 107 _ W107_ok) [(1,[],[],(.k 3 (.grp false 5 7 2 [6,7] 8 none (.k 2 .nil) (.k 1 .nil))))] hK Tryz.func106 Tryz.ntmps106 Tryz.call106 [.tmp 2] fun hb ha=> ?_
 refine R0 ?_
 unfold isRt
 all_goals first|done|trivial|((try simp only[Cnp,Imp]);grind)
def W50:qJ:=fun args H Bd K=>∃(p:GSuper),args=[.agg (enc p).toArray]∧((sm p)∧K (.int .i64 (yO p)) H Bd)
@[go_sem ↓] theorem W50_eq (p_gen:Int) (p_root:Int) (p_shadow:Int) (p_theory:Int) (p_next:Int) (p_version:Int) (p_moving:Bool) (p_cursor:List UInt8) (p_symbols_symbols:List GSymbol):W50 [.agg #[.int .i64 p_gen, .int .i64 p_root, .int .i64 p_shadow, .int .i64 p_theory, .int .i64 p_next, .int .i64 p_version, .bool p_moving,lst p_cursor,lst p_symbols_symbols]] H Bd K=((sm (GSuper.mk p_gen p_root p_shadow p_theory p_next p_version p_moving p_cursor (GSignature.mk p_symbols_symbols)))∧K (.int .i64 (yO (GSuper.mk p_gen p_root p_shadow p_theory p_next p_version p_moving p_cursor (GSignature.mk p_symbols_symbols)))) H Bd):=ex1 (GSuper.mk p_gen p_root p_shadow p_theory p_next p_version p_moving p_cursor (GSignature.mk p_symbols_symbols)) rfl
set_option maxHeartbeats 2000000 in
theorem W50_ok:OK 50 W50:=by
 rintro args H Bd K ⟨p,rfl,hpre,hK⟩
 refine fnp pok (((((Env.base _).add 105 _ W105_ok).add 106 _ W106_ok).add 107 _ W107_ok).add 72 _ W72_ok) [(1,[],[],(.k 5 (.grp false 7 11 4 [8,9,10,11] 12 none (.k 4 .nil) .nil))),(3,[],[],(.k 5 (.grp false 17 21 4 [18,19,20,21] 22 none (.k 4 .nil) (.k 1 (.grp false 23 27 4 [24,25,26,27] 28 none (.k 4 .nil) (.k 1 (.grp false 29 33 4 [30,31,32,33] 34 none (.k 4 .nil) .nil))))))),(7,[],[],(.k 3 (.grp true 41 44 3 [42,43,44] 45 none (.k 3 .nil) (.k 1 (.grp false 46 65 19 [47,48,49,50,51,52,53,54,55,56,57,58,59,60,61,62,63,64,65] 66 none (.k 4 (.grp true 50 64 14 [51,52,53,54,55,56,57,58,59,60,61,62,63,64] 65 (some (46,false)) (.k 4 (.grp false 54 57 3 [55,56,57] 58 (some (50,true)) (.k 3 .nil) (.k 1 (.grp false 59 63 4 [60,61,62,63] 64 (some (50,true)) (.k 4 .nil) .nil)))) .nil)) .nil)))))] hK Tryz.func50 Tryz.ntmps50 Tryz.call50 [.tmp 2] fun hb ha=> ?_
 have hss:=hpre
 simp only[sm_GSuper]at hpre
 obtain⟨_,_,_,_,_,_,_,hc,hs⟩:=hpre
 have hlc:=qY hc
 by_cases g:((1≤p.gen∧p.gen≤60000)∧(1≤p.version∧p.version≤60000))∧isRt p.root=true∧isRt p.shadow=true∧isRt p.next_=true∧isPg p.theory=true
 case neg=>
  have e:yO p=3:=by unfold yO;rw[if_neg g]
  by_cases g1:1≤p.gen∧p.gen≤60000
  case neg=>
   refine R (cj hs (cj e g1)) ?_
   all_goals first|done|trivial|((try simp only[Cnp,Imp]);grind)
  by_cases g2:1≤p.version∧p.version≤60000
  case neg=>
   refine R (cj hs (cj e (cj g1 g2))) ?_
   all_goals first|done|trivial|((try simp only[Cnp,Imp]);grind)
  by_cases g3:isRt p.root=true
  case neg=>simp (maxSteps:=2000000) (disch:=first|assumption|(refine qI ?_;assumption)|exact Nat.le_add_right _ _|exact Nat.le_refl _|omega|(simp (disch:=first|exact Nat.le_add_right _ _|omega) only[qG hb,qR hb,qM,qE hb,qC];done)|fail) only[go_sem,push_cast,qB,qA,qG hb,qE hb,hs,e,g1,g2,g3]
  by_cases g4:isRt p.shadow=true
  case neg=>simp (maxSteps:=2000000) (disch:=first|assumption|(refine qI ?_;assumption)|exact Nat.le_add_right _ _|exact Nat.le_refl _|omega|(simp (disch:=first|exact Nat.le_add_right _ _|omega) only[qG hb,qR hb,qM,qE hb,qC];done)|fail) only[go_sem,push_cast,qB,qA,qG hb,qE hb,hs,e,g1,g2,g3,g4]
  by_cases g5:isRt p.next_=true
  case neg=>simp (maxSteps:=2000000) (disch:=first|assumption|(refine qI ?_;assumption)|exact Nat.le_add_right _ _|exact Nat.le_refl _|omega|(simp (disch:=first|exact Nat.le_add_right _ _|omega) only[qG hb,qR hb,qM,qE hb,qC];done)|fail) only[go_sem,push_cast,qB,qA,qG hb,qE hb,hs,e,g1,g2,g3,g4,g5]
  have g6:¬isPg p.theory=true:=fun h=>g ⟨⟨g1,g2⟩,g3,g4,g5,h⟩
  exact R (cj hs (cj e (cj g1 (cj g2 (cj g3 (cj g4 (cj g5 g6))))))) trivial
 have hg:yO p=if 16<p.cursor.length then 2 else if(p.moving=true∧p.next_=0)∨(p.moving=false∧(p.shadow≠0∨p.next_≠0∨0<p.cursor.length))then 8 else yK p.symbols:=by unfold yO;rw[if_pos g]
 obtain⟨⟨g1,g2⟩,g3,g4,g5,g6⟩:=g
 by_cases g7:16<p.cursor.length
 ·rw[if_pos g7]at hg
  exact R (cj hs (cj hg (cj g1 (cj g2 (cj g3 (cj g4 (cj g5 (cj g6 g7)))))))) trivial
 rw[if_neg g7]at hg
 have hz0:isRt 0=true:=rfl
 by_cases gm:p.moving=true
 ·have gm2:¬p.moving=false:=by simp[gm]
  by_cases g8:p.next_=0
  ·rw[if_pos (.inl ⟨gm,g8⟩)]at hg
   exact R (cj hs (cj hg (cj g1 (cj g2 (cj g3 (cj g4 (cj g5 (cj g6 (cj g7 (cj hz0 (cj gm g8))))))))))) trivial
  ·rw[if_neg (fun h=>h.elim (fun h=>g8 h.2) fun h=>gm2 h.1)]at hg
   exact R (cj hs (cj hg (cj g1 (cj g2 (cj g3 (cj g4 (cj g5 (cj g6 (cj g7 (cj hz0 (cj gm g8))))))))))) trivial
 ·have gm2:p.moving=false:=by simpa using gm
  by_cases g8:p.shadow=0
  case neg=>
   rw[if_pos (.inr ⟨gm2, .inl g8⟩)]at hg
   exact R (cj hs (cj hg (cj g1 (cj g2 (cj g3 (cj g4 (cj g5 (cj g6 (cj g7 (cj hz0 (cj gm2 g8))))))))))) trivial
  by_cases g9:p.next_=0
  case neg=>
   rw[if_pos (.inr ⟨gm2, .inr (.inl g9)⟩)]at hg
   exact R (cj hs (cj hg (cj g1 (cj g2 (cj g3 (cj g4 (cj g5 (cj g6 (cj g7 (cj hz0 (cj gm2 (cj g8 g9)))))))))))) trivial
  by_cases g10:0<p.cursor.length
  ·rw[if_pos (.inr ⟨gm2, .inr (.inr g10)⟩)]at hg
   exact R (cj hs (cj hg (cj g1 (cj g2 (cj g3 (cj g4 (cj g5 (cj g6 (cj g7 (cj hz0 (cj gm2 (cj g8 (cj g9 g10))))))))))))) trivial
  ·rw[if_neg (fun h=>h.elim (fun h=>gm h.1) fun h=>h.2.elim (fun h=>h g8) fun h=>h.elim (fun h=>h g9) g10)]at hg
   exact R (cj hs (cj hg (cj g1 (cj g2 (cj g3 (cj g4 (cj g5 (cj g6 (cj g7 (cj hz0 (cj gm2 (cj g8 (cj g9 g10))))))))))))) trivial
def U239:qJ:=fun args H Bd K=>∃(n:Int),args=[.int .i64 n]∧((0≤n∧n≤65535)∧K (.slice (some ⟨Bd,0,some 1⟩) (jP n).length ((jP n).length+1)) (upd H Bd (some ⟨qQ (jP n),true⟩)) (Bd+1))
@[go_sem ↓] theorem U239_eq (n:Int):U239 [.int .i64 n] H Bd K=((0≤n∧n≤65535)∧K (.slice (some ⟨Bd,0,some 1⟩) (jP n).length ((jP n).length+1)) (upd H Bd (some ⟨qQ (jP n),true⟩)) (Bd+1)):=ex1 n rfl
theorem U239_ok:OK 239 U239:=by
 rintro args H Bd K ⟨n,rfl,hpre,hK⟩
 refine fn_own pok (Env.base _) [] (.slice (some ⟨Bd,0,some 1⟩) (jP n).length ((jP n).length+1)) [qQ (jP n)] hK Tryz.func239 rfl (rs:=[.tmp 2]) rfl Tryz.ntmps239 (by simp) Tryz.call239 (by kernel_rfl) (fun cells hc v hv=>by simp only[List.mem_cons,List.not_mem_nil,or_false]at hc;rcases hc with rfl <;>exact flat_nb _ _ _ hv) (fun hb ha=> ?_)
 obtain⟨h1,h2⟩:=hpre
 have e1:n.tdiv 256=n/256:=Int.tdiv_eq_ediv_of_nonneg h1
 have e2:n.tmod 256=n%256:=Int.tmod_eq_emod_of_nonneg h1
 have e3:n%256%256=n%256:=by omega
 have hl:2=(jP n).length:=rfl
 simp (maxSteps:=2000000) (disch:=first|assumption|(refine qI ?_;assumption)|exact Nat.le_add_right _ _|exact Nat.le_refl _|omega|(simp (disch:=first|exact Nat.le_add_right _ _|omega) only[qG hb,qR hb,qM,qE hb,qC];done)|fail) only[go_sem,push_cast,qB,qA,qG hb,qE hb,e1,e2,e3,←pairB_flat n]
 all_goals (first|done|trivial|omega|simp)
def V298:qJ:=fun args H Bd K=>∃(s:GSignature),args=[.agg (enc s).toArray]∧((sm s∧SigOK s)∧K (lst (sigB s)) H Bd)
@[go_sem ↓] theorem V298_eq (s_symbols:List GSymbol):V298 [.agg #[lst s_symbols]] H Bd K=((sm (GSignature.mk s_symbols)∧SigOK (GSignature.mk s_symbols))∧K (lst (sigB (GSignature.mk s_symbols))) H Bd):=ex1 (GSignature.mk s_symbols) rfl
def W298:qJ:=fun args H Bd K=>∃(ps:Value),args=[ps]∧Yld (qK H 1 ps) fun cs=>qS V298 [.agg cs.toArray] H Bd K
@[go_sem ↓] theorem W298_eq (ps:Value):W298 [ps] H Bd K=(Yld (qK H 1 ps) fun cs=>qS V298 (idS [.agg cs.toArray]) H Bd K):=by
 refine propext ⟨fun h=> ?_,fun h=>⟨_,rfl,h⟩⟩
 obtain⟨ps',e,h⟩:=h
 simp only[List.cons.injEq,and_true]at e
 obtain rfl:=e
 exact h
set_option maxHeartbeats 2000000 in
theorem W298_ok:OK 298 W298:=by
 rintro args H Bd K ⟨ps,rfl,cs,es,h⟩
 obtain⟨s,e,hpre,hK⟩:=h
 simp only[List.cons.injEq,and_true]at e
 have Es:=e
 obtain rfl:=qZ Es
 refine fnp pok (Env.base _) [] hK Tryz.func298 Tryz.ntmps298 Tryz.call298 [.tmp 2] fun hb ha=> ?_
 have Ps:=qO es (NB.vpok (ha ps (by simp)))
 simp only[qP]at Ps
 have Zs:=Ps.all 1 rfl
 have Ys:=jJ (ha ps (by simp))
 refine jH pok fun cv=> ?_
 obtain⟨h1,hs⟩:=hpre
 have hlen:=hs.len
 refine RA Zs ?_
 refine kB (X:=Nat) hb (by omega) 1 [.s 3] rfl (fun x=>x≤s.symbols.length) (fun x=>s.symbols.length-x) (fun Nx x=>[(0,ps),(3, .slice (some ⟨Nx,0,some 1⟩) (sigA s x).length ((sigA s x).length+1)),(4, .int .i64 x)]) (fun Nx x=>[(Nx,⟨qQ (sigA s x),true⟩)]) 0 (Nat.zero_le _) (fun Nx hNx=>(by simp (disch:=first|assumption|omega|(simp (disch:=omega) only[qC,qE hb];done)|(simp (disch:=first|omega|(simp (disch:=omega) only[qC,qE hb];done)) only[go_sem,push_cast,qB,qA,qC,qE hb];done)|fail) only[go_sem,push_cast,qB,qA,qM,qG hb,qC,qE hb,jC,qL,qU,jS,jI,jD,jX,jL,List.append_assoc,List.length_append,List.length_cons,List.length_nil,Nat.zero_add,rq_nb (ha ps (by simp)),sigA_zero,jD,vA];all_goals (try simp only[Value.int.injEq,Value.slice.injEq,true_and,and_true]) <;>all_goals (try(first|trivial|omega|grind)))) ?_
 intro Nx x hNx hIx hbx Fx hFx
 simp only[mem_cons,jK]at hbx ⊢
 refine cv (by kernel_rfl) ?_
 rcases Nat.lt_or_ge x s.symbols.length with hlt|hge
 ·have e1:s.symbols[x]? =some s.symbols[x]:=List.getElem?_eq_getElem hlt
  have hl:=sigA_len (fun y hy=>(hs.nm y hy).1) x hIx
  have hnm:=isNm_size (hs.nm _ (List.getElem_mem hlt)).1
  have hst:=sigA_succ e1
  have hsl:(sigA s (x+1)).length=(sigA s x).length+1+s.symbols[x].name.size+1:=by
   rw[hst,List.length_append];unfold symB
   simp only[List.length_cons,List.length_append,List.length_nil,vT];omega
  simp (maxSteps:=2000000) (disch:=first|assumption|(refine qI ?_;assumption)|exact Nat.le_add_right _ _|exact Nat.le_refl _|omega|(simp (disch:=first|exact Nat.le_add_right _ _|omega) only[qG hb,qR hb,qM,qE hb,qC];done)|fail) only[go_sem,push_cast,qB,qA,qG hb,qE hb,Zs,e1,appVal,yU,HB.no hb,vT,take_lo,len_lo]
  refine hFx (x+1) _ _ _ ?_ ?_ (by simp only[go_sem,push_cast,qB,qA]) ((by simp (disch:=first|assumption|omega|(simp (disch:=omega) only[qC,qE hb];done)|(simp (disch:=first|omega|(simp (disch:=omega) only[qC,qE hb];done)) only[go_sem,push_cast,qB,qA,qC,qE hb];done)|fail) only[go_sem,push_cast,qB,qA,qM,qG hb,qC,qE hb,jC,qL,qU,jS,jI,jD,jX,jL,List.append_assoc,List.length_append,List.length_cons,List.length_nil,Nat.zero_add,rq_nb (ha ps (by simp)),hst,hsl,vT,symB,vA,jO,List.cons_append,List.nil_append,Nat.add_assoc];all_goals (try simp only[Value.int.injEq,Value.slice.injEq,true_and,and_true]) <;>all_goals (try(first|trivial|omega|grind))))
  ·show s.symbols.length-(x+1)<s.symbols.length-x
   omega
  ·exact hlt
 ·obtain rfl:x=s.symbols.length:=Nat.le_antisymm hIx hge
  have hall:=sigA_all s
  refine R Zs ?_
  refine cv (by kernel_rfl) ?_
  refine R (cj Zs hall.symm) ?_
  exact jA (by simp (disch:=first|assumption|omega) only[go_sem,push_cast,qB,qA]) (hb.fresh _ (by omega)) rfl (by first|rfl|exact(kI _).symm|simp|omega)
theorem L240_pure:PureV W240:=by
 rintro args H Bd K ⟨x0,rfl,hpre,hK⟩
 exact⟨_,by first|exact .bool _|exact .int _ _|exact .string _|exact vc_enc _,hK,fun H' K' hs h=>⟨x0,rfl,hpre,h⟩⟩
def L240:qJ:=LendA W240
@[go_sem ↓] theorem L240_eq (v0:Value):L240 [v0] H Bd K=qS W240 (idS [giveA H v0]) H Bd K:=(rfl)
theorem L240_ok:OK 240 L240:=LendA_ok W240_ok L240_pure
def V231:qJ:=fun args H Bd K=>∃(p:GSuper),args=[.agg (enc p).toArray]∧((sm p∧SuperOK p)∧K (lst (packS p)) H Bd)
@[go_sem ↓] theorem V231_eq (p_gen:Int) (p_root:Int) (p_shadow:Int) (p_theory:Int) (p_next:Int) (p_version:Int) (p_moving:Bool) (p_cursor:List UInt8) (p_symbols_symbols:List GSymbol):V231 [.agg #[.int .i64 p_gen, .int .i64 p_root, .int .i64 p_shadow, .int .i64 p_theory, .int .i64 p_next, .int .i64 p_version, .bool p_moving,lst p_cursor,lst p_symbols_symbols]] H Bd K=((sm (GSuper.mk p_gen p_root p_shadow p_theory p_next p_version p_moving p_cursor (GSignature.mk p_symbols_symbols))∧SuperOK (GSuper.mk p_gen p_root p_shadow p_theory p_next p_version p_moving p_cursor (GSignature.mk p_symbols_symbols)))∧K (lst (packS (GSuper.mk p_gen p_root p_shadow p_theory p_next p_version p_moving p_cursor (GSignature.mk p_symbols_symbols)))) H Bd):=ex1 (GSuper.mk p_gen p_root p_shadow p_theory p_next p_version p_moving p_cursor (GSignature.mk p_symbols_symbols)) rfl
def W231:qJ:=fun args H Bd K=>∃(pp:Value),args=[pp]∧Yld (qK H 9 pp) fun cp=>qS V231 [.agg cp.toArray] H Bd K
@[go_sem ↓] theorem W231_eq (pp:Value):W231 [pp] H Bd K=(Yld (qK H 9 pp) fun cp=>qS V231 (idS [.agg cp.toArray]) H Bd K):=by
 refine propext ⟨fun h=> ?_,fun h=>⟨_,rfl,h⟩⟩
 obtain⟨pp',e,h⟩:=h
 simp only[List.cons.injEq,and_true]at e
 obtain rfl:=e
 exact h
set_option maxHeartbeats 2000000 in
theorem W231_ok:OK 231 W231:=by
 rintro args H Bd K ⟨pp,rfl,cp,ep,h⟩
 obtain⟨p,e,hpre,hK⟩:=h
 simp only[List.cons.injEq,and_true]at e
 have Ep:=e
 obtain rfl:=qZ Ep
 refine fnp pok ((((Env.base _).add 239 _ U239_ok).add 298 _ W298_ok).add 240 _ L240_ok) [(2,[0,1,2,3,4,5,6,7,8,9,10,11,12,13,14,15,16,17,18,19,20,21,22,23],[⟨0,[],[]⟩,⟨1,[],[]⟩,⟨2,[],[]⟩,⟨3,[],[]⟩,⟨4,[],[]⟩,⟨5,[],[]⟩,⟨6,[],[]⟩,⟨7,[],[]⟩,⟨8,[],[]⟩,⟨9,[],[]⟩,⟨10,[],[]⟩,⟨11,[],[]⟩,⟨12,[],[]⟩,⟨13,[],[]⟩,⟨14,[],[]⟩,⟨15,[],[]⟩,⟨16,[],[]⟩,⟨17,[],[]⟩,⟨18,[],[]⟩,⟨19,[],[]⟩,⟨20,[],[]⟩,⟨21,[],[]⟩,⟨22,[21],[]⟩,⟨23,[],[]⟩], .nil)] hK Tryz.func231 Tryz.ntmps231 Tryz.call231 [.tmp 2] fun hb ha=> ?_
 have Pp:=qO ep (NB.vpok (ha pp (by simp)))
 simp only[qP,enc_GSuper]at Pp
 have Zp:=Pp.all 9 rfl
 have Yp:=jJ (ha pp (by simp))
 refine jH pok fun cv=> ?_
 obtain⟨h1,hS⟩:=hpre
 simp only[sm_GSuper]at h1
 obtain⟨_,_,_,_,_,_,_,hc,hs⟩:=h1
 have hg:=hS.gen
 have hv:=hS.ver
 have hcl:=hS.cur
 have hk:=yW hS.sig
 have hsl:=sigB_len hk
 have hHl:=supH_len (p:=p)
 have hPl:=supP_len hS
 have pg:=jZ p.gen
 have pv:=jZ p.version
 have pq:=jZ (sumB 29 (supP p))
 have hsr:=sum_rg (supP p)
 have hsmP:sm (supP p):=⟨by omega,fun _ _=>trivial⟩
 have hPx:∀m:Int,m=((movB p).toNat:Int)→qQ (jP p.gen)++[Value.int .u8 (p.root%256),Value.int .u8 (p.shadow%256),Value.int .u8 (p.theory%256),Value.int .u8 (p.next_%256)]++qQ (jP p.version)++[Value.int .u8 m,Value.int .u8 ((p.cursor.length:Int)%256)]++qQ p.cursor++qQ (sigB p.symbols)=qQ (supH p):=fun m hm=>by
  subst hm
  unfold supH
  simp only[qL,jO,jC,jD,vA,List.append_assoc,List.cons_append,List.nil_append]
 by_cases hm:p.moving=true
 case' pos=>have hP:=hPx 1 (by unfold movB;rw[if_pos hm];rfl)
 case' neg=>have hP:=hPx 0 (by unfold movB;rw[if_neg hm];rfl)
 all_goals
  refine RL (cj Zp (cj hs (cj hk (cj hm (cj jZ hP))))) ?_
  refine kB (X:=Nat) hb (by omega) 1 [.s 3] rfl (fun x=>x≤92-(supH p).length) (fun x=>92-(supH p).length-x) (fun Nx x=>[(0,pp),(3, .slice (some ⟨Nx,0,some 1⟩) (supH p++List.replicate x (0:UInt8)).length ((supH p++List.replicate x (0:UInt8)).length+1))]) (fun Nx x=>[(Nx,⟨qQ (supH p++List.replicate x (0:UInt8)),true⟩)]) 0 (Nat.zero_le _) (fun Nx hNx=>(canf (cj Yp hHl))) ?_
  intro Nx x hNx hIx hbx Fx hFx
  simp only[mem_cons,jK]at hbx ⊢
  refine cv (by kernel_rfl) ?_
  have hxl:(supH p++List.replicate x (0:UInt8)).length=(supH p).length+x:=by rw[List.length_append,List.length_replicate]
  by_cases hlt:(supH p++List.replicate x (0:UInt8)).length<92
  ·refine RA (cj Zp hlt) ?_
   refine hFx (x+1) _ _ _ ?_ ?_ (by simp only[go_sem,push_cast,qB,qA]) ((by simp (disch:=first|assumption|omega|(simp (disch:=omega) only[qC,qE hb];done)|(simp (disch:=first|omega|(simp (disch:=omega) only[qC,qE hb];done)) only[go_sem,push_cast,qB,qA,qC,qE hb];done)|fail) only[go_sem,push_cast,qB,qA,qM,qG hb,qC,qE hb,jC,qL,qU,jS,jI,jD,jX,jL,List.append_assoc,List.length_append,List.length_cons,List.length_nil,Nat.zero_add,rq_nb (ha pp (by simp)),List.replicate_succ',List.length_replicate];all_goals (try simp only[Value.int.injEq,Value.slice.injEq,true_and,and_true]) <;>all_goals (try(first|trivial|omega|grind))))
   ·show 92-(supH p).length-(x+1)<92-(supH p).length-x
    omega
   ·show x+1≤92-(supH p).length
    omega
  ·obtain rfl:x=92-(supH p).length:=by omega
   have hQ:supH p++List.replicate (92-(supH p).length) (0:UInt8)=supP p:=rfl
   refine R (cj Zp hlt) ?_
   rw[hQ]at hxl ⊢
   refine cv (by kernel_rfl) ?_
   refine RL (cj Zp (cj jZ (cj hPl hsmP))) ?_
   unfold packS
   exact jA (by simp (disch:=first|assumption|omega) only[go_sem,push_cast,qB,qA,qL,qU,jS,jI,jD,jX,jL,List.append_assoc,List.cons_append,List.nil_append]) (hb.fresh _ (by omega)) rfl (lenS hPl)
def W211:qJ:=fun args H Bd K=>∃(data:List UInt8),args=[lst data]∧((data.length=96)∧K (.tuple #[.agg (enc ((rdS data).1)).toArray, .int .i64 ((rdS data).2)]) H Bd)
@[go_sem ↓] theorem W211_eq (data:List UInt8):W211 [lst data] H Bd K=((data.length=96)∧K (.tuple #[.agg (enc ((rdS data).1)).toArray, .int .i64 ((rdS data).2)]) H Bd):=ex1 data rfl
set_option maxHeartbeats 2000000 in
theorem W211_ok:OK 211 W211:=by
 rintro args H Bd K ⟨data,rfl,hpre,hK⟩
 refine yE pok (((((((Env.base _).add 240 _ W240_ok).add 239 _ W239_ok).add 241 _ W241_ok).add 284 _ W284_ok).add 50 _ W50_ok).add 231 _ W231_ok) [(3,[0,1,2,3,4,5,6,7,8,9,10,11,12,13,14,15,16,17,18,19],[⟨0,[],[]⟩,⟨1,[],[]⟩,⟨2,[],[]⟩,⟨3,[],[]⟩,⟨4,[],[]⟩,⟨5,[],[]⟩,⟨6,[],[]⟩,⟨7,[],[]⟩,⟨8,[],[]⟩,⟨9,[],[]⟩,⟨10,[],[]⟩,⟨11,[],[]⟩,⟨12,[],[]⟩,⟨13,[],[]⟩,⟨14,[],[]⟩,⟨15,[],[]⟩,⟨16,[],[]⟩,⟨17,[],[]⟩,⟨18,[],[]⟩,⟨19,[],[]⟩], .nil),(5,[0,1,2,3,7,8,9,10,11,12,13,4,5,6,14],[⟨0,[],[]⟩,⟨1,[],[]⟩,⟨2,[],[]⟩,⟨3,[],[]⟩,⟨7,[],[]⟩,⟨8,[],[]⟩,⟨9,[],[]⟩,⟨10,[],[]⟩,⟨11,[],[]⟩,⟨12,[],[]⟩,⟨13,[],[]⟩,⟨4,[],[13]⟩,⟨5,[],[13]⟩,⟨6,[],[]⟩,⟨14,[],[]⟩], .nil),(7,[0,1,2,3,4,5,6,7,8,9,10,11,12,13,14,15,16,17,18,19,20,21,22,23,24,25,26,27,28,29,30,31,32,33,34,35,36,37,38,39,40,41,42],[⟨0,[],[]⟩,⟨1,[],[]⟩,⟨2,[],[]⟩,⟨3,[],[]⟩,⟨4,[],[]⟩,⟨5,[],[]⟩,⟨6,[],[]⟩,⟨7,[],[]⟩,⟨8,[],[]⟩,⟨9,[],[]⟩,⟨10,[],[]⟩,⟨11,[],[]⟩,⟨12,[],[]⟩,⟨13,[],[]⟩,⟨14,[],[]⟩,⟨15,[],[]⟩,⟨16,[],[]⟩,⟨17,[],[]⟩,⟨18,[],[]⟩,⟨19,[],[]⟩,⟨20,[],[]⟩,⟨21,[],[]⟩,⟨22,[],[]⟩,⟨23,[],[]⟩,⟨24,[],[]⟩,⟨25,[],[]⟩,⟨26,[],[]⟩,⟨27,[],[]⟩,⟨28,[],[]⟩,⟨29,[],[]⟩,⟨30,[],[]⟩,⟨31,[],[]⟩,⟨32,[],[]⟩,⟨33,[],[]⟩,⟨34,[],[]⟩,⟨35,[],[]⟩,⟨36,[],[]⟩,⟨37,[],[]⟩,⟨38,[],[]⟩,⟨39,[],[]⟩,⟨40,[],[]⟩,⟨41,[],[]⟩,⟨42,[41],[]⟩], .nil),(16,[0,1,2,3,6,7,4,5,8,9],[⟨0,[],[]⟩,⟨1,[],[]⟩,⟨2,[],[]⟩,⟨3,[],[]⟩,⟨6,[],[]⟩,⟨7,[],[]⟩,⟨4,[],[7]⟩,⟨5,[],[]⟩,⟨8,[],[]⟩,⟨9,[],[]⟩], .nil)] _ hK Tryz.func211 rfl (rs:=[.cell 2 46, .tmp 3]) rfl Tryz.ntmps211 (by simp) Tryz.call211 (by kernel_rfl) (fun ha hb=>tup_nb ⟨agg_nb _ _, .int _ _,trivial⟩) (fun hb ha=> ?_)
 have g0:data[0]? =some (data[0]'(by omega)):=List.getElem?_eq_getElem _
 have g1:data[1]? =some (data[1]'(by omega)):=List.getElem?_eq_getElem _
 have g2:data[2]? =some (data[2]'(by omega)):=List.getElem?_eq_getElem _
 have g3:data[3]? =some (data[3]'(by omega)):=List.getElem?_eq_getElem _
 have g4:data[4]? =some (data[4]'(by omega)):=List.getElem?_eq_getElem _
 have g5:data[5]? =some (data[5]'(by omega)):=List.getElem?_eq_getElem _
 have g6:data[6]? =some (data[6]'(by omega)):=List.getElem?_eq_getElem _
 have g7:data[7]? =some (data[7]'(by omega)):=List.getElem?_eq_getElem _
 have g8:data[8]? =some (data[8]'(by omega)):=List.getElem?_eq_getElem _
 have g9:data[9]? =some (data[9]'(by omega)):=List.getElem?_eq_getElem _
 have g94:data[94]? =some (data[94]'(by omega)):=List.getElem?_eq_getElem _
 have g95:data[95]? =some (data[95]'(by omega)):=List.getElem?_eq_getElem _
 have hz:∀i (h:i<data.length),data.getD i 0=data[i]:=fun i h=>getD_some (List.getElem?_eq_getElem h)
 have hby:∀b:UInt8,((b.toNat:Int))≤255:=fun b=>by have:=b.toNat_lt;omega
 have hb6:∀b:UInt8,(b.toNat:Int)≤9223372036854775807:=fun b=>by have:=b.toNat_lt;omega
 have w0:=hby (data[0]'(by omega))
 have w1:=hby (data[1]'(by omega))
 have w6:=hby (data[6]'(by omega))
 have w7:=hby (data[7]'(by omega))
 have hsm92:sm (List.take 92 data):=⟨by rw[List.length_take];omega,fun _ _=>trivial⟩
 have hsr:=sum_rg (List.take 92 data)
 have hd92:List.drop 92 (List.take 94 data)=List.take 2 (List.drop 92 data):=by rw[List.drop_take]
 by_cases h1:data.getD 94 0=data.getD 0 0∧data.getD 95 0=data.getD 1 0
 case neg=>
  have e:rdS data=(yB,8):=by unfold rdS;rw[if_pos h1]
  rw[e];unfold yB
  rw[hz 94 (by omega),hz 0 (by omega),hz 95 (by omega),hz 1 (by omega)]at h1
  by_cases h2:(data[94]'(by omega))=(data[0]'(by omega))
  ·have h3:¬(data[95]'(by omega))=(data[1]'(by omega)):=fun h=>h1 ⟨h2,h⟩
   exact R (cj hpre (cj g0 (cj g1 (cj g94 (cj g95 (cj h2 h3)))))) trivial
  ·exact R (cj hpre (cj g0 (cj g1 (cj g94 (cj g95 h2))))) trivial
 have hR1:rdS data=if jP (sumB 29 (data.take 92))≠(data.drop 92).take 2 then(yB,11)else rdS5 data:=by unfold rdS;rw[if_neg (fun h=>h h1)]
 rw[hz 94 (by omega),hz 0 (by omega),hz 95 (by omega),hz 1 (by omega)]at h1
 obtain⟨h2,h3⟩:=h1
 by_cases h4:jP (sumB 29 (List.take 92 data))=List.take 2 (List.drop 92 data)
 case neg=>
  rw[if_pos h4]at hR1
  rw[hR1];unfold yB
  exact R (cj hpre (cj g0 (cj g1 (cj g94 (cj g95 (cj h2 (cj h3 (cj hsm92 (cj hd92 h4))))))))) trivial
 rw[if_neg (by simpa using h4)]at hR1
 rw[hR1]
 by_cases h5:16<(data[9]'(by omega)).toNat
 ·have e:rdS5 data=(yB,5):=rdS5_no fun p hp=>by have:=sup9 hp;rw[hz 9 (by omega)]at this;omega
  have h5':(16:Int)<((data[9]'(by omega)).toNat:Int):=by omega
  rw[e];unfold yB
  exact R (cj hpre (cj g0 (cj g1 (cj g2 (cj g3 (cj g4 (cj g5 (cj g6 (cj g7 (cj g8 (cj g9 (cj g94 (cj g95 (cj hb6 (cj h2 (cj h3 (cj hsm92 (cj hd92 (cj h4 h5'))))))))))))))))))) trivial
 have h5':¬(16:Int)<((data[9]'(by omega)).toNat:Int):=by omega
 have hF:=supS_fin (data:=data) (by rw[hz 9 (by omega)];omega)
 rw[hz 9 (by omega)]at hF
 have c9:((10:Int)+((data[9]'(by omega)).toNat:Int)).toNat=10+(data[9]'(by omega)).toNat:=by omega
 have hdt:List.drop 10 (List.take (10+(data[9]'(by omega)).toNat) data)=List.take (data[9]'(by omega)).toNat (List.drop 10 data):=by rw[List.drop_take,Nat.add_sub_cancel_left]
 have hcl:(List.take (data[9]'(by omega)).toNat (List.drop 10 data)).length≤16:=by rw[List.length_take];omega
 have hcl2:(List.take (data[9]'(by omega)).toNat (List.drop 10 data)).length≤1000000:=by omega
 have hdl:(List.drop (10+(data[9]'(by omega)).toNat) (List.take 92 data)).length≤1000000:=by rw[List.length_drop,List.length_take];omega
 generalize hD:List.drop (10+(data[9]'(by omega)).toNat) (List.take 92 data)=D at*
 generalize hCu:List.take (data[9]'(by omega)).toNat (List.drop 10 data)=cur at*
 by_cases h6:(rd2 D).2=0
 ·have e:rdS5 data=(yB,5):=rdS5_no fun p hp=>(hF p hp).1 h6
  rw[e];unfold yB
  exact R (cj hpre (cj g0 (cj g1 (cj g2 (cj g3 (cj g4 (cj g5 (cj g6 (cj g7 (cj g8 (cj g9 (cj g94 (cj g95 (cj hb6 (cj h2 (cj h3 (cj hsm92 (cj hd92 (cj h4 (cj h5' (cj c9 (cj hdt (cj hcl2 (cj hD (cj hCu (cj hdl h6)))))))))))))))))))))))))) trivial
 have hsf:=rd2_ok h6
 have hC:=candS_eq data cur (rd2 D).1
 simp only[b8,hz 0 (by omega),hz 1 (by omega),hz 2 (by omega),hz 3 (by omega),hz 4 (by omega),hz 5 (by omega),hz 6 (by omega),hz 7 (by omega),hz 8 (by omega)]at hC
 have hL:=supS_last (data:=data) (cur:=cur) (sy:=(rd2 D).1) rfl fun p hp=>(hF p hp).2
 have hss:=(yW hsf)
 have hsmC:sm (candS data cur (rd2 D).1):=by
  refine⟨trivial,trivial,trivial,trivial,trivial,trivial,trivial,⟨show cur.length≤281474976710656 by omega,fun _ _=>trivial⟩,?_⟩
  show sm (rd2 D).1
  exact⟨show(rd2 D).1.symbols.length≤281474976710656 by have:=hss.len;omega,fun x hx=>⟨show x.name.size≤281474976710656 by have:=isNm_size (hss.nm x hx).1;omega,trivial⟩⟩
 generalize hK:candS data cur (rd2 D).1=C at*
 by_cases h7:yO C=0
 case neg=>
  rw[hL.2 (.inl h7)];unfold yB
  exact R (cj hpre (cj g0 (cj g1 (cj g2 (cj g3 (cj g4 (cj g5 (cj g6 (cj g7 (cj g8 (cj g9 (cj g94 (cj g95 (cj hb6 (cj h2 (cj h3 (cj hsm92 (cj hd92 (cj h4 (cj h5' (cj c9 (cj hdt (cj hcl2 (cj hD (cj hCu (cj hdl (cj h6 (cj hC.symm (cj hsmC h7))))))))))))))))))))))))))))) trivial
 have hSC:=kH h7
 by_cases h8:packS C=data
 ·rw[hL.1 h7 h8]
  refine R (cj hpre (cj g0 (cj g1 (cj g2 (cj g3 (cj g4 (cj g5 (cj g6 (cj g7 (cj g8 (cj g9 (cj g94 (cj g95 (cj hb6 (cj h2 (cj h3 (cj hsm92 (cj hd92 (cj h4 (cj h5' (cj c9 (cj hdt (cj hcl2 (cj hD (cj hCu (cj hdl (cj h6 (cj hC.symm (cj hsmC (cj hSC (cj h7 h8))))))))))))))))))))))))))))))) ?_
  subst hC
  exact R0 trivial
 ·rw[hL.2 (.inr h8)];unfold yB
  exact R (cj hpre (cj g0 (cj g1 (cj g2 (cj g3 (cj g4 (cj g5 (cj g6 (cj g7 (cj g8 (cj g9 (cj g94 (cj g95 (cj hb6 (cj h2 (cj h3 (cj hsm92 (cj hd92 (cj h4 (cj h5' (cj c9 (cj hdt (cj hcl2 (cj hD (cj hCu (cj hdl (cj h6 (cj hC.symm (cj hsmC (cj hSC (cj h7 h8))))))))))))))))))))))))))))))) trivial
def V147:qJ:=fun args H Bd K=>∃(d:GDisk),args=[.agg (enc d).toArray]∧((sm d∧DiskOK d)∧K (.tuple #[.agg (enc ((jM d).1)).toArray, .int .i64 ((jM d).2)]) H Bd)
@[go_sem ↓] theorem V147_eq (d_sectors:List (List UInt8)) (d_pending:List GPut):V147 [.agg #[lst d_sectors,lst d_pending]] H Bd K=((sm (GDisk.mk d_sectors d_pending)∧DiskOK (GDisk.mk d_sectors d_pending))∧K (.tuple #[.agg (enc ((jM (GDisk.mk d_sectors d_pending)).1)).toArray, .int .i64 ((jM (GDisk.mk d_sectors d_pending)).2)]) H Bd):=ex1 (GDisk.mk d_sectors d_pending) rfl
def W147:qJ:=fun args H Bd K=>∃(pd:Value),args=[pd]∧Yld (qK H 2 pd) fun cd=>qS V147 [.agg cd.toArray] H Bd K
@[go_sem ↓] theorem W147_eq (pd:Value):W147 [pd] H Bd K=(Yld (qK H 2 pd) fun cd=>qS V147 (idS [.agg cd.toArray]) H Bd K):=by
 refine propext ⟨fun h=> ?_,fun h=>⟨_,rfl,h⟩⟩
 obtain⟨pd',e,h⟩:=h
 simp only[List.cons.injEq,and_true]at e
 obtain rfl:=e
 exact h
set_option maxHeartbeats 2000000 in
theorem W147_ok:OK 147 W147:=by
 rintro args H Bd K ⟨pd,rfl,cd,ed,h⟩
 obtain⟨d,e,hpre,hK⟩:=h
 simp only[List.cons.injEq,and_true]at e
 have Ed:=e
 obtain rfl:=qZ Ed
 refine yE pok ((Env.base _).add 211 _ W211_ok) [(8,[],[],(.k 3 (.grp true 33 38 5 [34,35,36,37,38] 39 none (.k 5 .nil) (.k 1 (.grp true 40 45 5 [41,42,43,44,45] 46 none (.k 5 .nil) .nil)))))] _ hK Tryz.func147 rfl (rs:=[.cell 2 46, .tmp 3]) rfl Tryz.ntmps147 (by simp) Tryz.call147 (by kernel_rfl) (fun ha hb=>tup_nb ⟨agg_nb _ _, .int _ _,trivial⟩) (fun hb ha=> ?_)
 have Pd:=qO ed (NB.vpok (ha pd (by simp)))
 simp only[kM]at Pd
 have Zd:=Pd.all 2 rfl
 have Yd:=jJ (ha pd (by simp))
 refine jH pok fun cv=> ?_
 obtain⟨h1,h2⟩:=hpre
 have hsl:=h2.len
 by_cases hp:0<d.pending.length
 ·have e:jM d=(yB,8):=by unfold jM;rw[if_pos hp]
  rw[e];unfold yB
  exact R (cj Zd hp) trivial
 refine R (cj Zd hp) ?_
 refine kB (X:=Nat) hb (by omega) 0 [] rfl (fun x=>x≤2) (fun x=>2-x) (fun Nx x=>[(0,pd),(2, .pointer (some ⟨Bd,0,none⟩)),(4, .pointer (some ⟨Bd+1,0,none⟩)),(5, .int .i64 x)]) (fun Nx x=>[(Bd,⟨[.int .i64 0, .int .i64 0, .int .i64 0, .int .i64 0, .int .i64 0, .int .i64 0, .bool false, .slice none 0 0, .slice none 0 0],true⟩),(Bd+1,⟨[.int .i64 (opB d x).gen, .int .i64 (opB d x).root, .int .i64 (opB d x).shadow, .int .i64 (opB d x).theory, .int .i64 (opB d x).next_, .int .i64 (opB d x).version, .bool (opB d x).moving,lst (opB d x).cursor,lst (opB d x).symbols.symbols],true⟩)]) 0 (Nat.zero_le _) (fun Nx hNx=>(by simp (disch:=first|assumption|omega|(simp (disch:=omega) only[qC,qE hb];done)|(simp (disch:=first|omega|(simp (disch:=omega) only[qC,qE hb];done)) only[go_sem,push_cast,qB,qA,qC,qE hb];done)|fail) only[go_sem,push_cast,qB,qA,qM,qG hb,qC,qE hb,jC,qL,qU,jS,jI,jD,jX,jL,List.append_assoc,List.length_append,List.length_cons,List.length_nil,Nat.zero_add,rq_nb (ha pd (by simp)),opB_zero,yB];all_goals (try simp only[Value.int.injEq,Value.slice.injEq,true_and,and_true]) <;>all_goals (try(first|trivial|omega|grind)))) ?_
 intro Nx x hNx hIx hbx Fx hFx
 simp only[mem_cons,jK]at hbx ⊢
 refine cv (by kernel_rfl) ?_
 have hlt:x<2→x<d.sectors.length:=fun h=>by omega
 by_cases hx:x<2
 ·have e1:d.sectors[x]? =some (d.sectors[x]'(hlt hx)):=List.getElem?_eq_getElem _
  have f1:d.sectors.getD x []=d.sectors[x]'(hlt hx):=getD_some e1
  have hsec:(d.sectors[x]'(hlt hx)).length=96:=h2.sec _ (List.getElem_mem _)
  have hst:opB d (x+1)=if(rdS (d.sectors.getD x [])).2=0∧(rdS (d.sectors.getD x [])).1.gen%2=(x:Int)∧(opB d x).gen<(rdS (d.sectors.getD x [])).1.gen then(rdS (d.sectors.getD x [])).1 else opB d x:=rfl
  rw[f1]at hst
  generalize hD:(d.sectors[x]'(hlt hx))=D at*
  have hsD:sm D:=⟨by omega,fun _ _=>trivial⟩
  have hRD:rdSR D=⟨(rdS D).2,(rdS D).1⟩:=by unfold rdSR;rw[if_neg (by simpa using hsec)]
  generalize hQ:(rdS D).1=Q at*
  have hx':(x:Int)<2:=by omega
  by_cases hc:(rdS D).2=0
  case neg=>
   rw[if_neg (fun h=>hc h.1)]at hst
   refine R (cj Zd (cj e1 (cj hsec (cj hsD (cj hRD (cj hQ (cj hx' hc))))))) ?_
   refine hFx (x+1) _ _ _ ?_ ?_ (by simp only[go_sem,push_cast,qB,qA]) ((canf (cj Yd hst)))
   ·show 2-(x+1)<2-x
    omega
   ·show x+1≤2
    omega
  have hg:=(kH (by rw[←hQ];exact rdS_ok hc:yO Q=0)).gen
  have htm:Q.gen.tmod 2=Q.gen%2:=Int.tmod_eq_emod_of_nonneg (by omega)
  by_cases hm:Q.gen%2=(x:Int)
  case neg=>
   rw[if_neg (fun h=>hm h.2.1)]at hst
   refine R (cj Zd (cj e1 (cj hsec (cj hsD (cj hRD (cj hQ (cj hx' (cj hc (cj htm hm))))))))) ?_
   refine hFx (x+1) _ _ _ ?_ ?_ (by simp only[go_sem,push_cast,qB,qA]) ((canf (cj Yd hst)))
   ·show 2-(x+1)<2-x
    omega
   ·show x+1≤2
    omega
  by_cases hgt:(opB d x).gen<Q.gen
  case neg=>
   rw[if_neg (fun h=>hgt h.2.2)]at hst
   refine R (cj Zd (cj e1 (cj hsec (cj hsD (cj hRD (cj hQ (cj hx' (cj hc (cj htm (cj hm hgt)))))))))) ?_
   refine hFx (x+1) _ _ _ ?_ ?_ (by simp only[go_sem,push_cast,qB,qA]) ((canf (cj Yd hst)))
   ·show 2-(x+1)<2-x
    omega
   ·show x+1≤2
    omega
  rw[if_pos ⟨hc,hm,hgt⟩]at hst
  refine R (cj Zd (cj e1 (cj hsec (cj hsD (cj hRD (cj hQ (cj hx' (cj hc (cj htm (cj hm hgt)))))))))) ?_
  refine hFx (x+1) _ _ _ ?_ ?_ (by simp only[go_sem,push_cast,qB,qA]) ((canf (cj Yd hst)))
  ·show 2-(x+1)<2-x
   omega
  ·show x+1≤2
   omega
 obtain rfl:x=2:=by omega
 have e0:jM d=if(opB d 2).gen=0 then(yB,4)else(opB d 2,0):=by unfold jM;rw[if_neg hp]
 refine R Zd ?_
 refine cv (by kernel_rfl) ?_
 by_cases hg:(opB d 2).gen=0
 ·rw[if_pos hg]at e0
  rw[e0];unfold yB
  exact R (cj Zd hg) trivial
 ·rw[if_neg hg]at e0
  rw[e0]
  exact R (cj Zd hg) trivial
def W167:qJ:=fun args H Bd K=>∃(l:List Int) (n:Int),args=[lst l, .int .i64 n]∧((sm l)∧K (.bool (hasI l n)) H Bd)
@[go_sem ↓] theorem W167_eq (l:List Int) (n:Int):W167 [lst l, .int .i64 n] H Bd K=((sm l)∧K (.bool (hasI l n)) H Bd):=ex2 l n rfl
theorem W167_ok:OK 167 W167:=by
 rintro args H Bd K ⟨l,n,rfl,hpre,hK⟩
 refine fnp pok (Env.base _) [] hK Tryz.func167 Tryz.ntmps167 Tryz.call167 [.tmp 4] fun hb ha=> ?_
 refine jH pok fun cv=> ?_
 have hlen:=qY hpre
 refine R0 ?_
 refine jB (fun i=>∀j,j<i→∀x,l[j]? =some x→decide (x=n)=false) (l.length) (fun i=>[(0,lst l),(1, .int .i64 n),(5, .int .i64 i)]) (by simp) (by simp only[go_sem,push_cast,qB,qA]) ?_
 intro i Bi hIi hii hBi
 refine cv (by kernel_rfl) ?_
 rcases Nat.lt_or_ge i (l.length)with hlti|hgei
 ·have e1:l[i]? =some l[i]:=List.getElem?_eq_getElem hlti
  refine R e1 ?_
  unfold hasI
  refine⟨fun h=> ?_,fun h=>fun j hj x hx=> ?_⟩
  ·rw[any_hit hlti (by simpa using h)]
  ·by_cases e:j=i
   ·subst e;rw[e1]at hx;cases hx;simpa using h
   ·simpa using hIi j (by omega) x hx
 ·refine R0 ?_
  refine cv (by kernel_rfl) ?_
  refine R0 ?_
  unfold hasI
  rw[vG fun j hj x hx=>hIi j (by omega) x hx]
def V244:qJ:=fun args H Bd K=>∃(d:GDisk) (n:Int),args=[.agg (enc d).toArray, .int .i64 n]∧((sm d)∧K (.int .i64 (waitD d n)) H Bd)
@[go_sem ↓] theorem V244_eq (d_sectors:List (List UInt8)) (d_pending:List GPut) (n:Int):V244 [.agg #[lst d_sectors,lst d_pending], .int .i64 n] H Bd K=((sm (GDisk.mk d_sectors d_pending))∧K (.int .i64 (waitD (GDisk.mk d_sectors d_pending) n)) H Bd):=ex2 (GDisk.mk d_sectors d_pending) n rfl
def W244:qJ:=fun args H Bd K=>∃(pd vn:Value),args=[pd,vn]∧Yld (qK H 2 pd) fun cd=>qS V244 [.agg cd.toArray,vn] H Bd K
@[go_sem ↓] theorem W244_eq (pd vn:Value):W244 [pd,vn] H Bd K=(Yld (qK H 2 pd) fun cd=>qS V244 (idS [.agg cd.toArray,vn]) H Bd K):=by
 refine propext ⟨fun h=> ?_,fun h=>⟨_,_,rfl,h⟩⟩
 obtain⟨pd',vn',e,h⟩:=h
 simp only[List.cons.injEq,and_true]at e
 obtain⟨rfl,rfl⟩:=e
 exact h
theorem W244_ok:OK 244 W244:=by
 rintro args H Bd K ⟨pd,vn,rfl,cd,ed,h⟩
 obtain⟨d,n,e,hpre,hK⟩:=h
 simp only[List.cons.injEq,and_true]at e
 obtain⟨Ed,rfl⟩:=e
 obtain rfl:=qZ Ed
 refine fnp pok (Env.base _) [] hK Tryz.func244 Tryz.ntmps244 Tryz.call244 [.tmp 4] fun hb ha=> ?_
 have Pd:=qO ed (NB.vpok (ha pd (by simp)))
 simp only[kM]at Pd
 have Zd:=Pd.all 2 rfl
 have Yd:=jJ (ha pd (by simp))
 refine jH pok fun cv=> ?_
 simp only[sm_GDisk]at hpre
 have hlen:=qY hpre.2
 refine R Zd ?_
 refine jB (fun i=>∀j,j<i→∀x,d.pending[j]? =some x→decide (x.sector=n)=false) (d.pending.length) (fun i=>[(0,pd),(1, .int .i64 n),(5, .int .i64 i)]) (by simp) (by simp only[go_sem,push_cast,qB,qA]) ?_
 intro i Bi hIi hii hBi
 refine cv (by kernel_rfl) ?_
 rcases Nat.lt_or_ge i (d.pending.length)with hlti|hgei
 ·have e1:d.pending[i]? =some d.pending[i]:=List.getElem?_eq_getElem hlti
  refine R (cj Zd e1) ?_
  unfold waitD
  exact⟨fun h=>by rw[vU hlti hIi (by simpa using h)],fun h=>fun j hj x hx=>by
   by_cases e:j=i
   ·subst e;rw[e1]at hx;cases hx;simpa using h
   ·simpa using hIi j (by omega) x hx⟩
 ·refine R Zd ?_
  refine cv (by kernel_rfl) ?_
  refine R Zd ?_
  unfold waitD
  rw[vR fun j hj x hx=>hIi j (by omega) x hx]
def V169:qJ:=fun args H Bd K=>∃(d:GDisk) (n:Int),args=[.agg (enc d).toArray, .int .i64 n]∧((sm d∧DiskOK d∧0≤n∧n<d.sectors.length)∧K (lst (yD d n)) H Bd)
@[go_sem ↓] theorem V169_eq (d_sectors:List (List UInt8)) (d_pending:List GPut) (n:Int):V169 [.agg #[lst d_sectors,lst d_pending], .int .i64 n] H Bd K=((sm (GDisk.mk d_sectors d_pending)∧DiskOK (GDisk.mk d_sectors d_pending)∧0≤n∧n<(GDisk.mk d_sectors d_pending).sectors.length)∧K (lst (yD (GDisk.mk d_sectors d_pending) n)) H Bd):=ex2 (GDisk.mk d_sectors d_pending) n rfl
def W169:qJ:=fun args H Bd K=>∃(pd vn:Value),args=[pd,vn]∧Yld (qK H 2 pd) fun cd=>qS V169 [.agg cd.toArray,vn] H Bd K
@[go_sem ↓] theorem W169_eq (pd vn:Value):W169 [pd,vn] H Bd K=(Yld (qK H 2 pd) fun cd=>qS V169 (idS [.agg cd.toArray,vn]) H Bd K):=by
 refine propext ⟨fun h=> ?_,fun h=>⟨_,_,rfl,h⟩⟩
 obtain⟨pd',vn',e,h⟩:=h
 simp only[List.cons.injEq,and_true]at e
 obtain⟨rfl,rfl⟩:=e
 exact h
theorem W169_ok:OK 169 W169:=by
 rintro args H Bd K ⟨pd,vn,rfl,cd,ed,h⟩
 obtain⟨d,n,e,hpre,hK⟩:=h
 simp only[List.cons.injEq,and_true]at e
 obtain⟨Ed,rfl⟩:=e
 obtain rfl:=qZ Ed
 refine fnp pok ((Env.base _).add 244 _ W244_ok) [] hK Tryz.func169 Tryz.ntmps169 Tryz.call169 [.tmp 4] fun hb ha=> ?_
 have Pd:=qO ed (NB.vpok (ha pd (by simp)))
 simp only[kM]at Pd
 have Zd:=Pd.all 2 rfl
 have Yd:=jJ (ha pd (by simp))
 obtain⟨h1,h2,h3,h4⟩:=hpre
 by_cases hw:0≤waitD d n
 ·have hlt:=wait_lt hw
  have e1:d.pending[(waitD d n).toNat]? =some d.pending[(waitD d n).toNat]:=List.getElem?_eq_getElem hlt
  have hr:yD d n=d.pending[(waitD d n).toNat].bytes:=by unfold yD;rw[if_pos hw,e1];rfl
  exact R (cj Zd (cj h1 (cj hw (cj e1 hr)))) trivial
 ·have hlt:n.toNat<d.sectors.length:=by omega
  have e1:d.sectors[n.toNat]? =some d.sectors[n.toNat]:=List.getElem?_eq_getElem hlt
  have hr:yD d n=d.sectors[n.toNat]:=by unfold yD;rw[if_neg hw,e1];rfl
  exact R (cj Zd (cj h1 (cj hw (cj e1 hr)))) trivial
end Go.Proofs.YthoahlghegcfnaaGreatDoor
