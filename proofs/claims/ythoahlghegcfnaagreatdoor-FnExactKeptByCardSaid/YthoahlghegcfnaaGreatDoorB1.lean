/- YthoahlghegcfnaaGreatDoorB1 -/
import Derived.Test.YthoahlghegcfnaaGreatDoorKbLib
set_option linter.unusedSimpArgs false
set_option linter.unusedVariables false
set_option maxRecDepth 20000
namespace Go.Proofs.YthoahlghegcfnaaGreatDoor
open Go Go.SC
variable {H:AH} {Bd:Nat} {K:Value→AH→Nat→Prop}
def W48:Trans:=fun args H Bd K=>∃(xs:List UInt8) (left:Int),args=[lst xs, .int .i64 left]∧((sm xs∧ -1≤left∧left≤1048576)∧K (.int .i64 (szP (tot xs) left)) H Bd)
@[go_sem ↓] theorem W48_eq (xs:List UInt8) (left:Int):W48 [lst xs, .int .i64 left] H Bd K=((sm xs∧ -1≤left∧left≤1048576)∧K (.int .i64 (szP (tot xs) left)) H Bd):=ex2 xs left rfl
theorem W48_ok:OK 48 W48:=by
 rintro args H Bd K ⟨xs,left,rfl,hpre,hK⟩
 refine fnp pok (Env.base _) [] hK Tryz.func48 Tryz.ntmps48 Tryz.call48 [.tmp 4] fun hb ha=> ?_
 obtain⟨h1,h2,h3⟩:=hpre
 have hlen:=sm_len h1
 have e:tot xs=xs.length:=by simp
 rw[e]
 simp (maxSteps:=2000000) (disch:=first|assumption|(refine asm_intro ?_;assumption)|exact Nat.le_add_right _ _|exact Nat.le_refl _|omega|(simp (disch:=first|exact Nat.le_add_right _ _|omega) only[Le_upd hb,Le_app hb,Le_rfl,free_T hb,free_upd];done)|fail) only[go_sem,push_cast,and_pos,Le_updF,Le_upd hb,free_T hb]
 unfold szP
 exact Cnp.of (fun h=>by rw[if_pos h]) (fun h=>by rw[if_neg h])
def W46:Trans:=fun args H Bd K=>∃(xs:List (List UInt8)) (left:Int),args=[lst xs, .int .i64 left]∧((sm xs∧0≤left∧left≤1048576)∧K (.int .i64 (szP (tot xs) left)) H Bd)
@[go_sem ↓] theorem W46_eq (xs:List (List UInt8)) (left:Int):W46 [lst xs, .int .i64 left] H Bd K=((sm xs∧0≤left∧left≤1048576)∧K (.int .i64 (szP (tot xs) left)) H Bd):=ex2 xs left rfl
theorem W46_ok:OK 46 W46:=by
 rintro args H Bd K ⟨xs,left,rfl,hpre,hK⟩
 refine fnp pok ((Env.base _).add 48 _ W48_ok) [] hK Tryz.func46 Tryz.ntmps46 Tryz.call46 [.tmp 4] fun hb ha=> ?_
 refine withC pok fun cv=> ?_
 obtain⟨h1,h2,h3⟩:=hpre
 have hlen:=sm_len h1
 have e:tot xs=xs.length+(xs.map tot).sum:=tot_list xs
 simp (maxSteps:=2000000) (disch:=first|assumption|(refine asm_intro ?_;assumption)|exact Nat.le_add_right _ _|exact Nat.le_refl _|omega|(simp (disch:=first|exact Nat.le_add_right _ _|omega) only[Le_upd hb,Le_app hb,Le_rfl,free_T hb,free_upd];done)|fail) only[go_sem,push_cast,and_pos,Le_updF,Le_upd hb,free_T hb]
 refine Cnp.of (fun h=>by rw[e,szP_neg h]) (fun h=> ?_)
 refine tr_for (fun i=>0≤left-xs.length-totTo xs i) xs.length (fun i=>[(0,lst xs),(1, .int .i64 (left-xs.length-totTo xs i)),(5, .int .i64 i)]) (by simp;omega) (by simp only[go_sem,push_cast,and_pos,Le_updF,totTo_zero,Int.sub_zero]) ?_
 intro i B0 hI hi hB
 refine cv (by kernel_rfl) ?_
 rcases Nat.lt_or_ge i xs.length with hlt|hge
 ·have e1:xs[i]? =some xs[i]:=List.getElem?_eq_getElem hlt
  have hx:=sm_mem h1 (List.getElem_mem hlt)
  have hst:=totTo_succ xs hlt
  skip
  simp (maxSteps:=2000000) (disch:=first|assumption|(refine asm_intro ?_;assumption)|exact Nat.le_add_right _ _|exact Nat.le_refl _|omega|(simp (disch:=first|exact Nat.le_add_right _ _|omega) only[Le_upd hb,Le_app hb,Le_rfl,free_T hb,free_upd];done)|fail) only[go_sem,push_cast,and_pos,Le_updF,Le_upd hb,free_T hb,e1,hx]
  exact sz_step hlt hI
 ·simp (maxSteps:=2000000) (disch:=first|assumption|(refine asm_intro ?_;assumption)|exact Nat.le_add_right _ _|exact Nat.le_refl _|omega|(simp (disch:=first|exact Nat.le_add_right _ _|omega) only[Le_upd hb,Le_app hb,Le_rfl,free_T hb,free_upd];done)|fail) only[go_sem,push_cast,and_pos,Le_updF,Le_upd hb,free_T hb]
  refine cv (by kernel_rfl) ?_
  simp (maxSteps:=2000000) (disch:=first|assumption|(refine asm_intro ?_;assumption)|exact Nat.le_add_right _ _|exact Nat.le_refl _|omega|(simp (disch:=first|exact Nat.le_add_right _ _|omega) only[Le_upd hb,Le_app hb,Le_rfl,free_T hb,free_upd];done)|fail) only[go_sem,push_cast,and_pos,Le_updF,Le_upd hb,free_T hb]
  exact sz_end hge hI
def W104:Trans:=fun args H Bd K=>∃(x:GPut) (left:Int),args=[.agg (enc x).toArray, .int .i64 left]∧((sm x∧0≤left∧left≤1048576)∧K (.int .i64 (szP (tot x) left)) H Bd)
@[go_sem ↓] theorem W104_eq (x_sector:Int) (x_bytes:List UInt8) (left:Int):W104 [.agg #[.int .i64 x_sector,lst x_bytes], .int .i64 left] H Bd K=((sm (GPut.mk x_sector x_bytes)∧0≤left∧left≤1048576)∧K (.int .i64 (szP (tot (GPut.mk x_sector x_bytes)) left)) H Bd):=ex2 (GPut.mk x_sector x_bytes) left rfl
theorem W104_ok:OK 104 W104:=by
 rintro args H Bd K ⟨x,left,rfl,hpre,hK⟩
 refine fnp pok ((Env.base _).add 48 _ W48_ok) [] hK Tryz.func104 Tryz.ntmps104 Tryz.call104 [.tmp 4] fun hb ha=> ?_
 obtain⟨h1,h2,h3⟩:=hpre
 simp only[sm_GPut,sm_str]at h1
 have q0:=h3
 have q1:=szP_ub (tot x.bytes) (left:=left) (by omega)
 have ez:tot x=tot x.bytes:=by simp[tot_GPut]
 rw[ez]
 simp (maxSteps:=2000000) (disch:=first|assumption|(refine asm_intro ?_;assumption)|exact Nat.le_add_right _ _|exact Nat.le_refl _|omega|(simp (disch:=first|exact Nat.le_add_right _ _|omega) only[Le_upd hb,Le_app hb,Le_rfl,free_T hb,free_upd];done)|fail) only[go_sem,push_cast,and_pos,Le_updF,Le_upd hb,free_T hb,h1]
 first|exact szP_last|exact szP_lastT
def W47:Trans:=fun args H Bd K=>∃(xs:List GPut) (left:Int),args=[lst xs, .int .i64 left]∧((sm xs∧0≤left∧left≤1048576)∧K (.int .i64 (szP (tot xs) left)) H Bd)
@[go_sem ↓] theorem W47_eq (xs:List GPut) (left:Int):W47 [lst xs, .int .i64 left] H Bd K=((sm xs∧0≤left∧left≤1048576)∧K (.int .i64 (szP (tot xs) left)) H Bd):=ex2 xs left rfl
theorem W47_ok:OK 47 W47:=by
 rintro args H Bd K ⟨xs,left,rfl,hpre,hK⟩
 refine fnp pok ((Env.base _).add 104 _ W104_ok) [] hK Tryz.func47 Tryz.ntmps47 Tryz.call47 [.tmp 4] fun hb ha=> ?_
 refine withC pok fun cv=> ?_
 obtain⟨h1,h2,h3⟩:=hpre
 have hlen:=sm_len h1
 have e:tot xs=xs.length+(xs.map tot).sum:=tot_list xs
 simp (maxSteps:=2000000) (disch:=first|assumption|(refine asm_intro ?_;assumption)|exact Nat.le_add_right _ _|exact Nat.le_refl _|omega|(simp (disch:=first|exact Nat.le_add_right _ _|omega) only[Le_upd hb,Le_app hb,Le_rfl,free_T hb,free_upd];done)|fail) only[go_sem,push_cast,and_pos,Le_updF,Le_upd hb,free_T hb]
 refine Cnp.of (fun h=>by rw[e,szP_neg h]) (fun h=> ?_)
 refine tr_for (fun i=>0≤left-xs.length-totTo xs i) xs.length (fun i=>[(0,lst xs),(1, .int .i64 (left-xs.length-totTo xs i)),(5, .int .i64 i)]) (by simp;omega) (by simp only[go_sem,push_cast,and_pos,Le_updF,totTo_zero,Int.sub_zero]) ?_
 intro i B0 hI hi hB
 refine cv (by kernel_rfl) ?_
 rcases Nat.lt_or_ge i xs.length with hlt|hge
 ·have e1:xs[i]? =some xs[i]:=List.getElem?_eq_getElem hlt
  have hx:=sm_mem h1 (List.getElem_mem hlt)
  have hst:=totTo_succ xs hlt
  skip
  simp (maxSteps:=2000000) (disch:=first|assumption|(refine asm_intro ?_;assumption)|exact Nat.le_add_right _ _|exact Nat.le_refl _|omega|(simp (disch:=first|exact Nat.le_add_right _ _|omega) only[Le_upd hb,Le_app hb,Le_rfl,free_T hb,free_upd];done)|fail) only[go_sem,push_cast,and_pos,Le_updF,Le_upd hb,free_T hb,e1,hx]
  exact sz_step hlt hI
 ·simp (maxSteps:=2000000) (disch:=first|assumption|(refine asm_intro ?_;assumption)|exact Nat.le_add_right _ _|exact Nat.le_refl _|omega|(simp (disch:=first|exact Nat.le_add_right _ _|omega) only[Le_upd hb,Le_app hb,Le_rfl,free_T hb,free_upd];done)|fail) only[go_sem,push_cast,and_pos,Le_updF,Le_upd hb,free_T hb]
  refine cv (by kernel_rfl) ?_
  simp (maxSteps:=2000000) (disch:=first|assumption|(refine asm_intro ?_;assumption)|exact Nat.le_add_right _ _|exact Nat.le_refl _|omega|(simp (disch:=first|exact Nat.le_add_right _ _|omega) only[Le_upd hb,Le_app hb,Le_rfl,free_T hb,free_upd];done)|fail) only[go_sem,push_cast,and_pos,Le_updF,Le_upd hb,free_T hb]
  exact sz_end hge hI
def W9:Trans:=fun args H Bd K=>∃(x:GDisk) (left:Int),args=[.agg (enc x).toArray, .int .i64 left]∧((sm x∧0≤left∧left≤1048576)∧K (.int .i64 (szP (tot x) left)) H Bd)
@[go_sem ↓] theorem W9_eq (x_sectors:List (List UInt8)) (x_pending:List GPut) (left:Int):W9 [.agg #[lst x_sectors,lst x_pending], .int .i64 left] H Bd K=((sm (GDisk.mk x_sectors x_pending)∧0≤left∧left≤1048576)∧K (.int .i64 (szP (tot (GDisk.mk x_sectors x_pending)) left)) H Bd):=ex2 (GDisk.mk x_sectors x_pending) left rfl
theorem W9_ok:OK 9 W9:=by
 rintro args H Bd K ⟨x,left,rfl,hpre,hK⟩
 refine fnp pok (((Env.base _).add 46 _ W46_ok).add 47 _ W47_ok) [] hK Tryz.func9 Tryz.ntmps9 Tryz.call9 [.tmp 4] fun hb ha=> ?_
 obtain⟨h1,h2,h3⟩:=hpre
 simp only[sm_GDisk,sm_str]at h1
 have q0:=h3
 have q1:=szP_ub (tot x.sectors) (left:=left) (by omega)
 have q2:=szP_ub (tot x.pending) (left:=szP (tot x.sectors) (left)) (by omega)
 have ez:tot x=tot x.sectors+(tot x.pending):=by simp[tot_GDisk]
 rw[ez]
 simp (maxSteps:=2000000) (disch:=first|assumption|(refine asm_intro ?_;assumption)|exact Nat.le_add_right _ _|exact Nat.le_refl _|omega|(simp (disch:=first|exact Nat.le_add_right _ _|omega) only[Le_upd hb,Le_app hb,Le_rfl,free_T hb,free_upd];done)|fail) only[go_sem,push_cast,and_pos,Le_updF,Le_upd hb,free_T hb,h1]
 refine szP_go (fun e=>e.symm) (fun e=> ?_)
 rw[e]
 first|exact szP_last|exact szP_lastT
def W126:Trans:=fun args H Bd K=>∃(x:GSymbol) (left:Int),args=[.agg (enc x).toArray, .int .i64 left]∧((sm x∧0≤left∧left≤1048576)∧K (.int .i64 (szP (tot x) left)) H Bd)
@[go_sem ↓] theorem W126_eq (x_name:ByteArray) (x_arity:Int) (left:Int):W126 [.agg #[.string x_name, .int .i64 x_arity], .int .i64 left] H Bd K=((sm (GSymbol.mk x_name x_arity)∧0≤left∧left≤1048576)∧K (.int .i64 (szP (tot (GSymbol.mk x_name x_arity)) left)) H Bd):=ex2 (GSymbol.mk x_name x_arity) left rfl
theorem W126_ok:OK 126 W126:=by
 rintro args H Bd K ⟨x,left,rfl,hpre,hK⟩
 refine fnp pok (Env.base _) [] hK Tryz.func126 Tryz.ntmps126 Tryz.call126 [.tmp 4] fun hb ha=> ?_
 obtain⟨h1,h2,h3⟩:=hpre
 simp only[sm_GSymbol,sm_str]at h1
 have q0:=h3
 have z0:tot x.name=x.name.size:=rfl
 have ez:tot x=tot x.name:=by simp[tot_GSymbol]
 rw[ez]
 simp (maxSteps:=2000000) (disch:=first|assumption|(refine asm_intro ?_;assumption)|exact Nat.le_add_right _ _|exact Nat.le_refl _|omega|(simp (disch:=first|exact Nat.le_add_right _ _|omega) only[Le_upd hb,Le_app hb,Le_rfl,free_T hb,free_upd];done)|fail) only[go_sem,push_cast,and_pos,Le_updF,Le_upd hb,free_T hb,h1]
 rw[←z0]
 exact szP_lastI
def W71:Trans:=fun args H Bd K=>∃(xs:List GSymbol) (left:Int),args=[lst xs, .int .i64 left]∧((sm xs∧0≤left∧left≤1048576)∧K (.int .i64 (szP (tot xs) left)) H Bd)
@[go_sem ↓] theorem W71_eq (xs:List GSymbol) (left:Int):W71 [lst xs, .int .i64 left] H Bd K=((sm xs∧0≤left∧left≤1048576)∧K (.int .i64 (szP (tot xs) left)) H Bd):=ex2 xs left rfl
theorem W71_ok:OK 71 W71:=by
 rintro args H Bd K ⟨xs,left,rfl,hpre,hK⟩
 refine fnp pok ((Env.base _).add 126 _ W126_ok) [] hK Tryz.func71 Tryz.ntmps71 Tryz.call71 [.tmp 4] fun hb ha=> ?_
 refine withC pok fun cv=> ?_
 obtain⟨h1,h2,h3⟩:=hpre
 have hlen:=sm_len h1
 have e:tot xs=xs.length+(xs.map tot).sum:=tot_list xs
 simp (maxSteps:=2000000) (disch:=first|assumption|(refine asm_intro ?_;assumption)|exact Nat.le_add_right _ _|exact Nat.le_refl _|omega|(simp (disch:=first|exact Nat.le_add_right _ _|omega) only[Le_upd hb,Le_app hb,Le_rfl,free_T hb,free_upd];done)|fail) only[go_sem,push_cast,and_pos,Le_updF,Le_upd hb,free_T hb]
 refine Cnp.of (fun h=>by rw[e,szP_neg h]) (fun h=> ?_)
 refine tr_for (fun i=>0≤left-xs.length-totTo xs i) xs.length (fun i=>[(0,lst xs),(1, .int .i64 (left-xs.length-totTo xs i)),(5, .int .i64 i)]) (by simp;omega) (by simp only[go_sem,push_cast,and_pos,Le_updF,totTo_zero,Int.sub_zero]) ?_
 intro i B0 hI hi hB
 refine cv (by kernel_rfl) ?_
 rcases Nat.lt_or_ge i xs.length with hlt|hge
 ·have e1:xs[i]? =some xs[i]:=List.getElem?_eq_getElem hlt
  have hx:=sm_mem h1 (List.getElem_mem hlt)
  have hst:=totTo_succ xs hlt
  skip
  simp (maxSteps:=2000000) (disch:=first|assumption|(refine asm_intro ?_;assumption)|exact Nat.le_add_right _ _|exact Nat.le_refl _|omega|(simp (disch:=first|exact Nat.le_add_right _ _|omega) only[Le_upd hb,Le_app hb,Le_rfl,free_T hb,free_upd];done)|fail) only[go_sem,push_cast,and_pos,Le_updF,Le_upd hb,free_T hb,e1,hx]
  exact sz_step hlt hI
 ·simp (maxSteps:=2000000) (disch:=first|assumption|(refine asm_intro ?_;assumption)|exact Nat.le_add_right _ _|exact Nat.le_refl _|omega|(simp (disch:=first|exact Nat.le_add_right _ _|omega) only[Le_upd hb,Le_app hb,Le_rfl,free_T hb,free_upd];done)|fail) only[go_sem,push_cast,and_pos,Le_updF,Le_upd hb,free_T hb]
  refine cv (by kernel_rfl) ?_
  simp (maxSteps:=2000000) (disch:=first|assumption|(refine asm_intro ?_;assumption)|exact Nat.le_add_right _ _|exact Nat.le_refl _|omega|(simp (disch:=first|exact Nat.le_add_right _ _|omega) only[Le_upd hb,Le_app hb,Le_rfl,free_T hb,free_upd];done)|fail) only[go_sem,push_cast,and_pos,Le_updF,Le_upd hb,free_T hb]
  exact sz_end hge hI
def W22:Trans:=fun args H Bd K=>∃(x:GSignature) (left:Int),args=[.agg (enc x).toArray, .int .i64 left]∧((sm x∧0≤left∧left≤1048576)∧K (.int .i64 (szP (tot x) left)) H Bd)
@[go_sem ↓] theorem W22_eq (x_symbols:List GSymbol) (left:Int):W22 [.agg #[lst x_symbols], .int .i64 left] H Bd K=((sm (GSignature.mk x_symbols)∧0≤left∧left≤1048576)∧K (.int .i64 (szP (tot (GSignature.mk x_symbols)) left)) H Bd):=ex2 (GSignature.mk x_symbols) left rfl
theorem W22_ok:OK 22 W22:=by
 rintro args H Bd K ⟨x,left,rfl,hpre,hK⟩
 refine fnp pok ((Env.base _).add 71 _ W71_ok) [] hK Tryz.func22 Tryz.ntmps22 Tryz.call22 [.tmp 4] fun hb ha=> ?_
 obtain⟨h1,h2,h3⟩:=hpre
 simp only[sm_GSignature,sm_str]at h1
 have q0:=h3
 have q1:=szP_ub (tot x.symbols) (left:=left) (by omega)
 have ez:tot x=tot x.symbols:=by simp[tot_GSignature]
 rw[ez]
 simp (maxSteps:=2000000) (disch:=first|assumption|(refine asm_intro ?_;assumption)|exact Nat.le_add_right _ _|exact Nat.le_refl _|omega|(simp (disch:=first|exact Nat.le_add_right _ _|omega) only[Le_upd hb,Le_app hb,Le_rfl,free_T hb,free_upd];done)|fail) only[go_sem,push_cast,and_pos,Le_updF,Le_upd hb,free_T hb,h1]
 first|exact szP_last|exact szP_lastT
def W10:Trans:=fun args H Bd K=>∃(x:GSuper) (left:Int),args=[.agg (enc x).toArray, .int .i64 left]∧((sm x∧0≤left∧left≤1048576)∧K (.int .i64 (szP (tot x) left)) H Bd)
@[go_sem ↓] theorem W10_eq (x_gen:Int) (x_root:Int) (x_shadow:Int) (x_theory:Int) (x_next:Int) (x_version:Int) (x_moving:Bool) (x_cursor:List UInt8) (x_symbols_symbols:List GSymbol) (left:Int):W10 [.agg #[.int .i64 x_gen, .int .i64 x_root, .int .i64 x_shadow, .int .i64 x_theory, .int .i64 x_next, .int .i64 x_version, .bool x_moving,lst x_cursor,lst x_symbols_symbols], .int .i64 left] H Bd K=((sm (GSuper.mk x_gen x_root x_shadow x_theory x_next x_version x_moving x_cursor (GSignature.mk x_symbols_symbols))∧0≤left∧left≤1048576)∧K (.int .i64 (szP (tot (GSuper.mk x_gen x_root x_shadow x_theory x_next x_version x_moving x_cursor (GSignature.mk x_symbols_symbols))) left)) H Bd):=ex2 (GSuper.mk x_gen x_root x_shadow x_theory x_next x_version x_moving x_cursor (GSignature.mk x_symbols_symbols)) left rfl
theorem W10_ok:OK 10 W10:=by
 rintro args H Bd K ⟨x,left,rfl,hpre,hK⟩
 refine fnp pok (((Env.base _).add 48 _ W48_ok).add 22 _ W22_ok) [] hK Tryz.func10 Tryz.ntmps10 Tryz.call10 [.tmp 4] fun hb ha=> ?_
 obtain⟨h1,h2,h3⟩:=hpre
 simp only[sm_GSuper,sm_str]at h1
 have q0:=h3
 have q1:=szP_ub (tot x.cursor) (left:=left) (by omega)
 have q2:=szP_ub (tot x.symbols) (left:=szP (tot x.cursor) (left)) (by omega)
 have ez:tot x=tot x.cursor+(tot x.symbols):=by simp[tot_GSuper]
 rw[ez]
 simp (maxSteps:=2000000) (disch:=first|assumption|(refine asm_intro ?_;assumption)|exact Nat.le_add_right _ _|exact Nat.le_refl _|omega|(simp (disch:=first|exact Nat.le_add_right _ _|omega) only[Le_upd hb,Le_app hb,Le_rfl,free_T hb,free_upd];done)|fail) only[go_sem,push_cast,and_pos,Le_updF,Le_upd hb,free_T hb,h1]
 refine szP_go (fun e=>e.symm) (fun e=> ?_)
 rw[e]
 first|exact szP_last|exact szP_lastT
def O54:Trans:=fun args H Bd K=>∃(xs:List UInt8),args=[lst xs]∧((sm xs∧tot xs≤1048576)∧K (.slice (some ⟨Bd,0,some 1⟩) (xs).length ((xs).length+1)) (upd H Bd (some ⟨flat (xs),true⟩)) (Bd+1))
@[go_sem ↓] theorem O54_eq (xs:List UInt8):O54 [lst xs] H Bd K=((sm xs∧tot xs≤1048576)∧K (.slice (some ⟨Bd,0,some 1⟩) (xs).length ((xs).length+1)) (upd H Bd (some ⟨flat (xs),true⟩)) (Bd+1)):=ex1 xs rfl
theorem O54_ok:OK 54 O54:=by
 rintro args H Bd K ⟨xs,rfl,hpre,hK⟩
 refine fn_own pok (Env.base _) [] (.slice (some ⟨Bd,0,some 1⟩) (xs).length ((xs).length+1)) [flat (xs)] hK Tryz.func54 rfl (rs:=[.tmp 2]) rfl Tryz.ntmps54 (by simp) Tryz.call54 (by kernel_rfl) (fun cells hc v hv=>by simp only[List.mem_cons,List.not_mem_nil,or_false]at hc;rcases hc with rfl <;>exact flat_nb _ _ _ hv) (fun hb ha=> ?_)
 refine withC pok fun cv=> ?_
 obtain⟨h1,h2⟩:=hpre
 have e:tot xs=xs.length+(xs.map tot).sum:=tot_list xs
 simp (maxSteps:=2000000) (disch:=first|assumption|(refine asm_intro ?_;assumption)|exact Nat.le_add_right _ _|exact Nat.le_refl _|omega|(simp (disch:=first|exact Nat.le_add_right _ _|omega) only[Le_upd hb,Le_app hb,Le_rfl,free_T hb,free_upd];done)|fail) only[go_sem,push_cast,and_pos,Le_updF,Le_upd hb,free_T hb]
 refine tr_fill (α:=UInt8) hb xs (fun i=>[(0,lst xs),(3, .slice (some ⟨Bd,0,some 1⟩) xs.length (xs.length+1)),(4, .int .i64 i)]) _ (zmake_len _ _) ⟨Nat.le_refl _,by omega⟩ (by simp only[go_sem,push_cast,and_pos,Le_updF]) (Le.refl _) ?_
 intro i L B hi hL hF hB hb'
 refine cv (by kernel_rfl) ?_
 have hL':L.length=xs.length*1:=hL
 rcases Nat.lt_or_ge i xs.length with hlt|hge
 ·have e1:xs[i]? =some xs[i]:=List.getElem?_eq_getElem hlt
  have hx:=sm_mem h1 (List.getElem_mem hlt)
  have hx2:tot xs[i]≤(xs.map tot).sum:=tot_mem hlt
  simp (maxSteps:=2000000) (disch:=first|assumption|(refine asm_intro ?_;assumption)|exact Nat.le_add_right _ _|exact Nat.le_refl _|omega|(simp (disch:=first|exact Nat.le_add_right _ _|omega) only[Le_upd hb,Le_app hb,Le_rfl,free_T hb,free_upd];done)|fail) only[go_sem,push_cast,and_pos,Le_updF,Le_upd hb,free_T hb,e1,hx]
  exact⟨_,rfl,Le.refl _⟩
 ·simp (maxSteps:=2000000) (disch:=first|assumption|(refine asm_intro ?_;assumption)|exact Nat.le_add_right _ _|exact Nat.le_refl _|omega|(simp (disch:=first|exact Nat.le_add_right _ _|omega) only[Le_upd hb,Le_app hb,Le_rfl,free_T hb,free_upd];done)|fail) only[go_sem,push_cast,and_pos,Le_updF,Le_upd hb,free_T hb]
  have hf:L=flat xs:=by
   rw[List.take_of_length_le (by rw[hL];exact Nat.mul_le_mul_right _ hge),List.take_of_length_le hge]at hF
   exact hF
  subst hf
  refine cv (by kernel_rfl) ?_
  simp (maxSteps:=2000000) (disch:=first|assumption|(refine asm_intro ?_;assumption)|exact Nat.le_add_right _ _|exact Nat.le_refl _|omega|(simp (disch:=first|exact Nat.le_add_right _ _|omega) only[Le_upd hb,Le_app hb,Le_rfl,free_T hb,free_upd];done)|fail) only[go_sem,push_cast,and_pos,Le_updF,Le_upd hb,free_T hb]
def P52:Trans:=fun args H Bd K=>∃(xs:List (List UInt8)),args=[lst xs]∧((sm xs∧tot xs≤1048576)∧K (.slice (some ⟨Bd,0,some 1⟩) (xs).length ((xs).length+1)) (oput H Bd (OEnc.oc (xs))) (Bd+OV.numL (OEnc.oc (xs))))
@[go_sem ↓] theorem P52_eq (xs:List (List UInt8)):P52 [lst xs] H Bd K=((sm xs∧tot xs≤1048576)∧K (.slice (some ⟨Bd,0,some 1⟩) (xs).length ((xs).length+1)) (oput H Bd (OEnc.oc (xs))) (Bd+OV.numL (OEnc.oc (xs)))):=ex1 xs rfl
theorem P52_ok:OK 52 P52:=by
 rintro args H Bd K ⟨xs,rfl,hpre,hK⟩
 refine fn_ownN pok ((Env.base _).add 54 _ O54_ok) [] (.one (ols (xs))) (⟨ols_ok _,trivial⟩) hK Tryz.func52 rfl (rs:=[.tmp 2]) rfl Tryz.ntmps52 (by simp) Tryz.call52 (by kernel_rfl) (fun hb ha=> ?_)
 clear hK
 refine withC pok fun cv=> ?_
 obtain⟨h1,h2⟩:=hpre
 have e:tot xs=xs.length+(xs.map tot).sum:=tot_list xs
 have hbH:=hb
 have hz:∀v∈[.slice none 0 0],NB Bd v:=(nbs_all ⟨.nils,trivial⟩)
 have yz:=fun k=>rql_nb (nb_zmake (k:=k) hz)
 refine R0 ?_
 refine tr_ownB (X:=Nat×AH×List Value×List (Option Nat)) 1 [.s 3] rfl (fun x=>x.2.1) (fun x=>x.1≤xs.length∧OV.AtL x.2.1 Bd (ocL (xs.take x.1)) x.2.2.1 x.2.2.2∧OV.nd x.2.2.2∧Le H x.2.1) (fun x=>xs.length-x.1) (fun Nx x=>[(0,lst xs),(3, .slice (some ⟨Nx,0,some 1⟩) xs.length (xs.length+1)),(4, .int .i64 (x.1:Nat))]) (fun Nx x=>[(Nx,⟨x.2.2.1++zmake (xs.length-x.1) [.slice none 0 0],true⟩)]) (0,H,[],[]) (⟨Nat.zero_le _,⟨rfl,rfl⟩,OV.nd_nil,Le.refl _⟩) (fun Nx hNx=>(by simp (disch:=first|assumption|omega|(simp (disch:=omega) only[free_upd,free_T hb];done)|(simp (disch:=first|omega|(simp (disch:=omega) only[free_upd,free_T hb];done)) only[go_sem,push_cast,and_pos,Le_updF,free_upd,free_T hb];done)|fail) only[go_sem,push_cast,and_pos,Le_updF,Le_rfl,Le_upd hb,free_upd,free_T hb,flat_nil,flat_append,flat_one,enc_int,enc_list,enc_byte,enc_str,enc_bool,List.append_assoc,List.length_append,List.length_cons,List.length_nil,Nat.zero_add,List.nil_append,Nat.sub_zero,yz];all_goals (try simp only[Value.int.injEq,Value.slice.injEq,true_and,and_true]) <;>all_goals (try(first|trivial|omega|grind)))) ?_
 intro Nx x hNx hIx hGx hbx Fx hFx
 simp only[mem_cons,mem_nil]at hbx hGx ⊢
 refine cv (by kernel_rfl) ?_
 obtain⟨i,G,us,σ⟩:=x
 obtain⟨i1,i2,i3,i4⟩:=hIx
 simp only at i1 i2 i3 i4 hGx hbx
 have hb:=hGx
 have hul:us.length=i*1:=fill_len i1 i2
 have hnb:=OV.AtL.nb hGx i2 (ocL_ok _)
 by_cases hlt:i<xs.length
 ·have e1:xs[i]? =some xs[i]:=List.getElem?_eq_getElem hlt
  have hx:=sm_mem h1 (List.getElem_mem hlt)
  have hx2:tot xs[i]≤(xs.map tot).sum:=tot_mem hlt
  have hx3:tot xs[i]≤1048576:=by omega
  have hfl:=fill_lset (z:=[.slice none 0 0]) (cs:=[.slice (some ⟨Nx+1,0,some 1⟩) (xs[i]).length ((xs[i]).length+1)]) hul rfl rfl hlt
  have hnx:=fill_next hlt i2 i3 hGx (m:=Nx+1) (by omega) (by omega)
  generalize hE:xs[i]=E at*
  simp only[lset,Nat.mul_one,List.append_assoc,List.cons_append,List.nil_append]at hfl
  have hle:=Le_oput (Nx+1) (OEnc.oc E) (Le_new (H:=G) (n:=Nx) (b:=some ⟨us++zmake (xs.length-i) [.slice none 0 0],true⟩) (Le.refl G) (hGx.fresh Nx (Nat.le_refl _)))
  simp only[go_sem]at hle
  have hul2:(us++zmake (xs.length-i) [.slice none 0 0]).length=xs.length*1:=fill_all hul rfl hlt
  have hx4:tot E≤1048576:=hx3
  refine R (cj e1 (cj hE (cj hx (cj hx4 (cj hlt (cj hfl hul2)))))) ?_
  have hq1:=nb_app (nb_app (nb_up hnb (by omega:Nx≤Nx+1+OV.numL (OEnc.oc E))) (valL_nb (Nx+1) (OEnc.ok E))) (nb_zmake (k:=xs.length-(i+1)) (nb_up hz (by omega)))
  have yq:=rql_nb hq1
  simp only[go_sem,List.append_assoc]at yq
  refine hFx (i+1,oput G (Nx+1) (OEnc.oc E),us++OV.valL (Nx+1) (OEnc.oc E),σ++OV.canon (Nx+1) (OV.numL (OEnc.oc E))) _ _ _ ?_ ?_ (by simp only[go_sem,push_cast,and_pos,Le_updF]) (fun Mx hMx=>(canf (cj yq (cj yz hle))))
  ·show xs.length-(i+1)<xs.length-i
   omega
  ·exact⟨hlt,hnx.1,hnx.2,Le_oputN i4 fun m h1 _=>hbH.fresh m (by omega)⟩
 ·obtain rfl:i=xs.length:=by omega
  rw[List.take_length]at i2
  have hz0:us++zmake (xs.length-xs.length) [.slice none 0 0]=us:=by rw[Nat.sub_self];exact List.append_nil _
  refine R hz0 ?_
  refine cv (by kernel_rfl) ?_
  refine R hz0 ?_
  exact own_one i2 i3 hGx i4 (by omega)
def O111:Trans:=fun args H Bd K=>∃(x:GPut),args=[.agg (enc x).toArray]∧((sm x∧tot x≤1048576)∧K (.agg #[.int .i64 ((x).sector), .slice (some ⟨Bd,0,some 1⟩) ((x).bytes).length (((x).bytes).length+1)]) (upd H Bd (some ⟨flat ((x).bytes),true⟩)) (Bd+1))
@[go_sem ↓] theorem O111_eq (x_sector:Int) (x_bytes:List UInt8):O111 [.agg #[.int .i64 x_sector,lst x_bytes]] H Bd K=((sm (GPut.mk x_sector x_bytes)∧tot (GPut.mk x_sector x_bytes)≤1048576)∧K (.agg #[.int .i64 (((GPut.mk x_sector x_bytes)).sector), .slice (some ⟨Bd,0,some 1⟩) (((GPut.mk x_sector x_bytes)).bytes).length ((((GPut.mk x_sector x_bytes)).bytes).length+1)]) (upd H Bd (some ⟨flat (((GPut.mk x_sector x_bytes)).bytes),true⟩)) (Bd+1)):=ex1 (GPut.mk x_sector x_bytes) rfl
theorem O111_ok:OK 111 O111:=by
 rintro args H Bd K ⟨x,rfl,hpre,hK⟩
 refine fn_own pok ((Env.base _).add 54 _ O54_ok) [] (.agg #[.int .i64 ((x).sector), .slice (some ⟨Bd,0,some 1⟩) ((x).bytes).length (((x).bytes).length+1)]) [flat ((x).bytes)] hK Tryz.func111 rfl (rs:=[.cell 2 160]) rfl Tryz.ntmps111 (by simp) Tryz.call111 (by kernel_rfl) (fun cells hc v hv=>by simp only[List.mem_cons,List.not_mem_nil,or_false]at hc;rcases hc with rfl <;>exact flat_nb _ _ _ hv) (fun hb ha=> ?_)
 obtain⟨h1,h2⟩:=hpre
 simp only[sm_GPut]at h1
 simp only[tot_GPut]at h2
 simp (maxSteps:=2000000) (disch:=first|assumption|(refine asm_intro ?_;assumption)|exact Nat.le_add_right _ _|exact Nat.le_refl _|omega|(simp (disch:=first|exact Nat.le_add_right _ _|omega) only[Le_upd hb,Le_app hb,Le_rfl,free_T hb,free_upd];done)|fail) only[go_sem,push_cast,and_pos,Le_updF,Le_upd hb,free_T hb,h1]
def P53:Trans:=fun args H Bd K=>∃(xs:List GPut),args=[lst xs]∧((sm xs∧tot xs≤1048576)∧K (.slice (some ⟨Bd,0,some 2⟩) (xs).length ((xs).length+1)) (oput H Bd (OEnc.oc (xs))) (Bd+OV.numL (OEnc.oc (xs))))
@[go_sem ↓] theorem P53_eq (xs:List GPut):P53 [lst xs] H Bd K=((sm xs∧tot xs≤1048576)∧K (.slice (some ⟨Bd,0,some 2⟩) (xs).length ((xs).length+1)) (oput H Bd (OEnc.oc (xs))) (Bd+OV.numL (OEnc.oc (xs)))):=ex1 xs rfl
theorem P53_ok:OK 53 P53:=by
 rintro args H Bd K ⟨xs,rfl,hpre,hK⟩
 refine fn_ownN pok ((Env.base _).add 111 _ O111_ok) [] (.one (ols (xs))) (⟨ols_ok _,trivial⟩) hK Tryz.func53 rfl (rs:=[.tmp 2]) rfl Tryz.ntmps53 (by simp) Tryz.call53 (by kernel_rfl) (fun hb ha=> ?_)
 clear hK
 refine withC pok fun cv=> ?_
 obtain⟨h1,h2⟩:=hpre
 have e:tot xs=xs.length+(xs.map tot).sum:=tot_list xs
 have hbH:=hb
 have hz:∀v∈[.int .i64 0, .slice none 0 0],NB Bd v:=(nbs_all ⟨.int _ _, .nils,trivial⟩)
 have yz:=fun k=>rql_nb (nb_zmake (k:=k) hz)
 refine R0 ?_
 refine tr_ownB (X:=Nat×AH×List Value×List (Option Nat)) 1 [.s 3] rfl (fun x=>x.2.1) (fun x=>x.1≤xs.length∧OV.AtL x.2.1 Bd (ocL (xs.take x.1)) x.2.2.1 x.2.2.2∧OV.nd x.2.2.2∧Le H x.2.1) (fun x=>xs.length-x.1) (fun Nx x=>[(0,lst xs),(3, .slice (some ⟨Nx,0,some 2⟩) xs.length (xs.length+1)),(4, .int .i64 (x.1:Nat))]) (fun Nx x=>[(Nx,⟨x.2.2.1++zmake (xs.length-x.1) [.int .i64 0, .slice none 0 0],true⟩)]) (0,H,[],[]) (⟨Nat.zero_le _,⟨rfl,rfl⟩,OV.nd_nil,Le.refl _⟩) (fun Nx hNx=>(by simp (disch:=first|assumption|omega|(simp (disch:=omega) only[free_upd,free_T hb];done)|(simp (disch:=first|omega|(simp (disch:=omega) only[free_upd,free_T hb];done)) only[go_sem,push_cast,and_pos,Le_updF,free_upd,free_T hb];done)|fail) only[go_sem,push_cast,and_pos,Le_updF,Le_rfl,Le_upd hb,free_upd,free_T hb,flat_nil,flat_append,flat_one,enc_int,enc_list,enc_byte,enc_str,enc_bool,List.append_assoc,List.length_append,List.length_cons,List.length_nil,Nat.zero_add,List.nil_append,Nat.sub_zero,yz];all_goals (try simp only[Value.int.injEq,Value.slice.injEq,true_and,and_true]) <;>all_goals (try(first|trivial|omega|grind)))) ?_
 intro Nx x hNx hIx hGx hbx Fx hFx
 simp only[mem_cons,mem_nil]at hbx hGx ⊢
 refine cv (by kernel_rfl) ?_
 obtain⟨i,G,us,σ⟩:=x
 obtain⟨i1,i2,i3,i4⟩:=hIx
 simp only at i1 i2 i3 i4 hGx hbx
 have hb:=hGx
 have hul:us.length=i*2:=fill_len i1 i2
 have hnb:=OV.AtL.nb hGx i2 (ocL_ok _)
 by_cases hlt:i<xs.length
 ·have e1:xs[i]? =some xs[i]:=List.getElem?_eq_getElem hlt
  have hx:=sm_mem h1 (List.getElem_mem hlt)
  have hx2:tot xs[i]≤(xs.map tot).sum:=tot_mem hlt
  have hx3:tot xs[i]≤1048576:=by omega
  have hfl:=fill_lset (z:=[.int .i64 0, .slice none 0 0]) (cs:=[.int .i64 (xs[i].sector), .slice (some ⟨Nx+1,0,some 1⟩) (xs[i].bytes).length ((xs[i].bytes).length+1)]) hul rfl rfl hlt
  have hnx:=fill_next hlt i2 i3 hGx (m:=Nx+1) (by omega) (by omega)
  generalize hE:xs[i]=E at*
  simp only[lset,Nat.mul_one,List.append_assoc,List.cons_append,List.nil_append]at hfl
  have hle:=Le_oput (Nx+1) (OEnc.oc E) (Le_new (H:=G) (n:=Nx) (b:=some ⟨us++zmake (xs.length-i) [.int .i64 0, .slice none 0 0],true⟩) (Le.refl G) (hGx.fresh Nx (Nat.le_refl _)))
  simp only[go_sem]at hle
  have hul2:(us++zmake (xs.length-i) [.int .i64 0, .slice none 0 0]).length=xs.length*2:=fill_all hul rfl hlt
  have hx4:tot E≤1048576:=hx3
  refine R (cj e1 (cj hE (cj hx (cj hx4 (cj hlt (cj hfl hul2)))))) ?_
  have hq1:=nb_app (nb_app (nb_up hnb (by omega:Nx≤Nx+1+OV.numL (OEnc.oc E))) (valL_nb (Nx+1) (OEnc.ok E))) (nb_zmake (k:=xs.length-(i+1)) (nb_up hz (by omega)))
  have yq:=rql_nb hq1
  simp only[go_sem,List.append_assoc]at yq
  refine hFx (i+1,oput G (Nx+1) (OEnc.oc E),us++OV.valL (Nx+1) (OEnc.oc E),σ++OV.canon (Nx+1) (OV.numL (OEnc.oc E))) _ _ _ ?_ ?_ (by simp only[go_sem,push_cast,and_pos,Le_updF]) (fun Mx hMx=>(canf (cj yq (cj yz hle))))
  ·show xs.length-(i+1)<xs.length-i
   omega
  ·exact⟨hlt,hnx.1,hnx.2,Le_oputN i4 fun m h1 _=>hbH.fresh m (by omega)⟩
 ·obtain rfl:i=xs.length:=by omega
  rw[List.take_length]at i2
  have hz0:us++zmake (xs.length-xs.length) [.int .i64 0, .slice none 0 0]=us:=by rw[Nat.sub_self];exact List.append_nil _
  refine R hz0 ?_
  refine cv (by kernel_rfl) ?_
  refine R hz0 ?_
  exact own_one i2 i3 hGx i4 (by omega)
def P12:Trans:=fun args H Bd K=>∃(x:GDisk),args=[.agg (enc x).toArray]∧((sm x∧tot x≤1048576)∧K (.agg #[.slice (some ⟨Bd,0,some 1⟩) (x.sectors).length ((x.sectors).length+1), .slice (some ⟨Bd+OV.numL (OEnc.oc (x.sectors)),0,some 2⟩) (x.pending).length ((x.pending).length+1)]) (oput H Bd (OEnc.oc (x))) (Bd+OV.numL (OEnc.oc (x))))
@[go_sem ↓] theorem P12_eq (x_sectors:List (List UInt8)) (x_pending:List GPut):P12 [.agg #[lst x_sectors,lst x_pending]] H Bd K=((sm (GDisk.mk x_sectors x_pending)∧tot (GDisk.mk x_sectors x_pending)≤1048576)∧K (.agg #[.slice (some ⟨Bd,0,some 1⟩) ((GDisk.mk x_sectors x_pending).sectors).length (((GDisk.mk x_sectors x_pending).sectors).length+1), .slice (some ⟨Bd+OV.numL (OEnc.oc ((GDisk.mk x_sectors x_pending).sectors)),0,some 2⟩) ((GDisk.mk x_sectors x_pending).pending).length (((GDisk.mk x_sectors x_pending).pending).length+1)]) (oput H Bd (OEnc.oc ((GDisk.mk x_sectors x_pending)))) (Bd+OV.numL (OEnc.oc ((GDisk.mk x_sectors x_pending))))):=ex1 (GDisk.mk x_sectors x_pending) rfl
theorem P12_ok:OK 12 P12:=by
 rintro args H Bd K ⟨x,rfl,hpre,hK⟩
 refine fn_ownN pok (((Env.base _).add 52 _ P52_ok).add 53 _ P53_ok) [] (.agg (OEnc.oc (x))) (OEnc.ok _) hK Tryz.func12 rfl (rs:=[.cell 2 40]) rfl Tryz.ntmps12 (by simp) Tryz.call12 (by kernel_rfl) (fun hb ha=> ?_)
 clear hK
 obtain⟨h1,h2⟩:=hpre
 simp only[sm_GDisk]at h1
 simp only[tot_GDisk]at h2
 refine R h1 ?_
 refine own_agg [(_,OEnc.oc x.sectors),(_,OEnc.oc x.pending)] ?_ ?_ rfl rfl
 ·refine⟨by omega,?_,by omega,?_,trivial⟩
  all_goals (simp (disch:=first|assumption|omega) only[go_sem,push_cast,and_pos,Le_updF,free_upd,free_T hb])
 ·simp (disch:=first|assumption|omega|(simp (disch:=first|assumption|omega) only[free_upd,free_oput,free_T hb];done)) only[go_sem,push_cast,and_pos,Le_updF,Le_upd hb,Le_oputB hb,free_T hb,Le_rfl]
def W132:Trans:=fun args H Bd K=>∃(x:GSymbol),args=[.agg (enc x).toArray]∧((sm x∧tot x≤1048576)∧K (.agg (enc x).toArray) H Bd)
@[go_sem ↓] theorem W132_eq (x_name:ByteArray) (x_arity:Int):W132 [.agg #[.string x_name, .int .i64 x_arity]] H Bd K=((sm (GSymbol.mk x_name x_arity)∧tot (GSymbol.mk x_name x_arity)≤1048576)∧K (.agg (enc ((GSymbol.mk x_name x_arity))).toArray) H Bd):=ex1 (GSymbol.mk x_name x_arity) rfl
theorem W132_ok:OK 132 W132:=by
 rintro args H Bd K ⟨x,rfl,hpre,hK⟩
 refine fnp pok (Env.base _) [] hK Tryz.func132 Tryz.ntmps132 Tryz.call132 [.cell 2 192] fun hb ha=> ?_
 obtain⟨h1,h2⟩:=hpre
 simp only[sm_GSymbol]at h1
 simp only[tot_GSymbol]at h2
 simp (maxSteps:=2000000) (disch:=first|assumption|(refine asm_intro ?_;assumption)|exact Nat.le_add_right _ _|exact Nat.le_refl _|omega|(simp (disch:=first|exact Nat.le_add_right _ _|omega) only[Le_upd hb,Le_app hb,Le_rfl,free_T hb,free_upd];done)|fail) only[go_sem,push_cast,and_pos,Le_updF,Le_upd hb,free_T hb,h1]
def O75:Trans:=fun args H Bd K=>∃(xs:List GSymbol),args=[lst xs]∧((sm xs∧tot xs≤1048576)∧K (.slice (some ⟨Bd,0,some 2⟩) (xs).length ((xs).length+1)) (upd H Bd (some ⟨flat (xs),true⟩)) (Bd+1))
@[go_sem ↓] theorem O75_eq (xs:List GSymbol):O75 [lst xs] H Bd K=((sm xs∧tot xs≤1048576)∧K (.slice (some ⟨Bd,0,some 2⟩) (xs).length ((xs).length+1)) (upd H Bd (some ⟨flat (xs),true⟩)) (Bd+1)):=ex1 xs rfl
theorem O75_ok:OK 75 O75:=by
 rintro args H Bd K ⟨xs,rfl,hpre,hK⟩
 refine fn_own pok ((Env.base _).add 132 _ W132_ok) [] (.slice (some ⟨Bd,0,some 2⟩) (xs).length ((xs).length+1)) [flat (xs)] hK Tryz.func75 rfl (rs:=[.tmp 2]) rfl Tryz.ntmps75 (by simp) Tryz.call75 (by kernel_rfl) (fun cells hc v hv=>by simp only[List.mem_cons,List.not_mem_nil,or_false]at hc;rcases hc with rfl <;>exact flat_nb _ _ _ hv) (fun hb ha=> ?_)
 refine withC pok fun cv=> ?_
 obtain⟨h1,h2⟩:=hpre
 have e:tot xs=xs.length+(xs.map tot).sum:=tot_list xs
 simp (maxSteps:=2000000) (disch:=first|assumption|(refine asm_intro ?_;assumption)|exact Nat.le_add_right _ _|exact Nat.le_refl _|omega|(simp (disch:=first|exact Nat.le_add_right _ _|omega) only[Le_upd hb,Le_app hb,Le_rfl,free_T hb,free_upd];done)|fail) only[go_sem,push_cast,and_pos,Le_updF,Le_upd hb,free_T hb]
 refine tr_fill (α:=GSymbol) hb xs (fun i=>[(0,lst xs),(3, .slice (some ⟨Bd,0,some 2⟩) xs.length (xs.length+1)),(4, .int .i64 i)]) _ (zmake_len _ _) ⟨Nat.le_refl _,by omega⟩ (by simp only[go_sem,push_cast,and_pos,Le_updF]) (Le.refl _) ?_
 intro i L B hi hL hF hB hb'
 refine cv (by kernel_rfl) ?_
 have hL':L.length=xs.length*2:=hL
 rcases Nat.lt_or_ge i xs.length with hlt|hge
 ·have e1:xs[i]? =some xs[i]:=List.getElem?_eq_getElem hlt
  have hx:=sm_mem h1 (List.getElem_mem hlt)
  have hx2:tot xs[i]≤(xs.map tot).sum:=tot_mem hlt
  simp (maxSteps:=2000000) (disch:=first|assumption|(refine asm_intro ?_;assumption)|exact Nat.le_add_right _ _|exact Nat.le_refl _|omega|(simp (disch:=first|exact Nat.le_add_right _ _|omega) only[Le_upd hb,Le_app hb,Le_rfl,free_T hb,free_upd];done)|fail) only[go_sem,push_cast,and_pos,Le_updF,Le_upd hb,free_T hb,e1,hx]
  exact⟨_,rfl,Le.refl _⟩
 ·simp (maxSteps:=2000000) (disch:=first|assumption|(refine asm_intro ?_;assumption)|exact Nat.le_add_right _ _|exact Nat.le_refl _|omega|(simp (disch:=first|exact Nat.le_add_right _ _|omega) only[Le_upd hb,Le_app hb,Le_rfl,free_T hb,free_upd];done)|fail) only[go_sem,push_cast,and_pos,Le_updF,Le_upd hb,free_T hb]
  have hf:L=flat xs:=by
   rw[List.take_of_length_le (by rw[hL];exact Nat.mul_le_mul_right _ hge),List.take_of_length_le hge]at hF
   exact hF
  subst hf
  refine cv (by kernel_rfl) ?_
  simp (maxSteps:=2000000) (disch:=first|assumption|(refine asm_intro ?_;assumption)|exact Nat.le_add_right _ _|exact Nat.le_refl _|omega|(simp (disch:=first|exact Nat.le_add_right _ _|omega) only[Le_upd hb,Le_app hb,Le_rfl,free_T hb,free_upd];done)|fail) only[go_sem,push_cast,and_pos,Le_updF,Le_upd hb,free_T hb]
def O24:Trans:=fun args H Bd K=>∃(x:GSignature),args=[.agg (enc x).toArray]∧((sm x∧tot x≤1048576)∧K (.agg #[.slice (some ⟨Bd,0,some 2⟩) ((x).symbols).length (((x).symbols).length+1)]) (upd H Bd (some ⟨flat ((x).symbols),true⟩)) (Bd+1))
@[go_sem ↓] theorem O24_eq (x_symbols:List GSymbol):O24 [.agg #[lst x_symbols]] H Bd K=((sm (GSignature.mk x_symbols)∧tot (GSignature.mk x_symbols)≤1048576)∧K (.agg #[.slice (some ⟨Bd,0,some 2⟩) (((GSignature.mk x_symbols)).symbols).length ((((GSignature.mk x_symbols)).symbols).length+1)]) (upd H Bd (some ⟨flat (((GSignature.mk x_symbols)).symbols),true⟩)) (Bd+1)):=ex1 (GSignature.mk x_symbols) rfl
theorem O24_ok:OK 24 O24:=by
 rintro args H Bd K ⟨x,rfl,hpre,hK⟩
 refine fn_own pok ((Env.base _).add 75 _ O75_ok) [] (.agg #[.slice (some ⟨Bd,0,some 2⟩) ((x).symbols).length (((x).symbols).length+1)]) [flat ((x).symbols)] hK Tryz.func24 rfl (rs:=[.cell 2 44]) rfl Tryz.ntmps24 (by simp) Tryz.call24 (by kernel_rfl) (fun cells hc v hv=>by simp only[List.mem_cons,List.not_mem_nil,or_false]at hc;rcases hc with rfl <;>exact flat_nb _ _ _ hv) (fun hb ha=> ?_)
 obtain⟨h1,h2⟩:=hpre
 simp only[sm_GSignature]at h1
 simp only[tot_GSignature]at h2
 simp (maxSteps:=2000000) (disch:=first|assumption|(refine asm_intro ?_;assumption)|exact Nat.le_add_right _ _|exact Nat.le_refl _|omega|(simp (disch:=first|exact Nat.le_add_right _ _|omega) only[Le_upd hb,Le_app hb,Le_rfl,free_T hb,free_upd];done)|fail) only[go_sem,push_cast,and_pos,Le_updF,Le_upd hb,free_T hb,h1]
def O13:Trans:=fun args H Bd K=>∃(x:GSuper),args=[.agg (enc x).toArray]∧((sm x∧tot x≤1048576)∧K (.agg #[.int .i64 ((x).gen), .int .i64 ((x).root), .int .i64 ((x).shadow), .int .i64 ((x).theory), .int .i64 ((x).next_), .int .i64 ((x).version), .bool ((x).moving), .slice (some ⟨Bd,0,some 1⟩) ((x).cursor).length (((x).cursor).length+1), .slice (some ⟨Bd+1,0,some 2⟩) (((x).symbols).symbols).length ((((x).symbols).symbols).length+1)]) (upd (upd H Bd (some ⟨flat ((x).cursor),true⟩)) (Bd+1) (some ⟨flat (((x).symbols).symbols),true⟩)) (Bd+2))
@[go_sem ↓] theorem O13_eq (x_gen:Int) (x_root:Int) (x_shadow:Int) (x_theory:Int) (x_next:Int) (x_version:Int) (x_moving:Bool) (x_cursor:List UInt8) (x_symbols_symbols:List GSymbol):O13 [.agg #[.int .i64 x_gen, .int .i64 x_root, .int .i64 x_shadow, .int .i64 x_theory, .int .i64 x_next, .int .i64 x_version, .bool x_moving,lst x_cursor,lst x_symbols_symbols]] H Bd K=((sm (GSuper.mk x_gen x_root x_shadow x_theory x_next x_version x_moving x_cursor (GSignature.mk x_symbols_symbols))∧tot (GSuper.mk x_gen x_root x_shadow x_theory x_next x_version x_moving x_cursor (GSignature.mk x_symbols_symbols))≤1048576)∧K (.agg #[.int .i64 (((GSuper.mk x_gen x_root x_shadow x_theory x_next x_version x_moving x_cursor (GSignature.mk x_symbols_symbols))).gen), .int .i64 (((GSuper.mk x_gen x_root x_shadow x_theory x_next x_version x_moving x_cursor (GSignature.mk x_symbols_symbols))).root), .int .i64 (((GSuper.mk x_gen x_root x_shadow x_theory x_next x_version x_moving x_cursor (GSignature.mk x_symbols_symbols))).shadow), .int .i64 (((GSuper.mk x_gen x_root x_shadow x_theory x_next x_version x_moving x_cursor (GSignature.mk x_symbols_symbols))).theory), .int .i64 (((GSuper.mk x_gen x_root x_shadow x_theory x_next x_version x_moving x_cursor (GSignature.mk x_symbols_symbols))).next_), .int .i64 (((GSuper.mk x_gen x_root x_shadow x_theory x_next x_version x_moving x_cursor (GSignature.mk x_symbols_symbols))).version), .bool (((GSuper.mk x_gen x_root x_shadow x_theory x_next x_version x_moving x_cursor (GSignature.mk x_symbols_symbols))).moving), .slice (some ⟨Bd,0,some 1⟩) (((GSuper.mk x_gen x_root x_shadow x_theory x_next x_version x_moving x_cursor (GSignature.mk x_symbols_symbols))).cursor).length ((((GSuper.mk x_gen x_root x_shadow x_theory x_next x_version x_moving x_cursor (GSignature.mk x_symbols_symbols))).cursor).length+1), .slice (some ⟨Bd+1,0,some 2⟩) ((((GSuper.mk x_gen x_root x_shadow x_theory x_next x_version x_moving x_cursor (GSignature.mk x_symbols_symbols))).symbols).symbols).length (((((GSuper.mk x_gen x_root x_shadow x_theory x_next x_version x_moving x_cursor (GSignature.mk x_symbols_symbols))).symbols).symbols).length+1)]) (upd (upd H Bd (some ⟨flat (((GSuper.mk x_gen x_root x_shadow x_theory x_next x_version x_moving x_cursor (GSignature.mk x_symbols_symbols))).cursor),true⟩)) (Bd+1) (some ⟨flat ((((GSuper.mk x_gen x_root x_shadow x_theory x_next x_version x_moving x_cursor (GSignature.mk x_symbols_symbols))).symbols).symbols),true⟩)) (Bd+2)):=ex1 (GSuper.mk x_gen x_root x_shadow x_theory x_next x_version x_moving x_cursor (GSignature.mk x_symbols_symbols)) rfl
set_option maxHeartbeats 2000000 in
theorem O13_ok:OK 13 O13:=by
 rintro args H Bd K ⟨x,rfl,hpre,hK⟩
 refine fn_own pok (((Env.base _).add 54 _ O54_ok).add 24 _ O24_ok) [] (.agg #[.int .i64 ((x).gen), .int .i64 ((x).root), .int .i64 ((x).shadow), .int .i64 ((x).theory), .int .i64 ((x).next_), .int .i64 ((x).version), .bool ((x).moving), .slice (some ⟨Bd,0,some 1⟩) ((x).cursor).length (((x).cursor).length+1), .slice (some ⟨Bd+1,0,some 2⟩) (((x).symbols).symbols).length ((((x).symbols).symbols).length+1)]) [flat ((x).cursor),flat (((x).symbols).symbols)] hK Tryz.func13 rfl (rs:=[.cell 2 46]) rfl Tryz.ntmps13 (by simp) Tryz.call13 (by kernel_rfl) (fun cells hc v hv=>by simp only[List.mem_cons,List.not_mem_nil,or_false]at hc;rcases hc with rfl|rfl <;>exact flat_nb _ _ _ hv) (fun hb ha=> ?_)
 obtain⟨h1,h2⟩:=hpre
 simp only[sm_GSuper]at h1
 simp only[tot_GSuper]at h2
 simp (maxSteps:=2000000) (disch:=first|assumption|(refine asm_intro ?_;assumption)|exact Nat.le_add_right _ _|exact Nat.le_refl _|omega|(simp (disch:=first|exact Nat.le_add_right _ _|omega) only[Le_upd hb,Le_app hb,Le_rfl,free_T hb,free_upd];done)|fail) only[go_sem,push_cast,and_pos,Le_updF,Le_upd hb,free_T hb,h1]
def W105:Trans:=fun args H Bd K=>∃(n:Int) (low:Int) (high:Int),args=[.int .i64 n, .int .i64 low, .int .i64 high]∧(K (.bool (decide (low≤n∧n≤high))) H Bd)
@[go_sem ↓] theorem W105_eq (n:Int) (low:Int) (high:Int):W105 [.int .i64 n, .int .i64 low, .int .i64 high] H Bd K=(K (.bool (decide (low≤n∧n≤high))) H Bd):=ex3 n low high rfl
theorem W105_ok:OK 105 W105:=by
 rintro args H Bd K ⟨n,low,high,rfl,hK⟩
 refine fnp pok (Env.base _) [(1,[],[],(.k 4 (.grp true 10 13 3 [11,12,13] 14 none (.k 3 .nil) (.k 1 .nil))))] hK Tryz.func105 Tryz.ntmps105 Tryz.call105 [.tmp 6] fun hb ha=> ?_
 simp (maxSteps:=2000000) (disch:=first|assumption|(refine asm_intro ?_;assumption)|exact Nat.le_add_right _ _|exact Nat.le_refl _|omega|(simp (disch:=first|exact Nat.le_add_right _ _|omega) only[Le_upd hb,Le_app hb,Le_rfl,free_T hb,free_upd];done)|fail) only[go_sem,push_cast,and_pos,Le_updF,Le_upd hb,free_T hb]
 all_goals first|done|trivial|((try simp only[Cnp,Imp]);grind)
def W49:Trans:=fun args H Bd K=>∃(d:GDisk),args=[.agg (enc d).toArray]∧((sm d)∧K (.int .i64 (diskF d)) H Bd)
@[go_sem ↓] theorem W49_eq (d_sectors:List (List UInt8)) (d_pending:List GPut):W49 [.agg #[lst d_sectors,lst d_pending]] H Bd K=((sm (GDisk.mk d_sectors d_pending))∧K (.int .i64 (diskF (GDisk.mk d_sectors d_pending))) H Bd):=ex1 (GDisk.mk d_sectors d_pending) rfl
set_option maxHeartbeats 2000000 in
theorem W49_ok:OK 49 W49:=by
 rintro args H Bd K ⟨d,rfl,hpre,hK⟩
 refine fnp pok ((Env.base _).add 105 _ W105_ok) [(24,[0,1,2,3,4,5,6,7,8,9,10,11,12],[⟨0,[],[]⟩,⟨1,[],[]⟩,⟨2,[],[]⟩,⟨3,[],[]⟩,⟨4,[],[]⟩,⟨5,[],[]⟩,⟨6,[],[]⟩,⟨7,[],[]⟩,⟨8,[],[]⟩,⟨9,[],[]⟩,⟨10,[],[]⟩,⟨11,[],[]⟩,⟨12,[],[]⟩], .nil)] hK Tryz.func49 Tryz.ntmps49 Tryz.call49 [.tmp 2] fun hb ha=> ?_
 refine withC pok fun cv=> ?_
 have hd:=hpre
 simp only[sm_GDisk]at hpre
 have hlen:=sm_len hpre.1
 have hlen2:=sm_len hpre.2
 rcases Decidable.em (¬(8≤d.sectors.length∧d.sectors.length≤64))with h8|h8
 ·have hf:diskF d=2:=by unfold diskF;rw[if_pos h8]
  refine R (cj hd hf) ?_
  all_goals first|trivial|exact fun a b=>absurd (And.intro (by omega) (by omega)) h8
 have hf:diskF d=diskG d:=by unfold diskF;rw[if_neg h8]
 rw[hf]
 obtain⟨h81,h82⟩:=Decidable.not_not.1 h8
 refine R (cj h81 h82) ?_
 refine tr_for (fun k=>∀j,j<k→∀x,d.sectors[j]? =some x→decide (x.length≠96)=false) (d.sectors.length) (fun k=>[(1, .pointer (some ⟨Bd,0,none⟩)),(3, .int .i64 d.sectors.length),(4, .int .i64 k)]) (by simp) (by simp only[go_sem,push_cast,and_pos,Le_updF]) ?_
 intro k Bk hIk hik hBk
 refine cv (by kernel_rfl) ?_
 rcases Nat.lt_or_ge k (d.sectors.length)with hltk|hgek
 ·have e1:d.sectors[k]? =some d.sectors[k]:=List.getElem?_eq_getElem hltk
  have hx:=sm_len (sm_mem hpre.1 (List.getElem_mem hltk))
  by_cases h9:d.sectors[k].length=96
  ·refine R (cj e1 h9) ?_
   intro j hj x hx2
   by_cases e:j=k
   ·subst e;rw[e1]at hx2;cases hx2;simpa using h9
   ·simpa using hIk j (by omega) x hx2
  ·have hg:diskG d=1:=by unfold diskG;rw[if_pos (any_hit hltk (by simpa using h9))]
   rw[hg]
   exact R (cj e1 h9) trivial
 ·have hany:d.sectors.any (fun b=>decide (b.length≠96))=false:=any_false fun j hj x hx=>hIk j (by omega) x hx
  refine R0 ?_
  refine cv (by kernel_rfl) ?_
  by_cases hp:d.pending.length>d.sectors.length
  ·have hg:diskG d=2:=by unfold diskG;rw[if_neg (by rw[hany];exact Bool.false_ne_true),if_pos hp]
   rw[hg]
   exact R hp trivial
  have hg:diskG d=if putF d.sectors.length d.pending≠0 then putF d.sectors.length d.pending else if(d.pending.map (·.sector)).Nodup then 0 else 6:=by unfold diskG;rw[if_neg (by rw[hany];exact Bool.false_ne_true),if_neg hp]
  refine R hp ?_
  refine tr_for (fun i=>putF d.sectors.length (d.pending.drop i)=putF d.sectors.length d.pending) (d.pending.length) (fun i=>[(1, .pointer (some ⟨Bd,0,none⟩)),(3, .int .i64 d.sectors.length),(5, .int .i64 i)]) (by simp) (by simp only[go_sem,push_cast,and_pos,Le_updF]) ?_
  intro i Bi hIi hii hBi
  refine cv (by kernel_rfl) ?_
  rcases Nat.lt_or_ge i (d.pending.length)with hlti|hgei
  ·have e1:d.pending[i]? =some d.pending[i]:=List.getElem?_eq_getElem hlti
   have hd2:=List.drop_eq_getElem_cons hlti
   have hx:=sm_mem hpre.2 (List.getElem_mem hlti)
   simp only[sm_GPut]at hx
   have hx2:=sm_len hx.2
   rw[hd2,putF]at hIi
   by_cases hr:0≤d.pending[i].sector∧d.pending[i].sector≤(d.sectors.length:Int)-1
   ·rw[if_neg (by simpa using hr)]at hIi
    by_cases hb9:d.pending[i].bytes.length=96
    ·rw[if_neg (by simpa using hb9)]at hIi
     obtain⟨hr1,hr2⟩:=hr
     exact R (cj e1 (cj hd (cj hr1 (cj hr2 (cj hb9 hIi))))) trivial
    ·rw[if_pos hb9]at hIi
     have hg2:diskG d=1:=by rw[hg,←hIi];rfl
     obtain⟨hr1,hr2⟩:=hr
     rw[hg2]
     exact R (cj e1 (cj hd (cj hr1 (cj hr2 hb9)))) trivial
   ·rw[if_pos hr]at hIi
    have hg2:diskG d=3:=by rw[hg,←hIi];rfl
    rw[hg2]
    refine R (cj e1 (cj hd hr)) ?_
    all_goals (first|trivial|exact fun a b=>absurd (And.intro (by omega) (by omega)) hr|(intros;omega))
  ·refine R0 ?_
   have h0:putF d.sectors.length d.pending=0:=by rw[←hIi,List.drop_of_length_le hgei];rfl
   rw[h0]at hg
   simp only[ne_eq,not_true_eq_false,if_false]at hg
   refine cv (by kernel_rfl) ?_
   refine R0 ?_
   refine tr_for (fun j=>∀a b x y,b<a→a<j→d.pending[a]? =some x→d.pending[b]? =some y→x.sector≠y.sector) (d.pending.length) (fun j=>[(1, .pointer (some ⟨Bd,0,none⟩)),(3, .int .i64 d.sectors.length),(6, .int .i64 j)]) (by simp) (by simp only[go_sem,push_cast,and_pos,Le_updF]) ?_
   intro j Bj hIj hij hBj
   refine cv (by kernel_rfl) ?_
   rcases Nat.lt_or_ge j (d.pending.length)with hltj|hgej
   ·have e1:d.pending[j]? =some d.pending[j]:=List.getElem?_eq_getElem hltj
    refine R e1 ?_
    refine tr_for (fun m=>∀b y,b<m→d.pending[b]? =some y→d.pending[j].sector≠y.sector) (j) (fun m=>[(1, .pointer (some ⟨Bd,0,none⟩)),(3, .int .i64 d.sectors.length),(6, .int .i64 j),(7, .int .i64 m)]) (by simp) (by simp only[go_sem,push_cast,and_pos,Le_updF]) ?_
    intro m Bm hIm him hBm
    refine cv (by kernel_rfl) ?_
    rcases Nat.lt_or_ge m (j)with hltm|hgem
    ·have e2:d.pending[m]? =some (d.pending[m]'(by omega)):=List.getElem?_eq_getElem _
     by_cases hq:d.pending[j].sector=(d.pending[m]'(by omega)).sector
     ·have hn:¬(d.pending.map (·.sector)).Nodup:=nodup_map_not (f:=(·.sector)) hltm hltj hq
      rw[if_neg hn]at hg
      rw[hg]
      exact R (cj e1 (cj e2 hq)) trivial
     ·refine R (cj e1 (cj e2 hq)) ?_
      intro b y hb1 hb2
      by_cases e:b=m
      ·subst e;rw[e2]at hb2;cases hb2;exact hq
      ·exact hIm b y (by omega) hb2
    ·refine R0 ?_
     intro a b x y h1 h2 h3 h4
     by_cases e:a=j
     ·subst e;rw[e1]at h3;cases h3;exact hIm b y (by omega) h4
     ·exact hIj a b x y h1 (by omega) h3 h4
   ·refine R0 ?_
    refine cv (by kernel_rfl) ?_
    have h7:(d.pending.map (·.sector)).Nodup:=nodup_map fun i j x y h1 h2 h3 h4=>hIj i j x y h1 (by omega) h3 h4
    rw[if_pos h7]at hg
    rw[hg]
    exact R0 trivial
def W107:Trans:=fun args H Bd K=>∃(n:Int),args=[.int .i64 n]∧(K (.bool (isPg n)) H Bd)
@[go_sem ↓] theorem W107_eq (n:Int):W107 [.int .i64 n] H Bd K=(K (.bool (isPg n)) H Bd):=ex1 n rfl
theorem W107_ok:OK 107 W107:=by
 rintro args H Bd K ⟨n,rfl,hK⟩
 refine fnp pok ((Env.base _).add 105 _ W105_ok) [] hK Tryz.func107 Tryz.ntmps107 Tryz.call107 [.tmp 2] fun hb ha=> ?_
 refine R0 ?_
 unfold isPg
 all_goals first|done|trivial|((try simp only[Cnp,Imp]);grind)
def W106:Trans:=fun args H Bd K=>∃(n:Int),args=[.int .i64 n]∧(K (.bool (isRt n)) H Bd)
@[go_sem ↓] theorem W106_eq (n:Int):W106 [.int .i64 n] H Bd K=(K (.bool (isRt n)) H Bd):=ex1 n rfl
theorem W106_ok:OK 106 W106:=by
 rintro args H Bd K ⟨n,rfl,hK⟩
 refine fnp pok ((Env.base _).add 107 _ W107_ok) [(1,[],[],(.k 3 (.grp false 5 7 2 [6,7] 8 none (.k 2 .nil) (.k 1 .nil))))] hK Tryz.func106 Tryz.ntmps106 Tryz.call106 [.tmp 2] fun hb ha=> ?_
 refine R0 ?_
 unfold isRt
 all_goals first|done|trivial|((try simp only[Cnp,Imp]);grind)
def W127:Trans:=fun args H Bd K=>∃(s:ByteArray),args=[.string s]∧((s.size≤281474976710656)∧K (.bool (isNm s)) H Bd)
@[go_sem ↓] theorem W127_eq (s:ByteArray):W127 [.string s] H Bd K=((s.size≤281474976710656)∧K (.bool (isNm s)) H Bd):=ex1 s rfl
set_option maxHeartbeats 2000000 in
theorem W127_ok:OK 127 W127:=by
 rintro args H Bd K ⟨s,rfl,hpre,hK⟩
 refine fnp pok (Env.base _) [(1,[],[],(.k 4 (.grp false 7 10 3 [8,9,10] 11 none (.k 3 .nil) .nil))),(6,[],[],(.k 5 (.grp false 22 26 4 [23,24,25,26] 27 none (.k 4 .nil) .nil)))] hK Tryz.func127 Tryz.ntmps127 Tryz.call127 [.tmp 2] fun hb ha=> ?_
 refine withC pok fun cv=> ?_
 refine R0 ?_
 refine⟨fun h=> ?_,fun h1 h2=> ?_⟩
 ·unfold isNm;grind
 refine tr_for (fun i=>∀j,j<i→97≤byteAt s j∧byteAt s j≤122) (s.size) (fun i=>[(0, .string s),(3, .int .i64 i)]) (by simp) (by simp only[go_sem,push_cast,and_pos,Le_updF]) ?_
 intro i Bi hIi hii hBi
 refine cv (by kernel_rfl) ?_
 rcases Nat.lt_or_ge i (s.size)with hlti|hgei
 ·refine R0 ?_
  unfold isNm
  all_goals first|done|trivial|((try simp only[Cnp,Imp]);grind)
 ·refine R0 ?_
  refine cv (by kernel_rfl) ?_
  refine R0 ?_
  unfold isNm
  all_goals first|done|trivial|((try simp only[Cnp,Imp]);grind)
def W72:Trans:=fun args H Bd K=>∃(s:GSignature),args=[.agg (enc s).toArray]∧((sm s)∧K (.int .i64 (sigF s)) H Bd)
@[go_sem ↓] theorem W72_eq (s_symbols:List GSymbol):W72 [.agg #[lst s_symbols]] H Bd K=((sm (GSignature.mk s_symbols))∧K (.int .i64 (sigF (GSignature.mk s_symbols))) H Bd):=ex1 (GSignature.mk s_symbols) rfl
set_option maxHeartbeats 2000000 in
theorem W72_ok:OK 72 W72:=by
 rintro args H Bd K ⟨s,rfl,hpre,hK⟩
 refine fnp pok (((Env.base _).add 127 _ W127_ok).add 105 _ W105_ok) [(2,[],[],(.k 3 (.grp false 13 15 2 [14,15] 16 none (.k 2 .nil) .nil))),(17,[0,1,2,3,4,5,6,7,8,9,10,11,12],[⟨0,[],[]⟩,⟨1,[],[]⟩,⟨2,[],[]⟩,⟨3,[],[]⟩,⟨4,[],[]⟩,⟨5,[],[]⟩,⟨6,[],[]⟩,⟨7,[],[]⟩,⟨8,[],[]⟩,⟨9,[],[]⟩,⟨10,[],[]⟩,⟨11,[],[]⟩,⟨12,[],[]⟩], .nil)] hK Tryz.func72 Tryz.ntmps72 Tryz.call72 [.tmp 2] fun hb ha=> ?_
 refine withC pok fun cv=> ?_
 simp only[sm_GSignature]at hpre
 have hlen:=sm_len hpre
 refine R0 ?_
 refine⟨fun h=>by unfold sigF;rw[if_pos (by omega)],fun h1 h2=> ?_⟩
 have hs:sigF s=sigG s:=by unfold sigF;rw[if_neg (by omega)]
 rw[hs]
 refine tr_for (fun i=>symL (s.symbols.drop i)=symL s.symbols) (s.symbols.length) (fun i=>[(1, .pointer (some ⟨Bd,0,none⟩)),(3, .int .i64 s.symbols.length),(4, .int .i64 i)]) (by simp) (by simp only[go_sem,push_cast,and_pos,Le_updF]) ?_
 intro i Bi hIi hii hBi
 refine cv (by kernel_rfl) ?_
 rcases Nat.lt_or_ge i (s.symbols.length)with hlti|hgei
 ·have e1:s.symbols[i]? =some s.symbols[i]:=List.getElem?_eq_getElem hlti
  have hd:=List.drop_eq_getElem_cons hlti
  have hx:=sm_mem hpre (List.getElem_mem hlti)
  simp only[sm_GSymbol,sm_str,sm_int,and_true]at hx
  rw[hd,symL]at hIi
  refine R (cj e1 hx) ?_
  generalize symL (List.drop (i+1) s.symbols)=q at*
  unfold sigG
  all_goals first|done|trivial|((try simp only[Cnp,Imp]);grind)
 ·refine R0 ?_
  refine cv (by kernel_rfl) ?_
  refine R0 ?_
  have h0:symL s.symbols=0:=by rw[←hIi,List.drop_of_length_le hgei];rfl
  refine tr_for (fun j=>∀a b x y,b<a→a<j→s.symbols[a]? =some x→s.symbols[b]? =some y→x.name≠y.name) (s.symbols.length) (fun j=>[(1, .pointer (some ⟨Bd,0,none⟩)),(3, .int .i64 s.symbols.length),(5, .int .i64 j)]) (by simp) (by simp only[go_sem,push_cast,and_pos,Le_updF]) ?_
  intro j Bj hIj hij hBj
  refine cv (by kernel_rfl) ?_
  rcases Nat.lt_or_ge j (s.symbols.length)with hltj|hgej
  ·have e1:s.symbols[j]? =some s.symbols[j]:=List.getElem?_eq_getElem hltj
   refine R e1 ?_
   refine tr_for (fun k=>∀b y,b<k→s.symbols[b]? =some y→s.symbols[j].name≠y.name) (j) (fun k=>[(1, .pointer (some ⟨Bd,0,none⟩)),(3, .int .i64 s.symbols.length),(5, .int .i64 j),(6, .int .i64 k)]) (by simp) (by simp only[go_sem,push_cast,and_pos,Le_updF]) ?_
   intro k Bk hIk hik hBk
   refine cv (by kernel_rfl) ?_
   rcases Nat.lt_or_ge k (j)with hltk|hgek
   ·have e2:s.symbols[k]? =some (s.symbols[k]'(by omega)):=List.getElem?_eq_getElem _
    refine R (cj e1 e2) ?_
    refine⟨fun h=> ?_,fun h=>fun b y hb1 hb2=> ?_⟩
    ·unfold sigG
     rw[if_neg (by simp[h0]),if_pos (nodup_map_not hltk hltj h)]
    ·by_cases e:b=k
     ·subst e;rw[e2]at hb2;cases hb2;exact h
     ·exact hIk b y (by omega) hb2
   ·refine R0 ?_
    intro a b x y h1 h2 h3 h4
    by_cases e:a=j
    ·subst e;rw[e1]at h3;cases h3;exact hIk b y (by omega) h4
    ·exact hIj a b x y h1 (by omega) h3 h4
  ·refine R0 ?_
   refine cv (by kernel_rfl) ?_
   refine R0 ?_
   have h7:(s.symbols.map (·.name)).Nodup:=nodup_map fun i j x y h1 h2 h3 h4=>hIj i j x y h1 (by omega) h3 h4
   have hg:sigG s=if s.symbols.any (fun x=>decide (x.arity=0))=true then 0 else 4:=by
    unfold sigG
    rw[if_neg (by simp[h0]),if_neg (by simp[h7])]
   rw[hg]
   refine tr_for (fun l=>∀b,b<l→∀y,s.symbols[b]? =some y→decide (y.arity=0)=false) (s.symbols.length) (fun l=>[(1, .pointer (some ⟨Bd,0,none⟩)),(3, .int .i64 s.symbols.length),(7, .int .i64 l)]) (by simp) (by simp only[go_sem,push_cast,and_pos,Le_updF]) ?_
   intro l Bl hIl hil hBl
   refine cv (by kernel_rfl) ?_
   rcases Nat.lt_or_ge l (s.symbols.length)with hltl|hgel
   ·have e2:s.symbols[l]? =some s.symbols[l]:=List.getElem?_eq_getElem hltl
    refine R e2 ?_
    refine⟨fun h=> ?_,fun h=>fun b hb1 y hb2=> ?_⟩
    ·rw[if_pos (any_hit hltl (by simpa using h))]
    ·by_cases e:b=l
     ·subst e;rw[e2]at hb2;cases hb2;simpa using h
     ·simpa using hIl b (by omega) y hb2
   ·refine R0 ?_
    refine cv (by kernel_rfl) ?_
    refine R0 ?_
    rw[if_neg (by rw[any_false fun j hj x hx=>hIl j (by omega) x hx];simp)]
def W50:Trans:=fun args H Bd K=>∃(p:GSuper),args=[.agg (enc p).toArray]∧((sm p)∧K (.int .i64 (superF p)) H Bd)
@[go_sem ↓] theorem W50_eq (p_gen:Int) (p_root:Int) (p_shadow:Int) (p_theory:Int) (p_next:Int) (p_version:Int) (p_moving:Bool) (p_cursor:List UInt8) (p_symbols_symbols:List GSymbol):W50 [.agg #[.int .i64 p_gen, .int .i64 p_root, .int .i64 p_shadow, .int .i64 p_theory, .int .i64 p_next, .int .i64 p_version, .bool p_moving,lst p_cursor,lst p_symbols_symbols]] H Bd K=((sm (GSuper.mk p_gen p_root p_shadow p_theory p_next p_version p_moving p_cursor (GSignature.mk p_symbols_symbols)))∧K (.int .i64 (superF (GSuper.mk p_gen p_root p_shadow p_theory p_next p_version p_moving p_cursor (GSignature.mk p_symbols_symbols)))) H Bd):=ex1 (GSuper.mk p_gen p_root p_shadow p_theory p_next p_version p_moving p_cursor (GSignature.mk p_symbols_symbols)) rfl
set_option maxHeartbeats 2000000 in
theorem W50_ok:OK 50 W50:=by
 rintro args H Bd K ⟨p,rfl,hpre,hK⟩
 refine fnp pok (((((Env.base _).add 105 _ W105_ok).add 106 _ W106_ok).add 107 _ W107_ok).add 72 _ W72_ok) [(1,[],[],(.k 5 (.grp false 7 11 4 [8,9,10,11] 12 none (.k 4 .nil) .nil))),(3,[],[],(.k 5 (.grp false 17 21 4 [18,19,20,21] 22 none (.k 4 .nil) (.k 1 (.grp false 23 27 4 [24,25,26,27] 28 none (.k 4 .nil) (.k 1 (.grp false 29 33 4 [30,31,32,33] 34 none (.k 4 .nil) .nil))))))),(7,[],[],(.k 3 (.grp true 41 44 3 [42,43,44] 45 none (.k 3 .nil) (.k 1 (.grp false 46 65 19 [47,48,49,50,51,52,53,54,55,56,57,58,59,60,61,62,63,64,65] 66 none (.k 4 (.grp true 50 64 14 [51,52,53,54,55,56,57,58,59,60,61,62,63,64] 65 (some (46,false)) (.k 4 (.grp false 54 57 3 [55,56,57] 58 (some (50,true)) (.k 3 .nil) (.k 1 (.grp false 59 63 4 [60,61,62,63] 64 (some (50,true)) (.k 4 .nil) .nil)))) .nil)) .nil)))))] hK Tryz.func50 Tryz.ntmps50 Tryz.call50 [.tmp 2] fun hb ha=> ?_
 have hss:=hpre
 simp only[sm_GSuper]at hpre
 obtain⟨_,_,_,_,_,_,_,hc,hs⟩:=hpre
 have hlc:=sm_len hc
 by_cases g:((1≤p.gen∧p.gen≤60000)∧(1≤p.version∧p.version≤60000))∧isRt p.root=true∧isRt p.shadow=true∧isRt p.next_=true∧isPg p.theory=true
 case neg=>
  have e:superF p=3:=by unfold superF;rw[if_neg g]
  by_cases g1:1≤p.gen∧p.gen≤60000
  case neg=>
   refine R (cj hs (cj e g1)) ?_
   all_goals first|done|trivial|((try simp only[Cnp,Imp]);grind)
  by_cases g2:1≤p.version∧p.version≤60000
  case neg=>
   refine R (cj hs (cj e (cj g1 g2))) ?_
   all_goals first|done|trivial|((try simp only[Cnp,Imp]);grind)
  by_cases g3:isRt p.root=true
  case neg=>simp (maxSteps:=2000000) (disch:=first|assumption|(refine asm_intro ?_;assumption)|exact Nat.le_add_right _ _|exact Nat.le_refl _|omega|(simp (disch:=first|exact Nat.le_add_right _ _|omega) only[Le_upd hb,Le_app hb,Le_rfl,free_T hb,free_upd];done)|fail) only[go_sem,push_cast,and_pos,Le_updF,Le_upd hb,free_T hb,hs,e,g1,g2,g3]
  by_cases g4:isRt p.shadow=true
  case neg=>simp (maxSteps:=2000000) (disch:=first|assumption|(refine asm_intro ?_;assumption)|exact Nat.le_add_right _ _|exact Nat.le_refl _|omega|(simp (disch:=first|exact Nat.le_add_right _ _|omega) only[Le_upd hb,Le_app hb,Le_rfl,free_T hb,free_upd];done)|fail) only[go_sem,push_cast,and_pos,Le_updF,Le_upd hb,free_T hb,hs,e,g1,g2,g3,g4]
  by_cases g5:isRt p.next_=true
  case neg=>simp (maxSteps:=2000000) (disch:=first|assumption|(refine asm_intro ?_;assumption)|exact Nat.le_add_right _ _|exact Nat.le_refl _|omega|(simp (disch:=first|exact Nat.le_add_right _ _|omega) only[Le_upd hb,Le_app hb,Le_rfl,free_T hb,free_upd];done)|fail) only[go_sem,push_cast,and_pos,Le_updF,Le_upd hb,free_T hb,hs,e,g1,g2,g3,g4,g5]
  have g6:¬isPg p.theory=true:=fun h=>g ⟨⟨g1,g2⟩,g3,g4,g5,h⟩
  exact R (cj hs (cj e (cj g1 (cj g2 (cj g3 (cj g4 (cj g5 g6))))))) trivial
 have hg:superF p=if 16<p.cursor.length then 2 else if(p.moving=true∧p.next_=0)∨(p.moving=false∧(p.shadow≠0∨p.next_≠0∨0<p.cursor.length))then 8 else sigF p.symbols:=by unfold superF;rw[if_pos g]
 obtain⟨⟨g1,g2⟩,g3,g4,g5,g6⟩:=g
 by_cases g7:16<p.cursor.length
 ·rw[if_pos g7]at hg
  exact R (cj hs (cj hg (cj g1 (cj g2 (cj g3 (cj g4 (cj g5 (cj g6 g7)))))))) trivial
 rw[if_neg g7]at hg
 have hz0:isRt 0=true:=rfl
 by_cases gm:p.moving=true
 ·have gm2:¬p.moving=false:=by simp[gm]
  by_cases g8:p.next_=0
  ·rw[if_pos (.inl ⟨gm,g8⟩)]at hg
   exact R (cj hs (cj hg (cj g1 (cj g2 (cj g3 (cj g4 (cj g5 (cj g6 (cj g7 (cj hz0 (cj gm g8))))))))))) trivial
  ·rw[if_neg (fun h=>h.elim (fun h=>g8 h.2) fun h=>gm2 h.1)]at hg
   exact R (cj hs (cj hg (cj g1 (cj g2 (cj g3 (cj g4 (cj g5 (cj g6 (cj g7 (cj hz0 (cj gm g8))))))))))) trivial
 ·have gm2:p.moving=false:=by simpa using gm
  by_cases g8:p.shadow=0
  case neg=>
   rw[if_pos (.inr ⟨gm2, .inl g8⟩)]at hg
   exact R (cj hs (cj hg (cj g1 (cj g2 (cj g3 (cj g4 (cj g5 (cj g6 (cj g7 (cj hz0 (cj gm2 g8))))))))))) trivial
  by_cases g9:p.next_=0
  case neg=>
   rw[if_pos (.inr ⟨gm2, .inr (.inl g9)⟩)]at hg
   exact R (cj hs (cj hg (cj g1 (cj g2 (cj g3 (cj g4 (cj g5 (cj g6 (cj g7 (cj hz0 (cj gm2 (cj g8 g9)))))))))))) trivial
  by_cases g10:0<p.cursor.length
  ·rw[if_pos (.inr ⟨gm2, .inr (.inr g10)⟩)]at hg
   exact R (cj hs (cj hg (cj g1 (cj g2 (cj g3 (cj g4 (cj g5 (cj g6 (cj g7 (cj hz0 (cj gm2 (cj g8 (cj g9 g10))))))))))))) trivial
  ·rw[if_neg (fun h=>h.elim (fun h=>gm h.1) fun h=>h.2.elim (fun h=>h g8) fun h=>h.elim (fun h=>h g9) g10)]at hg
   exact R (cj hs (cj hg (cj g1 (cj g2 (cj g3 (cj g4 (cj g5 (cj g6 (cj g7 (cj hz0 (cj gm2 (cj g8 (cj g9 g10))))))))))))) trivial
def W167:Trans:=fun args H Bd K=>∃(l:List Int) (n:Int),args=[lst l, .int .i64 n]∧((sm l)∧K (.bool (hasI l n)) H Bd)
@[go_sem ↓] theorem W167_eq (l:List Int) (n:Int):W167 [lst l, .int .i64 n] H Bd K=((sm l)∧K (.bool (hasI l n)) H Bd):=ex2 l n rfl
theorem W167_ok:OK 167 W167:=by
 rintro args H Bd K ⟨l,n,rfl,hpre,hK⟩
 refine fnp pok (Env.base _) [] hK Tryz.func167 Tryz.ntmps167 Tryz.call167 [.tmp 4] fun hb ha=> ?_
 refine withC pok fun cv=> ?_
 have hlen:=sm_len hpre
 refine R0 ?_
 refine tr_for (fun i=>∀j,j<i→∀x,l[j]? =some x→decide (x=n)=false) (l.length) (fun i=>[(0,lst l),(1, .int .i64 n),(5, .int .i64 i)]) (by simp) (by simp only[go_sem,push_cast,and_pos,Le_updF]) ?_
 intro i Bi hIi hii hBi
 refine cv (by kernel_rfl) ?_
 rcases Nat.lt_or_ge i (l.length)with hlti|hgei
 ·have e1:l[i]? =some l[i]:=List.getElem?_eq_getElem hlti
  refine R e1 ?_
  unfold hasI
  refine⟨fun h=> ?_,fun h=>fun j hj x hx=> ?_⟩
  ·rw[any_hit hlti (by simpa using h)]
  ·by_cases e:j=i
   ·subst e;rw[e1]at hx;cases hx;simpa using h
   ·simpa using hIi j (by omega) x hx
 ·refine R0 ?_
  refine cv (by kernel_rfl) ?_
  refine R0 ?_
  unfold hasI
  rw[any_false fun j hj x hx=>hIi j (by omega) x hx]
def V244:Trans:=fun args H Bd K=>∃(d:GDisk) (n:Int),args=[.agg (enc d).toArray, .int .i64 n]∧((sm d)∧K (.int .i64 (waitD d n)) H Bd)
@[go_sem ↓] theorem V244_eq (d_sectors:List (List UInt8)) (d_pending:List GPut) (n:Int):V244 [.agg #[lst d_sectors,lst d_pending], .int .i64 n] H Bd K=((sm (GDisk.mk d_sectors d_pending))∧K (.int .i64 (waitD (GDisk.mk d_sectors d_pending) n)) H Bd):=ex2 (GDisk.mk d_sectors d_pending) n rfl
def W244:Trans:=fun args H Bd K=>∃(pd vn:Value),args=[pd,vn]∧Yld (cellsAt H 2 pd) fun cd=>callW V244 [.agg cd.toArray,vn] H Bd K
@[go_sem ↓] theorem W244_eq (pd vn:Value):W244 [pd,vn] H Bd K=(Yld (cellsAt H 2 pd) fun cd=>callW V244 (idS [.agg cd.toArray,vn]) H Bd K):=by
 refine propext ⟨fun h=> ?_,fun h=>⟨_,_,rfl,h⟩⟩
 obtain⟨pd',vn',e,h⟩:=h
 simp only[List.cons.injEq,and_true]at e
 obtain⟨rfl,rfl⟩:=e
 exact h
theorem W244_ok:OK 244 W244:=by
 rintro args H Bd K ⟨pd,vn,rfl,cd,ed,h⟩
 obtain⟨d,n,e,hpre,hK⟩:=h
 simp only[List.cons.injEq,and_true]at e
 obtain⟨Ed,rfl⟩:=e
 obtain rfl:=agg_inj Ed
 refine fnp pok (Env.base _) [] hK Tryz.func244 Tryz.ntmps244 Tryz.call244 [.tmp 4] fun hb ha=> ?_
 have Pd:=cellsAt_out ed (NB.vpok (ha pd (by simp)))
 simp only[enc_GDisk]at Pd
 have Zd:=Pd.all 2 rfl
 have Yd:=rq_all (ha pd (by simp))
 refine withC pok fun cv=> ?_
 simp only[sm_GDisk]at hpre
 have hlen:=sm_len hpre.2
 refine R Zd ?_
 refine tr_for (fun i=>∀j,j<i→∀x,d.pending[j]? =some x→decide (x.sector=n)=false) (d.pending.length) (fun i=>[(0,pd),(1, .int .i64 n),(5, .int .i64 i)]) (by simp) (by simp only[go_sem,push_cast,and_pos,Le_updF]) ?_
 intro i Bi hIi hii hBi
 refine cv (by kernel_rfl) ?_
 rcases Nat.lt_or_ge i (d.pending.length)with hlti|hgei
 ·have e1:d.pending[i]? =some d.pending[i]:=List.getElem?_eq_getElem hlti
  refine R (cj Zd e1) ?_
  unfold waitD
  exact⟨fun h=>by rw[fidx_hit hlti hIi (by simpa using h)],fun h=>fun j hj x hx=>by
   by_cases e:j=i
   ·subst e;rw[e1]at hx;cases hx;simpa using h
   ·simpa using hIi j (by omega) x hx⟩
 ·refine R Zd ?_
  refine cv (by kernel_rfl) ?_
  refine R Zd ?_
  unfold waitD
  rw[fidx_none fun j hj x hx=>hIi j (by omega) x hx]
def V169:Trans:=fun args H Bd K=>∃(d:GDisk) (n:Int),args=[.agg (enc d).toArray, .int .i64 n]∧((sm d∧DiskOK d∧0≤n∧n<d.sectors.length)∧K (lst (readD d n)) H Bd)
@[go_sem ↓] theorem V169_eq (d_sectors:List (List UInt8)) (d_pending:List GPut) (n:Int):V169 [.agg #[lst d_sectors,lst d_pending], .int .i64 n] H Bd K=((sm (GDisk.mk d_sectors d_pending)∧DiskOK (GDisk.mk d_sectors d_pending)∧0≤n∧n<(GDisk.mk d_sectors d_pending).sectors.length)∧K (lst (readD (GDisk.mk d_sectors d_pending) n)) H Bd):=ex2 (GDisk.mk d_sectors d_pending) n rfl
def W169:Trans:=fun args H Bd K=>∃(pd vn:Value),args=[pd,vn]∧Yld (cellsAt H 2 pd) fun cd=>callW V169 [.agg cd.toArray,vn] H Bd K
@[go_sem ↓] theorem W169_eq (pd vn:Value):W169 [pd,vn] H Bd K=(Yld (cellsAt H 2 pd) fun cd=>callW V169 (idS [.agg cd.toArray,vn]) H Bd K):=by
 refine propext ⟨fun h=> ?_,fun h=>⟨_,_,rfl,h⟩⟩
 obtain⟨pd',vn',e,h⟩:=h
 simp only[List.cons.injEq,and_true]at e
 obtain⟨rfl,rfl⟩:=e
 exact h
theorem W169_ok:OK 169 W169:=by
 rintro args H Bd K ⟨pd,vn,rfl,cd,ed,h⟩
 obtain⟨d,n,e,hpre,hK⟩:=h
 simp only[List.cons.injEq,and_true]at e
 obtain⟨Ed,rfl⟩:=e
 obtain rfl:=agg_inj Ed
 refine fnp pok ((Env.base _).add 244 _ W244_ok) [] hK Tryz.func169 Tryz.ntmps169 Tryz.call169 [.tmp 4] fun hb ha=> ?_
 have Pd:=cellsAt_out ed (NB.vpok (ha pd (by simp)))
 simp only[enc_GDisk]at Pd
 have Zd:=Pd.all 2 rfl
 have Yd:=rq_all (ha pd (by simp))
 obtain⟨h1,h2,h3,h4⟩:=hpre
 by_cases hw:0≤waitD d n
 ·have hlt:=wait_lt hw
  have e1:d.pending[(waitD d n).toNat]? =some d.pending[(waitD d n).toNat]:=List.getElem?_eq_getElem hlt
  have hr:readD d n=d.pending[(waitD d n).toNat].bytes:=by unfold readD;rw[if_pos hw,e1];rfl
  exact R (cj Zd (cj h1 (cj hw (cj e1 hr)))) trivial
 ·have hlt:n.toNat<d.sectors.length:=by omega
  have e1:d.sectors[n.toNat]? =some d.sectors[n.toNat]:=List.getElem?_eq_getElem hlt
  have hr:readD d n=d.sectors[n.toNat]:=by unfold readD;rw[if_neg hw,e1];rfl
  exact R (cj Zd (cj h1 (cj hw (cj e1 hr)))) trivial
def W240:Trans:=fun args H Bd K=>∃(xs:List UInt8),args=[lst xs]∧((sm xs)∧K (.int .i64 (sumB 29 xs)) H Bd)
@[go_sem ↓] theorem W240_eq (xs:List UInt8):W240 [lst xs] H Bd K=((sm xs)∧K (.int .i64 (sumB 29 xs)) H Bd):=ex1 xs rfl
theorem W240_ok:OK 240 W240:=by
 rintro args H Bd K ⟨xs,rfl,hpre,hK⟩
 refine fnp pok (Env.base _) [] hK Tryz.func240 Tryz.ntmps240 Tryz.call240 [.tmp 2] fun hb ha=> ?_
 refine withC pok fun cv=> ?_
 have hlen:=sm_len hpre
 refine R0 ?_
 refine tr_for (fun i=>True) (xs.length) (fun i=>[(0,lst xs),(3, .int .i64 (sumB 29 (xs.take i))),(4, .int .i64 i)]) (trivial) (by simp only[go_sem,push_cast,and_pos,Le_updF,List.take_zero,sumB]) ?_
 intro i Bi hIi hii hBi
 refine cv (by kernel_rfl) ?_
 rcases Nat.lt_or_ge i (xs.length)with hlti|hgei
 ·have e1:xs[i]? =some xs[i]:=List.getElem?_eq_getElem hlti
  have hst:=sumB_take hlti
  have hr:=sum_rg (xs.take i)
  have hby:(xs[i].toNat:Int)<256:=by have:=xs[i].toNat_lt;omega
  have ht:(sumB 29 (xs.take i)*227+(xs[i].toNat:Int)+1).tmod 65521=(sumB 29 (xs.take i)*227+(xs[i].toNat:Int)+1)%65521:=Int.tmod_eq_emod_of_nonneg (by omega)
  have hcm:227*sumB 29 (xs.take i)=sumB 29 (xs.take i)*227:=Int.mul_comm _ _
  exact R (cj e1 (cj hst (cj hcm ht))) trivial
 ·refine R0 ?_
  refine cv (by kernel_rfl) ?_
  rw[List.take_of_length_le hgei]
  exact R0 trivial
def W239:Trans:=fun args H Bd K=>∃(n:Int),args=[.int .i64 n]∧((0≤n∧n≤65535)∧K (lst (pairB n)) H Bd)
@[go_sem ↓] theorem W239_eq (n:Int):W239 [.int .i64 n] H Bd K=((0≤n∧n≤65535)∧K (lst (pairB n)) H Bd):=ex1 n rfl
theorem W239_ok:OK 239 W239:=by
 rintro args H Bd K ⟨n,rfl,hpre,hK⟩
 refine fnp pok (Env.base _) [] hK Tryz.func239 Tryz.ntmps239 Tryz.call239 [.tmp 2] fun hb ha=> ?_
 obtain⟨h1,h2⟩:=hpre
 have e1:n.tdiv 256=n/256:=Int.tdiv_eq_ediv_of_nonneg h1
 have e2:n.tmod 256=n%256:=Int.tmod_eq_emod_of_nonneg h1
 have e3:n%256%256=n%256:=by omega
 have hl:2=(pairB n).length:=rfl
 simp (maxSteps:=2000000) (disch:=first|assumption|(refine asm_intro ?_;assumption)|exact Nat.le_add_right _ _|exact Nat.le_refl _|omega|(simp (disch:=first|exact Nat.le_add_right _ _|omega) only[Le_upd hb,Le_app hb,Le_rfl,free_T hb,free_upd];done)|fail) only[go_sem,push_cast,and_pos,Le_updF,Le_upd hb,free_T hb,e1,e2,e3,←pairB_flat n]
 exact pub_whole (upd_same _ _ _) (hb.fresh _ (by omega)) rfl rfl
end Go.Proofs.YthoahlghegcfnaaGreatDoor
