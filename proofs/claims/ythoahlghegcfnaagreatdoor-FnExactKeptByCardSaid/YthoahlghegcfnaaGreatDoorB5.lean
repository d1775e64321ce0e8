/- YthoahlghegcfnaaGreatDoorB5 -/
import Derived.Test.YthoahlghegcfnaaGreatDoorB4
set_option linter.unusedSimpArgs false
set_option linter.unusedVariables false
set_option maxRecDepth 20000
namespace Go.Proofs.YthoahlghegcfnaaGreatDoor
open Go Go.SC
variable {H:AH} {Bd:Nat} {K:Value→AH→Nat→Prop}
def W125:Trans:=fun args H Bd K=>∃(x:GPut) (y:GPut),args=[.agg (enc x).toArray, .agg (enc y).toArray]∧((sm x)∧K (.bool (decide (x=y))) H Bd)
@[go_sem ↓] theorem W125_eq (x_sector:Int) (x_bytes:List UInt8) (y_sector:Int) (y_bytes:List UInt8):W125 [.agg #[.int .i64 x_sector,lst x_bytes], .agg #[.int .i64 y_sector,lst y_bytes]] H Bd K=((sm (GPut.mk x_sector x_bytes))∧K (.bool (decide ((GPut.mk x_sector x_bytes)=(GPut.mk y_sector y_bytes)))) H Bd):=ex2 (GPut.mk x_sector x_bytes) (GPut.mk y_sector y_bytes) rfl
theorem W125_ok:OK 125 W125:=by
 rintro args H Bd K ⟨x,y,rfl,hpre,hK⟩
 refine fnp pok ((Env.base _).add 65 _ W65_ok) [] hK Tryz.func125 Tryz.ntmps125 Tryz.call125 [.tmp 4] fun hb ha=> ?_
 simp only[sm_GPut]at hpre
 simp (maxSteps:=2000000) (disch:=first|assumption|(refine asm_intro ?_;assumption)|exact Nat.le_add_right _ _|exact Nat.le_refl _|omega|(simp (disch:=first|exact Nat.le_add_right _ _|omega) only[Le_upd hb,Le_app hb,Le_rfl,free_T hb,free_upd];done)|fail) only[go_sem,push_cast,and_pos,Le_updF,Le_upd hb,free_T hb,hpre]
 cases x;cases y
 simp only[Cnp,GPut.mk.injEq]
 constructor <;>intros <;>simp_all
def W64:Trans:=fun args H Bd K=>∃(xs:List GPut) (ys:List GPut),args=[lst xs,lst ys]∧((sm xs)∧K (.bool (decide (xs=ys))) H Bd)
@[go_sem ↓] theorem W64_eq (xs:List GPut) (ys:List GPut):W64 [lst xs,lst ys] H Bd K=((sm xs)∧K (.bool (decide (xs=ys))) H Bd):=ex2 xs ys rfl
theorem W64_ok:OK 64 W64:=by
 rintro args H Bd K ⟨xs,ys,rfl,hpre,hK⟩
 refine fnp pok ((Env.base _).add 125 _ W125_ok) [(6,[0,1,2,3,4,5,6,7,8,9],[⟨0,[],[]⟩,⟨1,[],[]⟩,⟨2,[],[]⟩,⟨3,[],[]⟩,⟨4,[],[]⟩,⟨5,[],[]⟩,⟨6,[],[]⟩,⟨7,[],[]⟩,⟨8,[],[]⟩,⟨9,[],[]⟩], .nil)] hK Tryz.func64 Tryz.ntmps64 Tryz.call64 [.tmp 4] fun hb ha=> ?_
 refine withC pok fun cv=> ?_
 have hlen:=sm_len hpre
 simp (maxSteps:=2000000) (disch:=first|assumption|(refine asm_intro ?_;assumption)|exact Nat.le_add_right _ _|exact Nat.le_refl _|omega|(simp (disch:=first|exact Nat.le_add_right _ _|omega) only[Le_upd hb,Le_app hb,Le_rfl,free_T hb,free_upd];done)|fail) only[go_sem,push_cast,and_pos,Le_updF,Le_upd hb,free_T hb]
 refine Cnp.of (fun hl=> ?_) (fun hl=>cmp_len (by omega))
 have hl':xs.length=ys.length:=by omega
 refine tr_for (fun i=>∀j,j<i→xs[j]? =ys[j]?) xs.length (fun i=>[(0,lst xs),(1,lst ys),(5, .int .i64 i)]) (fun j h=>by omega) (by simp only[go_sem,push_cast,and_pos,Le_updF]) ?_
 intro i B0 hI hi hB
 refine cv (by kernel_rfl) ?_
 rcases Nat.lt_or_ge i xs.length with hlt|hge
 ·have e1:xs[i]? =some xs[i]:=List.getElem?_eq_getElem hlt
  have e2:ys[i]? =some (ys[i]'(by omega)):=List.getElem?_eq_getElem _
  have hx:=sm_mem hpre (List.getElem_mem hlt)
  simp (maxSteps:=2000000) (disch:=first|assumption|(refine asm_intro ?_;assumption)|exact Nat.le_add_right _ _|exact Nat.le_refl _|omega|(simp (disch:=first|exact Nat.le_add_right _ _|omega) only[Le_upd hb,Le_app hb,Le_rfl,free_T hb,free_upd];done)|fail) only[go_sem,push_cast,and_pos,Le_updF,Le_upd hb,free_T hb,e1,e2,hx]
  exact cmp_step hl' hI hlt (by omega) rfl fun h=>h
 ·simp (maxSteps:=2000000) (disch:=first|assumption|(refine asm_intro ?_;assumption)|exact Nat.le_add_right _ _|exact Nat.le_refl _|omega|(simp (disch:=first|exact Nat.le_add_right _ _|omega) only[Le_upd hb,Le_app hb,Le_rfl,free_T hb,free_upd];done)|fail) only[go_sem,push_cast,and_pos,Le_updF,Le_upd hb,free_T hb]
  refine cv (by kernel_rfl) ?_
  simp (maxSteps:=2000000) (disch:=first|assumption|(refine asm_intro ?_;assumption)|exact Nat.le_add_right _ _|exact Nat.le_refl _|omega|(simp (disch:=first|exact Nat.le_add_right _ _|omega) only[Le_upd hb,Le_app hb,Le_rfl,free_T hb,free_upd];done)|fail) only[go_sem,push_cast,and_pos,Le_updF,Le_upd hb,free_T hb]
  exact cmp_end hl' hI hge
def W16:Trans:=fun args H Bd K=>∃(x:GDisk) (y:GDisk),args=[.agg (enc x).toArray, .agg (enc y).toArray]∧((sm x)∧K (.bool (decide (x=y))) H Bd)
@[go_sem ↓] theorem W16_eq (x_sectors:List (List UInt8)) (x_pending:List GPut) (y_sectors:List (List UInt8)) (y_pending:List GPut):W16 [.agg #[lst x_sectors,lst x_pending], .agg #[lst y_sectors,lst y_pending]] H Bd K=((sm (GDisk.mk x_sectors x_pending))∧K (.bool (decide ((GDisk.mk x_sectors x_pending)=(GDisk.mk y_sectors y_pending)))) H Bd):=ex2 (GDisk.mk x_sectors x_pending) (GDisk.mk y_sectors y_pending) rfl
theorem W16_ok:OK 16 W16:=by
 rintro args H Bd K ⟨x,y,rfl,hpre,hK⟩
 refine fnp pok (((Env.base _).add 63 _ W63_ok).add 64 _ W64_ok) [] hK Tryz.func16 Tryz.ntmps16 Tryz.call16 [.tmp 4] fun hb ha=> ?_
 simp only[sm_GDisk]at hpre
 simp (maxSteps:=2000000) (disch:=first|assumption|(refine asm_intro ?_;assumption)|exact Nat.le_add_right _ _|exact Nat.le_refl _|omega|(simp (disch:=first|exact Nat.le_add_right _ _|omega) only[Le_upd hb,Le_app hb,Le_rfl,free_T hb,free_upd];done)|fail) only[go_sem,push_cast,and_pos,Le_updF,Le_upd hb,free_T hb,hpre]
 cases x;cases y
 simp only[Cnp,GDisk.mk.injEq]
 constructor <;>intros <;>simp_all
theorem N16_pure:PureV W16:=by
 rintro args H Bd K ⟨x0,x1,rfl,hpre,hK⟩
 exact⟨_,by first|exact .bool _|exact .int _ _|exact .string _|exact vc_enc _,hK,fun H' K' hs h=>⟨x0,x1,rfl,hpre,h⟩⟩
def N16:Trans:=LendN W16
@[go_sem ↓] theorem N16_eq (v0 v1:Value):N16 [v0,v1] H Bd K=Held (N16 [v0,v1] H Bd K) ⟨⟩:=(rfl)
theorem N16_ok:OK 16 N16:=LendN_ok W16_ok N16_pure
def W143:Trans:=fun args H Bd K=>∃(x:GSymbol) (y:GSymbol),args=[.agg (enc x).toArray, .agg (enc y).toArray]∧((sm x)∧K (.bool (decide (x=y))) H Bd)
@[go_sem ↓] theorem W143_eq (x_name:ByteArray) (x_arity:Int) (y_name:ByteArray) (y_arity:Int):W143 [.agg #[.string x_name, .int .i64 x_arity], .agg #[.string y_name, .int .i64 y_arity]] H Bd K=((sm (GSymbol.mk x_name x_arity))∧K (.bool (decide ((GSymbol.mk x_name x_arity)=(GSymbol.mk y_name y_arity)))) H Bd):=ex2 (GSymbol.mk x_name x_arity) (GSymbol.mk y_name y_arity) rfl
theorem W143_ok:OK 143 W143:=by
 rintro args H Bd K ⟨x,y,rfl,hpre,hK⟩
 refine fnp pok (Env.base _) [] hK Tryz.func143 Tryz.ntmps143 Tryz.call143 [.tmp 4] fun hb ha=> ?_
 simp only[sm_GSymbol]at hpre
 simp (maxSteps:=2000000) (disch:=first|assumption|(refine asm_intro ?_;assumption)|exact Nat.le_add_right _ _|exact Nat.le_refl _|omega|(simp (disch:=first|exact Nat.le_add_right _ _|omega) only[Le_upd hb,Le_app hb,Le_rfl,free_T hb,free_upd];done)|fail) only[go_sem,push_cast,and_pos,Le_updF,Le_upd hb,free_T hb,hpre]
 cases x;cases y
 simp only[Cnp,GSymbol.mk.injEq]
 constructor <;>intros <;>simp_all
def W80:Trans:=fun args H Bd K=>∃(xs:List GSymbol) (ys:List GSymbol),args=[lst xs,lst ys]∧((sm xs)∧K (.bool (decide (xs=ys))) H Bd)
@[go_sem ↓] theorem W80_eq (xs:List GSymbol) (ys:List GSymbol):W80 [lst xs,lst ys] H Bd K=((sm xs)∧K (.bool (decide (xs=ys))) H Bd):=ex2 xs ys rfl
theorem W80_ok:OK 80 W80:=by
 rintro args H Bd K ⟨xs,ys,rfl,hpre,hK⟩
 refine fnp pok ((Env.base _).add 143 _ W143_ok) [(6,[0,1,2,3,4,5,6,7,8,9],[⟨0,[],[]⟩,⟨1,[],[]⟩,⟨2,[],[]⟩,⟨3,[],[]⟩,⟨4,[],[]⟩,⟨5,[],[]⟩,⟨6,[],[]⟩,⟨7,[],[]⟩,⟨8,[],[]⟩,⟨9,[],[]⟩], .nil)] hK Tryz.func80 Tryz.ntmps80 Tryz.call80 [.tmp 4] fun hb ha=> ?_
 refine withC pok fun cv=> ?_
 have hlen:=sm_len hpre
 simp (maxSteps:=2000000) (disch:=first|assumption|(refine asm_intro ?_;assumption)|exact Nat.le_add_right _ _|exact Nat.le_refl _|omega|(simp (disch:=first|exact Nat.le_add_right _ _|omega) only[Le_upd hb,Le_app hb,Le_rfl,free_T hb,free_upd];done)|fail) only[go_sem,push_cast,and_pos,Le_updF,Le_upd hb,free_T hb]
 refine Cnp.of (fun hl=> ?_) (fun hl=>cmp_len (by omega))
 have hl':xs.length=ys.length:=by omega
 refine tr_for (fun i=>∀j,j<i→xs[j]? =ys[j]?) xs.length (fun i=>[(0,lst xs),(1,lst ys),(5, .int .i64 i)]) (fun j h=>by omega) (by simp only[go_sem,push_cast,and_pos,Le_updF]) ?_
 intro i B0 hI hi hB
 refine cv (by kernel_rfl) ?_
 rcases Nat.lt_or_ge i xs.length with hlt|hge
 ·have e1:xs[i]? =some xs[i]:=List.getElem?_eq_getElem hlt
  have e2:ys[i]? =some (ys[i]'(by omega)):=List.getElem?_eq_getElem _
  have hx:=sm_mem hpre (List.getElem_mem hlt)
  simp (maxSteps:=2000000) (disch:=first|assumption|(refine asm_intro ?_;assumption)|exact Nat.le_add_right _ _|exact Nat.le_refl _|omega|(simp (disch:=first|exact Nat.le_add_right _ _|omega) only[Le_upd hb,Le_app hb,Le_rfl,free_T hb,free_upd];done)|fail) only[go_sem,push_cast,and_pos,Le_updF,Le_upd hb,free_T hb,e1,e2,hx]
  exact cmp_step hl' hI hlt (by omega) rfl fun h=>h
 ·simp (maxSteps:=2000000) (disch:=first|assumption|(refine asm_intro ?_;assumption)|exact Nat.le_add_right _ _|exact Nat.le_refl _|omega|(simp (disch:=first|exact Nat.le_add_right _ _|omega) only[Le_upd hb,Le_app hb,Le_rfl,free_T hb,free_upd];done)|fail) only[go_sem,push_cast,and_pos,Le_updF,Le_upd hb,free_T hb]
  refine cv (by kernel_rfl) ?_
  simp (maxSteps:=2000000) (disch:=first|assumption|(refine asm_intro ?_;assumption)|exact Nat.le_add_right _ _|exact Nat.le_refl _|omega|(simp (disch:=first|exact Nat.le_add_right _ _|omega) only[Le_upd hb,Le_app hb,Le_rfl,free_T hb,free_upd];done)|fail) only[go_sem,push_cast,and_pos,Le_updF,Le_upd hb,free_T hb]
  exact cmp_end hl' hI hge
def W27:Trans:=fun args H Bd K=>∃(x:GSignature) (y:GSignature),args=[.agg (enc x).toArray, .agg (enc y).toArray]∧((sm x)∧K (.bool (decide (x=y))) H Bd)
@[go_sem ↓] theorem W27_eq (x_symbols:List GSymbol) (y_symbols:List GSymbol):W27 [.agg #[lst x_symbols], .agg #[lst y_symbols]] H Bd K=((sm (GSignature.mk x_symbols))∧K (.bool (decide ((GSignature.mk x_symbols)=(GSignature.mk y_symbols)))) H Bd):=ex2 (GSignature.mk x_symbols) (GSignature.mk y_symbols) rfl
theorem W27_ok:OK 27 W27:=by
 rintro args H Bd K ⟨x,y,rfl,hpre,hK⟩
 refine fnp pok ((Env.base _).add 80 _ W80_ok) [] hK Tryz.func27 Tryz.ntmps27 Tryz.call27 [.tmp 4] fun hb ha=> ?_
 simp only[sm_GSignature]at hpre
 simp (maxSteps:=2000000) (disch:=first|assumption|(refine asm_intro ?_;assumption)|exact Nat.le_add_right _ _|exact Nat.le_refl _|omega|(simp (disch:=first|exact Nat.le_add_right _ _|omega) only[Le_upd hb,Le_app hb,Le_rfl,free_T hb,free_upd];done)|fail) only[go_sem,push_cast,and_pos,Le_updF,Le_upd hb,free_T hb,hpre]
 cases x;cases y
 simp only[Cnp,GSignature.mk.injEq]
 constructor <;>intros <;>simp_all
def W17:Trans:=fun args H Bd K=>∃(x:GSuper) (y:GSuper),args=[.agg (enc x).toArray, .agg (enc y).toArray]∧((sm x)∧K (.bool (decide (x=y))) H Bd)
@[go_sem ↓] theorem W17_eq (x_gen:Int) (x_root:Int) (x_shadow:Int) (x_theory:Int) (x_next:Int) (x_version:Int) (x_moving:Bool) (x_cursor:List UInt8) (x_symbols_symbols:List GSymbol) (y_gen:Int) (y_root:Int) (y_shadow:Int) (y_theory:Int) (y_next:Int) (y_version:Int) (y_moving:Bool) (y_cursor:List UInt8) (y_symbols_symbols:List GSymbol):W17 [.agg #[.int .i64 x_gen, .int .i64 x_root, .int .i64 x_shadow, .int .i64 x_theory, .int .i64 x_next, .int .i64 x_version, .bool x_moving,lst x_cursor,lst x_symbols_symbols], .agg #[.int .i64 y_gen, .int .i64 y_root, .int .i64 y_shadow, .int .i64 y_theory, .int .i64 y_next, .int .i64 y_version, .bool y_moving,lst y_cursor,lst y_symbols_symbols]] H Bd K=((sm (GSuper.mk x_gen x_root x_shadow x_theory x_next x_version x_moving x_cursor (GSignature.mk x_symbols_symbols)))∧K (.bool (decide ((GSuper.mk x_gen x_root x_shadow x_theory x_next x_version x_moving x_cursor (GSignature.mk x_symbols_symbols))=(GSuper.mk y_gen y_root y_shadow y_theory y_next y_version y_moving y_cursor (GSignature.mk y_symbols_symbols))))) H Bd):=ex2 (GSuper.mk x_gen x_root x_shadow x_theory x_next x_version x_moving x_cursor (GSignature.mk x_symbols_symbols)) (GSuper.mk y_gen y_root y_shadow y_theory y_next y_version y_moving y_cursor (GSignature.mk y_symbols_symbols)) rfl
set_option maxHeartbeats 2000000 in
theorem W17_ok:OK 17 W17:=by
 rintro args H Bd K ⟨x,y,rfl,hpre,hK⟩
 refine fnp pok (((Env.base _).add 65 _ W65_ok).add 27 _ W27_ok) [] hK Tryz.func17 Tryz.ntmps17 Tryz.call17 [.tmp 4] fun hb ha=> ?_
 simp only[sm_GSuper]at hpre
 simp (maxSteps:=2000000) (disch:=first|assumption|(refine asm_intro ?_;assumption)|exact Nat.le_add_right _ _|exact Nat.le_refl _|omega|(simp (disch:=first|exact Nat.le_add_right _ _|omega) only[Le_upd hb,Le_app hb,Le_rfl,free_T hb,free_upd];done)|fail) only[go_sem,push_cast,and_pos,Le_updF,Le_upd hb,free_T hb,hpre]
 cases x;cases y
 simp only[Cnp,GSuper.mk.injEq]
 constructor <;>intros <;>simp_all
theorem L17_pure:PureV W17:=by
 rintro args H Bd K ⟨x0,x1,rfl,hpre,hK⟩
 exact⟨_,by first|exact .bool _|exact .int _ _|exact .string _|exact vc_enc _,hK,fun H' K' hs h=>⟨x0,x1,rfl,hpre,h⟩⟩
def L17:Trans:=LendA W17
@[go_sem ↓] theorem L17_eq (v0 v1:Value):L17 [v0,v1] H Bd K=callW W17 (idS [giveA H v0,giveA H v1]) H Bd K:=(rfl)
theorem L17_ok:OK 17 L17:=LendA_ok W17_ok L17_pure
def W68:Trans:=fun args H Bd K=>∃(q:Int) (n:Nat) (l:Nat) (c:Nat),args=[.slice (some ⟨n,0,some 1⟩) l c, .int .i64 q]∧(Yld (H n) fun b0=>(b0.own=true∧b0.cells.length=l*1∧0≤q∧q+(l*1:Nat)≤4611686018427387904∧l≤281474976710656)∧K (.int .i64 (q+(l*1:Nat))) (upd H n (some ⟨flat (mkL UInt8 q l),true⟩)) Bd)
@[go_sem ↓] theorem W68_eq (n:Nat) (l:Nat) (c:Nat) (q:Int):W68 [.slice (some ⟨n,0,some 1⟩) l c, .int .i64 q] H Bd K=(Yld (H n) fun b0=>(b0.own=true∧b0.cells.length=l*1∧0≤q∧q+(l*1:Nat)≤4611686018427387904∧l≤281474976710656)∧K (.int .i64 (q+(l*1:Nat))) (upd H n (some ⟨flat (mkL UInt8 q l),true⟩)) Bd):=by
 refine propext ⟨fun h=> ?_,fun h=>⟨_,_,_,_,rfl,h⟩⟩
 obtain⟨q',n',l',c',e,h⟩:=h
 skip
 simp only[List.cons.injEq,Value.agg.injEq,toArr_inj,Value.int.injEq,Value.bool.injEq,Value.string.injEq,Value.slice.injEq,Value.func.injEq,Value.pointer.injEq,Option.some.injEq,Addr.mk.injEq,lst_inj,true_and,and_true,and_assoc]at e
 obtain⟨rfl,rfl,rfl,rfl⟩:=e
 exact h
theorem W68_ok:OK 68 W68:=by
 rintro args H Bd K ⟨q,n,l,c,rfl,⟨cells,ow⟩,hb0,⟨ho,hc,h1,h2,h3⟩,hK⟩
 simp only at ho hc
 subst ho
 refine fn_set pok (Env.base _) [] _ hK (fun hh=>hb_setF hh hb0 _) Tryz.func68 rfl (rs:=[.tmp 4]) rfl Tryz.ntmps68 (by simp) Tryz.call68 (by kernel_rfl) (fun ha hb=> .int _ _) (fun hb ha=> ?_)
 refine withC pok fun cv=> ?_
 have hLe:=le_own hb0
 refine R hb0 ?_
 refine tr_st (X:=Nat) (fun i=>i≤l) (fun i=>l-i) (fun i=>[(0, .slice (some ⟨n,0,some 1⟩) l c),(1, .int .i64 (q+(i*1:Nat))),(5, .int .i64 i)]) (fun i=>upd H n (some ⟨mkC UInt8 q i cells,true⟩)) 0 (Nat.zero_le _) (by simp only[go_sem,push_cast,and_pos,Le_updF,mkC_zero,hLe,Nat.zero_mul,Int.natCast_zero,Int.add_zero];all_goals (try simp only[Value.int.injEq,Value.slice.injEq,true_and,and_true]) <;>all_goals (try(first|trivial|omega|grind))) (by first|exact Le.refl _|simp (disch:=first|assumption|omega) only[go_sem,push_cast,and_pos,Le_updF,Le_rfl,Le_upd2,mkC_zero,hLe,Nat.zero_mul,Int.natCast_zero,Int.add_zero]) ?_
 intro i Bi hIi hBi hbi Fi hFi
 refine cv (by kernel_rfl) ?_
 rcases Nat.lt_or_ge i l with hlt|hge
 ·obtain⟨b,hbv⟩:∃b:UInt8,UInt8.ofNat ((q+(i*1:Nat))%256).toNat=b:=⟨_,rfl⟩
  have hv:(q+(i:Int))%256=(b.toNat:Int):=by rw[←hbv,UInt8.toNat_ofNat'];omega
  have hset:(mkC UInt8 q i cells).set i (.int .u8 (b.toNat:Int))=mkC UInt8 q (i+1) cells:=by rw[←hbv];exact mkC_set1 (n:=l) q cells hc hlt (by rw[Nat.mul_one];rfl)
  have hln:(mkC UInt8 q i cells).length=cells.length:=mkC_len q i cells (by rw[hc];exact Nat.mul_le_mul_right _ hIi)
  refine R (cj hv (cj hset hln)) ?_
  refine hFi (i+1) _ _ _ ?_ ?_ (by first|exact Le.refl _|simp (disch:=first|assumption|omega|(simp (disch:=omega) only[free_upd,free_T hb];done)) only[go_sem,push_cast,and_pos,Le_updF,Le_rfl,Le_upd2,free_upd,free_T hb,hset]) (by simp only[go_sem,push_cast,and_pos,Le_updF]) (by simp only[go_sem,push_cast,and_pos,Le_updF,hset];all_goals (try simp only[Value.int.injEq,Value.slice.injEq,true_and,and_true]) <;>all_goals (try(first|trivial|omega|grind)))
  all_goals omega
 ·refine R0 ?_
  obtain rfl:i=l:=by omega
  rw[mkC_end q cells hc]
  refine cv (by kernel_rfl) ?_
  exact R0 trivial
def W66:Trans:=fun args H Bd K=>∃(xs:List (List UInt8)) (n c:Nat) (q:Int),args=[.slice (some ⟨n,0,some 1⟩) xs.length c, .int .i64 q]∧(OV.Has H n (OEnc.oc xs)∧sm xs∧0≤q∧q+(cntD xs:Nat)≤4611686018427387904)∧K (.int .i64 (q+(cntD xs:Nat))) (oput H n (OEnc.oc (mkDL q xs))) Bd
@[go_sem ↓] theorem W66_eq (v u:Value):W66 [v,u] H Bd K=Held (W66 [v,u] H Bd K) ⟨⟩:=(rfl)
theorem W66_ok:OK 66 W66:=by
 rintro args H Bd K ⟨xs,n,c,q,rfl,⟨hH,hsm,h1,h2⟩,hK⟩
 refine fn_set pok ((Env.base _).add 68 _ W68_ok) [] _ hK (fun hh=>HB_oput hh hH (OEnc.ok _) (mkD_num _ _)) Tryz.func66 rfl (rs:=[.tmp 4]) rfl Tryz.ntmps66 (by simp) Tryz.call66 (by kernel_rfl) (fun ha hb=> .int _ _) (fun hb ha=> ?_)
 refine withC pok fun cv=> ?_
 have hlen:=sm_len hsm
 refine R0 ?_
 refine tr_st (X:=Nat×AH) (fun x=>x.1≤xs.length∧OV.Has x.2 n (OEnc.oc (mkTo q x.1 xs))∧(∀m,m<n∨n+OV.numL (OEnc.oc xs)≤m→x.2 m=H m)) (fun x=>xs.length-x.1) (fun x=>[(0, .slice (some ⟨n,0,some 1⟩) xs.length c),(1, .int .i64 (q+(cntD (xs.take x.1):Nat))),(5, .int .i64 (x.1:Nat))]) (fun x=>x.2) (0,H) (⟨Nat.zero_le _,by rw[mkTo_zero];exact hH,fun m _=>rfl⟩) (by simp only[go_sem,push_cast,and_pos,Le_updF,List.take_zero,cntD_nil,Int.natCast_zero,Int.add_zero];all_goals (try simp only[Value.int.injEq,Value.slice.injEq,true_and,and_true]) <;>all_goals (try(first|trivial|omega|grind))) (by first|exact Le.refl _|simp (disch:=first|assumption|omega) only[go_sem,push_cast,and_pos,Le_updF,Le_rfl,Le_upd2,List.take_zero,cntD_nil,Int.natCast_zero,Int.add_zero]) ?_
 intro x Bx hIx hBx hbx Fx hFx
 refine cv (by kernel_rfl) ?_
 obtain⟨i,G⟩:=x
 obtain⟨i1,i2,i3⟩:=hIx
 simp only at i1 i2 i3
 rcases Nat.lt_or_ge i xs.length with hlt|hge
 ·have hlt2:i<(mkTo q i xs).length:=by rw[mkTo_len];exact hlt
  have gx:=mkTo_at q hlt hlt2
  obtain⟨g1,g2⟩:=has_elems.1 i2
  have g3:=g2 i hlt2
  rw[gx]at g3
  have hx:=sm_mem hsm (List.getElem_mem hlt)
  have hct:=cntD_take (i+1) xs
  have hcs:=cntD_succ hlt
  have hal:=valL_all (n+1) (mkTo q i xs)
  rw[mkTo_len]at hal
  have hms:=mkTo_succ q hlt
  have hnn:OV.numL (OEnc.oc xs)=xs.length*1+1:=oc_num xs
  simp only[go_sem,Nat.mul_one]at g3
  have g4:=valL_cell (n+1) (j:=0) hlt2 (by decide)
  rw[gx]at g4
  have hk1:Enc.k (List UInt8)=1:=rfl
  simp only[hk1,go_sem,Nat.mul_one,Nat.add_zero]at g4 hal
  have hy:MkD.put (q+(cntD (xs.take i):Nat)) xs[i]=mkL UInt8 (q+(cntD (xs.take i):Nat)) xs[i].length:=rfl
  have hy2:MkD.cnt xs[i]=xs[i].length*1:=rfl
  rw[hy]at hms
  rw[hy2,Nat.mul_one]at hcs
  have hl:=sm_len hx
  have hsets:=valL_set (n+1) hlt2 (mkL UInt8 (q+(cntD (xs.take i):Nat)) xs[i].length)
  simp (maxSteps:=2000000) (disch:=first|assumption|(refine asm_intro ?_;assumption)|exact Nat.le_add_right _ _|exact Nat.le_refl _|omega|(simp (disch:=first|exact Nat.le_add_right _ _|omega) only[Le_upd hb,Le_app hb,Le_rfl,free_T hb,free_upd];done)|fail) only[go_sem,push_cast,and_pos,Le_updF,Le_upd hb,free_T hb,g1,g3,g4,hal,hlt,mkL_len,flat_len]
  refine hFx (i+1,upd G (n+1+i) (some ⟨flat (mkL UInt8 (q+(cntD (xs.take i):Nat)) xs[i].length),true⟩)) _ _ _ ?_ ?_ (by first|exact Le.refl _|simp (disch:=first|assumption|omega|(simp (disch:=omega) only[free_upd,free_T hb];done)) only[go_sem,push_cast,and_pos,Le_updF,Le_rfl,Le_upd2,free_upd,free_T hb,hcs,Int.natCast_add,Int.add_assoc]) (by simp only[go_sem,push_cast,and_pos,Le_updF]) (by simp only[go_sem,push_cast,and_pos,Le_updF,hcs,Int.natCast_add,Int.add_assoc];all_goals (try simp only[Value.int.injEq,Value.slice.injEq,true_and,and_true]) <;>all_goals (try(first|trivial|omega|grind)))
  ·show xs.length-(i+1)<xs.length-i
   omega
  ·refine⟨hlt,?_,fun m hm=> ?_⟩
   ·show OV.Has _ n (OEnc.oc (mkTo q (i+1) xs))
    rw[hms]
    refine has_set hlt2 i2 ?_ ?_ fun m h1 h2=> ?_
    ·show upd G (n+1+i) _ n=_
     rw[upd_other _ _ (by omega),g1,←hsets]
     have e5:OV.valL (n+1+i*1) (OEnc.oc (mkL UInt8 (q+(cntD (xs.take i):Nat)) xs[i].length))=[.slice (some ⟨n+1+i,0,some 1⟩) xs[i].length (xs[i].length+1)]:=by simp only[go_sem,Nat.mul_one,mkL_len]
     rw[e5,hk1,Nat.mul_one]
     have e6:=set_same g4
     exact congrArg (fun z=>some (⟨z,true⟩:Blk)) e6.symm
    ·simp only[go_sem,Nat.mul_one,upd_same]
    ·exact upd_other _ _ (by omega)
   ·show upd G _ _ m=H m
    rw[upd_other _ _ (by omega)];exact i3 m hm
 ·refine R0 ?_
  obtain rfl:i=xs.length:=by omega
  rw[mkTo_end]at i2
  have hG:=oput_eq i2 (by rw[mkD_num];exact i3)
  refine cv (by kernel_rfl) ?_
  refine R (@List.take_length UInt8) ?_
  rw[hG];exact⟨Le.refl _,by rw[List.take_length]⟩
def W67:Trans:=fun args H Bd K=>∃(xs:List GPut) (n c:Nat) (q:Int),args=[.slice (some ⟨n,0,some 2⟩) xs.length c, .int .i64 q]∧(OV.Has H n (OEnc.oc xs)∧sm xs∧0≤q∧q+(cntD xs:Nat)≤4611686018427387904)∧K (.int .i64 (q+(cntD xs:Nat))) (oput H n (OEnc.oc (mkDL q xs))) Bd
@[go_sem ↓] theorem W67_eq (v u:Value):W67 [v,u] H Bd K=Held (W67 [v,u] H Bd K) ⟨⟩:=(rfl)
theorem W67_ok:OK 67 W67:=by
 rintro args H Bd K ⟨xs,n,c,q,rfl,⟨hH,hsm,h1,h2⟩,hK⟩
 refine fn_set pok ((Env.base _).add 68 _ W68_ok) [] _ hK (fun hh=>HB_oput hh hH (OEnc.ok _) (mkD_num _ _)) Tryz.func67 rfl (rs:=[.tmp 4]) rfl Tryz.ntmps67 (by simp) Tryz.call67 (by kernel_rfl) (fun ha hb=> .int _ _) (fun hb ha=> ?_)
 refine withC pok fun cv=> ?_
 have hlen:=sm_len hsm
 refine R0 ?_
 refine tr_st (X:=Nat×AH) (fun x=>x.1≤xs.length∧OV.Has x.2 n (OEnc.oc (mkTo q x.1 xs))∧(∀m,m<n∨n+OV.numL (OEnc.oc xs)≤m→x.2 m=H m)) (fun x=>xs.length-x.1) (fun x=>[(0, .slice (some ⟨n,0,some 2⟩) xs.length c),(1, .int .i64 (q+(cntD (xs.take x.1):Nat))),(5, .int .i64 (x.1:Nat))]) (fun x=>x.2) (0,H) (⟨Nat.zero_le _,by rw[mkTo_zero];exact hH,fun m _=>rfl⟩) (by simp only[go_sem,push_cast,and_pos,Le_updF,List.take_zero,cntD_nil,Int.natCast_zero,Int.add_zero];all_goals (try simp only[Value.int.injEq,Value.slice.injEq,true_and,and_true]) <;>all_goals (try(first|trivial|omega|grind))) (by first|exact Le.refl _|simp (disch:=first|assumption|omega) only[go_sem,push_cast,and_pos,Le_updF,Le_rfl,Le_upd2,List.take_zero,cntD_nil,Int.natCast_zero,Int.add_zero]) ?_
 intro x Bx hIx hBx hbx Fx hFx
 refine cv (by kernel_rfl) ?_
 obtain⟨i,G⟩:=x
 obtain⟨i1,i2,i3⟩:=hIx
 simp only at i1 i2 i3
 rcases Nat.lt_or_ge i xs.length with hlt|hge
 ·have hlt2:i<(mkTo q i xs).length:=by rw[mkTo_len];exact hlt
  have gx:=mkTo_at q hlt hlt2
  obtain⟨g1,g2⟩:=has_elems.1 i2
  have g3:=g2 i hlt2
  rw[gx]at g3
  have hx:=sm_mem hsm (List.getElem_mem hlt)
  have hct:=cntD_take (i+1) xs
  have hcs:=cntD_succ hlt
  have hal:=valL_all (n+1) (mkTo q i xs)
  rw[mkTo_len]at hal
  have hms:=mkTo_succ q hlt
  have hnn:OV.numL (OEnc.oc xs)=xs.length*1+1:=oc_num xs
  simp only[go_sem,Nat.mul_one,Nat.add_zero]at g3
  have hk1:Enc.k GPut=2:=rfl
  have g4:=valL_cell (n+1) (j:=0) hlt2 (by decide)
  have g5:=valL_cell (n+1) (j:=1) hlt2 (by decide)
  rw[gx]at g4 g5
  simp only[hk1,go_sem,Nat.mul_one,Nat.add_zero,List.getElem?_cons_zero,List.getElem?_cons_succ,List.cons_append,List.nil_append]at g4 g5 hal
  have hy:MkD.put (q+(cntD (xs.take i):Nat)) xs[i]=⟨q+(cntD (xs.take i):Nat),mkL UInt8 (q+(cntD (xs.take i):Nat)+1) xs[i].bytes.length⟩:=rfl
  have hy2:MkD.cnt xs[i]=xs[i].bytes.length+1:=rfl
  rw[hy]at hms
  rw[hy2]at hcs
  have hl:=sm_len hx.2
  have hsets:=valL_set (n+1) hlt2 (⟨q+(cntD (xs.take i):Nat),mkL UInt8 (q+(cntD (xs.take i):Nat)+1) xs[i].bytes.length⟩:GPut)
  have e7:=set_lset2 (v:= .int .i64 (q+(cntD (xs.take i):Nat))) g5
  have g6:((OV.valL (n+1) (ocL (mkTo q i xs))).set (i*2) (.int .i64 (q+(cntD (xs.take i):Nat))))[i*2+1]? =some (.slice (some ⟨n+1+i,0,some 1⟩) xs[i].bytes.length (xs[i].bytes.length+1)):=by rw[List.getElem?_set_ne (by omega)];exact g5
  simp (maxSteps:=2000000) (disch:=first|assumption|(refine asm_intro ?_;assumption)|exact Nat.le_add_right _ _|exact Nat.le_refl _|omega|(simp (disch:=first|exact Nat.le_add_right _ _|omega) only[Le_upd hb,Le_app hb,Le_rfl,free_T hb,free_upd];done)|fail) only[go_sem,push_cast,and_pos,Le_updF,Le_upd hb,free_T hb,g1,g3,g4,g5,g6,hal,hlt,mkL_len,flat_len,List.length_set]
  refine hFx (i+1,upd (upd G n (some ⟨(OV.valL (n+1) (ocL (mkTo q i xs))).set (i*2) (.int .i64 (q+(cntD (xs.take i):Nat))),true⟩)) (n+1+i) (some ⟨flat (mkL UInt8 (q+(cntD (xs.take i):Nat)+1) xs[i].bytes.length),true⟩)) _ _ _ ?_ ?_ (by first|exact Le.refl _|simp (disch:=first|assumption|omega|(simp (disch:=omega) only[free_upd,free_T hb];done)) only[go_sem,push_cast,and_pos,Le_updF,Le_rfl,Le_upd2,free_upd,free_T hb,hcs,Int.natCast_add,Int.add_assoc]) (by simp only[go_sem,push_cast,and_pos,Le_updF]) (by simp only[go_sem,push_cast,and_pos,Le_updF,hcs,Int.natCast_add,Int.add_assoc];all_goals (try simp only[Value.int.injEq,Value.slice.injEq,true_and,and_true]) <;>all_goals (try(first|trivial|omega|grind)))
  ·show xs.length-(i+1)<xs.length-i
   omega
  ·refine⟨hlt,?_,fun m hm=> ?_⟩
   ·show OV.Has _ n (OEnc.oc (mkTo q (i+1) xs))
    rw[hms]
    refine has_set hlt2 i2 ?_ ?_ fun m h1 h2=> ?_
    ·show upd (upd G n _) (n+1+i) _ n=_
     rw[upd_other _ _ (by omega),upd_same,e7,←hsets]
     have e5:OV.valL (n+1+i*1) (OEnc.oc (⟨q+(cntD (xs.take i):Nat),mkL UInt8 (q+(cntD (xs.take i):Nat)+1) xs[i].bytes.length⟩:GPut))=[.int .i64 (q+(cntD (xs.take i):Nat)), .slice (some ⟨n+1+i,0,some 1⟩) xs[i].bytes.length (xs[i].bytes.length+1)]:=by simp only[go_sem,Nat.mul_one,Nat.add_zero,mkL_len,List.cons_append,List.nil_append]
     rw[e5,hk1]
    ·simp only[go_sem,Nat.mul_one,Nat.add_zero,upd_same,and_true,true_and]
    ·show upd (upd G n _) (n+1+i) _ m=_
     rw[upd_other _ _ (by omega),upd_other _ _ h1]
   ·show upd (upd G n _) (n+1+i) _ m=H m
    rw[upd_other _ _ (by omega),upd_other _ _ (by omega)];exact i3 m hm
 ·refine R0 ?_
  obtain rfl:i=xs.length:=by omega
  rw[mkTo_end]at i2
  have hG:=oput_eq i2 (by rw[mkD_num];exact i3)
  refine cv (by kernel_rfl) ?_
  refine R (@List.take_length UInt8) ?_
  rw[hG];exact⟨Le.refl _,by rw[List.take_length]⟩
def W18:Trans:=fun args H Bd K=>∃(x:GDisk) (n:Nat) (q:Int),args=[.agg #[.slice (some ⟨n,0,some 1⟩) (x.sectors).length ((x.sectors).length+1), .slice (some ⟨n+OV.numL (OEnc.oc (x.sectors)),0,some 2⟩) (x.pending).length ((x.pending).length+1)], .int .i64 q]∧(OV.Has H n (OEnc.oc x)∧sm x∧0≤q∧q+(cntD x.sectors:Nat)+(cntD x.pending:Nat)≤4611686018427387904)∧K (.int .i64 (q+(cntD x.sectors:Nat)+(cntD x.pending:Nat))) (oput H n (OEnc.oc (⟨mkDL (q) x.sectors,mkDL (q+(cntD x.sectors:Nat)) x.pending⟩:GDisk))) Bd
@[go_sem ↓] theorem W18_eq (v u:Value):W18 [v,u] H Bd K=Held (W18 [v,u] H Bd K) ⟨⟩:=(rfl)
theorem W18_ok:OK 18 W18:=by
 rintro args H Bd K ⟨x,n,q,rfl,⟨hH,hsm,h1,h2⟩,hK⟩
 have hnn:OV.numL (OEnc.oc (⟨mkDL (q) x.sectors,mkDL (q+(cntD x.sectors:Nat)) x.pending⟩:GDisk))=OV.numL (OEnc.oc x):=by simp only[go_sem,mkD_num]
 refine fn_set pok (((Env.base _).add 66 _ W66_ok).add 67 _ W67_ok) [] _ hK (fun hh=>HB_oput hh hH (OEnc.ok _) hnn) Tryz.func18 rfl (rs:=[.tmp 4]) rfl Tryz.ntmps18 (by simp) Tryz.call18 (by kernel_rfl) (fun ha hb=> .int _ _) (fun hb ha=> ?_)
 have hlt:=has_lt hb hH
 simp only[go_sem]at hH hlt
 simp only[sm_GDisk]at hsm
 obtain⟨hH0,hH1⟩:=hH
 obtain⟨hm0,hm1⟩:=hsm
 have hp0:0<OV.numL (OEnc.oc x.sectors):=by rw[oc_num];omega
 have hp1:0<OV.numL (OEnc.oc x.pending):=by rw[oc_num];omega
 have he0:OV.numL (OEnc.oc (mkDL (q) x.sectors))=OV.numL (OEnc.oc x.sectors):=mkD_num _ _
 have he1:OV.numL (OEnc.oc (mkDL (q+(cntD x.sectors:Nat)) x.pending))=OV.numL (OEnc.oc x.pending):=mkD_num _ _
 refine R0 ?_
 refine held ⟨x.sectors,_,_,_,rfl,⟨by simp (disch:=omega) only[go_sem,mkD_num,hH0],hm0,by omega,by omega⟩,?_⟩
 refine R (cj he0 he1) ?_
 refine held ⟨x.pending,_,_,_,rfl,⟨by simp (disch:=omega) only[go_sem,mkD_num,hH1],hm1,by omega,by omega⟩,?_⟩
 refine R (cj he0 he1) ?_
 exact(Le_oput _ _ (Le_oput _ _ (Le_new (Le.refl H) (hb.fresh Bd (Nat.le_refl Bd)))))
def W144:Trans:=fun args H Bd K=>∃(k:Int),args=[.int .i64 k]∧((k≤4611686018427387904)∧K (.string (mtext k)) H Bd)
@[go_sem ↓] theorem W144_eq (k:Int):W144 [.int .i64 k] H Bd K=((k≤4611686018427387904)∧K (.string (mtext k)) H Bd):=ex1 k rfl
theorem W144_ok:OK 144 W144:=by
 rintro args H Bd K ⟨k,rfl,hpre,hK⟩
 refine fnp pok (Env.base _) [] hK Tryz.func144 Tryz.ntmps144 Tryz.call144 [.tmp 2] fun hb ha=> ?_
 refine withC pok fun cv=> ?_
 by_cases hk:k≤0
 ·have hm:mtext k=⟨#[109,48]⟩:=by unfold mtext;rw[if_pos hk]
  exact R (cj hk hm) trivial
 obtain⟨k,rfl⟩:=Int.eq_ofNat_of_zero_le (show 0≤k by omega)
 have hm:mtext (k:Int)=⟨#[109]⟩++mtD 64 k ⟨#[]⟩:=by unfold mtext;rw[if_neg hk,Int.toNat_natCast]
 refine R (cj hk hm) ?_
 refine tr_st (X:=Nat×Nat×ByteArray) (fun x=>mtD x.1 x.2.1 x.2.2=mtD 64 k ⟨#[]⟩∧x.2.1<10^x.1∧x.2.1≤k∧x.2.2.size+x.1≤64) (fun x=>x.2.1) (fun x=>[(0, .int .i64 (x.2.1:Nat)),(3, .string x.2.2)]) (fun x=>H) (64,k,⟨#[]⟩) (⟨rfl,show k<10^64 by omega,Nat.le_refl _,Nat.le_refl _⟩) (by simp only[go_sem,push_cast,and_pos,Le_updF];all_goals (try simp only[Value.int.injEq,Value.slice.injEq,true_and,and_true]) <;>all_goals (try(first|trivial|omega|grind))) (by first|exact Le.refl _|simp (disch:=first|assumption|omega) only[go_sem,push_cast,and_pos,Le_updF,Le_rfl,Le_upd2]) ?_
 intro x Bx hIx hBx hbx Fx hFx
 refine cv (by kernel_rfl) ?_
 obtain⟨f,j,out⟩:=x
 obtain⟨q1,q2,q3,q4⟩:=hIx
 simp only at q1 q2 q3 q4
 by_cases hj:j=0
 ·subst hj
  refine R0 ?_
  refine cv (by kernel_rfl) ?_
  have e1:mtD f 0 out=out:=by cases f <;>simp[mtD]
  rw[e1]at q1
  have hs:(mtD 64 k ⟨#[]⟩).size≤64:=by rw[←q1];omega
  simp (maxSteps:=2000000) (disch:=first|assumption|(refine asm_intro ?_;assumption)|exact Nat.le_add_right _ _|exact Nat.le_refl _|omega|(simp (disch:=first|exact Nat.le_add_right _ _|omega) only[Le_upd hb,Le_app hb,Le_rfl,free_T hb,free_upd];done)|fail) only[go_sem,push_cast,and_pos,Le_updF,Le_upd hb,free_T hb,q1,List.size_toArray,List.length_cons,List.length_nil]
 ·have t1:((j:Nat):Int).tmod 10=((j%10:Nat):Int):=rfl
  have t2:((j:Nat):Int).tdiv 10=((j/10:Nat):Int):=rfl
  have t3:j%10<10:=Nat.mod_lt _ (by decide)
  have hsz:1+out.size≤9223372036854775807:=by omega
  simp (maxSteps:=2000000) (disch:=first|assumption|(refine asm_intro ?_;assumption)|exact Nat.le_add_right _ _|exact Nat.le_refl _|omega|(simp (disch:=first|exact Nat.le_add_right _ _|omega) only[Le_upd hb,Le_app hb,Le_rfl,free_T hb,free_upd];done)|fail) only[go_sem,push_cast,and_pos,Le_updF,Le_upd hb,free_T hb,hj,t1,t2,List.size_toArray,List.length_cons,List.length_nil]
  refine hFx (f-1,j/10,oneB ((48+(j:Int)%10)%256)++out) _ _ _ ?_ ?_ (by first|exact Le.refl _|simp (disch:=first|assumption|omega|(simp (disch:=omega) only[free_upd,free_T hb];done)) only[go_sem,push_cast,and_pos,Le_updF,Le_rfl,Le_upd2,free_upd,free_T hb]) (by simp only[go_sem,push_cast,and_pos,Le_updF]) (by simp only[go_sem,push_cast,and_pos,Le_updF];all_goals (try simp only[Value.int.injEq,Value.slice.injEq,true_and,and_true]) <;>all_goals (try(first|trivial|omega|grind)))
  ·show j/10<j
   omega
  ·obtain⟨f,rfl⟩:∃f',f=f'+1:=⟨f-1,by
    rcases Nat.eq_zero_or_pos f with h|h
    ·subst h;rw[Nat.pow_zero]at q2;omega
    ·omega⟩
   rw[mtD,if_neg hj]at q1
   refine⟨q1,?_,show j/10≤k by omega,?_⟩
   ·rw[Nat.pow_succ]at q2
    exact Nat.div_lt_of_lt_mul (by rw[Nat.mul_comm];exact q2)
   ·show(oneB _++out).size+f≤64
    rw[ByteArray.size_append,show(oneB ((48+(j:Int)%10)%256)).size=1 from rfl]
    omega
def W81:Trans:=fun args H Bd K=>∃(q:Int) (n:Nat) (l:Nat) (c:Nat),args=[.slice (some ⟨n,0,some 2⟩) l c, .int .i64 q]∧(Yld (H n) fun b0=>(b0.own=true∧b0.cells.length=l*2∧0≤q∧q+(l*2:Nat)≤4611686018427387904∧l≤281474976710656)∧K (.int .i64 (q+(l*2:Nat))) (upd H n (some ⟨flat (mkL GSymbol q l),true⟩)) Bd)
@[go_sem ↓] theorem W81_eq (n:Nat) (l:Nat) (c:Nat) (q:Int):W81 [.slice (some ⟨n,0,some 2⟩) l c, .int .i64 q] H Bd K=(Yld (H n) fun b0=>(b0.own=true∧b0.cells.length=l*2∧0≤q∧q+(l*2:Nat)≤4611686018427387904∧l≤281474976710656)∧K (.int .i64 (q+(l*2:Nat))) (upd H n (some ⟨flat (mkL GSymbol q l),true⟩)) Bd):=by
 refine propext ⟨fun h=> ?_,fun h=>⟨_,_,_,_,rfl,h⟩⟩
 obtain⟨q',n',l',c',e,h⟩:=h
 skip
 simp only[List.cons.injEq,Value.agg.injEq,toArr_inj,Value.int.injEq,Value.bool.injEq,Value.string.injEq,Value.slice.injEq,Value.func.injEq,Value.pointer.injEq,Option.some.injEq,Addr.mk.injEq,lst_inj,true_and,and_true,and_assoc]at e
 obtain⟨rfl,rfl,rfl,rfl⟩:=e
 exact h
set_option maxHeartbeats 2000000 in
theorem W81_ok:OK 81 W81:=by
 rintro args H Bd K ⟨q,n,l,c,rfl,⟨cells,ow⟩,hb0,⟨ho,hc,h1,h2,h3⟩,hK⟩
 simp only at ho hc
 subst ho
 refine fn_set pok ((Env.base _).add 144 _ W144_ok) [] _ hK (fun hh=>hb_setF hh hb0 _) Tryz.func81 rfl (rs:=[.tmp 4]) rfl Tryz.ntmps81 (by simp) Tryz.call81 (by kernel_rfl) (fun ha hb=> .int _ _) (fun hb ha=> ?_)
 refine withC pok fun cv=> ?_
 have hLe:=le_own hb0
 refine R hb0 ?_
 refine tr_st (X:=Nat) (fun i=>i≤l) (fun i=>l-i) (fun i=>[(0, .slice (some ⟨n,0,some 2⟩) l c),(1, .int .i64 (q+(i*2:Nat))),(5, .int .i64 i)]) (fun i=>upd H n (some ⟨mkC GSymbol q i cells,true⟩)) 0 (Nat.zero_le _) (by simp only[go_sem,push_cast,and_pos,Le_updF,mkC_zero,hLe,Nat.zero_mul,Int.natCast_zero,Int.add_zero];all_goals (try simp only[Value.int.injEq,Value.slice.injEq,true_and,and_true]) <;>all_goals (try(first|trivial|omega|grind))) (by first|exact Le.refl _|simp (disch:=first|assumption|omega) only[go_sem,push_cast,and_pos,Le_updF,Le_rfl,Le_upd2,mkC_zero,hLe,Nat.zero_mul,Int.natCast_zero,Int.add_zero]) ?_
 intro i Bi hIi hBi hbi Fi hFi
 refine cv (by kernel_rfl) ?_
 rcases Nat.lt_or_ge i l with hlt|hge
 ·have hset:((mkC GSymbol q i cells).set (i*2) (.string (mtext (q+(i:Int)*2)))).set (i*2+1) (.int .i64 (q+(i:Int)*2+1))=mkC GSymbol q (i+1) cells:=mkC_set2 (n:=l) q cells hc hlt rfl
  have hln:(mkC GSymbol q i cells).length=cells.length:=mkC_len q i cells (by rw[hc];exact Nat.mul_le_mul_right _ hIi)
  simp (maxSteps:=2000000) (disch:=first|assumption|(refine asm_intro ?_;assumption)|exact Nat.le_add_right _ _|exact Nat.le_refl _|omega|(simp (disch:=first|exact Nat.le_add_right _ _|omega) only[Le_upd hb,Le_app hb,Le_rfl,free_T hb,free_upd];done)|fail) only[go_sem,push_cast,and_pos,Le_updF,Le_upd hb,free_T hb,hset,hln,List.length_set]
  refine hFi (i+1) _ _ _ ?_ ?_ (by first|exact Le.refl _|simp (disch:=first|assumption|omega|(simp (disch:=omega) only[free_upd,free_T hb];done)) only[go_sem,push_cast,and_pos,Le_updF,Le_rfl,Le_upd2,free_upd,free_T hb,hset]) (by simp only[go_sem,push_cast,and_pos,Le_updF]) (by simp only[go_sem,push_cast,and_pos,Le_updF,hset];all_goals (try simp only[Value.int.injEq,Value.slice.injEq,true_and,and_true]) <;>all_goals (try(first|trivial|omega|grind)))
  all_goals omega
 ·refine R0 ?_
  obtain rfl:i=l:=by omega
  rw[mkC_end q cells hc]
  refine cv (by kernel_rfl) ?_
  exact R0 trivial
def W28:Trans:=fun args H Bd K=>∃(q:Int) (n0:Nat) (l0:Nat) (c0:Nat),args=[.agg #[.slice (some ⟨n0,0,some 2⟩) l0 c0], .int .i64 q]∧(Yld (H n0) fun b0=>((b0.own=true∧b0.cells.length=l0*2∧l0≤281474976710656)∧0≤q∧q+(l0*2:Nat)≤4611686018427387904)∧K (.int .i64 (q+(l0*2:Nat))) (upd H n0 (some ⟨flat (mkL GSymbol (q) l0),true⟩)) Bd)
@[go_sem ↓] theorem W28_eq (n0:Nat) (l0:Nat) (c0:Nat) (q:Int):W28 [.agg #[.slice (some ⟨n0,0,some 2⟩) l0 c0], .int .i64 q] H Bd K=(Yld (H n0) fun b0=>((b0.own=true∧b0.cells.length=l0*2∧l0≤281474976710656)∧0≤q∧q+(l0*2:Nat)≤4611686018427387904)∧K (.int .i64 (q+(l0*2:Nat))) (upd H n0 (some ⟨flat (mkL GSymbol (q) l0),true⟩)) Bd):=by
 refine propext ⟨fun h=> ?_,fun h=>⟨_,_,_,_,rfl,h⟩⟩
 obtain⟨q',n0',l0',c0',e,h⟩:=h
 skip
 simp only[List.cons.injEq,Value.agg.injEq,toArr_inj,Value.int.injEq,Value.bool.injEq,Value.string.injEq,Value.slice.injEq,Value.func.injEq,Value.pointer.injEq,Option.some.injEq,Addr.mk.injEq,lst_inj,true_and,and_true,and_assoc]at e
 obtain⟨rfl,rfl,rfl,rfl⟩:=e
 exact h
theorem W28_ok:OK 28 W28:=by
 rintro args H Bd K ⟨q,n0,l0,c0,rfl,b0,hb0,⟨hc0,h1,h2⟩,hK⟩
 refine fn_set pok ((Env.base _).add 81 _ W81_ok) [] _ hK (fun hh=>(hb_setF hh hb0 _)) Tryz.func28 rfl (rs:=[.tmp 4]) rfl Tryz.ntmps28 (by simp) Tryz.call28 (by kernel_rfl) (fun ha hb=> .int _ _) (fun hb ha=> ?_)
 have hc0_0:=hc0.1
 have hc0_1:=hc0.2.1
 have hc0_2:=hc0.2.2
 have hn0:=hb_in hb hb0
 simp (maxSteps:=2000000) (disch:=first|assumption|(refine asm_intro ?_;assumption)|exact Nat.le_add_right _ _|exact Nat.le_refl _|omega|(simp (disch:=first|exact Nat.le_add_right _ _|omega) only[Le_upd hb,Le_app hb,Le_rfl,free_T hb,free_upd];done)|fail) only[go_sem,push_cast,and_pos,Le_updF,Le_upd hb,free_T hb,hb0,hc0_0,hc0_1]
 repeat refine Le_mark ?_
 simp (disch:=first|omega|exact Nat.le_refl _) only[Le_upd hb,Le_rfl]
def W19:Trans:=fun args H Bd K=>∃(q:Int) (s0:Int) (s1:Int) (s2:Int) (s3:Int) (s4:Int) (s5:Int) (s6:Bool) (n0:Nat) (l0:Nat) (c0:Nat) (n1:Nat) (l1:Nat) (c1:Nat),args=[.agg #[.int .i64 s0, .int .i64 s1, .int .i64 s2, .int .i64 s3, .int .i64 s4, .int .i64 s5, .bool s6, .slice (some ⟨n0,0,some 1⟩) l0 c0, .slice (some ⟨n1,0,some 2⟩) l1 c1], .int .i64 q]∧(Yld (H n0) fun b0=>Yld (H n1) fun b1=>((b0.own=true∧b0.cells.length=l0*1∧l0≤281474976710656)∧(b1.own=true∧b1.cells.length=l1*2∧l1≤281474976710656∧n1≠n0)∧0≤q∧q+(l0*1:Nat)+(l1*2:Nat)≤4611686018427387904)∧K (.int .i64 (q+(l0*1:Nat)+(l1*2:Nat))) (upd (upd H n0 (some ⟨flat (mkL UInt8 (q) l0),true⟩)) n1 (some ⟨flat (mkL GSymbol (q+(l0*1:Nat)) l1),true⟩)) Bd)
@[go_sem ↓] theorem W19_eq (s0:Int) (s1:Int) (s2:Int) (s3:Int) (s4:Int) (s5:Int) (s6:Bool) (n0:Nat) (l0:Nat) (c0:Nat) (n1:Nat) (l1:Nat) (c1:Nat) (q:Int):W19 [.agg #[.int .i64 s0, .int .i64 s1, .int .i64 s2, .int .i64 s3, .int .i64 s4, .int .i64 s5, .bool s6, .slice (some ⟨n0,0,some 1⟩) l0 c0, .slice (some ⟨n1,0,some 2⟩) l1 c1], .int .i64 q] H Bd K=(Yld (H n0) fun b0=>Yld (H n1) fun b1=>((b0.own=true∧b0.cells.length=l0*1∧l0≤281474976710656)∧(b1.own=true∧b1.cells.length=l1*2∧l1≤281474976710656∧n1≠n0)∧0≤q∧q+(l0*1:Nat)+(l1*2:Nat)≤4611686018427387904)∧K (.int .i64 (q+(l0*1:Nat)+(l1*2:Nat))) (upd (upd H n0 (some ⟨flat (mkL UInt8 (q) l0),true⟩)) n1 (some ⟨flat (mkL GSymbol (q+(l0*1:Nat)) l1),true⟩)) Bd):=by
 refine propext ⟨fun h=> ?_,fun h=>⟨_,_,_,_,_,_,_,_,_,_,_,_,_,_,rfl,h⟩⟩
 obtain⟨q',s0',s1',s2',s3',s4',s5',s6',n0',l0',c0',n1',l1',c1',e,h⟩:=h
 skip
 simp only[List.cons.injEq,Value.agg.injEq,toArr_inj,Value.int.injEq,Value.bool.injEq,Value.string.injEq,Value.slice.injEq,Value.func.injEq,Value.pointer.injEq,Option.some.injEq,Addr.mk.injEq,lst_inj,true_and,and_true,and_assoc]at e
 obtain⟨rfl,rfl,rfl,rfl,rfl,rfl,rfl,rfl,rfl,rfl,rfl,rfl,rfl,rfl⟩:=e
 exact h
theorem W19_ok:OK 19 W19:=by
 rintro args H Bd K ⟨q,s0,s1,s2,s3,s4,s5,s6,n0,l0,c0,n1,l1,c1,rfl,b0,hb0,b1,hb1,⟨hc0,hc1,h1,h2⟩,hK⟩
 refine fn_set pok (((Env.base _).add 68 _ W68_ok).add 28 _ W28_ok) [] _ hK (fun hh=>(hb_setF (hb_setF hh hb0 _) ((upd_other _ _ (by omega)).trans hb1) _)) Tryz.func19 rfl (rs:=[.tmp 4]) rfl Tryz.ntmps19 (by simp) Tryz.call19 (by kernel_rfl) (fun ha hb=> .int _ _) (fun hb ha=> ?_)
 have hc0_0:=hc0.1
 have hc0_1:=hc0.2.1
 have hc0_2:=hc0.2.2
 have hc1_0:=hc1.1
 have hc1_1:=hc1.2.1
 have hc1_2:=hc1.2.2.1
 have hn0:=hb_in hb hb0
 have hn1:=hb_in hb hb1
 simp (maxSteps:=2000000) (disch:=first|assumption|(refine asm_intro ?_;assumption)|exact Nat.le_add_right _ _|exact Nat.le_refl _|omega|(simp (disch:=first|exact Nat.le_add_right _ _|omega) only[Le_upd hb,Le_app hb,Le_rfl,free_T hb,free_upd];done)|fail) only[go_sem,push_cast,and_pos,Le_updF,Le_upd hb,free_T hb,hb0,hb1,hc0_0,hc0_1,hc1_0,hc1_1]
 repeat refine Le_mark ?_
 simp (disch:=first|omega|exact Nat.le_refl _) only[Le_upd hb,Le_rfl]
def W69:Trans:=fun args H Bd K=>∃(q:Int) (n:Nat) (l:Nat) (c:Nat),args=[.slice (some ⟨n,0,some 1⟩) l c, .int .i64 q]∧(Yld (H n) fun b0=>(b0.own=true∧b0.cells.length=l*1∧0≤q∧q+(l*1:Nat)≤4611686018427387904∧l≤281474976710656)∧K (.int .i64 (q+(l*1:Nat))) (upd H n (some ⟨flat (mkL Int q l),true⟩)) Bd)
@[go_sem ↓] theorem W69_eq (n:Nat) (l:Nat) (c:Nat) (q:Int):W69 [.slice (some ⟨n,0,some 1⟩) l c, .int .i64 q] H Bd K=(Yld (H n) fun b0=>(b0.own=true∧b0.cells.length=l*1∧0≤q∧q+(l*1:Nat)≤4611686018427387904∧l≤281474976710656)∧K (.int .i64 (q+(l*1:Nat))) (upd H n (some ⟨flat (mkL Int q l),true⟩)) Bd):=by
 refine propext ⟨fun h=> ?_,fun h=>⟨_,_,_,_,rfl,h⟩⟩
 obtain⟨q',n',l',c',e,h⟩:=h
 skip
 simp only[List.cons.injEq,Value.agg.injEq,toArr_inj,Value.int.injEq,Value.bool.injEq,Value.string.injEq,Value.slice.injEq,Value.func.injEq,Value.pointer.injEq,Option.some.injEq,Addr.mk.injEq,lst_inj,true_and,and_true,and_assoc]at e
 obtain⟨rfl,rfl,rfl,rfl⟩:=e
 exact h
theorem W69_ok:OK 69 W69:=by
 rintro args H Bd K ⟨q,n,l,c,rfl,⟨cells,ow⟩,hb0,⟨ho,hc,h1,h2,h3⟩,hK⟩
 simp only at ho hc
 subst ho
 refine fn_set pok (Env.base _) [] _ hK (fun hh=>hb_setF hh hb0 _) Tryz.func69 rfl (rs:=[.tmp 4]) rfl Tryz.ntmps69 (by simp) Tryz.call69 (by kernel_rfl) (fun ha hb=> .int _ _) (fun hb ha=> ?_)
 refine withC pok fun cv=> ?_
 have hLe:=le_own hb0
 refine R hb0 ?_
 refine tr_st (X:=Nat) (fun i=>i≤l) (fun i=>l-i) (fun i=>[(0, .slice (some ⟨n,0,some 1⟩) l c),(1, .int .i64 (q+(i*1:Nat))),(5, .int .i64 i)]) (fun i=>upd H n (some ⟨mkC Int q i cells,true⟩)) 0 (Nat.zero_le _) (by simp only[go_sem,push_cast,and_pos,Le_updF,mkC_zero,hLe,Nat.zero_mul,Int.natCast_zero,Int.add_zero];all_goals (try simp only[Value.int.injEq,Value.slice.injEq,true_and,and_true]) <;>all_goals (try(first|trivial|omega|grind))) (by first|exact Le.refl _|simp (disch:=first|assumption|omega) only[go_sem,push_cast,and_pos,Le_updF,Le_rfl,Le_upd2,mkC_zero,hLe,Nat.zero_mul,Int.natCast_zero,Int.add_zero]) ?_
 intro i Bi hIi hBi hbi Fi hFi
 refine cv (by kernel_rfl) ?_
 rcases Nat.lt_or_ge i l with hlt|hge
 ·have hset:(mkC Int q i cells).set i (.int .i64 (q+(i:Nat)))=mkC Int q (i+1) cells:=mkC_set1 (n:=l) q cells hc hlt (by rw[Nat.mul_one];rfl)
  have hln:(mkC Int q i cells).length=cells.length:=mkC_len q i cells (by rw[hc];exact Nat.mul_le_mul_right _ hIi)
  refine R (cj hset hln) ?_
  refine hFi (i+1) _ _ _ ?_ ?_ (by first|exact Le.refl _|simp (disch:=first|assumption|omega|(simp (disch:=omega) only[free_upd,free_T hb];done)) only[go_sem,push_cast,and_pos,Le_updF,Le_rfl,Le_upd2,free_upd,free_T hb,hset]) (by simp only[go_sem,push_cast,and_pos,Le_updF]) (by simp only[go_sem,push_cast,and_pos,Le_updF,hset];all_goals (try simp only[Value.int.injEq,Value.slice.injEq,true_and,and_true]) <;>all_goals (try(first|trivial|omega|grind)))
  all_goals omega
 ·refine R0 ?_
  obtain rfl:i=l:=by omega
  rw[mkC_end q cells hc]
  refine cv (by kernel_rfl) ?_
  exact R0 trivial
def W20:Trans:=fun args H Bd K=>∃(q:Int) (s0:Int) (n0:Nat) (l0:Nat) (c0:Nat),args=[.agg #[.int .i64 s0, .slice (some ⟨n0,0,some 1⟩) l0 c0], .int .i64 q]∧(Yld (H n0) fun b0=>((b0.own=true∧b0.cells.length=l0*1∧l0≤281474976710656)∧0≤q∧q+(l0*1:Nat)≤4611686018427387904)∧K (.int .i64 (q+(l0*1:Nat))) (upd H n0 (some ⟨flat (mkL Int (q) l0),true⟩)) Bd)
@[go_sem ↓] theorem W20_eq (s0:Int) (n0:Nat) (l0:Nat) (c0:Nat) (q:Int):W20 [.agg #[.int .i64 s0, .slice (some ⟨n0,0,some 1⟩) l0 c0], .int .i64 q] H Bd K=(Yld (H n0) fun b0=>((b0.own=true∧b0.cells.length=l0*1∧l0≤281474976710656)∧0≤q∧q+(l0*1:Nat)≤4611686018427387904)∧K (.int .i64 (q+(l0*1:Nat))) (upd H n0 (some ⟨flat (mkL Int (q) l0),true⟩)) Bd):=by
 refine propext ⟨fun h=> ?_,fun h=>⟨_,_,_,_,_,rfl,h⟩⟩
 obtain⟨q',s0',n0',l0',c0',e,h⟩:=h
 skip
 simp only[List.cons.injEq,Value.agg.injEq,toArr_inj,Value.int.injEq,Value.bool.injEq,Value.string.injEq,Value.slice.injEq,Value.func.injEq,Value.pointer.injEq,Option.some.injEq,Addr.mk.injEq,lst_inj,true_and,and_true,and_assoc]at e
 obtain⟨rfl,rfl,rfl,rfl,rfl⟩:=e
 exact h
theorem W20_ok:OK 20 W20:=by
 rintro args H Bd K ⟨q,s0,n0,l0,c0,rfl,b0,hb0,⟨hc0,h1,h2⟩,hK⟩
 refine fn_set pok ((Env.base _).add 69 _ W69_ok) [] _ hK (fun hh=>(hb_setF hh hb0 _)) Tryz.func20 rfl (rs:=[.tmp 4]) rfl Tryz.ntmps20 (by simp) Tryz.call20 (by kernel_rfl) (fun ha hb=> .int _ _) (fun hb ha=> ?_)
 have hc0_0:=hc0.1
 have hc0_1:=hc0.2.1
 have hc0_2:=hc0.2.2
 have hn0:=hb_in hb hb0
 simp (maxSteps:=2000000) (disch:=first|assumption|(refine asm_intro ?_;assumption)|exact Nat.le_add_right _ _|exact Nat.le_refl _|omega|(simp (disch:=first|exact Nat.le_add_right _ _|omega) only[Le_upd hb,Le_app hb,Le_rfl,free_T hb,free_upd];done)|fail) only[go_sem,push_cast,and_pos,Le_updF,Le_upd hb,free_T hb,hb0,hc0_0,hc0_1]
 repeat refine Le_mark ?_
 simp (disch:=first|omega|exact Nat.le_refl _) only[Le_upd hb,Le_rfl]
def W70:Trans:=fun args H Bd K=>∃(xs:List Int) (k:Int),args=[lst xs, .int .i64 k]∧((sm xs∧0≤k∧k+(xs.length*1:Nat)≤4611686018427387904∧xs=mkL Int k xs.length)∧K (.int .i64 (k+(xs.length*1:Nat))) H Bd)
@[go_sem ↓] theorem W70_eq (xs:List Int) (k:Int):W70 [lst xs, .int .i64 k] H Bd K=((sm xs∧0≤k∧k+(xs.length*1:Nat)≤4611686018427387904∧xs=mkL Int k xs.length)∧K (.int .i64 (k+(xs.length*1:Nat))) H Bd):=ex2 xs k rfl
theorem W70_ok:OK 70 W70:=by
 rintro args H Bd K ⟨xs,k,rfl,hpre,hK⟩
 refine fnp pok (Env.base _) [] hK Tryz.func70 Tryz.ntmps70 Tryz.call70 [.tmp 4] fun hb ha=> ?_
 refine withC pok fun cv=> ?_
 obtain⟨h1,h2,h3,h4⟩:=hpre
 have hlen:=sm_len h1
 refine R0 ?_
 refine tr_for (fun i=>True) (xs.length) (fun i=>[(0,lst xs),(1, .int .i64 (k+(i*1:Nat))),(5, .int .i64 i)]) (trivial) (by simp only[go_sem,push_cast,and_pos,Le_updF,Int.zero_mul,Int.add_zero]) ?_
 intro i Bi hIi hii hBi
 refine cv (by kernel_rfl) ?_
 rcases Nat.lt_or_ge i (xs.length)with hlti|hgei
 ·have e1:xs[i]? =some (k+(i:Int)):=by
   rw[h4,mkL_get k hlti];first|rfl|(rw[Nat.mul_one];rfl)
  exact R e1 trivial
 ·refine R0 ?_
  obtain rfl:i=xs.length:=by omega
  refine cv (by kernel_rfl) ?_
  exact R0 trivial
def W21:Trans:=fun args H Bd K=>∃(x:GIntsResult) (k:Int),args=[.agg (enc x).toArray, .int .i64 k]∧((sm x∧0≤k∧k+(x.list.length*1:Nat)≤4611686018427387904∧x.list=mkL Int (k) x.list.length)∧K (.int .i64 (k+(x.list.length*1:Nat))) H Bd)
@[go_sem ↓] theorem W21_eq (x_code:Int) (x_list:List Int) (k:Int):W21 [.agg #[.int .i64 x_code,lst x_list], .int .i64 k] H Bd K=((sm (GIntsResult.mk x_code x_list)∧0≤k∧k+((GIntsResult.mk x_code x_list).list.length*1:Nat)≤4611686018427387904∧(GIntsResult.mk x_code x_list).list=mkL Int (k) (GIntsResult.mk x_code x_list).list.length)∧K (.int .i64 (k+((GIntsResult.mk x_code x_list).list.length*1:Nat))) H Bd):=ex2 (GIntsResult.mk x_code x_list) k rfl
theorem W21_ok:OK 21 W21:=by
 rintro args H Bd K ⟨x,k,rfl,hpre,hK⟩
 refine fnp pok ((Env.base _).add 70 _ W70_ok) [] hK Tryz.func21 Tryz.ntmps21 Tryz.call21 [.tmp 4] fun hb ha=> ?_
 obtain⟨h1,h2,h3,h4⟩:=hpre
 simp only[sm_GIntsResult]at h1
 have hneg:∀z:Int,0≤z→(z<0)=False:=fun z h=>eq_false (by omega)
 simp (maxSteps:=2000000) (disch:=first|assumption|(refine asm_intro ?_;assumption)|exact Nat.le_add_right _ _|exact Nat.le_refl _|omega|(simp (disch:=first|exact Nat.le_add_right _ _|omega) only[Le_upd hb,Le_app hb,Le_rfl,free_T hb,free_upd];done)|fail) only[go_sem,push_cast,and_pos,Le_updF,Le_upd hb,free_T hb,h1,eq_true h4]
theorem L21_pure:PureV W21:=by
 rintro args H Bd K ⟨x0,x1,rfl,hpre,hK⟩
 exact⟨_,by first|exact .bool _|exact .int _ _|exact .string _|exact vc_enc _,hK,fun H' K' hs h=>⟨x0,x1,rfl,hpre,h⟩⟩
def L21:Trans:=LendA W21
@[go_sem ↓] theorem L21_eq (v0 v1:Value):L21 [v0,v1] H Bd K=callW W21 (idS [giveA H v0,giveA H v1]) H Bd K:=(rfl)
theorem L21_ok:OK 21 L21:=LendA_ok W21_ok L21_pure
def W14:Trans:=fun args H Bd K=>∃(d:GDisk) (p:GSuper),args=[.agg (enc d).toArray, .agg (enc p).toArray]∧((sm d∧sm p)∧K (.agg (enc (keptR d p)).toArray) H Bd)
set_option maxHeartbeats 2000000 in
theorem W14_ok:OK 14 W14:=by
 rintro args H Bd K ⟨d,p,rfl,hpre,hK⟩
 refine fnp pok ((((((((Env.base _).add 56 _ W56_ok).add 57 _ W57_ok).add 55 _ W55_ok).add 58 _ W58_ok).add 59 _ W59_ok).add 60 _ W60_ok).add 61 _ L61_ok) [(1,[0,2,1,3,4,5,6],[⟨0,[],[]⟩,⟨2,[],[]⟩,⟨1,[],[2]⟩,⟨3,[],[]⟩,⟨4,[],[]⟩,⟨5,[4],[]⟩,⟨6,[],[]⟩], .nil)] hK Tryz.func14 Tryz.ntmps14 Tryz.call14 [.cell 4 36] fun hb ha=> ?_
 refine withC pok fun cv=> ?_
 obtain⟨h1,hp⟩:=hpre
 have hff:sm [diskF d,superF p]:=(sm_ints _).2 (by simp)
 have hfs:firstF id [diskF d,superF p]=if diskF d≠0 then diskF d else superF p:=by by_cases g1:diskF d=0 <;>by_cases g2:superF p=0 <;>simp[g1,g2,firstF]
 by_cases hd:diskF d=0
 case neg=>
  have e:keptR d p=⟨diskF d,[]⟩:=by unfold keptR;rw[if_pos hd]
  rw[if_pos hd]at hfs
  rw[e]
  exact RA (cj h1 (cj hp (cj hff (cj hfs hd)))) trivial
 rw[if_neg (by simpa using hd)]at hfs
 by_cases hs:superF p=0
 case neg=>
  have e:keptR d p=⟨superF p,[]⟩:=by unfold keptR;rw[if_neg (by simpa using hd),if_pos hs]
  rw[e]
  exact RA (cj h1 (cj hp (cj hff (cj hfs hs)))) trivial
 have e:keptR d p=keptP d p:=by unfold keptR;rw[if_neg (by simpa using hd),if_neg (by simpa using hs)]
 rw[e]
 have h2:=disk_ok hd
 have hS:=super_ok hs
 have hsp:=hS.root
 have hsh:=hS.shadow
 have hsn:=hS.next_
 have hst:=hS.theory
 have rr:R64 p.root:=⟨by omega,by omega⟩
 have rs:R64 p.shadow:=⟨by omega,by omega⟩
 have rn:R64 p.next_:=⟨by omega,by omega⟩
 have rt:R64 p.theory:=⟨by omega,by omega⟩
 have hl1:=(treeI_len d p.root).1
 have hl2:=(treeI_len d p.shadow).1
 have hsl:=sort_len (treeI d p.root).2.pages
 have hsl2:=sort_len (treeI d p.shadow).2.pages
 rw[hs]at hff hfs
 refine RA (cj h1 (cj hp (cj hff (cj hfs hs)))) ?_
 refine tr_own (X:=Nat×List Int) hb (by omega) 1 [.s 6] rfl (fun x=>x.1≤2∧x.2.length≤16000∧(x.1=0→x.2=[])∧(1≤x.1→(treeI d p.root).1=0)∧(x.1=1→x.2=keptA d p)∧(x.1=2→(treeI d p.shadow).1=0∧x.2=keptB d p)) (fun x=>2-x.1) (fun Nx x=>[(2, .pointer (some ⟨Bd,0,none⟩)),(3, .pointer (some ⟨Bd+1,0,none⟩)),(4, .pointer (some ⟨Bd+2,0,none⟩)),(6, .slice (some ⟨Nx,0,some 1⟩) x.2.length (x.2.length+1)),(28,lst [p.root,p.shadow]),(29, .int .i64 2),(30, .int .i64 x.1)]) (fun Nx x=>[(Bd,⟨[lst d.sectors,lst d.pending],true⟩),(Bd+1,⟨[.int .i64 p.gen, .int .i64 p.root, .int .i64 p.shadow, .int .i64 p.theory, .int .i64 p.next_, .int .i64 p.version, .bool p.moving,lst p.cursor,lst p.symbols.symbols],true⟩),(Bd+2,⟨[.int .i64 0, .slice none 0 0],true⟩),(Nx,⟨flat x.2,true⟩)]) (0,[]) (⟨by omega,by simp,fun _=>rfl,fun h=>absurd h (by omega),fun h=>absurd h (by omega),fun h=>absurd h (by omega)⟩) (fun Nx hNx=>(cant)) ?_
 intro Nx x hNx hIx hbx Fx hFx
 simp only[mem_cons,mem_nil]at hbx ⊢
 refine cv (by kernel_rfl) ?_
 obtain⟨i,out⟩:=x
 obtain⟨i1,i2,i3,i4,i5,i6⟩:=hIx
 simp only at i1 i2 i3 i4 i5 i6
 have hP1:=pagesR_ok (root:=p.root) hd
 have hP2:=pagesR_ok (root:=p.shadow) hd
 have e0:[p.root,p.shadow][0]? =some p.root:=rfl
 have e1:[p.root,p.shadow][1]? =some p.shadow:=rfl
 rcases(by omega:i=0∨i=1∨i=2)with rfl|rfl|rfl
 ·obtain rfl:=i3 rfl
  by_cases hc:(treeI d p.root).1=0
  ·rw[if_neg (by simpa using hc)]at hP1
   refine RA (cj h1 (cj rr (cj hP1 e0))) ?_
   refine hFx (1,[]++sortI (treeI d p.root).2.pages) _ _ _ ?_ ?_ (by simp only[go_sem,push_cast,and_pos,Le_updF]) ((by simp (disch:=first|assumption|omega|(simp (disch:=omega) only[free_upd,free_T hb];done)|(simp (disch:=first|omega|(simp (disch:=omega) only[free_upd,free_T hb];done)) only[go_sem,push_cast,and_pos,Le_updF,free_upd,free_T hb];done)|fail) only[go_sem,push_cast,and_pos,Le_updF,Le_rfl,Le_upd hb,free_upd,free_T hb,flat_nil,flat_append,flat_one,enc_int,enc_list,enc_byte,enc_str,enc_bool,List.append_assoc,List.length_append,List.length_cons,List.length_nil,Nat.zero_add,hsl,List.nil_append];all_goals (try simp only[Value.int.injEq,Value.slice.injEq,true_and,and_true]) <;>all_goals (try(first|trivial|omega|grind))))
   ·show 2-1<2-0
    omega
   ·refine⟨by omega,?_,fun h=>absurd h (by simp),fun _=>hc,fun _=>rfl,fun h=>absurd h (by simp)⟩
    show(sortI (treeI d p.root).2.pages).length≤16000
    omega
  ·rw[if_pos hc]at hP1
   have e:keptP d p=⟨(treeI d p.root).1,[]⟩:=by unfold keptP;rw[if_pos hc]
   rw[e]
   exact RA (cj h1 (cj rr (cj hP1 (cj e0 hc)))) trivial
 ·obtain rfl:=i5 rfl
  have hc0:=i4 (Nat.le_refl _)
  have hla:(keptA d p).length≤7776:=by unfold keptA;omega
  by_cases hc:(treeI d p.shadow).1=0
  ·rw[if_neg (by simpa using hc)]at hP2
   refine RA (cj h1 (cj rs (cj hP2 (cj e1 hsl2)))) ?_
   refine hFx (2,keptA d p++sortI (treeI d p.shadow).2.pages) _ _ _ ?_ ?_ (by simp only[go_sem,push_cast,and_pos,Le_updF]) ((canf hsl2))
   ·show 2-2<2-1
    omega
   ·refine⟨by omega,?_,fun h=>absurd h (by simp),fun _=>hc0,fun h=>absurd h (by simp),fun _=>⟨hc,rfl⟩⟩
    show(keptA d p++sortI (treeI d p.shadow).2.pages).length≤16000
    rw[List.length_append];omega
  ·rw[if_pos hc]at hP2
   have e:keptP d p=⟨(treeI d p.shadow).1,[]⟩:=by unfold keptP;rw[if_neg (by simpa using hc0),if_pos hc]
   rw[e]
   exact RA (cj h1 (cj rs (cj hP2 (cj e1 hc)))) trivial
 have hc1:=i4 (by omega)
 obtain⟨hc2,rfl⟩:=i6 rfl
 refine R0 ?_
 refine cv (by kernel_rfl) ?_
 refine RA0 ?_
 refine tr_own (X:=Nat×List Int) hb (by omega) 1 [.s 6] rfl (fun y=>y.1≤2∧y.2.length≤20000∧(y.1=0→y.2=keptB d p)∧(1≤y.1→(chainD d p.theory).2.2=0)∧(y.1=1→y.2=keptB d p++(chainD d p.theory).2.1)∧(y.1=2→(p.next_≠0→(chainD d p.next_).2.2=0)∧y.2=keptL d p)) (fun y=>2-y.1) (fun Ny y=>[(2, .pointer (some ⟨Bd,0,none⟩)),(3, .pointer (some ⟨Bd+1,0,none⟩)),(4, .pointer (some ⟨Bd+2,0,none⟩)),(6, .slice (some ⟨Ny,0,some 1⟩) y.2.length (y.2.length+1)),(52,lst [p.theory,p.next_]),(53, .int .i64 2),(54, .int .i64 y.1)]) (fun Ny y=>[(Bd,⟨[lst d.sectors,lst d.pending],true⟩),(Bd+1,⟨[.int .i64 p.gen, .int .i64 p.root, .int .i64 p.shadow, .int .i64 p.theory, .int .i64 p.next_, .int .i64 p.version, .bool p.moving,lst p.cursor,lst p.symbols.symbols],true⟩),(Bd+2,⟨[.int .i64 0, .slice none 0 0],true⟩),(Ny,⟨flat y.2,true⟩)]) (0,keptB d p) (⟨by omega,Nat.le_trans i2 (by omega),fun _=>rfl,fun h=>absurd h (by omega),fun h=>absurd h (by omega),fun h=>absurd h (by omega)⟩) (fun Ny hNy=>(cant)) ?_
 intro Ny y hNy hIy hby Fy hFy
 simp only[mem_cons,mem_nil]at hby ⊢
 refine cv (by kernel_rfl) ?_
 obtain⟨j,out⟩:=y
 obtain⟨j1,j2,j3,j4,j5,j6⟩:=hIy
 simp only at j1 j2 j3 j4 j5 j6
 have hC1:=chainR_ok (h:=p.theory) hd
 have hC2:=chainR_ok (h:=p.next_) hd
 have f0:[p.theory,p.next_][0]? =some p.theory:=rfl
 have f1:[p.theory,p.next_][1]? =some p.next_:=rfl
 have hl3:=chainD_len d p.theory
 have hl4:=chainD_len d p.next_
 have hLL:=keptL_len d p
 have ht0:¬p.theory=0:=by omega
 rcases(by omega:j=0∨j=1∨j=2)with rfl|rfl|rfl
 ·obtain rfl:=j3 rfl
  by_cases hc:(chainD d p.theory).2.2=0
  ·refine RA (cj h1 (cj rt (cj hC1 (cj f0 (cj ht0 hc))))) ?_
   refine hFy (1,keptB d p++(chainD d p.theory).2.1) _ _ _ ?_ ?_ (by simp only[go_sem,push_cast,and_pos,Le_updF]) ((cant))
   ·show 2-1<2-0
    omega
   ·refine⟨by omega,?_,fun h=>absurd h (by simp),fun _=>hc,fun _=>rfl,fun h=>absurd h (by simp)⟩
    show(keptB d p++(chainD d p.theory).2.1).length≤20000
    rw[List.length_append];omega
  ·have e:keptP d p=⟨(chainD d p.theory).2.2,[]⟩:=by unfold keptP;rw[if_neg (by simpa using hc1),if_neg (by simpa using hc2),if_pos hc]
   rw[e]
   exact RA (cj h1 (cj rt (cj hC1 (cj f0 (cj ht0 hc))))) trivial
 ·obtain rfl:=j5 rfl
  have hc0:=j4 (Nat.le_refl _)
  by_cases hn:p.next_=0
  ·have hk:keptL d p=keptB d p++(chainD d p.theory).2.1:=by unfold keptL keptN;rw[if_pos hn,List.append_nil]
   refine R (cj f1 hn) ?_
   refine hFy (2,keptB d p++(chainD d p.theory).2.1) _ _ _ ?_ ?_ (by simp only[go_sem,push_cast,and_pos,Le_updF]) ((cant))
   ·show 2-2<2-1
    omega
   ·exact⟨by omega,j2,fun h=>absurd h (by simp),fun _=>hc0,fun h=>absurd h (by simp),fun _=>⟨fun h=>absurd hn h,hk.symm⟩⟩
  by_cases hc:(chainD d p.next_).2.2=0
  ·have hk:keptL d p=keptB d p++(chainD d p.theory).2.1++(chainD d p.next_).2.1:=by unfold keptL keptN;rw[if_neg hn]
   refine RA (cj h1 (cj rn (cj hC2 (cj f1 (cj hn hc))))) ?_
   refine hFy (2,keptB d p++(chainD d p.theory).2.1++(chainD d p.next_).2.1) _ _ _ ?_ ?_ (by simp only[go_sem,push_cast,and_pos,Le_updF]) ((cant))
   ·show 2-2<2-1
    omega
   ·refine⟨by omega,?_,fun h=>absurd h (by simp),fun _=>hc0,fun h=>absurd h (by simp),fun _=>⟨fun _=>hc,hk.symm⟩⟩
    show(keptB d p++(chainD d p.theory).2.1++(chainD d p.next_).2.1).length≤20000
    rw[←hk];exact hLL
  ·have e:keptP d p=⟨(chainD d p.next_).2.2,[]⟩:=by unfold keptP;rw[if_neg (by simpa using hc1),if_neg (by simpa using hc2),if_neg (by simpa using hc0),if_pos ⟨hn,hc⟩]
   rw[e]
   exact RA (cj h1 (cj rn (cj hC2 (cj f1 (cj hn hc))))) trivial
 have hc3:=j4 (by omega)
 obtain⟨hc4,rfl⟩:=j6 rfl
 have hsk:=sort_len (keptL d p)
 have hsm:sm (sortI (keptL d p)):=(sm_ints _).2 (by omega)
 have e:keptP d p=if incI (sortI (keptL d p))=true then⟨0,sortI (keptL d p)⟩else⟨6,[]⟩:=by
  unfold keptP
  rw[if_neg (by simpa using hc1),if_neg (by simpa using hc2),if_neg (by simpa using hc3),if_neg (fun h=>h.2 (hc4 h.1))]
 rw[e]
 refine R0 ?_
 refine cv (by kernel_rfl) ?_
 by_cases hi:incI (sortI (keptL d p))=true
 ·refine R (cj hi (cj hsm hsk)) ?_
  exact pub_whole (by simp (disch:=first|assumption|omega) only[go_sem,push_cast,and_pos,Le_updF]) (hb.fresh _ (by omega)) rfl (by first|rfl|exact(sort_len _).symm|simp|omega)
 ·exact R (cj hi (cj hsm hsk)) trivial
def W3:Trans:=fun args H Bd K=>∃(d:GDisk) (p:GSuper),args=[.agg (enc d).toArray, .agg (enc p).toArray]∧((sm d∧sm p)∧K (.bool true) H Bd)
set_option maxHeartbeats 2000000 in
theorem W3_ok:OK 3 W3:=by
 rintro args H Bd K ⟨d,p,rfl,hpre,hK⟩
 refine fnp pok ((((((((((((((Env.base _).add 9 _ W9_ok).add 10 _ W10_ok).add 12 _ P12_ok).add 13 _ O13_ok).add 11 _ K11_ok).add 14 _ Q14_ok).add 15 _ L15_ok).add 16 _ N16_ok).add 17 _ L17_ok).add 18 _ W18_ok).add 19 _ W19_ok).add 20 _ W20_ok).add 21 _ L21_ok) [(8,[0,2,5,1,3,4,6],[⟨0,[],[]⟩,⟨2,[],[]⟩,⟨5,[],[]⟩,⟨1,[],[2]⟩,⟨3,[],[]⟩,⟨4,[],[]⟩,⟨6,[5],[]⟩], .nil),(14,[0,1,2,3,4],[⟨0,[],[]⟩,⟨1,[],[]⟩,⟨2,[],[0]⟩,⟨3,[],[]⟩,⟨4,[],[]⟩], .nil),(16,[0,1,2,3,4],[⟨0,[],[]⟩,⟨1,[],[]⟩,⟨2,[],[0]⟩,⟨3,[],[]⟩,⟨4,[],[]⟩], .nil),(21,[],[],(.k 3 (.grp false 58 62 4 [59,60,61,62] 63 none (.k 4 .nil) .nil))),(31,[0,2,5,1,3,4,6],[⟨0,[],[]⟩,⟨2,[],[]⟩,⟨5,[],[]⟩,⟨1,[],[2]⟩,⟨3,[],[]⟩,⟨4,[],[]⟩,⟨6,[5],[]⟩], .nil)] hK Tryz.func3 Tryz.ntmps3 Tryz.call3 [.tmp 4] fun hb ha=> ?_
 obtain⟨h0,h1⟩:=hpre
 have z0:=szP_or (tot d) (1048576)
 have y0:=szP_ub (tot d) (left:=1048576) (by omega)
 have z1:=szP_or (tot p) (szP (tot d) (1048576))
 have y1:=szP_ub (tot p) (left:=szP (tot d) (1048576)) (by omega)
 by_cases q0:szP (tot d) 1048576<0
 ·exact R (cj h0 (cj h1 q0)) trivial
 by_cases q1:szP (tot p) (szP (tot d) 1048576)<0
 ·exact R (cj h0 (cj h1 (cj q0 q1))) trivial
 have t0:tot d≤1048576:=by omega
 have t1:tot p≤1048576:=by omega
 have hfr:∀n,Bd≤n→H n=none:=fun n hn=>hb.fresh n hn
 have k0:=keptR_sm d p
 have k1:=keptR_len d p
 refine R (cj h0 (cj h1 (cj q0 (cj q1 (cj t0 (cj t1 hfr)))))) ?_
 have hif:∀(p:Prop) [Decidable p] (x y:Option Blk),¬p→(if p then x else y)=y:=fun p _ x y h=>if_neg h
 have hip:∀(p:Prop) [Decidable p] (x y:Option Blk),p→(if p then x else y)=x:=fun p _ x y h=>if_pos h
 have hG:∀m c,upd (upd H Bd (some ⟨[lst d.sectors,lst d.pending],true⟩)) (Bd+1) (some ⟨[.int .i64 p.gen, .int .i64 p.root, .int .i64 p.shadow, .int .i64 p.theory, .int .i64 p.next_, .int .i64 p.version, .bool p.moving,lst p.cursor,lst p.symbols.symbols],true⟩) m=some c→m<Bd+2:=names_upd (names_upd (fun m c hm=>by have:=hb_in hb hm;omega) (by omega)) (by omega)
 refine held ⟨[.agg (enc d).toArray, .agg (enc p).toArray],_,Bd+2,?_,?_,hG,?_⟩
 ·refine pubc_cons (pub_as (Has_pubB (x:=d) (n:=Bd+2+7) ?_ ?_) ?_) (pubc_cons (pub_as (Has_pubB (x:=p) (n:=Bd+2+7+OV.numL (OEnc.oc d)) ?_ ?_) ?_) pubc_nil)
  all_goals first|omega|(simp (disch:=first|assumption|omega) only[go_sem,push_cast,and_pos,Le_updF,Nat.add_assoc,hif,hip,upd_same];done)|skip
 ·simp (disch:=first|assumption|omega) only[Le_hi hG,Le_hiO hG,Le_rfl]
 simp (maxSteps:=2000000) (disch:=first|assumption|(refine asm_intro ?_;assumption)|exact Nat.le_add_right _ _|exact Nat.le_refl _|omega|(simp (disch:=first|exact Nat.le_add_right _ _|omega) only[Le_upd hb,Le_app hb,Le_rfl,free_T hb,free_upd];done)|fail) only[go_sem,push_cast,and_pos,Le_updF,Le_upd hb,free_T hb,hif,hip,h0,h1,hfr]
 refine held ⟨[.agg (enc d).toArray, .agg (enc p).toArray],?_,?_⟩
 ·refine pubc_cons (pub_as (Has_pubX (x:=d) (n:=Bd+2+7+OV.numL (OEnc.oc d)+OV.numL (OEnc.oc p)) ?_) ?_) (pubc_cons (pub_as (Has_pubX (x:=p) (n:=Bd+2+7+OV.numL (OEnc.oc d)+OV.numL (OEnc.oc p)+OV.numL (OEnc.oc d)+1) ?_) ?_) pubc_nil)
  all_goals first|omega|(simp (disch:=first|assumption|omega) only[go_sem,push_cast,and_pos,Le_updF,Nat.add_assoc,hif,hip,upd_same];done)|skip
 simp (maxSteps:=2000000) (disch:=first|assumption|(refine asm_intro ?_;assumption)|exact Nat.le_add_right _ _|exact Nat.le_refl _|omega|(simp (disch:=first|exact Nat.le_add_right _ _|omega) only[Le_upd hb,Le_app hb,Le_rfl,free_T hb,free_upd];done)|fail) only[go_sem,push_cast,and_pos,Le_updF,Le_upd hb,free_T hb,hif,hip,h0,h1,hfr,k0]
 refine held ⟨[.agg (enc d).toArray, .agg (enc d).toArray],?_,?_⟩
 ·refine pubc_cons (pub_as (Has_pubX (x:=d) (n:=Bd+2+7+OV.numL (OEnc.oc d)+OV.numL (OEnc.oc p)) ?_) ?_) (pubc_cons (pub_as (Has_pubX (x:=d) (n:=Bd+2+7+OV.numL (OEnc.oc d)+OV.numL (OEnc.oc p)+OV.numL (OEnc.oc d)+1+5+5) ?_) ?_) pubc_nil)
  all_goals first|omega|(simp (disch:=first|assumption|omega) only[go_sem,push_cast,and_pos,Le_updF,Nat.add_assoc,hif,hip,upd_same];done)|skip
 simp (maxSteps:=2000000) (disch:=first|assumption|(refine asm_intro ?_;assumption)|exact Nat.le_add_right _ _|exact Nat.le_refl _|omega|(simp (disch:=first|exact Nat.le_add_right _ _|omega) only[Le_upd hb,Le_app hb,Le_rfl,free_T hb,free_upd];done)|fail) only[go_sem,push_cast,and_pos,Le_updF,Le_upd hb,free_T hb,hif,hip,h0,h1,hfr,k0]
 have c0:=cntD_bytes d.sectors
 have c1:=cntD_puts d.pending
 have c2:tot d=tot d.sectors+tot d.pending:=by simp[tot_GDisk]
 have c3:=sm_len h1.2.2.2.2.2.2.2.1
 have c4:=sm_len h1.2.2.2.2.2.2.2.2
 refine held ⟨d,Bd+2+7+(OV.numL (OEnc.oc d.sectors)+OV.numL (OEnc.oc d.pending))+2,1,rfl,⟨?_,h0,by omega,by omega⟩,?_⟩
 ·simp (disch:=first|assumption|omega) only[go_sem,push_cast,and_pos,Le_updF,Nat.add_assoc,hif,hip,upd_same]
 have e0:OV.numL (OEnc.oc (mkDL 1 d.sectors))=OV.numL (OEnc.oc d.sectors):=mkD_num _ _
 have e1:OV.numL (OEnc.oc (mkDL (1+(cntD d.sectors:Nat)) d.pending))=OV.numL (OEnc.oc d.pending):=mkD_num _ _
 have g3:sm (mkL Int 1 (keptR d p).list.length):=mkL_sm 1 (by omega)
 have g4:sm (⟨(keptR d p).code,mkL Int 1 (keptR d p).list.length⟩:GIntsResult):=⟨trivial,g3⟩
 simp (maxSteps:=2000000) (disch:=first|assumption|(refine asm_intro ?_;assumption)|exact Nat.le_add_right _ _|exact Nat.le_refl _|omega|(simp (disch:=first|exact Nat.le_add_right _ _|omega) only[Le_upd hb,Le_app hb,Le_rfl,free_T hb,free_upd];done)|fail) only[go_sem,push_cast,and_pos,Le_updF,Le_upd hb,free_T hb,hif,hip,h0,h1,hfr,k0,e0,e1,g4]
 refine held ⟨[.agg (enc d).toArray, .agg (enc p).toArray],?_,?_⟩
 ·refine pubc_cons (pub_as (Has_pubX (x:=d) (n:=Bd+2+7+OV.numL (OEnc.oc d)+OV.numL (OEnc.oc p)+(OV.numL (OEnc.oc d.sectors)+(OV.numL (OEnc.oc d.pending)+1))+5+5+OV.numL (OEnc.oc d)+5+OV.numL (OEnc.oc p)+7) ?_) ?_) (pubc_cons (pub_as (Has_pubX (x:=p) (n:=Bd+2+7+OV.numL (OEnc.oc d)+OV.numL (OEnc.oc p)+(OV.numL (OEnc.oc d.sectors)+(OV.numL (OEnc.oc d.pending)+1))+5+5+OV.numL (OEnc.oc d)+5+OV.numL (OEnc.oc p)+7+OV.numL (OEnc.oc d)) ?_) ?_) pubc_nil)
  all_goals first|omega|(simp (disch:=first|assumption|omega) only[go_sem,push_cast,and_pos,Le_updF,Nat.add_assoc,hif,hip,upd_same];done)|skip
 have hn0:∀m c,H m=some c→m<Bd:=fun m c hm=>hb_in hb hm
 simp (maxSteps:=2000000) (disch:=first|assumption|(refine asm_intro ?_;assumption)|exact Nat.le_add_right _ _|exact Nat.le_refl _|omega|(simp (disch:=first|exact Nat.le_add_right _ _|omega) only[Le_upd hb,Le_app hb,Le_rfl,free_T hb,free_upd];done)|fail) only[go_sem,push_cast,and_pos,Le_updF,Le_upd hb,free_T hb,hif,hip,h0,h1,hfr,k0,e0,e1,g4,Le_hi hn0,Le_hiO hn0,Le_rfl]
 exact⟨fun h=>by omega,fun _=>by first|trivial|exact⟨trivial,rfl⟩|exact .same _⟩
end Go.Proofs.YthoahlghegcfnaaGreatDoor
