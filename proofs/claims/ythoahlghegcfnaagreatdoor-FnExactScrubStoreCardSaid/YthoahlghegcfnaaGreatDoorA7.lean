/- YthoahlghegcfnaaGreatDoorA7 -/
import Derived.Test.YthoahlghegcfnaaGreatDoorA6
set_option linter.unusedSimpArgs false
set_option linter.unusedVariables false
set_option maxRecDepth 20000
namespace Go.Proofs.YthoahlghegcfnaaGreatDoor
open Go Go.SC
variable {H:AH} {Bd:Nat} {K:Value→AH→Nat→Prop}
def W329:Trans:=fun args H Bd K=>∃(l:List GEquation),args=[lst l]∧((PkE l)∧K (lst (packE l)) H Bd)
@[go_sem ↓] theorem W329_eq (l:List GEquation):W329 [lst l] H Bd K=((PkE l)∧K (lst (packE l)) H Bd):=ex1 l rfl
theorem W329_ok:OK 329 W329:=by
 rintro args H Bd K ⟨l,rfl,hpre,hK⟩
 refine fnp pok ((Env.base _).add 359 _ W359_ok) [(5,[0,1,2,5,6,3,4,7,8,9],[⟨0,[],[]⟩,⟨1,[],[]⟩,⟨2,[],[]⟩,⟨5,[],[]⟩,⟨6,[],[]⟩,⟨3,[],[6]⟩,⟨4,[],[6]⟩,⟨7,[],[]⟩,⟨8,[],[]⟩,⟨9,[],[]⟩], .nil)] hK Tryz.func329 Tryz.ntmps329 Tryz.call329 [.tmp 2] fun hb ha=> ?_
 refine withC pok fun cv=> ?_
 have hl:=hpre.1
 refine RA0 ?_
 refine tr_own (X:=Nat) hb (by omega) 1 [.s 3] rfl (fun x=>x≤l.length) (fun x=>l.length-x) (fun Nx x=>[(3, .slice (some ⟨Nx,0,some 1⟩) (accE l x).length ((accE l x).length+1)),(10,lst l),(11, .int .i64 (l.length:Int)),(12, .int .i64 x)]) (fun Nx x=>[(Nx,⟨flat (accE l x),true⟩)]) 0 (Nat.zero_le _) (fun Nx hNx=>(by simp (disch:=first|assumption|omega|(simp (disch:=omega) only[free_upd,free_T hb];done)|(simp (disch:=first|omega|(simp (disch:=omega) only[free_upd,free_T hb];done)) only[go_sem,push_cast,and_pos,Le_updF,free_upd,free_T hb];done)|fail) only[go_sem,push_cast,and_pos,Le_updF,Le_rfl,Le_upd hb,free_upd,free_T hb,flat_nil,flat_append,flat_one,enc_int,enc_list,enc_byte,enc_str,enc_bool,List.append_assoc,List.length_append,List.length_cons,List.length_nil,Nat.zero_add,accE_zero,u8_flat,List.length_singleton];all_goals (try simp only[Value.int.injEq,Value.slice.injEq,true_and,and_true]) <;>all_goals (try(first|trivial|omega|grind)))) ?_
 intro Nx x hNx hIx hbx Fx hFx
 simp only[mem_cons,mem_nil]at hbx ⊢
 refine cv (by kernel_rfl) ?_
 by_cases hlt:x<l.length
 ·have e1:l[x]? =some (l[x]'hlt):=List.getElem?_eq_getElem _
  have hal:=accE_len hpre x hIx
  obtain⟨h1,h2⟩:=hpre.2 _ (List.getElem_mem hlt)
  have hst:accE l (x+1)=accE l x++packT (l[x]'hlt).left++packT (l[x]'hlt).right:=by rw[accE_succ e1,List.append_assoc];rfl
  generalize hE:(l[x]'hlt)=E at*
  obtain⟨h3,h4,h5⟩:=h1.sm
  obtain⟨h6,h7,h8⟩:=h2.sm
  have h9:=h1.1
  have h10:=h2.1
  have htk:List.take ((accE l x).length+E.left.length) (flat (accE l x)++flat (packT E.left))=flat (accE l x)++flat (packT E.left):=List.take_of_length_le (by rw[List.length_append,flat_len,flat_len,packT_len];show _*1+_*1≤_;omega)
  refine RL (cj htk (cj e1 (cj hE (cj hlt (cj h3 (cj h4 (cj h5 (cj h6 (cj h7 (cj h8 packT_len)))))))))) ?_
  refine hFx (x+1) _ _ _ ?_ ?_ (by simp only[go_sem,push_cast,and_pos,Le_updF]) ((by simp (disch:=first|assumption|omega|(simp (disch:=omega) only[free_upd,free_T hb];done)|(simp (disch:=first|omega|(simp (disch:=omega) only[free_upd,free_T hb];done)) only[go_sem,push_cast,and_pos,Le_updF,free_upd,free_T hb];done)|fail) only[go_sem,push_cast,and_pos,Le_updF,Le_rfl,Le_upd hb,free_upd,free_T hb,flat_nil,flat_append,flat_one,enc_int,enc_list,enc_byte,enc_str,enc_bool,List.append_assoc,List.length_append,List.length_cons,List.length_nil,Nat.zero_add,hst,packT_len];all_goals (try simp only[Value.int.injEq,Value.slice.injEq,true_and,and_true]) <;>all_goals (try(first|trivial|omega|grind))))
  ·show l.length-(x+1)<l.length-x
   omega
  ·exact hlt
 ·obtain rfl:x=l.length:=by omega
  have hal:=accE_len hpre l.length (Nat.le_refl _)
  refine R0 ?_
  refine cv (by kernel_rfl) ?_
  refine R0 ?_
  rw[←accE_all]
  exact pub_whole (by simp (disch:=first|assumption|omega) only[go_sem,push_cast,and_pos,Le_updF]) (hb.fresh _ (by omega)) rfl (by first|rfl|exact(sort_len _).symm|simp|omega)
def W293:Trans:=fun args H Bd K=>∃(t:GTheory),args=[.agg (enc t).toArray]∧((PkTh t)∧K (lst (packTh t)) H Bd)
@[go_sem ↓] theorem W293_eq (t_order:List Int) (t_equations:List GEquation) (t_rules:List GEquation):W293 [.agg #[lst t_order,lst t_equations,lst t_rules]] H Bd K=((PkTh (GTheory.mk t_order t_equations t_rules))∧K (lst (packTh (GTheory.mk t_order t_equations t_rules))) H Bd):=ex1 (GTheory.mk t_order t_equations t_rules) rfl
set_option maxHeartbeats 2000000 in
theorem W293_ok:OK 293 W293:=by
 rintro args H Bd K ⟨t,rfl,hpre,hK⟩
 refine fnp pok ((Env.base _).add 329 _ W329_ok) [(7,[0,1,2,5,6,3,4,7,8,9],[⟨0,[],[]⟩,⟨1,[],[]⟩,⟨2,[],[]⟩,⟨5,[],[]⟩,⟨6,[],[]⟩,⟨3,[],[6]⟩,⟨4,[],[6]⟩,⟨7,[],[]⟩,⟨8,[],[]⟩,⟨9,[],[]⟩], .nil)] hK Tryz.func293 Tryz.ntmps293 Tryz.call293 [.tmp 2] fun hb ha=> ?_
 refine withC pok fun cv=> ?_
 obtain⟨hl,hE,hR⟩:=hpre
 have lE:=packE_le hE
 have lR:=packE_le hR
 refine RA0 ?_
 refine tr_own (X:=Nat) hb (by omega) 1 [.s 3] rfl (fun x=>x≤t.order.length) (fun x=>t.order.length-x) (fun Nx x=>[(1, .pointer (some ⟨Bd,0,none⟩)),(3, .slice (some ⟨Nx,0,some 1⟩) (packO (t.order.take x)).length ((packO (t.order.take x)).length+1)),(8,lst t.order),(9, .int .i64 (t.order.length:Int)),(10, .int .i64 x)]) (fun Nx x=>[(Bd,⟨[lst t.order,lst t.equations,lst t.rules],true⟩),(Nx,⟨flat (packO (t.order.take x)),true⟩)]) 0 (Nat.zero_le _) (fun Nx hNx=>(canf (show packO []=[]from rfl))) ?_
 intro Nx x hNx hIx hbx Fx hFx
 simp only[mem_cons,mem_nil]at hbx ⊢
 refine cv (by kernel_rfl) ?_
 by_cases hlt:x<t.order.length
 ·have e1:t.order[x]? =some (t.order[x]'hlt):=List.getElem?_eq_getElem _
  have hst:=packO_succ hlt
  have hxl:(packO (t.order.take x)).length=x:=by rw[packO_len,List.length_take];omega
  refine RA (cj e1 hlt) ?_
  refine hFx (x+1) _ _ _ ?_ ?_ (by simp only[go_sem,push_cast,and_pos,Le_updF]) ((by simp (disch:=first|assumption|omega|(simp (disch:=omega) only[free_upd,free_T hb];done)|(simp (disch:=first|omega|(simp (disch:=omega) only[free_upd,free_T hb];done)) only[go_sem,push_cast,and_pos,Le_updF,free_upd,free_T hb];done)|fail) only[go_sem,push_cast,and_pos,Le_updF,Le_rfl,Le_upd hb,free_upd,free_T hb,flat_nil,flat_append,flat_one,enc_int,enc_list,enc_byte,enc_str,enc_bool,List.append_assoc,List.length_append,List.length_cons,List.length_nil,Nat.zero_add,hst,u8z_int];all_goals (try simp only[Value.int.injEq,Value.slice.injEq,true_and,and_true]) <;>all_goals (try(first|trivial|omega|grind))))
  ·show t.order.length-(x+1)<t.order.length-x
   omega
  ·exact hlt
 ·obtain rfl:x=t.order.length:=by omega
  rw[packO_take]
  have hxl:=packO_len t.order
  have htk:List.take (t.order.length+(packE t.equations).length) (flat (packO t.order)++flat (packE t.equations))=flat (packO t.order)++flat (packE t.equations):=List.take_of_length_le (by rw[List.length_append,flat_len,flat_len,hxl];show _*1+_*1≤_;omega)
  have hP:flat (packO t.order)++flat (packE t.equations)++flat (packE t.rules)=flat (packTh t):=by
   unfold packTh
   simp only[flat_append,List.append_assoc]
  have hPL:t.order.length+(packE t.equations).length+(packE t.rules).length=(packTh t).length:=by unfold packTh;rw[List.length_append,List.length_append,hxl];omega
  refine R0 ?_
  refine cv (by kernel_rfl) ?_
  refine RL (cj hE (cj hR (cj hxl (cj htk hP)))) ?_
  exact pub_whole (by simp (disch:=first|assumption|omega) only[go_sem,push_cast,and_pos,Le_updF,flat_append,flat_one,enc_int,enc_list,enc_byte,enc_str,enc_bool,List.append_assoc,List.cons_append,List.nil_append]) (hb.fresh _ (by omega)) rfl (hPL)
def W217:Trans:=fun args H Bd K=>∃(s:GSignature) (t:GTheory),args=[.agg (enc s).toArray, .agg (enc t).toArray]∧((sm s∧sm t∧rg t)∧K (.agg (enc (packR s t)).toArray) H Bd)
@[go_sem ↓] theorem W217_eq (s_symbols:List GSymbol) (t_order:List Int) (t_equations:List GEquation) (t_rules:List GEquation):W217 [.agg #[lst s_symbols], .agg #[lst t_order,lst t_equations,lst t_rules]] H Bd K=((sm (GSignature.mk s_symbols)∧sm (GTheory.mk t_order t_equations t_rules)∧rg (GTheory.mk t_order t_equations t_rules))∧K (.agg (enc (packR (GSignature.mk s_symbols) (GTheory.mk t_order t_equations t_rules))).toArray) H Bd):=ex2 (GSignature.mk s_symbols) (GTheory.mk t_order t_equations t_rules) rfl
theorem W217_ok:OK 217 W217:=by
 rintro args H Bd K ⟨s,t,rfl,hpre,hK⟩
 refine fnp pok (((Env.base _).add 292 _ W292_ok).add 293 _ W293_ok) [] hK Tryz.func217 Tryz.ntmps217 Tryz.call217 [.cell 4 308] fun hb ha=> ?_
 obtain⟨h1,h2,h3⟩:=hpre
 by_cases hf:thF s t=0
 case neg=>
  have e:packR s t=⟨thF s t,[]⟩:=by unfold packR;rw[if_pos hf]
  rw[e]
  exact R (cj h1 (cj h2 (cj h3 hf))) trivial
 obtain⟨hs,hg⟩:=thF_zero hf
 have hp:=th_pk (sig_ok hs) hg
 by_cases hl:300<(packTh t).length
 ·have e:packR s t=⟨2,[]⟩:=by unfold packR;rw[if_neg (by simpa using hf),if_pos hl]
  rw[e]
  exact R (cj h1 (cj h2 (cj h3 (cj hf (cj hp hl))))) trivial
 ·have e:packR s t=⟨0,packTh t⟩:=by unfold packR;rw[if_neg (by simpa using hf),if_neg hl]
  rw[e]
  exact R (cj h1 (cj h2 (cj h3 (cj hf (cj hp hl))))) trivial
def W150:Trans:=fun args H Bd K=>∃(s:GSignature) (data:List UInt8),args=[.agg (enc s).toArray,lst data]∧((sm s∧data.length≤1000000)∧K (.agg (enc (unpR s data)).toArray) H Bd)
@[go_sem ↓] theorem W150_eq (s_symbols:List GSymbol) (data:List UInt8):W150 [.agg #[lst s_symbols],lst data] H Bd K=((sm (GSignature.mk s_symbols)∧data.length≤1000000)∧K (.agg (enc (unpR (GSignature.mk s_symbols) data)).toArray) H Bd):=ex2 (GSignature.mk s_symbols) data rfl
set_option maxHeartbeats 2000000 in
theorem W150_ok:OK 150 W150:=by
 rintro args H Bd K ⟨s,data,rfl,hpre,hK⟩
 refine fnp pok (((((((Env.base _).add 76 _ W76_ok).add 215 _ W215_ok).add 216 _ W216_ok).add 218 _ W218_ok).add 217 _ W217_ok).add 219 _ W219_ok) [(8,[0,1,2,3,4,5,6,7],[⟨0,[],[]⟩,⟨1,[],[]⟩,⟨2,[],[]⟩,⟨3,[],[1]⟩,⟨4,[],[]⟩,⟨5,[4],[]⟩,⟨6,[],[]⟩,⟨7,[4],[]⟩], .nil),(13,[],[],(.k 4 (.grp false 46 49 3 [47,48,49] 50 none (.k 3 .nil) (.k 1 (.grp false 51 56 5 [52,53,54,55,56] 57 none (.k 5 .nil) .nil)))))] hK Tryz.func150 Tryz.ntmps150 Tryz.call150 [.cell 4 219] fun hb ha=> ?_
 refine withC pok fun cv=> ?_
 obtain⟨h1,h3⟩:=hpre
 by_cases h2:sigF s=0
 case neg=>
  have e:unpR s data=⟨sigF s,noTh⟩:=by unfold unpR;rw[if_pos h2]
  rw[e];unfold noTh
  exact R (cj h1 h2) trivial
 have hs:=sig_ok h2
 have hsl:=hs.len
 refine R (cj h1 h2) ?_
 refine tr_own (X:=Nat×List Int×List UInt8×Bool) hb (by omega) 1 [.m (Bd+3) 0] rfl (fun x=>x.1≤s.symbols.length∧ordQ x.1 (data,false)=(x.2.1,x.2.2)) (fun x=>s.symbols.length-x.1) (fun Nx x=>[(1,lst data),(2, .pointer (some ⟨Bd,0,none⟩)),(4, .pointer (some ⟨Bd+1,0,none⟩)),(6, .pointer (some ⟨Bd+2,0,none⟩)),(7, .pointer (some ⟨Bd+3,0,none⟩)),(21, .int .i64 (s.symbols.length:Int)),(22, .int .i64 x.1)]) (fun Nx x=>[(Bd,⟨[lst s.symbols],true⟩),(Bd+1,⟨[.int .i64 0, .slice none 0 0, .slice none 0 0, .slice none 0 0],true⟩),(Bd+2,⟨[lst x.2.2.1, .bool x.2.2.2],true⟩),(Bd+3,⟨[.slice (some ⟨Nx,0,some 1⟩) x.2.1.length (x.2.1.length+1), .slice none 0 0, .slice none 0 0],true⟩),(Nx,⟨flat x.2.1,true⟩)]) (0,[],data,false) (⟨Nat.zero_le _,rfl⟩) (fun Nx hNx=>(cant)) ?_
 intro Nx x hNx hIx hbx Fx hFx
 simp only[mem_cons,mem_nil]at hbx ⊢
 refine cv (by kernel_rfl) ?_
 obtain⟨i,out,rest,f⟩:=x
 obtain⟨i1,i2⟩:=hIx
 simp only at i1 i2
 obtain⟨l1,l2,l3⟩:=ordQ_le i (data,false)
 rw[i2]at l1 l2 l3
 simp only at l1 l2 l3
 have hrl:rest.length≤1000000:=Nat.le_trans l2 h3
 by_cases hlt:i<s.symbols.length
 ·have ho:=oneV_bd (rest,f)
  have hst:=ordQ_succ i (data,false)
  rw[i2]at hst
  refine RA (cj hlt hrl) ?_
  refine hFx (i+1,out++[oneV (rest,f)],tkS (rest,f) 1) _ _ _ ?_ ?_ (by simp only[go_sem,push_cast,and_pos,Le_updF]) ((cant))
  ·show s.symbols.length-(i+1)<s.symbols.length-i
   omega
  ·exact⟨hlt,hst⟩
 ·obtain rfl:i=s.symbols.length:=by omega
  refine R0 ?_
  refine Tr.to hb (by omega) 0 [] rfl (fun Nk=>[(1,lst data),(2, .pointer (some ⟨Bd,0,none⟩)),(4, .pointer (some ⟨Bd+1,0,none⟩)),(6, .pointer (some ⟨Bd+2,0,none⟩)),(7, .pointer (some ⟨Bd+3,0,none⟩))]) (fun Nk=>[(Bd,⟨[lst s.symbols],true⟩),(Bd+1,⟨[.int .i64 0, .slice none 0 0, .slice none 0 0, .slice none 0 0],true⟩),(Bd+2,⟨[lst rest, .bool f],true⟩),(Bd+3,⟨[lst out, .slice none 0 0, .slice none 0 0],true⟩)]) (fun Nk hNk=>(cant)) ?_
  intro Nk hNk hbk
  simp only[mem_cons,mem_nil]at hbk ⊢
  refine cv (by kernel_rfl) ?_
  have hQ:uqO s data=(out,(rest,f)):=i2
  obtain⟨a1,a2,a3⟩:=eqR_sm s (rest,f)
  rcases hE:eqR s (rest,f)with⟨E,r1,f1⟩
  rw[hE]at a1 a2 a3
  simp only at a1 a2 a3
  have hr1:r1.length≤1000000:=Nat.le_trans a3 hrl
  obtain⟨b1,b2,b3⟩:=eqR_sm s (r1,f1)
  rcases hL:eqR s (r1,f1)with⟨L,r2,f2⟩
  rw[hL]at b1 b2 b3
  simp only at b1 b2 b3
  have hr2:r2.length≤1000000:=Nat.le_trans b3 hr1
  have hUE:uqE s data=(E,(r1,f1)):=by unfold uqE;rw[hQ];exact hE
  have hUL:uqR s data=(L,(r2,f2)):=by unfold uqR;rw[hUE];exact hL
  have hX:rTh s data=⟨out,E,L⟩:=by unfold rTh;rw[hQ,hUE,hUL]
  obtain⟨c1,c2⟩:=smE_sm a1 (by omega)
  obtain⟨d1,d2⟩:=smE_sm b1 (by omega)
  have hsX:sm (⟨out,E,L⟩:GTheory):=⟨(sm_ints _).2 (by rw[l1];omega),c1,d1⟩
  have hro:rg out:=fun n hn=>by
   have h9:=l3 n hn
   exact⟨by omega,by omega⟩
  have hrX:rg (⟨out,E,L⟩:GTheory):=⟨hro,c2,d2⟩
  rcases unp_cases h2 hX (by rw[hUL])with⟨u1,u2,u3⟩|⟨u1,u2⟩
  ·rw[u1]
   exact R (cj h1 (cj h2 (cj hrl (cj hE (cj hr1 (cj hL (cj hr2 (cj hsX (cj hrX (cj u2 u3)))))))))) trivial
  ·rw[u1];unfold noTh
   rcases u2 with u2|⟨u2,u3⟩|⟨u2,l,u3,u4⟩
   ·exact R (cj h1 (cj h2 (cj hrl (cj hE (cj hr1 (cj hL (cj hr2 (cj hsX (cj hrX u2))))))))) trivial
   ·exact R (cj h1 (cj h2 (cj hrl (cj hE (cj hr1 (cj hL (cj hr2 (cj hsX (cj hrX (cj u2 u3)))))))))) trivial
   ·exact R (cj h1 (cj h2 (cj hrl (cj hE (cj hr1 (cj hL (cj hr2 (cj hsX (cj hrX (cj u2 (cj u3 u4))))))))))) trivial
def W85:Trans:=fun args H Bd K=>∃(d:GDisk),args=[.agg (enc d).toArray]∧((sm d)∧K (.agg (enc (baseR d)).toArray) H Bd)
@[go_sem ↓] theorem W85_eq (d_sectors:List (List UInt8)) (d_pending:List GPut):W85 [.agg #[lst d_sectors,lst d_pending]] H Bd K=((sm (GDisk.mk d_sectors d_pending))∧K (.agg (enc (baseR (GDisk.mk d_sectors d_pending))).toArray) H Bd):=ex1 (GDisk.mk d_sectors d_pending) rfl
set_option maxHeartbeats 2000000 in
theorem W85_ok:OK 85 W85:=by
 rintro args H Bd K ⟨d,rfl,hpre,hK⟩
 refine fnp pok (((((Env.base _).add 149 _ W149_ok).add 14 _ W14_ok).add 59 _ W59_ok).add 150 _ W150_ok) [(9,[0,1,2,3,4,8,5,6,7,9],[⟨0,[],[]⟩,⟨1,[],[]⟩,⟨2,[],[]⟩,⟨3,[],[]⟩,⟨4,[],[]⟩,⟨8,[],[]⟩,⟨5,[],[1]⟩,⟨6,[],[]⟩,⟨7,[],[]⟩,⟨9,[8],[]⟩], .nil),(14,[0,1,2,3,4,8,5,6,7,9],[⟨0,[],[]⟩,⟨1,[],[]⟩,⟨2,[],[]⟩,⟨3,[],[]⟩,⟨4,[],[]⟩,⟨8,[],[]⟩,⟨5,[],[1]⟩,⟨6,[],[]⟩,⟨7,[],[]⟩,⟨9,[8],[]⟩], .nil)] hK Tryz.func85 Tryz.ntmps85 Tryz.call85 [.cell 2 133] fun hb ha=> ?_
 by_cases hd:diskF d=0
 case neg=>
  have e:baseR d=⟨diskF d,noSup,noTh,noTh⟩:=by unfold baseR;rw[if_pos hd]
  have e2:opnR d=⟨diskF d,noSup⟩:=by unfold opnR;rw[if_pos hd]
  rw[e];unfold noSup noTh
  exact R (cj hpre (cj e2 hd)) trivial
 have hB:baseR d=⟨(scrD d).2,(scrD d).1.super,(scrD d).1.theory,(scrD d).1.next_⟩:=by unfold baseR;rw[if_neg (by simpa using hd)]
 have hO:opnR d=⟨(openD d).2,(openD d).1⟩:=by unfold opnR;rw[if_neg (by simpa using hd)]
 have hR:scrD d=if(openD d).2≠0 then(noSt,(openD d).2)
   else if(keptP d (openD d).1).code≠0 then(noSt,(keptP d (openD d).1).code)
   else if(thAt d (openD d).1 (openD d).1.theory).2=false then(noSt,5)
   else if(openD d).1.moving=true∧(thAt d (openD d).1 (openD d).1.next_).2=false then(noSt,5)
   else(⟨(openD d).1,(keptP d (openD d).1).list,(thAt d (openD d).1 (openD d).1.theory).1,if(openD d).1.moving=true then(thAt d (openD d).1 (openD d).1.next_).1 else noTh⟩,0):=rfl
 by_cases q1:(openD d).2=0
 case neg=>
  rw[if_pos q1]at hR
  rw[hB,hR];unfold noSt noSup noTh
  exact R (cj hpre (cj hO q1)) trivial
 rw[if_neg (by simpa using q1)]at hR
 have hsf:=openD_ok q1
 have hS:=super_ok hsf
 generalize hQ:(openD d).1=Q at*
 have hth:=hS.theory
 have hnx:=hS.next_
 have hsg:=hS.sig
 have hsl:=(sig_ok hsg).len
 have hcur:=hS.cur
 have hss:sm Q.symbols:=⟨show Q.symbols.symbols.length≤281474976710656 by omega,fun x hx=>⟨show x.name.size≤281474976710656 by have:=isNm_size ((sig_ok hsg).nm x hx).1;omega,trivial⟩⟩
 have hsQ:sm Q:=⟨trivial,trivial,trivial,trivial,trivial,trivial,trivial,⟨show Q.cursor.length≤281474976710656 by omega,fun _ _=>trivial⟩,hss⟩
 have hK:keptR d Q=keptP d Q:=by unfold keptR;rw[if_neg (by simpa using hd),if_neg (by simpa using hsf)]
 by_cases q2:(keptP d Q).code=0
 case neg=>
  rw[if_pos q2]at hR
  rw[hB,hR];unfold noSt noSup noTh
  exact R (cj hpre (cj hO (cj q1 (cj hQ (cj hsQ (cj hK q2)))))) trivial
 rw[if_neg (by simpa using q2)]at hR
 have hf1:∀a b,H (Bd+a+b)=none:=fun a b=>hb.fresh _ (by omega)
 have hf2:∀a b c,H (Bd+a+b+c)=none:=fun a b c=>hb.fresh _ (by omega)
 have r1:R64 Q.theory:=⟨by omega,by omega⟩
 have r2:R64 Q.next_:=⟨by omega,by omega⟩
 have hc1:=chainD_dlen d Q.theory
 have hc2:=chainD_dlen d Q.next_
 have x1:=chainR_ok (h:=Q.theory) hd
 have x2:=chainR_ok (h:=Q.next_) hd
 by_cases q3:(thAt d Q Q.theory).2=true
 case neg=>
  have q3:(thAt d Q Q.theory).2=false:=by simpa using q3
  have e1:=unpR_no hsg q3
  rw[if_pos q3]at hR
  rw[hB,hR];unfold noSt noSup
  unfold noTh at e1 ⊢
  exact R (cj hpre (cj hO (cj q1 (cj hQ (cj hsQ (cj hK (cj q2 (cj r1 (cj r2 (cj hc1 (cj hc2 (cj x1 (cj x2 (cj hss (cj hsg (cj e1 (cj hf1 hf2))))))))))))))))) trivial
 have e1:unpR Q.symbols (chainD d Q.theory).1=⟨0,(thAt d Q Q.theory).1⟩:=unpR_yes hsg q3
 rw[if_neg (by rw[q3];decide)]at hR
 by_cases q4:Q.moving=true
 ·by_cases q5:(thAt d Q Q.next_).2=true
  ·have e2:unpR Q.symbols (chainD d Q.next_).1=⟨0,(thAt d Q Q.next_).1⟩:=unpR_yes hsg q5
   rw[if_neg (by rw[q5];simp),if_pos q4]at hR
   rw[hB,hR]
   exact R (cj hpre (cj hO (cj q1 (cj hQ (cj hsQ (cj hK (cj q2 (cj r1 (cj r2 (cj hc1 (cj hc2 (cj x1 (cj x2 (cj hss (cj hsg (cj e1 (cj e2 (cj hf1 hf2)))))))))))))))))) trivial
  ·have q5:(thAt d Q Q.next_).2=false:=by simpa using q5
   have e2:=unpR_no hsg q5
   rw[if_pos ⟨q4,q5⟩]at hR
   rw[hB,hR];unfold noSt noSup
   unfold noTh at e2 ⊢
   exact R (cj hpre (cj hO (cj q1 (cj hQ (cj hsQ (cj hK (cj q2 (cj r1 (cj r2 (cj hc1 (cj hc2 (cj x1 (cj x2 (cj hss (cj hsg (cj e1 (cj e2 (cj hf1 hf2)))))))))))))))))) trivial
 ·rw[if_neg (fun h=>q4 h.1),if_neg q4]at hR
  rw[hB,hR];unfold noTh
  exact R (cj hpre (cj hO (cj q1 (cj hQ (cj hsQ (cj hK (cj q2 (cj r1 (cj r2 (cj hc1 (cj hc2 (cj x1 (cj x2 (cj hss (cj hsg (cj e1 (cj hf1 hf2))))))))))))))))) trivial
def W32:Trans:=fun args H Bd K=>∃(d:GDisk),args=[.agg (enc d).toArray]∧((sm d)∧K (.int .i64 (scrubF d)) H Bd)
@[go_sem ↓] theorem W32_eq (d_sectors:List (List UInt8)) (d_pending:List GPut):W32 [.agg #[lst d_sectors,lst d_pending]] H Bd K=((sm (GDisk.mk d_sectors d_pending))∧K (.int .i64 (scrubF (GDisk.mk d_sectors d_pending))) H Bd):=ex1 (GDisk.mk d_sectors d_pending) rfl
theorem W32_ok:OK 32 W32:=by
 rintro args H Bd K ⟨d,rfl,hpre,hK⟩
 refine fnp pok ((Env.base _).add 85 _ W85_ok) [] hK Tryz.func32 Tryz.ntmps32 Tryz.call32 [.tmp 2] fun hb ha=> ?_
 have e:=baseR_code d
 exact R (cj hpre e) trivial
def W65:Trans:=fun args H Bd K=>∃(xs:List UInt8) (ys:List UInt8),args=[lst xs,lst ys]∧((sm xs)∧K (.bool (decide (xs=ys))) H Bd)
@[go_sem ↓] theorem W65_eq (xs:List UInt8) (ys:List UInt8):W65 [lst xs,lst ys] H Bd K=((sm xs)∧K (.bool (decide (xs=ys))) H Bd):=ex2 xs ys rfl
theorem W65_ok:OK 65 W65:=by
 rintro args H Bd K ⟨xs,ys,rfl,hpre,hK⟩
 refine fnp pok (Env.base _) [(6,[0,1,2,3,4,5,6,7,8],[⟨0,[],[]⟩,⟨1,[],[]⟩,⟨2,[],[]⟩,⟨3,[],[]⟩,⟨4,[],[]⟩,⟨5,[],[]⟩,⟨6,[],[]⟩,⟨7,[],[]⟩,⟨8,[],[]⟩], .nil)] hK Tryz.func65 Tryz.ntmps65 Tryz.call65 [.tmp 4] fun hb ha=> ?_
 refine withC pok fun cv=> ?_
 have hlen:=sm_len hpre
 simp (maxSteps:=2000000) (disch:=first|assumption|(refine asm_intro ?_;assumption)|exact Nat.le_add_right _ _|exact Nat.le_refl _|omega|(simp (disch:=first|exact Nat.le_add_right _ _|omega) only[Le_upd hb,Le_app hb,Le_rfl,free_T hb,free_upd];done)|fail) only[go_sem,push_cast,and_pos,Le_updF,Le_upd hb,free_T hb]
 refine Cnp.of (fun hl=> ?_) (fun hl=>cmp_len (by omega))
 have hl':xs.length=ys.length:=by omega
 refine tr_for (fun i=>∀j,j<i→xs[j]? =ys[j]?) xs.length (fun i=>[(0,lst xs),(1,lst ys),(5, .int .i64 i)]) (fun j h=>by omega) (by simp only[go_sem,push_cast,and_pos,Le_updF]) ?_
 intro i B0 hI hi hB
 refine cv (by kernel_rfl) ?_
 rcases Nat.lt_or_ge i xs.length with hlt|hge
 ·have e1:xs[i]? =some xs[i]:=List.getElem?_eq_getElem hlt
  have e2:ys[i]? =some (ys[i]'(by omega)):=List.getElem?_eq_getElem _
  have hx:=sm_mem hpre (List.getElem_mem hlt)
  simp (maxSteps:=2000000) (disch:=first|assumption|(refine asm_intro ?_;assumption)|exact Nat.le_add_right _ _|exact Nat.le_refl _|omega|(simp (disch:=first|exact Nat.le_add_right _ _|omega) only[Le_upd hb,Le_app hb,Le_rfl,free_T hb,free_upd];done)|fail) only[go_sem,push_cast,and_pos,Le_updF,Le_upd hb,free_T hb,e1,e2,hx]
  exact cmp_step hl' hI hlt (by omega) rfl fun h=>h
 ·simp (maxSteps:=2000000) (disch:=first|assumption|(refine asm_intro ?_;assumption)|exact Nat.le_add_right _ _|exact Nat.le_refl _|omega|(simp (disch:=first|exact Nat.le_add_right _ _|omega) only[Le_upd hb,Le_app hb,Le_rfl,free_T hb,free_upd];done)|fail) only[go_sem,push_cast,and_pos,Le_updF,Le_upd hb,free_T hb]
  refine cv (by kernel_rfl) ?_
  simp (maxSteps:=2000000) (disch:=first|assumption|(refine asm_intro ?_;assumption)|exact Nat.le_add_right _ _|exact Nat.le_refl _|omega|(simp (disch:=first|exact Nat.le_add_right _ _|omega) only[Le_upd hb,Le_app hb,Le_rfl,free_T hb,free_upd];done)|fail) only[go_sem,push_cast,and_pos,Le_updF,Le_upd hb,free_T hb]
  exact cmp_end hl' hI hge
def W63:Trans:=fun args H Bd K=>∃(xs:List (List UInt8)) (ys:List (List UInt8)),args=[lst xs,lst ys]∧((sm xs)∧K (.bool (decide (xs=ys))) H Bd)
@[go_sem ↓] theorem W63_eq (xs:List (List UInt8)) (ys:List (List UInt8)):W63 [lst xs,lst ys] H Bd K=((sm xs)∧K (.bool (decide (xs=ys))) H Bd):=ex2 xs ys rfl
theorem W63_ok:OK 63 W63:=by
 rintro args H Bd K ⟨xs,ys,rfl,hpre,hK⟩
 refine fnp pok ((Env.base _).add 65 _ W65_ok) [(6,[0,1,2,3,4,5,6,7,8,9],[⟨0,[],[]⟩,⟨1,[],[]⟩,⟨2,[],[]⟩,⟨3,[],[]⟩,⟨4,[],[]⟩,⟨5,[],[]⟩,⟨6,[],[]⟩,⟨7,[],[]⟩,⟨8,[],[]⟩,⟨9,[],[]⟩], .nil)] hK Tryz.func63 Tryz.ntmps63 Tryz.call63 [.tmp 4] fun hb ha=> ?_
 refine withC pok fun cv=> ?_
 have hlen:=sm_len hpre
 simp (maxSteps:=2000000) (disch:=first|assumption|(refine asm_intro ?_;assumption)|exact Nat.le_add_right _ _|exact Nat.le_refl _|omega|(simp (disch:=first|exact Nat.le_add_right _ _|omega) only[Le_upd hb,Le_app hb,Le_rfl,free_T hb,free_upd];done)|fail) only[go_sem,push_cast,and_pos,Le_updF,Le_upd hb,free_T hb]
 refine Cnp.of (fun hl=> ?_) (fun hl=>cmp_len (by omega))
 have hl':xs.length=ys.length:=by omega
 refine tr_for (fun i=>∀j,j<i→xs[j]? =ys[j]?) xs.length (fun i=>[(0,lst xs),(1,lst ys),(5, .int .i64 i)]) (fun j h=>by omega) (by simp only[go_sem,push_cast,and_pos,Le_updF]) ?_
 intro i B0 hI hi hB
 refine cv (by kernel_rfl) ?_
 rcases Nat.lt_or_ge i xs.length with hlt|hge
 ·have e1:xs[i]? =some xs[i]:=List.getElem?_eq_getElem hlt
  have e2:ys[i]? =some (ys[i]'(by omega)):=List.getElem?_eq_getElem _
  have hx:=sm_mem hpre (List.getElem_mem hlt)
  simp (maxSteps:=2000000) (disch:=first|assumption|(refine asm_intro ?_;assumption)|exact Nat.le_add_right _ _|exact Nat.le_refl _|omega|(simp (disch:=first|exact Nat.le_add_right _ _|omega) only[Le_upd hb,Le_app hb,Le_rfl,free_T hb,free_upd];done)|fail) only[go_sem,push_cast,and_pos,Le_updF,Le_upd hb,free_T hb,e1,e2,hx]
  exact cmp_step hl' hI hlt (by omega) rfl fun h=>h
 ·simp (maxSteps:=2000000) (disch:=first|assumption|(refine asm_intro ?_;assumption)|exact Nat.le_add_right _ _|exact Nat.le_refl _|omega|(simp (disch:=first|exact Nat.le_add_right _ _|omega) only[Le_upd hb,Le_app hb,Le_rfl,free_T hb,free_upd];done)|fail) only[go_sem,push_cast,and_pos,Le_updF,Le_upd hb,free_T hb]
  refine cv (by kernel_rfl) ?_
  simp (maxSteps:=2000000) (disch:=first|assumption|(refine asm_intro ?_;assumption)|exact Nat.le_add_right _ _|exact Nat.le_refl _|omega|(simp (disch:=first|exact Nat.le_add_right _ _|omega) only[Le_upd hb,Le_app hb,Le_rfl,free_T hb,free_upd];done)|fail) only[go_sem,push_cast,and_pos,Le_updF,Le_upd hb,free_T hb]
  exact cmp_end hl' hI hge
def W125:Trans:=fun args H Bd K=>∃(x:GPut) (y:GPut),args=[.agg (enc x).toArray, .agg (enc y).toArray]∧((sm x)∧K (.bool (decide (x=y))) H Bd)
@[go_sem ↓] theorem W125_eq (x_sector:Int) (x_bytes:List UInt8) (y_sector:Int) (y_bytes:List UInt8):W125 [.agg #[.int .i64 x_sector,lst x_bytes], .agg #[.int .i64 y_sector,lst y_bytes]] H Bd K=((sm (GPut.mk x_sector x_bytes))∧K (.bool (decide ((GPut.mk x_sector x_bytes)=(GPut.mk y_sector y_bytes)))) H Bd):=ex2 (GPut.mk x_sector x_bytes) (GPut.mk y_sector y_bytes) rfl
theorem W125_ok:OK 125 W125:=by
 rintro args H Bd K ⟨x,y,rfl,hpre,hK⟩
 refine fnp pok ((Env.base _).add 65 _ W65_ok) [] hK Tryz.func125 Tryz.ntmps125 Tryz.call125 [.tmp 4] fun hb ha=> ?_
 simp only[sm_GPut]at hpre
 simp (maxSteps:=2000000) (disch:=first|assumption|(refine asm_intro ?_;assumption)|exact Nat.le_add_right _ _|exact Nat.le_refl _|omega|(simp (disch:=first|exact Nat.le_add_right _ _|omega) only[Le_upd hb,Le_app hb,Le_rfl,free_T hb,free_upd];done)|fail) only[go_sem,push_cast,and_pos,Le_updF,Le_upd hb,free_T hb,hpre]
 cases x;cases y
 simp only[Cnp,GPut.mk.injEq]
 constructor <;>intros <;>simp_all
def W64:Trans:=fun args H Bd K=>∃(xs:List GPut) (ys:List GPut),args=[lst xs,lst ys]∧((sm xs)∧K (.bool (decide (xs=ys))) H Bd)
@[go_sem ↓] theorem W64_eq (xs:List GPut) (ys:List GPut):W64 [lst xs,lst ys] H Bd K=((sm xs)∧K (.bool (decide (xs=ys))) H Bd):=ex2 xs ys rfl
theorem W64_ok:OK 64 W64:=by
 rintro args H Bd K ⟨xs,ys,rfl,hpre,hK⟩
 refine fnp pok ((Env.base _).add 125 _ W125_ok) [(6,[0,1,2,3,4,5,6,7,8,9],[⟨0,[],[]⟩,⟨1,[],[]⟩,⟨2,[],[]⟩,⟨3,[],[]⟩,⟨4,[],[]⟩,⟨5,[],[]⟩,⟨6,[],[]⟩,⟨7,[],[]⟩,⟨8,[],[]⟩,⟨9,[],[]⟩], .nil)] hK Tryz.func64 Tryz.ntmps64 Tryz.call64 [.tmp 4] fun hb ha=> ?_
 refine withC pok fun cv=> ?_
 have hlen:=sm_len hpre
 simp (maxSteps:=2000000) (disch:=first|assumption|(refine asm_intro ?_;assumption)|exact Nat.le_add_right _ _|exact Nat.le_refl _|omega|(simp (disch:=first|exact Nat.le_add_right _ _|omega) only[Le_upd hb,Le_app hb,Le_rfl,free_T hb,free_upd];done)|fail) only[go_sem,push_cast,and_pos,Le_updF,Le_upd hb,free_T hb]
 refine Cnp.of (fun hl=> ?_) (fun hl=>cmp_len (by omega))
 have hl':xs.length=ys.length:=by omega
 refine tr_for (fun i=>∀j,j<i→xs[j]? =ys[j]?) xs.length (fun i=>[(0,lst xs),(1,lst ys),(5, .int .i64 i)]) (fun j h=>by omega) (by simp only[go_sem,push_cast,and_pos,Le_updF]) ?_
 intro i B0 hI hi hB
 refine cv (by kernel_rfl) ?_
 rcases Nat.lt_or_ge i xs.length with hlt|hge
 ·have e1:xs[i]? =some xs[i]:=List.getElem?_eq_getElem hlt
  have e2:ys[i]? =some (ys[i]'(by omega)):=List.getElem?_eq_getElem _
  have hx:=sm_mem hpre (List.getElem_mem hlt)
  simp (maxSteps:=2000000) (disch:=first|assumption|(refine asm_intro ?_;assumption)|exact Nat.le_add_right _ _|exact Nat.le_refl _|omega|(simp (disch:=first|exact Nat.le_add_right _ _|omega) only[Le_upd hb,Le_app hb,Le_rfl,free_T hb,free_upd];done)|fail) only[go_sem,push_cast,and_pos,Le_updF,Le_upd hb,free_T hb,e1,e2,hx]
  exact cmp_step hl' hI hlt (by omega) rfl fun h=>h
 ·simp (maxSteps:=2000000) (disch:=first|assumption|(refine asm_intro ?_;assumption)|exact Nat.le_add_right _ _|exact Nat.le_refl _|omega|(simp (disch:=first|exact Nat.le_add_right _ _|omega) only[Le_upd hb,Le_app hb,Le_rfl,free_T hb,free_upd];done)|fail) only[go_sem,push_cast,and_pos,Le_updF,Le_upd hb,free_T hb]
  refine cv (by kernel_rfl) ?_
  simp (maxSteps:=2000000) (disch:=first|assumption|(refine asm_intro ?_;assumption)|exact Nat.le_add_right _ _|exact Nat.le_refl _|omega|(simp (disch:=first|exact Nat.le_add_right _ _|omega) only[Le_upd hb,Le_app hb,Le_rfl,free_T hb,free_upd];done)|fail) only[go_sem,push_cast,and_pos,Le_updF,Le_upd hb,free_T hb]
  exact cmp_end hl' hI hge
def W16:Trans:=fun args H Bd K=>∃(x:GDisk) (y:GDisk),args=[.agg (enc x).toArray, .agg (enc y).toArray]∧((sm x)∧K (.bool (decide (x=y))) H Bd)
@[go_sem ↓] theorem W16_eq (x_sectors:List (List UInt8)) (x_pending:List GPut) (y_sectors:List (List UInt8)) (y_pending:List GPut):W16 [.agg #[lst x_sectors,lst x_pending], .agg #[lst y_sectors,lst y_pending]] H Bd K=((sm (GDisk.mk x_sectors x_pending))∧K (.bool (decide ((GDisk.mk x_sectors x_pending)=(GDisk.mk y_sectors y_pending)))) H Bd):=ex2 (GDisk.mk x_sectors x_pending) (GDisk.mk y_sectors y_pending) rfl
theorem W16_ok:OK 16 W16:=by
 rintro args H Bd K ⟨x,y,rfl,hpre,hK⟩
 refine fnp pok (((Env.base _).add 63 _ W63_ok).add 64 _ W64_ok) [] hK Tryz.func16 Tryz.ntmps16 Tryz.call16 [.tmp 4] fun hb ha=> ?_
 simp only[sm_GDisk]at hpre
 simp (maxSteps:=2000000) (disch:=first|assumption|(refine asm_intro ?_;assumption)|exact Nat.le_add_right _ _|exact Nat.le_refl _|omega|(simp (disch:=first|exact Nat.le_add_right _ _|omega) only[Le_upd hb,Le_app hb,Le_rfl,free_T hb,free_upd];done)|fail) only[go_sem,push_cast,and_pos,Le_updF,Le_upd hb,free_T hb,hpre]
 cases x;cases y
 simp only[Cnp,GDisk.mk.injEq]
 constructor <;>intros <;>simp_all
def W5:Trans:=fun args H Bd K=>∃(d:GDisk),args=[.agg (enc d).toArray]∧((sm d)∧K (.bool true) H Bd)
theorem W5_ok:OK 5 W5:=by
 rintro args H Bd K ⟨d,rfl,hpre,hK⟩
 refine fnp pok ((((((Env.base _).add 9 _ W9_ok).add 12 _ W12_ok).add 31 _ W31_ok).add 32 _ W32_ok).add 16 _ W16_ok) [(10,[0,1,2,3,4],[⟨0,[],[]⟩,⟨1,[],[]⟩,⟨2,[],[0]⟩,⟨3,[],[]⟩,⟨4,[],[]⟩], .nil)] hK Tryz.func5 Tryz.ntmps5 Tryz.call5 [.tmp 2] fun hb ha=> ?_
 have hpre2:=hpre
 have h0:=hpre
 have z0:=szP_or (tot d) (1048576)
 have y0:=szP_ub (tot d) (left:=1048576) (by omega)
 refine R h0 ?_
 all_goals first|trivial|(simp only[Cnp,Imp];(repeat' (first|apply And.intro|intro _)) <;>first|trivial|omega)
end Go.Proofs.YthoahlghegcfnaaGreatDoor
