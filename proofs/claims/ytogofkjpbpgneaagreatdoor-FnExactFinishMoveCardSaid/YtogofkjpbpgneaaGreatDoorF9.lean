/- YtogofkjpbpgneaaGreatDoorF9 -/
import Derived.Test.YtogofkjpbpgneaaGreatDoorF8
set_option linter.unusedSimpArgs false
set_option linter.unusedVariables false
set_option maxRecDepth 20000
set_option maxHeartbeats 2000000
namespace Go.Proofs.YtogofkjpbpgneaaGreatDoor
open Go Go.SC Tryz
variable {H:AH} {Bd:Nat} {K:Value->AH->Nat->Prop}
@[go_sem ↓] def BW48 (d:GDisk) (p:GSuper):Tq:=fun H Bd K=>((sm d/\sm p/\R64 p.root)/\K (lst (yW (rowsO d p.root) p.cursor)) H Bd)
def W48:qH:=fun g' H Bd K=>∃(d:GDisk) (p:GSuper),g'=[.agg (enc d).toArray, .agg (enc p).toArray]/\BW48 d p H Bd K
@[go_sem ↓] theorem W48_eq (a:List (List UInt8)) (b:List GPut) (c d e f g h:Int) (i:Bool) (j:List UInt8) (k:List GSymbol):W48 [.agg #[lst a,lst b], .agg #[iv c,iv d,iv e,iv f,iv g,iv h, .bool i,lst j,lst k]] H Bd K=BW48 (GDisk.mk a b) (GSuper.mk c d e f g h i j (GSignature.mk k)) H Bd K:=ex2 (GDisk.mk a b) (GSuper.mk c d e f g h i j (GSignature.mk k)) rfl
theorem W48_ok:OK 48 W48:=by
 rintro _ H Bd K ⟨d,p,rfl,hpre,hK⟩
 refine fnp pok ((uA.uB W43_ok).uB W78_ok) [] hK func48 ntmps48 call48 [.tmp 4] fun hb ha=>?_
 obtain⟨h1,h2,h3⟩:=hpre
 obtain⟨k1,k2⟩:=rowsO_sm d p.root
 have k3:=rows_sm k1 k2
 have k4:keep (rowsO d p.root) (fun r=>decide (Lib.compareBytes r.key p.cursor<=0)) (rowsO d p.root).length=yW (rowsO d p.root) p.cursor:=by unfold keep;rw[wH];exact behind_not _ _
 refine R (cj5 h1 h2 h3 k3 k4) ?_
 exact pub_front (qJ _ _ _) (hb.fresh _ (by omega)) rfl rfl
@[go_sem ↓] def BU21 (d:GDisk):Tq:=fun H Bd K=>((sm d)/\K (.agg #[iv ((finR d).code),sv Bd 3 ((finR d).acts).length (((finR d).acts).length+1)]) (oput H Bd (OEnc.oc ((finR d)))) (Bd+OV.numL (OEnc.oc ((finR d)))))
def U21:qH:=fun g' H Bd K=>∃(d:GDisk),g'=[.agg (enc d).toArray]/\BU21 d H Bd K
@[go_sem ↓] theorem U21_eq (a:List (List UInt8)) (b:List GPut):U21 [.agg #[lst a,lst b]] H Bd K=BU21 (GDisk.mk a b) H Bd K:=ex1 (GDisk.mk a b) rfl
theorem U21_ok:OK 21 U21:=by
 rintro _ H Bd K ⟨d,rfl,hpre,hK⟩
 refine fn_ownN pok (((((uA.uB W29_ok).uB W48_ok).uB W30_ok).uB W32_ok).uB T31_ok) [(9,[],[],(.k 4 (.grp false 33 36 3 [34,35,36] 37 none (.k 3 .nil) (.k 1 .nil)))),(12,[0,1,2,3,4,5,6,7],[z0 0,z0 1,z0 2,z0 3,z0 4,⟨5,[],[3]⟩,z0 6,z0 7], .nil),(14,[0,1,3,2,4,5],[z0 0,z0 1,z0 3,⟨2,[],[3]⟩,z0 4,z0 5], .nil)] (.agg (OEnc.oc ((finR d)))) (OEnc.ok _) hK func21 rfl (rs:=[.cell 2 29]) rfl ntmps21 (by simp) call21 (by kernel_rfl) (fun hb ha=>?_)
 clear hK
 have hb0:=hb
 by_cases q:(kM d).code=0
 case neg=>
  have e:finR d=⟨(kM d).code,[]⟩:=by unfold finR;rw[if_pos q]
  rw[e]
  refine R (cj hpre q) ?_
  exact own_ares0 (by simp (disch:=omega) only[go_sem,push_cast,qB,qA,qL hb0,qU])
 have hc:=openS_code d
 obtain⟨hd,hs,hS⟩:=openS_ok (hc.trans q)
 obtain⟨hp,hk⟩:=openS_more (hc.trans q)
 have h2:=disk_ok hd
 rw[hs]at hS
 have hR:finR d=if(kM d).super.moving=false then⟨8,[]⟩else if(yW (rowsI d (kM d).super.root) (kM d).super.cursor)≠[]then⟨2,[]⟩else if 60000<=(kM d).super.gen\/60000<=(kM d).super.version then⟨7,[]⟩else⟨0,actsD (Int.tmod ((kM d).super.gen+1) 2) (kW (nextS (finS (kM d).super)))⟩:=by
  unfold finR;rw[if_neg (by simpa using q)]
 have hcur:=hS.cur
 have hsg:=hS.sig
 have hsl:=(yT hsg).len
 have hrt:=hS.root
 have hgn:=hS.gen
 have hvr:=hS.ver
 have hno:=finS_ok hS
 generalize hQ:(kM d).super=Q at*
 have hss:sm Q.symbols:=⟨show Q.symbols.symbols.length<=281474976710656 by omega,fun x hx=>⟨show x.name.size<=281474976710656 by have:=zQ ((yT hsg).nm x hx).1;omega,trivial⟩⟩
 have hsQ:sm Q:=⟨trivial,trivial,trivial,trivial,trivial,trivial,trivial,⟨show Q.cursor.length<=281474976710656 by omega,fun _ _=>trivial⟩,hss⟩
 have r1:R64 Q.root:=⟨by omega,by omega⟩
 have ro:=rowsO_ok (root:=Q.root) hd
 by_cases q2:Q.moving=true
 case neg=>
  have q2:Q.moving=false:=by simpa using q2
  rw[if_pos q2]at hR
  rw[hR]
  refine R (cj4 hpre q hQ q2) ?_
  exact own_ares0 (by simp (disch:=omega) only[go_sem,push_cast,qB,qA,qL hb0,qU])
 have hsR:sm (⟨Q.gen,Q.root,Q.shadow,Q.theory,Q.next_,Q.version,true,Q.cursor,Q.symbols⟩:GSuper):=hsQ
 have hsl6:Q.symbols.symbols.length<=6:=by omega
 rw[if_neg (by rw[q2];decide)]at hR
 by_cases q4:yW (rowsI d Q.root) Q.cursor=[]
 case neg=>
  rw[if_pos q4]at hR
  have q4':0<(yW (rowsI d Q.root) Q.cursor).length:=List.length_pos_iff.2 q4
  rw[hR]
  refine R (cj8 hpre q hQ q2 r1 hsR ro q4') ?_
  exact own_ares0 (by simp (disch:=omega) only[go_sem,push_cast,qB,qA,qL hb0,qU])
 rw[if_neg (by simpa using q4)]at hR
 have q4':(yW (rowsI d Q.root) Q.cursor).length=0:=by rw[q4];rfl
 by_cases q3:60000<=Q.gen\/60000<=Q.version
 ·rw[if_pos q3]at hR
  rw[hR]
  have q3':Q.gen=60000\/Q.version=60000:=by omega
  refine R (cj9 hpre q hQ q2 r1 hsR ro q4' q3') ?_
  exact own_ares0 (by simp (disch:=omega) only[go_sem,push_cast,qB,qA,qL hb0,qU])
 rw[if_neg q3]at hR
 obtain⟨q5,q6⟩:¬Q.gen=60000/\¬Q.version=60000:=⟨fun h=>q3 (.inl (by omega)),fun h=>q3 (.inr (by omega))⟩
 have h6:=hno q2 q3
 have h7:R64 (Q.gen+1):=⟨by omega,by omega⟩
 have hpt:=eq_true hp
 rw[hR]
 refine R (cj14 hpre q hQ q2 r1 hsR ro q4' q5 q6 h2 hpt hcur hsl6) ?_
 refine toC (args':=[pt (Bd+5+8+6), .agg #[iv Q.gen,iv Q.shadow,iv 0,iv Q.next_,iv 0,iv (Q.version+1), .bool false,lst ([]:List UInt8),lst Q.symbols.symbols]]) hb (by omega) 0 [] rfl [(Bd,⟨[lst d.sectors,lst d.pending],true⟩),(Bd+1,⟨[iv 0,sn],true⟩),(Bd+2,⟨[iv 0,iv Q.gen,iv Q.root,iv Q.shadow,iv Q.theory,iv Q.next_,iv Q.version, .bool true,lst Q.cursor,lst Q.symbols.symbols,lst (kM d).theory.order,lst (kM d).theory.equations,lst (kM d).theory.rules,lst (kM d).next_.order,lst (kM d).next_.equations,lst (kM d).next_.rules],true⟩),(Bd+3,⟨[iv Q.gen,iv Q.root,iv Q.shadow,iv Q.theory,iv Q.next_,iv Q.version, .bool true,lst Q.cursor,lst Q.symbols.symbols],true⟩),(Bd+4,⟨[iv Q.gen,iv Q.shadow,iv 0,iv Q.next_,iv 0,iv (Q.version+1), .bool false,lst ([]:List UInt8),lst Q.symbols.symbols],true⟩),(Bd+5+8+6,⟨[iv 0,iv Q.gen,iv Q.root,iv Q.shadow,iv Q.theory,iv Q.next_,iv Q.version, .bool true,lst Q.cursor,lst Q.symbols.symbols,lst (kM d).theory.order,lst (kM d).theory.equations,lst (kM d).theory.rules,lst (kM d).next_.order,lst (kM d).next_.equations,lst (kM d).next_.rules,pt (Bd+20)],true⟩),(Bd+20,⟨[pt (Bd+5+8+6+2), .bool false],true⟩),(Bd+5+8+6+2,⟨[lst d.sectors,lst d.pending,lst (keptR d (⟨Q.gen,Q.root,Q.shadow,Q.theory,Q.next_,Q.version,true,Q.cursor,Q.symbols⟩:GSuper)).list,lst ([]:List Int)],true⟩)] (cant) ?_
 simp only[mem_cons,jC]
 have eX:finX false (⟨Q.gen,Q.shadow,0,Q.next_,0,(Q.version+1),false,[],Q.symbols⟩:GSuper)=⟨0,actsD (Int.tmod (Q.gen+1) 2) (kW (nextS (finS Q)))⟩:=rfl
 have hsN:sm (⟨Q.gen,Q.shadow,0,Q.next_,0,(Q.version+1),false,[],Q.symbols⟩:GSuper):=⟨trivial,trivial,trivial,trivial,trivial,trivial,trivial,⟨xT _,fun _ h=>by cases h⟩,hss⟩
 refine⟨Bd+5+8+6,Bd+20,Bd+5+8+6+2,_,false,⟨d,(keptR d (⟨Q.gen,Q.root,Q.shadow,Q.theory,Q.next_,Q.version,true,Q.cursor,Q.symbols⟩:GSuper)).list,[]⟩,⟨Q.gen,Q.shadow,0,Q.next_,0,(Q.version+1),false,[],Q.symbols⟩,rfl,⟨by simp (disch:=omega) only[go_sem,push_cast,qB,qA];rfl,rfl,rfl,by simp (disch:=omega) only[go_sem,push_cast,qB,qA],by simp (disch:=omega) only[go_sem,push_cast,qB,qA],hp,hsN,h7,fun _=>h6⟩,?_⟩
 rw[eX]
 generalize kW (nextS (finS Q))=PS
 refine R0 ?_
 refine own_agg [(Bd+22,OEnc.oc (0:Int)),(Bd+22,OEnc.oc (actsD (Int.tmod (Q.gen+1) 2) PS))] ?_ ?_ rfl rfl
 ·refine⟨by omega,?_,by show Bd+22+0<=Bd+22;omega,?_,trivial⟩
  all_goals (simp (disch:=first|assumption|omega) only[go_sem,push_cast,qB,qA,qG,qE hb])
 ·simp (disch:=first|assumption|omega|(simp (disch:=first|assumption|omega) only[qG,free_oput,qE hb];done)) only[go_sem,push_cast,qB,qA,qL hb,Le_oputB hb,qE hb,qU]
theorem Q21_pure:PureO U21:=by
 rintro _ H Bd K ⟨x0,rfl,hpre,hK⟩
 refine⟨_,_,?_,blL_vc _ Bd (OEnc.ok _),by rw[OV.blL_len];exact hK,fun H' K' hs h=>⟨x0,rfl,hpre,by rw[OV.blL_len]at h;exact h⟩⟩
 first|exact .sl|(refine vc_agg fun v hv=>?_;simp only[wG,List.not_mem_nil,or_false]at hv;(repeat' (rcases hv with rfl|hv)) <;>(try subst hv) <;>constructor)
def Q21:qH:=LendN U21
@[go_sem ↓] theorem Q21_eq (a:Value):Q21 [a] H Bd K=Held (Q21 [a] H Bd K) ⟨⟩:=(rfl)
theorem Q21_ok:OK 21 Q21:=LendNO_ok U21_ok Q21_pure
def W5:qH:=fun g' H Bd K=>∃(d:GDisk),g'=[.agg (enc d).toArray]/\((sm d)/\K (.bool true) H Bd)
theorem W5_ok:OK 5 W5:=by
 rintro _ H Bd K ⟨d,rfl,hpre,hK⟩
 refine fnp pok (((((((((uA.uB W6_ok).uB P8_ok).uB K20_ok).uB Q21_ok).uB N10_ok).uB N11_ok).uB W12_ok).uB W13_ok).uB N14_ok) [(10,[0,1,2,3,4],[z0 0,z0 1,⟨2,[],[0]⟩,z0 3,z0 4], .nil),(14,[],[],(.k 3 (.grp false 37 41 4 [38,39,40,41] 42 none (.k 4 .nil) .nil)))] hK func5 ntmps5 call5 [.tmp 2] fun hb ha=>?_
 have h0:=hpre
 have z0:=szP_or (tot d) (1048576)
 have y0:=szP_ub (tot d) (left:=1048576) (by omega)
 by_cases q0:szP (tot d) 1048576<0
 ·exact R (cj h0 q0) trivial
 have t0:tot d<=1048576:=by omega
 have hfr:∀n,Bd<=n->H n=none:=fun n hn=>hb.fresh n hn
 have k0:=actsR_sm (finR_ok d)
 have k1:_/\_:=finR_ok d
 refine R (cj4 h0 q0 t0 hfr) ?_
 have hif:∀(p:Prop) [Decidable p] (x y:Option Blk),¬p->(if p then x else y)=y:=fun p _ x y h=>if_neg h
 have hip:∀(p:Prop) [Decidable p] (x y:Option Blk),p->(if p then x else y)=x:=fun p _ x y h=>if_pos h
 have hn0:∀m c,H m=some c->m<Bd:=fun m c hm=>zI hb hm
 have hG:∀m c,upd H Bd (some ⟨[lst d.sectors,lst d.pending],true⟩) m=some c->m<Bd+1:=names_upd (fun m c hm=>by have:=hn0 m c hm;omega) (by omega)
 refine held ⟨[.agg (enc d).toArray],_,Bd+1,?_,?_,hG,?_⟩
 ·refine kA (pub_as (Has_pubB (x:=d) (n:=Bd+1) ?_ ?_) ?_) pubc_nil
  all_goals first|omega|(simp (disch:=first|assumption|omega) only[go_sem,push_cast,qB,qA,Nat.add_assoc,hif,hip,qJ];done)|skip
 ·simp (disch:=first|assumption|omega) only[Le_hi hG,Le_hiO hG,qU]
 simp (maxSteps:=2000000) (disch:=first|exact dq|fail) only[go_sem,push_cast,qB,qA,qL hb,qE hb,hif,hip,h0,hfr]
 refine held ⟨[.agg (enc d).toArray],?_,?_⟩
 ·refine kA (pub_as (Has_pubX (x:=d) (n:=Bd+1+(OV.numL (OEnc.oc d.sectors)+(OV.numL (OEnc.oc d.pending)+1))) ?_) ?_) pubc_nil
  all_goals first|omega|(simp (disch:=first|assumption|omega) only[go_sem,push_cast,qB,qA,Nat.add_assoc,hif,hip,qJ];done)|skip
 simp (maxSteps:=2000000) (disch:=first|exact dq|fail) only[go_sem,push_cast,qB,qA,qL hb,qE hb,hif,hip,h0,hfr,k0,vJ]
 refine held ⟨[.agg (enc (finR d)).toArray, .agg (enc (finR d)).toArray],?_,?_⟩
 ·refine kA (pub_as (Has_pubX (x:=finR d) (n:=Bd+1+(OV.numL (OEnc.oc d.sectors)+(OV.numL (OEnc.oc d.pending)+1))+(OV.numL (OEnc.oc d.sectors)+(OV.numL (OEnc.oc d.pending)+1))) ?_) ?_) (kA (pub_as (.same (.agg (enc (finR d)).toArray)) ?_) pubc_nil)
  all_goals first|omega|rfl|(simp (disch:=first|assumption|omega) only[go_sem,push_cast,qB,qA,Nat.add_assoc,hif,hip,qJ];done)|skip
 simp (maxSteps:=2000000) (disch:=first|exact dq|fail) only[go_sem,push_cast,qB,qA,qL hb,qE hb,hif,hip,h0,hfr,k0,vJ]
 refine held ⟨[.agg (enc d).toArray, .agg (enc d).toArray],?_,?_⟩
 ·refine kA (pub_as (Has_pubX (x:=d) (n:=Bd+1+(OV.numL (OEnc.oc d.sectors)+(OV.numL (OEnc.oc d.pending)+1))) ?_) ?_) (kA (pub_as (Has_pubX (x:=d) (n:=Bd+1+(OV.numL (OEnc.oc d.sectors)+(OV.numL (OEnc.oc d.pending)+1))+(OV.numL (OEnc.oc d.sectors)+(OV.numL (OEnc.oc d.pending)+1))+(OV.numL (OEnc.oc (finR d).acts)+1)+5) ?_) ?_) pubc_nil)
  all_goals first|omega|rfl|(simp (disch:=first|assumption|omega) only[go_sem,push_cast,qB,qA,Nat.add_assoc,hif,hip,qJ];done)|skip
 simp (maxSteps:=2000000) (disch:=first|exact dq|fail) only[go_sem,push_cast,qB,qA,qL hb,qE hb,hif,hip,h0,hfr,k0,vJ]
 have c0:=cntD_bytes d.sectors
 have c1:=cntD_puts d.pending
 have c2:tot d=tot d.sectors+tot d.pending:=by simp[tot_GDisk]
 refine held ⟨d,Bd+1+(OV.numL (OEnc.oc d.sectors)+(OV.numL (OEnc.oc d.pending)+1)),1,rfl,⟨?_,h0,by omega,by omega⟩,?_⟩
 ·simp (disch:=first|assumption|omega) only[go_sem,push_cast,qB,qA,Nat.add_assoc,hif,hip,qJ]
 have e0:OV.numL (OEnc.oc (mkDL 1 d.sectors))=OV.numL (OEnc.oc d.sectors):=vG _ _
 have e1:OV.numL (OEnc.oc (mkDL (1+(kD d.sectors:Nat)) d.pending))=OV.numL (OEnc.oc d.pending):=vG _ _
 simp (maxSteps:=2000000) (disch:=first|exact dq|fail) only[go_sem,push_cast,qB,qA,qL hb,qE hb,hif,hip,h0,hfr,k0,vJ,e0,e1]
 refine⟨false,held ⟨[.agg (enc (finR d)).toArray, .agg (enc (finR d)).toArray],?_,?_⟩,?_⟩
 ·refine kA (pub_as (Has_pubX (x:=finR d) (n:=Bd+1+(OV.numL (OEnc.oc d.sectors)+(OV.numL (OEnc.oc d.pending)+1))+(OV.numL (OEnc.oc d.sectors)+(OV.numL (OEnc.oc d.pending)+1))) ?_) ?_) (kA (pub_as (.same (.agg (enc (finR d)).toArray)) ?_) pubc_nil)
  all_goals first|omega|rfl|(simp (disch:=first|assumption|omega) only[go_sem,push_cast,qB,qA,Nat.add_assoc,hif,hip,qJ,e0,e1];done)|skip
 ·simp (maxSteps:=2000000) (disch:=first|exact dq|fail) only[go_sem,push_cast,qB,qA,qL hb,qE hb,hif,hip,h0,hfr,k0,vJ,e0,e1]
 simp (maxSteps:=2000000) (disch:=first|exact dq|fail) only[go_sem,push_cast,qB,qA,qL hb,qE hb,hif,hip,h0,hfr,k0,vJ,e0,e1]
 have c3:=cntA_le k1.2
 obtain⟨s1,s2⟩:=mkA_same 1 (finR d).acts
 have s3:=acts_sm (l:=mkDL 1 (finR d).acts) (by rw[zO];exact k1.1) (mkA_le 1 k1.2)
 have s4:sm (⟨(finR d).code,mkDL 1 (finR d).acts⟩:GActsResult):=⟨trivial,s3⟩
 refine held ⟨finR d,Bd+1+(OV.numL (OEnc.oc d.sectors)+(OV.numL (OEnc.oc d.pending)+1))+(OV.numL (OEnc.oc d.sectors)+(OV.numL (OEnc.oc d.pending)+1)),1,rfl,⟨?_,k0,by omega,by omega⟩,?_⟩
 ·simp (disch:=first|assumption|omega) only[go_sem,push_cast,qB,qA,Nat.add_assoc,hif,hip,qJ,e0,e1]
 have e2:OV.numL (OEnc.oc (mkDL 1 (finR d).acts))=OV.numL (OEnc.oc (finR d).acts):=vG _ _
 simp (maxSteps:=2000000) (disch:=first|exact dq|fail) only[go_sem,push_cast,qB,qA,qL hb,qE hb,hif,hip,h0,hfr,k0,vJ,e0,e1,e2]
 refine held ⟨[.agg (enc (⟨(finR d).code,mkDL 1 (finR d).acts⟩:GActsResult)).toArray,iv 1],?_,?_⟩
 ·refine kA (pub_as (Has_pubX (x:=(⟨(finR d).code,mkDL 1 (finR d).acts⟩:GActsResult)) (n:=Bd+1+(OV.numL (OEnc.oc d.sectors)+(OV.numL (OEnc.oc d.pending)+1))+(OV.numL (OEnc.oc d.sectors)+(OV.numL (OEnc.oc d.pending)+1))) ?_) ?_) (kA (.same _) pubc_nil)
  all_goals first|omega|rfl|(simp (disch:=first|assumption|omega) only[go_sem,push_cast,qB,qA,Nat.add_assoc,hif,hip,qJ,e0,e1,e2,zO];done)|skip
 have s5:¬(1+(kD (finR d).acts:Int)<0):=by omega
 simp (maxSteps:=2000000) (disch:=first|exact dq|fail) only[go_sem,push_cast,qB,qA,qL hb,qE hb,hif,hip,h0,hfr,k0,vJ,e0,e1,e2,s1,s2,s4,s5]
 refine held ⟨[.agg (enc d).toArray],?_,?_⟩
 ·refine kA (pub_as (Has_pubX (x:=d) (n:=Bd+1+(OV.numL (OEnc.oc d.sectors)+(OV.numL (OEnc.oc d.pending)+1))+(OV.numL (OEnc.oc d.sectors)+(OV.numL (OEnc.oc d.pending)+1))+(OV.numL (OEnc.oc (finR d).acts)+1)+5+(OV.numL (OEnc.oc d.sectors)+OV.numL (OEnc.oc d.pending))) ?_) ?_) pubc_nil
  all_goals first|omega|(simp (disch:=first|assumption|omega) only[go_sem,push_cast,qB,qA,Nat.add_assoc,hif,hip,qJ,e0,e1,e2];done)|skip
 simp (maxSteps:=2000000) (disch:=first|exact dq|fail) only[go_sem,push_cast,qB,qA,qL hb,qE hb,hif,hip,h0,hfr,k0,vJ,e0,e1,e2,s1,s2,s4,s5]
 refine held ⟨[.agg (enc (finR d)).toArray, .agg (enc (finR d)).toArray],?_,?_⟩
 ·refine kA (pub_as (Has_pubX (x:=finR d) (n:=Bd+1+(OV.numL (OEnc.oc d.sectors)+(OV.numL (OEnc.oc d.pending)+1))+(OV.numL (OEnc.oc d.sectors)+(OV.numL (OEnc.oc d.pending)+1))+(OV.numL (OEnc.oc (finR d).acts)+1)+5+(OV.numL (OEnc.oc d.sectors)+OV.numL (OEnc.oc d.pending))+(OV.numL (OEnc.oc d.sectors)+OV.numL (OEnc.oc d.pending))) ?_) ?_) (kA (pub_as (.same (.agg (enc (finR d)).toArray)) ?_) pubc_nil)
  all_goals first|omega|rfl|(simp (disch:=first|assumption|omega) only[go_sem,push_cast,qB,qA,Nat.add_assoc,hif,hip,qJ,e0,e1,e2];done)|skip
 simp (maxSteps:=2000000) (disch:=first|exact dq|fail) only[go_sem,push_cast,qB,qA,qL hb,qE hb,hif,hip,h0,hfr,k0,vJ,e0,e1,e2,s1,s2,s4,s5]
 refine held ⟨[.agg (enc (⟨(finR d).code,mkDL 1 (finR d).acts⟩:GActsResult)).toArray,iv 1],?_,?_⟩
 ·refine kA (pub_as (Has_pubX (x:=(⟨(finR d).code,mkDL 1 (finR d).acts⟩:GActsResult)) (n:=Bd+1+(OV.numL (OEnc.oc d.sectors)+(OV.numL (OEnc.oc d.pending)+1))+(OV.numL (OEnc.oc d.sectors)+(OV.numL (OEnc.oc d.pending)+1))) ?_) ?_) (kA (.same _) pubc_nil)
  all_goals first|omega|rfl|(simp (disch:=first|assumption|omega) only[go_sem,push_cast,qB,qA,Nat.add_assoc,hif,hip,qJ,e0,e1,e2,zO];done)|skip
 simp (maxSteps:=2000000) (disch:=first|exact dq|fail) only[go_sem,push_cast,qB,qA,qL hb,qE hb,hif,hip,h0,hfr,k0,vJ,e0,e1,e2,s1,s2,s4,s5,Le_hi hn0,Le_hiO hn0,qU]
end Go.Proofs.YtogofkjpbpgneaaGreatDoor
