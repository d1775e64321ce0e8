/- Functions of Go's library, by the kit's contracts. -/
import Derived.Test.YthoahlghegcfnaaGreatDoorLfFacts
import Derived.Test.YthoahlghegcfnaaGreatDoorLfShelf
import Derived.Test.YthoahlghegcfnaaGreatDoorLfCore4
set_option linter.unusedVariables false
set_option maxRecDepth 100000
namespace Go.Proofs.YthoahlghegcfnaaGreatDoor
open Go Go.SC Go.Proofs Go.Shelf Go.RowKit
def W275:qJ:=fun args H Bd K=>∃(xs:List ByteArray) (sep:ByteArray),args=[lst xs, .string sep]∧((xs.length≤140737488355328∧(joinB xs sep).size≤140737488355328)∧K (.string (joinB xs sep)) H Bd)
@[go_sem ↓] theorem W275_eq (xs:List ByteArray) (sep:ByteArray) (H:AH) (Bd:Nat) (K:Value→AH→Nat→Prop):W275 [lst xs, .string sep] H Bd K=((xs.length≤140737488355328∧(joinB xs sep).size≤140737488355328)∧K (.string (joinB xs sep)) H Bd):=by
 refine propext ⟨fun h=> ?_,fun h=>⟨_,_,rfl,h⟩⟩
 obtain⟨xs',sep',e,h⟩:=h
 simp only[List.cons.injEq,Value.string.injEq,lst_inj,and_true]at e
 obtain⟨rfl,rfl⟩:=e
 exact h
def W195:qJ:=fun args H Bd K=>∃(s cut:ByteArray),args=[.string s, .string cut]∧((s.size≤281474976710656∧cut.size<4294967281∧∀(j:Nat) b,cut.data.toList[j]? =some b→b.toNat<128)∧K (.string (trimB s cut)) H Bd)
@[go_sem ↓] theorem W195_eq (s cut:ByteArray) (H:AH) (Bd:Nat) (K:Value→AH→Nat→Prop):W195 [.string s, .string cut] H Bd K=((s.size≤281474976710656∧cut.size<4294967281∧∀(j:Nat) b,cut.data.toList[j]? =some b→b.toNat<128)∧K (.string (trimB s cut)) H Bd):=by
 refine propext ⟨fun h=> ?_,fun h=>⟨_,_,rfl,h⟩⟩
 obtain⟨s',cut',e,h⟩:=h
 simp only[List.cons.injEq,Value.string.injEq,and_true]at e
 obtain⟨rfl,rfl⟩:=e
 exact h
theorem W195_ok:OK 195 W195:=by
 rintro args H Bd K ⟨s,cut,rfl,⟨h1,h2,h3⟩,hK⟩
 refine SCalls.lib Tryz.call195 _ (fun A ι vs w hr hs=> ?_) hK
 obtain⟨v,u,rfl,hv,hu⟩:=hs.two
 obtain rfl:=hv.str
 obtain rfl:=hu.str
 exact(Any.strings_Trim_ascii Tryz.lays160 (fun w=>(Tryz.zeroValue352 w).trans (congrArg (fun c=>Result.ok (Value.agg c) w) (by kernel_rfl))) (by kernel_rfl) s cut w (by omega) h2 h3).mono fun e w' ⟨he,hw⟩=>⟨_,he, .string _,hw⟩
def O235:qJ:=CloneT (UInt8) 1 1000000
theorem O235_ok:OK 235 O235:=clone_lay (α:=UInt8) Tryz.laysE41_235 Tryz.call235 ((Tryz.prog.info? 5).getD default) (by kernel_rfl) ((Value.int IntKind.u8 0)) (by kernel_rfl) (by kernel_rfl) (of_decide_eq_true (by kernel_rfl)) (by kernel_rfl) Tryz.sizeOf5
def W235:qJ:=CloneP (UInt8) 1000000
@[go_sem ↓] theorem W235_eq (xs:List (UInt8)) (H:AH) (Bd:Nat) (K:Value→AH→Nat→Prop):W235 [lst xs] H Bd K=(xs.length≤1000000∧K (lst xs) H Bd):=CloneP_eq (UInt8) 1000000 xs H Bd K
theorem W235_ok:OK 235 W235:=cloneP_ok O235_ok
def W60:qJ:=SortT
@[go_sem ↓] theorem W60_eq (n l c:Nat) (H:AH) (Bd:Nat) (K:Value→AH→Nat→Prop):W60 [.slice (some ⟨n,0,some 1⟩) l c] H Bd K=(Yld (H n) fun b=>Yld (intsOf b.cells) fun zs=>(b.own=true∧l=zs.length∧zs.length≤1000000)∧K undef (upd H n (some ⟨qQ (vM zs),true⟩)) Bd):=SortT_eq n l c H Bd K
theorem W60_ok:OK 60 W60:=sort_ok Tryz.call60 (fun blk off cap zs w hH hb hs=>AnyM.slices_Sort_int Tryz.laysM5 blk off cap zs w hH hb hs) (fun p cap w=>AnyM.slices_Sort_int_none Tryz.laysM5 p cap w)
def W324:qJ:=CompT
@[go_sem ↓] theorem W324_eq (n l c:Nat) (H:AH) (Bd:Nat) (K:Value→AH→Nat→Prop):W324 [.slice (some ⟨n,0,some 1⟩) l c] H Bd K=(Yld (H n) fun b=>Yld (intsOf b.cells) fun zs=>(b.own=true∧l=zs.length∧zs.length≤1000000)∧K (.slice (some ⟨n,0,some 1⟩) (Lib.compact zs).length c) (upd H n (some ⟨qQ (Lib.compact zs++List.replicate (zs.length-(Lib.compact zs).length) 0),true⟩)) Bd):=CompT_eq n l c H Bd K
theorem W324_ok:OK 324 W324:=comp_ok Tryz.call324 (fun blk off cap zs w hH hs hc=>AnyG.slices_Compact_int Tryz.laysN43 blk off cap zs w hH hs hc) (fun p cap w=>AnyG.slices_Compact_int_empty Tryz.laysN43 p cap w)
def W154:qJ:=fun args H Bd K=>∃(xs ys:List UInt8),args=[lst xs,lst ys]∧K (.int .i64 (Lib.compareBytes xs ys)) H Bd
@[go_sem ↓] theorem W154_eq (xs ys:List UInt8) (H:AH) (Bd:Nat) (K:Value→AH→Nat→Prop):W154 [lst xs,lst ys] H Bd K=K (.int .i64 (Lib.compareBytes xs ys)) H Bd:=by
 refine propext ⟨fun h=> ?_,fun h=>⟨_,_,rfl,h⟩⟩
 obtain⟨xs',ys',e,h⟩:=h
 simp only[List.cons.injEq,lst_inj,and_true]at e
 obtain⟨rfl,rfl⟩:=e
 exact h
set_option maxHeartbeats 1000000 in
theorem W154_calls{ι:SC.Ren}{w:World}{xs ys:List UInt8}{v u:Value}(hv:VR ι w (lst xs) v)(hu:VR ι w (lst ys) u):Calls Tryz.prog 154 #[v,u] w fun e w'=>e= .returned (.int .i64 (Lib.compareBytes xs ys))∧w'=w:=by
 go_enter Tryz.func154,Tryz.ntmps154
 go_wp2
 rw[run_callFunc_extern Tryz.func223 (by kernel_rfl) (by kernel_rfl) (by kernel_rfl) (e:=Extern.BytealgCompare.compare) (by kernel_rfl),run_cmp hv hu]
 simp only[Result.andThen]
 rw[Oper.upon_value]
 go_wp2
 go_ret
 exact⟨rfl,rfl⟩
theorem W154_ok:OK 154 W154:=by
 rintro args H Bd K ⟨xs,ys,rfl,hK⟩
 refine SCalls.lib Tryz.call154 _ (fun A ι vs w hr hs=> ?_) hK
 obtain⟨v,u,rfl,hv,hu⟩:=hs.two
 exact(W154_calls hv hu).mono fun e w' ⟨he,hw⟩=>⟨_,he, .int _ _,hw▸Below.refl _ _⟩
instance :TyBd Tryz.prog 462 [(0,1),(1,1),(2,1),(3,1),(4,1)] [.slice none 0 0, .slice none 0 0, .slice none 0 0, .slice none 0 0,unk]:=⟨abuild_structU (z:=[.slice none 0 0, .slice none 0 0, .slice none 0 0, .slice none 0 0, .map none]) (qD Tryz.zeroValue462) (yP Tryz.underlying462) (qH (qD Tryz.sizeOf44) (qH (qD Tryz.sizeOf34) (qH (qD Tryz.sizeOf34) (qH (qD Tryz.sizeOf34) (qH (qD Tryz.sizeOf460) rfl)))))⟩
instance :TyM Tryz.prog 460:=⟨by kernel_rfl⟩
instance :TyAr Tryz.prog 466 1 [.int .i64 0, .int .i64 0]:=⟨abuild_array (n:=2) (e:=3) (by kernel_rfl) (by kernel_rfl) (by kernel_rfl) rfl⟩
end Go.Proofs.YthoahlghegcfnaaGreatDoor
