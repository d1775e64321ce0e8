/- Functions of Go's library, by the kit's contracts. -/
import Derived.Test.YtogofkjpbpgneaaGreatDoorFmFacts
import Derived.Test.YtogofkjpbpgneaaGreatDoorFmShelf
import Derived.Test.YtogofkjpbpgneaaGreatDoorFmCore4
set_option linter.unusedVariables false
set_option maxRecDepth 100000
namespace Go.Proofs.YtogofkjpbpgneaaGreatDoor
open Go Go.SC Tryz Go.Proofs Go.Shelf Go.RowKit
def W194:qH:=fun args H Bd K=>∃(s cut:ByteArray),args=[.string s, .string cut]/\((s.size<=281474976710656/\cut.size<4294967281/\∀(j:Nat) b,cut.data.toList[j]? =some b->b.toNat<128)/\K (.string (trimB s cut)) H Bd)
@[go_sem ↓] theorem W194_eq (s cut:ByteArray) (H:AH) (Bd:Nat) (K:Value->AH->Nat->Prop):W194 [.string s, .string cut] H Bd K=((s.size<=281474976710656/\cut.size<4294967281/\∀(j:Nat) b,cut.data.toList[j]? =some b->b.toNat<128)/\K (.string (trimB s cut)) H Bd):=by
 refine propext ⟨fun h=> ?_,fun h=>⟨_,_,rfl,h⟩⟩
 obtain⟨s',cut',e,h⟩:=h
 simp only[xG,Value.string.injEq,and_true]at e
 obtain⟨rfl,rfl⟩:=e
 exact h
theorem W194_ok:OK 194 W194:=by
 rintro args H Bd K ⟨s,cut,rfl,⟨h1,h2,h3⟩,hK⟩
 refine SCalls.lib call194 _ (fun A ι vs w hr hs=> ?_) hK
 obtain⟨v,u,rfl,hv,hu⟩:=hs.two
 obtain rfl:=hv.str
 obtain rfl:=hu.str
 exact(Any.strings_Trim_ascii Tryz.lays160 (fun w=>(zeroValue307 w).trans (congrArg (fun c=>Result.ok (Value.agg c) w) (by kernel_rfl))) (by kernel_rfl) s cut w (by omega) h2 h3).mono fun e w' ⟨he,hw⟩=>⟨_,he, .string _,hw⟩
def O109:qH:=CloneT (UInt8) 1 1000000
theorem O109_ok:OK 109 O109:=clone_lay (α:=UInt8) Tryz.laysE41_109 call109 ((Tryz.prog.info? 5).getD default) (by kernel_rfl) ((Value.int IntKind.u8 0)) (by kernel_rfl) (by kernel_rfl) (of_decide_eq_true (by kernel_rfl)) (by kernel_rfl) sizeOf5
def W109:qH:=CloneP (UInt8) 1000000
@[go_sem ↓] theorem W109_eq (xs:List (UInt8)) (H:AH) (Bd:Nat) (K:Value->AH->Nat->Prop):W109 [lst xs] H Bd K=(xs.length<=1000000/\K (lst xs) H Bd):=CloneP_eq (UInt8) 1000000 xs H Bd K
theorem W109_ok:OK 109 W109:=cloneP_ok O109_ok
def O110:qH:=CloneT (GSymbol) 2 1000000
theorem O110_ok:OK 110 O110:=clone_lay (α:=GSymbol) Tryz.laysE41_110 call110 ((Tryz.prog.info? 195).getD default) (by kernel_rfl) ((Value.agg #[Value.string {data:= #[]},Value.int IntKind.i64 0])) (by kernel_rfl) (by kernel_rfl) (of_decide_eq_true (by kernel_rfl)) (by kernel_rfl) sizeOf195
def W110:qH:=CloneP (GSymbol) 1000000
@[go_sem ↓] theorem W110_eq (xs:List (GSymbol)) (H:AH) (Bd:Nat) (K:Value->AH->Nat->Prop):W110 [lst xs] H Bd K=(xs.length<=1000000/\K (lst xs) H Bd):=CloneP_eq (GSymbol) 1000000 xs H Bd K
theorem W110_ok:OK 110 W110:=cloneP_ok O110_ok
def W95:qH:=SortT
@[go_sem ↓] theorem W95_eq (n l c:Nat) (H:AH) (Bd:Nat) (K:Value->AH->Nat->Prop):W95 [.slice (some ⟨n,0,some 1⟩) l c] H Bd K=(Yld (H n) fun b=>Yld (intsOf b.cells) fun zs=>(b.own=true/\l=zs.length/\zs.length<=1000000)/\K undef (upd H n (some ⟨qO (vN zs),true⟩)) Bd):=SortT_eq n l c H Bd K
theorem W95_ok:OK 95 W95:=sort_ok call95 (fun blk off cap zs w hH hb hs=>AnyM.slices_Sort_int Tryz.laysM5 blk off cap zs w hH hb hs) (fun p cap w=>AnyM.slices_Sort_int_none Tryz.laysM5 p cap w)
def W252:qH:=CompT
@[go_sem ↓] theorem W252_eq (n l c:Nat) (H:AH) (Bd:Nat) (K:Value->AH->Nat->Prop):W252 [.slice (some ⟨n,0,some 1⟩) l c] H Bd K=(Yld (H n) fun b=>Yld (intsOf b.cells) fun zs=>(b.own=true/\l=zs.length/\zs.length<=1000000)/\K (.slice (some ⟨n,0,some 1⟩) (Lib.compact zs).length c) (upd H n (some ⟨qO (Lib.compact zs++List.replicate (zs.length-(Lib.compact zs).length) 0),true⟩)) Bd):=CompT_eq n l c H Bd K
theorem W252_ok:OK 252 W252:=comp_ok call252 (fun blk off cap zs w hH hs hc=>AnyG.slices_Compact_int Tryz.laysN43 blk off cap zs w hH hs hc) (fun p cap w=>AnyG.slices_Compact_int_empty Tryz.laysN43 p cap w)
def W80:qH:=fun args H Bd K=>∃(xs ys:List UInt8),args=[lst xs,lst ys]/\K (.int .i64 (Lib.compareBytes xs ys)) H Bd
@[go_sem ↓] theorem W80_eq (xs ys:List UInt8) (H:AH) (Bd:Nat) (K:Value->AH->Nat->Prop):W80 [lst xs,lst ys] H Bd K=K (.int .i64 (Lib.compareBytes xs ys)) H Bd:=by
 refine propext ⟨fun h=> ?_,fun h=>⟨_,_,rfl,h⟩⟩
 obtain⟨xs',ys',e,h⟩:=h
 simp only[xG,lst_inj,and_true]at e
 obtain⟨rfl,rfl⟩:=e
 exact h
set_option maxHeartbeats 1000000 in
theorem W80_calls{ι:SC.Ren}{w:World}{xs ys:List UInt8}{v u:Value}(hv:VR ι w (lst xs) v)(hu:VR ι w (lst ys) u):Calls Tryz.prog 80 #[v,u] w fun e w'=>e= .returned (.int .i64 (Lib.compareBytes xs ys))/\w'=w:=by
 go_enter func80,ntmps80
 go_wp2
 rw[run_callFunc_extern func121 (by kernel_rfl) (by kernel_rfl) (by kernel_rfl) (e:=Extern.BytealgCompare.compare) (by kernel_rfl),run_cmp hv hu]
 simp only[Result.andThen]
 rw[Oper.upon_value]
 go_wp2
 go_ret
 exact⟨rfl,rfl⟩
theorem W80_ok:OK 80 W80:=by
 rintro args H Bd K ⟨xs,ys,rfl,hK⟩
 refine SCalls.lib call80 _ (fun A ι vs w hr hs=> ?_) hK
 obtain⟨v,u,rfl,hv,hu⟩:=hs.two
 exact(W80_calls hv hu).mono fun e w' ⟨he,hw⟩=>⟨_,he, .int _ _,hw▸Below.refl _ _⟩
instance :TyBd Tryz.prog 334 [(0,1),(1,1),(2,1),(3,1),(4,1)] [.slice none 0 0, .slice none 0 0, .slice none 0 0, .slice none 0 0,unk]:=⟨abuild_structU (z:=[.slice none 0 0, .slice none 0 0, .slice none 0 0, .slice none 0 0, .map none]) (qC zeroValue334) (yE underlying334) (qF (qC sizeOf51) (qF (qC sizeOf54) (qF (qC sizeOf54) (qF (qC sizeOf54) (qF (qC sizeOf332) rfl)))))⟩
instance :TyM Tryz.prog 332:=⟨by kernel_rfl⟩
instance :TyAr Tryz.prog 340 1 [.int .i64 0, .int .i64 0]:=⟨abuild_array (n:=2) (e:=3) (by kernel_rfl) (by kernel_rfl) (by kernel_rfl) rfl⟩
end Go.Proofs.YtogofkjpbpgneaaGreatDoor
