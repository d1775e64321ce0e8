/- What the types of the program say. -/
import Derived.Test.YthoahlghegcfnaaGreatDoorKbCore3
import Derived.Test.YthoahlghegcfnaaGreatDoorProg
import Derived.KernelRfl
set_option linter.unusedSimpArgs false
set_option linter.unusedVariables false
set_option maxRecDepth 100000
namespace Go.Proofs.YthoahlghegcfnaaGreatDoor
open Go Go.SC
theorem pok:POk Tryz.prog:=⟨by kernel_rfl,fun t i ht h=>by
 have hall:Tryz.prog.types.all (fun i=>decide (i.bytes≤131072))=true:=by kernel_rfl
 have h1:=Array.all_eq_true.1 hall
 unfold Tables.info? at h
 rw[if_pos ht]at h
 obtain⟨hlt,he⟩:=Array.getElem?_eq_some_iff.1 h
 have:=h1 t hlt
 rw[he]at this
 exact of_decide_eq_true this⟩
abbrev OK(f:Nat)(W:Trans):Prop:=∀args H Bd K,W args H Bd K→SCalls Tryz.prog f args H Bd K
theorem xN:Tryz.prog.types.size=485:=by kernel_rfl
instance :TyZ Tryz.prog 2 1 false (.int .i64 0):=⟨ask_of Tryz.sizeOf2,ask_of Tryz.isAgg2,ask_of Tryz.zeroValue2⟩
instance :TyI Tryz.prog 2 .i64:=⟨Tryz.underlying2⟩
instance :TyZ Tryz.prog 3 1 false (.int .i64 0):=⟨ask_of Tryz.sizeOf3,ask_of Tryz.isAgg3,ask_of Tryz.zeroValue3⟩
instance :TyI Tryz.prog 3 .i64:=⟨Tryz.underlying3⟩
instance :TyZ Tryz.prog 4 1 false (.bool false):=⟨ask_of Tryz.sizeOf4,ask_of Tryz.isAgg4,ask_of Tryz.zeroValue4⟩
instance :TyB Tryz.prog 4:=⟨Tryz.underlying4⟩
instance :TyZ Tryz.prog 5 1 false (.int .u8 0):=⟨ask_of Tryz.sizeOf5,ask_of Tryz.isAgg5,ask_of Tryz.zeroValue5⟩
instance :TyI Tryz.prog 5 .u8:=⟨Tryz.underlying5⟩
instance :TyZ Tryz.prog 9 1 false (.string {data:= #[]}):=⟨ask_of Tryz.sizeOf9,ask_of Tryz.isAgg9,ask_of Tryz.zeroValue9⟩
instance :TyS Tryz.prog 9:=⟨Tryz.underlying9⟩
instance :TyZ Tryz.prog 22 1 false (.slice none 0 0):=⟨ask_of Tryz.sizeOf22,ask_of Tryz.isAgg22,ask_of Tryz.zeroValue22⟩
instance :TySl Tryz.prog 22 26 1 [(.slice none 0 0)]:=⟨Tryz.underlying22,ask_of Tryz.sizeOf26,⟨_,ask_of Tryz.zeroValue26,rfl⟩,rfl,rfl,by rw[xN];decide⟩
instance :TyZ Tryz.prog 23 1 false (.slice none 0 0):=⟨ask_of Tryz.sizeOf23,ask_of Tryz.isAgg23,ask_of Tryz.zeroValue23⟩
instance :TySl Tryz.prog 23 158 2 [.int .i64 0, .slice none 0 0]:=⟨Tryz.underlying23,ask_of Tryz.sizeOf158,⟨_,ask_of Tryz.zeroValue158,rfl⟩,rfl,rfl,by rw[xN];decide⟩
instance :TyZ Tryz.prog 25 2 true (.agg #[.slice none 0 0, .slice none 0 0]):=⟨ask_of Tryz.sizeOf25,ask_of Tryz.isAgg25,ask_of Tryz.zeroValue25⟩
instance :TyF Tryz.prog 25 0 0 1 false:=⟨⟨_,_,askU Tryz.underlying25,rfl,ask_of Tryz.sizeOf22,ask_of Tryz.isAgg22⟩,by decide⟩
instance :TyF Tryz.prog 25 1 1 1 false:=⟨⟨_,_,askU Tryz.underlying25,rfl,ask_of Tryz.sizeOf23,ask_of Tryz.isAgg23⟩,by decide⟩
instance :TyZ Tryz.prog 26 1 false (.slice none 0 0):=⟨ask_of Tryz.sizeOf26,ask_of Tryz.isAgg26,ask_of Tryz.zeroValue26⟩
instance :TySl Tryz.prog 26 5 1 [(.int .u8 0)]:=⟨Tryz.underlying26,ask_of Tryz.sizeOf5,⟨_,ask_of Tryz.zeroValue5,rfl⟩,rfl,rfl,by rw[xN];decide⟩
instance :TyBy Tryz.prog 26:=⟨_,Tryz.underlying26,Tryz.underlying5⟩
instance :TyZ Tryz.prog 27 1 false (.slice none 0 0):=⟨ask_of Tryz.sizeOf27,ask_of Tryz.isAgg27,ask_of Tryz.zeroValue27⟩
instance :TySl Tryz.prog 27 190 2 [.string {data:= #[]}, .int .i64 0]:=⟨Tryz.underlying27,ask_of Tryz.sizeOf190,⟨_,ask_of Tryz.zeroValue190,rfl⟩,rfl,rfl,by rw[xN];decide⟩
instance :TyZ Tryz.prog 29 1 true (.agg #[.slice none 0 0]):=⟨ask_of Tryz.sizeOf29,ask_of Tryz.isAgg29,ask_of Tryz.zeroValue29⟩
instance :TyF Tryz.prog 29 0 0 1 false:=⟨⟨_,_,askU Tryz.underlying29,rfl,ask_of Tryz.sizeOf27,ask_of Tryz.isAgg27⟩,by decide⟩
instance :TyZ Tryz.prog 31 9 true (.agg #[.int .i64 0, .int .i64 0, .int .i64 0, .int .i64 0, .int .i64 0, .int .i64 0, .bool false, .slice none 0 0, .slice none 0 0]):=⟨ask_of Tryz.sizeOf31,ask_of Tryz.isAgg31,ask_of Tryz.zeroValue31⟩
instance :TyF Tryz.prog 31 0 0 1 false:=⟨⟨_,_,askU Tryz.underlying31,rfl,ask_of Tryz.sizeOf2,ask_of Tryz.isAgg2⟩,by decide⟩
instance :TyF Tryz.prog 31 1 1 1 false:=⟨⟨_,_,askU Tryz.underlying31,rfl,ask_of Tryz.sizeOf2,ask_of Tryz.isAgg2⟩,by decide⟩
instance :TyF Tryz.prog 31 2 2 1 false:=⟨⟨_,_,askU Tryz.underlying31,rfl,ask_of Tryz.sizeOf2,ask_of Tryz.isAgg2⟩,by decide⟩
instance :TyF Tryz.prog 31 3 3 1 false:=⟨⟨_,_,askU Tryz.underlying31,rfl,ask_of Tryz.sizeOf2,ask_of Tryz.isAgg2⟩,by decide⟩
instance :TyF Tryz.prog 31 4 4 1 false:=⟨⟨_,_,askU Tryz.underlying31,rfl,ask_of Tryz.sizeOf2,ask_of Tryz.isAgg2⟩,by decide⟩
instance :TyF Tryz.prog 31 5 5 1 false:=⟨⟨_,_,askU Tryz.underlying31,rfl,ask_of Tryz.sizeOf2,ask_of Tryz.isAgg2⟩,by decide⟩
instance :TyF Tryz.prog 31 6 6 1 false:=⟨⟨_,_,askU Tryz.underlying31,rfl,ask_of Tryz.sizeOf4,ask_of Tryz.isAgg4⟩,by decide⟩
instance :TyF Tryz.prog 31 7 7 1 false:=⟨⟨_,_,askU Tryz.underlying31,rfl,ask_of Tryz.sizeOf26,ask_of Tryz.isAgg26⟩,by decide⟩
instance :TyF Tryz.prog 31 8 8 1 true:=⟨⟨_,_,askU Tryz.underlying31,rfl,ask_of Tryz.sizeOf29,ask_of Tryz.isAgg29⟩,by decide⟩
instance :TyZ Tryz.prog 34 1 false (.slice none 0 0):=⟨ask_of Tryz.sizeOf34,ask_of Tryz.isAgg34,ask_of Tryz.zeroValue34⟩
instance :TySl Tryz.prog 34 2 1 [(.int .i64 0)]:=⟨Tryz.underlying34,ask_of Tryz.sizeOf2,⟨_,ask_of Tryz.zeroValue2,rfl⟩,rfl,rfl,by rw[xN];decide⟩
instance :TyZ Tryz.prog 36 2 true (.agg #[.int .i64 0, .slice none 0 0]):=⟨ask_of Tryz.sizeOf36,ask_of Tryz.isAgg36,ask_of Tryz.zeroValue36⟩
instance :TyF Tryz.prog 36 0 0 1 false:=⟨⟨_,_,askU Tryz.underlying36,rfl,ask_of Tryz.sizeOf2,ask_of Tryz.isAgg2⟩,by decide⟩
instance :TyF Tryz.prog 36 1 1 1 false:=⟨⟨_,_,askU Tryz.underlying36,rfl,ask_of Tryz.sizeOf34,ask_of Tryz.isAgg34⟩,by decide⟩
instance :TyBd Tryz.prog 36 [(0,1),(1,1)] [.int .i64 0, .slice none 0 0]:=⟨abuild_struct (z:=[.int .i64 0, .slice none 0 0]) (ask_of Tryz.zeroValue36) (askU Tryz.underlying36) (placesOf_cons (ask_of Tryz.sizeOf2) (placesOf_cons (ask_of Tryz.sizeOf34) rfl)) rfl⟩
instance :TyZ Tryz.prog 38 1 false (.slice none 0 0):=⟨ask_of Tryz.sizeOf38,ask_of Tryz.isAgg38,ask_of Tryz.zeroValue38⟩
instance :TySl Tryz.prog 38 160 2 [.int .i64 0, .slice none 0 0]:=⟨Tryz.underlying38,ask_of Tryz.sizeOf160,⟨_,ask_of Tryz.zeroValue160,rfl⟩,rfl,rfl,by rw[xN];decide⟩
instance :TyZ Tryz.prog 40 2 true (.agg #[.slice none 0 0, .slice none 0 0]):=⟨ask_of Tryz.sizeOf40,ask_of Tryz.isAgg40,ask_of Tryz.zeroValue40⟩
instance :TyF Tryz.prog 40 0 0 1 false:=⟨⟨_,_,askU Tryz.underlying40,rfl,ask_of Tryz.sizeOf22,ask_of Tryz.isAgg22⟩,by decide⟩
instance :TyF Tryz.prog 40 1 1 1 false:=⟨⟨_,_,askU Tryz.underlying40,rfl,ask_of Tryz.sizeOf38,ask_of Tryz.isAgg38⟩,by decide⟩
instance :TyZ Tryz.prog 42 1 false (.slice none 0 0):=⟨ask_of Tryz.sizeOf42,ask_of Tryz.isAgg42,ask_of Tryz.zeroValue42⟩
instance :TySl Tryz.prog 42 192 2 [.string {data:= #[]}, .int .i64 0]:=⟨Tryz.underlying42,ask_of Tryz.sizeOf192,⟨_,ask_of Tryz.zeroValue192,rfl⟩,rfl,rfl,by rw[xN];decide⟩
instance :TyZ Tryz.prog 44 1 true (.agg #[.slice none 0 0]):=⟨ask_of Tryz.sizeOf44,ask_of Tryz.isAgg44,ask_of Tryz.zeroValue44⟩
instance :TyF Tryz.prog 44 0 0 1 false:=⟨⟨_,_,askU Tryz.underlying44,rfl,ask_of Tryz.sizeOf42,ask_of Tryz.isAgg42⟩,by decide⟩
instance :TyZ Tryz.prog 46 9 true (.agg #[.int .i64 0, .int .i64 0, .int .i64 0, .int .i64 0, .int .i64 0, .int .i64 0, .bool false, .slice none 0 0, .slice none 0 0]):=⟨ask_of Tryz.sizeOf46,ask_of Tryz.isAgg46,ask_of Tryz.zeroValue46⟩
instance :TyF Tryz.prog 46 0 0 1 false:=⟨⟨_,_,askU Tryz.underlying46,rfl,ask_of Tryz.sizeOf2,ask_of Tryz.isAgg2⟩,by decide⟩
instance :TyF Tryz.prog 46 1 1 1 false:=⟨⟨_,_,askU Tryz.underlying46,rfl,ask_of Tryz.sizeOf2,ask_of Tryz.isAgg2⟩,by decide⟩
instance :TyF Tryz.prog 46 2 2 1 false:=⟨⟨_,_,askU Tryz.underlying46,rfl,ask_of Tryz.sizeOf2,ask_of Tryz.isAgg2⟩,by decide⟩
instance :TyF Tryz.prog 46 3 3 1 false:=⟨⟨_,_,askU Tryz.underlying46,rfl,ask_of Tryz.sizeOf2,ask_of Tryz.isAgg2⟩,by decide⟩
instance :TyF Tryz.prog 46 4 4 1 false:=⟨⟨_,_,askU Tryz.underlying46,rfl,ask_of Tryz.sizeOf2,ask_of Tryz.isAgg2⟩,by decide⟩
instance :TyF Tryz.prog 46 5 5 1 false:=⟨⟨_,_,askU Tryz.underlying46,rfl,ask_of Tryz.sizeOf2,ask_of Tryz.isAgg2⟩,by decide⟩
instance :TyF Tryz.prog 46 6 6 1 false:=⟨⟨_,_,askU Tryz.underlying46,rfl,ask_of Tryz.sizeOf4,ask_of Tryz.isAgg4⟩,by decide⟩
instance :TyF Tryz.prog 46 7 7 1 false:=⟨⟨_,_,askU Tryz.underlying46,rfl,ask_of Tryz.sizeOf26,ask_of Tryz.isAgg26⟩,by decide⟩
instance :TyF Tryz.prog 46 8 8 1 true:=⟨⟨_,_,askU Tryz.underlying46,rfl,ask_of Tryz.sizeOf44,ask_of Tryz.isAgg44⟩,by decide⟩
instance :TyZ Tryz.prog 71 2 true (.agg #[.int .i64 0, .int .i64 0]):=⟨ask_of Tryz.sizeOf71,ask_of Tryz.isAgg71,ask_of Tryz.zeroValue71⟩
instance :TyF Tryz.prog 71 1 1 1 false:=⟨⟨_,_,askU Tryz.underlying71,rfl,ask_of Tryz.sizeOf2,ask_of Tryz.isAgg2⟩,by decide⟩
instance :TyBd Tryz.prog 71 [(0,1),(1,1)] [.int .i64 0, .int .i64 0]:=⟨abuild_struct (z:=[.int .i64 0, .int .i64 0]) (ask_of Tryz.zeroValue71) (askU Tryz.underlying71) (placesOf_cons (ask_of Tryz.sizeOf2) (placesOf_cons (ask_of Tryz.sizeOf2) rfl)) rfl⟩
instance :TyZ Tryz.prog 100 3 true (.agg #[.int .i64 0, .slice none 0 0, .slice none 0 0]):=⟨ask_of Tryz.sizeOf100,ask_of Tryz.isAgg100,ask_of Tryz.zeroValue100⟩
instance :TyF Tryz.prog 100 0 0 1 false:=⟨⟨_,_,askU Tryz.underlying100,rfl,ask_of Tryz.sizeOf2,ask_of Tryz.isAgg2⟩,by decide⟩
instance :TyF Tryz.prog 100 1 1 1 false:=⟨⟨_,_,askU Tryz.underlying100,rfl,ask_of Tryz.sizeOf26,ask_of Tryz.isAgg26⟩,by decide⟩
instance :TyF Tryz.prog 100 2 2 1 false:=⟨⟨_,_,askU Tryz.underlying100,rfl,ask_of Tryz.sizeOf34,ask_of Tryz.isAgg34⟩,by decide⟩
instance :TyBd Tryz.prog 100 [(0,1),(1,1),(2,1)] [.int .i64 0, .slice none 0 0, .slice none 0 0]:=⟨abuild_struct (z:=[.int .i64 0, .slice none 0 0, .slice none 0 0]) (ask_of Tryz.zeroValue100) (askU Tryz.underlying100) (placesOf_cons (ask_of Tryz.sizeOf2) (placesOf_cons (ask_of Tryz.sizeOf26) (placesOf_cons (ask_of Tryz.sizeOf34) rfl))) rfl⟩
instance :TyZ Tryz.prog 135 1 false (.slice none 0 0):=⟨ask_of Tryz.sizeOf135,ask_of Tryz.isAgg135,ask_of Tryz.zeroValue135⟩
instance :TySl Tryz.prog 135 224 2 [.slice none 0 0, .int .i64 0]:=⟨Tryz.underlying135,ask_of Tryz.sizeOf224,⟨_,ask_of Tryz.zeroValue224,rfl⟩,rfl,rfl,by rw[xN];decide⟩
instance :TyZ Tryz.prog 158 2 true (.agg #[.int .i64 0, .slice none 0 0]):=⟨ask_of Tryz.sizeOf158,ask_of Tryz.isAgg158,ask_of Tryz.zeroValue158⟩
instance :TyF Tryz.prog 158 0 0 1 false:=⟨⟨_,_,askU Tryz.underlying158,rfl,ask_of Tryz.sizeOf2,ask_of Tryz.isAgg2⟩,by decide⟩
instance :TyF Tryz.prog 158 1 1 1 false:=⟨⟨_,_,askU Tryz.underlying158,rfl,ask_of Tryz.sizeOf26,ask_of Tryz.isAgg26⟩,by decide⟩
instance :TyZ Tryz.prog 160 2 true (.agg #[.int .i64 0, .slice none 0 0]):=⟨ask_of Tryz.sizeOf160,ask_of Tryz.isAgg160,ask_of Tryz.zeroValue160⟩
instance :TyF Tryz.prog 160 0 0 1 false:=⟨⟨_,_,askU Tryz.underlying160,rfl,ask_of Tryz.sizeOf2,ask_of Tryz.isAgg2⟩,by decide⟩
instance :TyF Tryz.prog 160 1 1 1 false:=⟨⟨_,_,askU Tryz.underlying160,rfl,ask_of Tryz.sizeOf26,ask_of Tryz.isAgg26⟩,by decide⟩
instance :TyZ Tryz.prog 163 3 true (.agg #[.slice none 0 0, .slice none 0 0, .int .i64 0]):=⟨ask_of Tryz.sizeOf163,ask_of Tryz.isAgg163,ask_of Tryz.zeroValue163⟩
instance :TyF Tryz.prog 163 0 0 1 false:=⟨⟨_,_,askU Tryz.underlying163,rfl,ask_of Tryz.sizeOf34,ask_of Tryz.isAgg34⟩,by decide⟩
instance :TyF Tryz.prog 163 1 1 1 false:=⟨⟨_,_,askU Tryz.underlying163,rfl,ask_of Tryz.sizeOf135,ask_of Tryz.isAgg135⟩,by decide⟩
instance :TyF Tryz.prog 163 2 2 1 false:=⟨⟨_,_,askU Tryz.underlying163,rfl,ask_of Tryz.sizeOf2,ask_of Tryz.isAgg2⟩,by decide⟩
instance :TyBd Tryz.prog 163 [(0,1),(1,1),(2,1)] [.slice none 0 0, .slice none 0 0, .int .i64 0]:=⟨abuild_struct (z:=[.slice none 0 0, .slice none 0 0, .int .i64 0]) (ask_of Tryz.zeroValue163) (askU Tryz.underlying163) (placesOf_cons (ask_of Tryz.sizeOf34) (placesOf_cons (ask_of Tryz.sizeOf135) (placesOf_cons (ask_of Tryz.sizeOf2) rfl))) rfl⟩
instance :TyF Tryz.prog 178 0 0 2 true:=⟨⟨_,_,askU Tryz.underlying178,rfl,ask_of Tryz.sizeOf40,ask_of Tryz.isAgg40⟩,by decide⟩
instance :TyF Tryz.prog 178 1 2 1 false:=⟨⟨_,_,askU Tryz.underlying178,rfl,ask_of Tryz.sizeOf34,ask_of Tryz.isAgg34⟩,by decide⟩
instance :TyF Tryz.prog 178 2 3 1 false:=⟨⟨_,_,askU Tryz.underlying178,rfl,ask_of Tryz.sizeOf135,ask_of Tryz.isAgg135⟩,by decide⟩
instance :TyF Tryz.prog 178 3 4 1 false:=⟨⟨_,_,askU Tryz.underlying178,rfl,ask_of Tryz.sizeOf3,ask_of Tryz.isAgg3⟩,by decide⟩
instance :TyBd Tryz.prog 178 [(0,2),(2,1),(3,1),(4,1)] [.slice none 0 0, .slice none 0 0, .slice none 0 0, .slice none 0 0, .int .i64 0]:=⟨abuild_struct (z:=[.slice none 0 0, .slice none 0 0, .slice none 0 0, .slice none 0 0, .int .i64 0]) (ask_of Tryz.zeroValue178) (askU Tryz.underlying178) (placesOf_cons (ask_of Tryz.sizeOf40) (placesOf_cons (ask_of Tryz.sizeOf34) (placesOf_cons (ask_of Tryz.sizeOf135) (placesOf_cons (ask_of Tryz.sizeOf3) rfl)))) rfl⟩
instance :TyZ Tryz.prog 181 3 true (.agg #[.int .i64 0, .int .i64 0, .slice none 0 0]):=⟨ask_of Tryz.sizeOf181,ask_of Tryz.isAgg181,ask_of Tryz.zeroValue181⟩
instance :TyF Tryz.prog 181 0 0 1 false:=⟨⟨_,_,askU Tryz.underlying181,rfl,ask_of Tryz.sizeOf2,ask_of Tryz.isAgg2⟩,by decide⟩
instance :TyF Tryz.prog 181 1 1 1 false:=⟨⟨_,_,askU Tryz.underlying181,rfl,ask_of Tryz.sizeOf2,ask_of Tryz.isAgg2⟩,by decide⟩
instance :TyF Tryz.prog 181 2 2 1 false:=⟨⟨_,_,askU Tryz.underlying181,rfl,ask_of Tryz.sizeOf26,ask_of Tryz.isAgg26⟩,by decide⟩
instance :TyBd Tryz.prog 181 [(0,1),(1,1),(2,1)] [.int .i64 0, .int .i64 0, .slice none 0 0]:=⟨abuild_struct (z:=[.int .i64 0, .int .i64 0, .slice none 0 0]) (ask_of Tryz.zeroValue181) (askU Tryz.underlying181) (placesOf_cons (ask_of Tryz.sizeOf2) (placesOf_cons (ask_of Tryz.sizeOf2) (placesOf_cons (ask_of Tryz.sizeOf26) rfl))) rfl⟩
instance :TyZ Tryz.prog 190 2 true (.agg #[.string {data:= #[]}, .int .i64 0]):=⟨ask_of Tryz.sizeOf190,ask_of Tryz.isAgg190,ask_of Tryz.zeroValue190⟩
instance :TyF Tryz.prog 190 0 0 1 false:=⟨⟨_,_,askU Tryz.underlying190,rfl,ask_of Tryz.sizeOf9,ask_of Tryz.isAgg9⟩,by decide⟩
instance :TyF Tryz.prog 190 1 1 1 false:=⟨⟨_,_,askU Tryz.underlying190,rfl,ask_of Tryz.sizeOf2,ask_of Tryz.isAgg2⟩,by decide⟩
instance :TyZ Tryz.prog 192 2 true (.agg #[.string {data:= #[]}, .int .i64 0]):=⟨ask_of Tryz.sizeOf192,ask_of Tryz.isAgg192,ask_of Tryz.zeroValue192⟩
instance :TyF Tryz.prog 192 0 0 1 false:=⟨⟨_,_,askU Tryz.underlying192,rfl,ask_of Tryz.sizeOf9,ask_of Tryz.isAgg9⟩,by decide⟩
instance :TyF Tryz.prog 192 1 1 1 false:=⟨⟨_,_,askU Tryz.underlying192,rfl,ask_of Tryz.sizeOf2,ask_of Tryz.isAgg2⟩,by decide⟩
instance :TyBd Tryz.prog 224 [(0,1),(1,1)] [.slice none 0 0, .int .i64 0]:=⟨abuild_struct (z:=[.slice none 0 0, .int .i64 0]) (ask_of Tryz.zeroValue224) (askU Tryz.underlying224) (placesOf_cons (ask_of Tryz.sizeOf26) (placesOf_cons (ask_of Tryz.sizeOf2) rfl)) rfl⟩
instance :TyZ Tryz.prog 260 4 true (.agg #[.int .i64 0, .int .i64 0, .int .i64 0, .slice none 0 0]):=⟨ask_of Tryz.sizeOf260,ask_of Tryz.isAgg260,ask_of Tryz.zeroValue260⟩
instance :TyF Tryz.prog 260 0 0 1 false:=⟨⟨_,_,askU Tryz.underlying260,rfl,ask_of Tryz.sizeOf2,ask_of Tryz.isAgg2⟩,by decide⟩
instance :TyF Tryz.prog 260 1 1 3 true:=⟨⟨_,_,askU Tryz.underlying260,rfl,ask_of Tryz.sizeOf181,ask_of Tryz.isAgg181⟩,by decide⟩
instance :TyBd Tryz.prog 260 [(0,1),(1,3)] [.int .i64 0, .int .i64 0, .int .i64 0, .slice none 0 0]:=⟨abuild_struct (z:=[.int .i64 0, .int .i64 0, .int .i64 0, .slice none 0 0]) (ask_of Tryz.zeroValue260) (askU Tryz.underlying260) (placesOf_cons (ask_of Tryz.sizeOf2) (placesOf_cons (ask_of Tryz.sizeOf181) rfl)) rfl⟩
instance :TyF Tryz.prog 304 0 0 1 false:=⟨⟨_,_,askU Tryz.underlying304,rfl,ask_of Tryz.sizeOf26,ask_of Tryz.isAgg26⟩,by decide⟩
instance :TyF Tryz.prog 304 1 1 1 false:=⟨⟨_,_,askU Tryz.underlying304,rfl,ask_of Tryz.sizeOf4,ask_of Tryz.isAgg4⟩,by decide⟩
instance :TyBd Tryz.prog 304 [(0,1),(1,1)] [.slice none 0 0, .bool false]:=⟨abuild_struct (z:=[.slice none 0 0, .bool false]) (ask_of Tryz.zeroValue304) (askU Tryz.underlying304) (placesOf_cons (ask_of Tryz.sizeOf26) (placesOf_cons (ask_of Tryz.sizeOf4) rfl)) rfl⟩
instance :TyZ Tryz.prog 327 4 true (.agg #[.bool false, .slice none 0 0, .slice none 0 0, .slice none 0 0]):=⟨ask_of Tryz.sizeOf327,ask_of Tryz.isAgg327,ask_of Tryz.zeroValue327⟩
instance :TyF Tryz.prog 327 0 0 1 false:=⟨⟨_,_,askU Tryz.underlying327,rfl,ask_of Tryz.sizeOf4,ask_of Tryz.isAgg4⟩,by decide⟩
instance :TyF Tryz.prog 327 1 1 1 false:=⟨⟨_,_,askU Tryz.underlying327,rfl,ask_of Tryz.sizeOf22,ask_of Tryz.isAgg22⟩,by decide⟩
instance :TyF Tryz.prog 327 2 2 1 false:=⟨⟨_,_,askU Tryz.underlying327,rfl,ask_of Tryz.sizeOf34,ask_of Tryz.isAgg34⟩,by decide⟩
instance :TyF Tryz.prog 327 3 3 1 false:=⟨⟨_,_,askU Tryz.underlying327,rfl,ask_of Tryz.sizeOf34,ask_of Tryz.isAgg34⟩,by decide⟩
instance :TyBd Tryz.prog 327 [(0,1),(1,1),(2,1),(3,1)] [.bool false, .slice none 0 0, .slice none 0 0, .slice none 0 0]:=⟨abuild_struct (z:=[.bool false, .slice none 0 0, .slice none 0 0, .slice none 0 0]) (ask_of Tryz.zeroValue327) (askU Tryz.underlying327) (placesOf_cons (ask_of Tryz.sizeOf4) (placesOf_cons (ask_of Tryz.sizeOf22) (placesOf_cons (ask_of Tryz.sizeOf34) (placesOf_cons (ask_of Tryz.sizeOf34) rfl)))) rfl⟩
instance :TyZ Tryz.prog 387 5 true (.agg #[.int .i64 0, .bool false, .slice none 0 0, .slice none 0 0, .slice none 0 0]):=⟨ask_of Tryz.sizeOf387,ask_of Tryz.isAgg387,ask_of Tryz.zeroValue387⟩
instance :TyF Tryz.prog 387 0 0 1 false:=⟨⟨_,_,askU Tryz.underlying387,rfl,ask_of Tryz.sizeOf2,ask_of Tryz.isAgg2⟩,by decide⟩
instance :TyF Tryz.prog 387 1 1 4 true:=⟨⟨_,_,askU Tryz.underlying387,rfl,ask_of Tryz.sizeOf327,ask_of Tryz.isAgg327⟩,by decide⟩
instance :TyBd Tryz.prog 387 [(0,1),(1,4)] [.int .i64 0, .bool false, .slice none 0 0, .slice none 0 0, .slice none 0 0]:=⟨abuild_struct (z:=[.int .i64 0, .bool false, .slice none 0 0, .slice none 0 0, .slice none 0 0]) (ask_of Tryz.zeroValue387) (askU Tryz.underlying387) (placesOf_cons (ask_of Tryz.sizeOf2) (placesOf_cons (ask_of Tryz.sizeOf327) rfl)) rfl⟩
end Go.Proofs.YthoahlghegcfnaaGreatDoor
