/- What the types of the program say. -/
import Derived.Test.YthoahlghegcfnaaGreatDoorLfCore3
import Derived.Test.YthoahlghegcfnaaGreatDoorProg
import Derived.KernelRfl
set_option linter.unusedSimpArgs false
set_option linter.unusedVariables false
set_option maxRecDepth 100000
namespace Go.Proofs.YthoahlghegcfnaaGreatDoor
open Go Go.SC
theorem pok:POk Tryz.prog:=⟨by kernel_rfl,fun t i ht h=>by
 have hall:Tryz.prog.types.all (fun i=>decide (i.bytes≤131072))=true:=by kernel_rfl
 have h1:=Array.all_eq_true.1 hall
 unfold Tables.info? at h
 rw[if_pos ht]at h
 obtain⟨hlt,he⟩:=Array.getElem?_eq_some_iff.1 h
 have:=h1 t hlt
 rw[he]at this
 exact of_decide_eq_true this⟩
abbrev OK(f:Nat)(W:qJ):Prop:=∀args H Bd K,W args H Bd K→SCalls Tryz.prog f args H Bd K
theorem xN:Tryz.prog.types.size=485:=by kernel_rfl
instance :TyZ Tryz.prog 2 1 false (.int .i64 0):=⟨qD Tryz.sizeOf2,qD Tryz.isAgg2,qD Tryz.zeroValue2⟩
instance :TyI Tryz.prog 2 .i64:=⟨Tryz.underlying2⟩
instance :TyZ Tryz.prog 3 1 false (.int .i64 0):=⟨qD Tryz.sizeOf3,qD Tryz.isAgg3,qD Tryz.zeroValue3⟩
instance :TyI Tryz.prog 3 .i64:=⟨Tryz.underlying3⟩
instance :TyZ Tryz.prog 4 1 false (.bool false):=⟨qD Tryz.sizeOf4,qD Tryz.isAgg4,qD Tryz.zeroValue4⟩
instance :TyZ Tryz.prog 5 1 false (.int .u8 0):=⟨qD Tryz.sizeOf5,qD Tryz.isAgg5,qD Tryz.zeroValue5⟩
instance :TyI Tryz.prog 5 .u8:=⟨Tryz.underlying5⟩
instance :TyZ Tryz.prog 9 1 false (.string {data:= #[]}):=⟨qD Tryz.sizeOf9,qD Tryz.isAgg9,qD Tryz.zeroValue9⟩
instance :TyS Tryz.prog 9:=⟨Tryz.underlying9⟩
instance :TyZ Tryz.prog 22 1 false (.slice none 0 0):=⟨qD Tryz.sizeOf22,qD Tryz.isAgg22,qD Tryz.zeroValue22⟩
instance :TySl Tryz.prog 22 26 1 [(.slice none 0 0)]:=⟨Tryz.underlying22,qD Tryz.sizeOf26,⟨_,qD Tryz.zeroValue26,rfl⟩,rfl,rfl,by rw[xN];decide⟩
instance :TyZ Tryz.prog 23 1 false (.slice none 0 0):=⟨qD Tryz.sizeOf23,qD Tryz.isAgg23,qD Tryz.zeroValue23⟩
instance :TySl Tryz.prog 23 158 2 [.int .i64 0, .slice none 0 0]:=⟨Tryz.underlying23,qD Tryz.sizeOf158,⟨_,qD Tryz.zeroValue158,rfl⟩,rfl,rfl,by rw[xN];decide⟩
instance :TyZ Tryz.prog 25 2 true (.agg #[.slice none 0 0, .slice none 0 0]):=⟨qD Tryz.sizeOf25,qD Tryz.isAgg25,qD Tryz.zeroValue25⟩
instance :TyF Tryz.prog 25 0 0 1 false:=⟨⟨_,_,yP Tryz.underlying25,rfl,qD Tryz.sizeOf22,qD Tryz.isAgg22⟩,by decide⟩
instance :TyF Tryz.prog 25 1 1 1 false:=⟨⟨_,_,yP Tryz.underlying25,rfl,qD Tryz.sizeOf23,qD Tryz.isAgg23⟩,by decide⟩
instance :TyZ Tryz.prog 26 1 false (.slice none 0 0):=⟨qD Tryz.sizeOf26,qD Tryz.isAgg26,qD Tryz.zeroValue26⟩
instance :TySl Tryz.prog 26 5 1 [(.int .u8 0)]:=⟨Tryz.underlying26,qD Tryz.sizeOf5,⟨_,qD Tryz.zeroValue5,rfl⟩,rfl,rfl,by rw[xN];decide⟩
instance :TyBy Tryz.prog 26:=⟨_,Tryz.underlying26,Tryz.underlying5⟩
instance :TyZ Tryz.prog 34 1 false (.slice none 0 0):=⟨qD Tryz.sizeOf34,qD Tryz.isAgg34,qD Tryz.zeroValue34⟩
instance :TySl Tryz.prog 34 2 1 [(.int .i64 0)]:=⟨Tryz.underlying34,qD Tryz.sizeOf2,⟨_,qD Tryz.zeroValue2,rfl⟩,rfl,rfl,by rw[xN];decide⟩
instance :TyZ Tryz.prog 36 2 true (.agg #[.int .i64 0, .slice none 0 0]):=⟨qD Tryz.sizeOf36,qD Tryz.isAgg36,qD Tryz.zeroValue36⟩
instance :TyF Tryz.prog 36 0 0 1 false:=⟨⟨_,_,yP Tryz.underlying36,rfl,qD Tryz.sizeOf2,qD Tryz.isAgg2⟩,by decide⟩
instance :TyF Tryz.prog 36 1 1 1 false:=⟨⟨_,_,yP Tryz.underlying36,rfl,qD Tryz.sizeOf34,qD Tryz.isAgg34⟩,by decide⟩
instance :TyBd Tryz.prog 36 [(0,1),(1,1)] [.int .i64 0, .slice none 0 0]:=⟨qW (z:=[.int .i64 0, .slice none 0 0]) (qD Tryz.zeroValue36) (yP Tryz.underlying36) (qH (qD Tryz.sizeOf2) (qH (qD Tryz.sizeOf34) rfl)) rfl⟩
instance :TyZ Tryz.prog 38 1 false (.slice none 0 0):=⟨qD Tryz.sizeOf38,qD Tryz.isAgg38,qD Tryz.zeroValue38⟩
instance :TySl Tryz.prog 38 160 2 [.int .i64 0, .slice none 0 0]:=⟨Tryz.underlying38,qD Tryz.sizeOf160,⟨_,qD Tryz.zeroValue160,rfl⟩,rfl,rfl,by rw[xN];decide⟩
instance :TyZ Tryz.prog 40 2 true (.agg #[.slice none 0 0, .slice none 0 0]):=⟨qD Tryz.sizeOf40,qD Tryz.isAgg40,qD Tryz.zeroValue40⟩
instance :TyF Tryz.prog 40 0 0 1 false:=⟨⟨_,_,yP Tryz.underlying40,rfl,qD Tryz.sizeOf22,qD Tryz.isAgg22⟩,by decide⟩
instance :TyF Tryz.prog 40 1 1 1 false:=⟨⟨_,_,yP Tryz.underlying40,rfl,qD Tryz.sizeOf38,qD Tryz.isAgg38⟩,by decide⟩
instance :TyZ Tryz.prog 42 1 false (.slice none 0 0):=⟨qD Tryz.sizeOf42,qD Tryz.isAgg42,qD Tryz.zeroValue42⟩
instance :TySl Tryz.prog 42 192 2 [.string {data:= #[]}, .int .i64 0]:=⟨Tryz.underlying42,qD Tryz.sizeOf192,⟨_,qD Tryz.zeroValue192,rfl⟩,rfl,rfl,by rw[xN];decide⟩
instance :TyZ Tryz.prog 44 1 true (.agg #[.slice none 0 0]):=⟨qD Tryz.sizeOf44,qD Tryz.isAgg44,qD Tryz.zeroValue44⟩
instance :TyF Tryz.prog 44 0 0 1 false:=⟨⟨_,_,yP Tryz.underlying44,rfl,qD Tryz.sizeOf42,qD Tryz.isAgg42⟩,by decide⟩
instance :TyBd Tryz.prog 44 [(0,1)] [.slice none 0 0]:=⟨qW (z:=[.slice none 0 0]) (qD Tryz.zeroValue44) (yP Tryz.underlying44) (qH (qD Tryz.sizeOf42) rfl) rfl⟩
instance :TyZ Tryz.prog 46 9 true (.agg #[.int .i64 0, .int .i64 0, .int .i64 0, .int .i64 0, .int .i64 0, .int .i64 0, .bool false, .slice none 0 0, .slice none 0 0]):=⟨qD Tryz.sizeOf46,qD Tryz.isAgg46,qD Tryz.zeroValue46⟩
instance :TyF Tryz.prog 46 0 0 1 false:=⟨⟨_,_,yP Tryz.underlying46,rfl,qD Tryz.sizeOf2,qD Tryz.isAgg2⟩,by decide⟩
instance :TyF Tryz.prog 46 1 1 1 false:=⟨⟨_,_,yP Tryz.underlying46,rfl,qD Tryz.sizeOf2,qD Tryz.isAgg2⟩,by decide⟩
instance :TyF Tryz.prog 46 2 2 1 false:=⟨⟨_,_,yP Tryz.underlying46,rfl,qD Tryz.sizeOf2,qD Tryz.isAgg2⟩,by decide⟩
instance :TyF Tryz.prog 46 3 3 1 false:=⟨⟨_,_,yP Tryz.underlying46,rfl,qD Tryz.sizeOf2,qD Tryz.isAgg2⟩,by decide⟩
instance :TyF Tryz.prog 46 4 4 1 false:=⟨⟨_,_,yP Tryz.underlying46,rfl,qD Tryz.sizeOf2,qD Tryz.isAgg2⟩,by decide⟩
instance :TyF Tryz.prog 46 5 5 1 false:=⟨⟨_,_,yP Tryz.underlying46,rfl,qD Tryz.sizeOf2,qD Tryz.isAgg2⟩,by decide⟩
instance :TyF Tryz.prog 46 6 6 1 false:=⟨⟨_,_,yP Tryz.underlying46,rfl,qD Tryz.sizeOf4,qD Tryz.isAgg4⟩,by decide⟩
instance :TyF Tryz.prog 46 7 7 1 false:=⟨⟨_,_,yP Tryz.underlying46,rfl,qD Tryz.sizeOf26,qD Tryz.isAgg26⟩,by decide⟩
instance :TyF Tryz.prog 46 8 8 1 true:=⟨⟨_,_,yP Tryz.underlying46,rfl,qD Tryz.sizeOf44,qD Tryz.isAgg44⟩,by decide⟩
instance :TyBd Tryz.prog 46 [(0,1),(1,1),(2,1),(3,1),(4,1),(5,1),(6,1),(7,1),(8,1)] [.int .i64 0, .int .i64 0, .int .i64 0, .int .i64 0, .int .i64 0, .int .i64 0, .bool false, .slice none 0 0, .slice none 0 0]:=⟨qW (z:=[.int .i64 0, .int .i64 0, .int .i64 0, .int .i64 0, .int .i64 0, .int .i64 0, .bool false, .slice none 0 0, .slice none 0 0]) (qD Tryz.zeroValue46) (yP Tryz.underlying46) (qH (qD Tryz.sizeOf2) (qH (qD Tryz.sizeOf2) (qH (qD Tryz.sizeOf2) (qH (qD Tryz.sizeOf2) (qH (qD Tryz.sizeOf2) (qH (qD Tryz.sizeOf2) (qH (qD Tryz.sizeOf4) (qH (qD Tryz.sizeOf26) (qH (qD Tryz.sizeOf44) rfl))))))))) rfl⟩
instance :TyZ Tryz.prog 56 1 false (.slice none 0 0):=⟨qD Tryz.sizeOf56,qD Tryz.isAgg56,qD Tryz.zeroValue56⟩
instance :TySl Tryz.prog 56 203 2 [.slice none 0 0, .slice none 0 0]:=⟨Tryz.underlying56,qD Tryz.sizeOf203,⟨_,qD Tryz.zeroValue203,rfl⟩,rfl,rfl,by rw[xN];decide⟩
instance :TyZ Tryz.prog 71 2 true (.agg #[.int .i64 0, .int .i64 0]):=⟨qD Tryz.sizeOf71,qD Tryz.isAgg71,qD Tryz.zeroValue71⟩
instance :TyF Tryz.prog 71 0 0 1 false:=⟨⟨_,_,yP Tryz.underlying71,rfl,qD Tryz.sizeOf2,qD Tryz.isAgg2⟩,by decide⟩
instance :TyF Tryz.prog 71 1 1 1 false:=⟨⟨_,_,yP Tryz.underlying71,rfl,qD Tryz.sizeOf2,qD Tryz.isAgg2⟩,by decide⟩
instance :TyBd Tryz.prog 71 [(0,1),(1,1)] [.int .i64 0, .int .i64 0]:=⟨qW (z:=[.int .i64 0, .int .i64 0]) (qD Tryz.zeroValue71) (yP Tryz.underlying71) (qH (qD Tryz.sizeOf2) (qH (qD Tryz.sizeOf2) rfl)) rfl⟩
instance :TyZ Tryz.prog 100 3 true (.agg #[.int .i64 0, .slice none 0 0, .slice none 0 0]):=⟨qD Tryz.sizeOf100,qD Tryz.isAgg100,qD Tryz.zeroValue100⟩
instance :TyF Tryz.prog 100 0 0 1 false:=⟨⟨_,_,yP Tryz.underlying100,rfl,qD Tryz.sizeOf2,qD Tryz.isAgg2⟩,by decide⟩
instance :TyF Tryz.prog 100 1 1 1 false:=⟨⟨_,_,yP Tryz.underlying100,rfl,qD Tryz.sizeOf26,qD Tryz.isAgg26⟩,by decide⟩
instance :TyF Tryz.prog 100 2 2 1 false:=⟨⟨_,_,yP Tryz.underlying100,rfl,qD Tryz.sizeOf34,qD Tryz.isAgg34⟩,by decide⟩
instance :TyBd Tryz.prog 100 [(0,1),(1,1),(2,1)] [.int .i64 0, .slice none 0 0, .slice none 0 0]:=⟨qW (z:=[.int .i64 0, .slice none 0 0, .slice none 0 0]) (qD Tryz.zeroValue100) (yP Tryz.underlying100) (qH (qD Tryz.sizeOf2) (qH (qD Tryz.sizeOf26) (qH (qD Tryz.sizeOf34) rfl))) rfl⟩
instance :TyZ Tryz.prog 127 3 true (.agg #[.slice none 0 0, .slice none 0 0, .slice none 0 0]):=⟨qD Tryz.sizeOf127,qD Tryz.isAgg127,qD Tryz.zeroValue127⟩
instance :TyF Tryz.prog 127 0 0 1 false:=⟨⟨_,_,yP Tryz.underlying127,rfl,qD Tryz.sizeOf34,qD Tryz.isAgg34⟩,by decide⟩
instance :TyF Tryz.prog 127 1 1 1 false:=⟨⟨_,_,yP Tryz.underlying127,rfl,qD Tryz.sizeOf56,qD Tryz.isAgg56⟩,by decide⟩
instance :TyF Tryz.prog 127 2 2 1 false:=⟨⟨_,_,yP Tryz.underlying127,rfl,qD Tryz.sizeOf56,qD Tryz.isAgg56⟩,by decide⟩
instance :TyBd Tryz.prog 127 [(0,1),(1,1),(2,1)] [.slice none 0 0, .slice none 0 0, .slice none 0 0]:=⟨qW (z:=[.slice none 0 0, .slice none 0 0, .slice none 0 0]) (qD Tryz.zeroValue127) (yP Tryz.underlying127) (qH (qD Tryz.sizeOf34) (qH (qD Tryz.sizeOf56) (qH (qD Tryz.sizeOf56) rfl))) rfl⟩
instance :TyZ Tryz.prog 129 16 true (.agg #[.int .i64 0, .int .i64 0, .int .i64 0, .int .i64 0, .int .i64 0, .int .i64 0, .bool false, .slice none 0 0, .slice none 0 0, .slice none 0 0, .slice none 0 0, .slice none 0 0, .slice none 0 0, .slice none 0 0, .slice none 0 0, .slice none 0 0]):=⟨qD Tryz.sizeOf129,qD Tryz.isAgg129,qD Tryz.zeroValue129⟩
instance :TyF Tryz.prog 129 0 0 9 true:=⟨⟨_,_,yP Tryz.underlying129,rfl,qD Tryz.sizeOf46,qD Tryz.isAgg46⟩,by decide⟩
instance :TyF Tryz.prog 129 1 9 1 false:=⟨⟨_,_,yP Tryz.underlying129,rfl,qD Tryz.sizeOf34,qD Tryz.isAgg34⟩,by decide⟩
instance :TyF Tryz.prog 129 2 10 3 true:=⟨⟨_,_,yP Tryz.underlying129,rfl,qD Tryz.sizeOf127,qD Tryz.isAgg127⟩,by decide⟩
instance :TyF Tryz.prog 129 3 13 3 true:=⟨⟨_,_,yP Tryz.underlying129,rfl,qD Tryz.sizeOf127,qD Tryz.isAgg127⟩,by decide⟩
instance :TyBd Tryz.prog 129 [(0,9),(9,1),(10,3),(13,3)] [.int .i64 0, .int .i64 0, .int .i64 0, .int .i64 0, .int .i64 0, .int .i64 0, .bool false, .slice none 0 0, .slice none 0 0, .slice none 0 0, .slice none 0 0, .slice none 0 0, .slice none 0 0, .slice none 0 0, .slice none 0 0, .slice none 0 0]:=⟨qW (z:=[.int .i64 0, .int .i64 0, .int .i64 0, .int .i64 0, .int .i64 0, .int .i64 0, .bool false, .slice none 0 0, .slice none 0 0, .slice none 0 0, .slice none 0 0, .slice none 0 0, .slice none 0 0, .slice none 0 0, .slice none 0 0, .slice none 0 0]) (qD Tryz.zeroValue129) (yP Tryz.underlying129) (qH (qD Tryz.sizeOf46) (qH (qD Tryz.sizeOf34) (qH (qD Tryz.sizeOf127) (qH (qD Tryz.sizeOf127) rfl)))) rfl⟩
instance :TyZ Tryz.prog 133 16 true (.agg #[.int .i64 0, .int .i64 0, .int .i64 0, .int .i64 0, .int .i64 0, .int .i64 0, .int .i64 0, .bool false, .slice none 0 0, .slice none 0 0, .slice none 0 0, .slice none 0 0, .slice none 0 0, .slice none 0 0, .slice none 0 0, .slice none 0 0]):=⟨qD Tryz.sizeOf133,qD Tryz.isAgg133,qD Tryz.zeroValue133⟩
instance :TyF Tryz.prog 133 0 0 1 false:=⟨⟨_,_,yP Tryz.underlying133,rfl,qD Tryz.sizeOf2,qD Tryz.isAgg2⟩,by decide⟩
instance :TyF Tryz.prog 133 1 1 9 true:=⟨⟨_,_,yP Tryz.underlying133,rfl,qD Tryz.sizeOf46,qD Tryz.isAgg46⟩,by decide⟩
instance :TyF Tryz.prog 133 2 10 3 true:=⟨⟨_,_,yP Tryz.underlying133,rfl,qD Tryz.sizeOf127,qD Tryz.isAgg127⟩,by decide⟩
instance :TyF Tryz.prog 133 3 13 3 true:=⟨⟨_,_,yP Tryz.underlying133,rfl,qD Tryz.sizeOf127,qD Tryz.isAgg127⟩,by decide⟩
instance :TyBd Tryz.prog 133 [(0,1),(1,9),(10,3),(13,3)] [.int .i64 0, .int .i64 0, .int .i64 0, .int .i64 0, .int .i64 0, .int .i64 0, .int .i64 0, .bool false, .slice none 0 0, .slice none 0 0, .slice none 0 0, .slice none 0 0, .slice none 0 0, .slice none 0 0, .slice none 0 0, .slice none 0 0]:=⟨qW (z:=[.int .i64 0, .int .i64 0, .int .i64 0, .int .i64 0, .int .i64 0, .int .i64 0, .int .i64 0, .bool false, .slice none 0 0, .slice none 0 0, .slice none 0 0, .slice none 0 0, .slice none 0 0, .slice none 0 0, .slice none 0 0, .slice none 0 0]) (qD Tryz.zeroValue133) (yP Tryz.underlying133) (qH (qD Tryz.sizeOf2) (qH (qD Tryz.sizeOf46) (qH (qD Tryz.sizeOf127) (qH (qD Tryz.sizeOf127) rfl)))) rfl⟩
instance :TyZ Tryz.prog 135 1 false (.slice none 0 0):=⟨qD Tryz.sizeOf135,qD Tryz.isAgg135,qD Tryz.zeroValue135⟩
instance :TySl Tryz.prog 135 224 2 [.slice none 0 0, .int .i64 0]:=⟨Tryz.underlying135,qD Tryz.sizeOf224,⟨_,qD Tryz.zeroValue224,rfl⟩,rfl,rfl,by rw[xN];decide⟩
instance :TyZ Tryz.prog 144 2 true (.agg #[.int .i64 0, .slice none 0 0]):=⟨qD Tryz.sizeOf144,qD Tryz.isAgg144,qD Tryz.zeroValue144⟩
instance :TyF Tryz.prog 144 1 1 1 false:=⟨⟨_,_,yP Tryz.underlying144,rfl,qD Tryz.sizeOf135,qD Tryz.isAgg135⟩,by decide⟩
instance :TyBd Tryz.prog 144 [(0,1),(1,1)] [.int .i64 0, .slice none 0 0]:=⟨qW (z:=[.int .i64 0, .slice none 0 0]) (qD Tryz.zeroValue144) (yP Tryz.underlying144) (qH (qD Tryz.sizeOf2) (qH (qD Tryz.sizeOf135) rfl)) rfl⟩
instance :TyZ Tryz.prog 158 2 true (.agg #[.int .i64 0, .slice none 0 0]):=⟨qD Tryz.sizeOf158,qD Tryz.isAgg158,qD Tryz.zeroValue158⟩
instance :TyF Tryz.prog 158 0 0 1 false:=⟨⟨_,_,yP Tryz.underlying158,rfl,qD Tryz.sizeOf2,qD Tryz.isAgg2⟩,by decide⟩
instance :TyF Tryz.prog 158 1 1 1 false:=⟨⟨_,_,yP Tryz.underlying158,rfl,qD Tryz.sizeOf26,qD Tryz.isAgg26⟩,by decide⟩
instance :TyZ Tryz.prog 160 2 true (.agg #[.int .i64 0, .slice none 0 0]):=⟨qD Tryz.sizeOf160,qD Tryz.isAgg160,qD Tryz.zeroValue160⟩
instance :TyF Tryz.prog 160 0 0 1 false:=⟨⟨_,_,yP Tryz.underlying160,rfl,qD Tryz.sizeOf2,qD Tryz.isAgg2⟩,by decide⟩
instance :TyF Tryz.prog 160 1 1 1 false:=⟨⟨_,_,yP Tryz.underlying160,rfl,qD Tryz.sizeOf26,qD Tryz.isAgg26⟩,by decide⟩
instance :TyZ Tryz.prog 163 3 true (.agg #[.slice none 0 0, .slice none 0 0, .int .i64 0]):=⟨qD Tryz.sizeOf163,qD Tryz.isAgg163,qD Tryz.zeroValue163⟩
instance :TyF Tryz.prog 163 0 0 1 false:=⟨⟨_,_,yP Tryz.underlying163,rfl,qD Tryz.sizeOf34,qD Tryz.isAgg34⟩,by decide⟩
instance :TyF Tryz.prog 163 1 1 1 false:=⟨⟨_,_,yP Tryz.underlying163,rfl,qD Tryz.sizeOf135,qD Tryz.isAgg135⟩,by decide⟩
instance :TyF Tryz.prog 163 2 2 1 false:=⟨⟨_,_,yP Tryz.underlying163,rfl,qD Tryz.sizeOf2,qD Tryz.isAgg2⟩,by decide⟩
instance :TyBd Tryz.prog 163 [(0,1),(1,1),(2,1)] [.slice none 0 0, .slice none 0 0, .int .i64 0]:=⟨qW (z:=[.slice none 0 0, .slice none 0 0, .int .i64 0]) (qD Tryz.zeroValue163) (yP Tryz.underlying163) (qH (qD Tryz.sizeOf34) (qH (qD Tryz.sizeOf135) (qH (qD Tryz.sizeOf2) rfl))) rfl⟩
instance :TyF Tryz.prog 178 0 0 2 true:=⟨⟨_,_,yP Tryz.underlying178,rfl,qD Tryz.sizeOf40,qD Tryz.isAgg40⟩,by decide⟩
instance :TyF Tryz.prog 178 1 2 1 false:=⟨⟨_,_,yP Tryz.underlying178,rfl,qD Tryz.sizeOf34,qD Tryz.isAgg34⟩,by decide⟩
instance :TyF Tryz.prog 178 2 3 1 false:=⟨⟨_,_,yP Tryz.underlying178,rfl,qD Tryz.sizeOf135,qD Tryz.isAgg135⟩,by decide⟩
instance :TyF Tryz.prog 178 3 4 1 false:=⟨⟨_,_,yP Tryz.underlying178,rfl,qD Tryz.sizeOf3,qD Tryz.isAgg3⟩,by decide⟩
instance :TyBd Tryz.prog 178 [(0,2),(2,1),(3,1),(4,1)] [.slice none 0 0, .slice none 0 0, .slice none 0 0, .slice none 0 0, .int .i64 0]:=⟨qW (z:=[.slice none 0 0, .slice none 0 0, .slice none 0 0, .slice none 0 0, .int .i64 0]) (qD Tryz.zeroValue178) (yP Tryz.underlying178) (qH (qD Tryz.sizeOf40) (qH (qD Tryz.sizeOf34) (qH (qD Tryz.sizeOf135) (qH (qD Tryz.sizeOf3) rfl)))) rfl⟩
instance :TyZ Tryz.prog 181 3 true (.agg #[.int .i64 0, .int .i64 0, .slice none 0 0]):=⟨qD Tryz.sizeOf181,qD Tryz.isAgg181,qD Tryz.zeroValue181⟩
instance :TyF Tryz.prog 181 0 0 1 false:=⟨⟨_,_,yP Tryz.underlying181,rfl,qD Tryz.sizeOf2,qD Tryz.isAgg2⟩,by decide⟩
instance :TyF Tryz.prog 181 1 1 1 false:=⟨⟨_,_,yP Tryz.underlying181,rfl,qD Tryz.sizeOf2,qD Tryz.isAgg2⟩,by decide⟩
instance :TyF Tryz.prog 181 2 2 1 false:=⟨⟨_,_,yP Tryz.underlying181,rfl,qD Tryz.sizeOf26,qD Tryz.isAgg26⟩,by decide⟩
instance :TyBd Tryz.prog 181 [(0,1),(1,1),(2,1)] [.int .i64 0, .int .i64 0, .slice none 0 0]:=⟨qW (z:=[.int .i64 0, .int .i64 0, .slice none 0 0]) (qD Tryz.zeroValue181) (yP Tryz.underlying181) (qH (qD Tryz.sizeOf2) (qH (qD Tryz.sizeOf2) (qH (qD Tryz.sizeOf26) rfl))) rfl⟩
instance :TyZ Tryz.prog 192 2 true (.agg #[.string {data:= #[]}, .int .i64 0]):=⟨qD Tryz.sizeOf192,qD Tryz.isAgg192,qD Tryz.zeroValue192⟩
instance :TyF Tryz.prog 192 0 0 1 false:=⟨⟨_,_,yP Tryz.underlying192,rfl,qD Tryz.sizeOf9,qD Tryz.isAgg9⟩,by decide⟩
instance :TyF Tryz.prog 192 1 1 1 false:=⟨⟨_,_,yP Tryz.underlying192,rfl,qD Tryz.sizeOf2,qD Tryz.isAgg2⟩,by decide⟩
instance :TyBd Tryz.prog 192 [(0,1),(1,1)] [.string {data:= #[]}, .int .i64 0]:=⟨qW (z:=[.string {data:= #[]}, .int .i64 0]) (qD Tryz.zeroValue192) (yP Tryz.underlying192) (qH (qD Tryz.sizeOf9) (qH (qD Tryz.sizeOf2) rfl)) rfl⟩
instance :TyZ Tryz.prog 203 2 true (.agg #[.slice none 0 0, .slice none 0 0]):=⟨qD Tryz.sizeOf203,qD Tryz.isAgg203,qD Tryz.zeroValue203⟩
instance :TyF Tryz.prog 203 0 0 1 false:=⟨⟨_,_,yP Tryz.underlying203,rfl,qD Tryz.sizeOf34,qD Tryz.isAgg34⟩,by decide⟩
instance :TyF Tryz.prog 203 1 1 1 false:=⟨⟨_,_,yP Tryz.underlying203,rfl,qD Tryz.sizeOf34,qD Tryz.isAgg34⟩,by decide⟩
instance :TyBd Tryz.prog 203 [(0,1),(1,1)] [.slice none 0 0, .slice none 0 0]:=⟨qW (z:=[.slice none 0 0, .slice none 0 0]) (qD Tryz.zeroValue203) (yP Tryz.underlying203) (qH (qD Tryz.sizeOf34) (qH (qD Tryz.sizeOf34) rfl)) rfl⟩
instance :TyZ Tryz.prog 216 10 true (.agg #[.int .i64 0, .int .i64 0, .int .i64 0, .int .i64 0, .int .i64 0, .int .i64 0, .int .i64 0, .bool false, .slice none 0 0, .slice none 0 0]):=⟨qD Tryz.sizeOf216,qD Tryz.isAgg216,qD Tryz.zeroValue216⟩
instance :TyF Tryz.prog 216 0 0 1 false:=⟨⟨_,_,yP Tryz.underlying216,rfl,qD Tryz.sizeOf2,qD Tryz.isAgg2⟩,by decide⟩
instance :TyF Tryz.prog 216 1 1 9 true:=⟨⟨_,_,yP Tryz.underlying216,rfl,qD Tryz.sizeOf46,qD Tryz.isAgg46⟩,by decide⟩
instance :TyBd Tryz.prog 216 [(0,1),(1,9)] [.int .i64 0, .int .i64 0, .int .i64 0, .int .i64 0, .int .i64 0, .int .i64 0, .int .i64 0, .bool false, .slice none 0 0, .slice none 0 0]:=⟨qW (z:=[.int .i64 0, .int .i64 0, .int .i64 0, .int .i64 0, .int .i64 0, .int .i64 0, .int .i64 0, .bool false, .slice none 0 0, .slice none 0 0]) (qD Tryz.zeroValue216) (yP Tryz.underlying216) (qH (qD Tryz.sizeOf2) (qH (qD Tryz.sizeOf46) rfl)) rfl⟩
instance :TyZ Tryz.prog 219 4 true (.agg #[.int .i64 0, .slice none 0 0, .slice none 0 0, .slice none 0 0]):=⟨qD Tryz.sizeOf219,qD Tryz.isAgg219,qD Tryz.zeroValue219⟩
instance :TyF Tryz.prog 219 0 0 1 false:=⟨⟨_,_,yP Tryz.underlying219,rfl,qD Tryz.sizeOf2,qD Tryz.isAgg2⟩,by decide⟩
instance :TyF Tryz.prog 219 1 1 3 true:=⟨⟨_,_,yP Tryz.underlying219,rfl,qD Tryz.sizeOf127,qD Tryz.isAgg127⟩,by decide⟩
instance :TyBd Tryz.prog 219 [(0,1),(1,3)] [.int .i64 0, .slice none 0 0, .slice none 0 0, .slice none 0 0]:=⟨qW (z:=[.int .i64 0, .slice none 0 0, .slice none 0 0, .slice none 0 0]) (qD Tryz.zeroValue219) (yP Tryz.underlying219) (qH (qD Tryz.sizeOf2) (qH (qD Tryz.sizeOf127) rfl)) rfl⟩
instance :TyZ Tryz.prog 224 2 true (.agg #[.slice none 0 0, .int .i64 0]):=⟨qD Tryz.sizeOf224,qD Tryz.isAgg224,qD Tryz.zeroValue224⟩
instance :TyF Tryz.prog 224 0 0 1 false:=⟨⟨_,_,yP Tryz.underlying224,rfl,qD Tryz.sizeOf26,qD Tryz.isAgg26⟩,by decide⟩
instance :TyF Tryz.prog 224 1 1 1 false:=⟨⟨_,_,yP Tryz.underlying224,rfl,qD Tryz.sizeOf2,qD Tryz.isAgg2⟩,by decide⟩
instance :TyBd Tryz.prog 224 [(0,1),(1,1)] [.slice none 0 0, .int .i64 0]:=⟨qW (z:=[.slice none 0 0, .int .i64 0]) (qD Tryz.zeroValue224) (yP Tryz.underlying224) (qH (qD Tryz.sizeOf26) (qH (qD Tryz.sizeOf2) rfl)) rfl⟩
instance :TyZ Tryz.prog 260 4 true (.agg #[.int .i64 0, .int .i64 0, .int .i64 0, .slice none 0 0]):=⟨qD Tryz.sizeOf260,qD Tryz.isAgg260,qD Tryz.zeroValue260⟩
instance :TyF Tryz.prog 260 0 0 1 false:=⟨⟨_,_,yP Tryz.underlying260,rfl,qD Tryz.sizeOf2,qD Tryz.isAgg2⟩,by decide⟩
instance :TyF Tryz.prog 260 1 1 3 true:=⟨⟨_,_,yP Tryz.underlying260,rfl,qD Tryz.sizeOf181,qD Tryz.isAgg181⟩,by decide⟩
instance :TyBd Tryz.prog 260 [(0,1),(1,3)] [.int .i64 0, .int .i64 0, .int .i64 0, .slice none 0 0]:=⟨qW (z:=[.int .i64 0, .int .i64 0, .int .i64 0, .slice none 0 0]) (qD Tryz.zeroValue260) (yP Tryz.underlying260) (qH (qD Tryz.sizeOf2) (qH (qD Tryz.sizeOf181) rfl)) rfl⟩
instance :TyF Tryz.prog 304 0 0 1 false:=⟨⟨_,_,yP Tryz.underlying304,rfl,qD Tryz.sizeOf26,qD Tryz.isAgg26⟩,by decide⟩
instance :TyF Tryz.prog 304 1 1 1 false:=⟨⟨_,_,yP Tryz.underlying304,rfl,qD Tryz.sizeOf4,qD Tryz.isAgg4⟩,by decide⟩
instance :TyBd Tryz.prog 304 [(0,1),(1,1)] [.slice none 0 0, .bool false]:=⟨qW (z:=[.slice none 0 0, .bool false]) (qD Tryz.zeroValue304) (yP Tryz.underlying304) (qH (qD Tryz.sizeOf26) (qH (qD Tryz.sizeOf4) rfl)) rfl⟩
instance :TyZ Tryz.prog 308 2 true (.agg #[.int .i64 0, .slice none 0 0]):=⟨qD Tryz.sizeOf308,qD Tryz.isAgg308,qD Tryz.zeroValue308⟩
instance :TyF Tryz.prog 308 0 0 1 false:=⟨⟨_,_,yP Tryz.underlying308,rfl,qD Tryz.sizeOf2,qD Tryz.isAgg2⟩,by decide⟩
instance :TyF Tryz.prog 308 1 1 1 false:=⟨⟨_,_,yP Tryz.underlying308,rfl,qD Tryz.sizeOf26,qD Tryz.isAgg26⟩,by decide⟩
instance :TyBd Tryz.prog 308 [(0,1),(1,1)] [.int .i64 0, .slice none 0 0]:=⟨qW (z:=[.int .i64 0, .slice none 0 0]) (qD Tryz.zeroValue308) (yP Tryz.underlying308) (qH (qD Tryz.sizeOf2) (qH (qD Tryz.sizeOf26) rfl)) rfl⟩
instance :TyZ Tryz.prog 327 4 true (.agg #[.bool false, .slice none 0 0, .slice none 0 0, .slice none 0 0]):=⟨qD Tryz.sizeOf327,qD Tryz.isAgg327,qD Tryz.zeroValue327⟩
instance :TyF Tryz.prog 327 0 0 1 false:=⟨⟨_,_,yP Tryz.underlying327,rfl,qD Tryz.sizeOf4,qD Tryz.isAgg4⟩,by decide⟩
instance :TyF Tryz.prog 327 1 1 1 false:=⟨⟨_,_,yP Tryz.underlying327,rfl,qD Tryz.sizeOf22,qD Tryz.isAgg22⟩,by decide⟩
instance :TyF Tryz.prog 327 2 2 1 false:=⟨⟨_,_,yP Tryz.underlying327,rfl,qD Tryz.sizeOf34,qD Tryz.isAgg34⟩,by decide⟩
instance :TyF Tryz.prog 327 3 3 1 false:=⟨⟨_,_,yP Tryz.underlying327,rfl,qD Tryz.sizeOf34,qD Tryz.isAgg34⟩,by decide⟩
instance :TyBd Tryz.prog 327 [(0,1),(1,1),(2,1),(3,1)] [.bool false, .slice none 0 0, .slice none 0 0, .slice none 0 0]:=⟨qW (z:=[.bool false, .slice none 0 0, .slice none 0 0, .slice none 0 0]) (qD Tryz.zeroValue327) (yP Tryz.underlying327) (qH (qD Tryz.sizeOf4) (qH (qD Tryz.sizeOf22) (qH (qD Tryz.sizeOf34) (qH (qD Tryz.sizeOf34) rfl)))) rfl⟩
instance :TySl Tryz.prog 365 3 1 [(.int .i64 0)]:=⟨Tryz.underlying365,qD Tryz.sizeOf3,⟨_,qD Tryz.zeroValue3,rfl⟩,rfl,rfl,by rw[xN];decide⟩
instance :TyZ Tryz.prog 387 5 true (.agg #[.int .i64 0, .bool false, .slice none 0 0, .slice none 0 0, .slice none 0 0]):=⟨qD Tryz.sizeOf387,qD Tryz.isAgg387,qD Tryz.zeroValue387⟩
instance :TyF Tryz.prog 387 0 0 1 false:=⟨⟨_,_,yP Tryz.underlying387,rfl,qD Tryz.sizeOf2,qD Tryz.isAgg2⟩,by decide⟩
instance :TyF Tryz.prog 387 1 1 4 true:=⟨⟨_,_,yP Tryz.underlying387,rfl,qD Tryz.sizeOf327,qD Tryz.isAgg327⟩,by decide⟩
instance :TyBd Tryz.prog 387 [(0,1),(1,4)] [.int .i64 0, .bool false, .slice none 0 0, .slice none 0 0, .slice none 0 0]:=⟨qW (z:=[.int .i64 0, .bool false, .slice none 0 0, .slice none 0 0, .slice none 0 0]) (qD Tryz.zeroValue387) (yP Tryz.underlying387) (qH (qD Tryz.sizeOf2) (qH (qD Tryz.sizeOf327) rfl)) rfl⟩
instance :TySl Tryz.prog 413 34 1 [(.slice none 0 0)]:=⟨Tryz.underlying413,qD Tryz.sizeOf34,⟨_,qD Tryz.zeroValue34,rfl⟩,rfl,rfl,by rw[xN];decide⟩
instance :TySl Tryz.prog 434 4 1 [(.bool false)]:=⟨Tryz.underlying434,qD Tryz.sizeOf4,⟨_,qD Tryz.zeroValue4,rfl⟩,rfl,rfl,by rw[xN];decide⟩
instance :TyZ Tryz.prog 460 1 false (.map none):=⟨qD Tryz.sizeOf460,qD Tryz.isAgg460,qD Tryz.zeroValue460⟩
instance :TyF Tryz.prog 462 0 0 1 true:=⟨⟨_,_,yP Tryz.underlying462,rfl,qD Tryz.sizeOf44,qD Tryz.isAgg44⟩,by decide⟩
instance :TyF Tryz.prog 462 1 1 1 false:=⟨⟨_,_,yP Tryz.underlying462,rfl,qD Tryz.sizeOf34,qD Tryz.isAgg34⟩,by decide⟩
instance :TyF Tryz.prog 462 2 2 1 false:=⟨⟨_,_,yP Tryz.underlying462,rfl,qD Tryz.sizeOf34,qD Tryz.isAgg34⟩,by decide⟩
instance :TyF Tryz.prog 462 3 3 1 false:=⟨⟨_,_,yP Tryz.underlying462,rfl,qD Tryz.sizeOf34,qD Tryz.isAgg34⟩,by decide⟩
instance :TyF Tryz.prog 462 4 4 1 false:=⟨⟨_,_,yP Tryz.underlying462,rfl,qD Tryz.sizeOf460,qD Tryz.isAgg460⟩,by decide⟩
instance :TyZ Tryz.prog 466 2 true (.agg #[.int .i64 0, .int .i64 0]):=⟨qD Tryz.sizeOf466,qD Tryz.isAgg466,qD Tryz.zeroValue466⟩
end Go.Proofs.YthoahlghegcfnaaGreatDoor
