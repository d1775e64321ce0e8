/- What the types of the program say. -/
import Derived.Test.YtogofkjpbpgneaaGreatDoorFmCore3
import Derived.Test.YtogofkjpbpgneaaGreatDoorProg
import Derived.KernelRfl
set_option linter.unusedSimpArgs false
set_option linter.unusedVariables false
set_option maxRecDepth 100000
namespace Go.Proofs.YtogofkjpbpgneaaGreatDoor
open Go Go.SC Tryz
theorem pok:POk Tryz.prog:=⟨by kernel_rfl,fun t i ht h=>by
 have hall:Tryz.prog.types.all (fun i=>decide (i.bytes<=131072))=true:=by kernel_rfl
 have h1:=Array.all_eq_true.1 hall
 unfold Tables.info? at h
 rw[if_pos ht]at h
 obtain⟨hlt,he⟩:=xS.1 h
 have:=h1 t hlt
 rw[he]at this
 exact of_decide_eq_true this⟩
abbrev OK(f:Nat)(W:qH):Prop:=∀args H Bd K,W args H Bd K->SCalls Tryz.prog f args H Bd K
theorem xN:Tryz.prog.types.size=372:=by kernel_rfl
instance :TyZ Tryz.prog 2 1 false (.int .i64 0):=⟨qC sizeOf2,qC isAgg2,qC zeroValue2⟩
instance :TyI Tryz.prog 2 .i64:=⟨underlying2⟩
instance :TyZ Tryz.prog 3 1 false (.int .i64 0):=⟨qC sizeOf3,qC isAgg3,qC zeroValue3⟩
instance :TyI Tryz.prog 3 .i64:=⟨underlying3⟩
instance :TyZ Tryz.prog 4 1 false (.bool false):=⟨qC sizeOf4,qC isAgg4,qC zeroValue4⟩
instance :TyZ Tryz.prog 5 1 false (.int .u8 0):=⟨qC sizeOf5,qC isAgg5,qC zeroValue5⟩
instance :TyI Tryz.prog 5 .u8:=⟨underlying5⟩
instance :TyZ Tryz.prog 9 1 false (.string {data:= #[]}):=⟨qC sizeOf9,qC isAgg9,qC zeroValue9⟩
instance :TyS Tryz.prog 9:=⟨underlying9⟩
instance :TyZ Tryz.prog 22 1 false (.slice none 0 0):=⟨qC sizeOf22,qC isAgg22,qC zeroValue22⟩
instance :TySl Tryz.prog 22 48 1 [(.slice none 0 0)]:=⟨underlying22,qC sizeOf48,⟨_,qC zeroValue48,rfl⟩,rfl,rfl,by rw[xN];decide⟩
instance :TyZ Tryz.prog 23 1 false (.slice none 0 0):=⟨qC sizeOf23,qC isAgg23,qC zeroValue23⟩
instance :TySl Tryz.prog 23 96 2 [.int .i64 0, .slice none 0 0]:=⟨underlying23,qC sizeOf96,⟨_,qC zeroValue96,rfl⟩,rfl,rfl,by rw[xN];decide⟩
instance :TyZ Tryz.prog 25 2 true (.agg #[.slice none 0 0, .slice none 0 0]):=⟨qC sizeOf25,qC isAgg25,qC zeroValue25⟩
instance :TyF Tryz.prog 25 0 0 1 false:=⟨⟨_,_,yE underlying25,rfl,qC sizeOf22,qC isAgg22⟩,by decide⟩
instance :TyF Tryz.prog 25 1 1 1 false:=⟨⟨_,_,yE underlying25,rfl,qC sizeOf23,qC isAgg23⟩,by decide⟩
instance :TyZ Tryz.prog 27 1 false (.slice none 0 0):=⟨qC sizeOf27,qC isAgg27,qC zeroValue27⟩
instance :TySl Tryz.prog 27 128 3 [.int .i64 0, .int .i64 0, .slice none 0 0]:=⟨underlying27,qC sizeOf128,⟨_,qC zeroValue128,rfl⟩,rfl,rfl,by rw[xN];decide⟩
instance :TyZ Tryz.prog 29 2 true (.agg #[.int .i64 0, .slice none 0 0]):=⟨qC sizeOf29,qC isAgg29,qC zeroValue29⟩
instance :TyF Tryz.prog 29 0 0 1 false:=⟨⟨_,_,yE underlying29,rfl,qC sizeOf2,qC isAgg2⟩,by decide⟩
instance :TyF Tryz.prog 29 1 1 1 false:=⟨⟨_,_,yE underlying29,rfl,qC sizeOf27,qC isAgg27⟩,by decide⟩
instance :TyBd Tryz.prog 29 [(0,1),(1,1)] [.int .i64 0, .slice none 0 0]:=⟨qP (z:=[.int .i64 0, .slice none 0 0]) (qC zeroValue29) (yE underlying29) (qF (qC sizeOf2) (qF (qC sizeOf27) rfl)) rfl⟩
instance :TyZ Tryz.prog 31 1 false (.slice none 0 0):=⟨qC sizeOf31,qC isAgg31,qC zeroValue31⟩
instance :TySl Tryz.prog 31 105 2 [.int .i64 0, .slice none 0 0]:=⟨underlying31,qC sizeOf105,⟨_,qC zeroValue105,rfl⟩,rfl,rfl,by rw[xN];decide⟩
instance :TyZ Tryz.prog 33 2 true (.agg #[.slice none 0 0, .slice none 0 0]):=⟨qC sizeOf33,qC isAgg33,qC zeroValue33⟩
instance :TyF Tryz.prog 33 0 0 1 false:=⟨⟨_,_,yE underlying33,rfl,qC sizeOf22,qC isAgg22⟩,by decide⟩
instance :TyF Tryz.prog 33 1 1 1 false:=⟨⟨_,_,yE underlying33,rfl,qC sizeOf31,qC isAgg31⟩,by decide⟩
instance :TyBd Tryz.prog 33 [(0,1),(1,1)] [.slice none 0 0, .slice none 0 0]:=⟨qP (z:=[.slice none 0 0, .slice none 0 0]) (qC zeroValue33) (yE underlying33) (qF (qC sizeOf22) (qF (qC sizeOf31) rfl)) rfl⟩
instance :TyZ Tryz.prog 48 1 false (.slice none 0 0):=⟨qC sizeOf48,qC isAgg48,qC zeroValue48⟩
instance :TySl Tryz.prog 48 5 1 [(.int .u8 0)]:=⟨underlying48,qC sizeOf5,⟨_,qC zeroValue5,rfl⟩,rfl,rfl,by rw[xN];decide⟩
instance :TyBy Tryz.prog 48:=⟨_,underlying48,underlying5⟩
instance :TyZ Tryz.prog 49 1 false (.slice none 0 0):=⟨qC sizeOf49,qC isAgg49,qC zeroValue49⟩
instance :TySl Tryz.prog 49 195 2 [.string {data:= #[]}, .int .i64 0]:=⟨underlying49,qC sizeOf195,⟨_,qC zeroValue195,rfl⟩,rfl,rfl,by rw[xN];decide⟩
instance :TyZ Tryz.prog 51 1 true (.agg #[.slice none 0 0]):=⟨qC sizeOf51,qC isAgg51,qC zeroValue51⟩
instance :TyF Tryz.prog 51 0 0 1 false:=⟨⟨_,_,yE underlying51,rfl,qC sizeOf49,qC isAgg49⟩,by decide⟩
instance :TyBd Tryz.prog 51 [(0,1)] [.slice none 0 0]:=⟨qP (z:=[.slice none 0 0]) (qC zeroValue51) (yE underlying51) (qF (qC sizeOf49) rfl) rfl⟩
instance :TyZ Tryz.prog 53 9 true (.agg #[.int .i64 0, .int .i64 0, .int .i64 0, .int .i64 0, .int .i64 0, .int .i64 0, .bool false, .slice none 0 0, .slice none 0 0]):=⟨qC sizeOf53,qC isAgg53,qC zeroValue53⟩
instance :TyF Tryz.prog 53 0 0 1 false:=⟨⟨_,_,yE underlying53,rfl,qC sizeOf2,qC isAgg2⟩,by decide⟩
instance :TyF Tryz.prog 53 1 1 1 false:=⟨⟨_,_,yE underlying53,rfl,qC sizeOf2,qC isAgg2⟩,by decide⟩
instance :TyF Tryz.prog 53 2 2 1 false:=⟨⟨_,_,yE underlying53,rfl,qC sizeOf2,qC isAgg2⟩,by decide⟩
instance :TyF Tryz.prog 53 3 3 1 false:=⟨⟨_,_,yE underlying53,rfl,qC sizeOf2,qC isAgg2⟩,by decide⟩
instance :TyF Tryz.prog 53 4 4 1 false:=⟨⟨_,_,yE underlying53,rfl,qC sizeOf2,qC isAgg2⟩,by decide⟩
instance :TyF Tryz.prog 53 5 5 1 false:=⟨⟨_,_,yE underlying53,rfl,qC sizeOf2,qC isAgg2⟩,by decide⟩
instance :TyF Tryz.prog 53 6 6 1 false:=⟨⟨_,_,yE underlying53,rfl,qC sizeOf4,qC isAgg4⟩,by decide⟩
instance :TyF Tryz.prog 53 7 7 1 false:=⟨⟨_,_,yE underlying53,rfl,qC sizeOf48,qC isAgg48⟩,by decide⟩
instance :TyF Tryz.prog 53 8 8 1 true:=⟨⟨_,_,yE underlying53,rfl,qC sizeOf51,qC isAgg51⟩,by decide⟩
instance :TyBd Tryz.prog 53 [(0,1),(1,1),(2,1),(3,1),(4,1),(5,1),(6,1),(7,1),(8,1)] [.int .i64 0, .int .i64 0, .int .i64 0, .int .i64 0, .int .i64 0, .int .i64 0, .bool false, .slice none 0 0, .slice none 0 0]:=⟨qP (z:=[.int .i64 0, .int .i64 0, .int .i64 0, .int .i64 0, .int .i64 0, .int .i64 0, .bool false, .slice none 0 0, .slice none 0 0]) (qC zeroValue53) (yE underlying53) (qF (qC sizeOf2) (qF (qC sizeOf2) (qF (qC sizeOf2) (qF (qC sizeOf2) (qF (qC sizeOf2) (qF (qC sizeOf2) (qF (qC sizeOf4) (qF (qC sizeOf48) (qF (qC sizeOf51) rfl))))))))) rfl⟩
instance :TyZ Tryz.prog 54 1 false (.slice none 0 0):=⟨qC sizeOf54,qC isAgg54,qC zeroValue54⟩
instance :TySl Tryz.prog 54 2 1 [(.int .i64 0)]:=⟨underlying54,qC sizeOf2,⟨_,qC zeroValue2,rfl⟩,rfl,rfl,by rw[xN];decide⟩
instance :TyZ Tryz.prog 55 1 false (.slice none 0 0):=⟨qC sizeOf55,qC isAgg55,qC zeroValue55⟩
instance :TySl Tryz.prog 55 234 2 [.slice none 0 0, .slice none 0 0]:=⟨underlying55,qC sizeOf234,⟨_,qC zeroValue234,rfl⟩,rfl,rfl,by rw[xN];decide⟩
instance :TyZ Tryz.prog 57 3 true (.agg #[.slice none 0 0, .slice none 0 0, .slice none 0 0]):=⟨qC sizeOf57,qC isAgg57,qC zeroValue57⟩
instance :TyF Tryz.prog 57 0 0 1 false:=⟨⟨_,_,yE underlying57,rfl,qC sizeOf54,qC isAgg54⟩,by decide⟩
instance :TyF Tryz.prog 57 1 1 1 false:=⟨⟨_,_,yE underlying57,rfl,qC sizeOf55,qC isAgg55⟩,by decide⟩
instance :TyF Tryz.prog 57 2 2 1 false:=⟨⟨_,_,yE underlying57,rfl,qC sizeOf55,qC isAgg55⟩,by decide⟩
instance :TyBd Tryz.prog 57 [(0,1),(1,1),(2,1)] [.slice none 0 0, .slice none 0 0, .slice none 0 0]:=⟨qP (z:=[.slice none 0 0, .slice none 0 0, .slice none 0 0]) (qC zeroValue57) (yE underlying57) (qF (qC sizeOf54) (qF (qC sizeOf55) (qF (qC sizeOf55) rfl))) rfl⟩
instance :TyZ Tryz.prog 59 16 true (.agg #[.int .i64 0, .int .i64 0, .int .i64 0, .int .i64 0, .int .i64 0, .int .i64 0, .bool false, .slice none 0 0, .slice none 0 0, .slice none 0 0, .slice none 0 0, .slice none 0 0, .slice none 0 0, .slice none 0 0, .slice none 0 0, .slice none 0 0]):=⟨qC sizeOf59,qC isAgg59,qC zeroValue59⟩
instance :TyF Tryz.prog 59 0 0 9 true:=⟨⟨_,_,yE underlying59,rfl,qC sizeOf53,qC isAgg53⟩,by decide⟩
instance :TyF Tryz.prog 59 1 9 1 false:=⟨⟨_,_,yE underlying59,rfl,qC sizeOf54,qC isAgg54⟩,by decide⟩
instance :TyF Tryz.prog 59 2 10 3 true:=⟨⟨_,_,yE underlying59,rfl,qC sizeOf57,qC isAgg57⟩,by decide⟩
instance :TyF Tryz.prog 59 3 13 3 true:=⟨⟨_,_,yE underlying59,rfl,qC sizeOf57,qC isAgg57⟩,by decide⟩
instance :TyBd Tryz.prog 59 [(0,9),(9,1),(10,3),(13,3)] [.int .i64 0, .int .i64 0, .int .i64 0, .int .i64 0, .int .i64 0, .int .i64 0, .bool false, .slice none 0 0, .slice none 0 0, .slice none 0 0, .slice none 0 0, .slice none 0 0, .slice none 0 0, .slice none 0 0, .slice none 0 0, .slice none 0 0]:=⟨qP (z:=[.int .i64 0, .int .i64 0, .int .i64 0, .int .i64 0, .int .i64 0, .int .i64 0, .bool false, .slice none 0 0, .slice none 0 0, .slice none 0 0, .slice none 0 0, .slice none 0 0, .slice none 0 0, .slice none 0 0, .slice none 0 0, .slice none 0 0]) (qC zeroValue59) (yE underlying59) (qF (qC sizeOf53) (qF (qC sizeOf54) (qF (qC sizeOf57) (qF (qC sizeOf57) rfl)))) rfl⟩
instance :TyZ Tryz.prog 69 16 true (.agg #[.int .i64 0, .int .i64 0, .int .i64 0, .int .i64 0, .int .i64 0, .int .i64 0, .int .i64 0, .bool false, .slice none 0 0, .slice none 0 0, .slice none 0 0, .slice none 0 0, .slice none 0 0, .slice none 0 0, .slice none 0 0, .slice none 0 0]):=⟨qC sizeOf69,qC isAgg69,qC zeroValue69⟩
instance :TyF Tryz.prog 69 0 0 1 false:=⟨⟨_,_,yE underlying69,rfl,qC sizeOf2,qC isAgg2⟩,by decide⟩
instance :TyF Tryz.prog 69 1 1 9 true:=⟨⟨_,_,yE underlying69,rfl,qC sizeOf53,qC isAgg53⟩,by decide⟩
instance :TyF Tryz.prog 69 2 10 3 true:=⟨⟨_,_,yE underlying69,rfl,qC sizeOf57,qC isAgg57⟩,by decide⟩
instance :TyF Tryz.prog 69 3 13 3 true:=⟨⟨_,_,yE underlying69,rfl,qC sizeOf57,qC isAgg57⟩,by decide⟩
instance :TyBd Tryz.prog 69 [(0,1),(1,9),(10,3),(13,3)] [.int .i64 0, .int .i64 0, .int .i64 0, .int .i64 0, .int .i64 0, .int .i64 0, .int .i64 0, .bool false, .slice none 0 0, .slice none 0 0, .slice none 0 0, .slice none 0 0, .slice none 0 0, .slice none 0 0, .slice none 0 0, .slice none 0 0]:=⟨qP (z:=[.int .i64 0, .int .i64 0, .int .i64 0, .int .i64 0, .int .i64 0, .int .i64 0, .int .i64 0, .bool false, .slice none 0 0, .slice none 0 0, .slice none 0 0, .slice none 0 0, .slice none 0 0, .slice none 0 0, .slice none 0 0, .slice none 0 0]) (qC zeroValue69) (yE underlying69) (qF (qC sizeOf2) (qF (qC sizeOf53) (qF (qC sizeOf57) (qF (qC sizeOf57) rfl)))) rfl⟩
instance :TyZ Tryz.prog 83 1 false (.slice none 0 0):=⟨qC sizeOf83,qC isAgg83,qC zeroValue83⟩
instance :TySl Tryz.prog 83 132 2 [.slice none 0 0, .int .i64 0]:=⟨underlying83,qC sizeOf132,⟨_,qC zeroValue132,rfl⟩,rfl,rfl,by rw[xN];decide⟩
instance :TyZ Tryz.prog 87 2 true (.agg #[.int .i64 0, .slice none 0 0]):=⟨qC sizeOf87,qC isAgg87,qC zeroValue87⟩
instance :TyF Tryz.prog 87 1 1 1 false:=⟨⟨_,_,yE underlying87,rfl,qC sizeOf83,qC isAgg83⟩,by decide⟩
instance :TyBd Tryz.prog 87 [(0,1),(1,1)] [.int .i64 0, .slice none 0 0]:=⟨qP (z:=[.int .i64 0, .slice none 0 0]) (qC zeroValue87) (yE underlying87) (qF (qC sizeOf2) (qF (qC sizeOf83) rfl)) rfl⟩
instance :TyZ Tryz.prog 96 2 true (.agg #[.int .i64 0, .slice none 0 0]):=⟨qC sizeOf96,qC isAgg96,qC zeroValue96⟩
instance :TyF Tryz.prog 96 0 0 1 false:=⟨⟨_,_,yE underlying96,rfl,qC sizeOf2,qC isAgg2⟩,by decide⟩
instance :TyF Tryz.prog 96 1 1 1 false:=⟨⟨_,_,yE underlying96,rfl,qC sizeOf48,qC isAgg48⟩,by decide⟩
instance :TyZ Tryz.prog 99 4 true (.agg #[.slice none 0 0, .slice none 0 0, .slice none 0 0, .slice none 0 0]):=⟨qC sizeOf99,qC isAgg99,qC zeroValue99⟩
instance :TyF Tryz.prog 99 0 0 2 true:=⟨⟨_,_,yE underlying99,rfl,qC sizeOf33,qC isAgg33⟩,by decide⟩
instance :TyBd Tryz.prog 99 [(0,2),(2,1),(3,1)] [.slice none 0 0, .slice none 0 0, .slice none 0 0, .slice none 0 0]:=⟨qP (z:=[.slice none 0 0, .slice none 0 0, .slice none 0 0, .slice none 0 0]) (qC zeroValue99) (yE underlying99) (qF (qC sizeOf33) (qF (qC sizeOf54) (qF (qC sizeOf54) rfl))) rfl⟩
instance :TyZ Tryz.prog 102 1 false (.pointer none):=⟨qC sizeOf102,qC isAgg102,qC zeroValue102⟩
instance :TyZ Tryz.prog 105 2 true (.agg #[.int .i64 0, .slice none 0 0]):=⟨qC sizeOf105,qC isAgg105,qC zeroValue105⟩
instance :TyF Tryz.prog 105 0 0 1 false:=⟨⟨_,_,yE underlying105,rfl,qC sizeOf2,qC isAgg2⟩,by decide⟩
instance :TyF Tryz.prog 105 1 1 1 false:=⟨⟨_,_,yE underlying105,rfl,qC sizeOf48,qC isAgg48⟩,by decide⟩
instance :TyBd Tryz.prog 105 [(0,1),(1,1)] [.int .i64 0, .slice none 0 0]:=⟨qP (z:=[.int .i64 0, .slice none 0 0]) (qC zeroValue105) (yE underlying105) (qF (qC sizeOf2) (qF (qC sizeOf48) rfl)) rfl⟩
instance :TyZ Tryz.prog 108 10 true (.agg #[.int .i64 0, .int .i64 0, .int .i64 0, .int .i64 0, .int .i64 0, .int .i64 0, .int .i64 0, .bool false, .slice none 0 0, .slice none 0 0]):=⟨qC sizeOf108,qC isAgg108,qC zeroValue108⟩
instance :TyF Tryz.prog 108 0 0 1 false:=⟨⟨_,_,yE underlying108,rfl,qC sizeOf2,qC isAgg2⟩,by decide⟩
instance :TyF Tryz.prog 108 1 1 9 true:=⟨⟨_,_,yE underlying108,rfl,qC sizeOf53,qC isAgg53⟩,by decide⟩
instance :TyBd Tryz.prog 108 [(0,1),(1,9)] [.int .i64 0, .int .i64 0, .int .i64 0, .int .i64 0, .int .i64 0, .int .i64 0, .int .i64 0, .bool false, .slice none 0 0, .slice none 0 0]:=⟨qP (z:=[.int .i64 0, .int .i64 0, .int .i64 0, .int .i64 0, .int .i64 0, .int .i64 0, .int .i64 0, .bool false, .slice none 0 0, .slice none 0 0]) (qC zeroValue108) (yE underlying108) (qF (qC sizeOf2) (qF (qC sizeOf53) rfl)) rfl⟩
instance :TyZ Tryz.prog 111 2 true (.agg #[.int .i64 0, .slice none 0 0]):=⟨qC sizeOf111,qC isAgg111,qC zeroValue111⟩
instance :TyF Tryz.prog 111 0 0 1 false:=⟨⟨_,_,yE underlying111,rfl,qC sizeOf2,qC isAgg2⟩,by decide⟩
instance :TyF Tryz.prog 111 1 1 1 false:=⟨⟨_,_,yE underlying111,rfl,qC sizeOf54,qC isAgg54⟩,by decide⟩
instance :TyBd Tryz.prog 111 [(0,1),(1,1)] [.int .i64 0, .slice none 0 0]:=⟨qP (z:=[.int .i64 0, .slice none 0 0]) (qC zeroValue111) (yE underlying111) (qF (qC sizeOf2) (qF (qC sizeOf54) rfl)) rfl⟩
instance :TyZ Tryz.prog 114 4 true (.agg #[.int .i64 0, .slice none 0 0, .slice none 0 0, .slice none 0 0]):=⟨qC sizeOf114,qC isAgg114,qC zeroValue114⟩
instance :TyF Tryz.prog 114 0 0 1 false:=⟨⟨_,_,yE underlying114,rfl,qC sizeOf2,qC isAgg2⟩,by decide⟩
instance :TyF Tryz.prog 114 1 1 3 true:=⟨⟨_,_,yE underlying114,rfl,qC sizeOf57,qC isAgg57⟩,by decide⟩
instance :TyBd Tryz.prog 114 [(0,1),(1,3)] [.int .i64 0, .slice none 0 0, .slice none 0 0, .slice none 0 0]:=⟨qP (z:=[.int .i64 0, .slice none 0 0, .slice none 0 0, .slice none 0 0]) (qC zeroValue114) (yE underlying114) (qF (qC sizeOf2) (qF (qC sizeOf57) rfl)) rfl⟩
instance :TyZ Tryz.prog 117 3 true (.agg #[.int .i64 0, .slice none 0 0, .slice none 0 0]):=⟨qC sizeOf117,qC isAgg117,qC zeroValue117⟩
instance :TyF Tryz.prog 117 0 0 1 false:=⟨⟨_,_,yE underlying117,rfl,qC sizeOf2,qC isAgg2⟩,by decide⟩
instance :TyF Tryz.prog 117 1 1 1 false:=⟨⟨_,_,yE underlying117,rfl,qC sizeOf48,qC isAgg48⟩,by decide⟩
instance :TyF Tryz.prog 117 2 2 1 false:=⟨⟨_,_,yE underlying117,rfl,qC sizeOf54,qC isAgg54⟩,by decide⟩
instance :TyBd Tryz.prog 117 [(0,1),(1,1),(2,1)] [.int .i64 0, .slice none 0 0, .slice none 0 0]:=⟨qP (z:=[.int .i64 0, .slice none 0 0, .slice none 0 0]) (qC zeroValue117) (yE underlying117) (qF (qC sizeOf2) (qF (qC sizeOf48) (qF (qC sizeOf54) rfl))) rfl⟩
instance :TyZ Tryz.prog 119 1 false (.pointer none):=⟨qC sizeOf119,qC isAgg119,qC zeroValue119⟩
instance :TyF Tryz.prog 122 0 0 1 false:=⟨⟨_,_,yE underlying122,rfl,qC sizeOf102,qC isAgg102⟩,by decide⟩
instance :TyF Tryz.prog 122 1 1 1 false:=⟨⟨_,_,yE underlying122,rfl,qC sizeOf4,qC isAgg4⟩,by decide⟩
instance :TyBd Tryz.prog 122 [(0,1),(1,1)] [.pointer none, .bool false]:=⟨qP (z:=[.pointer none, .bool false]) (qC zeroValue122) (yE underlying122) (qF (qC sizeOf102) (qF (qC sizeOf4) rfl)) rfl⟩
instance :TyF Tryz.prog 124 1 16 1 false:=⟨⟨_,_,yE underlying124,rfl,qC sizeOf119,qC isAgg119⟩,by decide⟩
instance :TyBd Tryz.prog 124 [(0,16),(16,1)] [.int .i64 0, .int .i64 0, .int .i64 0, .int .i64 0, .int .i64 0, .int .i64 0, .int .i64 0, .bool false, .slice none 0 0, .slice none 0 0, .slice none 0 0, .slice none 0 0, .slice none 0 0, .slice none 0 0, .slice none 0 0, .slice none 0 0, .pointer none]:=⟨qP (z:=[.int .i64 0, .int .i64 0, .int .i64 0, .int .i64 0, .int .i64 0, .int .i64 0, .int .i64 0, .bool false, .slice none 0 0, .slice none 0 0, .slice none 0 0, .slice none 0 0, .slice none 0 0, .slice none 0 0, .slice none 0 0, .slice none 0 0, .pointer none]) (qC zeroValue124) (yE underlying124) (qF (qC sizeOf69) (qF (qC sizeOf119) rfl)) rfl⟩
instance :TyZ Tryz.prog 128 3 true (.agg #[.int .i64 0, .int .i64 0, .slice none 0 0]):=⟨qC sizeOf128,qC isAgg128,qC zeroValue128⟩
instance :TyF Tryz.prog 128 0 0 1 false:=⟨⟨_,_,yE underlying128,rfl,qC sizeOf2,qC isAgg2⟩,by decide⟩
instance :TyF Tryz.prog 128 1 1 2 true:=⟨⟨_,_,yE underlying128,rfl,qC sizeOf105,qC isAgg105⟩,by decide⟩
instance :TyBd Tryz.prog 128 [(0,1),(1,2)] [.int .i64 0, .int .i64 0, .slice none 0 0]:=⟨qP (z:=[.int .i64 0, .int .i64 0, .slice none 0 0]) (qC zeroValue128) (yE underlying128) (qF (qC sizeOf2) (qF (qC sizeOf105) rfl)) rfl⟩
instance :TyZ Tryz.prog 132 2 true (.agg #[.slice none 0 0, .int .i64 0]):=⟨qC sizeOf132,qC isAgg132,qC zeroValue132⟩
instance :TyF Tryz.prog 132 0 0 1 false:=⟨⟨_,_,yE underlying132,rfl,qC sizeOf48,qC isAgg48⟩,by decide⟩
instance :TyF Tryz.prog 132 1 1 1 false:=⟨⟨_,_,yE underlying132,rfl,qC sizeOf2,qC isAgg2⟩,by decide⟩
instance :TyBd Tryz.prog 132 [(0,1),(1,1)] [.slice none 0 0, .int .i64 0]:=⟨qP (z:=[.slice none 0 0, .int .i64 0]) (qC zeroValue132) (yE underlying132) (qF (qC sizeOf48) (qF (qC sizeOf2) rfl)) rfl⟩
instance :TyZ Tryz.prog 138 3 true (.agg #[.slice none 0 0, .slice none 0 0, .int .i64 0]):=⟨qC sizeOf138,qC isAgg138,qC zeroValue138⟩
instance :TyF Tryz.prog 138 0 0 1 false:=⟨⟨_,_,yE underlying138,rfl,qC sizeOf54,qC isAgg54⟩,by decide⟩
instance :TyF Tryz.prog 138 1 1 1 false:=⟨⟨_,_,yE underlying138,rfl,qC sizeOf83,qC isAgg83⟩,by decide⟩
instance :TyF Tryz.prog 138 2 2 1 false:=⟨⟨_,_,yE underlying138,rfl,qC sizeOf2,qC isAgg2⟩,by decide⟩
instance :TyBd Tryz.prog 138 [(0,1),(1,1),(2,1)] [.slice none 0 0, .slice none 0 0, .int .i64 0]:=⟨qP (z:=[.slice none 0 0, .slice none 0 0, .int .i64 0]) (qC zeroValue138) (yE underlying138) (qF (qC sizeOf54) (qF (qC sizeOf83) (qF (qC sizeOf2) rfl))) rfl⟩
instance :TyF Tryz.prog 148 0 0 2 true:=⟨⟨_,_,yE underlying148,rfl,qC sizeOf33,qC isAgg33⟩,by decide⟩
instance :TyF Tryz.prog 148 1 2 1 false:=⟨⟨_,_,yE underlying148,rfl,qC sizeOf54,qC isAgg54⟩,by decide⟩
instance :TyF Tryz.prog 148 2 3 1 false:=⟨⟨_,_,yE underlying148,rfl,qC sizeOf83,qC isAgg83⟩,by decide⟩
instance :TyF Tryz.prog 148 3 4 1 false:=⟨⟨_,_,yE underlying148,rfl,qC sizeOf3,qC isAgg3⟩,by decide⟩
instance :TyBd Tryz.prog 148 [(0,2),(2,1),(3,1),(4,1)] [.slice none 0 0, .slice none 0 0, .slice none 0 0, .slice none 0 0, .int .i64 0]:=⟨qP (z:=[.slice none 0 0, .slice none 0 0, .slice none 0 0, .slice none 0 0, .int .i64 0]) (qC zeroValue148) (yE underlying148) (qF (qC sizeOf33) (qF (qC sizeOf54) (qF (qC sizeOf83) (qF (qC sizeOf3) rfl)))) rfl⟩
instance :TyF Tryz.prog 177 0 0 1 false:=⟨⟨_,_,yE underlying177,rfl,qC sizeOf48,qC isAgg48⟩,by decide⟩
instance :TyF Tryz.prog 177 1 1 1 false:=⟨⟨_,_,yE underlying177,rfl,qC sizeOf4,qC isAgg4⟩,by decide⟩
instance :TyBd Tryz.prog 177 [(0,1),(1,1)] [.slice none 0 0, .bool false]:=⟨qP (z:=[.slice none 0 0, .bool false]) (qC zeroValue177) (yE underlying177) (qF (qC sizeOf48) (qF (qC sizeOf4) rfl)) rfl⟩
instance :TyZ Tryz.prog 181 2 true (.agg #[.int .i64 0, .slice none 0 0]):=⟨qC sizeOf181,qC isAgg181,qC zeroValue181⟩
instance :TyF Tryz.prog 181 0 0 1 false:=⟨⟨_,_,yE underlying181,rfl,qC sizeOf2,qC isAgg2⟩,by decide⟩
instance :TyF Tryz.prog 181 1 1 1 false:=⟨⟨_,_,yE underlying181,rfl,qC sizeOf48,qC isAgg48⟩,by decide⟩
instance :TyBd Tryz.prog 181 [(0,1),(1,1)] [.int .i64 0, .slice none 0 0]:=⟨qP (z:=[.int .i64 0, .slice none 0 0]) (qC zeroValue181) (yE underlying181) (qF (qC sizeOf2) (qF (qC sizeOf48) rfl)) rfl⟩
instance :TyZ Tryz.prog 187 3 true (.agg #[.int .i64 0, .int .i64 0, .slice none 0 0]):=⟨qC sizeOf187,qC isAgg187,qC zeroValue187⟩
instance :TyF Tryz.prog 187 0 0 1 false:=⟨⟨_,_,yE underlying187,rfl,qC sizeOf2,qC isAgg2⟩,by decide⟩
instance :TyF Tryz.prog 187 1 1 1 false:=⟨⟨_,_,yE underlying187,rfl,qC sizeOf2,qC isAgg2⟩,by decide⟩
instance :TyF Tryz.prog 187 2 2 1 false:=⟨⟨_,_,yE underlying187,rfl,qC sizeOf48,qC isAgg48⟩,by decide⟩
instance :TyBd Tryz.prog 187 [(0,1),(1,1),(2,1)] [.int .i64 0, .int .i64 0, .slice none 0 0]:=⟨qP (z:=[.int .i64 0, .int .i64 0, .slice none 0 0]) (qC zeroValue187) (yE underlying187) (qF (qC sizeOf2) (qF (qC sizeOf2) (qF (qC sizeOf48) rfl))) rfl⟩
instance :TyZ Tryz.prog 195 2 true (.agg #[.string {data:= #[]}, .int .i64 0]):=⟨qC sizeOf195,qC isAgg195,qC zeroValue195⟩
instance :TyF Tryz.prog 195 0 0 1 false:=⟨⟨_,_,yE underlying195,rfl,qC sizeOf9,qC isAgg9⟩,by decide⟩
instance :TyF Tryz.prog 195 1 1 1 false:=⟨⟨_,_,yE underlying195,rfl,qC sizeOf2,qC isAgg2⟩,by decide⟩
instance :TyBd Tryz.prog 195 [(0,1),(1,1)] [.string {data:= #[]}, .int .i64 0]:=⟨qP (z:=[.string {data:= #[]}, .int .i64 0]) (qC zeroValue195) (yE underlying195) (qF (qC sizeOf9) (qF (qC sizeOf2) rfl)) rfl⟩
instance :TyZ Tryz.prog 222 2 true (.agg #[.int .i64 0, .int .i64 0]):=⟨qC sizeOf222,qC isAgg222,qC zeroValue222⟩
instance :TyF Tryz.prog 222 1 1 1 false:=⟨⟨_,_,yE underlying222,rfl,qC sizeOf2,qC isAgg2⟩,by decide⟩
instance :TyBd Tryz.prog 222 [(0,1),(1,1)] [.int .i64 0, .int .i64 0]:=⟨qP (z:=[.int .i64 0, .int .i64 0]) (qC zeroValue222) (yE underlying222) (qF (qC sizeOf2) (qF (qC sizeOf2) rfl)) rfl⟩
instance :TyZ Tryz.prog 234 2 true (.agg #[.slice none 0 0, .slice none 0 0]):=⟨qC sizeOf234,qC isAgg234,qC zeroValue234⟩
instance :TyF Tryz.prog 234 0 0 1 false:=⟨⟨_,_,yE underlying234,rfl,qC sizeOf54,qC isAgg54⟩,by decide⟩
instance :TyF Tryz.prog 234 1 1 1 false:=⟨⟨_,_,yE underlying234,rfl,qC sizeOf54,qC isAgg54⟩,by decide⟩
instance :TyBd Tryz.prog 234 [(0,1),(1,1)] [.slice none 0 0, .slice none 0 0]:=⟨qP (z:=[.slice none 0 0, .slice none 0 0]) (qC zeroValue234) (yE underlying234) (qF (qC sizeOf54) (qF (qC sizeOf54) rfl)) rfl⟩
instance :TyZ Tryz.prog 240 4 true (.agg #[.int .i64 0, .int .i64 0, .int .i64 0, .slice none 0 0]):=⟨qC sizeOf240,qC isAgg240,qC zeroValue240⟩
instance :TyF Tryz.prog 240 0 0 1 false:=⟨⟨_,_,yE underlying240,rfl,qC sizeOf2,qC isAgg2⟩,by decide⟩
instance :TyF Tryz.prog 240 1 1 3 true:=⟨⟨_,_,yE underlying240,rfl,qC sizeOf187,qC isAgg187⟩,by decide⟩
instance :TyBd Tryz.prog 240 [(0,1),(1,3)] [.int .i64 0, .int .i64 0, .int .i64 0, .slice none 0 0]:=⟨qP (z:=[.int .i64 0, .int .i64 0, .int .i64 0, .slice none 0 0]) (qC zeroValue240) (yE underlying240) (qF (qC sizeOf2) (qF (qC sizeOf187) rfl)) rfl⟩
instance :TyZ Tryz.prog 248 4 true (.agg #[.bool false, .slice none 0 0, .slice none 0 0, .slice none 0 0]):=⟨qC sizeOf248,qC isAgg248,qC zeroValue248⟩
instance :TyF Tryz.prog 248 0 0 1 false:=⟨⟨_,_,yE underlying248,rfl,qC sizeOf4,qC isAgg4⟩,by decide⟩
instance :TyF Tryz.prog 248 1 1 1 false:=⟨⟨_,_,yE underlying248,rfl,qC sizeOf22,qC isAgg22⟩,by decide⟩
instance :TyF Tryz.prog 248 2 2 1 false:=⟨⟨_,_,yE underlying248,rfl,qC sizeOf54,qC isAgg54⟩,by decide⟩
instance :TyF Tryz.prog 248 3 3 1 false:=⟨⟨_,_,yE underlying248,rfl,qC sizeOf54,qC isAgg54⟩,by decide⟩
instance :TyBd Tryz.prog 248 [(0,1),(1,1),(2,1),(3,1)] [.bool false, .slice none 0 0, .slice none 0 0, .slice none 0 0]:=⟨qP (z:=[.bool false, .slice none 0 0, .slice none 0 0, .slice none 0 0]) (qC zeroValue248) (yE underlying248) (qF (qC sizeOf4) (qF (qC sizeOf22) (qF (qC sizeOf54) (qF (qC sizeOf54) rfl)))) rfl⟩
instance :TyZ Tryz.prog 292 5 true (.agg #[.int .i64 0, .bool false, .slice none 0 0, .slice none 0 0, .slice none 0 0]):=⟨qC sizeOf292,qC isAgg292,qC zeroValue292⟩
instance :TyF Tryz.prog 292 0 0 1 false:=⟨⟨_,_,yE underlying292,rfl,qC sizeOf2,qC isAgg2⟩,by decide⟩
instance :TyF Tryz.prog 292 1 1 4 true:=⟨⟨_,_,yE underlying292,rfl,qC sizeOf248,qC isAgg248⟩,by decide⟩
instance :TyBd Tryz.prog 292 [(0,1),(1,4)] [.int .i64 0, .bool false, .slice none 0 0, .slice none 0 0, .slice none 0 0]:=⟨qP (z:=[.int .i64 0, .bool false, .slice none 0 0, .slice none 0 0, .slice none 0 0]) (qC zeroValue292) (yE underlying292) (qF (qC sizeOf2) (qF (qC sizeOf248) rfl)) rfl⟩
instance :TySl Tryz.prog 320 4 1 [(.bool false)]:=⟨underlying320,qC sizeOf4,⟨_,qC zeroValue4,rfl⟩,rfl,rfl,by rw[xN];decide⟩
instance :TySl Tryz.prog 329 54 1 [(.slice none 0 0)]:=⟨underlying329,qC sizeOf54,⟨_,qC zeroValue54,rfl⟩,rfl,rfl,by rw[xN];decide⟩
instance :TyZ Tryz.prog 332 1 false (.map none):=⟨qC sizeOf332,qC isAgg332,qC zeroValue332⟩
instance :TyF Tryz.prog 334 0 0 1 true:=⟨⟨_,_,yE underlying334,rfl,qC sizeOf51,qC isAgg51⟩,by decide⟩
instance :TyF Tryz.prog 334 1 1 1 false:=⟨⟨_,_,yE underlying334,rfl,qC sizeOf54,qC isAgg54⟩,by decide⟩
instance :TyF Tryz.prog 334 2 2 1 false:=⟨⟨_,_,yE underlying334,rfl,qC sizeOf54,qC isAgg54⟩,by decide⟩
instance :TyF Tryz.prog 334 3 3 1 false:=⟨⟨_,_,yE underlying334,rfl,qC sizeOf54,qC isAgg54⟩,by decide⟩
instance :TyF Tryz.prog 334 4 4 1 false:=⟨⟨_,_,yE underlying334,rfl,qC sizeOf332,qC isAgg332⟩,by decide⟩
instance :TyZ Tryz.prog 340 2 true (.agg #[.int .i64 0, .int .i64 0]):=⟨qC sizeOf340,qC isAgg340,qC zeroValue340⟩
instance :TySl Tryz.prog 353 3 1 [(.int .i64 0)]:=⟨underlying353,qC sizeOf3,⟨_,qC zeroValue3,rfl⟩,rfl,rfl,by rw[xN];decide⟩
end Go.Proofs.YtogofkjpbpgneaaGreatDoor
