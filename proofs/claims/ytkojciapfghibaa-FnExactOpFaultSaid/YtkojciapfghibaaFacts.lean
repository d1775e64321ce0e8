/- What the types of the program say. -/
import Derived.Test.YtkojciapfghibaaScP
import Derived.Test.YtkojciapfghibaaProg
import Derived.KernelRfl
set_option linter.unusedSimpArgs false
set_option linter.unusedVariables false
set_option maxRecDepth 100000
namespace Go.Proofs.Ytkojciapfghibaa
open Go Go.SC
theorem pok : POk Try.prog := ⟨by kernel_rfl, fun t i ht h => by
  have hall : Try.prog.types.all (fun i => decide (i.bytes ≤ 131072)) = true := by kernel_rfl
  have h1 := Array.all_eq_true.1 hall
  unfold Tables.info? at h
  rw [if_pos ht] at h
  obtain ⟨hlt, he⟩ := Array.getElem?_eq_some_iff.1 h
  have := h1 t hlt
  rw [he] at this
  exact of_decide_eq_true this⟩
theorem xN : Try.prog.types.size = 124 := by kernel_rfl
instance : TyZ Try.prog 0 1 false (.tuple #[]) := ⟨ask_of Try.sizeOf0, ask_of Try.isAgg0, ask_of Try.zeroValue0⟩
instance : TyZ Try.prog 1 1 false (.nilFunc) := ⟨ask_of Try.sizeOf1, ask_of Try.isAgg1, ask_of Try.zeroValue1⟩
instance : TyZ Try.prog 2 1 false (.int .i64 0) := ⟨ask_of Try.sizeOf2, ask_of Try.isAgg2, ask_of Try.zeroValue2⟩
instance : TyI Try.prog 2 .i64 := ⟨Try.underlying2⟩
instance : TyZ Try.prog 3 1 false (.int .i64 0) := ⟨ask_of Try.sizeOf3, ask_of Try.isAgg3, ask_of Try.zeroValue3⟩
instance : TyI Try.prog 3 .i64 := ⟨Try.underlying3⟩
instance : TyZ Try.prog 4 1 false (.bool false) := ⟨ask_of Try.sizeOf4, ask_of Try.isAgg4, ask_of Try.zeroValue4⟩
instance : TyB Try.prog 4 := ⟨Try.underlying4⟩
instance : TyZ Try.prog 5 1 false (.int .u8 0) := ⟨ask_of Try.sizeOf5, ask_of Try.isAgg5, ask_of Try.zeroValue5⟩
instance : TyI Try.prog 5 .u8 := ⟨Try.underlying5⟩
instance : TyZ Try.prog 6 1 false (.int .u8 0) := ⟨ask_of Try.sizeOf6, ask_of Try.isAgg6, ask_of Try.zeroValue6⟩
instance : TyI Try.prog 6 .u8 := ⟨Try.underlying6⟩
instance : TyZ Try.prog 7 4 true (.agg #[.int .i64 0, .int .i64 0, .bool false, .int .u8 0]) := ⟨ask_of Try.sizeOf7, ask_of Try.isAgg7, ask_of Try.zeroValue7⟩
instance : TyF Try.prog 7 0 0 1 false := ⟨⟨_, _, askU Try.underlying7, rfl, ask_of Try.sizeOf2, ask_of Try.isAgg2⟩, by decide⟩
instance : TyF Try.prog 7 1 1 1 false := ⟨⟨_, _, askU Try.underlying7, rfl, ask_of Try.sizeOf3, ask_of Try.isAgg3⟩, by decide⟩
instance : TyF Try.prog 7 2 2 1 false := ⟨⟨_, _, askU Try.underlying7, rfl, ask_of Try.sizeOf4, ask_of Try.isAgg4⟩, by decide⟩
instance : TyF Try.prog 7 3 3 1 false := ⟨⟨_, _, askU Try.underlying7, rfl, ask_of Try.sizeOf6, ask_of Try.isAgg6⟩, by decide⟩
instance : TyBd Try.prog 7 [(0, 1), (1, 1), (2, 1), (3, 1)] [.int .i64 0, .int .i64 0, .bool false, .int .u8 0] := ⟨abuild_struct (z := [.int .i64 0, .int .i64 0, .bool false, .int .u8 0]) (ask_of Try.zeroValue7) (askU Try.underlying7) (placesOf_cons (ask_of Try.sizeOf2) (placesOf_cons (ask_of Try.sizeOf3) (placesOf_cons (ask_of Try.sizeOf4) (placesOf_cons (ask_of Try.sizeOf6) rfl)))) rfl⟩
instance : TyZ Try.prog 8 4 true (.agg #[.int .i64 0, .int .i64 0, .bool false, .int .u8 0]) := ⟨ask_of Try.sizeOf8, ask_of Try.isAgg8, ask_of Try.zeroValue8⟩
instance : TyF Try.prog 8 0 0 1 false := ⟨⟨_, _, askU Try.underlying8, rfl, ask_of Try.sizeOf2, ask_of Try.isAgg2⟩, by decide⟩
instance : TyF Try.prog 8 1 1 1 false := ⟨⟨_, _, askU Try.underlying8, rfl, ask_of Try.sizeOf3, ask_of Try.isAgg3⟩, by decide⟩
instance : TyF Try.prog 8 2 2 1 false := ⟨⟨_, _, askU Try.underlying8, rfl, ask_of Try.sizeOf4, ask_of Try.isAgg4⟩, by decide⟩
instance : TyF Try.prog 8 3 3 1 false := ⟨⟨_, _, askU Try.underlying8, rfl, ask_of Try.sizeOf6, ask_of Try.isAgg6⟩, by decide⟩
instance : TyBd Try.prog 8 [(0, 1), (1, 1), (2, 1), (3, 1)] [.int .i64 0, .int .i64 0, .bool false, .int .u8 0] := ⟨abuild_struct (z := [.int .i64 0, .int .i64 0, .bool false, .int .u8 0]) (ask_of Try.zeroValue8) (askU Try.underlying8) (placesOf_cons (ask_of Try.sizeOf2) (placesOf_cons (ask_of Try.sizeOf3) (placesOf_cons (ask_of Try.sizeOf4) (placesOf_cons (ask_of Try.sizeOf6) rfl)))) rfl⟩
instance : TyZ Try.prog 9 1 false (.string { data := #[] }) := ⟨ask_of Try.sizeOf9, ask_of Try.isAgg9, ask_of Try.zeroValue9⟩
instance : TyS Try.prog 9 := ⟨Try.underlying9⟩
instance : TyZ Try.prog 10 1 false (.string { data := #[] }) := ⟨ask_of Try.sizeOf10, ask_of Try.isAgg10, ask_of Try.zeroValue10⟩
instance : TyS Try.prog 10 := ⟨Try.underlying10⟩
instance : TyZ Try.prog 11 1 false (.string { data := #[] }) := ⟨ask_of Try.sizeOf11, ask_of Try.isAgg11, ask_of Try.zeroValue11⟩
instance : TyS Try.prog 11 := ⟨Try.underlying11⟩
instance : TyZ Try.prog 12 1 false (.int .u64 0) := ⟨ask_of Try.sizeOf12, ask_of Try.isAgg12, ask_of Try.zeroValue12⟩
instance : TyI Try.prog 12 .u64 := ⟨Try.underlying12⟩
instance : TyZ Try.prog 13 2 true (.agg #[.string { data := #[] }, .int .u64 0]) := ⟨ask_of Try.sizeOf13, ask_of Try.isAgg13, ask_of Try.zeroValue13⟩
instance : TyF Try.prog 13 0 0 1 false := ⟨⟨_, _, askU Try.underlying13, rfl, ask_of Try.sizeOf9, ask_of Try.isAgg9⟩, by decide⟩
instance : TyF Try.prog 13 1 1 1 false := ⟨⟨_, _, askU Try.underlying13, rfl, ask_of Try.sizeOf12, ask_of Try.isAgg12⟩, by decide⟩
instance : TyBd Try.prog 13 [(0, 1), (1, 1)] [.string { data := #[] }, .int .u64 0] := ⟨abuild_struct (z := [.string { data := #[] }, .int .u64 0]) (ask_of Try.zeroValue13) (askU Try.underlying13) (placesOf_cons (ask_of Try.sizeOf9) (placesOf_cons (ask_of Try.sizeOf12) rfl)) rfl⟩
instance : TyZ Try.prog 14 2 true (.agg #[.string { data := #[] }, .int .u64 0]) := ⟨ask_of Try.sizeOf14, ask_of Try.isAgg14, ask_of Try.zeroValue14⟩
instance : TyF Try.prog 14 0 0 1 false := ⟨⟨_, _, askU Try.underlying14, rfl, ask_of Try.sizeOf9, ask_of Try.isAgg9⟩, by decide⟩
instance : TyF Try.prog 14 1 1 1 false := ⟨⟨_, _, askU Try.underlying14, rfl, ask_of Try.sizeOf12, ask_of Try.isAgg12⟩, by decide⟩
instance : TyBd Try.prog 14 [(0, 1), (1, 1)] [.string { data := #[] }, .int .u64 0] := ⟨abuild_struct (z := [.string { data := #[] }, .int .u64 0]) (ask_of Try.zeroValue14) (askU Try.underlying14) (placesOf_cons (ask_of Try.sizeOf9) (placesOf_cons (ask_of Try.sizeOf12) rfl)) rfl⟩
instance : TyZ Try.prog 15 1 false (.pointer none) := ⟨ask_of Try.sizeOf15, ask_of Try.isAgg15, ask_of Try.zeroValue15⟩
instance : TyP Try.prog 15 109 := ⟨Try.underlying15⟩
instance : TyZ Try.prog 16 1 false (.pointer none) := ⟨ask_of Try.sizeOf16, ask_of Try.isAgg16, ask_of Try.zeroValue16⟩
instance : TyP Try.prog 16 112 := ⟨Try.underlying16⟩
instance : TyZ Try.prog 17 1 false (.pointer none) := ⟨ask_of Try.sizeOf17, ask_of Try.isAgg17, ask_of Try.zeroValue17⟩
instance : TyP Try.prog 17 122 := ⟨Try.underlying17⟩
instance : TyZ Try.prog 18 1 true (.agg #[.pointer none]) := ⟨ask_of Try.sizeOf18, ask_of Try.isAgg18, ask_of Try.zeroValue18⟩
instance : TyF Try.prog 18 0 0 1 false := ⟨⟨_, _, askU Try.underlying18, rfl, ask_of Try.sizeOf17, ask_of Try.isAgg17⟩, by decide⟩
instance : TyBd Try.prog 18 [(0, 1)] [.pointer none] := ⟨abuild_struct (z := [.pointer none]) (ask_of Try.zeroValue18) (askU Try.underlying18) (placesOf_cons (ask_of Try.sizeOf17) rfl) rfl⟩
instance : TyZ Try.prog 19 1 true (.agg #[.pointer none]) := ⟨ask_of Try.sizeOf19, ask_of Try.isAgg19, ask_of Try.zeroValue19⟩
instance : TyF Try.prog 19 0 0 1 false := ⟨⟨_, _, askU Try.underlying19, rfl, ask_of Try.sizeOf17, ask_of Try.isAgg17⟩, by decide⟩
instance : TyBd Try.prog 19 [(0, 1)] [.pointer none] := ⟨abuild_struct (z := [.pointer none]) (ask_of Try.zeroValue19) (askU Try.underlying19) (placesOf_cons (ask_of Try.sizeOf17) rfl) rfl⟩
instance : TyZ Try.prog 20 1 false (.nilIface) := ⟨ask_of Try.sizeOf20, ask_of Try.isAgg20, ask_of Try.zeroValue20⟩
instance : TyZ Try.prog 21 1 false (.int .i32 0) := ⟨ask_of Try.sizeOf21, ask_of Try.isAgg21, ask_of Try.zeroValue21⟩
instance : TyI Try.prog 21 .i32 := ⟨Try.underlying21⟩
instance : TyZ Try.prog 22 2 true (.agg #[.int .i64 0, .int .i64 0]) := ⟨ask_of Try.sizeOf22, ask_of Try.isAgg22, ask_of Try.zeroValue22⟩
instance : TyF Try.prog 22 0 0 1 false := ⟨⟨_, _, askU Try.underlying22, rfl, ask_of Try.sizeOf2, ask_of Try.isAgg2⟩, by decide⟩
instance : TyF Try.prog 22 1 1 1 false := ⟨⟨_, _, askU Try.underlying22, rfl, ask_of Try.sizeOf2, ask_of Try.isAgg2⟩, by decide⟩
instance : TyBd Try.prog 22 [(0, 1), (1, 1)] [.int .i64 0, .int .i64 0] := ⟨abuild_struct (z := [.int .i64 0, .int .i64 0]) (ask_of Try.zeroValue22) (askU Try.underlying22) (placesOf_cons (ask_of Try.sizeOf2) (placesOf_cons (ask_of Try.sizeOf2) rfl)) rfl⟩
instance : TyZ Try.prog 23 2 true (.agg #[.int .i64 0, .int .i64 0]) := ⟨ask_of Try.sizeOf23, ask_of Try.isAgg23, ask_of Try.zeroValue23⟩
instance : TyF Try.prog 23 0 0 1 false := ⟨⟨_, _, askU Try.underlying23, rfl, ask_of Try.sizeOf2, ask_of Try.isAgg2⟩, by decide⟩
instance : TyF Try.prog 23 1 1 1 false := ⟨⟨_, _, askU Try.underlying23, rfl, ask_of Try.sizeOf2, ask_of Try.isAgg2⟩, by decide⟩
instance : TyEq Try.prog 23 [(2, 0), (2, 1)] := ⟨⟨by kernel_rfl, by kernel_rfl⟩, _, Try.underlying23, rfl, by kernel_rfl⟩
instance : TyBd Try.prog 23 [(0, 1), (1, 1)] [.int .i64 0, .int .i64 0] := ⟨abuild_struct (z := [.int .i64 0, .int .i64 0]) (ask_of Try.zeroValue23) (askU Try.underlying23) (placesOf_cons (ask_of Try.sizeOf2) (placesOf_cons (ask_of Try.sizeOf2) rfl)) rfl⟩
instance : TyZ Try.prog 24 1 false (.nilFunc) := ⟨ask_of Try.sizeOf24, ask_of Try.isAgg24, ask_of Try.zeroValue24⟩
instance : TyZ Try.prog 25 1 false (.nilFunc) := ⟨ask_of Try.sizeOf25, ask_of Try.isAgg25, ask_of Try.zeroValue25⟩
instance : TyZ Try.prog 26 1 false (.nilFunc) := ⟨ask_of Try.sizeOf26, ask_of Try.isAgg26, ask_of Try.zeroValue26⟩
instance : TyZ Try.prog 27 1 false (.slice none 0 0) := ⟨ask_of Try.sizeOf27, ask_of Try.isAgg27, ask_of Try.zeroValue27⟩
instance : TySl Try.prog 27 67 2 [.slice none 0 0, .int .i64 0] := ⟨Try.underlying27, ask_of Try.sizeOf67, ⟨_, ask_of Try.zeroValue67, rfl⟩, rfl, rfl, by rw [xN]; decide⟩
instance : TyZ Try.prog 28 1 false (.nilFunc) := ⟨ask_of Try.sizeOf28, ask_of Try.isAgg28, ask_of Try.zeroValue28⟩
instance : TyZ Try.prog 29 1 false (.nilFunc) := ⟨ask_of Try.sizeOf29, ask_of Try.isAgg29, ask_of Try.zeroValue29⟩
instance : TyZ Try.prog 30 1 false (.slice none 0 0) := ⟨ask_of Try.sizeOf30, ask_of Try.isAgg30, ask_of Try.zeroValue30⟩
instance : TySl Try.prog 30 69 2 [.slice none 0 0, .int .i64 0] := ⟨Try.underlying30, ask_of Try.sizeOf69, ⟨_, ask_of Try.zeroValue69, rfl⟩, rfl, rfl, by rw [xN]; decide⟩
instance : TyZ Try.prog 31 1 false (.nilFunc) := ⟨ask_of Try.sizeOf31, ask_of Try.isAgg31, ask_of Try.zeroValue31⟩
instance : TyZ Try.prog 32 1 false (.nilFunc) := ⟨ask_of Try.sizeOf32, ask_of Try.isAgg32, ask_of Try.zeroValue32⟩
instance : TyZ Try.prog 33 1 false (.slice none 0 0) := ⟨ask_of Try.sizeOf33, ask_of Try.isAgg33, ask_of Try.zeroValue33⟩
instance : TySl Try.prog 33 2 1 [(.int .i64 0)] := ⟨Try.underlying33, ask_of Try.sizeOf2, ⟨_, ask_of Try.zeroValue2, rfl⟩, rfl, rfl, by rw [xN]; decide⟩
instance : TyZ Try.prog 34 1 false (.slice none 0 0) := ⟨ask_of Try.sizeOf34, ask_of Try.isAgg34, ask_of Try.zeroValue34⟩
instance : TySl Try.prog 34 91 2 [.slice none 0 0, .slice none 0 0] := ⟨Try.underlying34, ask_of Try.sizeOf91, ⟨_, ask_of Try.zeroValue91, rfl⟩, rfl, rfl, by rw [xN]; decide⟩
instance : TyZ Try.prog 35 6 true (.agg #[.int .i64 0, .slice none 0 0, .int .i64 0, .int .i64 0, .slice none 0 0, .slice none 0 0]) := ⟨ask_of Try.sizeOf35, ask_of Try.isAgg35, ask_of Try.zeroValue35⟩
instance : TyF Try.prog 35 0 0 1 false := ⟨⟨_, _, askU Try.underlying35, rfl, ask_of Try.sizeOf2, ask_of Try.isAgg2⟩, by decide⟩
instance : TyF Try.prog 35 1 1 1 false := ⟨⟨_, _, askU Try.underlying35, rfl, ask_of Try.sizeOf33, ask_of Try.isAgg33⟩, by decide⟩
instance : TyF Try.prog 35 2 2 1 false := ⟨⟨_, _, askU Try.underlying35, rfl, ask_of Try.sizeOf2, ask_of Try.isAgg2⟩, by decide⟩
instance : TyF Try.prog 35 3 3 1 false := ⟨⟨_, _, askU Try.underlying35, rfl, ask_of Try.sizeOf2, ask_of Try.isAgg2⟩, by decide⟩
instance : TyF Try.prog 35 4 4 1 false := ⟨⟨_, _, askU Try.underlying35, rfl, ask_of Try.sizeOf33, ask_of Try.isAgg33⟩, by decide⟩
instance : TyF Try.prog 35 5 5 1 false := ⟨⟨_, _, askU Try.underlying35, rfl, ask_of Try.sizeOf34, ask_of Try.isAgg34⟩, by decide⟩
instance : TyBd Try.prog 35 [(0, 1), (1, 1), (2, 1), (3, 1), (4, 1), (5, 1)] [.int .i64 0, .slice none 0 0, .int .i64 0, .int .i64 0, .slice none 0 0, .slice none 0 0] := ⟨abuild_struct (z := [.int .i64 0, .slice none 0 0, .int .i64 0, .int .i64 0, .slice none 0 0, .slice none 0 0]) (ask_of Try.zeroValue35) (askU Try.underlying35) (placesOf_cons (ask_of Try.sizeOf2) (placesOf_cons (ask_of Try.sizeOf33) (placesOf_cons (ask_of Try.sizeOf2) (placesOf_cons (ask_of Try.sizeOf2) (placesOf_cons (ask_of Try.sizeOf33) (placesOf_cons (ask_of Try.sizeOf34) rfl)))))) rfl⟩
instance : TyZ Try.prog 36 6 true (.agg #[.int .i64 0, .slice none 0 0, .int .i64 0, .int .i64 0, .slice none 0 0, .slice none 0 0]) := ⟨ask_of Try.sizeOf36, ask_of Try.isAgg36, ask_of Try.zeroValue36⟩
instance : TyF Try.prog 36 0 0 1 false := ⟨⟨_, _, askU Try.underlying36, rfl, ask_of Try.sizeOf2, ask_of Try.isAgg2⟩, by decide⟩
instance : TyF Try.prog 36 1 1 1 false := ⟨⟨_, _, askU Try.underlying36, rfl, ask_of Try.sizeOf33, ask_of Try.isAgg33⟩, by decide⟩
instance : TyF Try.prog 36 2 2 1 false := ⟨⟨_, _, askU Try.underlying36, rfl, ask_of Try.sizeOf2, ask_of Try.isAgg2⟩, by decide⟩
instance : TyF Try.prog 36 3 3 1 false := ⟨⟨_, _, askU Try.underlying36, rfl, ask_of Try.sizeOf2, ask_of Try.isAgg2⟩, by decide⟩
instance : TyF Try.prog 36 4 4 1 false := ⟨⟨_, _, askU Try.underlying36, rfl, ask_of Try.sizeOf33, ask_of Try.isAgg33⟩, by decide⟩
instance : TyF Try.prog 36 5 5 1 false := ⟨⟨_, _, askU Try.underlying36, rfl, ask_of Try.sizeOf34, ask_of Try.isAgg34⟩, by decide⟩
instance : TyBd Try.prog 36 [(0, 1), (1, 1), (2, 1), (3, 1), (4, 1), (5, 1)] [.int .i64 0, .slice none 0 0, .int .i64 0, .int .i64 0, .slice none 0 0, .slice none 0 0] := ⟨abuild_struct (z := [.int .i64 0, .slice none 0 0, .int .i64 0, .int .i64 0, .slice none 0 0, .slice none 0 0]) (ask_of Try.zeroValue36) (askU Try.underlying36) (placesOf_cons (ask_of Try.sizeOf2) (placesOf_cons (ask_of Try.sizeOf33) (placesOf_cons (ask_of Try.sizeOf2) (placesOf_cons (ask_of Try.sizeOf2) (placesOf_cons (ask_of Try.sizeOf33) (placesOf_cons (ask_of Try.sizeOf34) rfl)))))) rfl⟩
instance : TyZ Try.prog 37 1 false (.nilFunc) := ⟨ask_of Try.sizeOf37, ask_of Try.isAgg37, ask_of Try.zeroValue37⟩
instance : TyZ Try.prog 38 1 false (.nilFunc) := ⟨ask_of Try.sizeOf38, ask_of Try.isAgg38, ask_of Try.zeroValue38⟩
instance : TyZ Try.prog 39 1 false (.slice none 0 0) := ⟨ask_of Try.sizeOf39, ask_of Try.isAgg39, ask_of Try.zeroValue39⟩
instance : TySl Try.prog 39 92 2 [.slice none 0 0, .slice none 0 0] := ⟨Try.underlying39, ask_of Try.sizeOf92, ⟨_, ask_of Try.zeroValue92, rfl⟩, rfl, rfl, by rw [xN]; decide⟩
instance : TyZ Try.prog 40 6 true (.agg #[.int .i64 0, .slice none 0 0, .int .i64 0, .int .i64 0, .slice none 0 0, .slice none 0 0]) := ⟨ask_of Try.sizeOf40, ask_of Try.isAgg40, ask_of Try.zeroValue40⟩
instance : TyF Try.prog 40 0 0 1 false := ⟨⟨_, _, askU Try.underlying40, rfl, ask_of Try.sizeOf2, ask_of Try.isAgg2⟩, by decide⟩
instance : TyF Try.prog 40 1 1 1 false := ⟨⟨_, _, askU Try.underlying40, rfl, ask_of Try.sizeOf33, ask_of Try.isAgg33⟩, by decide⟩
instance : TyF Try.prog 40 2 2 1 false := ⟨⟨_, _, askU Try.underlying40, rfl, ask_of Try.sizeOf2, ask_of Try.isAgg2⟩, by decide⟩
instance : TyF Try.prog 40 3 3 1 false := ⟨⟨_, _, askU Try.underlying40, rfl, ask_of Try.sizeOf2, ask_of Try.isAgg2⟩, by decide⟩
instance : TyF Try.prog 40 4 4 1 false := ⟨⟨_, _, askU Try.underlying40, rfl, ask_of Try.sizeOf33, ask_of Try.isAgg33⟩, by decide⟩
instance : TyF Try.prog 40 5 5 1 false := ⟨⟨_, _, askU Try.underlying40, rfl, ask_of Try.sizeOf39, ask_of Try.isAgg39⟩, by decide⟩
instance : TyBd Try.prog 40 [(0, 1), (1, 1), (2, 1), (3, 1), (4, 1), (5, 1)] [.int .i64 0, .slice none 0 0, .int .i64 0, .int .i64 0, .slice none 0 0, .slice none 0 0] := ⟨abuild_struct (z := [.int .i64 0, .slice none 0 0, .int .i64 0, .int .i64 0, .slice none 0 0, .slice none 0 0]) (ask_of Try.zeroValue40) (askU Try.underlying40) (placesOf_cons (ask_of Try.sizeOf2) (placesOf_cons (ask_of Try.sizeOf33) (placesOf_cons (ask_of Try.sizeOf2) (placesOf_cons (ask_of Try.sizeOf2) (placesOf_cons (ask_of Try.sizeOf33) (placesOf_cons (ask_of Try.sizeOf39) rfl)))))) rfl⟩
instance : TyZ Try.prog 41 6 true (.agg #[.int .i64 0, .slice none 0 0, .int .i64 0, .int .i64 0, .slice none 0 0, .slice none 0 0]) := ⟨ask_of Try.sizeOf41, ask_of Try.isAgg41, ask_of Try.zeroValue41⟩
instance : TyF Try.prog 41 0 0 1 false := ⟨⟨_, _, askU Try.underlying41, rfl, ask_of Try.sizeOf2, ask_of Try.isAgg2⟩, by decide⟩
instance : TyF Try.prog 41 1 1 1 false := ⟨⟨_, _, askU Try.underlying41, rfl, ask_of Try.sizeOf33, ask_of Try.isAgg33⟩, by decide⟩
instance : TyF Try.prog 41 2 2 1 false := ⟨⟨_, _, askU Try.underlying41, rfl, ask_of Try.sizeOf2, ask_of Try.isAgg2⟩, by decide⟩
instance : TyF Try.prog 41 3 3 1 false := ⟨⟨_, _, askU Try.underlying41, rfl, ask_of Try.sizeOf2, ask_of Try.isAgg2⟩, by decide⟩
instance : TyF Try.prog 41 4 4 1 false := ⟨⟨_, _, askU Try.underlying41, rfl, ask_of Try.sizeOf33, ask_of Try.isAgg33⟩, by decide⟩
instance : TyF Try.prog 41 5 5 1 false := ⟨⟨_, _, askU Try.underlying41, rfl, ask_of Try.sizeOf39, ask_of Try.isAgg39⟩, by decide⟩
instance : TyBd Try.prog 41 [(0, 1), (1, 1), (2, 1), (3, 1), (4, 1), (5, 1)] [.int .i64 0, .slice none 0 0, .int .i64 0, .int .i64 0, .slice none 0 0, .slice none 0 0] := ⟨abuild_struct (z := [.int .i64 0, .slice none 0 0, .int .i64 0, .int .i64 0, .slice none 0 0, .slice none 0 0]) (ask_of Try.zeroValue41) (askU Try.underlying41) (placesOf_cons (ask_of Try.sizeOf2) (placesOf_cons (ask_of Try.sizeOf33) (placesOf_cons (ask_of Try.sizeOf2) (placesOf_cons (ask_of Try.sizeOf2) (placesOf_cons (ask_of Try.sizeOf33) (placesOf_cons (ask_of Try.sizeOf39) rfl)))))) rfl⟩
instance : TyZ Try.prog 42 1 false (.nilFunc) := ⟨ask_of Try.sizeOf42, ask_of Try.isAgg42, ask_of Try.zeroValue42⟩
instance : TyZ Try.prog 43 1 false (.nilFunc) := ⟨ask_of Try.sizeOf43, ask_of Try.isAgg43, ask_of Try.zeroValue43⟩
instance : TyZ Try.prog 44 1 false (.nilFunc) := ⟨ask_of Try.sizeOf44, ask_of Try.isAgg44, ask_of Try.zeroValue44⟩
instance : TyZ Try.prog 45 1 false (.slice none 0 0) := ⟨ask_of Try.sizeOf45, ask_of Try.isAgg45, ask_of Try.zeroValue45⟩
instance : TySl Try.prog 45 101 2 [.string { data := #[] }, .int .i64 0] := ⟨Try.underlying45, ask_of Try.sizeOf101, ⟨_, ask_of Try.zeroValue101, rfl⟩, rfl, rfl, by rw [xN]; decide⟩
instance : TyZ Try.prog 46 1 true (.agg #[.slice none 0 0]) := ⟨ask_of Try.sizeOf46, ask_of Try.isAgg46, ask_of Try.zeroValue46⟩
instance : TyF Try.prog 46 0 0 1 false := ⟨⟨_, _, askU Try.underlying46, rfl, ask_of Try.sizeOf45, ask_of Try.isAgg45⟩, by decide⟩
instance : TyBd Try.prog 46 [(0, 1)] [.slice none 0 0] := ⟨abuild_struct (z := [.slice none 0 0]) (ask_of Try.zeroValue46) (askU Try.underlying46) (placesOf_cons (ask_of Try.sizeOf45) rfl) rfl⟩
instance : TyZ Try.prog 47 1 true (.agg #[.slice none 0 0]) := ⟨ask_of Try.sizeOf47, ask_of Try.isAgg47, ask_of Try.zeroValue47⟩
instance : TyF Try.prog 47 0 0 1 false := ⟨⟨_, _, askU Try.underlying47, rfl, ask_of Try.sizeOf45, ask_of Try.isAgg45⟩, by decide⟩
instance : TyBd Try.prog 47 [(0, 1)] [.slice none 0 0] := ⟨abuild_struct (z := [.slice none 0 0]) (ask_of Try.zeroValue47) (askU Try.underlying47) (placesOf_cons (ask_of Try.sizeOf45) rfl) rfl⟩
instance : TyZ Try.prog 48 3 true (.agg #[.slice none 0 0, .slice none 0 0, .slice none 0 0]) := ⟨ask_of Try.sizeOf48, ask_of Try.isAgg48, ask_of Try.zeroValue48⟩
instance : TyF Try.prog 48 0 0 1 false := ⟨⟨_, _, askU Try.underlying48, rfl, ask_of Try.sizeOf33, ask_of Try.isAgg33⟩, by decide⟩
instance : TyF Try.prog 48 1 1 1 false := ⟨⟨_, _, askU Try.underlying48, rfl, ask_of Try.sizeOf34, ask_of Try.isAgg34⟩, by decide⟩
instance : TyF Try.prog 48 2 2 1 false := ⟨⟨_, _, askU Try.underlying48, rfl, ask_of Try.sizeOf34, ask_of Try.isAgg34⟩, by decide⟩
instance : TyBd Try.prog 48 [(0, 1), (1, 1), (2, 1)] [.slice none 0 0, .slice none 0 0, .slice none 0 0] := ⟨abuild_struct (z := [.slice none 0 0, .slice none 0 0, .slice none 0 0]) (ask_of Try.zeroValue48) (askU Try.underlying48) (placesOf_cons (ask_of Try.sizeOf33) (placesOf_cons (ask_of Try.sizeOf34) (placesOf_cons (ask_of Try.sizeOf34) rfl))) rfl⟩
instance : TyZ Try.prog 49 3 true (.agg #[.slice none 0 0, .slice none 0 0, .slice none 0 0]) := ⟨ask_of Try.sizeOf49, ask_of Try.isAgg49, ask_of Try.zeroValue49⟩
instance : TyF Try.prog 49 0 0 1 false := ⟨⟨_, _, askU Try.underlying49, rfl, ask_of Try.sizeOf33, ask_of Try.isAgg33⟩, by decide⟩
instance : TyF Try.prog 49 1 1 1 false := ⟨⟨_, _, askU Try.underlying49, rfl, ask_of Try.sizeOf34, ask_of Try.isAgg34⟩, by decide⟩
instance : TyF Try.prog 49 2 2 1 false := ⟨⟨_, _, askU Try.underlying49, rfl, ask_of Try.sizeOf34, ask_of Try.isAgg34⟩, by decide⟩
instance : TyBd Try.prog 49 [(0, 1), (1, 1), (2, 1)] [.slice none 0 0, .slice none 0 0, .slice none 0 0] := ⟨abuild_struct (z := [.slice none 0 0, .slice none 0 0, .slice none 0 0]) (ask_of Try.zeroValue49) (askU Try.underlying49) (placesOf_cons (ask_of Try.sizeOf33) (placesOf_cons (ask_of Try.sizeOf34) (placesOf_cons (ask_of Try.sizeOf34) rfl))) rfl⟩
instance : TyZ Try.prog 50 1 false (.slice none 0 0) := ⟨ask_of Try.sizeOf50, ask_of Try.isAgg50, ask_of Try.zeroValue50⟩
instance : TySl Try.prog 50 5 1 [(.int .u8 0)] := ⟨Try.underlying50, ask_of Try.sizeOf5, ⟨_, ask_of Try.zeroValue5, rfl⟩, rfl, rfl, by rw [xN]; decide⟩
instance : TyBy Try.prog 50 := ⟨_, Try.underlying50, Try.underlying5⟩
instance : TyZ Try.prog 51 11 true (.agg #[.slice none 0 0, .int .i64 0, .slice none 0 0, .slice none 0 0, .slice none 0 0, .bool false, .slice none 0 0, .slice none 0 0, .slice none 0 0, .slice none 0 0, .slice none 0 0]) := ⟨ask_of Try.sizeOf51, ask_of Try.isAgg51, ask_of Try.zeroValue51⟩
instance : TyF Try.prog 51 0 0 1 true := ⟨⟨_, _, askU Try.underlying51, rfl, ask_of Try.sizeOf47, ask_of Try.isAgg47⟩, by decide⟩
instance : TyF Try.prog 51 1 1 1 false := ⟨⟨_, _, askU Try.underlying51, rfl, ask_of Try.sizeOf2, ask_of Try.isAgg2⟩, by decide⟩
instance : TyF Try.prog 51 2 2 3 true := ⟨⟨_, _, askU Try.underlying51, rfl, ask_of Try.sizeOf49, ask_of Try.isAgg49⟩, by decide⟩
instance : TyF Try.prog 51 3 5 1 false := ⟨⟨_, _, askU Try.underlying51, rfl, ask_of Try.sizeOf4, ask_of Try.isAgg4⟩, by decide⟩
instance : TyF Try.prog 51 4 6 3 true := ⟨⟨_, _, askU Try.underlying51, rfl, ask_of Try.sizeOf49, ask_of Try.isAgg49⟩, by decide⟩
instance : TyF Try.prog 51 5 9 1 false := ⟨⟨_, _, askU Try.underlying51, rfl, ask_of Try.sizeOf50, ask_of Try.isAgg50⟩, by decide⟩
instance : TyF Try.prog 51 6 10 1 false := ⟨⟨_, _, askU Try.underlying51, rfl, ask_of Try.sizeOf27, ask_of Try.isAgg27⟩, by decide⟩
instance : TyBd Try.prog 51 [(0, 1), (1, 1), (2, 3), (5, 1), (6, 3), (9, 1), (10, 1)] [.slice none 0 0, .int .i64 0, .slice none 0 0, .slice none 0 0, .slice none 0 0, .bool false, .slice none 0 0, .slice none 0 0, .slice none 0 0, .slice none 0 0, .slice none 0 0] := ⟨abuild_struct (z := [.slice none 0 0, .int .i64 0, .slice none 0 0, .slice none 0 0, .slice none 0 0, .bool false, .slice none 0 0, .slice none 0 0, .slice none 0 0, .slice none 0 0, .slice none 0 0]) (ask_of Try.zeroValue51) (askU Try.underlying51) (placesOf_cons (ask_of Try.sizeOf47) (placesOf_cons (ask_of Try.sizeOf2) (placesOf_cons (ask_of Try.sizeOf49) (placesOf_cons (ask_of Try.sizeOf4) (placesOf_cons (ask_of Try.sizeOf49) (placesOf_cons (ask_of Try.sizeOf50) (placesOf_cons (ask_of Try.sizeOf27) rfl))))))) rfl⟩
instance : TyZ Try.prog 52 11 true (.agg #[.slice none 0 0, .int .i64 0, .slice none 0 0, .slice none 0 0, .slice none 0 0, .bool false, .slice none 0 0, .slice none 0 0, .slice none 0 0, .slice none 0 0, .slice none 0 0]) := ⟨ask_of Try.sizeOf52, ask_of Try.isAgg52, ask_of Try.zeroValue52⟩
instance : TyF Try.prog 52 0 0 1 true := ⟨⟨_, _, askU Try.underlying52, rfl, ask_of Try.sizeOf47, ask_of Try.isAgg47⟩, by decide⟩
instance : TyF Try.prog 52 1 1 1 false := ⟨⟨_, _, askU Try.underlying52, rfl, ask_of Try.sizeOf2, ask_of Try.isAgg2⟩, by decide⟩
instance : TyF Try.prog 52 2 2 3 true := ⟨⟨_, _, askU Try.underlying52, rfl, ask_of Try.sizeOf49, ask_of Try.isAgg49⟩, by decide⟩
instance : TyF Try.prog 52 3 5 1 false := ⟨⟨_, _, askU Try.underlying52, rfl, ask_of Try.sizeOf4, ask_of Try.isAgg4⟩, by decide⟩
instance : TyF Try.prog 52 4 6 3 true := ⟨⟨_, _, askU Try.underlying52, rfl, ask_of Try.sizeOf49, ask_of Try.isAgg49⟩, by decide⟩
instance : TyF Try.prog 52 5 9 1 false := ⟨⟨_, _, askU Try.underlying52, rfl, ask_of Try.sizeOf50, ask_of Try.isAgg50⟩, by decide⟩
instance : TyF Try.prog 52 6 10 1 false := ⟨⟨_, _, askU Try.underlying52, rfl, ask_of Try.sizeOf27, ask_of Try.isAgg27⟩, by decide⟩
instance : TyBd Try.prog 52 [(0, 1), (1, 1), (2, 3), (5, 1), (6, 3), (9, 1), (10, 1)] [.slice none 0 0, .int .i64 0, .slice none 0 0, .slice none 0 0, .slice none 0 0, .bool false, .slice none 0 0, .slice none 0 0, .slice none 0 0, .slice none 0 0, .slice none 0 0] := ⟨abuild_struct (z := [.slice none 0 0, .int .i64 0, .slice none 0 0, .slice none 0 0, .slice none 0 0, .bool false, .slice none 0 0, .slice none 0 0, .slice none 0 0, .slice none 0 0, .slice none 0 0]) (ask_of Try.zeroValue52) (askU Try.underlying52) (placesOf_cons (ask_of Try.sizeOf47) (placesOf_cons (ask_of Try.sizeOf2) (placesOf_cons (ask_of Try.sizeOf49) (placesOf_cons (ask_of Try.sizeOf4) (placesOf_cons (ask_of Try.sizeOf49) (placesOf_cons (ask_of Try.sizeOf50) (placesOf_cons (ask_of Try.sizeOf27) rfl))))))) rfl⟩
instance : TyZ Try.prog 53 1 false (.nilFunc) := ⟨ask_of Try.sizeOf53, ask_of Try.isAgg53, ask_of Try.zeroValue53⟩
instance : TyZ Try.prog 54 1 false (.nilFunc) := ⟨ask_of Try.sizeOf54, ask_of Try.isAgg54, ask_of Try.zeroValue54⟩
instance : TyZ Try.prog 55 1 false (.slice none 0 0) := ⟨ask_of Try.sizeOf55, ask_of Try.isAgg55, ask_of Try.zeroValue55⟩
instance : TySl Try.prog 55 97 2 [.string { data := #[] }, .int .i64 0] := ⟨Try.underlying55, ask_of Try.sizeOf97, ⟨_, ask_of Try.zeroValue97, rfl⟩, rfl, rfl, by rw [xN]; decide⟩
instance : TyZ Try.prog 56 1 true (.agg #[.slice none 0 0]) := ⟨ask_of Try.sizeOf56, ask_of Try.isAgg56, ask_of Try.zeroValue56⟩
instance : TyF Try.prog 56 0 0 1 false := ⟨⟨_, _, askU Try.underlying56, rfl, ask_of Try.sizeOf55, ask_of Try.isAgg55⟩, by decide⟩
instance : TyBd Try.prog 56 [(0, 1)] [.slice none 0 0] := ⟨abuild_struct (z := [.slice none 0 0]) (ask_of Try.zeroValue56) (askU Try.underlying56) (placesOf_cons (ask_of Try.sizeOf55) rfl) rfl⟩
instance : TyZ Try.prog 57 1 true (.agg #[.slice none 0 0]) := ⟨ask_of Try.sizeOf57, ask_of Try.isAgg57, ask_of Try.zeroValue57⟩
instance : TyF Try.prog 57 0 0 1 false := ⟨⟨_, _, askU Try.underlying57, rfl, ask_of Try.sizeOf55, ask_of Try.isAgg55⟩, by decide⟩
instance : TyBd Try.prog 57 [(0, 1)] [.slice none 0 0] := ⟨abuild_struct (z := [.slice none 0 0]) (ask_of Try.zeroValue57) (askU Try.underlying57) (placesOf_cons (ask_of Try.sizeOf55) rfl) rfl⟩
instance : TyZ Try.prog 58 3 true (.agg #[.slice none 0 0, .slice none 0 0, .slice none 0 0]) := ⟨ask_of Try.sizeOf58, ask_of Try.isAgg58, ask_of Try.zeroValue58⟩
instance : TyF Try.prog 58 0 0 1 false := ⟨⟨_, _, askU Try.underlying58, rfl, ask_of Try.sizeOf33, ask_of Try.isAgg33⟩, by decide⟩
instance : TyF Try.prog 58 1 1 1 false := ⟨⟨_, _, askU Try.underlying58, rfl, ask_of Try.sizeOf39, ask_of Try.isAgg39⟩, by decide⟩
instance : TyF Try.prog 58 2 2 1 false := ⟨⟨_, _, askU Try.underlying58, rfl, ask_of Try.sizeOf39, ask_of Try.isAgg39⟩, by decide⟩
instance : TyBd Try.prog 58 [(0, 1), (1, 1), (2, 1)] [.slice none 0 0, .slice none 0 0, .slice none 0 0] := ⟨abuild_struct (z := [.slice none 0 0, .slice none 0 0, .slice none 0 0]) (ask_of Try.zeroValue58) (askU Try.underlying58) (placesOf_cons (ask_of Try.sizeOf33) (placesOf_cons (ask_of Try.sizeOf39) (placesOf_cons (ask_of Try.sizeOf39) rfl))) rfl⟩
instance : TyZ Try.prog 59 3 true (.agg #[.slice none 0 0, .slice none 0 0, .slice none 0 0]) := ⟨ask_of Try.sizeOf59, ask_of Try.isAgg59, ask_of Try.zeroValue59⟩
instance : TyF Try.prog 59 0 0 1 false := ⟨⟨_, _, askU Try.underlying59, rfl, ask_of Try.sizeOf33, ask_of Try.isAgg33⟩, by decide⟩
instance : TyF Try.prog 59 1 1 1 false := ⟨⟨_, _, askU Try.underlying59, rfl, ask_of Try.sizeOf39, ask_of Try.isAgg39⟩, by decide⟩
instance : TyF Try.prog 59 2 2 1 false := ⟨⟨_, _, askU Try.underlying59, rfl, ask_of Try.sizeOf39, ask_of Try.isAgg39⟩, by decide⟩
instance : TyBd Try.prog 59 [(0, 1), (1, 1), (2, 1)] [.slice none 0 0, .slice none 0 0, .slice none 0 0] := ⟨abuild_struct (z := [.slice none 0 0, .slice none 0 0, .slice none 0 0]) (ask_of Try.zeroValue59) (askU Try.underlying59) (placesOf_cons (ask_of Try.sizeOf33) (placesOf_cons (ask_of Try.sizeOf39) (placesOf_cons (ask_of Try.sizeOf39) rfl))) rfl⟩
instance : TyZ Try.prog 60 11 true (.agg #[.slice none 0 0, .int .i64 0, .slice none 0 0, .slice none 0 0, .slice none 0 0, .bool false, .slice none 0 0, .slice none 0 0, .slice none 0 0, .slice none 0 0, .slice none 0 0]) := ⟨ask_of Try.sizeOf60, ask_of Try.isAgg60, ask_of Try.zeroValue60⟩
instance : TyF Try.prog 60 0 0 1 true := ⟨⟨_, _, askU Try.underlying60, rfl, ask_of Try.sizeOf57, ask_of Try.isAgg57⟩, by decide⟩
instance : TyF Try.prog 60 1 1 1 false := ⟨⟨_, _, askU Try.underlying60, rfl, ask_of Try.sizeOf2, ask_of Try.isAgg2⟩, by decide⟩
instance : TyF Try.prog 60 2 2 3 true := ⟨⟨_, _, askU Try.underlying60, rfl, ask_of Try.sizeOf59, ask_of Try.isAgg59⟩, by decide⟩
instance : TyF Try.prog 60 3 5 1 false := ⟨⟨_, _, askU Try.underlying60, rfl, ask_of Try.sizeOf4, ask_of Try.isAgg4⟩, by decide⟩
instance : TyF Try.prog 60 4 6 3 true := ⟨⟨_, _, askU Try.underlying60, rfl, ask_of Try.sizeOf59, ask_of Try.isAgg59⟩, by decide⟩
instance : TyF Try.prog 60 5 9 1 false := ⟨⟨_, _, askU Try.underlying60, rfl, ask_of Try.sizeOf50, ask_of Try.isAgg50⟩, by decide⟩
instance : TyF Try.prog 60 6 10 1 false := ⟨⟨_, _, askU Try.underlying60, rfl, ask_of Try.sizeOf30, ask_of Try.isAgg30⟩, by decide⟩
instance : TyBd Try.prog 60 [(0, 1), (1, 1), (2, 3), (5, 1), (6, 3), (9, 1), (10, 1)] [.slice none 0 0, .int .i64 0, .slice none 0 0, .slice none 0 0, .slice none 0 0, .bool false, .slice none 0 0, .slice none 0 0, .slice none 0 0, .slice none 0 0, .slice none 0 0] := ⟨abuild_struct (z := [.slice none 0 0, .int .i64 0, .slice none 0 0, .slice none 0 0, .slice none 0 0, .bool false, .slice none 0 0, .slice none 0 0, .slice none 0 0, .slice none 0 0, .slice none 0 0]) (ask_of Try.zeroValue60) (askU Try.underlying60) (placesOf_cons (ask_of Try.sizeOf57) (placesOf_cons (ask_of Try.sizeOf2) (placesOf_cons (ask_of Try.sizeOf59) (placesOf_cons (ask_of Try.sizeOf4) (placesOf_cons (ask_of Try.sizeOf59) (placesOf_cons (ask_of Try.sizeOf50) (placesOf_cons (ask_of Try.sizeOf30) rfl))))))) rfl⟩
instance : TyZ Try.prog 61 11 true (.agg #[.slice none 0 0, .int .i64 0, .slice none 0 0, .slice none 0 0, .slice none 0 0, .bool false, .slice none 0 0, .slice none 0 0, .slice none 0 0, .slice none 0 0, .slice none 0 0]) := ⟨ask_of Try.sizeOf61, ask_of Try.isAgg61, ask_of Try.zeroValue61⟩
instance : TyF Try.prog 61 0 0 1 true := ⟨⟨_, _, askU Try.underlying61, rfl, ask_of Try.sizeOf57, ask_of Try.isAgg57⟩, by decide⟩
instance : TyF Try.prog 61 1 1 1 false := ⟨⟨_, _, askU Try.underlying61, rfl, ask_of Try.sizeOf2, ask_of Try.isAgg2⟩, by decide⟩
instance : TyF Try.prog 61 2 2 3 true := ⟨⟨_, _, askU Try.underlying61, rfl, ask_of Try.sizeOf59, ask_of Try.isAgg59⟩, by decide⟩
instance : TyF Try.prog 61 3 5 1 false := ⟨⟨_, _, askU Try.underlying61, rfl, ask_of Try.sizeOf4, ask_of Try.isAgg4⟩, by decide⟩
instance : TyF Try.prog 61 4 6 3 true := ⟨⟨_, _, askU Try.underlying61, rfl, ask_of Try.sizeOf59, ask_of Try.isAgg59⟩, by decide⟩
instance : TyF Try.prog 61 5 9 1 false := ⟨⟨_, _, askU Try.underlying61, rfl, ask_of Try.sizeOf50, ask_of Try.isAgg50⟩, by decide⟩
instance : TyF Try.prog 61 6 10 1 false := ⟨⟨_, _, askU Try.underlying61, rfl, ask_of Try.sizeOf30, ask_of Try.isAgg30⟩, by decide⟩
instance : TyBd Try.prog 61 [(0, 1), (1, 1), (2, 3), (5, 1), (6, 3), (9, 1), (10, 1)] [.slice none 0 0, .int .i64 0, .slice none 0 0, .slice none 0 0, .slice none 0 0, .bool false, .slice none 0 0, .slice none 0 0, .slice none 0 0, .slice none 0 0, .slice none 0 0] := ⟨abuild_struct (z := [.slice none 0 0, .int .i64 0, .slice none 0 0, .slice none 0 0, .slice none 0 0, .bool false, .slice none 0 0, .slice none 0 0, .slice none 0 0, .slice none 0 0, .slice none 0 0]) (ask_of Try.zeroValue61) (askU Try.underlying61) (placesOf_cons (ask_of Try.sizeOf57) (placesOf_cons (ask_of Try.sizeOf2) (placesOf_cons (ask_of Try.sizeOf59) (placesOf_cons (ask_of Try.sizeOf4) (placesOf_cons (ask_of Try.sizeOf59) (placesOf_cons (ask_of Try.sizeOf50) (placesOf_cons (ask_of Try.sizeOf30) rfl))))))) rfl⟩
instance : TyZ Try.prog 62 1 false (.nilFunc) := ⟨ask_of Try.sizeOf62, ask_of Try.isAgg62, ask_of Try.zeroValue62⟩
instance : TyZ Try.prog 63 1 false (.nilFunc) := ⟨ask_of Try.sizeOf63, ask_of Try.isAgg63, ask_of Try.zeroValue63⟩
instance : TyZ Try.prog 64 1 false (.nilFunc) := ⟨ask_of Try.sizeOf64, ask_of Try.isAgg64, ask_of Try.zeroValue64⟩
instance : TyZ Try.prog 65 1 false (.nilFunc) := ⟨ask_of Try.sizeOf65, ask_of Try.isAgg65, ask_of Try.zeroValue65⟩
instance : TyZ Try.prog 66 2 true (.agg #[.slice none 0 0, .int .i64 0]) := ⟨ask_of Try.sizeOf66, ask_of Try.isAgg66, ask_of Try.zeroValue66⟩
instance : TyF Try.prog 66 0 0 1 false := ⟨⟨_, _, askU Try.underlying66, rfl, ask_of Try.sizeOf33, ask_of Try.isAgg33⟩, by decide⟩
instance : TyF Try.prog 66 1 1 1 false := ⟨⟨_, _, askU Try.underlying66, rfl, ask_of Try.sizeOf2, ask_of Try.isAgg2⟩, by decide⟩
instance : TyBd Try.prog 66 [(0, 1), (1, 1)] [.slice none 0 0, .int .i64 0] := ⟨abuild_struct (z := [.slice none 0 0, .int .i64 0]) (ask_of Try.zeroValue66) (askU Try.underlying66) (placesOf_cons (ask_of Try.sizeOf33) (placesOf_cons (ask_of Try.sizeOf2) rfl)) rfl⟩
instance : TyZ Try.prog 67 2 true (.agg #[.slice none 0 0, .int .i64 0]) := ⟨ask_of Try.sizeOf67, ask_of Try.isAgg67, ask_of Try.zeroValue67⟩
instance : TyF Try.prog 67 0 0 1 false := ⟨⟨_, _, askU Try.underlying67, rfl, ask_of Try.sizeOf33, ask_of Try.isAgg33⟩, by decide⟩
instance : TyF Try.prog 67 1 1 1 false := ⟨⟨_, _, askU Try.underlying67, rfl, ask_of Try.sizeOf2, ask_of Try.isAgg2⟩, by decide⟩
instance : TyBd Try.prog 67 [(0, 1), (1, 1)] [.slice none 0 0, .int .i64 0] := ⟨abuild_struct (z := [.slice none 0 0, .int .i64 0]) (ask_of Try.zeroValue67) (askU Try.underlying67) (placesOf_cons (ask_of Try.sizeOf33) (placesOf_cons (ask_of Try.sizeOf2) rfl)) rfl⟩
instance : TyZ Try.prog 68 1 false (.nilFunc) := ⟨ask_of Try.sizeOf68, ask_of Try.isAgg68, ask_of Try.zeroValue68⟩
instance : TyZ Try.prog 69 2 true (.agg #[.slice none 0 0, .int .i64 0]) := ⟨ask_of Try.sizeOf69, ask_of Try.isAgg69, ask_of Try.zeroValue69⟩
instance : TyF Try.prog 69 0 0 1 false := ⟨⟨_, _, askU Try.underlying69, rfl, ask_of Try.sizeOf33, ask_of Try.isAgg33⟩, by decide⟩
instance : TyF Try.prog 69 1 1 1 false := ⟨⟨_, _, askU Try.underlying69, rfl, ask_of Try.sizeOf2, ask_of Try.isAgg2⟩, by decide⟩
instance : TyBd Try.prog 69 [(0, 1), (1, 1)] [.slice none 0 0, .int .i64 0] := ⟨abuild_struct (z := [.slice none 0 0, .int .i64 0]) (ask_of Try.zeroValue69) (askU Try.underlying69) (placesOf_cons (ask_of Try.sizeOf33) (placesOf_cons (ask_of Try.sizeOf2) rfl)) rfl⟩
instance : TyZ Try.prog 70 1 false (.nilFunc) := ⟨ask_of Try.sizeOf70, ask_of Try.isAgg70, ask_of Try.zeroValue70⟩
instance : TyZ Try.prog 71 1 false (.nilFunc) := ⟨ask_of Try.sizeOf71, ask_of Try.isAgg71, ask_of Try.zeroValue71⟩
instance : TyZ Try.prog 72 1 false (.nilFunc) := ⟨ask_of Try.sizeOf72, ask_of Try.isAgg72, ask_of Try.zeroValue72⟩
instance : TyZ Try.prog 73 1 false (.nilFunc) := ⟨ask_of Try.sizeOf73, ask_of Try.isAgg73, ask_of Try.zeroValue73⟩
instance : TyZ Try.prog 74 1 false (.nilFunc) := ⟨ask_of Try.sizeOf74, ask_of Try.isAgg74, ask_of Try.zeroValue74⟩
instance : TyZ Try.prog 75 1 false (.nilFunc) := ⟨ask_of Try.sizeOf75, ask_of Try.isAgg75, ask_of Try.zeroValue75⟩
instance : TyZ Try.prog 76 1 false (.pointer none) := ⟨ask_of Try.sizeOf76, ask_of Try.isAgg76, ask_of Try.zeroValue76⟩
instance : TyP Try.prog 76 41 := ⟨Try.underlying76⟩
instance : TyZ Try.prog 77 1 false (.nilFunc) := ⟨ask_of Try.sizeOf77, ask_of Try.isAgg77, ask_of Try.zeroValue77⟩
instance : TyZ Try.prog 78 1 false (.nilFunc) := ⟨ask_of Try.sizeOf78, ask_of Try.isAgg78, ask_of Try.zeroValue78⟩
instance : TyZ Try.prog 79 1 false (.nilFunc) := ⟨ask_of Try.sizeOf79, ask_of Try.isAgg79, ask_of Try.zeroValue79⟩
instance : TyZ Try.prog 80 1 false (.nilFunc) := ⟨ask_of Try.sizeOf80, ask_of Try.isAgg80, ask_of Try.zeroValue80⟩
instance : TyZ Try.prog 81 1 false (.nilFunc) := ⟨ask_of Try.sizeOf81, ask_of Try.isAgg81, ask_of Try.zeroValue81⟩
instance : TyZ Try.prog 82 1 false (.nilFunc) := ⟨ask_of Try.sizeOf82, ask_of Try.isAgg82, ask_of Try.zeroValue82⟩
instance : TyZ Try.prog 83 1 false (.nilFunc) := ⟨ask_of Try.sizeOf83, ask_of Try.isAgg83, ask_of Try.zeroValue83⟩
instance : TyZ Try.prog 84 1 false (.nilFunc) := ⟨ask_of Try.sizeOf84, ask_of Try.isAgg84, ask_of Try.zeroValue84⟩
instance : TyZ Try.prog 85 1 false (.nilFunc) := ⟨ask_of Try.sizeOf85, ask_of Try.isAgg85, ask_of Try.zeroValue85⟩
instance : TyZ Try.prog 86 1 false (.nilFunc) := ⟨ask_of Try.sizeOf86, ask_of Try.isAgg86, ask_of Try.zeroValue86⟩
instance : TyZ Try.prog 87 1 false (.nilFunc) := ⟨ask_of Try.sizeOf87, ask_of Try.isAgg87, ask_of Try.zeroValue87⟩
instance : TyZ Try.prog 88 1 false (.nilFunc) := ⟨ask_of Try.sizeOf88, ask_of Try.isAgg88, ask_of Try.zeroValue88⟩
instance : TyZ Try.prog 89 1 false (.nilFunc) := ⟨ask_of Try.sizeOf89, ask_of Try.isAgg89, ask_of Try.zeroValue89⟩
instance : TyZ Try.prog 90 2 true (.agg #[.slice none 0 0, .slice none 0 0]) := ⟨ask_of Try.sizeOf90, ask_of Try.isAgg90, ask_of Try.zeroValue90⟩
instance : TyF Try.prog 90 0 0 1 false := ⟨⟨_, _, askU Try.underlying90, rfl, ask_of Try.sizeOf33, ask_of Try.isAgg33⟩, by decide⟩
instance : TyF Try.prog 90 1 1 1 false := ⟨⟨_, _, askU Try.underlying90, rfl, ask_of Try.sizeOf33, ask_of Try.isAgg33⟩, by decide⟩
instance : TyBd Try.prog 90 [(0, 1), (1, 1)] [.slice none 0 0, .slice none 0 0] := ⟨abuild_struct (z := [.slice none 0 0, .slice none 0 0]) (ask_of Try.zeroValue90) (askU Try.underlying90) (placesOf_cons (ask_of Try.sizeOf33) (placesOf_cons (ask_of Try.sizeOf33) rfl)) rfl⟩
instance : TyZ Try.prog 91 2 true (.agg #[.slice none 0 0, .slice none 0 0]) := ⟨ask_of Try.sizeOf91, ask_of Try.isAgg91, ask_of Try.zeroValue91⟩
instance : TyF Try.prog 91 0 0 1 false := ⟨⟨_, _, askU Try.underlying91, rfl, ask_of Try.sizeOf33, ask_of Try.isAgg33⟩, by decide⟩
instance : TyF Try.prog 91 1 1 1 false := ⟨⟨_, _, askU Try.underlying91, rfl, ask_of Try.sizeOf33, ask_of Try.isAgg33⟩, by decide⟩
instance : TyBd Try.prog 91 [(0, 1), (1, 1)] [.slice none 0 0, .slice none 0 0] := ⟨abuild_struct (z := [.slice none 0 0, .slice none 0 0]) (ask_of Try.zeroValue91) (askU Try.underlying91) (placesOf_cons (ask_of Try.sizeOf33) (placesOf_cons (ask_of Try.sizeOf33) rfl)) rfl⟩
instance : TyZ Try.prog 92 2 true (.agg #[.slice none 0 0, .slice none 0 0]) := ⟨ask_of Try.sizeOf92, ask_of Try.isAgg92, ask_of Try.zeroValue92⟩
instance : TyF Try.prog 92 0 0 1 false := ⟨⟨_, _, askU Try.underlying92, rfl, ask_of Try.sizeOf33, ask_of Try.isAgg33⟩, by decide⟩
instance : TyF Try.prog 92 1 1 1 false := ⟨⟨_, _, askU Try.underlying92, rfl, ask_of Try.sizeOf33, ask_of Try.isAgg33⟩, by decide⟩
instance : TyBd Try.prog 92 [(0, 1), (1, 1)] [.slice none 0 0, .slice none 0 0] := ⟨abuild_struct (z := [.slice none 0 0, .slice none 0 0]) (ask_of Try.zeroValue92) (askU Try.underlying92) (placesOf_cons (ask_of Try.sizeOf33) (placesOf_cons (ask_of Try.sizeOf33) rfl)) rfl⟩
instance : TyZ Try.prog 93 1 false (.nilFunc) := ⟨ask_of Try.sizeOf93, ask_of Try.isAgg93, ask_of Try.zeroValue93⟩
instance : TyZ Try.prog 94 1 false (.nilFunc) := ⟨ask_of Try.sizeOf94, ask_of Try.isAgg94, ask_of Try.zeroValue94⟩
instance : TyZ Try.prog 95 1 false (.nilFunc) := ⟨ask_of Try.sizeOf95, ask_of Try.isAgg95, ask_of Try.zeroValue95⟩
instance : TyZ Try.prog 96 2 true (.agg #[.string { data := #[] }, .int .i64 0]) := ⟨ask_of Try.sizeOf96, ask_of Try.isAgg96, ask_of Try.zeroValue96⟩
instance : TyF Try.prog 96 0 0 1 false := ⟨⟨_, _, askU Try.underlying96, rfl, ask_of Try.sizeOf9, ask_of Try.isAgg9⟩, by decide⟩
instance : TyF Try.prog 96 1 1 1 false := ⟨⟨_, _, askU Try.underlying96, rfl, ask_of Try.sizeOf2, ask_of Try.isAgg2⟩, by decide⟩
instance : TyBd Try.prog 96 [(0, 1), (1, 1)] [.string { data := #[] }, .int .i64 0] := ⟨abuild_struct (z := [.string { data := #[] }, .int .i64 0]) (ask_of Try.zeroValue96) (askU Try.underlying96) (placesOf_cons (ask_of Try.sizeOf9) (placesOf_cons (ask_of Try.sizeOf2) rfl)) rfl⟩
instance : TyZ Try.prog 97 2 true (.agg #[.string { data := #[] }, .int .i64 0]) := ⟨ask_of Try.sizeOf97, ask_of Try.isAgg97, ask_of Try.zeroValue97⟩
instance : TyF Try.prog 97 0 0 1 false := ⟨⟨_, _, askU Try.underlying97, rfl, ask_of Try.sizeOf9, ask_of Try.isAgg9⟩, by decide⟩
instance : TyF Try.prog 97 1 1 1 false := ⟨⟨_, _, askU Try.underlying97, rfl, ask_of Try.sizeOf2, ask_of Try.isAgg2⟩, by decide⟩
instance : TyEq Try.prog 97 [(9, 0), (2, 1)] := ⟨⟨by kernel_rfl, by kernel_rfl⟩, _, Try.underlying97, rfl, by kernel_rfl⟩
instance : TyBd Try.prog 97 [(0, 1), (1, 1)] [.string { data := #[] }, .int .i64 0] := ⟨abuild_struct (z := [.string { data := #[] }, .int .i64 0]) (ask_of Try.zeroValue97) (askU Try.underlying97) (placesOf_cons (ask_of Try.sizeOf9) (placesOf_cons (ask_of Try.sizeOf2) rfl)) rfl⟩
instance : TyZ Try.prog 98 1 false (.nilFunc) := ⟨ask_of Try.sizeOf98, ask_of Try.isAgg98, ask_of Try.zeroValue98⟩
instance : TyZ Try.prog 99 1 false (.nilFunc) := ⟨ask_of Try.sizeOf99, ask_of Try.isAgg99, ask_of Try.zeroValue99⟩
instance : TyZ Try.prog 100 1 false (.nilFunc) := ⟨ask_of Try.sizeOf100, ask_of Try.isAgg100, ask_of Try.zeroValue100⟩
instance : TyZ Try.prog 101 2 true (.agg #[.string { data := #[] }, .int .i64 0]) := ⟨ask_of Try.sizeOf101, ask_of Try.isAgg101, ask_of Try.zeroValue101⟩
instance : TyF Try.prog 101 0 0 1 false := ⟨⟨_, _, askU Try.underlying101, rfl, ask_of Try.sizeOf9, ask_of Try.isAgg9⟩, by decide⟩
instance : TyF Try.prog 101 1 1 1 false := ⟨⟨_, _, askU Try.underlying101, rfl, ask_of Try.sizeOf2, ask_of Try.isAgg2⟩, by decide⟩
instance : TyEq Try.prog 101 [(9, 0), (2, 1)] := ⟨⟨by kernel_rfl, by kernel_rfl⟩, _, Try.underlying101, rfl, by kernel_rfl⟩
instance : TyBd Try.prog 101 [(0, 1), (1, 1)] [.string { data := #[] }, .int .i64 0] := ⟨abuild_struct (z := [.string { data := #[] }, .int .i64 0]) (ask_of Try.zeroValue101) (askU Try.underlying101) (placesOf_cons (ask_of Try.sizeOf9) (placesOf_cons (ask_of Try.sizeOf2) rfl)) rfl⟩
instance : TyZ Try.prog 102 1 false (.nilFunc) := ⟨ask_of Try.sizeOf102, ask_of Try.isAgg102, ask_of Try.zeroValue102⟩
instance : TyZ Try.prog 103 1 false (.pointer none) := ⟨ask_of Try.sizeOf103, ask_of Try.isAgg103, ask_of Try.zeroValue103⟩
instance : TyP Try.prog 103 92 := ⟨Try.underlying103⟩
instance : TyZ Try.prog 104 1 false (.nilFunc) := ⟨ask_of Try.sizeOf104, ask_of Try.isAgg104, ask_of Try.zeroValue104⟩
instance : TyZ Try.prog 105 1 false (.nilFunc) := ⟨ask_of Try.sizeOf105, ask_of Try.isAgg105, ask_of Try.zeroValue105⟩
instance : TyZ Try.prog 106 1 false (.nilFunc) := ⟨ask_of Try.sizeOf106, ask_of Try.isAgg106, ask_of Try.zeroValue106⟩
instance : TyZ Try.prog 107 1 false (.nilFunc) := ⟨ask_of Try.sizeOf107, ask_of Try.isAgg107, ask_of Try.zeroValue107⟩
instance : TyZ Try.prog 108 4 true (.agg #[.pointer none, .pointer none, .pointer none, .string { data := #[] }]) := ⟨ask_of Try.sizeOf108, ask_of Try.isAgg108, ask_of Try.zeroValue108⟩
instance : TyF Try.prog 108 0 0 1 false := ⟨⟨_, _, askU Try.underlying108, rfl, ask_of Try.sizeOf17, ask_of Try.isAgg17⟩, by decide⟩
instance : TyF Try.prog 108 1 1 1 false := ⟨⟨_, _, askU Try.underlying108, rfl, ask_of Try.sizeOf17, ask_of Try.isAgg17⟩, by decide⟩
instance : TyF Try.prog 108 2 2 1 false := ⟨⟨_, _, askU Try.underlying108, rfl, ask_of Try.sizeOf17, ask_of Try.isAgg17⟩, by decide⟩
instance : TyF Try.prog 108 3 3 1 false := ⟨⟨_, _, askU Try.underlying108, rfl, ask_of Try.sizeOf9, ask_of Try.isAgg9⟩, by decide⟩
instance : TyBd Try.prog 108 [(0, 1), (1, 1), (2, 1), (3, 1)] [.pointer none, .pointer none, .pointer none, .string { data := #[] }] := ⟨abuild_struct (z := [.pointer none, .pointer none, .pointer none, .string { data := #[] }]) (ask_of Try.zeroValue108) (askU Try.underlying108) (placesOf_cons (ask_of Try.sizeOf17) (placesOf_cons (ask_of Try.sizeOf17) (placesOf_cons (ask_of Try.sizeOf17) (placesOf_cons (ask_of Try.sizeOf9) rfl)))) rfl⟩
instance : TyZ Try.prog 109 4 true (.agg #[.pointer none, .pointer none, .pointer none, .string { data := #[] }]) := ⟨ask_of Try.sizeOf109, ask_of Try.isAgg109, ask_of Try.zeroValue109⟩
instance : TyF Try.prog 109 0 0 1 false := ⟨⟨_, _, askU Try.underlying109, rfl, ask_of Try.sizeOf17, ask_of Try.isAgg17⟩, by decide⟩
instance : TyF Try.prog 109 1 1 1 false := ⟨⟨_, _, askU Try.underlying109, rfl, ask_of Try.sizeOf17, ask_of Try.isAgg17⟩, by decide⟩
instance : TyF Try.prog 109 2 2 1 false := ⟨⟨_, _, askU Try.underlying109, rfl, ask_of Try.sizeOf17, ask_of Try.isAgg17⟩, by decide⟩
instance : TyF Try.prog 109 3 3 1 false := ⟨⟨_, _, askU Try.underlying109, rfl, ask_of Try.sizeOf9, ask_of Try.isAgg9⟩, by decide⟩
instance : TyBd Try.prog 109 [(0, 1), (1, 1), (2, 1), (3, 1)] [.pointer none, .pointer none, .pointer none, .string { data := #[] }] := ⟨abuild_struct (z := [.pointer none, .pointer none, .pointer none, .string { data := #[] }]) (ask_of Try.zeroValue109) (askU Try.underlying109) (placesOf_cons (ask_of Try.sizeOf17) (placesOf_cons (ask_of Try.sizeOf17) (placesOf_cons (ask_of Try.sizeOf17) (placesOf_cons (ask_of Try.sizeOf9) rfl)))) rfl⟩
instance : TyZ Try.prog 110 0 true (.agg #[]) := ⟨ask_of Try.sizeOf110, ask_of Try.isAgg110, ask_of Try.zeroValue110⟩
instance : TyZ Try.prog 111 0 true (.agg #[]) := ⟨ask_of Try.sizeOf111, ask_of Try.isAgg111, ask_of Try.zeroValue111⟩
instance : TyBd Try.prog 111 [(0, 0)] [] := ⟨abuild_struct (z := []) (ask_of Try.zeroValue111) (askU Try.underlying111) (placesOf_cons (ask_of Try.sizeOf110) rfl) rfl⟩
instance : TyZ Try.prog 112 0 true (.agg #[]) := ⟨ask_of Try.sizeOf112, ask_of Try.isAgg112, ask_of Try.zeroValue112⟩
instance : TyBd Try.prog 112 [(0, 0)] [] := ⟨abuild_struct (z := []) (ask_of Try.zeroValue112) (askU Try.underlying112) (placesOf_cons (ask_of Try.sizeOf110) rfl) rfl⟩
instance : TyZ Try.prog 113 1 false (.nilFunc) := ⟨ask_of Try.sizeOf113, ask_of Try.isAgg113, ask_of Try.zeroValue113⟩
instance : TyZ Try.prog 114 1 false (.int .u32 0) := ⟨ask_of Try.sizeOf114, ask_of Try.isAgg114, ask_of Try.zeroValue114⟩
instance : TyI Try.prog 114 .u32 := ⟨Try.underlying114⟩
instance : TyZ Try.prog 115 1 false (.int .u8 0) := ⟨ask_of Try.sizeOf115, ask_of Try.isAgg115, ask_of Try.zeroValue115⟩
instance : TyI Try.prog 115 .u8 := ⟨Try.underlying115⟩
instance : TyZ Try.prog 116 1 false (.int .u8 0) := ⟨ask_of Try.sizeOf116, ask_of Try.isAgg116, ask_of Try.zeroValue116⟩
instance : TyI Try.prog 116 .u8 := ⟨Try.underlying116⟩
instance : TyZ Try.prog 117 1 false (.nilFunc) := ⟨ask_of Try.sizeOf117, ask_of Try.isAgg117, ask_of Try.zeroValue117⟩
instance : TyZ Try.prog 118 1 false (.pointer none) := ⟨ask_of Try.sizeOf118, ask_of Try.isAgg118, ask_of Try.zeroValue118⟩
instance : TyP Try.prog 118 5 := ⟨Try.underlying118⟩
instance : TyZ Try.prog 119 1 false (.int .i32 0) := ⟨ask_of Try.sizeOf119, ask_of Try.isAgg119, ask_of Try.zeroValue119⟩
instance : TyI Try.prog 119 .i32 := ⟨Try.underlying119⟩
instance : TyZ Try.prog 120 1 false (.int .i32 0) := ⟨ask_of Try.sizeOf120, ask_of Try.isAgg120, ask_of Try.zeroValue120⟩
instance : TyI Try.prog 120 .i32 := ⟨Try.underlying120⟩
instance : TyZ Try.prog 121 11 true (.agg #[.int .u64 0, .int .u64 0, .int .u32 0, .int .u8 0, .int .u8 0, .int .u8 0, .int .u8 0, .nilFunc, .pointer none, .int .i32 0, .int .i32 0]) := ⟨ask_of Try.sizeOf121, ask_of Try.isAgg121, ask_of Try.zeroValue121⟩
instance : TyF Try.prog 121 0 0 1 false := ⟨⟨_, _, askU Try.underlying121, rfl, ask_of Try.sizeOf12, ask_of Try.isAgg12⟩, by decide⟩
instance : TyF Try.prog 121 1 1 1 false := ⟨⟨_, _, askU Try.underlying121, rfl, ask_of Try.sizeOf12, ask_of Try.isAgg12⟩, by decide⟩
instance : TyF Try.prog 121 2 2 1 false := ⟨⟨_, _, askU Try.underlying121, rfl, ask_of Try.sizeOf114, ask_of Try.isAgg114⟩, by decide⟩
instance : TyF Try.prog 121 3 3 1 false := ⟨⟨_, _, askU Try.underlying121, rfl, ask_of Try.sizeOf115, ask_of Try.isAgg115⟩, by decide⟩
instance : TyF Try.prog 121 4 4 1 false := ⟨⟨_, _, askU Try.underlying121, rfl, ask_of Try.sizeOf5, ask_of Try.isAgg5⟩, by decide⟩
instance : TyF Try.prog 121 5 5 1 false := ⟨⟨_, _, askU Try.underlying121, rfl, ask_of Try.sizeOf5, ask_of Try.isAgg5⟩, by decide⟩
instance : TyF Try.prog 121 6 6 1 false := ⟨⟨_, _, askU Try.underlying121, rfl, ask_of Try.sizeOf116, ask_of Try.isAgg116⟩, by decide⟩
instance : TyF Try.prog 121 7 7 1 false := ⟨⟨_, _, askU Try.underlying121, rfl, ask_of Try.sizeOf117, ask_of Try.isAgg117⟩, by decide⟩
instance : TyF Try.prog 121 8 8 1 false := ⟨⟨_, _, askU Try.underlying121, rfl, ask_of Try.sizeOf118, ask_of Try.isAgg118⟩, by decide⟩
instance : TyF Try.prog 121 9 9 1 false := ⟨⟨_, _, askU Try.underlying121, rfl, ask_of Try.sizeOf119, ask_of Try.isAgg119⟩, by decide⟩
instance : TyF Try.prog 121 10 10 1 false := ⟨⟨_, _, askU Try.underlying121, rfl, ask_of Try.sizeOf120, ask_of Try.isAgg120⟩, by decide⟩
instance : TyBd Try.prog 121 [(0, 1), (1, 1), (2, 1), (3, 1), (4, 1), (5, 1), (6, 1), (7, 1), (8, 1), (9, 1), (10, 1)] [.int .u64 0, .int .u64 0, .int .u32 0, .int .u8 0, .int .u8 0, .int .u8 0, .int .u8 0, .nilFunc, .pointer none, .int .i32 0, .int .i32 0] := ⟨abuild_struct (z := [.int .u64 0, .int .u64 0, .int .u32 0, .int .u8 0, .int .u8 0, .int .u8 0, .int .u8 0, .nilFunc, .pointer none, .int .i32 0, .int .i32 0]) (ask_of Try.zeroValue121) (askU Try.underlying121) (placesOf_cons (ask_of Try.sizeOf12) (placesOf_cons (ask_of Try.sizeOf12) (placesOf_cons (ask_of Try.sizeOf114) (placesOf_cons (ask_of Try.sizeOf115) (placesOf_cons (ask_of Try.sizeOf5) (placesOf_cons (ask_of Try.sizeOf5) (placesOf_cons (ask_of Try.sizeOf116) (placesOf_cons (ask_of Try.sizeOf117) (placesOf_cons (ask_of Try.sizeOf118) (placesOf_cons (ask_of Try.sizeOf119) (placesOf_cons (ask_of Try.sizeOf120) rfl))))))))))) rfl⟩
instance : TyZ Try.prog 122 11 true (.agg #[.int .u64 0, .int .u64 0, .int .u32 0, .int .u8 0, .int .u8 0, .int .u8 0, .int .u8 0, .nilFunc, .pointer none, .int .i32 0, .int .i32 0]) := ⟨ask_of Try.sizeOf122, ask_of Try.isAgg122, ask_of Try.zeroValue122⟩
instance : TyF Try.prog 122 0 0 1 false := ⟨⟨_, _, askU Try.underlying122, rfl, ask_of Try.sizeOf12, ask_of Try.isAgg12⟩, by decide⟩
instance : TyF Try.prog 122 1 1 1 false := ⟨⟨_, _, askU Try.underlying122, rfl, ask_of Try.sizeOf12, ask_of Try.isAgg12⟩, by decide⟩
instance : TyF Try.prog 122 2 2 1 false := ⟨⟨_, _, askU Try.underlying122, rfl, ask_of Try.sizeOf114, ask_of Try.isAgg114⟩, by decide⟩
instance : TyF Try.prog 122 3 3 1 false := ⟨⟨_, _, askU Try.underlying122, rfl, ask_of Try.sizeOf115, ask_of Try.isAgg115⟩, by decide⟩
instance : TyF Try.prog 122 4 4 1 false := ⟨⟨_, _, askU Try.underlying122, rfl, ask_of Try.sizeOf5, ask_of Try.isAgg5⟩, by decide⟩
instance : TyF Try.prog 122 5 5 1 false := ⟨⟨_, _, askU Try.underlying122, rfl, ask_of Try.sizeOf5, ask_of Try.isAgg5⟩, by decide⟩
instance : TyF Try.prog 122 6 6 1 false := ⟨⟨_, _, askU Try.underlying122, rfl, ask_of Try.sizeOf116, ask_of Try.isAgg116⟩, by decide⟩
instance : TyF Try.prog 122 7 7 1 false := ⟨⟨_, _, askU Try.underlying122, rfl, ask_of Try.sizeOf117, ask_of Try.isAgg117⟩, by decide⟩
instance : TyF Try.prog 122 8 8 1 false := ⟨⟨_, _, askU Try.underlying122, rfl, ask_of Try.sizeOf118, ask_of Try.isAgg118⟩, by decide⟩
instance : TyF Try.prog 122 9 9 1 false := ⟨⟨_, _, askU Try.underlying122, rfl, ask_of Try.sizeOf119, ask_of Try.isAgg119⟩, by decide⟩
instance : TyF Try.prog 122 10 10 1 false := ⟨⟨_, _, askU Try.underlying122, rfl, ask_of Try.sizeOf120, ask_of Try.isAgg120⟩, by decide⟩
instance : TyBd Try.prog 122 [(0, 1), (1, 1), (2, 1), (3, 1), (4, 1), (5, 1), (6, 1), (7, 1), (8, 1), (9, 1), (10, 1)] [.int .u64 0, .int .u64 0, .int .u32 0, .int .u8 0, .int .u8 0, .int .u8 0, .int .u8 0, .nilFunc, .pointer none, .int .i32 0, .int .i32 0] := ⟨abuild_struct (z := [.int .u64 0, .int .u64 0, .int .u32 0, .int .u8 0, .int .u8 0, .int .u8 0, .int .u8 0, .nilFunc, .pointer none, .int .i32 0, .int .i32 0]) (ask_of Try.zeroValue122) (askU Try.underlying122) (placesOf_cons (ask_of Try.sizeOf12) (placesOf_cons (ask_of Try.sizeOf12) (placesOf_cons (ask_of Try.sizeOf114) (placesOf_cons (ask_of Try.sizeOf115) (placesOf_cons (ask_of Try.sizeOf5) (placesOf_cons (ask_of Try.sizeOf5) (placesOf_cons (ask_of Try.sizeOf116) (placesOf_cons (ask_of Try.sizeOf117) (placesOf_cons (ask_of Try.sizeOf118) (placesOf_cons (ask_of Try.sizeOf119) (placesOf_cons (ask_of Try.sizeOf120) rfl))))))))))) rfl⟩
instance : TyZ Try.prog 123 1 false (.pointer none) := ⟨ask_of Try.sizeOf123, ask_of Try.isAgg123, ask_of Try.zeroValue123⟩
end Go.Proofs.Ytkojciapfghibaa
