/- What the types of the program say. -/
import Derived.Test.YthhcemhignihlaaDoorScP
import Derived.Test.YthhcemhignihlaaDoorProg
import Derived.KernelRfl
set_option linter.unusedSimpArgs false
set_option linter.unusedVariables false
set_option maxRecDepth 100000
namespace Go.Proofs.YthhcemhignihlaaDoor
open Go Go.SC
theorem pok : POk Tryd.prog := ⟨by kernel_rfl, fun t i ht h => by
  have hall : Tryd.prog.types.all (fun i => decide (i.bytes ≤ 131072)) = true := by kernel_rfl
  have h1 := Array.all_eq_true.1 hall
  unfold Tables.info? at h
  rw [if_pos ht] at h
  obtain ⟨hlt, he⟩ := Array.getElem?_eq_some_iff.1 h
  have := h1 t hlt
  rw [he] at this
  exact of_decide_eq_true this⟩
abbrev OK (f : Nat) (W : Trans) : Prop := ∀ args H Bd K, W args H Bd K → SCalls Tryd.prog f args H Bd K
theorem xN : Tryd.prog.types.size = 128 := by kernel_rfl
instance : TyZ Tryd.prog 0 1 false (.tuple #[]) := ⟨ask_of Tryd.sizeOf0, ask_of Tryd.isAgg0, ask_of Tryd.zeroValue0⟩
instance : TyZ Tryd.prog 1 1 false (.nilFunc) := ⟨ask_of Tryd.sizeOf1, ask_of Tryd.isAgg1, ask_of Tryd.zeroValue1⟩
instance : TyZ Tryd.prog 2 1 false (.int .i64 0) := ⟨ask_of Tryd.sizeOf2, ask_of Tryd.isAgg2, ask_of Tryd.zeroValue2⟩
instance : TyI Tryd.prog 2 .i64 := ⟨Tryd.underlying2⟩
instance : TyZ Tryd.prog 3 1 false (.int .i64 0) := ⟨ask_of Tryd.sizeOf3, ask_of Tryd.isAgg3, ask_of Tryd.zeroValue3⟩
instance : TyI Tryd.prog 3 .i64 := ⟨Tryd.underlying3⟩
instance : TyZ Tryd.prog 4 1 false (.bool false) := ⟨ask_of Tryd.sizeOf4, ask_of Tryd.isAgg4, ask_of Tryd.zeroValue4⟩
instance : TyB Tryd.prog 4 := ⟨Tryd.underlying4⟩
instance : TyZ Tryd.prog 5 1 false (.int .u8 0) := ⟨ask_of Tryd.sizeOf5, ask_of Tryd.isAgg5, ask_of Tryd.zeroValue5⟩
instance : TyI Tryd.prog 5 .u8 := ⟨Tryd.underlying5⟩
instance : TyZ Tryd.prog 6 1 false (.int .u8 0) := ⟨ask_of Tryd.sizeOf6, ask_of Tryd.isAgg6, ask_of Tryd.zeroValue6⟩
instance : TyI Tryd.prog 6 .u8 := ⟨Tryd.underlying6⟩
instance : TyZ Tryd.prog 7 4 true (.agg #[.int .i64 0, .int .i64 0, .bool false, .int .u8 0]) := ⟨ask_of Tryd.sizeOf7, ask_of Tryd.isAgg7, ask_of Tryd.zeroValue7⟩
instance : TyF Tryd.prog 7 0 0 1 false := ⟨⟨_, _, askU Tryd.underlying7, rfl, ask_of Tryd.sizeOf2, ask_of Tryd.isAgg2⟩, by decide⟩
instance : TyF Tryd.prog 7 1 1 1 false := ⟨⟨_, _, askU Tryd.underlying7, rfl, ask_of Tryd.sizeOf3, ask_of Tryd.isAgg3⟩, by decide⟩
instance : TyF Tryd.prog 7 2 2 1 false := ⟨⟨_, _, askU Tryd.underlying7, rfl, ask_of Tryd.sizeOf4, ask_of Tryd.isAgg4⟩, by decide⟩
instance : TyF Tryd.prog 7 3 3 1 false := ⟨⟨_, _, askU Tryd.underlying7, rfl, ask_of Tryd.sizeOf6, ask_of Tryd.isAgg6⟩, by decide⟩
instance : TyBd Tryd.prog 7 [(0, 1), (1, 1), (2, 1), (3, 1)] [.int .i64 0, .int .i64 0, .bool false, .int .u8 0] := ⟨abuild_struct (z := [.int .i64 0, .int .i64 0, .bool false, .int .u8 0]) (ask_of Tryd.zeroValue7) (askU Tryd.underlying7) (placesOf_cons (ask_of Tryd.sizeOf2) (placesOf_cons (ask_of Tryd.sizeOf3) (placesOf_cons (ask_of Tryd.sizeOf4) (placesOf_cons (ask_of Tryd.sizeOf6) rfl)))) rfl⟩
instance : TyZ Tryd.prog 8 4 true (.agg #[.int .i64 0, .int .i64 0, .bool false, .int .u8 0]) := ⟨ask_of Tryd.sizeOf8, ask_of Tryd.isAgg8, ask_of Tryd.zeroValue8⟩
instance : TyF Tryd.prog 8 0 0 1 false := ⟨⟨_, _, askU Tryd.underlying8, rfl, ask_of Tryd.sizeOf2, ask_of Tryd.isAgg2⟩, by decide⟩
instance : TyF Tryd.prog 8 1 1 1 false := ⟨⟨_, _, askU Tryd.underlying8, rfl, ask_of Tryd.sizeOf3, ask_of Tryd.isAgg3⟩, by decide⟩
instance : TyF Tryd.prog 8 2 2 1 false := ⟨⟨_, _, askU Tryd.underlying8, rfl, ask_of Tryd.sizeOf4, ask_of Tryd.isAgg4⟩, by decide⟩
instance : TyF Tryd.prog 8 3 3 1 false := ⟨⟨_, _, askU Tryd.underlying8, rfl, ask_of Tryd.sizeOf6, ask_of Tryd.isAgg6⟩, by decide⟩
instance : TyBd Tryd.prog 8 [(0, 1), (1, 1), (2, 1), (3, 1)] [.int .i64 0, .int .i64 0, .bool false, .int .u8 0] := ⟨abuild_struct (z := [.int .i64 0, .int .i64 0, .bool false, .int .u8 0]) (ask_of Tryd.zeroValue8) (askU Tryd.underlying8) (placesOf_cons (ask_of Tryd.sizeOf2) (placesOf_cons (ask_of Tryd.sizeOf3) (placesOf_cons (ask_of Tryd.sizeOf4) (placesOf_cons (ask_of Tryd.sizeOf6) rfl)))) rfl⟩
instance : TyZ Tryd.prog 9 1 false (.string { data := #[] }) := ⟨ask_of Tryd.sizeOf9, ask_of Tryd.isAgg9, ask_of Tryd.zeroValue9⟩
instance : TyS Tryd.prog 9 := ⟨Tryd.underlying9⟩
instance : TyZ Tryd.prog 10 1 false (.string { data := #[] }) := ⟨ask_of Tryd.sizeOf10, ask_of Tryd.isAgg10, ask_of Tryd.zeroValue10⟩
instance : TyS Tryd.prog 10 := ⟨Tryd.underlying10⟩
instance : TyZ Tryd.prog 11 1 false (.string { data := #[] }) := ⟨ask_of Tryd.sizeOf11, ask_of Tryd.isAgg11, ask_of Tryd.zeroValue11⟩
instance : TyS Tryd.prog 11 := ⟨Tryd.underlying11⟩
instance : TyZ Tryd.prog 12 1 false (.int .u64 0) := ⟨ask_of Tryd.sizeOf12, ask_of Tryd.isAgg12, ask_of Tryd.zeroValue12⟩
instance : TyI Tryd.prog 12 .u64 := ⟨Tryd.underlying12⟩
instance : TyZ Tryd.prog 13 2 true (.agg #[.string { data := #[] }, .int .u64 0]) := ⟨ask_of Tryd.sizeOf13, ask_of Tryd.isAgg13, ask_of Tryd.zeroValue13⟩
instance : TyF Tryd.prog 13 0 0 1 false := ⟨⟨_, _, askU Tryd.underlying13, rfl, ask_of Tryd.sizeOf9, ask_of Tryd.isAgg9⟩, by decide⟩
instance : TyF Tryd.prog 13 1 1 1 false := ⟨⟨_, _, askU Tryd.underlying13, rfl, ask_of Tryd.sizeOf12, ask_of Tryd.isAgg12⟩, by decide⟩
instance : TyBd Tryd.prog 13 [(0, 1), (1, 1)] [.string { data := #[] }, .int .u64 0] := ⟨abuild_struct (z := [.string { data := #[] }, .int .u64 0]) (ask_of Tryd.zeroValue13) (askU Tryd.underlying13) (placesOf_cons (ask_of Tryd.sizeOf9) (placesOf_cons (ask_of Tryd.sizeOf12) rfl)) rfl⟩
instance : TyZ Tryd.prog 14 2 true (.agg #[.string { data := #[] }, .int .u64 0]) := ⟨ask_of Tryd.sizeOf14, ask_of Tryd.isAgg14, ask_of Tryd.zeroValue14⟩
instance : TyF Tryd.prog 14 0 0 1 false := ⟨⟨_, _, askU Tryd.underlying14, rfl, ask_of Tryd.sizeOf9, ask_of Tryd.isAgg9⟩, by decide⟩
instance : TyF Tryd.prog 14 1 1 1 false := ⟨⟨_, _, askU Tryd.underlying14, rfl, ask_of Tryd.sizeOf12, ask_of Tryd.isAgg12⟩, by decide⟩
instance : TyBd Tryd.prog 14 [(0, 1), (1, 1)] [.string { data := #[] }, .int .u64 0] := ⟨abuild_struct (z := [.string { data := #[] }, .int .u64 0]) (ask_of Tryd.zeroValue14) (askU Tryd.underlying14) (placesOf_cons (ask_of Tryd.sizeOf9) (placesOf_cons (ask_of Tryd.sizeOf12) rfl)) rfl⟩
instance : TyZ Tryd.prog 15 1 false (.pointer none) := ⟨ask_of Tryd.sizeOf15, ask_of Tryd.isAgg15, ask_of Tryd.zeroValue15⟩
instance : TyP Tryd.prog 15 114 := ⟨Tryd.underlying15⟩
instance : TyZ Tryd.prog 16 1 false (.pointer none) := ⟨ask_of Tryd.sizeOf16, ask_of Tryd.isAgg16, ask_of Tryd.zeroValue16⟩
instance : TyP Tryd.prog 16 117 := ⟨Tryd.underlying16⟩
instance : TyZ Tryd.prog 17 1 false (.pointer none) := ⟨ask_of Tryd.sizeOf17, ask_of Tryd.isAgg17, ask_of Tryd.zeroValue17⟩
instance : TyP Tryd.prog 17 126 := ⟨Tryd.underlying17⟩
instance : TyZ Tryd.prog 18 1 true (.agg #[.pointer none]) := ⟨ask_of Tryd.sizeOf18, ask_of Tryd.isAgg18, ask_of Tryd.zeroValue18⟩
instance : TyF Tryd.prog 18 0 0 1 false := ⟨⟨_, _, askU Tryd.underlying18, rfl, ask_of Tryd.sizeOf17, ask_of Tryd.isAgg17⟩, by decide⟩
instance : TyBd Tryd.prog 18 [(0, 1)] [.pointer none] := ⟨abuild_struct (z := [.pointer none]) (ask_of Tryd.zeroValue18) (askU Tryd.underlying18) (placesOf_cons (ask_of Tryd.sizeOf17) rfl) rfl⟩
instance : TyZ Tryd.prog 19 1 true (.agg #[.pointer none]) := ⟨ask_of Tryd.sizeOf19, ask_of Tryd.isAgg19, ask_of Tryd.zeroValue19⟩
instance : TyF Tryd.prog 19 0 0 1 false := ⟨⟨_, _, askU Tryd.underlying19, rfl, ask_of Tryd.sizeOf17, ask_of Tryd.isAgg17⟩, by decide⟩
instance : TyBd Tryd.prog 19 [(0, 1)] [.pointer none] := ⟨abuild_struct (z := [.pointer none]) (ask_of Tryd.zeroValue19) (askU Tryd.underlying19) (placesOf_cons (ask_of Tryd.sizeOf17) rfl) rfl⟩
instance : TyZ Tryd.prog 20 1 false (.nilIface) := ⟨ask_of Tryd.sizeOf20, ask_of Tryd.isAgg20, ask_of Tryd.zeroValue20⟩
instance : TyZ Tryd.prog 21 1 false (.int .i32 0) := ⟨ask_of Tryd.sizeOf21, ask_of Tryd.isAgg21, ask_of Tryd.zeroValue21⟩
instance : TyI Tryd.prog 21 .i32 := ⟨Tryd.underlying21⟩
instance : TyZ Tryd.prog 22 1 false (.slice none 0 0) := ⟨ask_of Tryd.sizeOf22, ask_of Tryd.isAgg22, ask_of Tryd.zeroValue22⟩
instance : TySl Tryd.prog 22 9 1 [(.string { data := #[] })] := ⟨Tryd.underlying22, ask_of Tryd.sizeOf9, ⟨_, ask_of Tryd.zeroValue9, rfl⟩, rfl, rfl, by rw [xN]; decide⟩
instance : TyZ Tryd.prog 23 2 true (.agg #[.int .i64 0, .slice none 0 0]) := ⟨ask_of Tryd.sizeOf23, ask_of Tryd.isAgg23, ask_of Tryd.zeroValue23⟩
instance : TyF Tryd.prog 23 0 0 1 false := ⟨⟨_, _, askU Tryd.underlying23, rfl, ask_of Tryd.sizeOf2, ask_of Tryd.isAgg2⟩, by decide⟩
instance : TyF Tryd.prog 23 1 1 1 false := ⟨⟨_, _, askU Tryd.underlying23, rfl, ask_of Tryd.sizeOf22, ask_of Tryd.isAgg22⟩, by decide⟩
instance : TyBd Tryd.prog 23 [(0, 1), (1, 1)] [.int .i64 0, .slice none 0 0] := ⟨abuild_struct (z := [.int .i64 0, .slice none 0 0]) (ask_of Tryd.zeroValue23) (askU Tryd.underlying23) (placesOf_cons (ask_of Tryd.sizeOf2) (placesOf_cons (ask_of Tryd.sizeOf22) rfl)) rfl⟩
instance : TyZ Tryd.prog 24 2 true (.agg #[.int .i64 0, .slice none 0 0]) := ⟨ask_of Tryd.sizeOf24, ask_of Tryd.isAgg24, ask_of Tryd.zeroValue24⟩
instance : TyF Tryd.prog 24 0 0 1 false := ⟨⟨_, _, askU Tryd.underlying24, rfl, ask_of Tryd.sizeOf2, ask_of Tryd.isAgg2⟩, by decide⟩
instance : TyF Tryd.prog 24 1 1 1 false := ⟨⟨_, _, askU Tryd.underlying24, rfl, ask_of Tryd.sizeOf22, ask_of Tryd.isAgg22⟩, by decide⟩
instance : TyBd Tryd.prog 24 [(0, 1), (1, 1)] [.int .i64 0, .slice none 0 0] := ⟨abuild_struct (z := [.int .i64 0, .slice none 0 0]) (ask_of Tryd.zeroValue24) (askU Tryd.underlying24) (placesOf_cons (ask_of Tryd.sizeOf2) (placesOf_cons (ask_of Tryd.sizeOf22) rfl)) rfl⟩
instance : TyZ Tryd.prog 25 1 false (.nilFunc) := ⟨ask_of Tryd.sizeOf25, ask_of Tryd.isAgg25, ask_of Tryd.zeroValue25⟩
instance : TyZ Tryd.prog 26 1 false (.nilFunc) := ⟨ask_of Tryd.sizeOf26, ask_of Tryd.isAgg26, ask_of Tryd.zeroValue26⟩
instance : TyZ Tryd.prog 27 1 false (.nilFunc) := ⟨ask_of Tryd.sizeOf27, ask_of Tryd.isAgg27, ask_of Tryd.zeroValue27⟩
instance : TyZ Tryd.prog 28 1 false (.nilFunc) := ⟨ask_of Tryd.sizeOf28, ask_of Tryd.isAgg28, ask_of Tryd.zeroValue28⟩
instance : TyZ Tryd.prog 29 1 false (.slice none 0 0) := ⟨ask_of Tryd.sizeOf29, ask_of Tryd.isAgg29, ask_of Tryd.zeroValue29⟩
instance : TySl Tryd.prog 29 67 2 [.string { data := #[] }, .int .i64 0] := ⟨Tryd.underlying29, ask_of Tryd.sizeOf67, ⟨_, ask_of Tryd.zeroValue67, rfl⟩, rfl, rfl, by rw [xN]; decide⟩
instance : TyZ Tryd.prog 30 1 true (.agg #[.slice none 0 0]) := ⟨ask_of Tryd.sizeOf30, ask_of Tryd.isAgg30, ask_of Tryd.zeroValue30⟩
instance : TyF Tryd.prog 30 0 0 1 false := ⟨⟨_, _, askU Tryd.underlying30, rfl, ask_of Tryd.sizeOf29, ask_of Tryd.isAgg29⟩, by decide⟩
instance : TyBd Tryd.prog 30 [(0, 1)] [.slice none 0 0] := ⟨abuild_struct (z := [.slice none 0 0]) (ask_of Tryd.zeroValue30) (askU Tryd.underlying30) (placesOf_cons (ask_of Tryd.sizeOf29) rfl) rfl⟩
instance : TyZ Tryd.prog 31 1 true (.agg #[.slice none 0 0]) := ⟨ask_of Tryd.sizeOf31, ask_of Tryd.isAgg31, ask_of Tryd.zeroValue31⟩
instance : TyF Tryd.prog 31 0 0 1 false := ⟨⟨_, _, askU Tryd.underlying31, rfl, ask_of Tryd.sizeOf29, ask_of Tryd.isAgg29⟩, by decide⟩
instance : TyBd Tryd.prog 31 [(0, 1)] [.slice none 0 0] := ⟨abuild_struct (z := [.slice none 0 0]) (ask_of Tryd.zeroValue31) (askU Tryd.underlying31) (placesOf_cons (ask_of Tryd.sizeOf29) rfl) rfl⟩
instance : TyZ Tryd.prog 32 1 false (.nilFunc) := ⟨ask_of Tryd.sizeOf32, ask_of Tryd.isAgg32, ask_of Tryd.zeroValue32⟩
instance : TyZ Tryd.prog 33 1 false (.slice none 0 0) := ⟨ask_of Tryd.sizeOf33, ask_of Tryd.isAgg33, ask_of Tryd.zeroValue33⟩
instance : TySl Tryd.prog 33 2 1 [(.int .i64 0)] := ⟨Tryd.underlying33, ask_of Tryd.sizeOf2, ⟨_, ask_of Tryd.zeroValue2, rfl⟩, rfl, rfl, by rw [xN]; decide⟩
instance : TyZ Tryd.prog 34 2 true (.agg #[.int .i64 0, .slice none 0 0]) := ⟨ask_of Tryd.sizeOf34, ask_of Tryd.isAgg34, ask_of Tryd.zeroValue34⟩
instance : TyF Tryd.prog 34 0 0 1 false := ⟨⟨_, _, askU Tryd.underlying34, rfl, ask_of Tryd.sizeOf2, ask_of Tryd.isAgg2⟩, by decide⟩
instance : TyF Tryd.prog 34 1 1 1 false := ⟨⟨_, _, askU Tryd.underlying34, rfl, ask_of Tryd.sizeOf33, ask_of Tryd.isAgg33⟩, by decide⟩
instance : TyBd Tryd.prog 34 [(0, 1), (1, 1)] [.int .i64 0, .slice none 0 0] := ⟨abuild_struct (z := [.int .i64 0, .slice none 0 0]) (ask_of Tryd.zeroValue34) (askU Tryd.underlying34) (placesOf_cons (ask_of Tryd.sizeOf2) (placesOf_cons (ask_of Tryd.sizeOf33) rfl)) rfl⟩
instance : TyZ Tryd.prog 35 2 true (.agg #[.int .i64 0, .slice none 0 0]) := ⟨ask_of Tryd.sizeOf35, ask_of Tryd.isAgg35, ask_of Tryd.zeroValue35⟩
instance : TyF Tryd.prog 35 0 0 1 false := ⟨⟨_, _, askU Tryd.underlying35, rfl, ask_of Tryd.sizeOf2, ask_of Tryd.isAgg2⟩, by decide⟩
instance : TyF Tryd.prog 35 1 1 1 false := ⟨⟨_, _, askU Tryd.underlying35, rfl, ask_of Tryd.sizeOf33, ask_of Tryd.isAgg33⟩, by decide⟩
instance : TyBd Tryd.prog 35 [(0, 1), (1, 1)] [.int .i64 0, .slice none 0 0] := ⟨abuild_struct (z := [.int .i64 0, .slice none 0 0]) (ask_of Tryd.zeroValue35) (askU Tryd.underlying35) (placesOf_cons (ask_of Tryd.sizeOf2) (placesOf_cons (ask_of Tryd.sizeOf33) rfl)) rfl⟩
instance : TyZ Tryd.prog 36 1 false (.nilFunc) := ⟨ask_of Tryd.sizeOf36, ask_of Tryd.isAgg36, ask_of Tryd.zeroValue36⟩
instance : TyZ Tryd.prog 37 1 false (.slice none 0 0) := ⟨ask_of Tryd.sizeOf37, ask_of Tryd.isAgg37, ask_of Tryd.zeroValue37⟩
instance : TySl Tryd.prog 37 68 2 [.string { data := #[] }, .int .i64 0] := ⟨Tryd.underlying37, ask_of Tryd.sizeOf68, ⟨_, ask_of Tryd.zeroValue68, rfl⟩, rfl, rfl, by rw [xN]; decide⟩
instance : TyZ Tryd.prog 38 1 true (.agg #[.slice none 0 0]) := ⟨ask_of Tryd.sizeOf38, ask_of Tryd.isAgg38, ask_of Tryd.zeroValue38⟩
instance : TyF Tryd.prog 38 0 0 1 false := ⟨⟨_, _, askU Tryd.underlying38, rfl, ask_of Tryd.sizeOf37, ask_of Tryd.isAgg37⟩, by decide⟩
instance : TyBd Tryd.prog 38 [(0, 1)] [.slice none 0 0] := ⟨abuild_struct (z := [.slice none 0 0]) (ask_of Tryd.zeroValue38) (askU Tryd.underlying38) (placesOf_cons (ask_of Tryd.sizeOf37) rfl) rfl⟩
instance : TyZ Tryd.prog 39 1 true (.agg #[.slice none 0 0]) := ⟨ask_of Tryd.sizeOf39, ask_of Tryd.isAgg39, ask_of Tryd.zeroValue39⟩
instance : TyF Tryd.prog 39 0 0 1 false := ⟨⟨_, _, askU Tryd.underlying39, rfl, ask_of Tryd.sizeOf37, ask_of Tryd.isAgg37⟩, by decide⟩
instance : TyBd Tryd.prog 39 [(0, 1)] [.slice none 0 0] := ⟨abuild_struct (z := [.slice none 0 0]) (ask_of Tryd.zeroValue39) (askU Tryd.underlying39) (placesOf_cons (ask_of Tryd.sizeOf37) rfl) rfl⟩
instance : TyZ Tryd.prog 40 1 false (.nilFunc) := ⟨ask_of Tryd.sizeOf40, ask_of Tryd.isAgg40, ask_of Tryd.zeroValue40⟩
instance : TyZ Tryd.prog 41 1 false (.nilFunc) := ⟨ask_of Tryd.sizeOf41, ask_of Tryd.isAgg41, ask_of Tryd.zeroValue41⟩
instance : TyZ Tryd.prog 42 1 false (.nilFunc) := ⟨ask_of Tryd.sizeOf42, ask_of Tryd.isAgg42, ask_of Tryd.zeroValue42⟩
instance : TyZ Tryd.prog 43 1 false (.nilFunc) := ⟨ask_of Tryd.sizeOf43, ask_of Tryd.isAgg43, ask_of Tryd.zeroValue43⟩
instance : TyZ Tryd.prog 44 1 false (.nilFunc) := ⟨ask_of Tryd.sizeOf44, ask_of Tryd.isAgg44, ask_of Tryd.zeroValue44⟩
instance : TyZ Tryd.prog 45 1 false (.nilFunc) := ⟨ask_of Tryd.sizeOf45, ask_of Tryd.isAgg45, ask_of Tryd.zeroValue45⟩
instance : TyZ Tryd.prog 46 1 false (.nilFunc) := ⟨ask_of Tryd.sizeOf46, ask_of Tryd.isAgg46, ask_of Tryd.zeroValue46⟩
instance : TyZ Tryd.prog 47 1 false (.nilFunc) := ⟨ask_of Tryd.sizeOf47, ask_of Tryd.isAgg47, ask_of Tryd.zeroValue47⟩
instance : TyZ Tryd.prog 48 1 false (.nilFunc) := ⟨ask_of Tryd.sizeOf48, ask_of Tryd.isAgg48, ask_of Tryd.zeroValue48⟩
instance : TyZ Tryd.prog 49 1 false (.nilFunc) := ⟨ask_of Tryd.sizeOf49, ask_of Tryd.isAgg49, ask_of Tryd.zeroValue49⟩
instance : TyZ Tryd.prog 50 1 false (.nilFunc) := ⟨ask_of Tryd.sizeOf50, ask_of Tryd.isAgg50, ask_of Tryd.zeroValue50⟩
instance : TyZ Tryd.prog 51 1 false (.nilFunc) := ⟨ask_of Tryd.sizeOf51, ask_of Tryd.isAgg51, ask_of Tryd.zeroValue51⟩
instance : TyZ Tryd.prog 52 1 false (.nilFunc) := ⟨ask_of Tryd.sizeOf52, ask_of Tryd.isAgg52, ask_of Tryd.zeroValue52⟩
instance : TyZ Tryd.prog 53 1 false (.pointer none) := ⟨ask_of Tryd.sizeOf53, ask_of Tryd.isAgg53, ask_of Tryd.zeroValue53⟩
instance : TyP Tryd.prog 53 39 := ⟨Tryd.underlying53⟩
instance : TyZ Tryd.prog 54 1 false (.nilFunc) := ⟨ask_of Tryd.sizeOf54, ask_of Tryd.isAgg54, ask_of Tryd.zeroValue54⟩
instance : TyZ Tryd.prog 55 1 false (.nilFunc) := ⟨ask_of Tryd.sizeOf55, ask_of Tryd.isAgg55, ask_of Tryd.zeroValue55⟩
instance : TyZ Tryd.prog 56 1 false (.nilFunc) := ⟨ask_of Tryd.sizeOf56, ask_of Tryd.isAgg56, ask_of Tryd.zeroValue56⟩
instance : TyZ Tryd.prog 57 1 false (.nilFunc) := ⟨ask_of Tryd.sizeOf57, ask_of Tryd.isAgg57, ask_of Tryd.zeroValue57⟩
instance : TyZ Tryd.prog 58 1 false (.nilFunc) := ⟨ask_of Tryd.sizeOf58, ask_of Tryd.isAgg58, ask_of Tryd.zeroValue58⟩
instance : TyZ Tryd.prog 59 1 false (.nilFunc) := ⟨ask_of Tryd.sizeOf59, ask_of Tryd.isAgg59, ask_of Tryd.zeroValue59⟩
instance : TyZ Tryd.prog 60 1 false (.nilFunc) := ⟨ask_of Tryd.sizeOf60, ask_of Tryd.isAgg60, ask_of Tryd.zeroValue60⟩
instance : TyZ Tryd.prog 61 1 false (.nilFunc) := ⟨ask_of Tryd.sizeOf61, ask_of Tryd.isAgg61, ask_of Tryd.zeroValue61⟩
instance : TyZ Tryd.prog 62 1 false (.nilFunc) := ⟨ask_of Tryd.sizeOf62, ask_of Tryd.isAgg62, ask_of Tryd.zeroValue62⟩
instance : TyZ Tryd.prog 63 1 false (.nilFunc) := ⟨ask_of Tryd.sizeOf63, ask_of Tryd.isAgg63, ask_of Tryd.zeroValue63⟩
instance : TyZ Tryd.prog 64 1 false (.nilFunc) := ⟨ask_of Tryd.sizeOf64, ask_of Tryd.isAgg64, ask_of Tryd.zeroValue64⟩
instance : TyZ Tryd.prog 65 1 false (.nilFunc) := ⟨ask_of Tryd.sizeOf65, ask_of Tryd.isAgg65, ask_of Tryd.zeroValue65⟩
instance : TyZ Tryd.prog 66 2 true (.agg #[.string { data := #[] }, .int .i64 0]) := ⟨ask_of Tryd.sizeOf66, ask_of Tryd.isAgg66, ask_of Tryd.zeroValue66⟩
instance : TyF Tryd.prog 66 0 0 1 false := ⟨⟨_, _, askU Tryd.underlying66, rfl, ask_of Tryd.sizeOf9, ask_of Tryd.isAgg9⟩, by decide⟩
instance : TyF Tryd.prog 66 1 1 1 false := ⟨⟨_, _, askU Tryd.underlying66, rfl, ask_of Tryd.sizeOf2, ask_of Tryd.isAgg2⟩, by decide⟩
instance : TyBd Tryd.prog 66 [(0, 1), (1, 1)] [.string { data := #[] }, .int .i64 0] := ⟨abuild_struct (z := [.string { data := #[] }, .int .i64 0]) (ask_of Tryd.zeroValue66) (askU Tryd.underlying66) (placesOf_cons (ask_of Tryd.sizeOf9) (placesOf_cons (ask_of Tryd.sizeOf2) rfl)) rfl⟩
instance : TyZ Tryd.prog 67 2 true (.agg #[.string { data := #[] }, .int .i64 0]) := ⟨ask_of Tryd.sizeOf67, ask_of Tryd.isAgg67, ask_of Tryd.zeroValue67⟩
instance : TyF Tryd.prog 67 0 0 1 false := ⟨⟨_, _, askU Tryd.underlying67, rfl, ask_of Tryd.sizeOf9, ask_of Tryd.isAgg9⟩, by decide⟩
instance : TyF Tryd.prog 67 1 1 1 false := ⟨⟨_, _, askU Tryd.underlying67, rfl, ask_of Tryd.sizeOf2, ask_of Tryd.isAgg2⟩, by decide⟩
instance : TyEq Tryd.prog 67 [(9, 0), (2, 1)] := ⟨⟨by kernel_rfl, by kernel_rfl⟩, _, Tryd.underlying67, rfl, by kernel_rfl⟩
instance : TyBd Tryd.prog 67 [(0, 1), (1, 1)] [.string { data := #[] }, .int .i64 0] := ⟨abuild_struct (z := [.string { data := #[] }, .int .i64 0]) (ask_of Tryd.zeroValue67) (askU Tryd.underlying67) (placesOf_cons (ask_of Tryd.sizeOf9) (placesOf_cons (ask_of Tryd.sizeOf2) rfl)) rfl⟩
instance : TyZ Tryd.prog 68 2 true (.agg #[.string { data := #[] }, .int .i64 0]) := ⟨ask_of Tryd.sizeOf68, ask_of Tryd.isAgg68, ask_of Tryd.zeroValue68⟩
instance : TyF Tryd.prog 68 0 0 1 false := ⟨⟨_, _, askU Tryd.underlying68, rfl, ask_of Tryd.sizeOf9, ask_of Tryd.isAgg9⟩, by decide⟩
instance : TyF Tryd.prog 68 1 1 1 false := ⟨⟨_, _, askU Tryd.underlying68, rfl, ask_of Tryd.sizeOf2, ask_of Tryd.isAgg2⟩, by decide⟩
instance : TyEq Tryd.prog 68 [(9, 0), (2, 1)] := ⟨⟨by kernel_rfl, by kernel_rfl⟩, _, Tryd.underlying68, rfl, by kernel_rfl⟩
instance : TyBd Tryd.prog 68 [(0, 1), (1, 1)] [.string { data := #[] }, .int .i64 0] := ⟨abuild_struct (z := [.string { data := #[] }, .int .i64 0]) (ask_of Tryd.zeroValue68) (askU Tryd.underlying68) (placesOf_cons (ask_of Tryd.sizeOf9) (placesOf_cons (ask_of Tryd.sizeOf2) rfl)) rfl⟩
instance : TyZ Tryd.prog 69 1 false (.nilFunc) := ⟨ask_of Tryd.sizeOf69, ask_of Tryd.isAgg69, ask_of Tryd.zeroValue69⟩
instance : TyZ Tryd.prog 70 1 false (.nilFunc) := ⟨ask_of Tryd.sizeOf70, ask_of Tryd.isAgg70, ask_of Tryd.zeroValue70⟩
instance : TyZ Tryd.prog 71 1 false (.nilFunc) := ⟨ask_of Tryd.sizeOf71, ask_of Tryd.isAgg71, ask_of Tryd.zeroValue71⟩
instance : TyZ Tryd.prog 72 1 false (.nilFunc) := ⟨ask_of Tryd.sizeOf72, ask_of Tryd.isAgg72, ask_of Tryd.zeroValue72⟩
instance : TyZ Tryd.prog 73 1 false (.nilFunc) := ⟨ask_of Tryd.sizeOf73, ask_of Tryd.isAgg73, ask_of Tryd.zeroValue73⟩
instance : TyZ Tryd.prog 74 1 false (.nilFunc) := ⟨ask_of Tryd.sizeOf74, ask_of Tryd.isAgg74, ask_of Tryd.zeroValue74⟩
instance : TyZ Tryd.prog 75 1 false (.nilFunc) := ⟨ask_of Tryd.sizeOf75, ask_of Tryd.isAgg75, ask_of Tryd.zeroValue75⟩
instance : TyZ Tryd.prog 76 1 false (.nilFunc) := ⟨ask_of Tryd.sizeOf76, ask_of Tryd.isAgg76, ask_of Tryd.zeroValue76⟩
instance : TyZ Tryd.prog 77 1 false (.nilFunc) := ⟨ask_of Tryd.sizeOf77, ask_of Tryd.isAgg77, ask_of Tryd.zeroValue77⟩
instance : TyZ Tryd.prog 78 1 false (.nilFunc) := ⟨ask_of Tryd.sizeOf78, ask_of Tryd.isAgg78, ask_of Tryd.zeroValue78⟩
instance : TyZ Tryd.prog 79 1 false (.nilFunc) := ⟨ask_of Tryd.sizeOf79, ask_of Tryd.isAgg79, ask_of Tryd.zeroValue79⟩
instance : TyZ Tryd.prog 80 1 false (.nilFunc) := ⟨ask_of Tryd.sizeOf80, ask_of Tryd.isAgg80, ask_of Tryd.zeroValue80⟩
instance : TyZ Tryd.prog 81 1 false (.nilFunc) := ⟨ask_of Tryd.sizeOf81, ask_of Tryd.isAgg81, ask_of Tryd.zeroValue81⟩
instance : TyZ Tryd.prog 82 1 false (.slice none 0 0) := ⟨ask_of Tryd.sizeOf82, ask_of Tryd.isAgg82, ask_of Tryd.zeroValue82⟩
instance : TySl Tryd.prog 82 5 1 [(.int .u8 0)] := ⟨Tryd.underlying82, ask_of Tryd.sizeOf5, ⟨_, ask_of Tryd.zeroValue5, rfl⟩, rfl, rfl, by rw [xN]; decide⟩
instance : TyBy Tryd.prog 82 := ⟨_, Tryd.underlying82, Tryd.underlying5⟩
instance : TyZ Tryd.prog 83 1 false (.nilFunc) := ⟨ask_of Tryd.sizeOf83, ask_of Tryd.isAgg83, ask_of Tryd.zeroValue83⟩
instance : TyZ Tryd.prog 84 1 false (.nilFunc) := ⟨ask_of Tryd.sizeOf84, ask_of Tryd.isAgg84, ask_of Tryd.zeroValue84⟩
instance : TyZ Tryd.prog 85 1 false (.nilFunc) := ⟨ask_of Tryd.sizeOf85, ask_of Tryd.isAgg85, ask_of Tryd.zeroValue85⟩
instance : TyZ Tryd.prog 86 1 false (.nilFunc) := ⟨ask_of Tryd.sizeOf86, ask_of Tryd.isAgg86, ask_of Tryd.zeroValue86⟩
instance : TyZ Tryd.prog 87 1 false (.nilFunc) := ⟨ask_of Tryd.sizeOf87, ask_of Tryd.isAgg87, ask_of Tryd.zeroValue87⟩
instance : TyZ Tryd.prog 88 1 false (.nilFunc) := ⟨ask_of Tryd.sizeOf88, ask_of Tryd.isAgg88, ask_of Tryd.zeroValue88⟩
instance : TyZ Tryd.prog 89 256 true (.agg Proofs.Tryd.zeroCells89) := ⟨ask_of Tryd.sizeOf89, ask_of Tryd.isAgg89, ask_of Tryd.zeroValue89⟩
instance : TyZ Tryd.prog 90 256 true (.agg Proofs.Tryd.zeroCells90) := ⟨ask_of Tryd.sizeOf90, ask_of Tryd.isAgg90, ask_of Tryd.zeroValue90⟩
instance : TyZ Tryd.prog 91 1 false (.tuple #[.agg (([.bool false, .bool false, .bool false, .bool false, .bool false, .bool false, .bool false, .bool false, .bool false, .bool false, .bool false, .bool false, .bool false, .bool false, .bool false, .bool false, .bool false, .bool false, .bool false, .bool false, .bool false, .bool false, .bool false, .bool false, .bool false, .bool false, .bool false, .bool false, .bool false, .bool false, .bool false, .bool false, .bool false, .bool false, .bool false, .bool false, .bool false, .bool false, .bool false, .bool false, .bool false, .bool false, .bool false, .bool false, .bool false, .bool false, .bool false, .bool false, .bool false, .bool false, .bool false, .bool false, .bool false, .bool false, .bool false, .bool false, .bool false, .bool false, .bool false, .bool false, .bool false, .bool false, .bool false, .bool false].append [.bool false, .bool false, .bool false, .bool false, .bool false, .bool false, .bool false, .bool false, .bool false, .bool false, .bool false, .bool false, .bool false, .bool false, .bool false, .bool false, .bool false, .bool false, .bool false, .bool false, .bool false, .bool false, .bool false, .bool false, .bool false, .bool false, .bool false, .bool false, .bool false, .bool false, .bool false, .bool false, .bool false, .bool false, .bool false, .bool false, .bool false, .bool false, .bool false, .bool false, .bool false, .bool false, .bool false, .bool false, .bool false, .bool false, .bool false, .bool false, .bool false, .bool false, .bool false, .bool false, .bool false, .bool false, .bool false, .bool false, .bool false, .bool false, .bool false, .bool false, .bool false, .bool false, .bool false, .bool false]).append ([.bool false, .bool false, .bool false, .bool false, .bool false, .bool false, .bool false, .bool false, .bool false, .bool false, .bool false, .bool false, .bool false, .bool false, .bool false, .bool false, .bool false, .bool false, .bool false, .bool false, .bool false, .bool false, .bool false, .bool false, .bool false, .bool false, .bool false, .bool false, .bool false, .bool false, .bool false, .bool false, .bool false, .bool false, .bool false, .bool false, .bool false, .bool false, .bool false, .bool false, .bool false, .bool false, .bool false, .bool false, .bool false, .bool false, .bool false, .bool false, .bool false, .bool false, .bool false, .bool false, .bool false, .bool false, .bool false, .bool false, .bool false, .bool false, .bool false, .bool false, .bool false, .bool false, .bool false, .bool false].append [.bool false, .bool false, .bool false, .bool false, .bool false, .bool false, .bool false, .bool false, .bool false, .bool false, .bool false, .bool false, .bool false, .bool false, .bool false, .bool false, .bool false, .bool false, .bool false, .bool false, .bool false, .bool false, .bool false, .bool false, .bool false, .bool false, .bool false, .bool false, .bool false, .bool false, .bool false, .bool false, .bool false, .bool false, .bool false, .bool false, .bool false, .bool false, .bool false, .bool false, .bool false, .bool false, .bool false, .bool false, .bool false, .bool false, .bool false, .bool false, .bool false, .bool false, .bool false, .bool false, .bool false, .bool false, .bool false, .bool false, .bool false, .bool false, .bool false, .bool false, .bool false, .bool false, .bool false, .bool false])).toArray, .bool false]) := ⟨ask_of Tryd.sizeOf91, ask_of Tryd.isAgg91, ask_of Tryd.zeroValue91⟩
instance : TyZ Tryd.prog 92 1 false (.nilFunc) := ⟨ask_of Tryd.sizeOf92, ask_of Tryd.isAgg92, ask_of Tryd.zeroValue92⟩
instance : TyZ Tryd.prog 93 1 false (.nilFunc) := ⟨ask_of Tryd.sizeOf93, ask_of Tryd.isAgg93, ask_of Tryd.zeroValue93⟩
instance : TyZ Tryd.prog 94 1 false (.pointer none) := ⟨ask_of Tryd.sizeOf94, ask_of Tryd.isAgg94, ask_of Tryd.zeroValue94⟩
instance : TyP Tryd.prog 94 90 := ⟨Tryd.underlying94⟩
instance : TyZ Tryd.prog 95 1 false (.nilFunc) := ⟨ask_of Tryd.sizeOf95, ask_of Tryd.isAgg95, ask_of Tryd.zeroValue95⟩
instance : TyZ Tryd.prog 96 1 false (.tuple #[.int .i32 0, .int .i64 0]) := ⟨ask_of Tryd.sizeOf96, ask_of Tryd.isAgg96, ask_of Tryd.zeroValue96⟩
instance : TyZ Tryd.prog 97 1 false (.nilFunc) := ⟨ask_of Tryd.sizeOf97, ask_of Tryd.isAgg97, ask_of Tryd.zeroValue97⟩
instance : TyZ Tryd.prog 98 1 false (.nilFunc) := ⟨ask_of Tryd.sizeOf98, ask_of Tryd.isAgg98, ask_of Tryd.zeroValue98⟩
instance : TyZ Tryd.prog 99 1 false (.nilFunc) := ⟨ask_of Tryd.sizeOf99, ask_of Tryd.isAgg99, ask_of Tryd.zeroValue99⟩
instance : TyZ Tryd.prog 100 1 false (.nilFunc) := ⟨ask_of Tryd.sizeOf100, ask_of Tryd.isAgg100, ask_of Tryd.zeroValue100⟩
instance : TyZ Tryd.prog 101 1 false (.nilFunc) := ⟨ask_of Tryd.sizeOf101, ask_of Tryd.isAgg101, ask_of Tryd.zeroValue101⟩
instance : TyZ Tryd.prog 102 1 false (.int .u64 0) := ⟨ask_of Tryd.sizeOf102, ask_of Tryd.isAgg102, ask_of Tryd.zeroValue102⟩
instance : TyI Tryd.prog 102 .u64 := ⟨Tryd.underlying102⟩
instance : TyZ Tryd.prog 103 1 false (.nilFunc) := ⟨ask_of Tryd.sizeOf103, ask_of Tryd.isAgg103, ask_of Tryd.zeroValue103⟩
instance : TyZ Tryd.prog 104 256 true (.agg Proofs.Tryd.zeroCells104) := ⟨ask_of Tryd.sizeOf104, ask_of Tryd.isAgg104, ask_of Tryd.zeroValue104⟩
instance : TyZ Tryd.prog 105 2 true (.agg #[.int .u8 0, .int .u8 0]) := ⟨ask_of Tryd.sizeOf105, ask_of Tryd.isAgg105, ask_of Tryd.zeroValue105⟩
instance : TyF Tryd.prog 105 0 0 1 false := ⟨⟨_, _, askU Tryd.underlying105, rfl, ask_of Tryd.sizeOf5, ask_of Tryd.isAgg5⟩, by decide⟩
instance : TyF Tryd.prog 105 1 1 1 false := ⟨⟨_, _, askU Tryd.underlying105, rfl, ask_of Tryd.sizeOf5, ask_of Tryd.isAgg5⟩, by decide⟩
instance : TyBd Tryd.prog 105 [(0, 1), (1, 1)] [.int .u8 0, .int .u8 0] := ⟨abuild_struct (z := [.int .u8 0, .int .u8 0]) (ask_of Tryd.zeroValue105) (askU Tryd.underlying105) (placesOf_cons (ask_of Tryd.sizeOf5) (placesOf_cons (ask_of Tryd.sizeOf5) rfl)) rfl⟩
instance : TyZ Tryd.prog 106 2 true (.agg #[.int .u8 0, .int .u8 0]) := ⟨ask_of Tryd.sizeOf106, ask_of Tryd.isAgg106, ask_of Tryd.zeroValue106⟩
instance : TyF Tryd.prog 106 0 0 1 false := ⟨⟨_, _, askU Tryd.underlying106, rfl, ask_of Tryd.sizeOf5, ask_of Tryd.isAgg5⟩, by decide⟩
instance : TyF Tryd.prog 106 1 1 1 false := ⟨⟨_, _, askU Tryd.underlying106, rfl, ask_of Tryd.sizeOf5, ask_of Tryd.isAgg5⟩, by decide⟩
instance : TyBd Tryd.prog 106 [(0, 1), (1, 1)] [.int .u8 0, .int .u8 0] := ⟨abuild_struct (z := [.int .u8 0, .int .u8 0]) (ask_of Tryd.zeroValue106) (askU Tryd.underlying106) (placesOf_cons (ask_of Tryd.sizeOf5) (placesOf_cons (ask_of Tryd.sizeOf5) rfl)) rfl⟩
instance : TyZ Tryd.prog 107 32 true (.agg #[.int .u8 0, .int .u8 0, .int .u8 0, .int .u8 0, .int .u8 0, .int .u8 0, .int .u8 0, .int .u8 0, .int .u8 0, .int .u8 0, .int .u8 0, .int .u8 0, .int .u8 0, .int .u8 0, .int .u8 0, .int .u8 0, .int .u8 0, .int .u8 0, .int .u8 0, .int .u8 0, .int .u8 0, .int .u8 0, .int .u8 0, .int .u8 0, .int .u8 0, .int .u8 0, .int .u8 0, .int .u8 0, .int .u8 0, .int .u8 0, .int .u8 0, .int .u8 0]) := ⟨ask_of Tryd.sizeOf107, ask_of Tryd.isAgg107, ask_of Tryd.zeroValue107⟩
instance : TyZ Tryd.prog 108 1 false (.int .u32 0) := ⟨ask_of Tryd.sizeOf108, ask_of Tryd.isAgg108, ask_of Tryd.zeroValue108⟩
instance : TyI Tryd.prog 108 .u32 := ⟨Tryd.underlying108⟩
instance : TyZ Tryd.prog 109 1 false (.tuple #[.int .u32 0, .int .u32 0]) := ⟨ask_of Tryd.sizeOf109, ask_of Tryd.isAgg109, ask_of Tryd.zeroValue109⟩
instance : TyZ Tryd.prog 110 1 false (.nilFunc) := ⟨ask_of Tryd.sizeOf110, ask_of Tryd.isAgg110, ask_of Tryd.zeroValue110⟩
instance : TyZ Tryd.prog 111 1 false (.nilFunc) := ⟨ask_of Tryd.sizeOf111, ask_of Tryd.isAgg111, ask_of Tryd.zeroValue111⟩
instance : TyZ Tryd.prog 112 1 false (.nilFunc) := ⟨ask_of Tryd.sizeOf112, ask_of Tryd.isAgg112, ask_of Tryd.zeroValue112⟩
instance : TyZ Tryd.prog 113 4 true (.agg #[.pointer none, .pointer none, .pointer none, .string { data := #[] }]) := ⟨ask_of Tryd.sizeOf113, ask_of Tryd.isAgg113, ask_of Tryd.zeroValue113⟩
instance : TyF Tryd.prog 113 0 0 1 false := ⟨⟨_, _, askU Tryd.underlying113, rfl, ask_of Tryd.sizeOf17, ask_of Tryd.isAgg17⟩, by decide⟩
instance : TyF Tryd.prog 113 1 1 1 false := ⟨⟨_, _, askU Tryd.underlying113, rfl, ask_of Tryd.sizeOf17, ask_of Tryd.isAgg17⟩, by decide⟩
instance : TyF Tryd.prog 113 2 2 1 false := ⟨⟨_, _, askU Tryd.underlying113, rfl, ask_of Tryd.sizeOf17, ask_of Tryd.isAgg17⟩, by decide⟩
instance : TyF Tryd.prog 113 3 3 1 false := ⟨⟨_, _, askU Tryd.underlying113, rfl, ask_of Tryd.sizeOf9, ask_of Tryd.isAgg9⟩, by decide⟩
instance : TyBd Tryd.prog 113 [(0, 1), (1, 1), (2, 1), (3, 1)] [.pointer none, .pointer none, .pointer none, .string { data := #[] }] := ⟨abuild_struct (z := [.pointer none, .pointer none, .pointer none, .string { data := #[] }]) (ask_of Tryd.zeroValue113) (askU Tryd.underlying113) (placesOf_cons (ask_of Tryd.sizeOf17) (placesOf_cons (ask_of Tryd.sizeOf17) (placesOf_cons (ask_of Tryd.sizeOf17) (placesOf_cons (ask_of Tryd.sizeOf9) rfl)))) rfl⟩
instance : TyZ Tryd.prog 114 4 true (.agg #[.pointer none, .pointer none, .pointer none, .string { data := #[] }]) := ⟨ask_of Tryd.sizeOf114, ask_of Tryd.isAgg114, ask_of Tryd.zeroValue114⟩
instance : TyF Tryd.prog 114 0 0 1 false := ⟨⟨_, _, askU Tryd.underlying114, rfl, ask_of Tryd.sizeOf17, ask_of Tryd.isAgg17⟩, by decide⟩
instance : TyF Tryd.prog 114 1 1 1 false := ⟨⟨_, _, askU Tryd.underlying114, rfl, ask_of Tryd.sizeOf17, ask_of Tryd.isAgg17⟩, by decide⟩
instance : TyF Tryd.prog 114 2 2 1 false := ⟨⟨_, _, askU Tryd.underlying114, rfl, ask_of Tryd.sizeOf17, ask_of Tryd.isAgg17⟩, by decide⟩
instance : TyF Tryd.prog 114 3 3 1 false := ⟨⟨_, _, askU Tryd.underlying114, rfl, ask_of Tryd.sizeOf9, ask_of Tryd.isAgg9⟩, by decide⟩
instance : TyBd Tryd.prog 114 [(0, 1), (1, 1), (2, 1), (3, 1)] [.pointer none, .pointer none, .pointer none, .string { data := #[] }] := ⟨abuild_struct (z := [.pointer none, .pointer none, .pointer none, .string { data := #[] }]) (ask_of Tryd.zeroValue114) (askU Tryd.underlying114) (placesOf_cons (ask_of Tryd.sizeOf17) (placesOf_cons (ask_of Tryd.sizeOf17) (placesOf_cons (ask_of Tryd.sizeOf17) (placesOf_cons (ask_of Tryd.sizeOf9) rfl)))) rfl⟩
instance : TyZ Tryd.prog 115 0 true (.agg #[]) := ⟨ask_of Tryd.sizeOf115, ask_of Tryd.isAgg115, ask_of Tryd.zeroValue115⟩
instance : TyZ Tryd.prog 116 0 true (.agg #[]) := ⟨ask_of Tryd.sizeOf116, ask_of Tryd.isAgg116, ask_of Tryd.zeroValue116⟩
instance : TyBd Tryd.prog 116 [(0, 0)] [] := ⟨abuild_struct (z := []) (ask_of Tryd.zeroValue116) (askU Tryd.underlying116) (placesOf_cons (ask_of Tryd.sizeOf115) rfl) rfl⟩
instance : TyZ Tryd.prog 117 0 true (.agg #[]) := ⟨ask_of Tryd.sizeOf117, ask_of Tryd.isAgg117, ask_of Tryd.zeroValue117⟩
instance : TyBd Tryd.prog 117 [(0, 0)] [] := ⟨abuild_struct (z := []) (ask_of Tryd.zeroValue117) (askU Tryd.underlying117) (placesOf_cons (ask_of Tryd.sizeOf115) rfl) rfl⟩
instance : TyZ Tryd.prog 118 1 false (.nilFunc) := ⟨ask_of Tryd.sizeOf118, ask_of Tryd.isAgg118, ask_of Tryd.zeroValue118⟩
instance : TyZ Tryd.prog 119 1 false (.int .u8 0) := ⟨ask_of Tryd.sizeOf119, ask_of Tryd.isAgg119, ask_of Tryd.zeroValue119⟩
instance : TyI Tryd.prog 119 .u8 := ⟨Tryd.underlying119⟩
instance : TyZ Tryd.prog 120 1 false (.int .u8 0) := ⟨ask_of Tryd.sizeOf120, ask_of Tryd.isAgg120, ask_of Tryd.zeroValue120⟩
instance : TyI Tryd.prog 120 .u8 := ⟨Tryd.underlying120⟩
instance : TyZ Tryd.prog 121 1 false (.nilFunc) := ⟨ask_of Tryd.sizeOf121, ask_of Tryd.isAgg121, ask_of Tryd.zeroValue121⟩
instance : TyZ Tryd.prog 122 1 false (.pointer none) := ⟨ask_of Tryd.sizeOf122, ask_of Tryd.isAgg122, ask_of Tryd.zeroValue122⟩
instance : TyP Tryd.prog 122 5 := ⟨Tryd.underlying122⟩
instance : TyZ Tryd.prog 123 1 false (.int .i32 0) := ⟨ask_of Tryd.sizeOf123, ask_of Tryd.isAgg123, ask_of Tryd.zeroValue123⟩
instance : TyI Tryd.prog 123 .i32 := ⟨Tryd.underlying123⟩
instance : TyZ Tryd.prog 124 1 false (.int .i32 0) := ⟨ask_of Tryd.sizeOf124, ask_of Tryd.isAgg124, ask_of Tryd.zeroValue124⟩
instance : TyI Tryd.prog 124 .i32 := ⟨Tryd.underlying124⟩
instance : TyZ Tryd.prog 125 11 true (.agg #[.int .u64 0, .int .u64 0, .int .u32 0, .int .u8 0, .int .u8 0, .int .u8 0, .int .u8 0, .nilFunc, .pointer none, .int .i32 0, .int .i32 0]) := ⟨ask_of Tryd.sizeOf125, ask_of Tryd.isAgg125, ask_of Tryd.zeroValue125⟩
instance : TyF Tryd.prog 125 0 0 1 false := ⟨⟨_, _, askU Tryd.underlying125, rfl, ask_of Tryd.sizeOf12, ask_of Tryd.isAgg12⟩, by decide⟩
instance : TyF Tryd.prog 125 1 1 1 false := ⟨⟨_, _, askU Tryd.underlying125, rfl, ask_of Tryd.sizeOf12, ask_of Tryd.isAgg12⟩, by decide⟩
instance : TyF Tryd.prog 125 2 2 1 false := ⟨⟨_, _, askU Tryd.underlying125, rfl, ask_of Tryd.sizeOf108, ask_of Tryd.isAgg108⟩, by decide⟩
instance : TyF Tryd.prog 125 3 3 1 false := ⟨⟨_, _, askU Tryd.underlying125, rfl, ask_of Tryd.sizeOf119, ask_of Tryd.isAgg119⟩, by decide⟩
instance : TyF Tryd.prog 125 4 4 1 false := ⟨⟨_, _, askU Tryd.underlying125, rfl, ask_of Tryd.sizeOf5, ask_of Tryd.isAgg5⟩, by decide⟩
instance : TyF Tryd.prog 125 5 5 1 false := ⟨⟨_, _, askU Tryd.underlying125, rfl, ask_of Tryd.sizeOf5, ask_of Tryd.isAgg5⟩, by decide⟩
instance : TyF Tryd.prog 125 6 6 1 false := ⟨⟨_, _, askU Tryd.underlying125, rfl, ask_of Tryd.sizeOf120, ask_of Tryd.isAgg120⟩, by decide⟩
instance : TyF Tryd.prog 125 7 7 1 false := ⟨⟨_, _, askU Tryd.underlying125, rfl, ask_of Tryd.sizeOf121, ask_of Tryd.isAgg121⟩, by decide⟩
instance : TyF Tryd.prog 125 8 8 1 false := ⟨⟨_, _, askU Tryd.underlying125, rfl, ask_of Tryd.sizeOf122, ask_of Tryd.isAgg122⟩, by decide⟩
instance : TyF Tryd.prog 125 9 9 1 false := ⟨⟨_, _, askU Tryd.underlying125, rfl, ask_of Tryd.sizeOf123, ask_of Tryd.isAgg123⟩, by decide⟩
instance : TyF Tryd.prog 125 10 10 1 false := ⟨⟨_, _, askU Tryd.underlying125, rfl, ask_of Tryd.sizeOf124, ask_of Tryd.isAgg124⟩, by decide⟩
instance : TyBd Tryd.prog 125 [(0, 1), (1, 1), (2, 1), (3, 1), (4, 1), (5, 1), (6, 1), (7, 1), (8, 1), (9, 1), (10, 1)] [.int .u64 0, .int .u64 0, .int .u32 0, .int .u8 0, .int .u8 0, .int .u8 0, .int .u8 0, .nilFunc, .pointer none, .int .i32 0, .int .i32 0] := ⟨abuild_struct (z := [.int .u64 0, .int .u64 0, .int .u32 0, .int .u8 0, .int .u8 0, .int .u8 0, .int .u8 0, .nilFunc, .pointer none, .int .i32 0, .int .i32 0]) (ask_of Tryd.zeroValue125) (askU Tryd.underlying125) (placesOf_cons (ask_of Tryd.sizeOf12) (placesOf_cons (ask_of Tryd.sizeOf12) (placesOf_cons (ask_of Tryd.sizeOf108) (placesOf_cons (ask_of Tryd.sizeOf119) (placesOf_cons (ask_of Tryd.sizeOf5) (placesOf_cons (ask_of Tryd.sizeOf5) (placesOf_cons (ask_of Tryd.sizeOf120) (placesOf_cons (ask_of Tryd.sizeOf121) (placesOf_cons (ask_of Tryd.sizeOf122) (placesOf_cons (ask_of Tryd.sizeOf123) (placesOf_cons (ask_of Tryd.sizeOf124) rfl))))))))))) rfl⟩
instance : TyZ Tryd.prog 126 11 true (.agg #[.int .u64 0, .int .u64 0, .int .u32 0, .int .u8 0, .int .u8 0, .int .u8 0, .int .u8 0, .nilFunc, .pointer none, .int .i32 0, .int .i32 0]) := ⟨ask_of Tryd.sizeOf126, ask_of Tryd.isAgg126, ask_of Tryd.zeroValue126⟩
instance : TyF Tryd.prog 126 0 0 1 false := ⟨⟨_, _, askU Tryd.underlying126, rfl, ask_of Tryd.sizeOf12, ask_of Tryd.isAgg12⟩, by decide⟩
instance : TyF Tryd.prog 126 1 1 1 false := ⟨⟨_, _, askU Tryd.underlying126, rfl, ask_of Tryd.sizeOf12, ask_of Tryd.isAgg12⟩, by decide⟩
instance : TyF Tryd.prog 126 2 2 1 false := ⟨⟨_, _, askU Tryd.underlying126, rfl, ask_of Tryd.sizeOf108, ask_of Tryd.isAgg108⟩, by decide⟩
instance : TyF Tryd.prog 126 3 3 1 false := ⟨⟨_, _, askU Tryd.underlying126, rfl, ask_of Tryd.sizeOf119, ask_of Tryd.isAgg119⟩, by decide⟩
instance : TyF Tryd.prog 126 4 4 1 false := ⟨⟨_, _, askU Tryd.underlying126, rfl, ask_of Tryd.sizeOf5, ask_of Tryd.isAgg5⟩, by decide⟩
instance : TyF Tryd.prog 126 5 5 1 false := ⟨⟨_, _, askU Tryd.underlying126, rfl, ask_of Tryd.sizeOf5, ask_of Tryd.isAgg5⟩, by decide⟩
instance : TyF Tryd.prog 126 6 6 1 false := ⟨⟨_, _, askU Tryd.underlying126, rfl, ask_of Tryd.sizeOf120, ask_of Tryd.isAgg120⟩, by decide⟩
instance : TyF Tryd.prog 126 7 7 1 false := ⟨⟨_, _, askU Tryd.underlying126, rfl, ask_of Tryd.sizeOf121, ask_of Tryd.isAgg121⟩, by decide⟩
instance : TyF Tryd.prog 126 8 8 1 false := ⟨⟨_, _, askU Tryd.underlying126, rfl, ask_of Tryd.sizeOf122, ask_of Tryd.isAgg122⟩, by decide⟩
instance : TyF Tryd.prog 126 9 9 1 false := ⟨⟨_, _, askU Tryd.underlying126, rfl, ask_of Tryd.sizeOf123, ask_of Tryd.isAgg123⟩, by decide⟩
instance : TyF Tryd.prog 126 10 10 1 false := ⟨⟨_, _, askU Tryd.underlying126, rfl, ask_of Tryd.sizeOf124, ask_of Tryd.isAgg124⟩, by decide⟩
instance : TyBd Tryd.prog 126 [(0, 1), (1, 1), (2, 1), (3, 1), (4, 1), (5, 1), (6, 1), (7, 1), (8, 1), (9, 1), (10, 1)] [.int .u64 0, .int .u64 0, .int .u32 0, .int .u8 0, .int .u8 0, .int .u8 0, .int .u8 0, .nilFunc, .pointer none, .int .i32 0, .int .i32 0] := ⟨abuild_struct (z := [.int .u64 0, .int .u64 0, .int .u32 0, .int .u8 0, .int .u8 0, .int .u8 0, .int .u8 0, .nilFunc, .pointer none, .int .i32 0, .int .i32 0]) (ask_of Tryd.zeroValue126) (askU Tryd.underlying126) (placesOf_cons (ask_of Tryd.sizeOf12) (placesOf_cons (ask_of Tryd.sizeOf12) (placesOf_cons (ask_of Tryd.sizeOf108) (placesOf_cons (ask_of Tryd.sizeOf119) (placesOf_cons (ask_of Tryd.sizeOf5) (placesOf_cons (ask_of Tryd.sizeOf5) (placesOf_cons (ask_of Tryd.sizeOf120) (placesOf_cons (ask_of Tryd.sizeOf121) (placesOf_cons (ask_of Tryd.sizeOf122) (placesOf_cons (ask_of Tryd.sizeOf123) (placesOf_cons (ask_of Tryd.sizeOf124) rfl))))))))))) rfl⟩
instance : TyZ Tryd.prog 127 1 false (.pointer none) := ⟨ask_of Tryd.sizeOf127, ask_of Tryd.isAgg127, ask_of Tryd.zeroValue127⟩
end Go.Proofs.YthhcemhignihlaaDoor
