/- What the types of the program say. -/
import Derived.Test.YtahnmogcmiajeaaDoorScP
import Derived.Test.YtahnmogcmiajeaaDoorProg
import Derived.KernelRfl
set_option linter.unusedSimpArgs false
set_option linter.unusedVariables false
set_option maxRecDepth 100000
namespace Go.Proofs.YtahnmogcmiajeaaDoor
open Go Go.SC
theorem pok : POk Tryd.prog := ⟨by kernel_rfl, fun t i ht h => by
  have hall : Tryd.prog.types.all (fun i => decide (i.bytes ≤ 131072)) = true := by kernel_rfl
  have h1 := Array.all_eq_true.1 hall
  unfold Tables.info? at h
  rw [if_pos ht] at h
  obtain ⟨hlt, he⟩ := Array.getElem?_eq_some_iff.1 h
  have := h1 t hlt
  rw [he] at this
  exact of_decide_eq_true this⟩
abbrev OK (f : Nat) (W : Trans) : Prop := ∀ args H Bd K, W args H Bd K → SCalls Tryd.prog f args H Bd K
theorem xN : Tryd.prog.types.size = 152 := by kernel_rfl
instance : TyZ Tryd.prog 0 1 false (.tuple #[]) := ⟨ask_of Tryd.sizeOf0, ask_of Tryd.isAgg0, ask_of Tryd.zeroValue0⟩
instance : TyZ Tryd.prog 1 1 false (.nilFunc) := ⟨ask_of Tryd.sizeOf1, ask_of Tryd.isAgg1, ask_of Tryd.zeroValue1⟩
instance : TyZ Tryd.prog 2 1 false (.int .i64 0) := ⟨ask_of Tryd.sizeOf2, ask_of Tryd.isAgg2, ask_of Tryd.zeroValue2⟩
instance : TyI Tryd.prog 2 .i64 := ⟨Tryd.underlying2⟩
instance : TyZ Tryd.prog 3 1 false (.int .i64 0) := ⟨ask_of Tryd.sizeOf3, ask_of Tryd.isAgg3, ask_of Tryd.zeroValue3⟩
instance : TyI Tryd.prog 3 .i64 := ⟨Tryd.underlying3⟩
instance : TyZ Tryd.prog 4 1 false (.bool false) := ⟨ask_of Tryd.sizeOf4, ask_of Tryd.isAgg4, ask_of Tryd.zeroValue4⟩
instance : TyB Tryd.prog 4 := ⟨Tryd.underlying4⟩
instance : TyZ Tryd.prog 5 1 false (.int .u8 0) := ⟨ask_of Tryd.sizeOf5, ask_of Tryd.isAgg5, ask_of Tryd.zeroValue5⟩
instance : TyI Tryd.prog 5 .u8 := ⟨Tryd.underlying5⟩
instance : TyZ Tryd.prog 6 1 false (.int .u8 0) := ⟨ask_of Tryd.sizeOf6, ask_of Tryd.isAgg6, ask_of Tryd.zeroValue6⟩
instance : TyI Tryd.prog 6 .u8 := ⟨Tryd.underlying6⟩
instance : TyZ Tryd.prog 7 4 true (.agg #[.int .i64 0, .int .i64 0, .bool false, .int .u8 0]) := ⟨ask_of Tryd.sizeOf7, ask_of Tryd.isAgg7, ask_of Tryd.zeroValue7⟩
instance : TyF Tryd.prog 7 0 0 1 false := ⟨⟨_, _, askU Tryd.underlying7, rfl, ask_of Tryd.sizeOf2, ask_of Tryd.isAgg2⟩, by decide⟩
instance : TyF Tryd.prog 7 1 1 1 false := ⟨⟨_, _, askU Tryd.underlying7, rfl, ask_of Tryd.sizeOf3, ask_of Tryd.isAgg3⟩, by decide⟩
instance : TyF Tryd.prog 7 2 2 1 false := ⟨⟨_, _, askU Tryd.underlying7, rfl, ask_of Tryd.sizeOf4, ask_of Tryd.isAgg4⟩, by decide⟩
instance : TyF Tryd.prog 7 3 3 1 false := ⟨⟨_, _, askU Tryd.underlying7, rfl, ask_of Tryd.sizeOf6, ask_of Tryd.isAgg6⟩, by decide⟩
instance : TyBd Tryd.prog 7 [(0, 1), (1, 1), (2, 1), (3, 1)] [.int .i64 0, .int .i64 0, .bool false, .int .u8 0] := ⟨abuild_struct (z := [.int .i64 0, .int .i64 0, .bool false, .int .u8 0]) (ask_of Tryd.zeroValue7) (askU Tryd.underlying7) (placesOf_cons (ask_of Tryd.sizeOf2) (placesOf_cons (ask_of Tryd.sizeOf3) (placesOf_cons (ask_of Tryd.sizeOf4) (placesOf_cons (ask_of Tryd.sizeOf6) rfl)))) rfl⟩
instance : TyZ Tryd.prog 8 4 true (.agg #[.int .i64 0, .int .i64 0, .bool false, .int .u8 0]) := ⟨ask_of Tryd.sizeOf8, ask_of Tryd.isAgg8, ask_of Tryd.zeroValue8⟩
instance : TyF Tryd.prog 8 0 0 1 false := ⟨⟨_, _, askU Tryd.underlying8, rfl, ask_of Tryd.sizeOf2, ask_of Tryd.isAgg2⟩, by decide⟩
instance : TyF Tryd.prog 8 1 1 1 false := ⟨⟨_, _, askU Tryd.underlying8, rfl, ask_of Tryd.sizeOf3, ask_of Tryd.isAgg3⟩, by decide⟩
instance : TyF Tryd.prog 8 2 2 1 false := ⟨⟨_, _, askU Tryd.underlying8, rfl, ask_of Tryd.sizeOf4, ask_of Tryd.isAgg4⟩, by decide⟩
instance : TyF Tryd.prog 8 3 3 1 false := ⟨⟨_, _, askU Tryd.underlying8, rfl, ask_of Tryd.sizeOf6, ask_of Tryd.isAgg6⟩, by decide⟩
instance : TyBd Tryd.prog 8 [(0, 1), (1, 1), (2, 1), (3, 1)] [.int .i64 0, .int .i64 0, .bool false, .int .u8 0] := ⟨abuild_struct (z := [.int .i64 0, .int .i64 0, .bool false, .int .u8 0]) (ask_of Tryd.zeroValue8) (askU Tryd.underlying8) (placesOf_cons (ask_of Tryd.sizeOf2) (placesOf_cons (ask_of Tryd.sizeOf3) (placesOf_cons (ask_of Tryd.sizeOf4) (placesOf_cons (ask_of Tryd.sizeOf6) rfl)))) rfl⟩
instance : TyZ Tryd.prog 9 1 false (.string { data := #[] }) := ⟨ask_of Tryd.sizeOf9, ask_of Tryd.isAgg9, ask_of Tryd.zeroValue9⟩
instance : TyS Tryd.prog 9 := ⟨Tryd.underlying9⟩
instance : TyZ Tryd.prog 10 1 false (.string { data := #[] }) := ⟨ask_of Tryd.sizeOf10, ask_of Tryd.isAgg10, ask_of Tryd.zeroValue10⟩
instance : TyS Tryd.prog 10 := ⟨Tryd.underlying10⟩
instance : TyZ Tryd.prog 11 1 false (.string { data := #[] }) := ⟨ask_of Tryd.sizeOf11, ask_of Tryd.isAgg11, ask_of Tryd.zeroValue11⟩
instance : TyS Tryd.prog 11 := ⟨Tryd.underlying11⟩
instance : TyZ Tryd.prog 12 1 false (.int .u64 0) := ⟨ask_of Tryd.sizeOf12, ask_of Tryd.isAgg12, ask_of Tryd.zeroValue12⟩
instance : TyI Tryd.prog 12 .u64 := ⟨Tryd.underlying12⟩
instance : TyZ Tryd.prog 13 2 true (.agg #[.string { data := #[] }, .int .u64 0]) := ⟨ask_of Tryd.sizeOf13, ask_of Tryd.isAgg13, ask_of Tryd.zeroValue13⟩
instance : TyF Tryd.prog 13 0 0 1 false := ⟨⟨_, _, askU Tryd.underlying13, rfl, ask_of Tryd.sizeOf9, ask_of Tryd.isAgg9⟩, by decide⟩
instance : TyF Tryd.prog 13 1 1 1 false := ⟨⟨_, _, askU Tryd.underlying13, rfl, ask_of Tryd.sizeOf12, ask_of Tryd.isAgg12⟩, by decide⟩
instance : TyBd Tryd.prog 13 [(0, 1), (1, 1)] [.string { data := #[] }, .int .u64 0] := ⟨abuild_struct (z := [.string { data := #[] }, .int .u64 0]) (ask_of Tryd.zeroValue13) (askU Tryd.underlying13) (placesOf_cons (ask_of Tryd.sizeOf9) (placesOf_cons (ask_of Tryd.sizeOf12) rfl)) rfl⟩
instance : TyZ Tryd.prog 14 2 true (.agg #[.string { data := #[] }, .int .u64 0]) := ⟨ask_of Tryd.sizeOf14, ask_of Tryd.isAgg14, ask_of Tryd.zeroValue14⟩
instance : TyF Tryd.prog 14 0 0 1 false := ⟨⟨_, _, askU Tryd.underlying14, rfl, ask_of Tryd.sizeOf9, ask_of Tryd.isAgg9⟩, by decide⟩
instance : TyF Tryd.prog 14 1 1 1 false := ⟨⟨_, _, askU Tryd.underlying14, rfl, ask_of Tryd.sizeOf12, ask_of Tryd.isAgg12⟩, by decide⟩
instance : TyBd Tryd.prog 14 [(0, 1), (1, 1)] [.string { data := #[] }, .int .u64 0] := ⟨abuild_struct (z := [.string { data := #[] }, .int .u64 0]) (ask_of Tryd.zeroValue14) (askU Tryd.underlying14) (placesOf_cons (ask_of Tryd.sizeOf9) (placesOf_cons (ask_of Tryd.sizeOf12) rfl)) rfl⟩
instance : TyZ Tryd.prog 15 1 false (.pointer none) := ⟨ask_of Tryd.sizeOf15, ask_of Tryd.isAgg15, ask_of Tryd.zeroValue15⟩
instance : TyP Tryd.prog 15 140 := ⟨Tryd.underlying15⟩
instance : TyZ Tryd.prog 16 1 false (.pointer none) := ⟨ask_of Tryd.sizeOf16, ask_of Tryd.isAgg16, ask_of Tryd.zeroValue16⟩
instance : TyP Tryd.prog 16 143 := ⟨Tryd.underlying16⟩
instance : TyZ Tryd.prog 17 1 false (.pointer none) := ⟨ask_of Tryd.sizeOf17, ask_of Tryd.isAgg17, ask_of Tryd.zeroValue17⟩
instance : TyP Tryd.prog 17 151 := ⟨Tryd.underlying17⟩
instance : TyZ Tryd.prog 18 1 true (.agg #[.pointer none]) := ⟨ask_of Tryd.sizeOf18, ask_of Tryd.isAgg18, ask_of Tryd.zeroValue18⟩
instance : TyF Tryd.prog 18 0 0 1 false := ⟨⟨_, _, askU Tryd.underlying18, rfl, ask_of Tryd.sizeOf17, ask_of Tryd.isAgg17⟩, by decide⟩
instance : TyBd Tryd.prog 18 [(0, 1)] [.pointer none] := ⟨abuild_struct (z := [.pointer none]) (ask_of Tryd.zeroValue18) (askU Tryd.underlying18) (placesOf_cons (ask_of Tryd.sizeOf17) rfl) rfl⟩
instance : TyZ Tryd.prog 19 1 true (.agg #[.pointer none]) := ⟨ask_of Tryd.sizeOf19, ask_of Tryd.isAgg19, ask_of Tryd.zeroValue19⟩
instance : TyF Tryd.prog 19 0 0 1 false := ⟨⟨_, _, askU Tryd.underlying19, rfl, ask_of Tryd.sizeOf17, ask_of Tryd.isAgg17⟩, by decide⟩
instance : TyBd Tryd.prog 19 [(0, 1)] [.pointer none] := ⟨abuild_struct (z := [.pointer none]) (ask_of Tryd.zeroValue19) (askU Tryd.underlying19) (placesOf_cons (ask_of Tryd.sizeOf17) rfl) rfl⟩
instance : TyZ Tryd.prog 20 1 false (.nilIface) := ⟨ask_of Tryd.sizeOf20, ask_of Tryd.isAgg20, ask_of Tryd.zeroValue20⟩
instance : TyZ Tryd.prog 21 1 false (.int .i32 0) := ⟨ask_of Tryd.sizeOf21, ask_of Tryd.isAgg21, ask_of Tryd.zeroValue21⟩
instance : TyI Tryd.prog 21 .i32 := ⟨Tryd.underlying21⟩
instance : TyZ Tryd.prog 22 1 false (.slice none 0 0) := ⟨ask_of Tryd.sizeOf22, ask_of Tryd.isAgg22, ask_of Tryd.zeroValue22⟩
instance : TySl Tryd.prog 22 63 2 [.string { data := #[] }, .int .i64 0] := ⟨Tryd.underlying22, ask_of Tryd.sizeOf63, ⟨_, ask_of Tryd.zeroValue63, rfl⟩, rfl, rfl, by rw [xN]; decide⟩
instance : TyZ Tryd.prog 23 1 true (.agg #[.slice none 0 0]) := ⟨ask_of Tryd.sizeOf23, ask_of Tryd.isAgg23, ask_of Tryd.zeroValue23⟩
instance : TyF Tryd.prog 23 0 0 1 false := ⟨⟨_, _, askU Tryd.underlying23, rfl, ask_of Tryd.sizeOf22, ask_of Tryd.isAgg22⟩, by decide⟩
instance : TyBd Tryd.prog 23 [(0, 1)] [.slice none 0 0] := ⟨abuild_struct (z := [.slice none 0 0]) (ask_of Tryd.zeroValue23) (askU Tryd.underlying23) (placesOf_cons (ask_of Tryd.sizeOf22) rfl) rfl⟩
instance : TyZ Tryd.prog 24 1 true (.agg #[.slice none 0 0]) := ⟨ask_of Tryd.sizeOf24, ask_of Tryd.isAgg24, ask_of Tryd.zeroValue24⟩
instance : TyF Tryd.prog 24 0 0 1 false := ⟨⟨_, _, askU Tryd.underlying24, rfl, ask_of Tryd.sizeOf22, ask_of Tryd.isAgg22⟩, by decide⟩
instance : TyBd Tryd.prog 24 [(0, 1)] [.slice none 0 0] := ⟨abuild_struct (z := [.slice none 0 0]) (ask_of Tryd.zeroValue24) (askU Tryd.underlying24) (placesOf_cons (ask_of Tryd.sizeOf22) rfl) rfl⟩
instance : TyZ Tryd.prog 25 1 false (.slice none 0 0) := ⟨ask_of Tryd.sizeOf25, ask_of Tryd.isAgg25, ask_of Tryd.zeroValue25⟩
instance : TySl Tryd.prog 25 45 2 [.slice none 0 0, .int .i64 0] := ⟨Tryd.underlying25, ask_of Tryd.sizeOf45, ⟨_, ask_of Tryd.zeroValue45, rfl⟩, rfl, rfl, by rw [xN]; decide⟩
instance : TyZ Tryd.prog 26 1 false (.nilFunc) := ⟨ask_of Tryd.sizeOf26, ask_of Tryd.isAgg26, ask_of Tryd.zeroValue26⟩
instance : TyZ Tryd.prog 27 1 false (.nilFunc) := ⟨ask_of Tryd.sizeOf27, ask_of Tryd.isAgg27, ask_of Tryd.zeroValue27⟩
instance : TyZ Tryd.prog 28 2 true (.agg #[.int .i64 0, .string { data := #[] }]) := ⟨ask_of Tryd.sizeOf28, ask_of Tryd.isAgg28, ask_of Tryd.zeroValue28⟩
instance : TyF Tryd.prog 28 0 0 1 false := ⟨⟨_, _, askU Tryd.underlying28, rfl, ask_of Tryd.sizeOf2, ask_of Tryd.isAgg2⟩, by decide⟩
instance : TyF Tryd.prog 28 1 1 1 false := ⟨⟨_, _, askU Tryd.underlying28, rfl, ask_of Tryd.sizeOf9, ask_of Tryd.isAgg9⟩, by decide⟩
instance : TyBd Tryd.prog 28 [(0, 1), (1, 1)] [.int .i64 0, .string { data := #[] }] := ⟨abuild_struct (z := [.int .i64 0, .string { data := #[] }]) (ask_of Tryd.zeroValue28) (askU Tryd.underlying28) (placesOf_cons (ask_of Tryd.sizeOf2) (placesOf_cons (ask_of Tryd.sizeOf9) rfl)) rfl⟩
instance : TyZ Tryd.prog 29 2 true (.agg #[.int .i64 0, .string { data := #[] }]) := ⟨ask_of Tryd.sizeOf29, ask_of Tryd.isAgg29, ask_of Tryd.zeroValue29⟩
instance : TyF Tryd.prog 29 0 0 1 false := ⟨⟨_, _, askU Tryd.underlying29, rfl, ask_of Tryd.sizeOf2, ask_of Tryd.isAgg2⟩, by decide⟩
instance : TyF Tryd.prog 29 1 1 1 false := ⟨⟨_, _, askU Tryd.underlying29, rfl, ask_of Tryd.sizeOf9, ask_of Tryd.isAgg9⟩, by decide⟩
instance : TyEq Tryd.prog 29 [(2, 0), (9, 1)] := ⟨⟨by kernel_rfl, by kernel_rfl⟩, _, Tryd.underlying29, rfl, by kernel_rfl⟩
instance : TyBd Tryd.prog 29 [(0, 1), (1, 1)] [.int .i64 0, .string { data := #[] }] := ⟨abuild_struct (z := [.int .i64 0, .string { data := #[] }]) (ask_of Tryd.zeroValue29) (askU Tryd.underlying29) (placesOf_cons (ask_of Tryd.sizeOf2) (placesOf_cons (ask_of Tryd.sizeOf9) rfl)) rfl⟩
instance : TyZ Tryd.prog 30 1 false (.nilFunc) := ⟨ask_of Tryd.sizeOf30, ask_of Tryd.isAgg30, ask_of Tryd.zeroValue30⟩
instance : TyZ Tryd.prog 31 1 false (.slice none 0 0) := ⟨ask_of Tryd.sizeOf31, ask_of Tryd.isAgg31, ask_of Tryd.zeroValue31⟩
instance : TySl Tryd.prog 31 66 2 [.string { data := #[] }, .int .i64 0] := ⟨Tryd.underlying31, ask_of Tryd.sizeOf66, ⟨_, ask_of Tryd.zeroValue66, rfl⟩, rfl, rfl, by rw [xN]; decide⟩
instance : TyZ Tryd.prog 32 1 true (.agg #[.slice none 0 0]) := ⟨ask_of Tryd.sizeOf32, ask_of Tryd.isAgg32, ask_of Tryd.zeroValue32⟩
instance : TyF Tryd.prog 32 0 0 1 false := ⟨⟨_, _, askU Tryd.underlying32, rfl, ask_of Tryd.sizeOf31, ask_of Tryd.isAgg31⟩, by decide⟩
instance : TyBd Tryd.prog 32 [(0, 1)] [.slice none 0 0] := ⟨abuild_struct (z := [.slice none 0 0]) (ask_of Tryd.zeroValue32) (askU Tryd.underlying32) (placesOf_cons (ask_of Tryd.sizeOf31) rfl) rfl⟩
instance : TyZ Tryd.prog 33 1 true (.agg #[.slice none 0 0]) := ⟨ask_of Tryd.sizeOf33, ask_of Tryd.isAgg33, ask_of Tryd.zeroValue33⟩
instance : TyF Tryd.prog 33 0 0 1 false := ⟨⟨_, _, askU Tryd.underlying33, rfl, ask_of Tryd.sizeOf31, ask_of Tryd.isAgg31⟩, by decide⟩
instance : TyBd Tryd.prog 33 [(0, 1)] [.slice none 0 0] := ⟨abuild_struct (z := [.slice none 0 0]) (ask_of Tryd.zeroValue33) (askU Tryd.underlying33) (placesOf_cons (ask_of Tryd.sizeOf31) rfl) rfl⟩
instance : TyZ Tryd.prog 34 1 false (.nilFunc) := ⟨ask_of Tryd.sizeOf34, ask_of Tryd.isAgg34, ask_of Tryd.zeroValue34⟩
instance : TyZ Tryd.prog 35 1 false (.slice none 0 0) := ⟨ask_of Tryd.sizeOf35, ask_of Tryd.isAgg35, ask_of Tryd.zeroValue35⟩
instance : TySl Tryd.prog 35 49 2 [.slice none 0 0, .int .i64 0] := ⟨Tryd.underlying35, ask_of Tryd.sizeOf49, ⟨_, ask_of Tryd.zeroValue49, rfl⟩, rfl, rfl, by rw [xN]; decide⟩
instance : TyZ Tryd.prog 36 1 false (.nilFunc) := ⟨ask_of Tryd.sizeOf36, ask_of Tryd.isAgg36, ask_of Tryd.zeroValue36⟩
instance : TyZ Tryd.prog 37 1 false (.nilFunc) := ⟨ask_of Tryd.sizeOf37, ask_of Tryd.isAgg37, ask_of Tryd.zeroValue37⟩
instance : TyZ Tryd.prog 38 1 false (.nilFunc) := ⟨ask_of Tryd.sizeOf38, ask_of Tryd.isAgg38, ask_of Tryd.zeroValue38⟩
instance : TyZ Tryd.prog 39 1 false (.nilFunc) := ⟨ask_of Tryd.sizeOf39, ask_of Tryd.isAgg39, ask_of Tryd.zeroValue39⟩
instance : TyZ Tryd.prog 40 1 false (.nilFunc) := ⟨ask_of Tryd.sizeOf40, ask_of Tryd.isAgg40, ask_of Tryd.zeroValue40⟩
instance : TyZ Tryd.prog 41 1 false (.nilFunc) := ⟨ask_of Tryd.sizeOf41, ask_of Tryd.isAgg41, ask_of Tryd.zeroValue41⟩
instance : TyZ Tryd.prog 42 1 false (.nilFunc) := ⟨ask_of Tryd.sizeOf42, ask_of Tryd.isAgg42, ask_of Tryd.zeroValue42⟩
instance : TyZ Tryd.prog 43 1 false (.slice none 0 0) := ⟨ask_of Tryd.sizeOf43, ask_of Tryd.isAgg43, ask_of Tryd.zeroValue43⟩
instance : TySl Tryd.prog 43 2 1 [(.int .i64 0)] := ⟨Tryd.underlying43, ask_of Tryd.sizeOf2, ⟨_, ask_of Tryd.zeroValue2, rfl⟩, rfl, rfl, by rw [xN]; decide⟩
instance : TyZ Tryd.prog 44 2 true (.agg #[.slice none 0 0, .int .i64 0]) := ⟨ask_of Tryd.sizeOf44, ask_of Tryd.isAgg44, ask_of Tryd.zeroValue44⟩
instance : TyF Tryd.prog 44 0 0 1 false := ⟨⟨_, _, askU Tryd.underlying44, rfl, ask_of Tryd.sizeOf43, ask_of Tryd.isAgg43⟩, by decide⟩
instance : TyF Tryd.prog 44 1 1 1 false := ⟨⟨_, _, askU Tryd.underlying44, rfl, ask_of Tryd.sizeOf2, ask_of Tryd.isAgg2⟩, by decide⟩
instance : TyBd Tryd.prog 44 [(0, 1), (1, 1)] [.slice none 0 0, .int .i64 0] := ⟨abuild_struct (z := [.slice none 0 0, .int .i64 0]) (ask_of Tryd.zeroValue44) (askU Tryd.underlying44) (placesOf_cons (ask_of Tryd.sizeOf43) (placesOf_cons (ask_of Tryd.sizeOf2) rfl)) rfl⟩
instance : TyZ Tryd.prog 45 2 true (.agg #[.slice none 0 0, .int .i64 0]) := ⟨ask_of Tryd.sizeOf45, ask_of Tryd.isAgg45, ask_of Tryd.zeroValue45⟩
instance : TyF Tryd.prog 45 0 0 1 false := ⟨⟨_, _, askU Tryd.underlying45, rfl, ask_of Tryd.sizeOf43, ask_of Tryd.isAgg43⟩, by decide⟩
instance : TyF Tryd.prog 45 1 1 1 false := ⟨⟨_, _, askU Tryd.underlying45, rfl, ask_of Tryd.sizeOf2, ask_of Tryd.isAgg2⟩, by decide⟩
instance : TyBd Tryd.prog 45 [(0, 1), (1, 1)] [.slice none 0 0, .int .i64 0] := ⟨abuild_struct (z := [.slice none 0 0, .int .i64 0]) (ask_of Tryd.zeroValue45) (askU Tryd.underlying45) (placesOf_cons (ask_of Tryd.sizeOf43) (placesOf_cons (ask_of Tryd.sizeOf2) rfl)) rfl⟩
instance : TyZ Tryd.prog 46 1 false (.nilFunc) := ⟨ask_of Tryd.sizeOf46, ask_of Tryd.isAgg46, ask_of Tryd.zeroValue46⟩
instance : TyZ Tryd.prog 47 1 false (.nilFunc) := ⟨ask_of Tryd.sizeOf47, ask_of Tryd.isAgg47, ask_of Tryd.zeroValue47⟩
instance : TyZ Tryd.prog 48 1 false (.pointer none) := ⟨ask_of Tryd.sizeOf48, ask_of Tryd.isAgg48, ask_of Tryd.zeroValue48⟩
instance : TyP Tryd.prog 48 33 := ⟨Tryd.underlying48⟩
instance : TyZ Tryd.prog 49 2 true (.agg #[.slice none 0 0, .int .i64 0]) := ⟨ask_of Tryd.sizeOf49, ask_of Tryd.isAgg49, ask_of Tryd.zeroValue49⟩
instance : TyF Tryd.prog 49 0 0 1 false := ⟨⟨_, _, askU Tryd.underlying49, rfl, ask_of Tryd.sizeOf43, ask_of Tryd.isAgg43⟩, by decide⟩
instance : TyF Tryd.prog 49 1 1 1 false := ⟨⟨_, _, askU Tryd.underlying49, rfl, ask_of Tryd.sizeOf2, ask_of Tryd.isAgg2⟩, by decide⟩
instance : TyBd Tryd.prog 49 [(0, 1), (1, 1)] [.slice none 0 0, .int .i64 0] := ⟨abuild_struct (z := [.slice none 0 0, .int .i64 0]) (ask_of Tryd.zeroValue49) (askU Tryd.underlying49) (placesOf_cons (ask_of Tryd.sizeOf43) (placesOf_cons (ask_of Tryd.sizeOf2) rfl)) rfl⟩
instance : TyZ Tryd.prog 50 1 false (.nilFunc) := ⟨ask_of Tryd.sizeOf50, ask_of Tryd.isAgg50, ask_of Tryd.zeroValue50⟩
instance : TyZ Tryd.prog 51 1 false (.nilFunc) := ⟨ask_of Tryd.sizeOf51, ask_of Tryd.isAgg51, ask_of Tryd.zeroValue51⟩
instance : TyZ Tryd.prog 52 1 false (.nilFunc) := ⟨ask_of Tryd.sizeOf52, ask_of Tryd.isAgg52, ask_of Tryd.zeroValue52⟩
instance : TyZ Tryd.prog 53 1 false (.nilFunc) := ⟨ask_of Tryd.sizeOf53, ask_of Tryd.isAgg53, ask_of Tryd.zeroValue53⟩
instance : TyZ Tryd.prog 54 1 false (.slice none 0 0) := ⟨ask_of Tryd.sizeOf54, ask_of Tryd.isAgg54, ask_of Tryd.zeroValue54⟩
instance : TySl Tryd.prog 54 9 1 [(.string { data := #[] })] := ⟨Tryd.underlying54, ask_of Tryd.sizeOf9, ⟨_, ask_of Tryd.zeroValue9, rfl⟩, rfl, rfl, by rw [xN]; decide⟩
instance : TyZ Tryd.prog 55 1 false (.nilFunc) := ⟨ask_of Tryd.sizeOf55, ask_of Tryd.isAgg55, ask_of Tryd.zeroValue55⟩
instance : TyZ Tryd.prog 56 1 false (.nilFunc) := ⟨ask_of Tryd.sizeOf56, ask_of Tryd.isAgg56, ask_of Tryd.zeroValue56⟩
instance : TyZ Tryd.prog 57 1 false (.nilFunc) := ⟨ask_of Tryd.sizeOf57, ask_of Tryd.isAgg57, ask_of Tryd.zeroValue57⟩
instance : TyZ Tryd.prog 58 1 false (.nilFunc) := ⟨ask_of Tryd.sizeOf58, ask_of Tryd.isAgg58, ask_of Tryd.zeroValue58⟩
instance : TyZ Tryd.prog 59 1 false (.nilFunc) := ⟨ask_of Tryd.sizeOf59, ask_of Tryd.isAgg59, ask_of Tryd.zeroValue59⟩
instance : TyZ Tryd.prog 60 1 false (.nilFunc) := ⟨ask_of Tryd.sizeOf60, ask_of Tryd.isAgg60, ask_of Tryd.zeroValue60⟩
instance : TyZ Tryd.prog 61 1 false (.nilFunc) := ⟨ask_of Tryd.sizeOf61, ask_of Tryd.isAgg61, ask_of Tryd.zeroValue61⟩
instance : TyZ Tryd.prog 62 2 true (.agg #[.string { data := #[] }, .int .i64 0]) := ⟨ask_of Tryd.sizeOf62, ask_of Tryd.isAgg62, ask_of Tryd.zeroValue62⟩
instance : TyF Tryd.prog 62 0 0 1 false := ⟨⟨_, _, askU Tryd.underlying62, rfl, ask_of Tryd.sizeOf9, ask_of Tryd.isAgg9⟩, by decide⟩
instance : TyF Tryd.prog 62 1 1 1 false := ⟨⟨_, _, askU Tryd.underlying62, rfl, ask_of Tryd.sizeOf2, ask_of Tryd.isAgg2⟩, by decide⟩
instance : TyBd Tryd.prog 62 [(0, 1), (1, 1)] [.string { data := #[] }, .int .i64 0] := ⟨abuild_struct (z := [.string { data := #[] }, .int .i64 0]) (ask_of Tryd.zeroValue62) (askU Tryd.underlying62) (placesOf_cons (ask_of Tryd.sizeOf9) (placesOf_cons (ask_of Tryd.sizeOf2) rfl)) rfl⟩
instance : TyZ Tryd.prog 63 2 true (.agg #[.string { data := #[] }, .int .i64 0]) := ⟨ask_of Tryd.sizeOf63, ask_of Tryd.isAgg63, ask_of Tryd.zeroValue63⟩
instance : TyF Tryd.prog 63 0 0 1 false := ⟨⟨_, _, askU Tryd.underlying63, rfl, ask_of Tryd.sizeOf9, ask_of Tryd.isAgg9⟩, by decide⟩
instance : TyF Tryd.prog 63 1 1 1 false := ⟨⟨_, _, askU Tryd.underlying63, rfl, ask_of Tryd.sizeOf2, ask_of Tryd.isAgg2⟩, by decide⟩
instance : TyEq Tryd.prog 63 [(9, 0), (2, 1)] := ⟨⟨by kernel_rfl, by kernel_rfl⟩, _, Tryd.underlying63, rfl, by kernel_rfl⟩
instance : TyBd Tryd.prog 63 [(0, 1), (1, 1)] [.string { data := #[] }, .int .i64 0] := ⟨abuild_struct (z := [.string { data := #[] }, .int .i64 0]) (ask_of Tryd.zeroValue63) (askU Tryd.underlying63) (placesOf_cons (ask_of Tryd.sizeOf9) (placesOf_cons (ask_of Tryd.sizeOf2) rfl)) rfl⟩
instance : TyZ Tryd.prog 64 1 false (.nilFunc) := ⟨ask_of Tryd.sizeOf64, ask_of Tryd.isAgg64, ask_of Tryd.zeroValue64⟩
instance : TyZ Tryd.prog 65 1 false (.nilFunc) := ⟨ask_of Tryd.sizeOf65, ask_of Tryd.isAgg65, ask_of Tryd.zeroValue65⟩
instance : TyZ Tryd.prog 66 2 true (.agg #[.string { data := #[] }, .int .i64 0]) := ⟨ask_of Tryd.sizeOf66, ask_of Tryd.isAgg66, ask_of Tryd.zeroValue66⟩
instance : TyF Tryd.prog 66 0 0 1 false := ⟨⟨_, _, askU Tryd.underlying66, rfl, ask_of Tryd.sizeOf9, ask_of Tryd.isAgg9⟩, by decide⟩
instance : TyF Tryd.prog 66 1 1 1 false := ⟨⟨_, _, askU Tryd.underlying66, rfl, ask_of Tryd.sizeOf2, ask_of Tryd.isAgg2⟩, by decide⟩
instance : TyEq Tryd.prog 66 [(9, 0), (2, 1)] := ⟨⟨by kernel_rfl, by kernel_rfl⟩, _, Tryd.underlying66, rfl, by kernel_rfl⟩
instance : TyBd Tryd.prog 66 [(0, 1), (1, 1)] [.string { data := #[] }, .int .i64 0] := ⟨abuild_struct (z := [.string { data := #[] }, .int .i64 0]) (ask_of Tryd.zeroValue66) (askU Tryd.underlying66) (placesOf_cons (ask_of Tryd.sizeOf9) (placesOf_cons (ask_of Tryd.sizeOf2) rfl)) rfl⟩
instance : TyZ Tryd.prog 67 1 false (.nilFunc) := ⟨ask_of Tryd.sizeOf67, ask_of Tryd.isAgg67, ask_of Tryd.zeroValue67⟩
instance : TyZ Tryd.prog 68 1 false (.nilFunc) := ⟨ask_of Tryd.sizeOf68, ask_of Tryd.isAgg68, ask_of Tryd.zeroValue68⟩
instance : TyZ Tryd.prog 69 1 false (.nilFunc) := ⟨ask_of Tryd.sizeOf69, ask_of Tryd.isAgg69, ask_of Tryd.zeroValue69⟩
instance : TyZ Tryd.prog 70 1 false (.nilFunc) := ⟨ask_of Tryd.sizeOf70, ask_of Tryd.isAgg70, ask_of Tryd.zeroValue70⟩
instance : TyZ Tryd.prog 71 1 false (.nilFunc) := ⟨ask_of Tryd.sizeOf71, ask_of Tryd.isAgg71, ask_of Tryd.zeroValue71⟩
instance : TyZ Tryd.prog 72 1 false (.nilFunc) := ⟨ask_of Tryd.sizeOf72, ask_of Tryd.isAgg72, ask_of Tryd.zeroValue72⟩
instance : TyZ Tryd.prog 73 1 false (.nilFunc) := ⟨ask_of Tryd.sizeOf73, ask_of Tryd.isAgg73, ask_of Tryd.zeroValue73⟩
instance : TyZ Tryd.prog 74 1 false (.nilFunc) := ⟨ask_of Tryd.sizeOf74, ask_of Tryd.isAgg74, ask_of Tryd.zeroValue74⟩
instance : TyZ Tryd.prog 75 1 false (.nilFunc) := ⟨ask_of Tryd.sizeOf75, ask_of Tryd.isAgg75, ask_of Tryd.zeroValue75⟩
instance : TyZ Tryd.prog 76 1 false (.nilFunc) := ⟨ask_of Tryd.sizeOf76, ask_of Tryd.isAgg76, ask_of Tryd.zeroValue76⟩
instance : TyZ Tryd.prog 77 1 false (.nilFunc) := ⟨ask_of Tryd.sizeOf77, ask_of Tryd.isAgg77, ask_of Tryd.zeroValue77⟩
instance : TyZ Tryd.prog 78 1 false (.nilFunc) := ⟨ask_of Tryd.sizeOf78, ask_of Tryd.isAgg78, ask_of Tryd.zeroValue78⟩
instance : TyZ Tryd.prog 79 1 false (.slice none 0 0) := ⟨ask_of Tryd.sizeOf79, ask_of Tryd.isAgg79, ask_of Tryd.zeroValue79⟩
instance : TySl Tryd.prog 79 5 1 [(.int .u8 0)] := ⟨Tryd.underlying79, ask_of Tryd.sizeOf5, ⟨_, ask_of Tryd.zeroValue5, rfl⟩, rfl, rfl, by rw [xN]; decide⟩
instance : TyBy Tryd.prog 79 := ⟨_, Tryd.underlying79, Tryd.underlying5⟩
instance : TyZ Tryd.prog 80 1 false (.slice none 0 0) := ⟨ask_of Tryd.sizeOf80, ask_of Tryd.isAgg80, ask_of Tryd.zeroValue80⟩
instance : TySl Tryd.prog 80 3 1 [(.int .i64 0)] := ⟨Tryd.underlying80, ask_of Tryd.sizeOf3, ⟨_, ask_of Tryd.zeroValue3, rfl⟩, rfl, rfl, by rw [xN]; decide⟩
instance : TyZ Tryd.prog 81 1 false (.nilFunc) := ⟨ask_of Tryd.sizeOf81, ask_of Tryd.isAgg81, ask_of Tryd.zeroValue81⟩
instance : TyZ Tryd.prog 82 1 false (.nilFunc) := ⟨ask_of Tryd.sizeOf82, ask_of Tryd.isAgg82, ask_of Tryd.zeroValue82⟩
instance : TyZ Tryd.prog 83 1 false (.pointer none) := ⟨ask_of Tryd.sizeOf83, ask_of Tryd.isAgg83, ask_of Tryd.zeroValue83⟩
instance : TyP Tryd.prog 83 85 := ⟨Tryd.underlying83⟩
instance : TyZ Tryd.prog 84 2 true (.agg #[.pointer none, .slice none 0 0]) := ⟨ask_of Tryd.sizeOf84, ask_of Tryd.isAgg84, ask_of Tryd.zeroValue84⟩
instance : TyF Tryd.prog 84 0 0 1 false := ⟨⟨_, _, askU Tryd.underlying84, rfl, ask_of Tryd.sizeOf83, ask_of Tryd.isAgg83⟩, by decide⟩
instance : TyF Tryd.prog 84 1 1 1 false := ⟨⟨_, _, askU Tryd.underlying84, rfl, ask_of Tryd.sizeOf79, ask_of Tryd.isAgg79⟩, by decide⟩
instance : TyBd Tryd.prog 84 [(0, 1), (1, 1)] [.pointer none, .slice none 0 0] := ⟨abuild_struct (z := [.pointer none, .slice none 0 0]) (ask_of Tryd.zeroValue84) (askU Tryd.underlying84) (placesOf_cons (ask_of Tryd.sizeOf83) (placesOf_cons (ask_of Tryd.sizeOf79) rfl)) rfl⟩
instance : TyZ Tryd.prog 85 2 true (.agg #[.pointer none, .slice none 0 0]) := ⟨ask_of Tryd.sizeOf85, ask_of Tryd.isAgg85, ask_of Tryd.zeroValue85⟩
instance : TyF Tryd.prog 85 0 0 1 false := ⟨⟨_, _, askU Tryd.underlying85, rfl, ask_of Tryd.sizeOf83, ask_of Tryd.isAgg83⟩, by decide⟩
instance : TyF Tryd.prog 85 1 1 1 false := ⟨⟨_, _, askU Tryd.underlying85, rfl, ask_of Tryd.sizeOf79, ask_of Tryd.isAgg79⟩, by decide⟩
instance : TyBd Tryd.prog 85 [(0, 1), (1, 1)] [.pointer none, .slice none 0 0] := ⟨abuild_struct (z := [.pointer none, .slice none 0 0]) (ask_of Tryd.zeroValue85) (askU Tryd.underlying85) (placesOf_cons (ask_of Tryd.sizeOf83) (placesOf_cons (ask_of Tryd.sizeOf79) rfl)) rfl⟩
instance : TyZ Tryd.prog 86 1 false (.nilFunc) := ⟨ask_of Tryd.sizeOf86, ask_of Tryd.isAgg86, ask_of Tryd.zeroValue86⟩
instance : TyZ Tryd.prog 87 1 false (.nilIface) := ⟨ask_of Tryd.sizeOf87, ask_of Tryd.isAgg87, ask_of Tryd.zeroValue87⟩
instance : TyZ Tryd.prog 88 1 false (.nilIface) := ⟨ask_of Tryd.sizeOf88, ask_of Tryd.isAgg88, ask_of Tryd.zeroValue88⟩
instance : TyZ Tryd.prog 89 1 false (.tuple #[.int .i64 0, .nilIface]) := ⟨ask_of Tryd.sizeOf89, ask_of Tryd.isAgg89, ask_of Tryd.zeroValue89⟩
instance : TyZ Tryd.prog 90 1 false (.nilFunc) := ⟨ask_of Tryd.sizeOf90, ask_of Tryd.isAgg90, ask_of Tryd.zeroValue90⟩
instance : TyZ Tryd.prog 91 1 false (.nilFunc) := ⟨ask_of Tryd.sizeOf91, ask_of Tryd.isAgg91, ask_of Tryd.zeroValue91⟩
instance : TyZ Tryd.prog 92 1 false (.nilFunc) := ⟨ask_of Tryd.sizeOf92, ask_of Tryd.isAgg92, ask_of Tryd.zeroValue92⟩
instance : TyZ Tryd.prog 93 1 false (.nilFunc) := ⟨ask_of Tryd.sizeOf93, ask_of Tryd.isAgg93, ask_of Tryd.zeroValue93⟩
instance : TyZ Tryd.prog 94 1 false (.nilFunc) := ⟨ask_of Tryd.sizeOf94, ask_of Tryd.isAgg94, ask_of Tryd.zeroValue94⟩
instance : TyZ Tryd.prog 95 1 false (.nilFunc) := ⟨ask_of Tryd.sizeOf95, ask_of Tryd.isAgg95, ask_of Tryd.zeroValue95⟩
instance : TyZ Tryd.prog 96 1 false (.nilFunc) := ⟨ask_of Tryd.sizeOf96, ask_of Tryd.isAgg96, ask_of Tryd.zeroValue96⟩
instance : TyZ Tryd.prog 97 1 false (.nilFunc) := ⟨ask_of Tryd.sizeOf97, ask_of Tryd.isAgg97, ask_of Tryd.zeroValue97⟩
instance : TyZ Tryd.prog 98 1 false (.pointer none) := ⟨ask_of Tryd.sizeOf98, ask_of Tryd.isAgg98, ask_of Tryd.zeroValue98⟩
instance : TyP Tryd.prog 98 5 := ⟨Tryd.underlying98⟩
instance : TyZ Tryd.prog 99 1 false (.nilFunc) := ⟨ask_of Tryd.sizeOf99, ask_of Tryd.isAgg99, ask_of Tryd.zeroValue99⟩
instance : TyZ Tryd.prog 100 256 true (.agg Proofs.Tryd.zeroCells100) := ⟨ask_of Tryd.sizeOf100, ask_of Tryd.isAgg100, ask_of Tryd.zeroValue100⟩
instance : TyZ Tryd.prog 101 256 true (.agg Proofs.Tryd.zeroCells101) := ⟨ask_of Tryd.sizeOf101, ask_of Tryd.isAgg101, ask_of Tryd.zeroValue101⟩
instance : TyZ Tryd.prog 102 1 false (.tuple #[.agg (([.bool false, .bool false, .bool false, .bool false, .bool false, .bool false, .bool false, .bool false, .bool false, .bool false, .bool false, .bool false, .bool false, .bool false, .bool false, .bool false, .bool false, .bool false, .bool false, .bool false, .bool false, .bool false, .bool false, .bool false, .bool false, .bool false, .bool false, .bool false, .bool false, .bool false, .bool false, .bool false, .bool false, .bool false, .bool false, .bool false, .bool false, .bool false, .bool false, .bool false, .bool false, .bool false, .bool false, .bool false, .bool false, .bool false, .bool false, .bool false, .bool false, .bool false, .bool false, .bool false, .bool false, .bool false, .bool false, .bool false, .bool false, .bool false, .bool false, .bool false, .bool false, .bool false, .bool false, .bool false].append [.bool false, .bool false, .bool false, .bool false, .bool false, .bool false, .bool false, .bool false, .bool false, .bool false, .bool false, .bool false, .bool false, .bool false, .bool false, .bool false, .bool false, .bool false, .bool false, .bool false, .bool false, .bool false, .bool false, .bool false, .bool false, .bool false, .bool false, .bool false, .bool false, .bool false, .bool false, .bool false, .bool false, .bool false, .bool false, .bool false, .bool false, .bool false, .bool false, .bool false, .bool false, .bool false, .bool false, .bool false, .bool false, .bool false, .bool false, .bool false, .bool false, .bool false, .bool false, .bool false, .bool false, .bool false, .bool false, .bool false, .bool false, .bool false, .bool false, .bool false, .bool false, .bool false, .bool false, .bool false]).append ([.bool false, .bool false, .bool false, .bool false, .bool false, .bool false, .bool false, .bool false, .bool false, .bool false, .bool false, .bool false, .bool false, .bool false, .bool false, .bool false, .bool false, .bool false, .bool false, .bool false, .bool false, .bool false, .bool false, .bool false, .bool false, .bool false, .bool false, .bool false, .bool false, .bool false, .bool false, .bool false, .bool false, .bool false, .bool false, .bool false, .bool false, .bool false, .bool false, .bool false, .bool false, .bool false, .bool false, .bool false, .bool false, .bool false, .bool false, .bool false, .bool false, .bool false, .bool false, .bool false, .bool false, .bool false, .bool false, .bool false, .bool false, .bool false, .bool false, .bool false, .bool false, .bool false, .bool false, .bool false].append [.bool false, .bool false, .bool false, .bool false, .bool false, .bool false, .bool false, .bool false, .bool false, .bool false, .bool false, .bool false, .bool false, .bool false, .bool false, .bool false, .bool false, .bool false, .bool false, .bool false, .bool false, .bool false, .bool false, .bool false, .bool false, .bool false, .bool false, .bool false, .bool false, .bool false, .bool false, .bool false, .bool false, .bool false, .bool false, .bool false, .bool false, .bool false, .bool false, .bool false, .bool false, .bool false, .bool false, .bool false, .bool false, .bool false, .bool false, .bool false, .bool false, .bool false, .bool false, .bool false, .bool false, .bool false, .bool false, .bool false, .bool false, .bool false, .bool false, .bool false, .bool false, .bool false, .bool false, .bool false])).toArray, .bool false]) := ⟨ask_of Tryd.sizeOf102, ask_of Tryd.isAgg102, ask_of Tryd.zeroValue102⟩
instance : TyZ Tryd.prog 103 1 false (.nilFunc) := ⟨ask_of Tryd.sizeOf103, ask_of Tryd.isAgg103, ask_of Tryd.zeroValue103⟩
instance : TyZ Tryd.prog 104 1 false (.nilFunc) := ⟨ask_of Tryd.sizeOf104, ask_of Tryd.isAgg104, ask_of Tryd.zeroValue104⟩
instance : TyZ Tryd.prog 105 1 false (.pointer none) := ⟨ask_of Tryd.sizeOf105, ask_of Tryd.isAgg105, ask_of Tryd.zeroValue105⟩
instance : TyP Tryd.prog 105 101 := ⟨Tryd.underlying105⟩
instance : TyZ Tryd.prog 106 1 false (.nilFunc) := ⟨ask_of Tryd.sizeOf106, ask_of Tryd.isAgg106, ask_of Tryd.zeroValue106⟩
instance : TyZ Tryd.prog 107 24 true (.agg #[.int .u8 0, .int .u8 0, .int .u8 0, .int .u8 0, .int .u8 0, .int .u8 0, .int .u8 0, .int .u8 0, .int .u8 0, .int .u8 0, .int .u8 0, .int .u8 0, .int .u8 0, .int .u8 0, .int .u8 0, .int .u8 0, .int .u8 0, .int .u8 0, .int .u8 0, .int .u8 0, .int .u8 0, .int .u8 0, .int .u8 0, .int .u8 0]) := ⟨ask_of Tryd.sizeOf107, ask_of Tryd.isAgg107, ask_of Tryd.zeroValue107⟩
instance : TyZ Tryd.prog 108 1 false (.int .u64 0) := ⟨ask_of Tryd.sizeOf108, ask_of Tryd.isAgg108, ask_of Tryd.zeroValue108⟩
instance : TyI Tryd.prog 108 .u64 := ⟨Tryd.underlying108⟩
instance : TyZ Tryd.prog 109 1 false (.nilFunc) := ⟨ask_of Tryd.sizeOf109, ask_of Tryd.isAgg109, ask_of Tryd.zeroValue109⟩
instance : TyZ Tryd.prog 110 1 false (.nilFunc) := ⟨ask_of Tryd.sizeOf110, ask_of Tryd.isAgg110, ask_of Tryd.zeroValue110⟩
instance : TyZ Tryd.prog 111 1 false (.tuple #[.slice none 0 0, .string { data := #[] }]) := ⟨ask_of Tryd.sizeOf111, ask_of Tryd.isAgg111, ask_of Tryd.zeroValue111⟩
instance : TyZ Tryd.prog 112 1 false (.nilFunc) := ⟨ask_of Tryd.sizeOf112, ask_of Tryd.isAgg112, ask_of Tryd.zeroValue112⟩
instance : TyZ Tryd.prog 113 1 false (.pointer none) := ⟨ask_of Tryd.sizeOf113, ask_of Tryd.isAgg113, ask_of Tryd.zeroValue113⟩
instance : TyZ Tryd.prog 114 1 false (.nilFunc) := ⟨ask_of Tryd.sizeOf114, ask_of Tryd.isAgg114, ask_of Tryd.zeroValue114⟩
instance : TyZ Tryd.prog 115 1 false (.nilFunc) := ⟨ask_of Tryd.sizeOf115, ask_of Tryd.isAgg115, ask_of Tryd.zeroValue115⟩
instance : TyZ Tryd.prog 116 1 false (.nilFunc) := ⟨ask_of Tryd.sizeOf116, ask_of Tryd.isAgg116, ask_of Tryd.zeroValue116⟩
instance : TyZ Tryd.prog 117 1 false (.tuple #[.int .i32 0, .int .i64 0]) := ⟨ask_of Tryd.sizeOf117, ask_of Tryd.isAgg117, ask_of Tryd.zeroValue117⟩
instance : TyZ Tryd.prog 118 1 false (.nilFunc) := ⟨ask_of Tryd.sizeOf118, ask_of Tryd.isAgg118, ask_of Tryd.zeroValue118⟩
instance : TyZ Tryd.prog 119 1 false (.nilFunc) := ⟨ask_of Tryd.sizeOf119, ask_of Tryd.isAgg119, ask_of Tryd.zeroValue119⟩
instance : TyZ Tryd.prog 120 1 false (.nilFunc) := ⟨ask_of Tryd.sizeOf120, ask_of Tryd.isAgg120, ask_of Tryd.zeroValue120⟩
instance : TyZ Tryd.prog 121 1 false (.nilFunc) := ⟨ask_of Tryd.sizeOf121, ask_of Tryd.isAgg121, ask_of Tryd.zeroValue121⟩
instance : TyZ Tryd.prog 122 20 true (.agg #[.int .u64 0, .int .u64 0, .int .u64 0, .int .u64 0, .int .u64 0, .int .u64 0, .int .u64 0, .int .u64 0, .int .u64 0, .int .u64 0, .int .u64 0, .int .u64 0, .int .u64 0, .int .u64 0, .int .u64 0, .int .u64 0, .int .u64 0, .int .u64 0, .int .u64 0, .int .u64 0]) := ⟨ask_of Tryd.sizeOf122, ask_of Tryd.isAgg122, ask_of Tryd.zeroValue122⟩
instance : TyZ Tryd.prog 123 1 false (.int .u32 0) := ⟨ask_of Tryd.sizeOf123, ask_of Tryd.isAgg123, ask_of Tryd.zeroValue123⟩
instance : TyI Tryd.prog 123 .u32 := ⟨Tryd.underlying123⟩
instance : TyZ Tryd.prog 124 65 true (.agg Proofs.Tryd.zeroCells124) := ⟨ask_of Tryd.sizeOf124, ask_of Tryd.isAgg124, ask_of Tryd.zeroValue124⟩
instance : TyZ Tryd.prog 125 1 false (.nilFunc) := ⟨ask_of Tryd.sizeOf125, ask_of Tryd.isAgg125, ask_of Tryd.zeroValue125⟩
instance : TyZ Tryd.prog 126 1 false (.int .u64 0) := ⟨ask_of Tryd.sizeOf126, ask_of Tryd.isAgg126, ask_of Tryd.zeroValue126⟩
instance : TyI Tryd.prog 126 .u64 := ⟨Tryd.underlying126⟩
instance : TyZ Tryd.prog 127 1 false (.nilFunc) := ⟨ask_of Tryd.sizeOf127, ask_of Tryd.isAgg127, ask_of Tryd.zeroValue127⟩
instance : TyZ Tryd.prog 128 1 false (.nilFunc) := ⟨ask_of Tryd.sizeOf128, ask_of Tryd.isAgg128, ask_of Tryd.zeroValue128⟩
instance : TyZ Tryd.prog 129 1 false (.nilFunc) := ⟨ask_of Tryd.sizeOf129, ask_of Tryd.isAgg129, ask_of Tryd.zeroValue129⟩
instance : TyZ Tryd.prog 130 256 true (.agg Proofs.Tryd.zeroCells130) := ⟨ask_of Tryd.sizeOf130, ask_of Tryd.isAgg130, ask_of Tryd.zeroValue130⟩
instance : TyZ Tryd.prog 131 2 true (.agg #[.int .u8 0, .int .u8 0]) := ⟨ask_of Tryd.sizeOf131, ask_of Tryd.isAgg131, ask_of Tryd.zeroValue131⟩
instance : TyF Tryd.prog 131 0 0 1 false := ⟨⟨_, _, askU Tryd.underlying131, rfl, ask_of Tryd.sizeOf5, ask_of Tryd.isAgg5⟩, by decide⟩
instance : TyF Tryd.prog 131 1 1 1 false := ⟨⟨_, _, askU Tryd.underlying131, rfl, ask_of Tryd.sizeOf5, ask_of Tryd.isAgg5⟩, by decide⟩
instance : TyBd Tryd.prog 131 [(0, 1), (1, 1)] [.int .u8 0, .int .u8 0] := ⟨abuild_struct (z := [.int .u8 0, .int .u8 0]) (ask_of Tryd.zeroValue131) (askU Tryd.underlying131) (placesOf_cons (ask_of Tryd.sizeOf5) (placesOf_cons (ask_of Tryd.sizeOf5) rfl)) rfl⟩
instance : TyZ Tryd.prog 132 2 true (.agg #[.int .u8 0, .int .u8 0]) := ⟨ask_of Tryd.sizeOf132, ask_of Tryd.isAgg132, ask_of Tryd.zeroValue132⟩
instance : TyF Tryd.prog 132 0 0 1 false := ⟨⟨_, _, askU Tryd.underlying132, rfl, ask_of Tryd.sizeOf5, ask_of Tryd.isAgg5⟩, by decide⟩
instance : TyF Tryd.prog 132 1 1 1 false := ⟨⟨_, _, askU Tryd.underlying132, rfl, ask_of Tryd.sizeOf5, ask_of Tryd.isAgg5⟩, by decide⟩
instance : TyBd Tryd.prog 132 [(0, 1), (1, 1)] [.int .u8 0, .int .u8 0] := ⟨abuild_struct (z := [.int .u8 0, .int .u8 0]) (ask_of Tryd.zeroValue132) (askU Tryd.underlying132) (placesOf_cons (ask_of Tryd.sizeOf5) (placesOf_cons (ask_of Tryd.sizeOf5) rfl)) rfl⟩
instance : TyZ Tryd.prog 133 32 true (.agg #[.int .u8 0, .int .u8 0, .int .u8 0, .int .u8 0, .int .u8 0, .int .u8 0, .int .u8 0, .int .u8 0, .int .u8 0, .int .u8 0, .int .u8 0, .int .u8 0, .int .u8 0, .int .u8 0, .int .u8 0, .int .u8 0, .int .u8 0, .int .u8 0, .int .u8 0, .int .u8 0, .int .u8 0, .int .u8 0, .int .u8 0, .int .u8 0, .int .u8 0, .int .u8 0, .int .u8 0, .int .u8 0, .int .u8 0, .int .u8 0, .int .u8 0, .int .u8 0]) := ⟨ask_of Tryd.sizeOf133, ask_of Tryd.isAgg133, ask_of Tryd.zeroValue133⟩
instance : TyZ Tryd.prog 134 1 false (.nilFunc) := ⟨ask_of Tryd.sizeOf134, ask_of Tryd.isAgg134, ask_of Tryd.zeroValue134⟩
instance : TyZ Tryd.prog 135 1 false (.nilFunc) := ⟨ask_of Tryd.sizeOf135, ask_of Tryd.isAgg135, ask_of Tryd.zeroValue135⟩
instance : TyZ Tryd.prog 136 1 false (.nilFunc) := ⟨ask_of Tryd.sizeOf136, ask_of Tryd.isAgg136, ask_of Tryd.zeroValue136⟩
instance : TyZ Tryd.prog 137 32 true (.agg #[.int .u8 0, .int .u8 0, .int .u8 0, .int .u8 0, .int .u8 0, .int .u8 0, .int .u8 0, .int .u8 0, .int .u8 0, .int .u8 0, .int .u8 0, .int .u8 0, .int .u8 0, .int .u8 0, .int .u8 0, .int .u8 0, .int .u8 0, .int .u8 0, .int .u8 0, .int .u8 0, .int .u8 0, .int .u8 0, .int .u8 0, .int .u8 0, .int .u8 0, .int .u8 0, .int .u8 0, .int .u8 0, .int .u8 0, .int .u8 0, .int .u8 0, .int .u8 0]) := ⟨ask_of Tryd.sizeOf137, ask_of Tryd.isAgg137, ask_of Tryd.zeroValue137⟩
instance : TyZ Tryd.prog 138 64 true (.agg #[.int .u8 0, .int .u8 0, .int .u8 0, .int .u8 0, .int .u8 0, .int .u8 0, .int .u8 0, .int .u8 0, .int .u8 0, .int .u8 0, .int .u8 0, .int .u8 0, .int .u8 0, .int .u8 0, .int .u8 0, .int .u8 0, .int .u8 0, .int .u8 0, .int .u8 0, .int .u8 0, .int .u8 0, .int .u8 0, .int .u8 0, .int .u8 0, .int .u8 0, .int .u8 0, .int .u8 0, .int .u8 0, .int .u8 0, .int .u8 0, .int .u8 0, .int .u8 0, .int .u8 0, .int .u8 0, .int .u8 0, .int .u8 0, .int .u8 0, .int .u8 0, .int .u8 0, .int .u8 0, .int .u8 0, .int .u8 0, .int .u8 0, .int .u8 0, .int .u8 0, .int .u8 0, .int .u8 0, .int .u8 0, .int .u8 0, .int .u8 0, .int .u8 0, .int .u8 0, .int .u8 0, .int .u8 0, .int .u8 0, .int .u8 0, .int .u8 0, .int .u8 0, .int .u8 0, .int .u8 0, .int .u8 0, .int .u8 0, .int .u8 0, .int .u8 0]) := ⟨ask_of Tryd.sizeOf138, ask_of Tryd.isAgg138, ask_of Tryd.zeroValue138⟩
instance : TyZ Tryd.prog 139 4 true (.agg #[.pointer none, .pointer none, .pointer none, .string { data := #[] }]) := ⟨ask_of Tryd.sizeOf139, ask_of Tryd.isAgg139, ask_of Tryd.zeroValue139⟩
instance : TyF Tryd.prog 139 0 0 1 false := ⟨⟨_, _, askU Tryd.underlying139, rfl, ask_of Tryd.sizeOf17, ask_of Tryd.isAgg17⟩, by decide⟩
instance : TyF Tryd.prog 139 1 1 1 false := ⟨⟨_, _, askU Tryd.underlying139, rfl, ask_of Tryd.sizeOf17, ask_of Tryd.isAgg17⟩, by decide⟩
instance : TyF Tryd.prog 139 2 2 1 false := ⟨⟨_, _, askU Tryd.underlying139, rfl, ask_of Tryd.sizeOf17, ask_of Tryd.isAgg17⟩, by decide⟩
instance : TyF Tryd.prog 139 3 3 1 false := ⟨⟨_, _, askU Tryd.underlying139, rfl, ask_of Tryd.sizeOf9, ask_of Tryd.isAgg9⟩, by decide⟩
instance : TyBd Tryd.prog 139 [(0, 1), (1, 1), (2, 1), (3, 1)] [.pointer none, .pointer none, .pointer none, .string { data := #[] }] := ⟨abuild_struct (z := [.pointer none, .pointer none, .pointer none, .string { data := #[] }]) (ask_of Tryd.zeroValue139) (askU Tryd.underlying139) (placesOf_cons (ask_of Tryd.sizeOf17) (placesOf_cons (ask_of Tryd.sizeOf17) (placesOf_cons (ask_of Tryd.sizeOf17) (placesOf_cons (ask_of Tryd.sizeOf9) rfl)))) rfl⟩
instance : TyZ Tryd.prog 140 4 true (.agg #[.pointer none, .pointer none, .pointer none, .string { data := #[] }]) := ⟨ask_of Tryd.sizeOf140, ask_of Tryd.isAgg140, ask_of Tryd.zeroValue140⟩
instance : TyF Tryd.prog 140 0 0 1 false := ⟨⟨_, _, askU Tryd.underlying140, rfl, ask_of Tryd.sizeOf17, ask_of Tryd.isAgg17⟩, by decide⟩
instance : TyF Tryd.prog 140 1 1 1 false := ⟨⟨_, _, askU Tryd.underlying140, rfl, ask_of Tryd.sizeOf17, ask_of Tryd.isAgg17⟩, by decide⟩
instance : TyF Tryd.prog 140 2 2 1 false := ⟨⟨_, _, askU Tryd.underlying140, rfl, ask_of Tryd.sizeOf17, ask_of Tryd.isAgg17⟩, by decide⟩
instance : TyF Tryd.prog 140 3 3 1 false := ⟨⟨_, _, askU Tryd.underlying140, rfl, ask_of Tryd.sizeOf9, ask_of Tryd.isAgg9⟩, by decide⟩
instance : TyBd Tryd.prog 140 [(0, 1), (1, 1), (2, 1), (3, 1)] [.pointer none, .pointer none, .pointer none, .string { data := #[] }] := ⟨abuild_struct (z := [.pointer none, .pointer none, .pointer none, .string { data := #[] }]) (ask_of Tryd.zeroValue140) (askU Tryd.underlying140) (placesOf_cons (ask_of Tryd.sizeOf17) (placesOf_cons (ask_of Tryd.sizeOf17) (placesOf_cons (ask_of Tryd.sizeOf17) (placesOf_cons (ask_of Tryd.sizeOf9) rfl)))) rfl⟩
instance : TyZ Tryd.prog 141 0 true (.agg #[]) := ⟨ask_of Tryd.sizeOf141, ask_of Tryd.isAgg141, ask_of Tryd.zeroValue141⟩
instance : TyZ Tryd.prog 142 0 true (.agg #[]) := ⟨ask_of Tryd.sizeOf142, ask_of Tryd.isAgg142, ask_of Tryd.zeroValue142⟩
instance : TyBd Tryd.prog 142 [(0, 0)] [] := ⟨abuild_struct (z := []) (ask_of Tryd.zeroValue142) (askU Tryd.underlying142) (placesOf_cons (ask_of Tryd.sizeOf141) rfl) rfl⟩
instance : TyZ Tryd.prog 143 0 true (.agg #[]) := ⟨ask_of Tryd.sizeOf143, ask_of Tryd.isAgg143, ask_of Tryd.zeroValue143⟩
instance : TyBd Tryd.prog 143 [(0, 0)] [] := ⟨abuild_struct (z := []) (ask_of Tryd.zeroValue143) (askU Tryd.underlying143) (placesOf_cons (ask_of Tryd.sizeOf141) rfl) rfl⟩
instance : TyZ Tryd.prog 144 1 false (.nilFunc) := ⟨ask_of Tryd.sizeOf144, ask_of Tryd.isAgg144, ask_of Tryd.zeroValue144⟩
instance : TyZ Tryd.prog 145 1 false (.int .u8 0) := ⟨ask_of Tryd.sizeOf145, ask_of Tryd.isAgg145, ask_of Tryd.zeroValue145⟩
instance : TyI Tryd.prog 145 .u8 := ⟨Tryd.underlying145⟩
instance : TyZ Tryd.prog 146 1 false (.int .u8 0) := ⟨ask_of Tryd.sizeOf146, ask_of Tryd.isAgg146, ask_of Tryd.zeroValue146⟩
instance : TyI Tryd.prog 146 .u8 := ⟨Tryd.underlying146⟩
instance : TyZ Tryd.prog 147 1 false (.nilFunc) := ⟨ask_of Tryd.sizeOf147, ask_of Tryd.isAgg147, ask_of Tryd.zeroValue147⟩
instance : TyZ Tryd.prog 148 1 false (.int .i32 0) := ⟨ask_of Tryd.sizeOf148, ask_of Tryd.isAgg148, ask_of Tryd.zeroValue148⟩
instance : TyI Tryd.prog 148 .i32 := ⟨Tryd.underlying148⟩
instance : TyZ Tryd.prog 149 1 false (.int .i32 0) := ⟨ask_of Tryd.sizeOf149, ask_of Tryd.isAgg149, ask_of Tryd.zeroValue149⟩
instance : TyI Tryd.prog 149 .i32 := ⟨Tryd.underlying149⟩
instance : TyZ Tryd.prog 150 11 true (.agg #[.int .u64 0, .int .u64 0, .int .u32 0, .int .u8 0, .int .u8 0, .int .u8 0, .int .u8 0, .nilFunc, .pointer none, .int .i32 0, .int .i32 0]) := ⟨ask_of Tryd.sizeOf150, ask_of Tryd.isAgg150, ask_of Tryd.zeroValue150⟩
instance : TyF Tryd.prog 150 0 0 1 false := ⟨⟨_, _, askU Tryd.underlying150, rfl, ask_of Tryd.sizeOf12, ask_of Tryd.isAgg12⟩, by decide⟩
instance : TyF Tryd.prog 150 1 1 1 false := ⟨⟨_, _, askU Tryd.underlying150, rfl, ask_of Tryd.sizeOf12, ask_of Tryd.isAgg12⟩, by decide⟩
instance : TyF Tryd.prog 150 2 2 1 false := ⟨⟨_, _, askU Tryd.underlying150, rfl, ask_of Tryd.sizeOf123, ask_of Tryd.isAgg123⟩, by decide⟩
instance : TyF Tryd.prog 150 3 3 1 false := ⟨⟨_, _, askU Tryd.underlying150, rfl, ask_of Tryd.sizeOf145, ask_of Tryd.isAgg145⟩, by decide⟩
instance : TyF Tryd.prog 150 4 4 1 false := ⟨⟨_, _, askU Tryd.underlying150, rfl, ask_of Tryd.sizeOf5, ask_of Tryd.isAgg5⟩, by decide⟩
instance : TyF Tryd.prog 150 5 5 1 false := ⟨⟨_, _, askU Tryd.underlying150, rfl, ask_of Tryd.sizeOf5, ask_of Tryd.isAgg5⟩, by decide⟩
instance : TyF Tryd.prog 150 6 6 1 false := ⟨⟨_, _, askU Tryd.underlying150, rfl, ask_of Tryd.sizeOf146, ask_of Tryd.isAgg146⟩, by decide⟩
instance : TyF Tryd.prog 150 7 7 1 false := ⟨⟨_, _, askU Tryd.underlying150, rfl, ask_of Tryd.sizeOf147, ask_of Tryd.isAgg147⟩, by decide⟩
instance : TyF Tryd.prog 150 8 8 1 false := ⟨⟨_, _, askU Tryd.underlying150, rfl, ask_of Tryd.sizeOf98, ask_of Tryd.isAgg98⟩, by decide⟩
instance : TyF Tryd.prog 150 9 9 1 false := ⟨⟨_, _, askU Tryd.underlying150, rfl, ask_of Tryd.sizeOf148, ask_of Tryd.isAgg148⟩, by decide⟩
instance : TyF Tryd.prog 150 10 10 1 false := ⟨⟨_, _, askU Tryd.underlying150, rfl, ask_of Tryd.sizeOf149, ask_of Tryd.isAgg149⟩, by decide⟩
instance : TyBd Tryd.prog 150 [(0, 1), (1, 1), (2, 1), (3, 1), (4, 1), (5, 1), (6, 1), (7, 1), (8, 1), (9, 1), (10, 1)] [.int .u64 0, .int .u64 0, .int .u32 0, .int .u8 0, .int .u8 0, .int .u8 0, .int .u8 0, .nilFunc, .pointer none, .int .i32 0, .int .i32 0] := ⟨abuild_struct (z := [.int .u64 0, .int .u64 0, .int .u32 0, .int .u8 0, .int .u8 0, .int .u8 0, .int .u8 0, .nilFunc, .pointer none, .int .i32 0, .int .i32 0]) (ask_of Tryd.zeroValue150) (askU Tryd.underlying150) (placesOf_cons (ask_of Tryd.sizeOf12) (placesOf_cons (ask_of Tryd.sizeOf12) (placesOf_cons (ask_of Tryd.sizeOf123) (placesOf_cons (ask_of Tryd.sizeOf145) (placesOf_cons (ask_of Tryd.sizeOf5) (placesOf_cons (ask_of Tryd.sizeOf5) (placesOf_cons (ask_of Tryd.sizeOf146) (placesOf_cons (ask_of Tryd.sizeOf147) (placesOf_cons (ask_of Tryd.sizeOf98) (placesOf_cons (ask_of Tryd.sizeOf148) (placesOf_cons (ask_of Tryd.sizeOf149) rfl))))))))))) rfl⟩
instance : TyZ Tryd.prog 151 11 true (.agg #[.int .u64 0, .int .u64 0, .int .u32 0, .int .u8 0, .int .u8 0, .int .u8 0, .int .u8 0, .nilFunc, .pointer none, .int .i32 0, .int .i32 0]) := ⟨ask_of Tryd.sizeOf151, ask_of Tryd.isAgg151, ask_of Tryd.zeroValue151⟩
instance : TyF Tryd.prog 151 0 0 1 false := ⟨⟨_, _, askU Tryd.underlying151, rfl, ask_of Tryd.sizeOf12, ask_of Tryd.isAgg12⟩, by decide⟩
instance : TyF Tryd.prog 151 1 1 1 false := ⟨⟨_, _, askU Tryd.underlying151, rfl, ask_of Tryd.sizeOf12, ask_of Tryd.isAgg12⟩, by decide⟩
instance : TyF Tryd.prog 151 2 2 1 false := ⟨⟨_, _, askU Tryd.underlying151, rfl, ask_of Tryd.sizeOf123, ask_of Tryd.isAgg123⟩, by decide⟩
instance : TyF Tryd.prog 151 3 3 1 false := ⟨⟨_, _, askU Tryd.underlying151, rfl, ask_of Tryd.sizeOf145, ask_of Tryd.isAgg145⟩, by decide⟩
instance : TyF Tryd.prog 151 4 4 1 false := ⟨⟨_, _, askU Tryd.underlying151, rfl, ask_of Tryd.sizeOf5, ask_of Tryd.isAgg5⟩, by decide⟩
instance : TyF Tryd.prog 151 5 5 1 false := ⟨⟨_, _, askU Tryd.underlying151, rfl, ask_of Tryd.sizeOf5, ask_of Tryd.isAgg5⟩, by decide⟩
instance : TyF Tryd.prog 151 6 6 1 false := ⟨⟨_, _, askU Tryd.underlying151, rfl, ask_of Tryd.sizeOf146, ask_of Tryd.isAgg146⟩, by decide⟩
instance : TyF Tryd.prog 151 7 7 1 false := ⟨⟨_, _, askU Tryd.underlying151, rfl, ask_of Tryd.sizeOf147, ask_of Tryd.isAgg147⟩, by decide⟩
instance : TyF Tryd.prog 151 8 8 1 false := ⟨⟨_, _, askU Tryd.underlying151, rfl, ask_of Tryd.sizeOf98, ask_of Tryd.isAgg98⟩, by decide⟩
instance : TyF Tryd.prog 151 9 9 1 false := ⟨⟨_, _, askU Tryd.underlying151, rfl, ask_of Tryd.sizeOf148, ask_of Tryd.isAgg148⟩, by decide⟩
instance : TyF Tryd.prog 151 10 10 1 false := ⟨⟨_, _, askU Tryd.underlying151, rfl, ask_of Tryd.sizeOf149, ask_of Tryd.isAgg149⟩, by decide⟩
instance : TyBd Tryd.prog 151 [(0, 1), (1, 1), (2, 1), (3, 1), (4, 1), (5, 1), (6, 1), (7, 1), (8, 1), (9, 1), (10, 1)] [.int .u64 0, .int .u64 0, .int .u32 0, .int .u8 0, .int .u8 0, .int .u8 0, .int .u8 0, .nilFunc, .pointer none, .int .i32 0, .int .i32 0] := ⟨abuild_struct (z := [.int .u64 0, .int .u64 0, .int .u32 0, .int .u8 0, .int .u8 0, .int .u8 0, .int .u8 0, .nilFunc, .pointer none, .int .i32 0, .int .i32 0]) (ask_of Tryd.zeroValue151) (askU Tryd.underlying151) (placesOf_cons (ask_of Tryd.sizeOf12) (placesOf_cons (ask_of Tryd.sizeOf12) (placesOf_cons (ask_of Tryd.sizeOf123) (placesOf_cons (ask_of Tryd.sizeOf145) (placesOf_cons (ask_of Tryd.sizeOf5) (placesOf_cons (ask_of Tryd.sizeOf5) (placesOf_cons (ask_of Tryd.sizeOf146) (placesOf_cons (ask_of Tryd.sizeOf147) (placesOf_cons (ask_of Tryd.sizeOf98) (placesOf_cons (ask_of Tryd.sizeOf148) (placesOf_cons (ask_of Tryd.sizeOf149) rfl))))))))))) rfl⟩
end Go.Proofs.YtahnmogcmiajeaaDoor
