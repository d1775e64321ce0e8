/- What the types of the program say. -/
import Derived.Test.YtliijoclogakdaaGreatDoorScP
import Derived.Test.YtliijoclogakdaaGreatDoorProg
import Derived.KernelRfl
set_option linter.unusedSimpArgs false
set_option linter.unusedVariables false
set_option maxRecDepth 100000
namespace Go.Proofs.YtliijoclogakdaaGreatDoor
open Go Go.SC
theorem pok : POk Tryz.prog := ⟨by kernel_rfl, fun t i ht h => by
  have hall : Tryz.prog.types.all (fun i => decide (i.bytes ≤ 131072)) = true := by kernel_rfl
  have h1 := Array.all_eq_true.1 hall
  unfold Tables.info? at h
  rw [if_pos ht] at h
  obtain ⟨hlt, he⟩ := Array.getElem?_eq_some_iff.1 h
  have := h1 t hlt
  rw [he] at this
  exact of_decide_eq_true this⟩
abbrev OK (f : Nat) (W : Trans) : Prop := ∀ args H Bd K, W args H Bd K → SCalls Tryz.prog f args H Bd K
theorem xN : Tryz.prog.types.size = 213 := by kernel_rfl
instance : TyZ Tryz.prog 0 1 false (.tuple #[]) := ⟨ask_of Tryz.sizeOf0, ask_of Tryz.isAgg0, ask_of Tryz.zeroValue0⟩
instance : TyZ Tryz.prog 1 1 false (.nilFunc) := ⟨ask_of Tryz.sizeOf1, ask_of Tryz.isAgg1, ask_of Tryz.zeroValue1⟩
instance : TyZ Tryz.prog 2 1 false (.int .i64 0) := ⟨ask_of Tryz.sizeOf2, ask_of Tryz.isAgg2, ask_of Tryz.zeroValue2⟩
instance : TyI Tryz.prog 2 .i64 := ⟨Tryz.underlying2⟩
instance : TyZ Tryz.prog 3 1 false (.int .i64 0) := ⟨ask_of Tryz.sizeOf3, ask_of Tryz.isAgg3, ask_of Tryz.zeroValue3⟩
instance : TyI Tryz.prog 3 .i64 := ⟨Tryz.underlying3⟩
instance : TyZ Tryz.prog 4 1 false (.bool false) := ⟨ask_of Tryz.sizeOf4, ask_of Tryz.isAgg4, ask_of Tryz.zeroValue4⟩
instance : TyB Tryz.prog 4 := ⟨Tryz.underlying4⟩
instance : TyZ Tryz.prog 5 1 false (.int .u8 0) := ⟨ask_of Tryz.sizeOf5, ask_of Tryz.isAgg5, ask_of Tryz.zeroValue5⟩
instance : TyI Tryz.prog 5 .u8 := ⟨Tryz.underlying5⟩
instance : TyZ Tryz.prog 6 1 false (.int .u8 0) := ⟨ask_of Tryz.sizeOf6, ask_of Tryz.isAgg6, ask_of Tryz.zeroValue6⟩
instance : TyI Tryz.prog 6 .u8 := ⟨Tryz.underlying6⟩
instance : TyZ Tryz.prog 7 4 true (.agg #[.int .i64 0, .int .i64 0, .bool false, .int .u8 0]) := ⟨ask_of Tryz.sizeOf7, ask_of Tryz.isAgg7, ask_of Tryz.zeroValue7⟩
instance : TyF Tryz.prog 7 0 0 1 false := ⟨⟨_, _, askU Tryz.underlying7, rfl, ask_of Tryz.sizeOf2, ask_of Tryz.isAgg2⟩, by decide⟩
instance : TyF Tryz.prog 7 1 1 1 false := ⟨⟨_, _, askU Tryz.underlying7, rfl, ask_of Tryz.sizeOf3, ask_of Tryz.isAgg3⟩, by decide⟩
instance : TyF Tryz.prog 7 2 2 1 false := ⟨⟨_, _, askU Tryz.underlying7, rfl, ask_of Tryz.sizeOf4, ask_of Tryz.isAgg4⟩, by decide⟩
instance : TyF Tryz.prog 7 3 3 1 false := ⟨⟨_, _, askU Tryz.underlying7, rfl, ask_of Tryz.sizeOf6, ask_of Tryz.isAgg6⟩, by decide⟩
instance : TyBd Tryz.prog 7 [(0, 1), (1, 1), (2, 1), (3, 1)] [.int .i64 0, .int .i64 0, .bool false, .int .u8 0] := ⟨abuild_struct (z := [.int .i64 0, .int .i64 0, .bool false, .int .u8 0]) (ask_of Tryz.zeroValue7) (askU Tryz.underlying7) (placesOf_cons (ask_of Tryz.sizeOf2) (placesOf_cons (ask_of Tryz.sizeOf3) (placesOf_cons (ask_of Tryz.sizeOf4) (placesOf_cons (ask_of Tryz.sizeOf6) rfl)))) rfl⟩
instance : TyZ Tryz.prog 8 4 true (.agg #[.int .i64 0, .int .i64 0, .bool false, .int .u8 0]) := ⟨ask_of Tryz.sizeOf8, ask_of Tryz.isAgg8, ask_of Tryz.zeroValue8⟩
instance : TyF Tryz.prog 8 0 0 1 false := ⟨⟨_, _, askU Tryz.underlying8, rfl, ask_of Tryz.sizeOf2, ask_of Tryz.isAgg2⟩, by decide⟩
instance : TyF Tryz.prog 8 1 1 1 false := ⟨⟨_, _, askU Tryz.underlying8, rfl, ask_of Tryz.sizeOf3, ask_of Tryz.isAgg3⟩, by decide⟩
instance : TyF Tryz.prog 8 2 2 1 false := ⟨⟨_, _, askU Tryz.underlying8, rfl, ask_of Tryz.sizeOf4, ask_of Tryz.isAgg4⟩, by decide⟩
instance : TyF Tryz.prog 8 3 3 1 false := ⟨⟨_, _, askU Tryz.underlying8, rfl, ask_of Tryz.sizeOf6, ask_of Tryz.isAgg6⟩, by decide⟩
instance : TyBd Tryz.prog 8 [(0, 1), (1, 1), (2, 1), (3, 1)] [.int .i64 0, .int .i64 0, .bool false, .int .u8 0] := ⟨abuild_struct (z := [.int .i64 0, .int .i64 0, .bool false, .int .u8 0]) (ask_of Tryz.zeroValue8) (askU Tryz.underlying8) (placesOf_cons (ask_of Tryz.sizeOf2) (placesOf_cons (ask_of Tryz.sizeOf3) (placesOf_cons (ask_of Tryz.sizeOf4) (placesOf_cons (ask_of Tryz.sizeOf6) rfl)))) rfl⟩
instance : TyZ Tryz.prog 9 1 false (.string { data := #[] }) := ⟨ask_of Tryz.sizeOf9, ask_of Tryz.isAgg9, ask_of Tryz.zeroValue9⟩
instance : TyS Tryz.prog 9 := ⟨Tryz.underlying9⟩
instance : TyZ Tryz.prog 10 1 false (.string { data := #[] }) := ⟨ask_of Tryz.sizeOf10, ask_of Tryz.isAgg10, ask_of Tryz.zeroValue10⟩
instance : TyS Tryz.prog 10 := ⟨Tryz.underlying10⟩
instance : TyZ Tryz.prog 11 1 false (.string { data := #[] }) := ⟨ask_of Tryz.sizeOf11, ask_of Tryz.isAgg11, ask_of Tryz.zeroValue11⟩
instance : TyS Tryz.prog 11 := ⟨Tryz.underlying11⟩
instance : TyZ Tryz.prog 12 1 false (.int .u64 0) := ⟨ask_of Tryz.sizeOf12, ask_of Tryz.isAgg12, ask_of Tryz.zeroValue12⟩
instance : TyI Tryz.prog 12 .u64 := ⟨Tryz.underlying12⟩
instance : TyZ Tryz.prog 13 2 true (.agg #[.string { data := #[] }, .int .u64 0]) := ⟨ask_of Tryz.sizeOf13, ask_of Tryz.isAgg13, ask_of Tryz.zeroValue13⟩
instance : TyF Tryz.prog 13 0 0 1 false := ⟨⟨_, _, askU Tryz.underlying13, rfl, ask_of Tryz.sizeOf9, ask_of Tryz.isAgg9⟩, by decide⟩
instance : TyF Tryz.prog 13 1 1 1 false := ⟨⟨_, _, askU Tryz.underlying13, rfl, ask_of Tryz.sizeOf12, ask_of Tryz.isAgg12⟩, by decide⟩
instance : TyBd Tryz.prog 13 [(0, 1), (1, 1)] [.string { data := #[] }, .int .u64 0] := ⟨abuild_struct (z := [.string { data := #[] }, .int .u64 0]) (ask_of Tryz.zeroValue13) (askU Tryz.underlying13) (placesOf_cons (ask_of Tryz.sizeOf9) (placesOf_cons (ask_of Tryz.sizeOf12) rfl)) rfl⟩
instance : TyZ Tryz.prog 14 2 true (.agg #[.string { data := #[] }, .int .u64 0]) := ⟨ask_of Tryz.sizeOf14, ask_of Tryz.isAgg14, ask_of Tryz.zeroValue14⟩
instance : TyF Tryz.prog 14 0 0 1 false := ⟨⟨_, _, askU Tryz.underlying14, rfl, ask_of Tryz.sizeOf9, ask_of Tryz.isAgg9⟩, by decide⟩
instance : TyF Tryz.prog 14 1 1 1 false := ⟨⟨_, _, askU Tryz.underlying14, rfl, ask_of Tryz.sizeOf12, ask_of Tryz.isAgg12⟩, by decide⟩
instance : TyBd Tryz.prog 14 [(0, 1), (1, 1)] [.string { data := #[] }, .int .u64 0] := ⟨abuild_struct (z := [.string { data := #[] }, .int .u64 0]) (ask_of Tryz.zeroValue14) (askU Tryz.underlying14) (placesOf_cons (ask_of Tryz.sizeOf9) (placesOf_cons (ask_of Tryz.sizeOf12) rfl)) rfl⟩
instance : TyZ Tryz.prog 15 1 false (.pointer none) := ⟨ask_of Tryz.sizeOf15, ask_of Tryz.isAgg15, ask_of Tryz.zeroValue15⟩
instance : TyP Tryz.prog 15 199 := ⟨Tryz.underlying15⟩
instance : TyZ Tryz.prog 16 1 false (.pointer none) := ⟨ask_of Tryz.sizeOf16, ask_of Tryz.isAgg16, ask_of Tryz.zeroValue16⟩
instance : TyP Tryz.prog 16 202 := ⟨Tryz.underlying16⟩
instance : TyZ Tryz.prog 17 1 false (.pointer none) := ⟨ask_of Tryz.sizeOf17, ask_of Tryz.isAgg17, ask_of Tryz.zeroValue17⟩
instance : TyP Tryz.prog 17 211 := ⟨Tryz.underlying17⟩
instance : TyZ Tryz.prog 18 1 true (.agg #[.pointer none]) := ⟨ask_of Tryz.sizeOf18, ask_of Tryz.isAgg18, ask_of Tryz.zeroValue18⟩
instance : TyF Tryz.prog 18 0 0 1 false := ⟨⟨_, _, askU Tryz.underlying18, rfl, ask_of Tryz.sizeOf17, ask_of Tryz.isAgg17⟩, by decide⟩
instance : TyBd Tryz.prog 18 [(0, 1)] [.pointer none] := ⟨abuild_struct (z := [.pointer none]) (ask_of Tryz.zeroValue18) (askU Tryz.underlying18) (placesOf_cons (ask_of Tryz.sizeOf17) rfl) rfl⟩
instance : TyZ Tryz.prog 19 1 true (.agg #[.pointer none]) := ⟨ask_of Tryz.sizeOf19, ask_of Tryz.isAgg19, ask_of Tryz.zeroValue19⟩
instance : TyF Tryz.prog 19 0 0 1 false := ⟨⟨_, _, askU Tryz.underlying19, rfl, ask_of Tryz.sizeOf17, ask_of Tryz.isAgg17⟩, by decide⟩
instance : TyBd Tryz.prog 19 [(0, 1)] [.pointer none] := ⟨abuild_struct (z := [.pointer none]) (ask_of Tryz.zeroValue19) (askU Tryz.underlying19) (placesOf_cons (ask_of Tryz.sizeOf17) rfl) rfl⟩
instance : TyZ Tryz.prog 20 1 false (.nilIface) := ⟨ask_of Tryz.sizeOf20, ask_of Tryz.isAgg20, ask_of Tryz.zeroValue20⟩
instance : TyZ Tryz.prog 21 1 false (.int .i32 0) := ⟨ask_of Tryz.sizeOf21, ask_of Tryz.isAgg21, ask_of Tryz.zeroValue21⟩
instance : TyI Tryz.prog 21 .i32 := ⟨Tryz.underlying21⟩
instance : TyZ Tryz.prog 22 1 false (.slice none 0 0) := ⟨ask_of Tryz.sizeOf22, ask_of Tryz.isAgg22, ask_of Tryz.zeroValue22⟩
instance : TySl Tryz.prog 22 103 2 [.string { data := #[] }, .int .i64 0] := ⟨Tryz.underlying22, ask_of Tryz.sizeOf103, ⟨_, ask_of Tryz.zeroValue103, rfl⟩, rfl, rfl, by rw [xN]; decide⟩
instance : TyZ Tryz.prog 23 1 true (.agg #[.slice none 0 0]) := ⟨ask_of Tryz.sizeOf23, ask_of Tryz.isAgg23, ask_of Tryz.zeroValue23⟩
instance : TyF Tryz.prog 23 0 0 1 false := ⟨⟨_, _, askU Tryz.underlying23, rfl, ask_of Tryz.sizeOf22, ask_of Tryz.isAgg22⟩, by decide⟩
instance : TyBd Tryz.prog 23 [(0, 1)] [.slice none 0 0] := ⟨abuild_struct (z := [.slice none 0 0]) (ask_of Tryz.zeroValue23) (askU Tryz.underlying23) (placesOf_cons (ask_of Tryz.sizeOf22) rfl) rfl⟩
instance : TyZ Tryz.prog 24 1 true (.agg #[.slice none 0 0]) := ⟨ask_of Tryz.sizeOf24, ask_of Tryz.isAgg24, ask_of Tryz.zeroValue24⟩
instance : TyF Tryz.prog 24 0 0 1 false := ⟨⟨_, _, askU Tryz.underlying24, rfl, ask_of Tryz.sizeOf22, ask_of Tryz.isAgg22⟩, by decide⟩
instance : TyBd Tryz.prog 24 [(0, 1)] [.slice none 0 0] := ⟨abuild_struct (z := [.slice none 0 0]) (ask_of Tryz.zeroValue24) (askU Tryz.underlying24) (placesOf_cons (ask_of Tryz.sizeOf22) rfl) rfl⟩
instance : TyZ Tryz.prog 25 1 false (.slice none 0 0) := ⟨ask_of Tryz.sizeOf25, ask_of Tryz.isAgg25, ask_of Tryz.zeroValue25⟩
instance : TySl Tryz.prog 25 2 1 [(.int .i64 0)] := ⟨Tryz.underlying25, ask_of Tryz.sizeOf2, ⟨_, ask_of Tryz.zeroValue2, rfl⟩, rfl, rfl, by rw [xN]; decide⟩
instance : TyZ Tryz.prog 26 1 false (.slice none 0 0) := ⟨ask_of Tryz.sizeOf26, ask_of Tryz.isAgg26, ask_of Tryz.zeroValue26⟩
instance : TySl Tryz.prog 26 106 2 [.slice none 0 0, .slice none 0 0] := ⟨Tryz.underlying26, ask_of Tryz.sizeOf106, ⟨_, ask_of Tryz.zeroValue106, rfl⟩, rfl, rfl, by rw [xN]; decide⟩
instance : TyZ Tryz.prog 27 3 true (.agg #[.slice none 0 0, .slice none 0 0, .slice none 0 0]) := ⟨ask_of Tryz.sizeOf27, ask_of Tryz.isAgg27, ask_of Tryz.zeroValue27⟩
instance : TyF Tryz.prog 27 0 0 1 false := ⟨⟨_, _, askU Tryz.underlying27, rfl, ask_of Tryz.sizeOf25, ask_of Tryz.isAgg25⟩, by decide⟩
instance : TyF Tryz.prog 27 1 1 1 false := ⟨⟨_, _, askU Tryz.underlying27, rfl, ask_of Tryz.sizeOf26, ask_of Tryz.isAgg26⟩, by decide⟩
instance : TyF Tryz.prog 27 2 2 1 false := ⟨⟨_, _, askU Tryz.underlying27, rfl, ask_of Tryz.sizeOf26, ask_of Tryz.isAgg26⟩, by decide⟩
instance : TyBd Tryz.prog 27 [(0, 1), (1, 1), (2, 1)] [.slice none 0 0, .slice none 0 0, .slice none 0 0] := ⟨abuild_struct (z := [.slice none 0 0, .slice none 0 0, .slice none 0 0]) (ask_of Tryz.zeroValue27) (askU Tryz.underlying27) (placesOf_cons (ask_of Tryz.sizeOf25) (placesOf_cons (ask_of Tryz.sizeOf26) (placesOf_cons (ask_of Tryz.sizeOf26) rfl))) rfl⟩
instance : TyZ Tryz.prog 28 3 true (.agg #[.slice none 0 0, .slice none 0 0, .slice none 0 0]) := ⟨ask_of Tryz.sizeOf28, ask_of Tryz.isAgg28, ask_of Tryz.zeroValue28⟩
instance : TyF Tryz.prog 28 0 0 1 false := ⟨⟨_, _, askU Tryz.underlying28, rfl, ask_of Tryz.sizeOf25, ask_of Tryz.isAgg25⟩, by decide⟩
instance : TyF Tryz.prog 28 1 1 1 false := ⟨⟨_, _, askU Tryz.underlying28, rfl, ask_of Tryz.sizeOf26, ask_of Tryz.isAgg26⟩, by decide⟩
instance : TyF Tryz.prog 28 2 2 1 false := ⟨⟨_, _, askU Tryz.underlying28, rfl, ask_of Tryz.sizeOf26, ask_of Tryz.isAgg26⟩, by decide⟩
instance : TyBd Tryz.prog 28 [(0, 1), (1, 1), (2, 1)] [.slice none 0 0, .slice none 0 0, .slice none 0 0] := ⟨abuild_struct (z := [.slice none 0 0, .slice none 0 0, .slice none 0 0]) (ask_of Tryz.zeroValue28) (askU Tryz.underlying28) (placesOf_cons (ask_of Tryz.sizeOf25) (placesOf_cons (ask_of Tryz.sizeOf26) (placesOf_cons (ask_of Tryz.sizeOf26) rfl))) rfl⟩
instance : TyZ Tryz.prog 29 1 false (.slice none 0 0) := ⟨ask_of Tryz.sizeOf29, ask_of Tryz.isAgg29, ask_of Tryz.zeroValue29⟩
instance : TySl Tryz.prog 29 5 1 [(.int .u8 0)] := ⟨Tryz.underlying29, ask_of Tryz.sizeOf5, ⟨_, ask_of Tryz.zeroValue5, rfl⟩, rfl, rfl, by rw [xN]; decide⟩
instance : TyBy Tryz.prog 29 := ⟨_, Tryz.underlying29, Tryz.underlying5⟩
instance : TyZ Tryz.prog 30 1 false (.slice none 0 0) := ⟨ask_of Tryz.sizeOf30, ask_of Tryz.isAgg30, ask_of Tryz.zeroValue30⟩
instance : TySl Tryz.prog 30 74 2 [.slice none 0 0, .int .i64 0] := ⟨Tryz.underlying30, ask_of Tryz.sizeOf74, ⟨_, ask_of Tryz.zeroValue74, rfl⟩, rfl, rfl, by rw [xN]; decide⟩
instance : TyZ Tryz.prog 31 11 true (.agg #[.slice none 0 0, .int .i64 0, .slice none 0 0, .slice none 0 0, .slice none 0 0, .bool false, .slice none 0 0, .slice none 0 0, .slice none 0 0, .slice none 0 0, .slice none 0 0]) := ⟨ask_of Tryz.sizeOf31, ask_of Tryz.isAgg31, ask_of Tryz.zeroValue31⟩
instance : TyF Tryz.prog 31 0 0 1 true := ⟨⟨_, _, askU Tryz.underlying31, rfl, ask_of Tryz.sizeOf24, ask_of Tryz.isAgg24⟩, by decide⟩
instance : TyF Tryz.prog 31 1 1 1 false := ⟨⟨_, _, askU Tryz.underlying31, rfl, ask_of Tryz.sizeOf2, ask_of Tryz.isAgg2⟩, by decide⟩
instance : TyF Tryz.prog 31 2 2 3 true := ⟨⟨_, _, askU Tryz.underlying31, rfl, ask_of Tryz.sizeOf28, ask_of Tryz.isAgg28⟩, by decide⟩
instance : TyF Tryz.prog 31 3 5 1 false := ⟨⟨_, _, askU Tryz.underlying31, rfl, ask_of Tryz.sizeOf4, ask_of Tryz.isAgg4⟩, by decide⟩
instance : TyF Tryz.prog 31 4 6 3 true := ⟨⟨_, _, askU Tryz.underlying31, rfl, ask_of Tryz.sizeOf28, ask_of Tryz.isAgg28⟩, by decide⟩
instance : TyF Tryz.prog 31 5 9 1 false := ⟨⟨_, _, askU Tryz.underlying31, rfl, ask_of Tryz.sizeOf29, ask_of Tryz.isAgg29⟩, by decide⟩
instance : TyF Tryz.prog 31 6 10 1 false := ⟨⟨_, _, askU Tryz.underlying31, rfl, ask_of Tryz.sizeOf30, ask_of Tryz.isAgg30⟩, by decide⟩
instance : TyBd Tryz.prog 31 [(0, 1), (1, 1), (2, 3), (5, 1), (6, 3), (9, 1), (10, 1)] [.slice none 0 0, .int .i64 0, .slice none 0 0, .slice none 0 0, .slice none 0 0, .bool false, .slice none 0 0, .slice none 0 0, .slice none 0 0, .slice none 0 0, .slice none 0 0] := ⟨abuild_struct (z := [.slice none 0 0, .int .i64 0, .slice none 0 0, .slice none 0 0, .slice none 0 0, .bool false, .slice none 0 0, .slice none 0 0, .slice none 0 0, .slice none 0 0, .slice none 0 0]) (ask_of Tryz.zeroValue31) (askU Tryz.underlying31) (placesOf_cons (ask_of Tryz.sizeOf24) (placesOf_cons (ask_of Tryz.sizeOf2) (placesOf_cons (ask_of Tryz.sizeOf28) (placesOf_cons (ask_of Tryz.sizeOf4) (placesOf_cons (ask_of Tryz.sizeOf28) (placesOf_cons (ask_of Tryz.sizeOf29) (placesOf_cons (ask_of Tryz.sizeOf30) rfl))))))) rfl⟩
instance : TyZ Tryz.prog 32 11 true (.agg #[.slice none 0 0, .int .i64 0, .slice none 0 0, .slice none 0 0, .slice none 0 0, .bool false, .slice none 0 0, .slice none 0 0, .slice none 0 0, .slice none 0 0, .slice none 0 0]) := ⟨ask_of Tryz.sizeOf32, ask_of Tryz.isAgg32, ask_of Tryz.zeroValue32⟩
instance : TyF Tryz.prog 32 0 0 1 true := ⟨⟨_, _, askU Tryz.underlying32, rfl, ask_of Tryz.sizeOf24, ask_of Tryz.isAgg24⟩, by decide⟩
instance : TyF Tryz.prog 32 1 1 1 false := ⟨⟨_, _, askU Tryz.underlying32, rfl, ask_of Tryz.sizeOf2, ask_of Tryz.isAgg2⟩, by decide⟩
instance : TyF Tryz.prog 32 2 2 3 true := ⟨⟨_, _, askU Tryz.underlying32, rfl, ask_of Tryz.sizeOf28, ask_of Tryz.isAgg28⟩, by decide⟩
instance : TyF Tryz.prog 32 3 5 1 false := ⟨⟨_, _, askU Tryz.underlying32, rfl, ask_of Tryz.sizeOf4, ask_of Tryz.isAgg4⟩, by decide⟩
instance : TyF Tryz.prog 32 4 6 3 true := ⟨⟨_, _, askU Tryz.underlying32, rfl, ask_of Tryz.sizeOf28, ask_of Tryz.isAgg28⟩, by decide⟩
instance : TyF Tryz.prog 32 5 9 1 false := ⟨⟨_, _, askU Tryz.underlying32, rfl, ask_of Tryz.sizeOf29, ask_of Tryz.isAgg29⟩, by decide⟩
instance : TyF Tryz.prog 32 6 10 1 false := ⟨⟨_, _, askU Tryz.underlying32, rfl, ask_of Tryz.sizeOf30, ask_of Tryz.isAgg30⟩, by decide⟩
instance : TyBd Tryz.prog 32 [(0, 1), (1, 1), (2, 3), (5, 1), (6, 3), (9, 1), (10, 1)] [.slice none 0 0, .int .i64 0, .slice none 0 0, .slice none 0 0, .slice none 0 0, .bool false, .slice none 0 0, .slice none 0 0, .slice none 0 0, .slice none 0 0, .slice none 0 0] := ⟨abuild_struct (z := [.slice none 0 0, .int .i64 0, .slice none 0 0, .slice none 0 0, .slice none 0 0, .bool false, .slice none 0 0, .slice none 0 0, .slice none 0 0, .slice none 0 0, .slice none 0 0]) (ask_of Tryz.zeroValue32) (askU Tryz.underlying32) (placesOf_cons (ask_of Tryz.sizeOf24) (placesOf_cons (ask_of Tryz.sizeOf2) (placesOf_cons (ask_of Tryz.sizeOf28) (placesOf_cons (ask_of Tryz.sizeOf4) (placesOf_cons (ask_of Tryz.sizeOf28) (placesOf_cons (ask_of Tryz.sizeOf29) (placesOf_cons (ask_of Tryz.sizeOf30) rfl))))))) rfl⟩
instance : TyZ Tryz.prog 33 1 false (.nilFunc) := ⟨ask_of Tryz.sizeOf33, ask_of Tryz.isAgg33, ask_of Tryz.zeroValue33⟩
instance : TyZ Tryz.prog 34 1 false (.nilFunc) := ⟨ask_of Tryz.sizeOf34, ask_of Tryz.isAgg34, ask_of Tryz.zeroValue34⟩
instance : TyZ Tryz.prog 35 1 false (.slice none 0 0) := ⟨ask_of Tryz.sizeOf35, ask_of Tryz.isAgg35, ask_of Tryz.zeroValue35⟩
instance : TySl Tryz.prog 35 77 2 [.string { data := #[] }, .int .i64 0] := ⟨Tryz.underlying35, ask_of Tryz.sizeOf77, ⟨_, ask_of Tryz.zeroValue77, rfl⟩, rfl, rfl, by rw [xN]; decide⟩
instance : TyZ Tryz.prog 36 1 true (.agg #[.slice none 0 0]) := ⟨ask_of Tryz.sizeOf36, ask_of Tryz.isAgg36, ask_of Tryz.zeroValue36⟩
instance : TyF Tryz.prog 36 0 0 1 false := ⟨⟨_, _, askU Tryz.underlying36, rfl, ask_of Tryz.sizeOf35, ask_of Tryz.isAgg35⟩, by decide⟩
instance : TyBd Tryz.prog 36 [(0, 1)] [.slice none 0 0] := ⟨abuild_struct (z := [.slice none 0 0]) (ask_of Tryz.zeroValue36) (askU Tryz.underlying36) (placesOf_cons (ask_of Tryz.sizeOf35) rfl) rfl⟩
instance : TyZ Tryz.prog 37 1 true (.agg #[.slice none 0 0]) := ⟨ask_of Tryz.sizeOf37, ask_of Tryz.isAgg37, ask_of Tryz.zeroValue37⟩
instance : TyF Tryz.prog 37 0 0 1 false := ⟨⟨_, _, askU Tryz.underlying37, rfl, ask_of Tryz.sizeOf35, ask_of Tryz.isAgg35⟩, by decide⟩
instance : TyBd Tryz.prog 37 [(0, 1)] [.slice none 0 0] := ⟨abuild_struct (z := [.slice none 0 0]) (ask_of Tryz.zeroValue37) (askU Tryz.underlying37) (placesOf_cons (ask_of Tryz.sizeOf35) rfl) rfl⟩
instance : TyZ Tryz.prog 38 1 false (.slice none 0 0) := ⟨ask_of Tryz.sizeOf38, ask_of Tryz.isAgg38, ask_of Tryz.zeroValue38⟩
instance : TySl Tryz.prog 38 110 2 [.slice none 0 0, .slice none 0 0] := ⟨Tryz.underlying38, ask_of Tryz.sizeOf110, ⟨_, ask_of Tryz.zeroValue110, rfl⟩, rfl, rfl, by rw [xN]; decide⟩
instance : TyZ Tryz.prog 39 3 true (.agg #[.slice none 0 0, .slice none 0 0, .slice none 0 0]) := ⟨ask_of Tryz.sizeOf39, ask_of Tryz.isAgg39, ask_of Tryz.zeroValue39⟩
instance : TyF Tryz.prog 39 0 0 1 false := ⟨⟨_, _, askU Tryz.underlying39, rfl, ask_of Tryz.sizeOf25, ask_of Tryz.isAgg25⟩, by decide⟩
instance : TyF Tryz.prog 39 1 1 1 false := ⟨⟨_, _, askU Tryz.underlying39, rfl, ask_of Tryz.sizeOf38, ask_of Tryz.isAgg38⟩, by decide⟩
instance : TyF Tryz.prog 39 2 2 1 false := ⟨⟨_, _, askU Tryz.underlying39, rfl, ask_of Tryz.sizeOf38, ask_of Tryz.isAgg38⟩, by decide⟩
instance : TyBd Tryz.prog 39 [(0, 1), (1, 1), (2, 1)] [.slice none 0 0, .slice none 0 0, .slice none 0 0] := ⟨abuild_struct (z := [.slice none 0 0, .slice none 0 0, .slice none 0 0]) (ask_of Tryz.zeroValue39) (askU Tryz.underlying39) (placesOf_cons (ask_of Tryz.sizeOf25) (placesOf_cons (ask_of Tryz.sizeOf38) (placesOf_cons (ask_of Tryz.sizeOf38) rfl))) rfl⟩
instance : TyZ Tryz.prog 40 3 true (.agg #[.slice none 0 0, .slice none 0 0, .slice none 0 0]) := ⟨ask_of Tryz.sizeOf40, ask_of Tryz.isAgg40, ask_of Tryz.zeroValue40⟩
instance : TyF Tryz.prog 40 0 0 1 false := ⟨⟨_, _, askU Tryz.underlying40, rfl, ask_of Tryz.sizeOf25, ask_of Tryz.isAgg25⟩, by decide⟩
instance : TyF Tryz.prog 40 1 1 1 false := ⟨⟨_, _, askU Tryz.underlying40, rfl, ask_of Tryz.sizeOf38, ask_of Tryz.isAgg38⟩, by decide⟩
instance : TyF Tryz.prog 40 2 2 1 false := ⟨⟨_, _, askU Tryz.underlying40, rfl, ask_of Tryz.sizeOf38, ask_of Tryz.isAgg38⟩, by decide⟩
instance : TyBd Tryz.prog 40 [(0, 1), (1, 1), (2, 1)] [.slice none 0 0, .slice none 0 0, .slice none 0 0] := ⟨abuild_struct (z := [.slice none 0 0, .slice none 0 0, .slice none 0 0]) (ask_of Tryz.zeroValue40) (askU Tryz.underlying40) (placesOf_cons (ask_of Tryz.sizeOf25) (placesOf_cons (ask_of Tryz.sizeOf38) (placesOf_cons (ask_of Tryz.sizeOf38) rfl))) rfl⟩
instance : TyZ Tryz.prog 41 1 false (.slice none 0 0) := ⟨ask_of Tryz.sizeOf41, ask_of Tryz.isAgg41, ask_of Tryz.zeroValue41⟩
instance : TySl Tryz.prog 41 64 2 [.slice none 0 0, .int .i64 0] := ⟨Tryz.underlying41, ask_of Tryz.sizeOf64, ⟨_, ask_of Tryz.zeroValue64, rfl⟩, rfl, rfl, by rw [xN]; decide⟩
instance : TyZ Tryz.prog 42 11 true (.agg #[.slice none 0 0, .int .i64 0, .slice none 0 0, .slice none 0 0, .slice none 0 0, .bool false, .slice none 0 0, .slice none 0 0, .slice none 0 0, .slice none 0 0, .slice none 0 0]) := ⟨ask_of Tryz.sizeOf42, ask_of Tryz.isAgg42, ask_of Tryz.zeroValue42⟩
instance : TyF Tryz.prog 42 0 0 1 true := ⟨⟨_, _, askU Tryz.underlying42, rfl, ask_of Tryz.sizeOf37, ask_of Tryz.isAgg37⟩, by decide⟩
instance : TyF Tryz.prog 42 1 1 1 false := ⟨⟨_, _, askU Tryz.underlying42, rfl, ask_of Tryz.sizeOf2, ask_of Tryz.isAgg2⟩, by decide⟩
instance : TyF Tryz.prog 42 2 2 3 true := ⟨⟨_, _, askU Tryz.underlying42, rfl, ask_of Tryz.sizeOf40, ask_of Tryz.isAgg40⟩, by decide⟩
instance : TyF Tryz.prog 42 3 5 1 false := ⟨⟨_, _, askU Tryz.underlying42, rfl, ask_of Tryz.sizeOf4, ask_of Tryz.isAgg4⟩, by decide⟩
instance : TyF Tryz.prog 42 4 6 3 true := ⟨⟨_, _, askU Tryz.underlying42, rfl, ask_of Tryz.sizeOf40, ask_of Tryz.isAgg40⟩, by decide⟩
instance : TyF Tryz.prog 42 5 9 1 false := ⟨⟨_, _, askU Tryz.underlying42, rfl, ask_of Tryz.sizeOf29, ask_of Tryz.isAgg29⟩, by decide⟩
instance : TyF Tryz.prog 42 6 10 1 false := ⟨⟨_, _, askU Tryz.underlying42, rfl, ask_of Tryz.sizeOf41, ask_of Tryz.isAgg41⟩, by decide⟩
instance : TyBd Tryz.prog 42 [(0, 1), (1, 1), (2, 3), (5, 1), (6, 3), (9, 1), (10, 1)] [.slice none 0 0, .int .i64 0, .slice none 0 0, .slice none 0 0, .slice none 0 0, .bool false, .slice none 0 0, .slice none 0 0, .slice none 0 0, .slice none 0 0, .slice none 0 0] := ⟨abuild_struct (z := [.slice none 0 0, .int .i64 0, .slice none 0 0, .slice none 0 0, .slice none 0 0, .bool false, .slice none 0 0, .slice none 0 0, .slice none 0 0, .slice none 0 0, .slice none 0 0]) (ask_of Tryz.zeroValue42) (askU Tryz.underlying42) (placesOf_cons (ask_of Tryz.sizeOf37) (placesOf_cons (ask_of Tryz.sizeOf2) (placesOf_cons (ask_of Tryz.sizeOf40) (placesOf_cons (ask_of Tryz.sizeOf4) (placesOf_cons (ask_of Tryz.sizeOf40) (placesOf_cons (ask_of Tryz.sizeOf29) (placesOf_cons (ask_of Tryz.sizeOf41) rfl))))))) rfl⟩
instance : TyZ Tryz.prog 43 11 true (.agg #[.slice none 0 0, .int .i64 0, .slice none 0 0, .slice none 0 0, .slice none 0 0, .bool false, .slice none 0 0, .slice none 0 0, .slice none 0 0, .slice none 0 0, .slice none 0 0]) := ⟨ask_of Tryz.sizeOf43, ask_of Tryz.isAgg43, ask_of Tryz.zeroValue43⟩
instance : TyF Tryz.prog 43 0 0 1 true := ⟨⟨_, _, askU Tryz.underlying43, rfl, ask_of Tryz.sizeOf37, ask_of Tryz.isAgg37⟩, by decide⟩
instance : TyF Tryz.prog 43 1 1 1 false := ⟨⟨_, _, askU Tryz.underlying43, rfl, ask_of Tryz.sizeOf2, ask_of Tryz.isAgg2⟩, by decide⟩
instance : TyF Tryz.prog 43 2 2 3 true := ⟨⟨_, _, askU Tryz.underlying43, rfl, ask_of Tryz.sizeOf40, ask_of Tryz.isAgg40⟩, by decide⟩
instance : TyF Tryz.prog 43 3 5 1 false := ⟨⟨_, _, askU Tryz.underlying43, rfl, ask_of Tryz.sizeOf4, ask_of Tryz.isAgg4⟩, by decide⟩
instance : TyF Tryz.prog 43 4 6 3 true := ⟨⟨_, _, askU Tryz.underlying43, rfl, ask_of Tryz.sizeOf40, ask_of Tryz.isAgg40⟩, by decide⟩
instance : TyF Tryz.prog 43 5 9 1 false := ⟨⟨_, _, askU Tryz.underlying43, rfl, ask_of Tryz.sizeOf29, ask_of Tryz.isAgg29⟩, by decide⟩
instance : TyF Tryz.prog 43 6 10 1 false := ⟨⟨_, _, askU Tryz.underlying43, rfl, ask_of Tryz.sizeOf41, ask_of Tryz.isAgg41⟩, by decide⟩
instance : TyBd Tryz.prog 43 [(0, 1), (1, 1), (2, 3), (5, 1), (6, 3), (9, 1), (10, 1)] [.slice none 0 0, .int .i64 0, .slice none 0 0, .slice none 0 0, .slice none 0 0, .bool false, .slice none 0 0, .slice none 0 0, .slice none 0 0, .slice none 0 0, .slice none 0 0] := ⟨abuild_struct (z := [.slice none 0 0, .int .i64 0, .slice none 0 0, .slice none 0 0, .slice none 0 0, .bool false, .slice none 0 0, .slice none 0 0, .slice none 0 0, .slice none 0 0, .slice none 0 0]) (ask_of Tryz.zeroValue43) (askU Tryz.underlying43) (placesOf_cons (ask_of Tryz.sizeOf37) (placesOf_cons (ask_of Tryz.sizeOf2) (placesOf_cons (ask_of Tryz.sizeOf40) (placesOf_cons (ask_of Tryz.sizeOf4) (placesOf_cons (ask_of Tryz.sizeOf40) (placesOf_cons (ask_of Tryz.sizeOf29) (placesOf_cons (ask_of Tryz.sizeOf41) rfl))))))) rfl⟩
instance : TyZ Tryz.prog 44 1 false (.nilFunc) := ⟨ask_of Tryz.sizeOf44, ask_of Tryz.isAgg44, ask_of Tryz.zeroValue44⟩
instance : TyZ Tryz.prog 45 1 false (.nilFunc) := ⟨ask_of Tryz.sizeOf45, ask_of Tryz.isAgg45, ask_of Tryz.zeroValue45⟩
instance : TyZ Tryz.prog 46 1 false (.nilFunc) := ⟨ask_of Tryz.sizeOf46, ask_of Tryz.isAgg46, ask_of Tryz.zeroValue46⟩
instance : TyZ Tryz.prog 47 1 false (.nilFunc) := ⟨ask_of Tryz.sizeOf47, ask_of Tryz.isAgg47, ask_of Tryz.zeroValue47⟩
instance : TyZ Tryz.prog 48 1 false (.nilFunc) := ⟨ask_of Tryz.sizeOf48, ask_of Tryz.isAgg48, ask_of Tryz.zeroValue48⟩
instance : TyZ Tryz.prog 49 1 false (.nilFunc) := ⟨ask_of Tryz.sizeOf49, ask_of Tryz.isAgg49, ask_of Tryz.zeroValue49⟩
instance : TyZ Tryz.prog 50 1 false (.nilFunc) := ⟨ask_of Tryz.sizeOf50, ask_of Tryz.isAgg50, ask_of Tryz.zeroValue50⟩
instance : TyZ Tryz.prog 51 1 false (.nilFunc) := ⟨ask_of Tryz.sizeOf51, ask_of Tryz.isAgg51, ask_of Tryz.zeroValue51⟩
instance : TyZ Tryz.prog 52 1 false (.nilFunc) := ⟨ask_of Tryz.sizeOf52, ask_of Tryz.isAgg52, ask_of Tryz.zeroValue52⟩
instance : TyZ Tryz.prog 53 1 false (.nilFunc) := ⟨ask_of Tryz.sizeOf53, ask_of Tryz.isAgg53, ask_of Tryz.zeroValue53⟩
instance : TyZ Tryz.prog 54 1 false (.pointer none) := ⟨ask_of Tryz.sizeOf54, ask_of Tryz.isAgg54, ask_of Tryz.zeroValue54⟩
instance : TyP Tryz.prog 54 37 := ⟨Tryz.underlying54⟩
instance : TyZ Tryz.prog 55 1 false (.pointer none) := ⟨ask_of Tryz.sizeOf55, ask_of Tryz.isAgg55, ask_of Tryz.zeroValue55⟩
instance : TyP Tryz.prog 55 40 := ⟨Tryz.underlying55⟩
instance : TyZ Tryz.prog 56 1 false (.nilFunc) := ⟨ask_of Tryz.sizeOf56, ask_of Tryz.isAgg56, ask_of Tryz.zeroValue56⟩
instance : TyZ Tryz.prog 57 1 false (.nilFunc) := ⟨ask_of Tryz.sizeOf57, ask_of Tryz.isAgg57, ask_of Tryz.zeroValue57⟩
instance : TyZ Tryz.prog 58 1 false (.nilFunc) := ⟨ask_of Tryz.sizeOf58, ask_of Tryz.isAgg58, ask_of Tryz.zeroValue58⟩
instance : TyZ Tryz.prog 59 1 false (.nilFunc) := ⟨ask_of Tryz.sizeOf59, ask_of Tryz.isAgg59, ask_of Tryz.zeroValue59⟩
instance : TyZ Tryz.prog 60 1 false (.nilFunc) := ⟨ask_of Tryz.sizeOf60, ask_of Tryz.isAgg60, ask_of Tryz.zeroValue60⟩
instance : TyZ Tryz.prog 61 1 false (.nilFunc) := ⟨ask_of Tryz.sizeOf61, ask_of Tryz.isAgg61, ask_of Tryz.zeroValue61⟩
instance : TyZ Tryz.prog 62 1 false (.nilFunc) := ⟨ask_of Tryz.sizeOf62, ask_of Tryz.isAgg62, ask_of Tryz.zeroValue62⟩
instance : TyZ Tryz.prog 63 2 true (.agg #[.slice none 0 0, .int .i64 0]) := ⟨ask_of Tryz.sizeOf63, ask_of Tryz.isAgg63, ask_of Tryz.zeroValue63⟩
instance : TyF Tryz.prog 63 0 0 1 false := ⟨⟨_, _, askU Tryz.underlying63, rfl, ask_of Tryz.sizeOf25, ask_of Tryz.isAgg25⟩, by decide⟩
instance : TyF Tryz.prog 63 1 1 1 false := ⟨⟨_, _, askU Tryz.underlying63, rfl, ask_of Tryz.sizeOf2, ask_of Tryz.isAgg2⟩, by decide⟩
instance : TyBd Tryz.prog 63 [(0, 1), (1, 1)] [.slice none 0 0, .int .i64 0] := ⟨abuild_struct (z := [.slice none 0 0, .int .i64 0]) (ask_of Tryz.zeroValue63) (askU Tryz.underlying63) (placesOf_cons (ask_of Tryz.sizeOf25) (placesOf_cons (ask_of Tryz.sizeOf2) rfl)) rfl⟩
instance : TyZ Tryz.prog 64 2 true (.agg #[.slice none 0 0, .int .i64 0]) := ⟨ask_of Tryz.sizeOf64, ask_of Tryz.isAgg64, ask_of Tryz.zeroValue64⟩
instance : TyF Tryz.prog 64 0 0 1 false := ⟨⟨_, _, askU Tryz.underlying64, rfl, ask_of Tryz.sizeOf25, ask_of Tryz.isAgg25⟩, by decide⟩
instance : TyF Tryz.prog 64 1 1 1 false := ⟨⟨_, _, askU Tryz.underlying64, rfl, ask_of Tryz.sizeOf2, ask_of Tryz.isAgg2⟩, by decide⟩
instance : TyBd Tryz.prog 64 [(0, 1), (1, 1)] [.slice none 0 0, .int .i64 0] := ⟨abuild_struct (z := [.slice none 0 0, .int .i64 0]) (ask_of Tryz.zeroValue64) (askU Tryz.underlying64) (placesOf_cons (ask_of Tryz.sizeOf25) (placesOf_cons (ask_of Tryz.sizeOf2) rfl)) rfl⟩
instance : TyZ Tryz.prog 65 1 false (.nilFunc) := ⟨ask_of Tryz.sizeOf65, ask_of Tryz.isAgg65, ask_of Tryz.zeroValue65⟩
instance : TyZ Tryz.prog 66 1 false (.nilFunc) := ⟨ask_of Tryz.sizeOf66, ask_of Tryz.isAgg66, ask_of Tryz.zeroValue66⟩
instance : TyZ Tryz.prog 67 1 false (.nilFunc) := ⟨ask_of Tryz.sizeOf67, ask_of Tryz.isAgg67, ask_of Tryz.zeroValue67⟩
instance : TyZ Tryz.prog 68 1 false (.nilFunc) := ⟨ask_of Tryz.sizeOf68, ask_of Tryz.isAgg68, ask_of Tryz.zeroValue68⟩
instance : TyZ Tryz.prog 69 1 false (.nilFunc) := ⟨ask_of Tryz.sizeOf69, ask_of Tryz.isAgg69, ask_of Tryz.zeroValue69⟩
instance : TyZ Tryz.prog 70 1 false (.nilFunc) := ⟨ask_of Tryz.sizeOf70, ask_of Tryz.isAgg70, ask_of Tryz.zeroValue70⟩
instance : TyZ Tryz.prog 71 1 false (.nilFunc) := ⟨ask_of Tryz.sizeOf71, ask_of Tryz.isAgg71, ask_of Tryz.zeroValue71⟩
instance : TyZ Tryz.prog 72 1 false (.nilFunc) := ⟨ask_of Tryz.sizeOf72, ask_of Tryz.isAgg72, ask_of Tryz.zeroValue72⟩
instance : TyZ Tryz.prog 73 1 false (.nilFunc) := ⟨ask_of Tryz.sizeOf73, ask_of Tryz.isAgg73, ask_of Tryz.zeroValue73⟩
instance : TyZ Tryz.prog 74 2 true (.agg #[.slice none 0 0, .int .i64 0]) := ⟨ask_of Tryz.sizeOf74, ask_of Tryz.isAgg74, ask_of Tryz.zeroValue74⟩
instance : TyF Tryz.prog 74 0 0 1 false := ⟨⟨_, _, askU Tryz.underlying74, rfl, ask_of Tryz.sizeOf25, ask_of Tryz.isAgg25⟩, by decide⟩
instance : TyF Tryz.prog 74 1 1 1 false := ⟨⟨_, _, askU Tryz.underlying74, rfl, ask_of Tryz.sizeOf2, ask_of Tryz.isAgg2⟩, by decide⟩
instance : TyBd Tryz.prog 74 [(0, 1), (1, 1)] [.slice none 0 0, .int .i64 0] := ⟨abuild_struct (z := [.slice none 0 0, .int .i64 0]) (ask_of Tryz.zeroValue74) (askU Tryz.underlying74) (placesOf_cons (ask_of Tryz.sizeOf25) (placesOf_cons (ask_of Tryz.sizeOf2) rfl)) rfl⟩
instance : TyZ Tryz.prog 75 1 false (.nilFunc) := ⟨ask_of Tryz.sizeOf75, ask_of Tryz.isAgg75, ask_of Tryz.zeroValue75⟩
instance : TyZ Tryz.prog 76 2 true (.agg #[.string { data := #[] }, .int .i64 0]) := ⟨ask_of Tryz.sizeOf76, ask_of Tryz.isAgg76, ask_of Tryz.zeroValue76⟩
instance : TyF Tryz.prog 76 0 0 1 false := ⟨⟨_, _, askU Tryz.underlying76, rfl, ask_of Tryz.sizeOf9, ask_of Tryz.isAgg9⟩, by decide⟩
instance : TyF Tryz.prog 76 1 1 1 false := ⟨⟨_, _, askU Tryz.underlying76, rfl, ask_of Tryz.sizeOf2, ask_of Tryz.isAgg2⟩, by decide⟩
instance : TyBd Tryz.prog 76 [(0, 1), (1, 1)] [.string { data := #[] }, .int .i64 0] := ⟨abuild_struct (z := [.string { data := #[] }, .int .i64 0]) (ask_of Tryz.zeroValue76) (askU Tryz.underlying76) (placesOf_cons (ask_of Tryz.sizeOf9) (placesOf_cons (ask_of Tryz.sizeOf2) rfl)) rfl⟩
instance : TyZ Tryz.prog 77 2 true (.agg #[.string { data := #[] }, .int .i64 0]) := ⟨ask_of Tryz.sizeOf77, ask_of Tryz.isAgg77, ask_of Tryz.zeroValue77⟩
instance : TyF Tryz.prog 77 0 0 1 false := ⟨⟨_, _, askU Tryz.underlying77, rfl, ask_of Tryz.sizeOf9, ask_of Tryz.isAgg9⟩, by decide⟩
instance : TyF Tryz.prog 77 1 1 1 false := ⟨⟨_, _, askU Tryz.underlying77, rfl, ask_of Tryz.sizeOf2, ask_of Tryz.isAgg2⟩, by decide⟩
instance : TyEq Tryz.prog 77 [(9, 0), (2, 1)] := ⟨⟨by kernel_rfl, by kernel_rfl⟩, _, Tryz.underlying77, rfl, by kernel_rfl⟩
instance : TyBd Tryz.prog 77 [(0, 1), (1, 1)] [.string { data := #[] }, .int .i64 0] := ⟨abuild_struct (z := [.string { data := #[] }, .int .i64 0]) (ask_of Tryz.zeroValue77) (askU Tryz.underlying77) (placesOf_cons (ask_of Tryz.sizeOf9) (placesOf_cons (ask_of Tryz.sizeOf2) rfl)) rfl⟩
instance : TyZ Tryz.prog 78 1 false (.nilFunc) := ⟨ask_of Tryz.sizeOf78, ask_of Tryz.isAgg78, ask_of Tryz.zeroValue78⟩
instance : TyZ Tryz.prog 79 1 false (.nilFunc) := ⟨ask_of Tryz.sizeOf79, ask_of Tryz.isAgg79, ask_of Tryz.zeroValue79⟩
instance : TyZ Tryz.prog 80 1 false (.nilFunc) := ⟨ask_of Tryz.sizeOf80, ask_of Tryz.isAgg80, ask_of Tryz.zeroValue80⟩
instance : TyZ Tryz.prog 81 1 false (.nilFunc) := ⟨ask_of Tryz.sizeOf81, ask_of Tryz.isAgg81, ask_of Tryz.zeroValue81⟩
instance : TyZ Tryz.prog 82 1 false (.nilFunc) := ⟨ask_of Tryz.sizeOf82, ask_of Tryz.isAgg82, ask_of Tryz.zeroValue82⟩
instance : TyZ Tryz.prog 83 1 false (.nilFunc) := ⟨ask_of Tryz.sizeOf83, ask_of Tryz.isAgg83, ask_of Tryz.zeroValue83⟩
instance : TyZ Tryz.prog 84 1 false (.nilFunc) := ⟨ask_of Tryz.sizeOf84, ask_of Tryz.isAgg84, ask_of Tryz.zeroValue84⟩
instance : TyZ Tryz.prog 85 1 false (.nilFunc) := ⟨ask_of Tryz.sizeOf85, ask_of Tryz.isAgg85, ask_of Tryz.zeroValue85⟩
instance : TyZ Tryz.prog 86 1 false (.nilFunc) := ⟨ask_of Tryz.sizeOf86, ask_of Tryz.isAgg86, ask_of Tryz.zeroValue86⟩
instance : TyZ Tryz.prog 87 1 false (.nilFunc) := ⟨ask_of Tryz.sizeOf87, ask_of Tryz.isAgg87, ask_of Tryz.zeroValue87⟩
instance : TyZ Tryz.prog 88 1 false (.nilFunc) := ⟨ask_of Tryz.sizeOf88, ask_of Tryz.isAgg88, ask_of Tryz.zeroValue88⟩
instance : TyZ Tryz.prog 89 1 false (.nilFunc) := ⟨ask_of Tryz.sizeOf89, ask_of Tryz.isAgg89, ask_of Tryz.zeroValue89⟩
instance : TyZ Tryz.prog 90 1 false (.nilFunc) := ⟨ask_of Tryz.sizeOf90, ask_of Tryz.isAgg90, ask_of Tryz.zeroValue90⟩
instance : TyZ Tryz.prog 91 1 false (.nilFunc) := ⟨ask_of Tryz.sizeOf91, ask_of Tryz.isAgg91, ask_of Tryz.zeroValue91⟩
instance : TyZ Tryz.prog 92 1 false (.nilFunc) := ⟨ask_of Tryz.sizeOf92, ask_of Tryz.isAgg92, ask_of Tryz.zeroValue92⟩
instance : TyZ Tryz.prog 93 1 false (.nilFunc) := ⟨ask_of Tryz.sizeOf93, ask_of Tryz.isAgg93, ask_of Tryz.zeroValue93⟩
instance : TyZ Tryz.prog 94 1 false (.nilFunc) := ⟨ask_of Tryz.sizeOf94, ask_of Tryz.isAgg94, ask_of Tryz.zeroValue94⟩
instance : TyZ Tryz.prog 95 1 false (.nilFunc) := ⟨ask_of Tryz.sizeOf95, ask_of Tryz.isAgg95, ask_of Tryz.zeroValue95⟩
instance : TyZ Tryz.prog 96 1 false (.slice none 0 0) := ⟨ask_of Tryz.sizeOf96, ask_of Tryz.isAgg96, ask_of Tryz.zeroValue96⟩
instance : TySl Tryz.prog 96 25 1 [(.slice none 0 0)] := ⟨Tryz.underlying96, ask_of Tryz.sizeOf25, ⟨_, ask_of Tryz.zeroValue25, rfl⟩, rfl, rfl, by rw [xN]; decide⟩
instance : TyZ Tryz.prog 97 1 false (.nilFunc) := ⟨ask_of Tryz.sizeOf97, ask_of Tryz.isAgg97, ask_of Tryz.zeroValue97⟩
instance : TyZ Tryz.prog 98 1 false (.nilFunc) := ⟨ask_of Tryz.sizeOf98, ask_of Tryz.isAgg98, ask_of Tryz.zeroValue98⟩
instance : TyZ Tryz.prog 99 1 false (.nilFunc) := ⟨ask_of Tryz.sizeOf99, ask_of Tryz.isAgg99, ask_of Tryz.zeroValue99⟩
instance : TyZ Tryz.prog 100 1 false (.nilFunc) := ⟨ask_of Tryz.sizeOf100, ask_of Tryz.isAgg100, ask_of Tryz.zeroValue100⟩
instance : TyZ Tryz.prog 101 1 false (.nilFunc) := ⟨ask_of Tryz.sizeOf101, ask_of Tryz.isAgg101, ask_of Tryz.zeroValue101⟩
instance : TyZ Tryz.prog 102 1 false (.nilFunc) := ⟨ask_of Tryz.sizeOf102, ask_of Tryz.isAgg102, ask_of Tryz.zeroValue102⟩
instance : TyZ Tryz.prog 103 2 true (.agg #[.string { data := #[] }, .int .i64 0]) := ⟨ask_of Tryz.sizeOf103, ask_of Tryz.isAgg103, ask_of Tryz.zeroValue103⟩
instance : TyF Tryz.prog 103 0 0 1 false := ⟨⟨_, _, askU Tryz.underlying103, rfl, ask_of Tryz.sizeOf9, ask_of Tryz.isAgg9⟩, by decide⟩
instance : TyF Tryz.prog 103 1 1 1 false := ⟨⟨_, _, askU Tryz.underlying103, rfl, ask_of Tryz.sizeOf2, ask_of Tryz.isAgg2⟩, by decide⟩
instance : TyEq Tryz.prog 103 [(9, 0), (2, 1)] := ⟨⟨by kernel_rfl, by kernel_rfl⟩, _, Tryz.underlying103, rfl, by kernel_rfl⟩
instance : TyBd Tryz.prog 103 [(0, 1), (1, 1)] [.string { data := #[] }, .int .i64 0] := ⟨abuild_struct (z := [.string { data := #[] }, .int .i64 0]) (ask_of Tryz.zeroValue103) (askU Tryz.underlying103) (placesOf_cons (ask_of Tryz.sizeOf9) (placesOf_cons (ask_of Tryz.sizeOf2) rfl)) rfl⟩
instance : TyZ Tryz.prog 104 1 false (.nilFunc) := ⟨ask_of Tryz.sizeOf104, ask_of Tryz.isAgg104, ask_of Tryz.zeroValue104⟩
instance : TyZ Tryz.prog 105 2 true (.agg #[.slice none 0 0, .slice none 0 0]) := ⟨ask_of Tryz.sizeOf105, ask_of Tryz.isAgg105, ask_of Tryz.zeroValue105⟩
instance : TyF Tryz.prog 105 0 0 1 false := ⟨⟨_, _, askU Tryz.underlying105, rfl, ask_of Tryz.sizeOf25, ask_of Tryz.isAgg25⟩, by decide⟩
instance : TyF Tryz.prog 105 1 1 1 false := ⟨⟨_, _, askU Tryz.underlying105, rfl, ask_of Tryz.sizeOf25, ask_of Tryz.isAgg25⟩, by decide⟩
instance : TyBd Tryz.prog 105 [(0, 1), (1, 1)] [.slice none 0 0, .slice none 0 0] := ⟨abuild_struct (z := [.slice none 0 0, .slice none 0 0]) (ask_of Tryz.zeroValue105) (askU Tryz.underlying105) (placesOf_cons (ask_of Tryz.sizeOf25) (placesOf_cons (ask_of Tryz.sizeOf25) rfl)) rfl⟩
instance : TyZ Tryz.prog 106 2 true (.agg #[.slice none 0 0, .slice none 0 0]) := ⟨ask_of Tryz.sizeOf106, ask_of Tryz.isAgg106, ask_of Tryz.zeroValue106⟩
instance : TyF Tryz.prog 106 0 0 1 false := ⟨⟨_, _, askU Tryz.underlying106, rfl, ask_of Tryz.sizeOf25, ask_of Tryz.isAgg25⟩, by decide⟩
instance : TyF Tryz.prog 106 1 1 1 false := ⟨⟨_, _, askU Tryz.underlying106, rfl, ask_of Tryz.sizeOf25, ask_of Tryz.isAgg25⟩, by decide⟩
instance : TyBd Tryz.prog 106 [(0, 1), (1, 1)] [.slice none 0 0, .slice none 0 0] := ⟨abuild_struct (z := [.slice none 0 0, .slice none 0 0]) (ask_of Tryz.zeroValue106) (askU Tryz.underlying106) (placesOf_cons (ask_of Tryz.sizeOf25) (placesOf_cons (ask_of Tryz.sizeOf25) rfl)) rfl⟩
instance : TyZ Tryz.prog 107 1 false (.nilFunc) := ⟨ask_of Tryz.sizeOf107, ask_of Tryz.isAgg107, ask_of Tryz.zeroValue107⟩
instance : TyZ Tryz.prog 108 1 false (.nilFunc) := ⟨ask_of Tryz.sizeOf108, ask_of Tryz.isAgg108, ask_of Tryz.zeroValue108⟩
instance : TyZ Tryz.prog 109 1 false (.pointer none) := ⟨ask_of Tryz.sizeOf109, ask_of Tryz.isAgg109, ask_of Tryz.zeroValue109⟩
instance : TyP Tryz.prog 109 110 := ⟨Tryz.underlying109⟩
instance : TyZ Tryz.prog 110 2 true (.agg #[.slice none 0 0, .slice none 0 0]) := ⟨ask_of Tryz.sizeOf110, ask_of Tryz.isAgg110, ask_of Tryz.zeroValue110⟩
instance : TyF Tryz.prog 110 0 0 1 false := ⟨⟨_, _, askU Tryz.underlying110, rfl, ask_of Tryz.sizeOf25, ask_of Tryz.isAgg25⟩, by decide⟩
instance : TyF Tryz.prog 110 1 1 1 false := ⟨⟨_, _, askU Tryz.underlying110, rfl, ask_of Tryz.sizeOf25, ask_of Tryz.isAgg25⟩, by decide⟩
instance : TyBd Tryz.prog 110 [(0, 1), (1, 1)] [.slice none 0 0, .slice none 0 0] := ⟨abuild_struct (z := [.slice none 0 0, .slice none 0 0]) (ask_of Tryz.zeroValue110) (askU Tryz.underlying110) (placesOf_cons (ask_of Tryz.sizeOf25) (placesOf_cons (ask_of Tryz.sizeOf25) rfl)) rfl⟩
instance : TyZ Tryz.prog 111 1 false (.nilFunc) := ⟨ask_of Tryz.sizeOf111, ask_of Tryz.isAgg111, ask_of Tryz.zeroValue111⟩
instance : TyZ Tryz.prog 112 1 false (.nilFunc) := ⟨ask_of Tryz.sizeOf112, ask_of Tryz.isAgg112, ask_of Tryz.zeroValue112⟩
instance : TyZ Tryz.prog 113 1 false (.nilFunc) := ⟨ask_of Tryz.sizeOf113, ask_of Tryz.isAgg113, ask_of Tryz.zeroValue113⟩
instance : TyZ Tryz.prog 114 1 false (.nilFunc) := ⟨ask_of Tryz.sizeOf114, ask_of Tryz.isAgg114, ask_of Tryz.zeroValue114⟩
instance : TyZ Tryz.prog 115 1 false (.nilFunc) := ⟨ask_of Tryz.sizeOf115, ask_of Tryz.isAgg115, ask_of Tryz.zeroValue115⟩
instance : TyZ Tryz.prog 116 1 false (.nilFunc) := ⟨ask_of Tryz.sizeOf116, ask_of Tryz.isAgg116, ask_of Tryz.zeroValue116⟩
instance : TyZ Tryz.prog 117 1 false (.nilFunc) := ⟨ask_of Tryz.sizeOf117, ask_of Tryz.isAgg117, ask_of Tryz.zeroValue117⟩
instance : TyZ Tryz.prog 118 1 false (.nilFunc) := ⟨ask_of Tryz.sizeOf118, ask_of Tryz.isAgg118, ask_of Tryz.zeroValue118⟩
instance : TyZ Tryz.prog 119 1 false (.nilFunc) := ⟨ask_of Tryz.sizeOf119, ask_of Tryz.isAgg119, ask_of Tryz.zeroValue119⟩
instance : TyZ Tryz.prog 120 1 false (.nilFunc) := ⟨ask_of Tryz.sizeOf120, ask_of Tryz.isAgg120, ask_of Tryz.zeroValue120⟩
instance : TyZ Tryz.prog 121 1 false (.nilFunc) := ⟨ask_of Tryz.sizeOf121, ask_of Tryz.isAgg121, ask_of Tryz.zeroValue121⟩
instance : TyZ Tryz.prog 122 1 false (.nilFunc) := ⟨ask_of Tryz.sizeOf122, ask_of Tryz.isAgg122, ask_of Tryz.zeroValue122⟩
instance : TyZ Tryz.prog 123 1 false (.nilFunc) := ⟨ask_of Tryz.sizeOf123, ask_of Tryz.isAgg123, ask_of Tryz.zeroValue123⟩
instance : TyZ Tryz.prog 124 1 false (.nilFunc) := ⟨ask_of Tryz.sizeOf124, ask_of Tryz.isAgg124, ask_of Tryz.zeroValue124⟩
instance : TyZ Tryz.prog 125 1 false (.nilFunc) := ⟨ask_of Tryz.sizeOf125, ask_of Tryz.isAgg125, ask_of Tryz.zeroValue125⟩
instance : TyZ Tryz.prog 126 1 false (.nilFunc) := ⟨ask_of Tryz.sizeOf126, ask_of Tryz.isAgg126, ask_of Tryz.zeroValue126⟩
instance : TyZ Tryz.prog 127 1 false (.nilFunc) := ⟨ask_of Tryz.sizeOf127, ask_of Tryz.isAgg127, ask_of Tryz.zeroValue127⟩
instance : TyZ Tryz.prog 128 1 false (.nilFunc) := ⟨ask_of Tryz.sizeOf128, ask_of Tryz.isAgg128, ask_of Tryz.zeroValue128⟩
instance : TyZ Tryz.prog 129 1 false (.nilFunc) := ⟨ask_of Tryz.sizeOf129, ask_of Tryz.isAgg129, ask_of Tryz.zeroValue129⟩
instance : TyZ Tryz.prog 130 1 false (.slice none 0 0) := ⟨ask_of Tryz.sizeOf130, ask_of Tryz.isAgg130, ask_of Tryz.zeroValue130⟩
instance : TySl Tryz.prog 130 4 1 [(.bool false)] := ⟨Tryz.underlying130, ask_of Tryz.sizeOf4, ⟨_, ask_of Tryz.zeroValue4, rfl⟩, rfl, rfl, by rw [xN]; decide⟩
instance : TyZ Tryz.prog 131 1 false (.nilFunc) := ⟨ask_of Tryz.sizeOf131, ask_of Tryz.isAgg131, ask_of Tryz.zeroValue131⟩
instance : TyZ Tryz.prog 132 1 false (.nilFunc) := ⟨ask_of Tryz.sizeOf132, ask_of Tryz.isAgg132, ask_of Tryz.zeroValue132⟩
instance : TyZ Tryz.prog 133 1 false (.nilFunc) := ⟨ask_of Tryz.sizeOf133, ask_of Tryz.isAgg133, ask_of Tryz.zeroValue133⟩
instance : TyZ Tryz.prog 134 256 true (.agg Proofs.Tryz.zeroCells134) := ⟨ask_of Tryz.sizeOf134, ask_of Tryz.isAgg134, ask_of Tryz.zeroValue134⟩
instance : TyZ Tryz.prog 135 256 true (.agg Proofs.Tryz.zeroCells135) := ⟨ask_of Tryz.sizeOf135, ask_of Tryz.isAgg135, ask_of Tryz.zeroValue135⟩
instance : TyZ Tryz.prog 136 1 false (.tuple #[.agg (([.bool false, .bool false, .bool false, .bool false, .bool false, .bool false, .bool false, .bool false, .bool false, .bool false, .bool false, .bool false, .bool false, .bool false, .bool false, .bool false, .bool false, .bool false, .bool false, .bool false, .bool false, .bool false, .bool false, .bool false, .bool false, .bool false, .bool false, .bool false, .bool false, .bool false, .bool false, .bool false, .bool false, .bool false, .bool false, .bool false, .bool false, .bool false, .bool false, .bool false, .bool false, .bool false, .bool false, .bool false, .bool false, .bool false, .bool false, .bool false, .bool false, .bool false, .bool false, .bool false, .bool false, .bool false, .bool false, .bool false, .bool false, .bool false, .bool false, .bool false, .bool false, .bool false, .bool false, .bool false].append [.bool false, .bool false, .bool false, .bool false, .bool false, .bool false, .bool false, .bool false, .bool false, .bool false, .bool false, .bool false, .bool false, .bool false, .bool false, .bool false, .bool false, .bool false, .bool false, .bool false, .bool false, .bool false, .bool false, .bool false, .bool false, .bool false, .bool false, .bool false, .bool false, .bool false, .bool false, .bool false, .bool false, .bool false, .bool false, .bool false, .bool false, .bool false, .bool false, .bool false, .bool false, .bool false, .bool false, .bool false, .bool false, .bool false, .bool false, .bool false, .bool false, .bool false, .bool false, .bool false, .bool false, .bool false, .bool false, .bool false, .bool false, .bool false, .bool false, .bool false, .bool false, .bool false, .bool false, .bool false]).append ([.bool false, .bool false, .bool false, .bool false, .bool false, .bool false, .bool false, .bool false, .bool false, .bool false, .bool false, .bool false, .bool false, .bool false, .bool false, .bool false, .bool false, .bool false, .bool false, .bool false, .bool false, .bool false, .bool false, .bool false, .bool false, .bool false, .bool false, .bool false, .bool false, .bool false, .bool false, .bool false, .bool false, .bool false, .bool false, .bool false, .bool false, .bool false, .bool false, .bool false, .bool false, .bool false, .bool false, .bool false, .bool false, .bool false, .bool false, .bool false, .bool false, .bool false, .bool false, .bool false, .bool false, .bool false, .bool false, .bool false, .bool false, .bool false, .bool false, .bool false, .bool false, .bool false, .bool false, .bool false].append [.bool false, .bool false, .bool false, .bool false, .bool false, .bool false, .bool false, .bool false, .bool false, .bool false, .bool false, .bool false, .bool false, .bool false, .bool false, .bool false, .bool false, .bool false, .bool false, .bool false, .bool false, .bool false, .bool false, .bool false, .bool false, .bool false, .bool false, .bool false, .bool false, .bool false, .bool false, .bool false, .bool false, .bool false, .bool false, .bool false, .bool false, .bool false, .bool false, .bool false, .bool false, .bool false, .bool false, .bool false, .bool false, .bool false, .bool false, .bool false, .bool false, .bool false, .bool false, .bool false, .bool false, .bool false, .bool false, .bool false, .bool false, .bool false, .bool false, .bool false, .bool false, .bool false, .bool false, .bool false])).toArray, .bool false]) := ⟨ask_of Tryz.sizeOf136, ask_of Tryz.isAgg136, ask_of Tryz.zeroValue136⟩
instance : TyZ Tryz.prog 137 1 false (.nilFunc) := ⟨ask_of Tryz.sizeOf137, ask_of Tryz.isAgg137, ask_of Tryz.zeroValue137⟩
instance : TyZ Tryz.prog 138 1 false (.nilFunc) := ⟨ask_of Tryz.sizeOf138, ask_of Tryz.isAgg138, ask_of Tryz.zeroValue138⟩
instance : TyZ Tryz.prog 139 1 false (.pointer none) := ⟨ask_of Tryz.sizeOf139, ask_of Tryz.isAgg139, ask_of Tryz.zeroValue139⟩
instance : TyP Tryz.prog 139 135 := ⟨Tryz.underlying139⟩
instance : TyZ Tryz.prog 140 1 false (.nilFunc) := ⟨ask_of Tryz.sizeOf140, ask_of Tryz.isAgg140, ask_of Tryz.zeroValue140⟩
instance : TyZ Tryz.prog 141 1 false (.nilFunc) := ⟨ask_of Tryz.sizeOf141, ask_of Tryz.isAgg141, ask_of Tryz.zeroValue141⟩
instance : TyZ Tryz.prog 142 1 false (.nilFunc) := ⟨ask_of Tryz.sizeOf142, ask_of Tryz.isAgg142, ask_of Tryz.zeroValue142⟩
instance : TyZ Tryz.prog 143 1 false (.nilFunc) := ⟨ask_of Tryz.sizeOf143, ask_of Tryz.isAgg143, ask_of Tryz.zeroValue143⟩
instance : TyZ Tryz.prog 144 1 false (.pointer none) := ⟨ask_of Tryz.sizeOf144, ask_of Tryz.isAgg144, ask_of Tryz.zeroValue144⟩
instance : TyP Tryz.prog 144 147 := ⟨Tryz.underlying144⟩
instance : TyZ Tryz.prog 145 1 false (.map none) := ⟨ask_of Tryz.sizeOf145, ask_of Tryz.isAgg145, ask_of Tryz.zeroValue145⟩
instance : TyZ Tryz.prog 146 5 true (.agg #[.slice none 0 0, .slice none 0 0, .slice none 0 0, .slice none 0 0, .map none]) := ⟨ask_of Tryz.sizeOf146, ask_of Tryz.isAgg146, ask_of Tryz.zeroValue146⟩
instance : TyF Tryz.prog 146 0 0 1 true := ⟨⟨_, _, askU Tryz.underlying146, rfl, ask_of Tryz.sizeOf37, ask_of Tryz.isAgg37⟩, by decide⟩
instance : TyF Tryz.prog 146 1 1 1 false := ⟨⟨_, _, askU Tryz.underlying146, rfl, ask_of Tryz.sizeOf25, ask_of Tryz.isAgg25⟩, by decide⟩
instance : TyF Tryz.prog 146 2 2 1 false := ⟨⟨_, _, askU Tryz.underlying146, rfl, ask_of Tryz.sizeOf25, ask_of Tryz.isAgg25⟩, by decide⟩
instance : TyF Tryz.prog 146 3 3 1 false := ⟨⟨_, _, askU Tryz.underlying146, rfl, ask_of Tryz.sizeOf25, ask_of Tryz.isAgg25⟩, by decide⟩
instance : TyF Tryz.prog 146 4 4 1 false := ⟨⟨_, _, askU Tryz.underlying146, rfl, ask_of Tryz.sizeOf145, ask_of Tryz.isAgg145⟩, by decide⟩
instance : TyZ Tryz.prog 147 5 true (.agg #[.slice none 0 0, .slice none 0 0, .slice none 0 0, .slice none 0 0, .map none]) := ⟨ask_of Tryz.sizeOf147, ask_of Tryz.isAgg147, ask_of Tryz.zeroValue147⟩
instance : TyF Tryz.prog 147 0 0 1 true := ⟨⟨_, _, askU Tryz.underlying147, rfl, ask_of Tryz.sizeOf37, ask_of Tryz.isAgg37⟩, by decide⟩
instance : TyF Tryz.prog 147 1 1 1 false := ⟨⟨_, _, askU Tryz.underlying147, rfl, ask_of Tryz.sizeOf25, ask_of Tryz.isAgg25⟩, by decide⟩
instance : TyF Tryz.prog 147 2 2 1 false := ⟨⟨_, _, askU Tryz.underlying147, rfl, ask_of Tryz.sizeOf25, ask_of Tryz.isAgg25⟩, by decide⟩
instance : TyF Tryz.prog 147 3 3 1 false := ⟨⟨_, _, askU Tryz.underlying147, rfl, ask_of Tryz.sizeOf25, ask_of Tryz.isAgg25⟩, by decide⟩
instance : TyF Tryz.prog 147 4 4 1 false := ⟨⟨_, _, askU Tryz.underlying147, rfl, ask_of Tryz.sizeOf145, ask_of Tryz.isAgg145⟩, by decide⟩
instance : TyZ Tryz.prog 148 1 false (.nilFunc) := ⟨ask_of Tryz.sizeOf148, ask_of Tryz.isAgg148, ask_of Tryz.zeroValue148⟩
instance : TyZ Tryz.prog 149 1 false (.nilFunc) := ⟨ask_of Tryz.sizeOf149, ask_of Tryz.isAgg149, ask_of Tryz.zeroValue149⟩
instance : TyZ Tryz.prog 150 1 false (.nilFunc) := ⟨ask_of Tryz.sizeOf150, ask_of Tryz.isAgg150, ask_of Tryz.zeroValue150⟩
instance : TyZ Tryz.prog 151 1 false (.nilFunc) := ⟨ask_of Tryz.sizeOf151, ask_of Tryz.isAgg151, ask_of Tryz.zeroValue151⟩
instance : TyZ Tryz.prog 152 1 false (.tuple #[.int .i32 0, .int .i64 0]) := ⟨ask_of Tryz.sizeOf152, ask_of Tryz.isAgg152, ask_of Tryz.zeroValue152⟩
instance : TyZ Tryz.prog 153 1 false (.nilFunc) := ⟨ask_of Tryz.sizeOf153, ask_of Tryz.isAgg153, ask_of Tryz.zeroValue153⟩
instance : TyZ Tryz.prog 154 1 false (.nilFunc) := ⟨ask_of Tryz.sizeOf154, ask_of Tryz.isAgg154, ask_of Tryz.zeroValue154⟩
instance : TyZ Tryz.prog 155 1 false (.nilFunc) := ⟨ask_of Tryz.sizeOf155, ask_of Tryz.isAgg155, ask_of Tryz.zeroValue155⟩
instance : TyZ Tryz.prog 156 2 true (.agg #[.int .i64 0, .int .i64 0]) := ⟨ask_of Tryz.sizeOf156, ask_of Tryz.isAgg156, ask_of Tryz.zeroValue156⟩
instance : TyZ Tryz.prog 157 1 false (.tuple #[.bool false, .bool false]) := ⟨ask_of Tryz.sizeOf157, ask_of Tryz.isAgg157, ask_of Tryz.zeroValue157⟩
instance : TyZ Tryz.prog 158 1 false (.nilFunc) := ⟨ask_of Tryz.sizeOf158, ask_of Tryz.isAgg158, ask_of Tryz.zeroValue158⟩
instance : TyZ Tryz.prog 159 1 false (.nilFunc) := ⟨ask_of Tryz.sizeOf159, ask_of Tryz.isAgg159, ask_of Tryz.zeroValue159⟩
instance : TyZ Tryz.prog 160 1 false (.nilFunc) := ⟨ask_of Tryz.sizeOf160, ask_of Tryz.isAgg160, ask_of Tryz.zeroValue160⟩
instance : TyZ Tryz.prog 161 1 false (.nilFunc) := ⟨ask_of Tryz.sizeOf161, ask_of Tryz.isAgg161, ask_of Tryz.zeroValue161⟩
instance : TyZ Tryz.prog 162 1 false (.nilFunc) := ⟨ask_of Tryz.sizeOf162, ask_of Tryz.isAgg162, ask_of Tryz.zeroValue162⟩
instance : TyZ Tryz.prog 163 1 false (.int .u64 0) := ⟨ask_of Tryz.sizeOf163, ask_of Tryz.isAgg163, ask_of Tryz.zeroValue163⟩
instance : TyI Tryz.prog 163 .u64 := ⟨Tryz.underlying163⟩
instance : TyZ Tryz.prog 164 1 false (.nilFunc) := ⟨ask_of Tryz.sizeOf164, ask_of Tryz.isAgg164, ask_of Tryz.zeroValue164⟩
instance : TyZ Tryz.prog 165 1 false (.slice none 0 0) := ⟨ask_of Tryz.sizeOf165, ask_of Tryz.isAgg165, ask_of Tryz.zeroValue165⟩
instance : TySl Tryz.prog 165 3 1 [(.int .i64 0)] := ⟨Tryz.underlying165, ask_of Tryz.sizeOf3, ⟨_, ask_of Tryz.zeroValue3, rfl⟩, rfl, rfl, by rw [xN]; decide⟩
instance : TyZ Tryz.prog 166 1 false (.nilFunc) := ⟨ask_of Tryz.sizeOf166, ask_of Tryz.isAgg166, ask_of Tryz.zeroValue166⟩
instance : TyZ Tryz.prog 167 256 true (.agg Proofs.Tryz.zeroCells167) := ⟨ask_of Tryz.sizeOf167, ask_of Tryz.isAgg167, ask_of Tryz.zeroValue167⟩
instance : TyZ Tryz.prog 168 2 true (.agg #[.int .u8 0, .int .u8 0]) := ⟨ask_of Tryz.sizeOf168, ask_of Tryz.isAgg168, ask_of Tryz.zeroValue168⟩
instance : TyF Tryz.prog 168 0 0 1 false := ⟨⟨_, _, askU Tryz.underlying168, rfl, ask_of Tryz.sizeOf5, ask_of Tryz.isAgg5⟩, by decide⟩
instance : TyF Tryz.prog 168 1 1 1 false := ⟨⟨_, _, askU Tryz.underlying168, rfl, ask_of Tryz.sizeOf5, ask_of Tryz.isAgg5⟩, by decide⟩
instance : TyBd Tryz.prog 168 [(0, 1), (1, 1)] [.int .u8 0, .int .u8 0] := ⟨abuild_struct (z := [.int .u8 0, .int .u8 0]) (ask_of Tryz.zeroValue168) (askU Tryz.underlying168) (placesOf_cons (ask_of Tryz.sizeOf5) (placesOf_cons (ask_of Tryz.sizeOf5) rfl)) rfl⟩
instance : TyZ Tryz.prog 169 2 true (.agg #[.int .u8 0, .int .u8 0]) := ⟨ask_of Tryz.sizeOf169, ask_of Tryz.isAgg169, ask_of Tryz.zeroValue169⟩
instance : TyF Tryz.prog 169 0 0 1 false := ⟨⟨_, _, askU Tryz.underlying169, rfl, ask_of Tryz.sizeOf5, ask_of Tryz.isAgg5⟩, by decide⟩
instance : TyF Tryz.prog 169 1 1 1 false := ⟨⟨_, _, askU Tryz.underlying169, rfl, ask_of Tryz.sizeOf5, ask_of Tryz.isAgg5⟩, by decide⟩
instance : TyBd Tryz.prog 169 [(0, 1), (1, 1)] [.int .u8 0, .int .u8 0] := ⟨abuild_struct (z := [.int .u8 0, .int .u8 0]) (ask_of Tryz.zeroValue169) (askU Tryz.underlying169) (placesOf_cons (ask_of Tryz.sizeOf5) (placesOf_cons (ask_of Tryz.sizeOf5) rfl)) rfl⟩
instance : TyZ Tryz.prog 170 32 true (.agg #[.int .u8 0, .int .u8 0, .int .u8 0, .int .u8 0, .int .u8 0, .int .u8 0, .int .u8 0, .int .u8 0, .int .u8 0, .int .u8 0, .int .u8 0, .int .u8 0, .int .u8 0, .int .u8 0, .int .u8 0, .int .u8 0, .int .u8 0, .int .u8 0, .int .u8 0, .int .u8 0, .int .u8 0, .int .u8 0, .int .u8 0, .int .u8 0, .int .u8 0, .int .u8 0, .int .u8 0, .int .u8 0, .int .u8 0, .int .u8 0, .int .u8 0, .int .u8 0]) := ⟨ask_of Tryz.sizeOf170, ask_of Tryz.isAgg170, ask_of Tryz.zeroValue170⟩
instance : TyZ Tryz.prog 171 1 false (.nilFunc) := ⟨ask_of Tryz.sizeOf171, ask_of Tryz.isAgg171, ask_of Tryz.zeroValue171⟩
instance : TyZ Tryz.prog 172 1 false (.nilFunc) := ⟨ask_of Tryz.sizeOf172, ask_of Tryz.isAgg172, ask_of Tryz.zeroValue172⟩
instance : TyZ Tryz.prog 173 1 false (.nilFunc) := ⟨ask_of Tryz.sizeOf173, ask_of Tryz.isAgg173, ask_of Tryz.zeroValue173⟩
instance : TyZ Tryz.prog 174 1 false (.nilFunc) := ⟨ask_of Tryz.sizeOf174, ask_of Tryz.isAgg174, ask_of Tryz.zeroValue174⟩
instance : TyZ Tryz.prog 175 1 false (.nilFunc) := ⟨ask_of Tryz.sizeOf175, ask_of Tryz.isAgg175, ask_of Tryz.zeroValue175⟩
instance : TyZ Tryz.prog 176 1 false (.int .i64 0) := ⟨ask_of Tryz.sizeOf176, ask_of Tryz.isAgg176, ask_of Tryz.zeroValue176⟩
instance : TyI Tryz.prog 176 .i64 := ⟨Tryz.underlying176⟩
instance : TyZ Tryz.prog 177 1 false (.tuple #[.int .i64 0, .int .i64 0]) := ⟨ask_of Tryz.sizeOf177, ask_of Tryz.isAgg177, ask_of Tryz.zeroValue177⟩
instance : TyZ Tryz.prog 178 1 false (.nilFunc) := ⟨ask_of Tryz.sizeOf178, ask_of Tryz.isAgg178, ask_of Tryz.zeroValue178⟩
instance : TyZ Tryz.prog 179 1 false (.nilFunc) := ⟨ask_of Tryz.sizeOf179, ask_of Tryz.isAgg179, ask_of Tryz.zeroValue179⟩
instance : TyZ Tryz.prog 180 1 false (.nilFunc) := ⟨ask_of Tryz.sizeOf180, ask_of Tryz.isAgg180, ask_of Tryz.zeroValue180⟩
instance : TyZ Tryz.prog 181 1 false (.nilFunc) := ⟨ask_of Tryz.sizeOf181, ask_of Tryz.isAgg181, ask_of Tryz.zeroValue181⟩
instance : TyZ Tryz.prog 182 1 false (.tuple #[.int .i64 0, .bool false]) := ⟨ask_of Tryz.sizeOf182, ask_of Tryz.isAgg182, ask_of Tryz.zeroValue182⟩
instance : TyZ Tryz.prog 183 1 false (.nilFunc) := ⟨ask_of Tryz.sizeOf183, ask_of Tryz.isAgg183, ask_of Tryz.zeroValue183⟩
instance : TyZ Tryz.prog 184 1 false (.nilFunc) := ⟨ask_of Tryz.sizeOf184, ask_of Tryz.isAgg184, ask_of Tryz.zeroValue184⟩
instance : TyZ Tryz.prog 185 1 false (.int .u32 0) := ⟨ask_of Tryz.sizeOf185, ask_of Tryz.isAgg185, ask_of Tryz.zeroValue185⟩
instance : TyI Tryz.prog 185 .u32 := ⟨Tryz.underlying185⟩
instance : TyZ Tryz.prog 186 1 false (.nilFunc) := ⟨ask_of Tryz.sizeOf186, ask_of Tryz.isAgg186, ask_of Tryz.zeroValue186⟩
instance : TyZ Tryz.prog 187 1 false (.int .u64 0) := ⟨ask_of Tryz.sizeOf187, ask_of Tryz.isAgg187, ask_of Tryz.zeroValue187⟩
instance : TyI Tryz.prog 187 .u64 := ⟨Tryz.underlying187⟩
instance : TyZ Tryz.prog 188 1 false (.int .u64 0) := ⟨ask_of Tryz.sizeOf188, ask_of Tryz.isAgg188, ask_of Tryz.zeroValue188⟩
instance : TyI Tryz.prog 188 .u64 := ⟨Tryz.underlying188⟩
instance : TyZ Tryz.prog 189 1 false (.nilFunc) := ⟨ask_of Tryz.sizeOf189, ask_of Tryz.isAgg189, ask_of Tryz.zeroValue189⟩
instance : TyZ Tryz.prog 190 1 false (.nilFunc) := ⟨ask_of Tryz.sizeOf190, ask_of Tryz.isAgg190, ask_of Tryz.zeroValue190⟩
instance : TyZ Tryz.prog 191 1 false (.nilFunc) := ⟨ask_of Tryz.sizeOf191, ask_of Tryz.isAgg191, ask_of Tryz.zeroValue191⟩
instance : TyZ Tryz.prog 192 1 false (.pointer none) := ⟨ask_of Tryz.sizeOf192, ask_of Tryz.isAgg192, ask_of Tryz.zeroValue192⟩
instance : TyP Tryz.prog 192 3 := ⟨Tryz.underlying192⟩
instance : TyZ Tryz.prog 193 1 false (.nilFunc) := ⟨ask_of Tryz.sizeOf193, ask_of Tryz.isAgg193, ask_of Tryz.zeroValue193⟩
instance : TyZ Tryz.prog 194 1 false (.pointer none) := ⟨ask_of Tryz.sizeOf194, ask_of Tryz.isAgg194, ask_of Tryz.zeroValue194⟩
instance : TyP Tryz.prog 194 188 := ⟨Tryz.underlying194⟩
instance : TyZ Tryz.prog 195 1 false (.tuple #[.int .i64 0, .int .i64 0]) := ⟨ask_of Tryz.sizeOf195, ask_of Tryz.isAgg195, ask_of Tryz.zeroValue195⟩
instance : TyZ Tryz.prog 196 1 false (.nilFunc) := ⟨ask_of Tryz.sizeOf196, ask_of Tryz.isAgg196, ask_of Tryz.zeroValue196⟩
instance : TyZ Tryz.prog 197 1 false (.nilFunc) := ⟨ask_of Tryz.sizeOf197, ask_of Tryz.isAgg197, ask_of Tryz.zeroValue197⟩
instance : TyZ Tryz.prog 198 4 true (.agg #[.pointer none, .pointer none, .pointer none, .string { data := #[] }]) := ⟨ask_of Tryz.sizeOf198, ask_of Tryz.isAgg198, ask_of Tryz.zeroValue198⟩
instance : TyF Tryz.prog 198 0 0 1 false := ⟨⟨_, _, askU Tryz.underlying198, rfl, ask_of Tryz.sizeOf17, ask_of Tryz.isAgg17⟩, by decide⟩
instance : TyF Tryz.prog 198 1 1 1 false := ⟨⟨_, _, askU Tryz.underlying198, rfl, ask_of Tryz.sizeOf17, ask_of Tryz.isAgg17⟩, by decide⟩
instance : TyF Tryz.prog 198 2 2 1 false := ⟨⟨_, _, askU Tryz.underlying198, rfl, ask_of Tryz.sizeOf17, ask_of Tryz.isAgg17⟩, by decide⟩
instance : TyF Tryz.prog 198 3 3 1 false := ⟨⟨_, _, askU Tryz.underlying198, rfl, ask_of Tryz.sizeOf9, ask_of Tryz.isAgg9⟩, by decide⟩
instance : TyBd Tryz.prog 198 [(0, 1), (1, 1), (2, 1), (3, 1)] [.pointer none, .pointer none, .pointer none, .string { data := #[] }] := ⟨abuild_struct (z := [.pointer none, .pointer none, .pointer none, .string { data := #[] }]) (ask_of Tryz.zeroValue198) (askU Tryz.underlying198) (placesOf_cons (ask_of Tryz.sizeOf17) (placesOf_cons (ask_of Tryz.sizeOf17) (placesOf_cons (ask_of Tryz.sizeOf17) (placesOf_cons (ask_of Tryz.sizeOf9) rfl)))) rfl⟩
instance : TyZ Tryz.prog 199 4 true (.agg #[.pointer none, .pointer none, .pointer none, .string { data := #[] }]) := ⟨ask_of Tryz.sizeOf199, ask_of Tryz.isAgg199, ask_of Tryz.zeroValue199⟩
instance : TyF Tryz.prog 199 0 0 1 false := ⟨⟨_, _, askU Tryz.underlying199, rfl, ask_of Tryz.sizeOf17, ask_of Tryz.isAgg17⟩, by decide⟩
instance : TyF Tryz.prog 199 1 1 1 false := ⟨⟨_, _, askU Tryz.underlying199, rfl, ask_of Tryz.sizeOf17, ask_of Tryz.isAgg17⟩, by decide⟩
instance : TyF Tryz.prog 199 2 2 1 false := ⟨⟨_, _, askU Tryz.underlying199, rfl, ask_of Tryz.sizeOf17, ask_of Tryz.isAgg17⟩, by decide⟩
instance : TyF Tryz.prog 199 3 3 1 false := ⟨⟨_, _, askU Tryz.underlying199, rfl, ask_of Tryz.sizeOf9, ask_of Tryz.isAgg9⟩, by decide⟩
instance : TyBd Tryz.prog 199 [(0, 1), (1, 1), (2, 1), (3, 1)] [.pointer none, .pointer none, .pointer none, .string { data := #[] }] := ⟨abuild_struct (z := [.pointer none, .pointer none, .pointer none, .string { data := #[] }]) (ask_of Tryz.zeroValue199) (askU Tryz.underlying199) (placesOf_cons (ask_of Tryz.sizeOf17) (placesOf_cons (ask_of Tryz.sizeOf17) (placesOf_cons (ask_of Tryz.sizeOf17) (placesOf_cons (ask_of Tryz.sizeOf9) rfl)))) rfl⟩
instance : TyZ Tryz.prog 200 0 true (.agg #[]) := ⟨ask_of Tryz.sizeOf200, ask_of Tryz.isAgg200, ask_of Tryz.zeroValue200⟩
instance : TyZ Tryz.prog 201 0 true (.agg #[]) := ⟨ask_of Tryz.sizeOf201, ask_of Tryz.isAgg201, ask_of Tryz.zeroValue201⟩
instance : TyBd Tryz.prog 201 [(0, 0)] [] := ⟨abuild_struct (z := []) (ask_of Tryz.zeroValue201) (askU Tryz.underlying201) (placesOf_cons (ask_of Tryz.sizeOf200) rfl) rfl⟩
instance : TyZ Tryz.prog 202 0 true (.agg #[]) := ⟨ask_of Tryz.sizeOf202, ask_of Tryz.isAgg202, ask_of Tryz.zeroValue202⟩
instance : TyBd Tryz.prog 202 [(0, 0)] [] := ⟨abuild_struct (z := []) (ask_of Tryz.zeroValue202) (askU Tryz.underlying202) (placesOf_cons (ask_of Tryz.sizeOf200) rfl) rfl⟩
instance : TyZ Tryz.prog 203 1 false (.nilFunc) := ⟨ask_of Tryz.sizeOf203, ask_of Tryz.isAgg203, ask_of Tryz.zeroValue203⟩
instance : TyZ Tryz.prog 204 1 false (.int .u8 0) := ⟨ask_of Tryz.sizeOf204, ask_of Tryz.isAgg204, ask_of Tryz.zeroValue204⟩
instance : TyI Tryz.prog 204 .u8 := ⟨Tryz.underlying204⟩
instance : TyZ Tryz.prog 205 1 false (.int .u8 0) := ⟨ask_of Tryz.sizeOf205, ask_of Tryz.isAgg205, ask_of Tryz.zeroValue205⟩
instance : TyI Tryz.prog 205 .u8 := ⟨Tryz.underlying205⟩
instance : TyZ Tryz.prog 206 1 false (.nilFunc) := ⟨ask_of Tryz.sizeOf206, ask_of Tryz.isAgg206, ask_of Tryz.zeroValue206⟩
instance : TyZ Tryz.prog 207 1 false (.pointer none) := ⟨ask_of Tryz.sizeOf207, ask_of Tryz.isAgg207, ask_of Tryz.zeroValue207⟩
instance : TyP Tryz.prog 207 5 := ⟨Tryz.underlying207⟩
instance : TyZ Tryz.prog 208 1 false (.int .i32 0) := ⟨ask_of Tryz.sizeOf208, ask_of Tryz.isAgg208, ask_of Tryz.zeroValue208⟩
instance : TyI Tryz.prog 208 .i32 := ⟨Tryz.underlying208⟩
instance : TyZ Tryz.prog 209 1 false (.int .i32 0) := ⟨ask_of Tryz.sizeOf209, ask_of Tryz.isAgg209, ask_of Tryz.zeroValue209⟩
instance : TyI Tryz.prog 209 .i32 := ⟨Tryz.underlying209⟩
instance : TyZ Tryz.prog 210 11 true (.agg #[.int .u64 0, .int .u64 0, .int .u32 0, .int .u8 0, .int .u8 0, .int .u8 0, .int .u8 0, .nilFunc, .pointer none, .int .i32 0, .int .i32 0]) := ⟨ask_of Tryz.sizeOf210, ask_of Tryz.isAgg210, ask_of Tryz.zeroValue210⟩
instance : TyF Tryz.prog 210 0 0 1 false := ⟨⟨_, _, askU Tryz.underlying210, rfl, ask_of Tryz.sizeOf12, ask_of Tryz.isAgg12⟩, by decide⟩
instance : TyF Tryz.prog 210 1 1 1 false := ⟨⟨_, _, askU Tryz.underlying210, rfl, ask_of Tryz.sizeOf12, ask_of Tryz.isAgg12⟩, by decide⟩
instance : TyF Tryz.prog 210 2 2 1 false := ⟨⟨_, _, askU Tryz.underlying210, rfl, ask_of Tryz.sizeOf185, ask_of Tryz.isAgg185⟩, by decide⟩
instance : TyF Tryz.prog 210 3 3 1 false := ⟨⟨_, _, askU Tryz.underlying210, rfl, ask_of Tryz.sizeOf204, ask_of Tryz.isAgg204⟩, by decide⟩
instance : TyF Tryz.prog 210 4 4 1 false := ⟨⟨_, _, askU Tryz.underlying210, rfl, ask_of Tryz.sizeOf5, ask_of Tryz.isAgg5⟩, by decide⟩
instance : TyF Tryz.prog 210 5 5 1 false := ⟨⟨_, _, askU Tryz.underlying210, rfl, ask_of Tryz.sizeOf5, ask_of Tryz.isAgg5⟩, by decide⟩
instance : TyF Tryz.prog 210 6 6 1 false := ⟨⟨_, _, askU Tryz.underlying210, rfl, ask_of Tryz.sizeOf205, ask_of Tryz.isAgg205⟩, by decide⟩
instance : TyF Tryz.prog 210 7 7 1 false := ⟨⟨_, _, askU Tryz.underlying210, rfl, ask_of Tryz.sizeOf206, ask_of Tryz.isAgg206⟩, by decide⟩
instance : TyF Tryz.prog 210 8 8 1 false := ⟨⟨_, _, askU Tryz.underlying210, rfl, ask_of Tryz.sizeOf207, ask_of Tryz.isAgg207⟩, by decide⟩
instance : TyF Tryz.prog 210 9 9 1 false := ⟨⟨_, _, askU Tryz.underlying210, rfl, ask_of Tryz.sizeOf208, ask_of Tryz.isAgg208⟩, by decide⟩
instance : TyF Tryz.prog 210 10 10 1 false := ⟨⟨_, _, askU Tryz.underlying210, rfl, ask_of Tryz.sizeOf209, ask_of Tryz.isAgg209⟩, by decide⟩
instance : TyBd Tryz.prog 210 [(0, 1), (1, 1), (2, 1), (3, 1), (4, 1), (5, 1), (6, 1), (7, 1), (8, 1), (9, 1), (10, 1)] [.int .u64 0, .int .u64 0, .int .u32 0, .int .u8 0, .int .u8 0, .int .u8 0, .int .u8 0, .nilFunc, .pointer none, .int .i32 0, .int .i32 0] := ⟨abuild_struct (z := [.int .u64 0, .int .u64 0, .int .u32 0, .int .u8 0, .int .u8 0, .int .u8 0, .int .u8 0, .nilFunc, .pointer none, .int .i32 0, .int .i32 0]) (ask_of Tryz.zeroValue210) (askU Tryz.underlying210) (placesOf_cons (ask_of Tryz.sizeOf12) (placesOf_cons (ask_of Tryz.sizeOf12) (placesOf_cons (ask_of Tryz.sizeOf185) (placesOf_cons (ask_of Tryz.sizeOf204) (placesOf_cons (ask_of Tryz.sizeOf5) (placesOf_cons (ask_of Tryz.sizeOf5) (placesOf_cons (ask_of Tryz.sizeOf205) (placesOf_cons (ask_of Tryz.sizeOf206) (placesOf_cons (ask_of Tryz.sizeOf207) (placesOf_cons (ask_of Tryz.sizeOf208) (placesOf_cons (ask_of Tryz.sizeOf209) rfl))))))))))) rfl⟩
instance : TyZ Tryz.prog 211 11 true (.agg #[.int .u64 0, .int .u64 0, .int .u32 0, .int .u8 0, .int .u8 0, .int .u8 0, .int .u8 0, .nilFunc, .pointer none, .int .i32 0, .int .i32 0]) := ⟨ask_of Tryz.sizeOf211, ask_of Tryz.isAgg211, ask_of Tryz.zeroValue211⟩
instance : TyF Tryz.prog 211 0 0 1 false := ⟨⟨_, _, askU Tryz.underlying211, rfl, ask_of Tryz.sizeOf12, ask_of Tryz.isAgg12⟩, by decide⟩
instance : TyF Tryz.prog 211 1 1 1 false := ⟨⟨_, _, askU Tryz.underlying211, rfl, ask_of Tryz.sizeOf12, ask_of Tryz.isAgg12⟩, by decide⟩
instance : TyF Tryz.prog 211 2 2 1 false := ⟨⟨_, _, askU Tryz.underlying211, rfl, ask_of Tryz.sizeOf185, ask_of Tryz.isAgg185⟩, by decide⟩
instance : TyF Tryz.prog 211 3 3 1 false := ⟨⟨_, _, askU Tryz.underlying211, rfl, ask_of Tryz.sizeOf204, ask_of Tryz.isAgg204⟩, by decide⟩
instance : TyF Tryz.prog 211 4 4 1 false := ⟨⟨_, _, askU Tryz.underlying211, rfl, ask_of Tryz.sizeOf5, ask_of Tryz.isAgg5⟩, by decide⟩
instance : TyF Tryz.prog 211 5 5 1 false := ⟨⟨_, _, askU Tryz.underlying211, rfl, ask_of Tryz.sizeOf5, ask_of Tryz.isAgg5⟩, by decide⟩
instance : TyF Tryz.prog 211 6 6 1 false := ⟨⟨_, _, askU Tryz.underlying211, rfl, ask_of Tryz.sizeOf205, ask_of Tryz.isAgg205⟩, by decide⟩
instance : TyF Tryz.prog 211 7 7 1 false := ⟨⟨_, _, askU Tryz.underlying211, rfl, ask_of Tryz.sizeOf206, ask_of Tryz.isAgg206⟩, by decide⟩
instance : TyF Tryz.prog 211 8 8 1 false := ⟨⟨_, _, askU Tryz.underlying211, rfl, ask_of Tryz.sizeOf207, ask_of Tryz.isAgg207⟩, by decide⟩
instance : TyF Tryz.prog 211 9 9 1 false := ⟨⟨_, _, askU Tryz.underlying211, rfl, ask_of Tryz.sizeOf208, ask_of Tryz.isAgg208⟩, by decide⟩
instance : TyF Tryz.prog 211 10 10 1 false := ⟨⟨_, _, askU Tryz.underlying211, rfl, ask_of Tryz.sizeOf209, ask_of Tryz.isAgg209⟩, by decide⟩
instance : TyBd Tryz.prog 211 [(0, 1), (1, 1), (2, 1), (3, 1), (4, 1), (5, 1), (6, 1), (7, 1), (8, 1), (9, 1), (10, 1)] [.int .u64 0, .int .u64 0, .int .u32 0, .int .u8 0, .int .u8 0, .int .u8 0, .int .u8 0, .nilFunc, .pointer none, .int .i32 0, .int .i32 0] := ⟨abuild_struct (z := [.int .u64 0, .int .u64 0, .int .u32 0, .int .u8 0, .int .u8 0, .int .u8 0, .int .u8 0, .nilFunc, .pointer none, .int .i32 0, .int .i32 0]) (ask_of Tryz.zeroValue211) (askU Tryz.underlying211) (placesOf_cons (ask_of Tryz.sizeOf12) (placesOf_cons (ask_of Tryz.sizeOf12) (placesOf_cons (ask_of Tryz.sizeOf185) (placesOf_cons (ask_of Tryz.sizeOf204) (placesOf_cons (ask_of Tryz.sizeOf5) (placesOf_cons (ask_of Tryz.sizeOf5) (placesOf_cons (ask_of Tryz.sizeOf205) (placesOf_cons (ask_of Tryz.sizeOf206) (placesOf_cons (ask_of Tryz.sizeOf207) (placesOf_cons (ask_of Tryz.sizeOf208) (placesOf_cons (ask_of Tryz.sizeOf209) rfl))))))))))) rfl⟩
instance : TyZ Tryz.prog 212 1 false (.pointer none) := ⟨ask_of Tryz.sizeOf212, ask_of Tryz.isAgg212, ask_of Tryz.zeroValue212⟩
end Go.Proofs.YtliijoclogakdaaGreatDoor
