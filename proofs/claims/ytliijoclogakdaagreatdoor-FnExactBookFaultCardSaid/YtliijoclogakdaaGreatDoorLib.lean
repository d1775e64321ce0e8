/- Functions of Go's library, by the kit's contracts. -/
import Derived.Test.YtliijoclogakdaaGreatDoorFacts
import Derived.Test.YtliijoclogakdaaGreatDoorShelf
import Derived.Test.YtliijoclogakdaaGreatDoorSc9
set_option linter.unusedVariables false
set_option maxRecDepth 100000
namespace Go.Proofs.YtliijoclogakdaaGreatDoor
open Go Go.SC Go.Proofs Go.Shelf Go.RowKit
def W77 : Trans := fun args H Bd K => ∃ (s cut : ByteArray), args = [.string s, .string cut] ∧ ((s.size ≤ 281474976710656 ∧ cut.size < 4294967281 ∧ ∀ (j : Nat) b, cut.data.toList[j]? = some b → b.toNat < 128) ∧ K (.string (trimB s cut)) H Bd)
@[go_sem ↓] theorem W77_eq (s cut : ByteArray) (H : AH) (Bd : Nat) (K : Value → AH → Nat → Prop) : W77 [.string s, .string cut] H Bd K = ((s.size ≤ 281474976710656 ∧ cut.size < 4294967281 ∧ ∀ (j : Nat) b, cut.data.toList[j]? = some b → b.toNat < 128) ∧ K (.string (trimB s cut)) H Bd) := by
  refine propext ⟨fun h => ?_, fun h => ⟨_, _, rfl, h⟩⟩
  obtain ⟨s', cut', e, h⟩ := h
  simp only [List.cons.injEq, Value.string.injEq, and_true] at e
  obtain ⟨rfl, rfl⟩ := e
  exact h
theorem W77_ok : OK 77 W77 := by
  rintro args H Bd K ⟨s, cut, rfl, ⟨h1, h2, h3⟩, hK⟩
  refine SCalls.lib Tryz.call77 _ (fun A ι vs w hr hs => ?_) hK
  obtain ⟨v, u, rfl, hv, hu⟩ := hs.two
  obtain rfl := hv.str
  obtain rfl := hu.str
  exact (Any.strings_Trim_ascii Tryz.lays160 (fun w => (Tryz.zeroValue135 w).trans (congrArg (fun c => Result.ok (Value.agg c) w) (by kernel_rfl))) (by kernel_rfl) s cut w (by omega) h2 h3).mono fun e w' ⟨he, hw⟩ => ⟨_, he, .string _, hw⟩

def W125 : Trans := SortT
@[go_sem ↓] theorem W125_eq (n l c : Nat) (H : AH) (Bd : Nat) (K : Value → AH → Nat → Prop) : W125 [.slice (some ⟨n, 0, some 1⟩) l c] H Bd K = (Yld (H n) fun b => Yld (intsOf b.cells) fun zs => (b.own = true ∧ l = zs.length ∧ zs.length ≤ 1000000) ∧ K undef (upd H n (some ⟨flat (sortI zs), true⟩)) Bd) := SortT_eq n l c H Bd K
theorem W125_ok : OK 125 W125 := sort_ok Tryz.call125 (fun blk off cap zs w hH hb hs => AnyM.slices_Sort_int Tryz.laysM5 blk off cap zs w hH hb hs) (fun p cap w => AnyM.slices_Sort_int_none Tryz.laysM5 p cap w)

def W126 : Trans := CompT
@[go_sem ↓] theorem W126_eq (n l c : Nat) (H : AH) (Bd : Nat) (K : Value → AH → Nat → Prop) : W126 [.slice (some ⟨n, 0, some 1⟩) l c] H Bd K = (Yld (H n) fun b => Yld (intsOf b.cells) fun zs => (b.own = true ∧ l = zs.length ∧ zs.length ≤ 1000000) ∧ K (.slice (some ⟨n, 0, some 1⟩) (Lib.compact zs).length c) (upd H n (some ⟨flat (Lib.compact zs ++ List.replicate (zs.length - (Lib.compact zs).length) 0), true⟩)) Bd) := CompT_eq n l c H Bd K
theorem W126_ok : OK 126 W126 := comp_ok Tryz.call126 (fun blk off cap zs w hH hs hc => AnyG.slices_Compact_int Tryz.laysN43 blk off cap zs w hH hs hc) (fun p cap w => AnyG.slices_Compact_int_empty Tryz.laysN43 p cap w)

def W61 : Trans := fun args H Bd K => ∃ (xs ys : List UInt8), args = [lst xs, lst ys] ∧ K (.int .i64 (Lib.compareBytes xs ys)) H Bd
@[go_sem ↓] theorem W61_eq (xs ys : List UInt8) (H : AH) (Bd : Nat) (K : Value → AH → Nat → Prop) : W61 [lst xs, lst ys] H Bd K = K (.int .i64 (Lib.compareBytes xs ys)) H Bd := by
  refine propext ⟨fun h => ?_, fun h => ⟨_, _, rfl, h⟩⟩
  obtain ⟨xs', ys', e, h⟩ := h
  simp only [List.cons.injEq, lst_inj, and_true] at e
  obtain ⟨rfl, rfl⟩ := e
  exact h
set_option maxHeartbeats 1000000 in
theorem W61_calls {ι : SC.Ren} {w : World} {xs ys : List UInt8} {v u : Value} (hv : VR ι w (lst xs) v) (hu : VR ι w (lst ys) u) : Calls Tryz.prog 61 #[v, u] w fun e w' => e = .returned (.int .i64 (Lib.compareBytes xs ys)) ∧ w' = w := by
  go_enter Tryz.func61, Tryz.ntmps61
  go_wp2
  rw [run_callFunc_extern Tryz.func98 (by kernel_rfl) (by kernel_rfl) (by kernel_rfl) (e := Extern.BytealgCompare.compare) (by kernel_rfl), run_cmp hv hu]
  simp only [Result.andThen]
  rw [Oper.upon_value]
  go_wp2
  go_ret
  exact ⟨rfl, rfl⟩
theorem W61_ok : OK 61 W61 := by
  rintro args H Bd K ⟨xs, ys, rfl, hK⟩
  refine SCalls.lib Tryz.call61 _ (fun A ι vs w hr hs => ?_) hK
  obtain ⟨v, u, rfl, hv, hu⟩ := hs.two
  exact (W61_calls hv hu).mono fun e w' ⟨he, hw⟩ => ⟨_, he, .int _ _, hw ▸ Below.refl _ _⟩

instance : TyBd Tryz.prog 147 [(0, 1), (1, 1), (2, 1), (3, 1), (4, 1)] [.slice none 0 0, .slice none 0 0, .slice none 0 0, .slice none 0 0, unk] := ⟨abuild_structU (z := [.slice none 0 0, .slice none 0 0, .slice none 0 0, .slice none 0 0, .map none]) (ask_of Tryz.zeroValue147) (askU Tryz.underlying147) (placesOf_cons (ask_of Tryz.sizeOf37) (placesOf_cons (ask_of Tryz.sizeOf25) (placesOf_cons (ask_of Tryz.sizeOf25) (placesOf_cons (ask_of Tryz.sizeOf25) (placesOf_cons (ask_of Tryz.sizeOf145) rfl)))))⟩

instance : TyM Tryz.prog 145 := ⟨by kernel_rfl⟩

instance : TyAr Tryz.prog 156 1 [.int .i64 0, .int .i64 0] := ⟨abuild_array (n := 2) (e := 3) (by kernel_rfl) (by kernel_rfl) (by kernel_rfl) rfl⟩
end Go.Proofs.YtliijoclogakdaaGreatDoor
