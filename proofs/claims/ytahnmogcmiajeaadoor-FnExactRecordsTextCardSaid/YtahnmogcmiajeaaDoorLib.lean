/- Functions of Go's library, by the kit's contracts. -/
import Derived.Test.YtahnmogcmiajeaaDoorFacts
import Derived.Test.YtahnmogcmiajeaaDoorShelf
import Derived.Test.YtahnmogcmiajeaaDoorScZ
set_option linter.unusedVariables false
set_option maxRecDepth 100000
namespace Go.Proofs.YtahnmogcmiajeaaDoor
open Go Go.SC Go.Proofs Go.Shelf Go.RowKit
def W26 : Trans := fun args H Bd K => ∃ (xs : List ByteArray) (sep : ByteArray), args = [lst xs, .string sep] ∧ ((xs.length ≤ 140737488355328 ∧ (joinB xs sep).size ≤ 140737488355328) ∧ K (.string (joinB xs sep)) H Bd)
@[go_sem ↓] theorem W26_eq (xs : List ByteArray) (sep : ByteArray) (H : AH) (Bd : Nat) (K : Value → AH → Nat → Prop) : W26 [lst xs, .string sep] H Bd K = ((xs.length ≤ 140737488355328 ∧ (joinB xs sep).size ≤ 140737488355328) ∧ K (.string (joinB xs sep)) H Bd) := by
  refine propext ⟨fun h => ?_, fun h => ⟨_, _, rfl, h⟩⟩
  obtain ⟨xs', sep', e, h⟩ := h
  simp only [List.cons.injEq, Value.string.injEq, lst_inj, and_true] at e
  obtain ⟨rfl, rfl⟩ := e
  exact h
theorem W26_ok : OK 26 W26 := by
  rintro args H Bd K ⟨xs, sep, rfl, ⟨h1, h2⟩, hK⟩
  refine SCalls.lib Tryd.call26 _ (fun A ι vs w hr hs => ?_) hK
  obtain ⟨v, u, rfl, hv, hu⟩ := hs.two
  obtain rfl := hu.str
  rcases vr_strs hv with ⟨rfl, A', c, rfl⟩ | ⟨B, base, c, rfl, hc, hB, hcells⟩
  · exact (Any.strings_Join_none Tryd.lays156 Tryd.Builder_Extra_156 A' c sep w).mono fun e w' ⟨he, hw⟩ => ⟨_, he, .string _, hw ▸ Below.refl _ _⟩
  · exact (Any.strings_Join Tryd.lays156 Tryd.Builder_Extra_156 B base c xs sep w hcells hB h1 hc h2).mono fun e w' ⟨he, hw⟩ => ⟨_, he, .string _, hw⟩

def W54 : Trans := fun args H Bd K => ∃ (s cut : ByteArray), args = [.string s, .string cut] ∧ ((s.size ≤ 281474976710656 ∧ cut.size < 4294967281 ∧ ∀ (j : Nat) b, cut.data.toList[j]? = some b → b.toNat < 128) ∧ K (.string (trimB s cut)) H Bd)
@[go_sem ↓] theorem W54_eq (s cut : ByteArray) (H : AH) (Bd : Nat) (K : Value → AH → Nat → Prop) : W54 [.string s, .string cut] H Bd K = ((s.size ≤ 281474976710656 ∧ cut.size < 4294967281 ∧ ∀ (j : Nat) b, cut.data.toList[j]? = some b → b.toNat < 128) ∧ K (.string (trimB s cut)) H Bd) := by
  refine propext ⟨fun h => ?_, fun h => ⟨_, _, rfl, h⟩⟩
  obtain ⟨s', cut', e, h⟩ := h
  simp only [List.cons.injEq, Value.string.injEq, and_true] at e
  obtain ⟨rfl, rfl⟩ := e
  exact h
theorem W54_ok : OK 54 W54 := by
  rintro args H Bd K ⟨s, cut, rfl, ⟨h1, h2, h3⟩, hK⟩
  refine SCalls.lib Tryd.call54 _ (fun A ι vs w hr hs => ?_) hK
  obtain ⟨v, u, rfl, hv, hu⟩ := hs.two
  obtain rfl := hv.str
  obtain rfl := hu.str
  exact (Any.strings_Trim_ascii Tryd.lays160 (fun w => (Tryd.zeroValue101 w).trans (congrArg (fun c => Result.ok (Value.agg c) w) (by kernel_rfl))) (by kernel_rfl) s cut w (by omega) h2 h3).mono fun e w' ⟨he, hw⟩ => ⟨_, he, .string _, hw⟩

/-- The table of the powers of ten, in its block. -/
abbrev GP : Nat := 0
theorem gGP : Tryd.prog.globalNamed "internal/strconv.uint64pow10" = some GP := by kernel_rfl

def PT (H : AH) : Prop := H GP = some ⟨Lib.pow10Tab.map (Value.int .u64), false⟩
@[go_sem] theorem PT_upd {H : AH} {n : Nat} {b : Option Blk} (h : n ≠ GP) : PT (upd H n b) = PT H := by unfold PT; rw [upd_other H b (Ne.symm h)]
def W47 : Trans := fun args H Bd K => ∃ (n : Int), args = [.int .i64 n, .int .i64 10] ∧ ((-9223372036854775808 ≤ n ∧ n ≤ 9223372036854775807 ∧ PT H) ∧ K (.string (itoaB n)) H Bd)
@[go_sem ↓] theorem W47_eq (n : Int) (H : AH) (Bd : Nat) (K : Value → AH → Nat → Prop) : W47 [.int .i64 n, .int .i64 10] H Bd K = ((-9223372036854775808 ≤ n ∧ n ≤ 9223372036854775807 ∧ PT H) ∧ K (.string (itoaB n)) H Bd) := by
  refine propext ⟨fun h => ?_, fun h => ⟨_, rfl, h⟩⟩
  obtain ⟨n', e, h⟩ := h
  simp only [List.cons.injEq, Value.int.injEq, true_and, and_true] at e
  obtain rfl := e
  exact h
theorem W47_ok : OK 47 W47 := by
  rintro args H Bd K ⟨n, rfl, ⟨h1, h2, h3⟩, hK⟩
  refine SCalls.lib Tryd.call47 _ (fun A ι vs w hr hs => ?_) hK
  obtain ⟨v, u, rfl, hv, hu⟩ := hs.two
  obtain rfl := hv.num
  obtain rfl := hu.num
  exact (Any.strconv_FormatInt_10 Tryd.laysM173 n h1 h2 w (hr.tab gGP h3)).mono fun e w' ⟨he, k, os, hw⟩ => ⟨_, he, .string _, hw ▸ below_grow k os⟩
end Go.Proofs.YtahnmogcmiajeaaDoor
