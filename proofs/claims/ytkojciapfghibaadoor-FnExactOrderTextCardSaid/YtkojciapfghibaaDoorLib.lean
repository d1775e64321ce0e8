/- Functions of Go's library, by the kit's contracts. -/
import Derived.Test.YtkojciapfghibaaDoorFacts
import Derived.Test.YtkojciapfghibaaDoorShelf
import Derived.Test.YtkojciapfghibaaDoorScU
set_option linter.unusedVariables false
set_option maxRecDepth 100000
namespace Go.Proofs.YtkojciapfghibaaDoor
open Go Go.SC Go.Proofs Go.Shelf Go.RowKit
def W28 : Trans := fun args H Bd K => ∃ (xs : List ByteArray) (sep : ByteArray), args = [lst xs, .string sep] ∧ ((xs.length ≤ 140737488355328 ∧ (joinB xs sep).size ≤ 140737488355328) ∧ K (.string (joinB xs sep)) H Bd)
@[go_sem ↓] theorem W28_eq (xs : List ByteArray) (sep : ByteArray) (H : AH) (Bd : Nat) (K : Value → AH → Nat → Prop) : W28 [lst xs, .string sep] H Bd K = ((xs.length ≤ 140737488355328 ∧ (joinB xs sep).size ≤ 140737488355328) ∧ K (.string (joinB xs sep)) H Bd) := by
  refine propext ⟨fun h => ?_, fun h => ⟨_, _, rfl, h⟩⟩
  obtain ⟨xs', sep', e, h⟩ := h
  simp only [List.cons.injEq, Value.string.injEq, lst_inj, and_true] at e
  obtain ⟨rfl, rfl⟩ := e
  exact h
theorem W28_ok : OK 28 W28 := by
  rintro args H Bd K ⟨xs, sep, rfl, ⟨h1, h2⟩, hK⟩
  refine SCalls.lib Tryd.call28 _ (fun A ι vs w hr hs => ?_) hK
  obtain ⟨v, u, rfl, hv, hu⟩ := hs.two
  obtain rfl := hu.str
  rcases vr_strs hv with ⟨rfl, A', c, rfl⟩ | ⟨B, base, c, rfl, hc, hB, hcells⟩
  · exact (Any.strings_Join_none Tryd.lays156 Tryd.Builder_Extra_156 A' c sep w).mono fun e w' ⟨he, hw⟩ => ⟨_, he, .string _, hw ▸ Below.refl _ _⟩
  · exact (Any.strings_Join Tryd.lays156 Tryd.Builder_Extra_156 B base c xs sep w hcells hB h1 hc h2).mono fun e w' ⟨he, hw⟩ => ⟨_, he, .string _, hw⟩

def W65 : Trans := fun args H Bd K => ∃ (s cut : ByteArray), args = [.string s, .string cut] ∧ ((s.size ≤ 281474976710656 ∧ cut.size < 4294967281 ∧ ∀ (j : Nat) b, cut.data.toList[j]? = some b → b.toNat < 128) ∧ K (.string (trimB s cut)) H Bd)
@[go_sem ↓] theorem W65_eq (s cut : ByteArray) (H : AH) (Bd : Nat) (K : Value → AH → Nat → Prop) : W65 [.string s, .string cut] H Bd K = ((s.size ≤ 281474976710656 ∧ cut.size < 4294967281 ∧ ∀ (j : Nat) b, cut.data.toList[j]? = some b → b.toNat < 128) ∧ K (.string (trimB s cut)) H Bd) := by
  refine propext ⟨fun h => ?_, fun h => ⟨_, _, rfl, h⟩⟩
  obtain ⟨s', cut', e, h⟩ := h
  simp only [List.cons.injEq, Value.string.injEq, and_true] at e
  obtain ⟨rfl, rfl⟩ := e
  exact h
theorem W65_ok : OK 65 W65 := by
  rintro args H Bd K ⟨s, cut, rfl, ⟨h1, h2, h3⟩, hK⟩
  refine SCalls.lib Tryd.call65 _ (fun A ι vs w hr hs => ?_) hK
  obtain ⟨v, u, rfl, hv, hu⟩ := hs.two
  obtain rfl := hv.str
  obtain rfl := hu.str
  exact (Any.strings_Trim_ascii Tryd.lays160 (fun w => (Tryd.zeroValue105 w).trans (congrArg (fun c => Result.ok (Value.agg c) w) (by kernel_rfl))) (by kernel_rfl) s cut w (by omega) h2 h3).mono fun e w' ⟨he, hw⟩ => ⟨_, he, .string _, hw⟩
end Go.Proofs.YtkojciapfghibaaDoor
