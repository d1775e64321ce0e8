/- Functions of Go's library, by the kit's contracts. -/
import Derived.Test.YthhcemhignihlaaDoorFacts
import Derived.Test.YthhcemhignihlaaDoorShelf
import Derived.Test.YthhcemhignihlaaDoorSc13
set_option linter.unusedVariables false
set_option maxRecDepth 100000
namespace Go.Proofs.YthhcemhignihlaaDoor
open Go Go.SC Go.Proofs Go.Shelf Go.RowKit
def W60 : Trans := fun args H Bd K => ∃ (s cut : ByteArray), args = [.string s, .string cut] ∧ ((s.size ≤ 281474976710656 ∧ cut.size < 4294967281 ∧ ∀ (j : Nat) b, cut.data.toList[j]? = some b → b.toNat < 128) ∧ K (.string (trimB s cut)) H Bd)
@[go_sem ↓] theorem W60_eq (s cut : ByteArray) (H : AH) (Bd : Nat) (K : Value → AH → Nat → Prop) : W60 [.string s, .string cut] H Bd K = ((s.size ≤ 281474976710656 ∧ cut.size < 4294967281 ∧ ∀ (j : Nat) b, cut.data.toList[j]? = some b → b.toNat < 128) ∧ K (.string (trimB s cut)) H Bd) := by
  refine propext ⟨fun h => ?_, fun h => ⟨_, _, rfl, h⟩⟩
  obtain ⟨s', cut', e, h⟩ := h
  simp only [List.cons.injEq, Value.string.injEq, and_true] at e
  obtain ⟨rfl, rfl⟩ := e
  exact h
theorem W60_ok : OK 60 W60 := by
  rintro args H Bd K ⟨s, cut, rfl, ⟨h1, h2, h3⟩, hK⟩
  refine SCalls.lib Tryd.call60 _ (fun A ι vs w hr hs => ?_) hK
  obtain ⟨v, u, rfl, hv, hu⟩ := hs.two
  obtain rfl := hv.str
  obtain rfl := hu.str
  exact (Any.strings_Trim_ascii Tryd.lays160 (fun w => (Tryd.zeroValue90 w).trans (congrArg (fun c => Result.ok (Value.agg c) w) (by kernel_rfl))) (by kernel_rfl) s cut w (by omega) h2 h3).mono fun e w' ⟨he, hw⟩ => ⟨_, he, .string _, hw⟩

abbrev GM : Nat := 0

abbrev GP : Nat := 0

def PT (H : AH) : Prop := True ∧ ∃ m, H GM = some ⟨[.int .i64 m], false⟩

@[go_sem] theorem PT_upd {H : AH} {n : Nat} {b : Option Blk} (h : GP < n) : PT (upd H n b) = PT H := by
  unfold PT
  rw [upd_other H b (show GM ≠ n from Nat.ne_of_lt (Nat.lt_of_le_of_lt (by decide) h))]

theorem PT_sees {H H' : AH} (h : PT H) (hs : Sees H H') : PT H' := ⟨trivial, h.2.elim fun m hm => ⟨m, hs _ _ hm rfl⟩⟩

def W31 : Trans := SplitT PT
@[go_sem ↓] theorem W31_eq (s : ByteArray) (c : UInt8) (H : AH) (Bd : Nat) (K : Value → AH → Nat → Prop) : W31 [.string s, .string ⟨#[c]⟩] H Bd K = ((s.size < 4294967281 ∧ PT H) ∧ K (.slice (some ⟨Bd, 0, some 1⟩) (cutB s c).length ((cutB s c).length + 1)) (upd H Bd (some ⟨flat (cutB s c), true⟩)) (Bd + 1)) := SplitT_eq PT s c H Bd K
theorem W31_ok : OK 31 W31 := split_ok Tryd.call31 (fun H h => h.2) (fun s sep m w => Any.strings_Split Tryd.lays146 (by kernel_rfl) s sep m w)

theorem E40_calls (x : ByteArray) (W : World) : Calls Tryd.prog 40 #[.string x] W fun e w' => e = .returned (.bool (x.size == 0)) ∧ w' = W := by
  go_enter Tryd.func40, Tryd.ntmps40
  go_wp2
  go_ret
  simp only [isE, and_true]
  rfl
def W39 : Trans := DelT 40 (fun x => x.size == 0)
@[go_sem ↓] theorem W39_eq (n l c : Nat) (H : AH) (Bd : Nat) (K : Value → AH → Nat → Prop) : W39 [.slice (some ⟨n, 0, some 1⟩) l c, .func (.func 40) #[] #[]] H Bd K = (Yld (H n) fun b => Yld (strsOf b.cells) fun zs => (b.own = true ∧ l = zs.length ∧ 1 ≤ l ∧ zs.length ≤ 9223372036854775807) ∧
  K (.slice (some ⟨n, 0, some 1⟩) (zs.filter fun x => !(x.size == 0)).length c) (upd H n (some ⟨flat (zs.filter fun x => !(x.size == 0)), true⟩)) Bd) := DelT_eq 40 _ n l c H Bd K
theorem W39_ok : OK 39 W39 := del_ok 40 _ Tryd.call39 E40_calls (fun blk off cap d w hp hpo hH h1 h2 => AnyE.slices_DeleteFunc Tryd.laysH10 Value.string (fun _ => rfl) _ 40 #[] Tryd.call40 ByteArray.empty (fun w => Tryd.zeroValue9 w) blk off cap d w hp hpo hH h1 h2)
end Go.Proofs.YthhcemhignihlaaDoor
