/- YtliijoclogakdaaGreatDoorA1 -/
import Derived.Test.YtliijoclogakdaaGreatDoorLib
set_option linter.unusedSimpArgs false
set_option linter.unusedVariables false
set_option maxRecDepth 20000
namespace Go.Proofs.YtliijoclogakdaaGreatDoor
open Go Go.SC
def W67 : Trans := fun args H Bd K => ∃ (x : GSymbol) (left : Int), args = [.agg (enc (x)).toArray, .int .i64 (left)] ∧ ((sm x ∧ 0 ≤ left ∧ left ≤ 1048576) ∧ K (.int .i64 (szP (tot x) left)) H Bd)
@[go_sem ↓] theorem W67_eq (x_name : ByteArray) (x_arity : Int) (left : Int) (H : AH) (Bd : Nat) (K : Value → AH → Nat → Prop) : W67 [.agg #[.string (x_name), .int .i64 (x_arity)], .int .i64 (left)] H Bd K = ((sm (GSymbol.mk x_name x_arity) ∧ 0 ≤ left ∧ left ≤ 1048576) ∧ K (.int .i64 (szP (tot (GSymbol.mk x_name x_arity)) left)) H Bd) := by
  refine propext ⟨fun h => ?_, fun h => ⟨_, _, rfl, h⟩⟩
  obtain ⟨x', left', e, h⟩ := h
  obtain ⟨xname', xarity'⟩ := x'
  skip
  simp only [enc_GSymbol, List.cons.injEq, Value.agg.injEq, toArr_inj, Value.int.injEq, Value.bool.injEq, Value.string.injEq, Value.slice.injEq, Value.func.injEq, Value.pointer.injEq, Option.some.injEq, Addr.mk.injEq, lst_inj, true_and, and_true] at e
  obtain ⟨⟨rfl, rfl⟩, rfl⟩ := e
  exact h
theorem W67_ok : OK 67 W67 := by
  rintro args H Bd K ⟨x, left, rfl, hpre, hK⟩
  refine fn_pure pok (Env.base _) [] _ hK Tryz.func67 rfl (rs := [.tmp 4]) rfl Tryz.ntmps67 (by simp) Tryz.call67 (by kernel_rfl) (fun ha hb => .int _ _) (fun hb ha => ?_)
  obtain ⟨h1, h2, h3⟩ := hpre
  simp only [sm_GSymbol, sm_str] at h1
  have q0 := h3
  have z0 : tot x.name = x.name.size := rfl
  have ez : tot x = tot x.name := by simp [tot_GSymbol]
  rw [ez]
  simp (maxSteps := 2000000) (disch := first | assumption | (refine asm_intro ?_; assumption) | exact Nat.le_add_right _ _ | exact Nat.le_refl _ | omega | (simp (disch := first | exact Nat.le_add_right _ _ | omega) only [Le_upd hb, Le_app hb, Le_rfl, free_T hb, free_upd]; done) | fail) only [go_sem, push_cast, and_pos, Le_updF, Le_upd hb, free_T hb, h1]
  rw [← z0]
  exact szP_lastI
def W31 : Trans := fun args H Bd K => ∃ (xs : List GSymbol) (left : Int), args = [lst (xs), .int .i64 (left)] ∧ ((sm xs ∧ 0 ≤ left ∧ left ≤ 1048576) ∧ K (.int .i64 (szP (tot xs) left)) H Bd)
@[go_sem ↓] theorem W31_eq (xs : List GSymbol) (left : Int) (H : AH) (Bd : Nat) (K : Value → AH → Nat → Prop) : W31 [lst (xs), .int .i64 (left)] H Bd K = ((sm xs ∧ 0 ≤ left ∧ left ≤ 1048576) ∧ K (.int .i64 (szP (tot xs) left)) H Bd) := by
  refine propext ⟨fun h => ?_, fun h => ⟨_, _, rfl, h⟩⟩
  obtain ⟨xs', left', e, h⟩ := h
  skip
  skip
  simp only [List.cons.injEq, Value.agg.injEq, toArr_inj, Value.int.injEq, Value.bool.injEq, Value.string.injEq, Value.slice.injEq, Value.func.injEq, Value.pointer.injEq, Option.some.injEq, Addr.mk.injEq, lst_inj, true_and, and_true] at e
  obtain ⟨rfl, rfl⟩ := e
  exact h
theorem W31_ok : OK 31 W31 := by
  rintro args H Bd K ⟨xs, left, rfl, hpre, hK⟩
  refine fn_pure pok ((Env.base _).add 67 _ W67_ok) [] _ hK Tryz.func31 rfl (rs := [.tmp 4]) rfl Tryz.ntmps31 (by simp) Tryz.call31 (by kernel_rfl) (fun ha hb => .int _ _) (fun hb ha => ?_)
  obtain ⟨h1, h2, h3⟩ := hpre
  have hlen := sm_len h1
  have e : tot xs = xs.length + (xs.map tot).sum := tot_list xs
  simp (maxSteps := 2000000) (disch := first | assumption | (refine asm_intro ?_; assumption) | exact Nat.le_add_right _ _ | exact Nat.le_refl _ | omega | (simp (disch := first | exact Nat.le_add_right _ _ | omega) only [Le_upd hb, Le_app hb, Le_rfl, free_T hb, free_upd]; done) | fail) only [go_sem, push_cast, and_pos, Le_updF, Le_upd hb, free_T hb]
  refine Cnp.of (fun h => by rw [e, szP_neg h]) (fun h => ?_)
  refine tr_for (fun i => 0 ≤ left - xs.length - totTo xs i) xs.length (fun i => [(0, lst xs), (1, .int .i64 (left - xs.length - totTo xs i)), (5, .int .i64 i)]) (by simp; omega) (by simp only [go_sem, push_cast, and_pos, Le_updF, totTo_zero, Int.sub_zero]) ?_
  intro i B0 hI hi hB
  refine vq_conv pok (E := ((Env.base _).add 67 _ W67_ok)) (PL := []) (by kernel_rfl) ?_
  rcases Nat.lt_or_ge i xs.length with hlt | hge
  · have e1 : xs[i]? = some xs[i] := List.getElem?_eq_getElem hlt
    have hx := sm_mem h1 (List.getElem_mem hlt)
    have hst := totTo_succ xs hlt
    skip
    simp (maxSteps := 2000000) (disch := first | assumption | (refine asm_intro ?_; assumption) | exact Nat.le_add_right _ _ | exact Nat.le_refl _ | omega | (simp (disch := first | exact Nat.le_add_right _ _ | omega) only [Le_upd hb, Le_app hb, Le_rfl, free_T hb, free_upd]; done) | fail) only [go_sem, push_cast, and_pos, Le_updF, Le_upd hb, free_T hb, e1, hx]
    exact sz_step hlt hI
  · simp (maxSteps := 2000000) (disch := first | assumption | (refine asm_intro ?_; assumption) | exact Nat.le_add_right _ _ | exact Nat.le_refl _ | omega | (simp (disch := first | exact Nat.le_add_right _ _ | omega) only [Le_upd hb, Le_app hb, Le_rfl, free_T hb, free_upd]; done) | fail) only [go_sem, push_cast, and_pos, Le_updF, Le_upd hb, free_T hb]
    refine vq_conv pok (E := ((Env.base _).add 67 _ W67_ok)) (PL := []) (by kernel_rfl) ?_
    simp (maxSteps := 2000000) (disch := first | assumption | (refine asm_intro ?_; assumption) | exact Nat.le_add_right _ _ | exact Nat.le_refl _ | omega | (simp (disch := first | exact Nat.le_add_right _ _ | omega) only [Le_upd hb, Le_app hb, Le_rfl, free_T hb, free_upd]; done) | fail) only [go_sem, push_cast, and_pos, Le_updF, Le_upd hb, free_T hb]
    exact sz_end hge hI
def W9 : Trans := fun args H Bd K => ∃ (x : GSignature) (left : Int), args = [.agg (enc (x)).toArray, .int .i64 (left)] ∧ ((sm x ∧ 0 ≤ left ∧ left ≤ 1048576) ∧ K (.int .i64 (szP (tot x) left)) H Bd)
@[go_sem ↓] theorem W9_eq (x_symbols : List GSymbol) (left : Int) (H : AH) (Bd : Nat) (K : Value → AH → Nat → Prop) : W9 [.agg #[lst (x_symbols)], .int .i64 (left)] H Bd K = ((sm (GSignature.mk x_symbols) ∧ 0 ≤ left ∧ left ≤ 1048576) ∧ K (.int .i64 (szP (tot (GSignature.mk x_symbols)) left)) H Bd) := by
  refine propext ⟨fun h => ?_, fun h => ⟨_, _, rfl, h⟩⟩
  obtain ⟨x', left', e, h⟩ := h
  obtain ⟨xsymbols'⟩ := x'
  skip
  simp only [enc_GSignature, List.cons.injEq, Value.agg.injEq, toArr_inj, Value.int.injEq, Value.bool.injEq, Value.string.injEq, Value.slice.injEq, Value.func.injEq, Value.pointer.injEq, Option.some.injEq, Addr.mk.injEq, lst_inj, true_and, and_true] at e
  obtain ⟨rfl, rfl⟩ := e
  exact h
theorem W9_ok : OK 9 W9 := by
  rintro args H Bd K ⟨x, left, rfl, hpre, hK⟩
  refine fn_pure pok ((Env.base _).add 31 _ W31_ok) [] _ hK Tryz.func9 rfl (rs := [.tmp 4]) rfl Tryz.ntmps9 (by simp) Tryz.call9 (by kernel_rfl) (fun ha hb => .int _ _) (fun hb ha => ?_)
  obtain ⟨h1, h2, h3⟩ := hpre
  simp only [sm_GSignature, sm_str] at h1
  have q0 := h3
  have q1 := szP_ub (tot x.symbols) (left := left) (by omega)
  have ez : tot x = tot x.symbols := by simp [tot_GSignature]
  rw [ez]
  simp (maxSteps := 2000000) (disch := first | assumption | (refine asm_intro ?_; assumption) | exact Nat.le_add_right _ _ | exact Nat.le_refl _ | omega | (simp (disch := first | exact Nat.le_add_right _ _ | omega) only [Le_upd hb, Le_app hb, Le_rfl, free_T hb, free_upd]; done) | fail) only [go_sem, push_cast, and_pos, Le_updF, Le_upd hb, free_T hb, h1]
  first | exact szP_last | exact szP_lastT
def W32 : Trans := fun args H Bd K => ∃ (xs : List Int) (left : Int), args = [lst (xs), .int .i64 (left)] ∧ ((sm xs ∧ -1 ≤ left ∧ left ≤ 1048576) ∧ K (.int .i64 (szP (tot xs) left)) H Bd)
@[go_sem ↓] theorem W32_eq (xs : List Int) (left : Int) (H : AH) (Bd : Nat) (K : Value → AH → Nat → Prop) : W32 [lst (xs), .int .i64 (left)] H Bd K = ((sm xs ∧ -1 ≤ left ∧ left ≤ 1048576) ∧ K (.int .i64 (szP (tot xs) left)) H Bd) := by
  refine propext ⟨fun h => ?_, fun h => ⟨_, _, rfl, h⟩⟩
  obtain ⟨xs', left', e, h⟩ := h
  skip
  skip
  simp only [List.cons.injEq, Value.agg.injEq, toArr_inj, Value.int.injEq, Value.bool.injEq, Value.string.injEq, Value.slice.injEq, Value.func.injEq, Value.pointer.injEq, Option.some.injEq, Addr.mk.injEq, lst_inj, true_and, and_true] at e
  obtain ⟨rfl, rfl⟩ := e
  exact h
theorem W32_ok : OK 32 W32 := by
  rintro args H Bd K ⟨xs, left, rfl, hpre, hK⟩
  refine fn_pure pok (Env.base _) [] _ hK Tryz.func32 rfl (rs := [.tmp 4]) rfl Tryz.ntmps32 (by simp) Tryz.call32 (by kernel_rfl) (fun ha hb => .int _ _) (fun hb ha => ?_)
  obtain ⟨h1, h2, h3⟩ := hpre
  have hlen := sm_len h1
  have e : tot xs = xs.length := by simp
  rw [e]
  simp (maxSteps := 2000000) (disch := first | assumption | (refine asm_intro ?_; assumption) | exact Nat.le_add_right _ _ | exact Nat.le_refl _ | omega | (simp (disch := first | exact Nat.le_add_right _ _ | omega) only [Le_upd hb, Le_app hb, Le_rfl, free_T hb, free_upd]; done) | fail) only [go_sem, push_cast, and_pos, Le_updF, Le_upd hb, free_T hb]
  unfold szP
  exact Cnp.of (fun h => by rw [if_pos h]) (fun h => by rw [if_neg h])
def W68 : Trans := fun args H Bd K => ∃ (x : GEquation) (left : Int), args = [.agg (enc (x)).toArray, .int .i64 (left)] ∧ ((sm x ∧ 0 ≤ left ∧ left ≤ 1048576) ∧ K (.int .i64 (szP (tot x) left)) H Bd)
@[go_sem ↓] theorem W68_eq (x_left : List Int) (x_right : List Int) (left : Int) (H : AH) (Bd : Nat) (K : Value → AH → Nat → Prop) : W68 [.agg #[lst (x_left), lst (x_right)], .int .i64 (left)] H Bd K = ((sm (GEquation.mk x_left x_right) ∧ 0 ≤ left ∧ left ≤ 1048576) ∧ K (.int .i64 (szP (tot (GEquation.mk x_left x_right)) left)) H Bd) := by
  refine propext ⟨fun h => ?_, fun h => ⟨_, _, rfl, h⟩⟩
  obtain ⟨x', left', e, h⟩ := h
  obtain ⟨xleft', xright'⟩ := x'
  skip
  simp only [enc_GEquation, List.cons.injEq, Value.agg.injEq, toArr_inj, Value.int.injEq, Value.bool.injEq, Value.string.injEq, Value.slice.injEq, Value.func.injEq, Value.pointer.injEq, Option.some.injEq, Addr.mk.injEq, lst_inj, true_and, and_true] at e
  obtain ⟨⟨rfl, rfl⟩, rfl⟩ := e
  exact h
theorem W68_ok : OK 68 W68 := by
  rintro args H Bd K ⟨x, left, rfl, hpre, hK⟩
  refine fn_pure pok ((Env.base _).add 32 _ W32_ok) [] _ hK Tryz.func68 rfl (rs := [.tmp 4]) rfl Tryz.ntmps68 (by simp) Tryz.call68 (by kernel_rfl) (fun ha hb => .int _ _) (fun hb ha => ?_)
  obtain ⟨h1, h2, h3⟩ := hpre
  simp only [sm_GEquation, sm_str] at h1
  have q0 := h3
  have q1 := szP_ub (tot x.left) (left := left) (by omega)
  have q2 := szP_ub (tot x.right) (left := szP (tot x.left) (left)) (by omega)
  have ez : tot x = tot x.left + (tot x.right) := by simp [tot_GEquation]
  rw [ez]
  simp (maxSteps := 2000000) (disch := first | assumption | (refine asm_intro ?_; assumption) | exact Nat.le_add_right _ _ | exact Nat.le_refl _ | omega | (simp (disch := first | exact Nat.le_add_right _ _ | omega) only [Le_upd hb, Le_app hb, Le_rfl, free_T hb, free_upd]; done) | fail) only [go_sem, push_cast, and_pos, Le_updF, Le_upd hb, free_T hb, h1]
  refine szP_go (fun e => e.symm) (fun e => ?_)
  rw [e]
  first | exact szP_last | exact szP_lastT
def W33 : Trans := fun args H Bd K => ∃ (xs : List GEquation) (left : Int), args = [lst (xs), .int .i64 (left)] ∧ ((sm xs ∧ 0 ≤ left ∧ left ≤ 1048576) ∧ K (.int .i64 (szP (tot xs) left)) H Bd)
@[go_sem ↓] theorem W33_eq (xs : List GEquation) (left : Int) (H : AH) (Bd : Nat) (K : Value → AH → Nat → Prop) : W33 [lst (xs), .int .i64 (left)] H Bd K = ((sm xs ∧ 0 ≤ left ∧ left ≤ 1048576) ∧ K (.int .i64 (szP (tot xs) left)) H Bd) := by
  refine propext ⟨fun h => ?_, fun h => ⟨_, _, rfl, h⟩⟩
  obtain ⟨xs', left', e, h⟩ := h
  skip
  skip
  simp only [List.cons.injEq, Value.agg.injEq, toArr_inj, Value.int.injEq, Value.bool.injEq, Value.string.injEq, Value.slice.injEq, Value.func.injEq, Value.pointer.injEq, Option.some.injEq, Addr.mk.injEq, lst_inj, true_and, and_true] at e
  obtain ⟨rfl, rfl⟩ := e
  exact h
theorem W33_ok : OK 33 W33 := by
  rintro args H Bd K ⟨xs, left, rfl, hpre, hK⟩
  refine fn_pure pok ((Env.base _).add 68 _ W68_ok) [] _ hK Tryz.func33 rfl (rs := [.tmp 4]) rfl Tryz.ntmps33 (by simp) Tryz.call33 (by kernel_rfl) (fun ha hb => .int _ _) (fun hb ha => ?_)
  obtain ⟨h1, h2, h3⟩ := hpre
  have hlen := sm_len h1
  have e : tot xs = xs.length + (xs.map tot).sum := tot_list xs
  simp (maxSteps := 2000000) (disch := first | assumption | (refine asm_intro ?_; assumption) | exact Nat.le_add_right _ _ | exact Nat.le_refl _ | omega | (simp (disch := first | exact Nat.le_add_right _ _ | omega) only [Le_upd hb, Le_app hb, Le_rfl, free_T hb, free_upd]; done) | fail) only [go_sem, push_cast, and_pos, Le_updF, Le_upd hb, free_T hb]
  refine Cnp.of (fun h => by rw [e, szP_neg h]) (fun h => ?_)
  refine tr_for (fun i => 0 ≤ left - xs.length - totTo xs i) xs.length (fun i => [(0, lst xs), (1, .int .i64 (left - xs.length - totTo xs i)), (5, .int .i64 i)]) (by simp; omega) (by simp only [go_sem, push_cast, and_pos, Le_updF, totTo_zero, Int.sub_zero]) ?_
  intro i B0 hI hi hB
  refine vq_conv pok (E := ((Env.base _).add 68 _ W68_ok)) (PL := []) (by kernel_rfl) ?_
  rcases Nat.lt_or_ge i xs.length with hlt | hge
  · have e1 : xs[i]? = some xs[i] := List.getElem?_eq_getElem hlt
    have hx := sm_mem h1 (List.getElem_mem hlt)
    have hst := totTo_succ xs hlt
    skip
    simp (maxSteps := 2000000) (disch := first | assumption | (refine asm_intro ?_; assumption) | exact Nat.le_add_right _ _ | exact Nat.le_refl _ | omega | (simp (disch := first | exact Nat.le_add_right _ _ | omega) only [Le_upd hb, Le_app hb, Le_rfl, free_T hb, free_upd]; done) | fail) only [go_sem, push_cast, and_pos, Le_updF, Le_upd hb, free_T hb, e1, hx]
    exact sz_step hlt hI
  · simp (maxSteps := 2000000) (disch := first | assumption | (refine asm_intro ?_; assumption) | exact Nat.le_add_right _ _ | exact Nat.le_refl _ | omega | (simp (disch := first | exact Nat.le_add_right _ _ | omega) only [Le_upd hb, Le_app hb, Le_rfl, free_T hb, free_upd]; done) | fail) only [go_sem, push_cast, and_pos, Le_updF, Le_upd hb, free_T hb]
    refine vq_conv pok (E := ((Env.base _).add 68 _ W68_ok)) (PL := []) (by kernel_rfl) ?_
    simp (maxSteps := 2000000) (disch := first | assumption | (refine asm_intro ?_; assumption) | exact Nat.le_add_right _ _ | exact Nat.le_refl _ | omega | (simp (disch := first | exact Nat.le_add_right _ _ | omega) only [Le_upd hb, Le_app hb, Le_rfl, free_T hb, free_upd]; done) | fail) only [go_sem, push_cast, and_pos, Le_updF, Le_upd hb, free_T hb]
    exact sz_end hge hI
def W10 : Trans := fun args H Bd K => ∃ (x : GTheory) (left : Int), args = [.agg (enc (x)).toArray, .int .i64 (left)] ∧ ((sm x ∧ 0 ≤ left ∧ left ≤ 1048576) ∧ K (.int .i64 (szP (tot x) left)) H Bd)
@[go_sem ↓] theorem W10_eq (x_order : List Int) (x_equations : List GEquation) (x_rules : List GEquation) (left : Int) (H : AH) (Bd : Nat) (K : Value → AH → Nat → Prop) : W10 [.agg #[lst (x_order), lst (x_equations), lst (x_rules)], .int .i64 (left)] H Bd K = ((sm (GTheory.mk x_order x_equations x_rules) ∧ 0 ≤ left ∧ left ≤ 1048576) ∧ K (.int .i64 (szP (tot (GTheory.mk x_order x_equations x_rules)) left)) H Bd) := by
  refine propext ⟨fun h => ?_, fun h => ⟨_, _, rfl, h⟩⟩
  obtain ⟨x', left', e, h⟩ := h
  obtain ⟨xorder', xequations', xrules'⟩ := x'
  skip
  simp only [enc_GTheory, List.cons.injEq, Value.agg.injEq, toArr_inj, Value.int.injEq, Value.bool.injEq, Value.string.injEq, Value.slice.injEq, Value.func.injEq, Value.pointer.injEq, Option.some.injEq, Addr.mk.injEq, lst_inj, true_and, and_true] at e
  obtain ⟨⟨rfl, rfl, rfl⟩, rfl⟩ := e
  exact h
theorem W10_ok : OK 10 W10 := by
  rintro args H Bd K ⟨x, left, rfl, hpre, hK⟩
  refine fn_pure pok (((Env.base _).add 32 _ W32_ok).add 33 _ W33_ok) [] _ hK Tryz.func10 rfl (rs := [.tmp 4]) rfl Tryz.ntmps10 (by simp) Tryz.call10 (by kernel_rfl) (fun ha hb => .int _ _) (fun hb ha => ?_)
  obtain ⟨h1, h2, h3⟩ := hpre
  simp only [sm_GTheory, sm_str] at h1
  have q0 := h3
  have q1 := szP_ub (tot x.order) (left := left) (by omega)
  have q2 := szP_ub (tot x.equations) (left := szP (tot x.order) (left)) (by omega)
  have q3 := szP_ub (tot x.rules) (left := szP (tot x.equations) (szP (tot x.order) (left))) (by omega)
  have ez : tot x = tot x.order + (tot x.equations + (tot x.rules)) := by simp [tot_GTheory]; try omega
  rw [ez]
  simp (maxSteps := 2000000) (disch := first | assumption | (refine asm_intro ?_; assumption) | exact Nat.le_add_right _ _ | exact Nat.le_refl _ | omega | (simp (disch := first | exact Nat.le_add_right _ _ | omega) only [Le_upd hb, Le_app hb, Le_rfl, free_T hb, free_upd]; done) | fail) only [go_sem, push_cast, and_pos, Le_updF, Le_upd hb, free_T hb, h1]
  refine szP_go (fun e => e.symm) (fun e => ?_)
  rw [e]
  refine szP_go (fun e => e.symm) (fun e => ?_)
  rw [e]
  first | exact szP_last | exact szP_lastT
def W11 : Trans := fun args H Bd K => ∃ (xs : List UInt8) (left : Int), args = [lst (xs), .int .i64 (left)] ∧ ((sm xs ∧ -1 ≤ left ∧ left ≤ 1048576) ∧ K (.int .i64 (szP (tot xs) left)) H Bd)
@[go_sem ↓] theorem W11_eq (xs : List UInt8) (left : Int) (H : AH) (Bd : Nat) (K : Value → AH → Nat → Prop) : W11 [lst (xs), .int .i64 (left)] H Bd K = ((sm xs ∧ -1 ≤ left ∧ left ≤ 1048576) ∧ K (.int .i64 (szP (tot xs) left)) H Bd) := by
  refine propext ⟨fun h => ?_, fun h => ⟨_, _, rfl, h⟩⟩
  obtain ⟨xs', left', e, h⟩ := h
  skip
  skip
  simp only [List.cons.injEq, Value.agg.injEq, toArr_inj, Value.int.injEq, Value.bool.injEq, Value.string.injEq, Value.slice.injEq, Value.func.injEq, Value.pointer.injEq, Option.some.injEq, Addr.mk.injEq, lst_inj, true_and, and_true] at e
  obtain ⟨rfl, rfl⟩ := e
  exact h
theorem W11_ok : OK 11 W11 := by
  rintro args H Bd K ⟨xs, left, rfl, hpre, hK⟩
  refine fn_pure pok (Env.base _) [] _ hK Tryz.func11 rfl (rs := [.tmp 4]) rfl Tryz.ntmps11 (by simp) Tryz.call11 (by kernel_rfl) (fun ha hb => .int _ _) (fun hb ha => ?_)
  obtain ⟨h1, h2, h3⟩ := hpre
  have hlen := sm_len h1
  have e : tot xs = xs.length := by simp
  rw [e]
  simp (maxSteps := 2000000) (disch := first | assumption | (refine asm_intro ?_; assumption) | exact Nat.le_add_right _ _ | exact Nat.le_refl _ | omega | (simp (disch := first | exact Nat.le_add_right _ _ | omega) only [Le_upd hb, Le_app hb, Le_rfl, free_T hb, free_upd]; done) | fail) only [go_sem, push_cast, and_pos, Le_updF, Le_upd hb, free_T hb]
  unfold szP
  exact Cnp.of (fun h => by rw [if_pos h]) (fun h => by rw [if_neg h])
def W34 : Trans := fun args H Bd K => ∃ (x : GRecord) (left : Int), args = [.agg (enc (x)).toArray, .int .i64 (left)] ∧ ((sm x ∧ 0 ≤ left ∧ left ≤ 1048576) ∧ K (.int .i64 (szP (tot x) left)) H Bd)
@[go_sem ↓] theorem W34_eq (x_term : List Int) (x_value : Int) (left : Int) (H : AH) (Bd : Nat) (K : Value → AH → Nat → Prop) : W34 [.agg #[lst (x_term), .int .i64 (x_value)], .int .i64 (left)] H Bd K = ((sm (GRecord.mk x_term x_value) ∧ 0 ≤ left ∧ left ≤ 1048576) ∧ K (.int .i64 (szP (tot (GRecord.mk x_term x_value)) left)) H Bd) := by
  refine propext ⟨fun h => ?_, fun h => ⟨_, _, rfl, h⟩⟩
  obtain ⟨x', left', e, h⟩ := h
  obtain ⟨xterm', xvalue'⟩ := x'
  skip
  simp only [enc_GRecord, List.cons.injEq, Value.agg.injEq, toArr_inj, Value.int.injEq, Value.bool.injEq, Value.string.injEq, Value.slice.injEq, Value.func.injEq, Value.pointer.injEq, Option.some.injEq, Addr.mk.injEq, lst_inj, true_and, and_true] at e
  obtain ⟨⟨rfl, rfl⟩, rfl⟩ := e
  exact h
theorem W34_ok : OK 34 W34 := by
  rintro args H Bd K ⟨x, left, rfl, hpre, hK⟩
  refine fn_pure pok ((Env.base _).add 32 _ W32_ok) [] _ hK Tryz.func34 rfl (rs := [.tmp 4]) rfl Tryz.ntmps34 (by simp) Tryz.call34 (by kernel_rfl) (fun ha hb => .int _ _) (fun hb ha => ?_)
  obtain ⟨h1, h2, h3⟩ := hpre
  simp only [sm_GRecord, sm_str] at h1
  have q0 := h3
  have q1 := szP_ub (tot x.term) (left := left) (by omega)
  have ez : tot x = tot x.term := by simp [tot_GRecord]
  rw [ez]
  simp (maxSteps := 2000000) (disch := first | assumption | (refine asm_intro ?_; assumption) | exact Nat.le_add_right _ _ | exact Nat.le_refl _ | omega | (simp (disch := first | exact Nat.le_add_right _ _ | omega) only [Le_upd hb, Le_app hb, Le_rfl, free_T hb, free_upd]; done) | fail) only [go_sem, push_cast, and_pos, Le_updF, Le_upd hb, free_T hb, h1]
  first | exact szP_last | exact szP_lastT
def W12 : Trans := fun args H Bd K => ∃ (xs : List GRecord) (left : Int), args = [lst (xs), .int .i64 (left)] ∧ ((sm xs ∧ 0 ≤ left ∧ left ≤ 1048576) ∧ K (.int .i64 (szP (tot xs) left)) H Bd)
@[go_sem ↓] theorem W12_eq (xs : List GRecord) (left : Int) (H : AH) (Bd : Nat) (K : Value → AH → Nat → Prop) : W12 [lst (xs), .int .i64 (left)] H Bd K = ((sm xs ∧ 0 ≤ left ∧ left ≤ 1048576) ∧ K (.int .i64 (szP (tot xs) left)) H Bd) := by
  refine propext ⟨fun h => ?_, fun h => ⟨_, _, rfl, h⟩⟩
  obtain ⟨xs', left', e, h⟩ := h
  skip
  skip
  simp only [List.cons.injEq, Value.agg.injEq, toArr_inj, Value.int.injEq, Value.bool.injEq, Value.string.injEq, Value.slice.injEq, Value.func.injEq, Value.pointer.injEq, Option.some.injEq, Addr.mk.injEq, lst_inj, true_and, and_true] at e
  obtain ⟨rfl, rfl⟩ := e
  exact h
theorem W12_ok : OK 12 W12 := by
  rintro args H Bd K ⟨xs, left, rfl, hpre, hK⟩
  refine fn_pure pok ((Env.base _).add 34 _ W34_ok) [] _ hK Tryz.func12 rfl (rs := [.tmp 4]) rfl Tryz.ntmps12 (by simp) Tryz.call12 (by kernel_rfl) (fun ha hb => .int _ _) (fun hb ha => ?_)
  obtain ⟨h1, h2, h3⟩ := hpre
  have hlen := sm_len h1
  have e : tot xs = xs.length + (xs.map tot).sum := tot_list xs
  simp (maxSteps := 2000000) (disch := first | assumption | (refine asm_intro ?_; assumption) | exact Nat.le_add_right _ _ | exact Nat.le_refl _ | omega | (simp (disch := first | exact Nat.le_add_right _ _ | omega) only [Le_upd hb, Le_app hb, Le_rfl, free_T hb, free_upd]; done) | fail) only [go_sem, push_cast, and_pos, Le_updF, Le_upd hb, free_T hb]
  refine Cnp.of (fun h => by rw [e, szP_neg h]) (fun h => ?_)
  refine tr_for (fun i => 0 ≤ left - xs.length - totTo xs i) xs.length (fun i => [(0, lst xs), (1, .int .i64 (left - xs.length - totTo xs i)), (5, .int .i64 i)]) (by simp; omega) (by simp only [go_sem, push_cast, and_pos, Le_updF, totTo_zero, Int.sub_zero]) ?_
  intro i B0 hI hi hB
  refine vq_conv pok (E := ((Env.base _).add 34 _ W34_ok)) (PL := []) (by kernel_rfl) ?_
  rcases Nat.lt_or_ge i xs.length with hlt | hge
  · have e1 : xs[i]? = some xs[i] := List.getElem?_eq_getElem hlt
    have hx := sm_mem h1 (List.getElem_mem hlt)
    have hst := totTo_succ xs hlt
    skip
    simp (maxSteps := 2000000) (disch := first | assumption | (refine asm_intro ?_; assumption) | exact Nat.le_add_right _ _ | exact Nat.le_refl _ | omega | (simp (disch := first | exact Nat.le_add_right _ _ | omega) only [Le_upd hb, Le_app hb, Le_rfl, free_T hb, free_upd]; done) | fail) only [go_sem, push_cast, and_pos, Le_updF, Le_upd hb, free_T hb, e1, hx]
    exact sz_step hlt hI
  · simp (maxSteps := 2000000) (disch := first | assumption | (refine asm_intro ?_; assumption) | exact Nat.le_add_right _ _ | exact Nat.le_refl _ | omega | (simp (disch := first | exact Nat.le_add_right _ _ | omega) only [Le_upd hb, Le_app hb, Le_rfl, free_T hb, free_upd]; done) | fail) only [go_sem, push_cast, and_pos, Le_updF, Le_upd hb, free_T hb]
    refine vq_conv pok (E := ((Env.base _).add 34 _ W34_ok)) (PL := []) (by kernel_rfl) ?_
    simp (maxSteps := 2000000) (disch := first | assumption | (refine asm_intro ?_; assumption) | exact Nat.le_add_right _ _ | exact Nat.le_refl _ | omega | (simp (disch := first | exact Nat.le_add_right _ _ | omega) only [Le_upd hb, Le_app hb, Le_rfl, free_T hb, free_upd]; done) | fail) only [go_sem, push_cast, and_pos, Le_updF, Le_upd hb, free_T hb]
    exact sz_end hge hI
def W4 : Trans := fun args H Bd K => ∃ (x : GBook) (left : Int), args = [.agg (enc (x)).toArray, .int .i64 (left)] ∧ ((sm x ∧ 0 ≤ left ∧ left ≤ 1048576) ∧ K (.int .i64 (szP (tot x) left)) H Bd)
@[go_sem ↓] theorem W4_eq (x_symbols_symbols : List GSymbol) (x_version : Int) (x_theory_order : List Int) (x_theory_equations : List GEquation) (x_theory_rules : List GEquation) (x_moving : Bool) (x_next_order : List Int) (x_next_equations : List GEquation) (x_next_rules : List GEquation) (x_cursor : List UInt8) (x_records : List GRecord) (left : Int) (H : AH) (Bd : Nat) (K : Value → AH → Nat → Prop) : W4 [.agg #[lst (x_symbols_symbols), .int .i64 (x_version), lst (x_theory_order), lst (x_theory_equations), lst (x_theory_rules), .bool (x_moving), lst (x_next_order), lst (x_next_equations), lst (x_next_rules), lst (x_cursor), lst (x_records)], .int .i64 (left)] H Bd K = ((sm (GBook.mk (GSignature.mk x_symbols_symbols) x_version (GTheory.mk x_theory_order x_theory_equations x_theory_rules) x_moving (GTheory.mk x_next_order x_next_equations x_next_rules) x_cursor x_records) ∧ 0 ≤ left ∧ left ≤ 1048576) ∧ K (.int .i64 (szP (tot (GBook.mk (GSignature.mk x_symbols_symbols) x_version (GTheory.mk x_theory_order x_theory_equations x_theory_rules) x_moving (GTheory.mk x_next_order x_next_equations x_next_rules) x_cursor x_records)) left)) H Bd) := by
  refine propext ⟨fun h => ?_, fun h => ⟨_, _, rfl, h⟩⟩
  obtain ⟨x', left', e, h⟩ := h
  obtain ⟨⟨xsymbolssymbols'⟩, xversion', ⟨xtheoryorder', xtheoryequations', xtheoryrules'⟩, xmoving', ⟨xnext_order', xnext_equations', xnext_rules'⟩, xcursor', xrecords'⟩ := x'
  skip
  simp only [enc_GBook, enc_GSignature, enc_GTheory, List.cons.injEq, Value.agg.injEq, toArr_inj, Value.int.injEq, Value.bool.injEq, Value.string.injEq, Value.slice.injEq, Value.func.injEq, Value.pointer.injEq, Option.some.injEq, Addr.mk.injEq, lst_inj, true_and, and_true] at e
  obtain ⟨⟨rfl, rfl, rfl, rfl, rfl, rfl, rfl, rfl, rfl, rfl, rfl⟩, rfl⟩ := e
  exact h
set_option maxHeartbeats 2000000 in
theorem W4_ok : OK 4 W4 := by
  rintro args H Bd K ⟨x, left, rfl, hpre, hK⟩
  refine fn_pure pok (((((Env.base _).add 9 _ W9_ok).add 10 _ W10_ok).add 11 _ W11_ok).add 12 _ W12_ok) [] _ hK Tryz.func4 rfl (rs := [.tmp 4]) rfl Tryz.ntmps4 (by simp) Tryz.call4 (by kernel_rfl) (fun ha hb => .int _ _) (fun hb ha => ?_)
  obtain ⟨h1, h2, h3⟩ := hpre
  simp only [sm_GBook, sm_str] at h1
  have q0 := h3
  have q1 := szP_ub (tot x.symbols) (left := left) (by omega)
  have q2 := szP_ub (tot x.theory) (left := szP (tot x.symbols) (left)) (by omega)
  have q3 := szP_ub (tot x.next_) (left := szP (tot x.theory) (szP (tot x.symbols) (left))) (by omega)
  have q4 := szP_ub (tot x.cursor) (left := szP (tot x.next_) (szP (tot x.theory) (szP (tot x.symbols) (left)))) (by omega)
  have q5 := szP_ub (tot x.records) (left := szP (tot x.cursor) (szP (tot x.next_) (szP (tot x.theory) (szP (tot x.symbols) (left))))) (by omega)
  have ez : tot x = tot x.symbols + (tot x.theory + (tot x.next_ + (tot x.cursor + (tot x.records)))) := by simp [tot_GBook]; try omega
  rw [ez]
  simp (maxSteps := 2000000) (disch := first | assumption | (refine asm_intro ?_; assumption) | exact Nat.le_add_right _ _ | exact Nat.le_refl _ | omega | (simp (disch := first | exact Nat.le_add_right _ _ | omega) only [Le_upd hb, Le_app hb, Le_rfl, free_T hb, free_upd]; done) | fail) only [go_sem, push_cast, and_pos, Le_updF, Le_upd hb, free_T hb, h1]
  refine szP_go (fun e => e.symm) (fun e => ?_)
  rw [e]
  refine szP_go (fun e => e.symm) (fun e => ?_)
  rw [e]
  refine szP_go (fun e => e.symm) (fun e => ?_)
  rw [e]
  refine szP_go (fun e => e.symm) (fun e => ?_)
  rw [e]
  first | exact szP_last | exact szP_lastT
def W75 : Trans := fun args H Bd K => ∃ (x : GSymbol), args = [.agg (enc (x)).toArray] ∧ ((sm x ∧ tot x ≤ 1048576) ∧ K (.agg (enc (x)).toArray) H Bd)
@[go_sem ↓] theorem W75_eq (x_name : ByteArray) (x_arity : Int) (H : AH) (Bd : Nat) (K : Value → AH → Nat → Prop) : W75 [.agg #[.string (x_name), .int .i64 (x_arity)]] H Bd K = ((sm (GSymbol.mk x_name x_arity) ∧ tot (GSymbol.mk x_name x_arity) ≤ 1048576) ∧ K (.agg (enc ((GSymbol.mk x_name x_arity))).toArray) H Bd) := by
  refine propext ⟨fun h => ?_, fun h => ⟨_, rfl, h⟩⟩
  obtain ⟨x', e, h⟩ := h
  obtain ⟨xname', xarity'⟩ := x'
  simp only [enc_GSymbol, List.cons.injEq, Value.agg.injEq, toArr_inj, Value.int.injEq, Value.bool.injEq, Value.string.injEq, Value.slice.injEq, Value.func.injEq, Value.pointer.injEq, Option.some.injEq, Addr.mk.injEq, lst_inj, true_and, and_true] at e
  obtain ⟨rfl, rfl⟩ := e
  exact h
theorem W75_ok : OK 75 W75 := by
  rintro args H Bd K ⟨x, rfl, hpre, hK⟩
  refine fn_pure pok (Env.base _) [] _ hK Tryz.func75 rfl (rs := [.cell 2 77]) rfl Tryz.ntmps75 (by simp) Tryz.call75 (by kernel_rfl) (fun ha hb => agg_nb _ _) (fun hb ha => ?_)
  obtain ⟨h1, h2⟩ := hpre
  simp only [sm_GSymbol] at h1
  simp only [tot_GSymbol] at h2
  simp (maxSteps := 2000000) (disch := first | assumption | (refine asm_intro ?_; assumption) | exact Nat.le_add_right _ _ | exact Nat.le_refl _ | omega | (simp (disch := first | exact Nat.le_add_right _ _ | omega) only [Le_upd hb, Le_app hb, Le_rfl, free_T hb, free_upd]; done) | fail) only [go_sem, push_cast, and_pos, Le_updF, Le_upd hb, free_T hb, h1]
def W43 : Trans := fun args H Bd K => ∃ (xs : List GSymbol), args = [lst (xs)] ∧ ((sm xs ∧ tot xs ≤ 1048576) ∧ K (lst (xs)) H Bd)
@[go_sem ↓] theorem W43_eq (xs : List GSymbol) (H : AH) (Bd : Nat) (K : Value → AH → Nat → Prop) : W43 [lst (xs)] H Bd K = ((sm xs ∧ tot xs ≤ 1048576) ∧ K (lst (xs)) H Bd) := by
  refine propext ⟨fun h => ?_, fun h => ⟨_, rfl, h⟩⟩
  obtain ⟨xs', e, h⟩ := h
  skip
  simp only [List.cons.injEq, Value.agg.injEq, toArr_inj, Value.int.injEq, Value.bool.injEq, Value.string.injEq, Value.slice.injEq, Value.func.injEq, Value.pointer.injEq, Option.some.injEq, Addr.mk.injEq, lst_inj, true_and, and_true] at e
  obtain rfl := e
  exact h
theorem W43_ok : OK 43 W43 := by
  rintro args H Bd K ⟨xs, rfl, hpre, hK⟩
  refine fn_pure pok ((Env.base _).add 75 _ W75_ok) [] _ hK Tryz.func43 rfl (rs := [.tmp 2]) rfl Tryz.ntmps43 (by simp) Tryz.call43 (by kernel_rfl) (fun ha hb => lst_nb _ _) (fun hb ha => ?_)
  obtain ⟨h1, h2⟩ := hpre
  have e : tot xs = xs.length + (xs.map tot).sum := tot_list xs
  simp (maxSteps := 2000000) (disch := first | assumption | (refine asm_intro ?_; assumption) | exact Nat.le_add_right _ _ | exact Nat.le_refl _ | omega | (simp (disch := first | exact Nat.le_add_right _ _ | omega) only [Le_upd hb, Le_app hb, Le_rfl, free_T hb, free_upd]; done) | fail) only [go_sem, push_cast, and_pos, Le_updF, Le_upd hb, free_T hb]
  refine tr_fill (α := GSymbol) hb xs (fun i => [(0, lst xs), (3, .slice (some ⟨Bd, 0, some 2⟩) xs.length (xs.length + 1)), (4, .int .i64 i)]) _ (zmake_len _ _) ⟨Nat.le_refl _, by omega⟩ (by simp only [go_sem, push_cast, and_pos, Le_updF]) (Le.refl _) ?_
  intro i L B hi hL hF hB hb'
  refine vq_conv pok (E := ((Env.base _).add 75 _ W75_ok)) (PL := []) (by kernel_rfl) ?_
  have hL' : L.length = xs.length * 2 := hL
  rcases Nat.lt_or_ge i xs.length with hlt | hge
  · have e1 : xs[i]? = some xs[i] := List.getElem?_eq_getElem hlt
    have hx := sm_mem h1 (List.getElem_mem hlt)
    have hx2 : tot xs[i] ≤ (xs.map tot).sum := tot_mem hlt
    simp (maxSteps := 2000000) (disch := first | assumption | (refine asm_intro ?_; assumption) | exact Nat.le_add_right _ _ | exact Nat.le_refl _ | omega | (simp (disch := first | exact Nat.le_add_right _ _ | omega) only [Le_upd hb, Le_app hb, Le_rfl, free_T hb, free_upd]; done) | fail) only [go_sem, push_cast, and_pos, Le_updF, Le_upd hb, free_T hb, e1, hx]
    exact ⟨_, rfl, Le.refl _⟩
  · simp (maxSteps := 2000000) (disch := first | assumption | (refine asm_intro ?_; assumption) | exact Nat.le_add_right _ _ | exact Nat.le_refl _ | omega | (simp (disch := first | exact Nat.le_add_right _ _ | omega) only [Le_upd hb, Le_app hb, Le_rfl, free_T hb, free_upd]; done) | fail) only [go_sem, push_cast, and_pos, Le_updF, Le_upd hb, free_T hb]
    have hf : L = flat xs := by
      rw [List.take_of_length_le (by rw [hL]; exact Nat.mul_le_mul_right _ hge), List.take_of_length_le hge] at hF
      exact hF
    subst hf
    refine Tr.fin hb 3 (Nat.le_refl Bd) (by simp only [go_sem, push_cast, and_pos, Le_updF]; rfl) rfl ?_
    refine vq_conv pok (E := ((Env.base _).add 75 _ W75_ok)) (PL := []) (by kernel_rfl) ?_
    simp (maxSteps := 2000000) (disch := first | assumption | (refine asm_intro ?_; assumption) | exact Nat.le_add_right _ _ | exact Nat.le_refl _ | omega | (simp (disch := first | exact Nat.le_add_right _ _ | omega) only [Le_upd hb, Le_app hb, Le_rfl, free_T hb, free_upd]; done) | fail) only [go_sem, push_cast, and_pos, Le_updF, Le_upd hb, free_T hb]
def W17 : Trans := fun args H Bd K => ∃ (x : GSignature), args = [.agg (enc (x)).toArray] ∧ ((sm x ∧ tot x ≤ 1048576) ∧ K (.agg (enc (x)).toArray) H Bd)
@[go_sem ↓] theorem W17_eq (x_symbols : List GSymbol) (H : AH) (Bd : Nat) (K : Value → AH → Nat → Prop) : W17 [.agg #[lst (x_symbols)]] H Bd K = ((sm (GSignature.mk x_symbols) ∧ tot (GSignature.mk x_symbols) ≤ 1048576) ∧ K (.agg (enc ((GSignature.mk x_symbols))).toArray) H Bd) := by
  refine propext ⟨fun h => ?_, fun h => ⟨_, rfl, h⟩⟩
  obtain ⟨x', e, h⟩ := h
  obtain ⟨xsymbols'⟩ := x'
  simp only [enc_GSignature, List.cons.injEq, Value.agg.injEq, toArr_inj, Value.int.injEq, Value.bool.injEq, Value.string.injEq, Value.slice.injEq, Value.func.injEq, Value.pointer.injEq, Option.some.injEq, Addr.mk.injEq, lst_inj, true_and, and_true] at e
  obtain rfl := e
  exact h
theorem W17_ok : OK 17 W17 := by
  rintro args H Bd K ⟨x, rfl, hpre, hK⟩
  refine fn_pure pok ((Env.base _).add 43 _ W43_ok) [] _ hK Tryz.func17 rfl (rs := [.cell 2 37]) rfl Tryz.ntmps17 (by simp) Tryz.call17 (by kernel_rfl) (fun ha hb => agg_nb _ _) (fun hb ha => ?_)
  obtain ⟨h1, h2⟩ := hpre
  simp only [sm_GSignature] at h1
  simp only [tot_GSignature] at h2
  simp (maxSteps := 2000000) (disch := first | assumption | (refine asm_intro ?_; assumption) | exact Nat.le_add_right _ _ | exact Nat.le_refl _ | omega | (simp (disch := first | exact Nat.le_add_right _ _ | omega) only [Le_upd hb, Le_app hb, Le_rfl, free_T hb, free_upd]; done) | fail) only [go_sem, push_cast, and_pos, Le_updF, Le_upd hb, free_T hb, h1]
def W44 : Trans := fun args H Bd K => ∃ (xs : List Int), args = [lst (xs)] ∧ ((sm xs ∧ tot xs ≤ 1048576) ∧ K (lst (xs)) H Bd)
@[go_sem ↓] theorem W44_eq (xs : List Int) (H : AH) (Bd : Nat) (K : Value → AH → Nat → Prop) : W44 [lst (xs)] H Bd K = ((sm xs ∧ tot xs ≤ 1048576) ∧ K (lst (xs)) H Bd) := by
  refine propext ⟨fun h => ?_, fun h => ⟨_, rfl, h⟩⟩
  obtain ⟨xs', e, h⟩ := h
  skip
  simp only [List.cons.injEq, Value.agg.injEq, toArr_inj, Value.int.injEq, Value.bool.injEq, Value.string.injEq, Value.slice.injEq, Value.func.injEq, Value.pointer.injEq, Option.some.injEq, Addr.mk.injEq, lst_inj, true_and, and_true] at e
  obtain rfl := e
  exact h
theorem W44_ok : OK 44 W44 := by
  rintro args H Bd K ⟨xs, rfl, hpre, hK⟩
  refine fn_pure pok (Env.base _) [] _ hK Tryz.func44 rfl (rs := [.tmp 2]) rfl Tryz.ntmps44 (by simp) Tryz.call44 (by kernel_rfl) (fun ha hb => lst_nb _ _) (fun hb ha => ?_)
  obtain ⟨h1, h2⟩ := hpre
  have e : tot xs = xs.length + (xs.map tot).sum := tot_list xs
  simp (maxSteps := 2000000) (disch := first | assumption | (refine asm_intro ?_; assumption) | exact Nat.le_add_right _ _ | exact Nat.le_refl _ | omega | (simp (disch := first | exact Nat.le_add_right _ _ | omega) only [Le_upd hb, Le_app hb, Le_rfl, free_T hb, free_upd]; done) | fail) only [go_sem, push_cast, and_pos, Le_updF, Le_upd hb, free_T hb]
  refine tr_fill (α := Int) hb xs (fun i => [(0, lst xs), (3, .slice (some ⟨Bd, 0, some 1⟩) xs.length (xs.length + 1)), (4, .int .i64 i)]) _ (zmake_len _ _) ⟨Nat.le_refl _, by omega⟩ (by simp only [go_sem, push_cast, and_pos, Le_updF]) (Le.refl _) ?_
  intro i L B hi hL hF hB hb'
  refine vq_conv pok (E := (Env.base _)) (PL := []) (by kernel_rfl) ?_
  have hL' : L.length = xs.length * 1 := hL
  rcases Nat.lt_or_ge i xs.length with hlt | hge
  · have e1 : xs[i]? = some xs[i] := List.getElem?_eq_getElem hlt
    have hx := sm_mem h1 (List.getElem_mem hlt)
    have hx2 : tot xs[i] ≤ (xs.map tot).sum := tot_mem hlt
    simp (maxSteps := 2000000) (disch := first | assumption | (refine asm_intro ?_; assumption) | exact Nat.le_add_right _ _ | exact Nat.le_refl _ | omega | (simp (disch := first | exact Nat.le_add_right _ _ | omega) only [Le_upd hb, Le_app hb, Le_rfl, free_T hb, free_upd]; done) | fail) only [go_sem, push_cast, and_pos, Le_updF, Le_upd hb, free_T hb, e1, hx]
    exact ⟨_, rfl, Le.refl _⟩
  · simp (maxSteps := 2000000) (disch := first | assumption | (refine asm_intro ?_; assumption) | exact Nat.le_add_right _ _ | exact Nat.le_refl _ | omega | (simp (disch := first | exact Nat.le_add_right _ _ | omega) only [Le_upd hb, Le_app hb, Le_rfl, free_T hb, free_upd]; done) | fail) only [go_sem, push_cast, and_pos, Le_updF, Le_upd hb, free_T hb]
    have hf : L = flat xs := by
      rw [List.take_of_length_le (by rw [hL]; exact Nat.mul_le_mul_right _ hge), List.take_of_length_le hge] at hF
      exact hF
    subst hf
    refine Tr.fin hb 3 (Nat.le_refl Bd) (by simp only [go_sem, push_cast, and_pos, Le_updF]; rfl) rfl ?_
    refine vq_conv pok (E := (Env.base _)) (PL := []) (by kernel_rfl) ?_
    simp (maxSteps := 2000000) (disch := first | assumption | (refine asm_intro ?_; assumption) | exact Nat.le_add_right _ _ | exact Nat.le_refl _ | omega | (simp (disch := first | exact Nat.le_add_right _ _ | omega) only [Le_upd hb, Le_app hb, Le_rfl, free_T hb, free_upd]; done) | fail) only [go_sem, push_cast, and_pos, Le_updF, Le_upd hb, free_T hb]
def W76 : Trans := fun args H Bd K => ∃ (x : GEquation), args = [.agg (enc (x)).toArray] ∧ ((sm x ∧ tot x ≤ 1048576) ∧ K (.agg (enc (x)).toArray) H Bd)
@[go_sem ↓] theorem W76_eq (x_left : List Int) (x_right : List Int) (H : AH) (Bd : Nat) (K : Value → AH → Nat → Prop) : W76 [.agg #[lst (x_left), lst (x_right)]] H Bd K = ((sm (GEquation.mk x_left x_right) ∧ tot (GEquation.mk x_left x_right) ≤ 1048576) ∧ K (.agg (enc ((GEquation.mk x_left x_right))).toArray) H Bd) := by
  refine propext ⟨fun h => ?_, fun h => ⟨_, rfl, h⟩⟩
  obtain ⟨x', e, h⟩ := h
  obtain ⟨xleft', xright'⟩ := x'
  simp only [enc_GEquation, List.cons.injEq, Value.agg.injEq, toArr_inj, Value.int.injEq, Value.bool.injEq, Value.string.injEq, Value.slice.injEq, Value.func.injEq, Value.pointer.injEq, Option.some.injEq, Addr.mk.injEq, lst_inj, true_and, and_true] at e
  obtain ⟨rfl, rfl⟩ := e
  exact h
theorem W76_ok : OK 76 W76 := by
  rintro args H Bd K ⟨x, rfl, hpre, hK⟩
  refine fn_pure pok ((Env.base _).add 44 _ W44_ok) [] _ hK Tryz.func76 rfl (rs := [.cell 2 110]) rfl Tryz.ntmps76 (by simp) Tryz.call76 (by kernel_rfl) (fun ha hb => agg_nb _ _) (fun hb ha => ?_)
  obtain ⟨h1, h2⟩ := hpre
  simp only [sm_GEquation] at h1
  simp only [tot_GEquation] at h2
  simp (maxSteps := 2000000) (disch := first | assumption | (refine asm_intro ?_; assumption) | exact Nat.le_add_right _ _ | exact Nat.le_refl _ | omega | (simp (disch := first | exact Nat.le_add_right _ _ | omega) only [Le_upd hb, Le_app hb, Le_rfl, free_T hb, free_upd]; done) | fail) only [go_sem, push_cast, and_pos, Le_updF, Le_upd hb, free_T hb, h1]
def W45 : Trans := fun args H Bd K => ∃ (xs : List GEquation), args = [lst (xs)] ∧ ((sm xs ∧ tot xs ≤ 1048576) ∧ K (lst (xs)) H Bd)
@[go_sem ↓] theorem W45_eq (xs : List GEquation) (H : AH) (Bd : Nat) (K : Value → AH → Nat → Prop) : W45 [lst (xs)] H Bd K = ((sm xs ∧ tot xs ≤ 1048576) ∧ K (lst (xs)) H Bd) := by
  refine propext ⟨fun h => ?_, fun h => ⟨_, rfl, h⟩⟩
  obtain ⟨xs', e, h⟩ := h
  skip
  simp only [List.cons.injEq, Value.agg.injEq, toArr_inj, Value.int.injEq, Value.bool.injEq, Value.string.injEq, Value.slice.injEq, Value.func.injEq, Value.pointer.injEq, Option.some.injEq, Addr.mk.injEq, lst_inj, true_and, and_true] at e
  obtain rfl := e
  exact h
theorem W45_ok : OK 45 W45 := by
  rintro args H Bd K ⟨xs, rfl, hpre, hK⟩
  refine fn_pure pok ((Env.base _).add 76 _ W76_ok) [] _ hK Tryz.func45 rfl (rs := [.tmp 2]) rfl Tryz.ntmps45 (by simp) Tryz.call45 (by kernel_rfl) (fun ha hb => lst_nb _ _) (fun hb ha => ?_)
  obtain ⟨h1, h2⟩ := hpre
  have e : tot xs = xs.length + (xs.map tot).sum := tot_list xs
  simp (maxSteps := 2000000) (disch := first | assumption | (refine asm_intro ?_; assumption) | exact Nat.le_add_right _ _ | exact Nat.le_refl _ | omega | (simp (disch := first | exact Nat.le_add_right _ _ | omega) only [Le_upd hb, Le_app hb, Le_rfl, free_T hb, free_upd]; done) | fail) only [go_sem, push_cast, and_pos, Le_updF, Le_upd hb, free_T hb]
  refine tr_fill (α := GEquation) hb xs (fun i => [(0, lst xs), (3, .slice (some ⟨Bd, 0, some 2⟩) xs.length (xs.length + 1)), (4, .int .i64 i)]) _ (zmake_len _ _) ⟨Nat.le_refl _, by omega⟩ (by simp only [go_sem, push_cast, and_pos, Le_updF]) (Le.refl _) ?_
  intro i L B hi hL hF hB hb'
  refine vq_conv pok (E := ((Env.base _).add 76 _ W76_ok)) (PL := []) (by kernel_rfl) ?_
  have hL' : L.length = xs.length * 2 := hL
  rcases Nat.lt_or_ge i xs.length with hlt | hge
  · have e1 : xs[i]? = some xs[i] := List.getElem?_eq_getElem hlt
    have hx := sm_mem h1 (List.getElem_mem hlt)
    have hx2 : tot xs[i] ≤ (xs.map tot).sum := tot_mem hlt
    simp (maxSteps := 2000000) (disch := first | assumption | (refine asm_intro ?_; assumption) | exact Nat.le_add_right _ _ | exact Nat.le_refl _ | omega | (simp (disch := first | exact Nat.le_add_right _ _ | omega) only [Le_upd hb, Le_app hb, Le_rfl, free_T hb, free_upd]; done) | fail) only [go_sem, push_cast, and_pos, Le_updF, Le_upd hb, free_T hb, e1, hx]
    exact ⟨_, rfl, Le.refl _⟩
  · simp (maxSteps := 2000000) (disch := first | assumption | (refine asm_intro ?_; assumption) | exact Nat.le_add_right _ _ | exact Nat.le_refl _ | omega | (simp (disch := first | exact Nat.le_add_right _ _ | omega) only [Le_upd hb, Le_app hb, Le_rfl, free_T hb, free_upd]; done) | fail) only [go_sem, push_cast, and_pos, Le_updF, Le_upd hb, free_T hb]
    have hf : L = flat xs := by
      rw [List.take_of_length_le (by rw [hL]; exact Nat.mul_le_mul_right _ hge), List.take_of_length_le hge] at hF
      exact hF
    subst hf
    refine Tr.fin hb 3 (Nat.le_refl Bd) (by simp only [go_sem, push_cast, and_pos, Le_updF]; rfl) rfl ?_
    refine vq_conv pok (E := ((Env.base _).add 76 _ W76_ok)) (PL := []) (by kernel_rfl) ?_
    simp (maxSteps := 2000000) (disch := first | assumption | (refine asm_intro ?_; assumption) | exact Nat.le_add_right _ _ | exact Nat.le_refl _ | omega | (simp (disch := first | exact Nat.le_add_right _ _ | omega) only [Le_upd hb, Le_app hb, Le_rfl, free_T hb, free_upd]; done) | fail) only [go_sem, push_cast, and_pos, Le_updF, Le_upd hb, free_T hb]
def W18 : Trans := fun args H Bd K => ∃ (x : GTheory), args = [.agg (enc (x)).toArray] ∧ ((sm x ∧ tot x ≤ 1048576) ∧ K (.agg (enc (x)).toArray) H Bd)
@[go_sem ↓] theorem W18_eq (x_order : List Int) (x_equations : List GEquation) (x_rules : List GEquation) (H : AH) (Bd : Nat) (K : Value → AH → Nat → Prop) : W18 [.agg #[lst (x_order), lst (x_equations), lst (x_rules)]] H Bd K = ((sm (GTheory.mk x_order x_equations x_rules) ∧ tot (GTheory.mk x_order x_equations x_rules) ≤ 1048576) ∧ K (.agg (enc ((GTheory.mk x_order x_equations x_rules))).toArray) H Bd) := by
  refine propext ⟨fun h => ?_, fun h => ⟨_, rfl, h⟩⟩
  obtain ⟨x', e, h⟩ := h
  obtain ⟨xorder', xequations', xrules'⟩ := x'
  simp only [enc_GTheory, List.cons.injEq, Value.agg.injEq, toArr_inj, Value.int.injEq, Value.bool.injEq, Value.string.injEq, Value.slice.injEq, Value.func.injEq, Value.pointer.injEq, Option.some.injEq, Addr.mk.injEq, lst_inj, true_and, and_true] at e
  obtain ⟨rfl, rfl, rfl⟩ := e
  exact h
theorem W18_ok : OK 18 W18 := by
  rintro args H Bd K ⟨x, rfl, hpre, hK⟩
  refine fn_pure pok (((Env.base _).add 44 _ W44_ok).add 45 _ W45_ok) [] _ hK Tryz.func18 rfl (rs := [.cell 2 40]) rfl Tryz.ntmps18 (by simp) Tryz.call18 (by kernel_rfl) (fun ha hb => agg_nb _ _) (fun hb ha => ?_)
  obtain ⟨h1, h2⟩ := hpre
  simp only [sm_GTheory] at h1
  simp only [tot_GTheory] at h2
  simp (maxSteps := 2000000) (disch := first | assumption | (refine asm_intro ?_; assumption) | exact Nat.le_add_right _ _ | exact Nat.le_refl _ | omega | (simp (disch := first | exact Nat.le_add_right _ _ | omega) only [Le_upd hb, Le_app hb, Le_rfl, free_T hb, free_upd]; done) | fail) only [go_sem, push_cast, and_pos, Le_updF, Le_upd hb, free_T hb, h1]
def W19 : Trans := fun args H Bd K => ∃ (xs : List UInt8), args = [lst (xs)] ∧ ((sm xs ∧ tot xs ≤ 1048576) ∧ K (lst (xs)) H Bd)
@[go_sem ↓] theorem W19_eq (xs : List UInt8) (H : AH) (Bd : Nat) (K : Value → AH → Nat → Prop) : W19 [lst (xs)] H Bd K = ((sm xs ∧ tot xs ≤ 1048576) ∧ K (lst (xs)) H Bd) := by
  refine propext ⟨fun h => ?_, fun h => ⟨_, rfl, h⟩⟩
  obtain ⟨xs', e, h⟩ := h
  skip
  simp only [List.cons.injEq, Value.agg.injEq, toArr_inj, Value.int.injEq, Value.bool.injEq, Value.string.injEq, Value.slice.injEq, Value.func.injEq, Value.pointer.injEq, Option.some.injEq, Addr.mk.injEq, lst_inj, true_and, and_true] at e
  obtain rfl := e
  exact h
theorem W19_ok : OK 19 W19 := by
  rintro args H Bd K ⟨xs, rfl, hpre, hK⟩
  refine fn_pure pok (Env.base _) [] _ hK Tryz.func19 rfl (rs := [.tmp 2]) rfl Tryz.ntmps19 (by simp) Tryz.call19 (by kernel_rfl) (fun ha hb => lst_nb _ _) (fun hb ha => ?_)
  obtain ⟨h1, h2⟩ := hpre
  have e : tot xs = xs.length + (xs.map tot).sum := tot_list xs
  simp (maxSteps := 2000000) (disch := first | assumption | (refine asm_intro ?_; assumption) | exact Nat.le_add_right _ _ | exact Nat.le_refl _ | omega | (simp (disch := first | exact Nat.le_add_right _ _ | omega) only [Le_upd hb, Le_app hb, Le_rfl, free_T hb, free_upd]; done) | fail) only [go_sem, push_cast, and_pos, Le_updF, Le_upd hb, free_T hb]
  refine tr_fill (α := UInt8) hb xs (fun i => [(0, lst xs), (3, .slice (some ⟨Bd, 0, some 1⟩) xs.length (xs.length + 1)), (4, .int .i64 i)]) _ (zmake_len _ _) ⟨Nat.le_refl _, by omega⟩ (by simp only [go_sem, push_cast, and_pos, Le_updF]) (Le.refl _) ?_
  intro i L B hi hL hF hB hb'
  refine vq_conv pok (E := (Env.base _)) (PL := []) (by kernel_rfl) ?_
  have hL' : L.length = xs.length * 1 := hL
  rcases Nat.lt_or_ge i xs.length with hlt | hge
  · have e1 : xs[i]? = some xs[i] := List.getElem?_eq_getElem hlt
    have hx := sm_mem h1 (List.getElem_mem hlt)
    have hx2 : tot xs[i] ≤ (xs.map tot).sum := tot_mem hlt
    simp (maxSteps := 2000000) (disch := first | assumption | (refine asm_intro ?_; assumption) | exact Nat.le_add_right _ _ | exact Nat.le_refl _ | omega | (simp (disch := first | exact Nat.le_add_right _ _ | omega) only [Le_upd hb, Le_app hb, Le_rfl, free_T hb, free_upd]; done) | fail) only [go_sem, push_cast, and_pos, Le_updF, Le_upd hb, free_T hb, e1, hx]
    exact ⟨_, rfl, Le.refl _⟩
  · simp (maxSteps := 2000000) (disch := first | assumption | (refine asm_intro ?_; assumption) | exact Nat.le_add_right _ _ | exact Nat.le_refl _ | omega | (simp (disch := first | exact Nat.le_add_right _ _ | omega) only [Le_upd hb, Le_app hb, Le_rfl, free_T hb, free_upd]; done) | fail) only [go_sem, push_cast, and_pos, Le_updF, Le_upd hb, free_T hb]
    have hf : L = flat xs := by
      rw [List.take_of_length_le (by rw [hL]; exact Nat.mul_le_mul_right _ hge), List.take_of_length_le hge] at hF
      exact hF
    subst hf
    refine Tr.fin hb 3 (Nat.le_refl Bd) (by simp only [go_sem, push_cast, and_pos, Le_updF]; rfl) rfl ?_
    refine vq_conv pok (E := (Env.base _)) (PL := []) (by kernel_rfl) ?_
    simp (maxSteps := 2000000) (disch := first | assumption | (refine asm_intro ?_; assumption) | exact Nat.le_add_right _ _ | exact Nat.le_refl _ | omega | (simp (disch := first | exact Nat.le_add_right _ _ | omega) only [Le_upd hb, Le_app hb, Le_rfl, free_T hb, free_upd]; done) | fail) only [go_sem, push_cast, and_pos, Le_updF, Le_upd hb, free_T hb]
def W46 : Trans := fun args H Bd K => ∃ (x : GRecord), args = [.agg (enc (x)).toArray] ∧ ((sm x ∧ tot x ≤ 1048576) ∧ K (.agg (enc (x)).toArray) H Bd)
@[go_sem ↓] theorem W46_eq (x_term : List Int) (x_value : Int) (H : AH) (Bd : Nat) (K : Value → AH → Nat → Prop) : W46 [.agg #[lst (x_term), .int .i64 (x_value)]] H Bd K = ((sm (GRecord.mk x_term x_value) ∧ tot (GRecord.mk x_term x_value) ≤ 1048576) ∧ K (.agg (enc ((GRecord.mk x_term x_value))).toArray) H Bd) := by
  refine propext ⟨fun h => ?_, fun h => ⟨_, rfl, h⟩⟩
  obtain ⟨x', e, h⟩ := h
  obtain ⟨xterm', xvalue'⟩ := x'
  simp only [enc_GRecord, List.cons.injEq, Value.agg.injEq, toArr_inj, Value.int.injEq, Value.bool.injEq, Value.string.injEq, Value.slice.injEq, Value.func.injEq, Value.pointer.injEq, Option.some.injEq, Addr.mk.injEq, lst_inj, true_and, and_true] at e
  obtain ⟨rfl, rfl⟩ := e
  exact h
theorem W46_ok : OK 46 W46 := by
  rintro args H Bd K ⟨x, rfl, hpre, hK⟩
  refine fn_pure pok ((Env.base _).add 44 _ W44_ok) [] _ hK Tryz.func46 rfl (rs := [.cell 2 64]) rfl Tryz.ntmps46 (by simp) Tryz.call46 (by kernel_rfl) (fun ha hb => agg_nb _ _) (fun hb ha => ?_)
  obtain ⟨h1, h2⟩ := hpre
  simp only [sm_GRecord] at h1
  simp only [tot_GRecord] at h2
  simp (maxSteps := 2000000) (disch := first | assumption | (refine asm_intro ?_; assumption) | exact Nat.le_add_right _ _ | exact Nat.le_refl _ | omega | (simp (disch := first | exact Nat.le_add_right _ _ | omega) only [Le_upd hb, Le_app hb, Le_rfl, free_T hb, free_upd]; done) | fail) only [go_sem, push_cast, and_pos, Le_updF, Le_upd hb, free_T hb, h1]
def W20 : Trans := fun args H Bd K => ∃ (xs : List GRecord), args = [lst (xs)] ∧ ((sm xs ∧ tot xs ≤ 1048576) ∧ K (lst (xs)) H Bd)
@[go_sem ↓] theorem W20_eq (xs : List GRecord) (H : AH) (Bd : Nat) (K : Value → AH → Nat → Prop) : W20 [lst (xs)] H Bd K = ((sm xs ∧ tot xs ≤ 1048576) ∧ K (lst (xs)) H Bd) := by
  refine propext ⟨fun h => ?_, fun h => ⟨_, rfl, h⟩⟩
  obtain ⟨xs', e, h⟩ := h
  skip
  simp only [List.cons.injEq, Value.agg.injEq, toArr_inj, Value.int.injEq, Value.bool.injEq, Value.string.injEq, Value.slice.injEq, Value.func.injEq, Value.pointer.injEq, Option.some.injEq, Addr.mk.injEq, lst_inj, true_and, and_true] at e
  obtain rfl := e
  exact h
theorem W20_ok : OK 20 W20 := by
  rintro args H Bd K ⟨xs, rfl, hpre, hK⟩
  refine fn_pure pok ((Env.base _).add 46 _ W46_ok) [] _ hK Tryz.func20 rfl (rs := [.tmp 2]) rfl Tryz.ntmps20 (by simp) Tryz.call20 (by kernel_rfl) (fun ha hb => lst_nb _ _) (fun hb ha => ?_)
  obtain ⟨h1, h2⟩ := hpre
  have e : tot xs = xs.length + (xs.map tot).sum := tot_list xs
  simp (maxSteps := 2000000) (disch := first | assumption | (refine asm_intro ?_; assumption) | exact Nat.le_add_right _ _ | exact Nat.le_refl _ | omega | (simp (disch := first | exact Nat.le_add_right _ _ | omega) only [Le_upd hb, Le_app hb, Le_rfl, free_T hb, free_upd]; done) | fail) only [go_sem, push_cast, and_pos, Le_updF, Le_upd hb, free_T hb]
  refine tr_fill (α := GRecord) hb xs (fun i => [(0, lst xs), (3, .slice (some ⟨Bd, 0, some 2⟩) xs.length (xs.length + 1)), (4, .int .i64 i)]) _ (zmake_len _ _) ⟨Nat.le_refl _, by omega⟩ (by simp only [go_sem, push_cast, and_pos, Le_updF]) (Le.refl _) ?_
  intro i L B hi hL hF hB hb'
  refine vq_conv pok (E := ((Env.base _).add 46 _ W46_ok)) (PL := []) (by kernel_rfl) ?_
  have hL' : L.length = xs.length * 2 := hL
  rcases Nat.lt_or_ge i xs.length with hlt | hge
  · have e1 : xs[i]? = some xs[i] := List.getElem?_eq_getElem hlt
    have hx := sm_mem h1 (List.getElem_mem hlt)
    have hx2 : tot xs[i] ≤ (xs.map tot).sum := tot_mem hlt
    simp (maxSteps := 2000000) (disch := first | assumption | (refine asm_intro ?_; assumption) | exact Nat.le_add_right _ _ | exact Nat.le_refl _ | omega | (simp (disch := first | exact Nat.le_add_right _ _ | omega) only [Le_upd hb, Le_app hb, Le_rfl, free_T hb, free_upd]; done) | fail) only [go_sem, push_cast, and_pos, Le_updF, Le_upd hb, free_T hb, e1, hx]
    exact ⟨_, rfl, Le.refl _⟩
  · simp (maxSteps := 2000000) (disch := first | assumption | (refine asm_intro ?_; assumption) | exact Nat.le_add_right _ _ | exact Nat.le_refl _ | omega | (simp (disch := first | exact Nat.le_add_right _ _ | omega) only [Le_upd hb, Le_app hb, Le_rfl, free_T hb, free_upd]; done) | fail) only [go_sem, push_cast, and_pos, Le_updF, Le_upd hb, free_T hb]
    have hf : L = flat xs := by
      rw [List.take_of_length_le (by rw [hL]; exact Nat.mul_le_mul_right _ hge), List.take_of_length_le hge] at hF
      exact hF
    subst hf
    refine Tr.fin hb 3 (Nat.le_refl Bd) (by simp only [go_sem, push_cast, and_pos, Le_updF]; rfl) rfl ?_
    refine vq_conv pok (E := ((Env.base _).add 46 _ W46_ok)) (PL := []) (by kernel_rfl) ?_
    simp (maxSteps := 2000000) (disch := first | assumption | (refine asm_intro ?_; assumption) | exact Nat.le_add_right _ _ | exact Nat.le_refl _ | omega | (simp (disch := first | exact Nat.le_add_right _ _ | omega) only [Le_upd hb, Le_app hb, Le_rfl, free_T hb, free_upd]; done) | fail) only [go_sem, push_cast, and_pos, Le_updF, Le_upd hb, free_T hb]
def W6 : Trans := fun args H Bd K => ∃ (x : GBook), args = [.agg (enc (x)).toArray] ∧ ((sm x ∧ tot x ≤ 1048576) ∧ K (.agg (enc (x)).toArray) H Bd)
@[go_sem ↓] theorem W6_eq (x_symbols_symbols : List GSymbol) (x_version : Int) (x_theory_order : List Int) (x_theory_equations : List GEquation) (x_theory_rules : List GEquation) (x_moving : Bool) (x_next_order : List Int) (x_next_equations : List GEquation) (x_next_rules : List GEquation) (x_cursor : List UInt8) (x_records : List GRecord) (H : AH) (Bd : Nat) (K : Value → AH → Nat → Prop) : W6 [.agg #[lst (x_symbols_symbols), .int .i64 (x_version), lst (x_theory_order), lst (x_theory_equations), lst (x_theory_rules), .bool (x_moving), lst (x_next_order), lst (x_next_equations), lst (x_next_rules), lst (x_cursor), lst (x_records)]] H Bd K = ((sm (GBook.mk (GSignature.mk x_symbols_symbols) x_version (GTheory.mk x_theory_order x_theory_equations x_theory_rules) x_moving (GTheory.mk x_next_order x_next_equations x_next_rules) x_cursor x_records) ∧ tot (GBook.mk (GSignature.mk x_symbols_symbols) x_version (GTheory.mk x_theory_order x_theory_equations x_theory_rules) x_moving (GTheory.mk x_next_order x_next_equations x_next_rules) x_cursor x_records) ≤ 1048576) ∧ K (.agg (enc ((GBook.mk (GSignature.mk x_symbols_symbols) x_version (GTheory.mk x_theory_order x_theory_equations x_theory_rules) x_moving (GTheory.mk x_next_order x_next_equations x_next_rules) x_cursor x_records))).toArray) H Bd) := by
  refine propext ⟨fun h => ?_, fun h => ⟨_, rfl, h⟩⟩
  obtain ⟨x', e, h⟩ := h
  obtain ⟨⟨xsymbolssymbols'⟩, xversion', ⟨xtheoryorder', xtheoryequations', xtheoryrules'⟩, xmoving', ⟨xnext_order', xnext_equations', xnext_rules'⟩, xcursor', xrecords'⟩ := x'
  simp only [enc_GBook, enc_GSignature, enc_GTheory, List.cons.injEq, Value.agg.injEq, toArr_inj, Value.int.injEq, Value.bool.injEq, Value.string.injEq, Value.slice.injEq, Value.func.injEq, Value.pointer.injEq, Option.some.injEq, Addr.mk.injEq, lst_inj, true_and, and_true] at e
  obtain ⟨rfl, rfl, rfl, rfl, rfl, rfl, rfl, rfl, rfl, rfl, rfl⟩ := e
  exact h
set_option maxHeartbeats 2000000 in
theorem W6_ok : OK 6 W6 := by
  rintro args H Bd K ⟨x, rfl, hpre, hK⟩
  refine fn_pure pok (((((Env.base _).add 17 _ W17_ok).add 18 _ W18_ok).add 19 _ W19_ok).add 20 _ W20_ok) [] _ hK Tryz.func6 rfl (rs := [.cell 2 43]) rfl Tryz.ntmps6 (by simp) Tryz.call6 (by kernel_rfl) (fun ha hb => agg_nb _ _) (fun hb ha => ?_)
  obtain ⟨h1, h2⟩ := hpre
  simp only [sm_GBook] at h1
  simp only [tot_GBook] at h2
  simp (maxSteps := 2000000) (disch := first | assumption | (refine asm_intro ?_; assumption) | exact Nat.le_add_right _ _ | exact Nat.le_refl _ | omega | (simp (disch := first | exact Nat.le_add_right _ _ | omega) only [Le_upd hb, Le_app hb, Le_rfl, free_T hb, free_upd]; done) | fail) only [go_sem, push_cast, and_pos, Le_updF, Le_upd hb, free_T hb, h1]
def W35 : Trans := fun args H Bd K => ∃ (s : ByteArray), args = [.string (s)] ∧ ((s.size ≤ 281474976710656) ∧ K (.bool (isNm s)) H Bd)
@[go_sem ↓] theorem W35_eq (s : ByteArray) (H : AH) (Bd : Nat) (K : Value → AH → Nat → Prop) : W35 [.string (s)] H Bd K = ((s.size ≤ 281474976710656) ∧ K (.bool (isNm s)) H Bd) := by
  refine propext ⟨fun h => ?_, fun h => ⟨_, rfl, h⟩⟩
  obtain ⟨s', e, h⟩ := h
  skip
  simp only [List.cons.injEq, Value.agg.injEq, toArr_inj, Value.int.injEq, Value.bool.injEq, Value.string.injEq, Value.slice.injEq, Value.func.injEq, Value.pointer.injEq, Option.some.injEq, Addr.mk.injEq, lst_inj, true_and, and_true] at e
  obtain rfl := e
  exact h
set_option maxHeartbeats 2000000 in
theorem W35_ok : OK 35 W35 := by
  rintro args H Bd K ⟨s, rfl, hpre, hK⟩
  refine fn_pure pok (Env.base _) [(1, [], [], (.k 4 (.grp false 7 10 3 [8, 9, 10] 11 none (.k 3 .nil) .nil))), (6, [], [], (.k 5 (.grp false 22 26 4 [23, 24, 25, 26] 27 none (.k 4 .nil) .nil)))] _ hK Tryz.func35 rfl (rs := [.tmp 2]) rfl Tryz.ntmps35 (by simp) Tryz.call35 (by kernel_rfl) (fun ha hb => .bool _) (fun hb ha => ?_)
  simp (maxSteps := 2000000) (disch := first | assumption | (refine asm_intro ?_; assumption) | exact Nat.le_add_right _ _ | exact Nat.le_refl _ | omega | (simp (disch := first | exact Nat.le_add_right _ _ | omega) only [Le_upd hb, Le_app hb, Le_rfl, free_T hb, free_upd]; done) | fail) only [go_sem, push_cast, and_pos, Le_updF, Le_upd hb, free_T hb]
  refine ⟨fun h => ?_, fun h1 h2 => ?_⟩
  · unfold isNm; grind
  refine tr_for (fun i => ∀ j, j < i → 97 ≤ byteAt s j ∧ byteAt s j ≤ 122) (s.size) (fun i => [(0, .string s), (3, .int .i64 i)]) (by simp) (by simp only [go_sem, push_cast, and_pos, Le_updF]) ?_
  intro i Bi hIi hii hBi
  refine vq_conv pok (E := (Env.base _)) (PL := [(1, [], [], (.k 4 (.grp false 7 10 3 [8, 9, 10] 11 none (.k 3 .nil) .nil))), (6, [], [], (.k 5 (.grp false 22 26 4 [23, 24, 25, 26] 27 none (.k 4 .nil) .nil)))]) (by kernel_rfl) ?_
  rcases Nat.lt_or_ge i (s.size) with hlti | hgei
  · simp (maxSteps := 2000000) (disch := first | assumption | (refine asm_intro ?_; assumption) | exact Nat.le_add_right _ _ | exact Nat.le_refl _ | omega | (simp (disch := first | exact Nat.le_add_right _ _ | omega) only [Le_upd hb, Le_app hb, Le_rfl, free_T hb, free_upd]; done) | fail) only [go_sem, push_cast, and_pos, Le_updF, Le_upd hb, free_T hb]
    unfold isNm
    all_goals first | done | trivial | ((try simp only [Cnp, Imp]); grind)
  · simp (maxSteps := 2000000) (disch := first | assumption | (refine asm_intro ?_; assumption) | exact Nat.le_add_right _ _ | exact Nat.le_refl _ | omega | (simp (disch := first | exact Nat.le_add_right _ _ | omega) only [Le_upd hb, Le_app hb, Le_rfl, free_T hb, free_upd]; done) | fail) only [go_sem, push_cast, and_pos, Le_updF, Le_upd hb, free_T hb]
    refine vq_conv pok (E := (Env.base _)) (PL := [(1, [], [], (.k 4 (.grp false 7 10 3 [8, 9, 10] 11 none (.k 3 .nil) .nil))), (6, [], [], (.k 5 (.grp false 22 26 4 [23, 24, 25, 26] 27 none (.k 4 .nil) .nil)))]) (by kernel_rfl) ?_
    simp (maxSteps := 2000000) (disch := first | assumption | (refine asm_intro ?_; assumption) | exact Nat.le_add_right _ _ | exact Nat.le_refl _ | omega | (simp (disch := first | exact Nat.le_add_right _ _ | omega) only [Le_upd hb, Le_app hb, Le_rfl, free_T hb, free_upd]; done) | fail) only [go_sem, push_cast, and_pos, Le_updF, Le_upd hb, free_T hb]
    unfold isNm
    all_goals first | done | trivial | ((try simp only [Cnp, Imp]); grind)
def W14 : Trans := fun args H Bd K => ∃ (n : Int) (low : Int) (high : Int), args = [.int .i64 (n), .int .i64 (low), .int .i64 (high)] ∧ (K (.bool (decide (low ≤ n ∧ n ≤ high))) H Bd)
@[go_sem ↓] theorem W14_eq (n : Int) (low : Int) (high : Int) (H : AH) (Bd : Nat) (K : Value → AH → Nat → Prop) : W14 [.int .i64 (n), .int .i64 (low), .int .i64 (high)] H Bd K = (K (.bool (decide (low ≤ n ∧ n ≤ high))) H Bd) := by
  refine propext ⟨fun h => ?_, fun h => ⟨_, _, _, rfl, h⟩⟩
  obtain ⟨n', low', high', e, h⟩ := h
  skip
  skip
  skip
  simp only [List.cons.injEq, Value.agg.injEq, toArr_inj, Value.int.injEq, Value.bool.injEq, Value.string.injEq, Value.slice.injEq, Value.func.injEq, Value.pointer.injEq, Option.some.injEq, Addr.mk.injEq, lst_inj, true_and, and_true] at e
  obtain ⟨rfl, rfl, rfl⟩ := e
  exact h
theorem W14_ok : OK 14 W14 := by
  rintro args H Bd K ⟨n, low, high, rfl, hK⟩
  refine fn_pure pok (Env.base _) [(1, [], [], (.k 4 (.grp true 10 13 3 [11, 12, 13] 14 none (.k 3 .nil) (.k 1 .nil))))] _ hK Tryz.func14 rfl (rs := [.tmp 6]) rfl Tryz.ntmps14 (by simp) Tryz.call14 (by kernel_rfl) (fun ha hb => .bool _) (fun hb ha => ?_)
  simp (maxSteps := 2000000) (disch := first | assumption | (refine asm_intro ?_; assumption) | exact Nat.le_add_right _ _ | exact Nat.le_refl _ | omega | (simp (disch := first | exact Nat.le_add_right _ _ | omega) only [Le_upd hb, Le_app hb, Le_rfl, free_T hb, free_upd]; done) | fail) only [go_sem, push_cast, and_pos, Le_updF, Le_upd hb, free_T hb]
  all_goals first | done | trivial | ((try simp only [Cnp, Imp]); grind)
def W13 : Trans := fun args H Bd K => ∃ (s : GSignature), args = [.agg (enc (s)).toArray] ∧ ((sm s) ∧ K (.int .i64 (sigF s)) H Bd)
@[go_sem ↓] theorem W13_eq (s_symbols : List GSymbol) (H : AH) (Bd : Nat) (K : Value → AH → Nat → Prop) : W13 [.agg #[lst (s_symbols)]] H Bd K = ((sm (GSignature.mk s_symbols)) ∧ K (.int .i64 (sigF (GSignature.mk s_symbols))) H Bd) := by
  refine propext ⟨fun h => ?_, fun h => ⟨_, rfl, h⟩⟩
  obtain ⟨s', e, h⟩ := h
  obtain ⟨ssymbols'⟩ := s'
  simp only [enc_GSignature, List.cons.injEq, Value.agg.injEq, toArr_inj, Value.int.injEq, Value.bool.injEq, Value.string.injEq, Value.slice.injEq, Value.func.injEq, Value.pointer.injEq, Option.some.injEq, Addr.mk.injEq, lst_inj, true_and, and_true] at e
  obtain rfl := e
  exact h
set_option maxHeartbeats 2000000 in
theorem W13_ok : OK 13 W13 := by
  rintro args H Bd K ⟨s, rfl, hpre, hK⟩
  refine fn_pure pok (((Env.base _).add 35 _ W35_ok).add 14 _ W14_ok) [(2, [], [], (.k 3 (.grp false 13 15 2 [14, 15] 16 none (.k 2 .nil) .nil))), (17, [0,1,2,3,4,5,6,7,8,9,10,11,12], [⟨0, [], []⟩, ⟨1, [], []⟩, ⟨2, [], []⟩, ⟨3, [], []⟩, ⟨4, [], []⟩, ⟨5, [], []⟩, ⟨6, [], []⟩, ⟨7, [], []⟩, ⟨8, [], []⟩, ⟨9, [], []⟩, ⟨10, [], []⟩, ⟨11, [], []⟩, ⟨12, [], []⟩], .nil)] _ hK Tryz.func13 rfl (rs := [.tmp 2]) rfl Tryz.ntmps13 (by simp) Tryz.call13 (by kernel_rfl) (fun ha hb => .int _ _) (fun hb ha => ?_)
  simp only [sm_GSignature] at hpre
  have hlen := sm_len hpre
  simp (maxSteps := 2000000) (disch := first | assumption | (refine asm_intro ?_; assumption) | exact Nat.le_add_right _ _ | exact Nat.le_refl _ | omega | (simp (disch := first | exact Nat.le_add_right _ _ | omega) only [Le_upd hb, Le_app hb, Le_rfl, free_T hb, free_upd]; done) | fail) only [go_sem, push_cast, and_pos, Le_updF, Le_upd hb, free_T hb]
  refine ⟨fun h => by unfold sigF; rw [if_pos (by omega)], fun h1 h2 => ?_⟩
  have hs : sigF s = sigG s := by unfold sigF; rw [if_neg (by omega)]
  rw [hs]
  refine tr_for (fun i => symL (s.symbols.drop i) = symL s.symbols) (s.symbols.length) (fun i => [(1, .pointer (some ⟨Bd, 0, none⟩)), (3, .int .i64 s.symbols.length), (4, .int .i64 i)]) (by simp) (by simp only [go_sem, push_cast, and_pos, Le_updF]) ?_
  intro i Bi hIi hii hBi
  refine vq_conv pok (E := (((Env.base _).add 35 _ W35_ok).add 14 _ W14_ok)) (PL := [(2, [], [], (.k 3 (.grp false 13 15 2 [14, 15] 16 none (.k 2 .nil) .nil))), (17, [0,1,2,3,4,5,6,7,8,9,10,11,12], [⟨0, [], []⟩, ⟨1, [], []⟩, ⟨2, [], []⟩, ⟨3, [], []⟩, ⟨4, [], []⟩, ⟨5, [], []⟩, ⟨6, [], []⟩, ⟨7, [], []⟩, ⟨8, [], []⟩, ⟨9, [], []⟩, ⟨10, [], []⟩, ⟨11, [], []⟩, ⟨12, [], []⟩], .nil)]) (by kernel_rfl) ?_
  rcases Nat.lt_or_ge i (s.symbols.length) with hlti | hgei
  · have e1 : s.symbols[i]? = some s.symbols[i] := List.getElem?_eq_getElem hlti
    have hd := List.drop_eq_getElem_cons hlti
    have hx := sm_mem hpre (List.getElem_mem hlti)
    simp only [sm_GSymbol, sm_str, sm_int, and_true] at hx
    rw [hd, symL] at hIi
    simp (maxSteps := 2000000) (disch := first | assumption | (refine asm_intro ?_; assumption) | exact Nat.le_add_right _ _ | exact Nat.le_refl _ | omega | (simp (disch := first | exact Nat.le_add_right _ _ | omega) only [Le_upd hb, Le_app hb, Le_rfl, free_T hb, free_upd]; done) | fail) only [go_sem, push_cast, and_pos, Le_updF, Le_upd hb, free_T hb, e1, hx]
    generalize symL (List.drop (i + 1) s.symbols) = q at *
    unfold sigG
    all_goals first | done | trivial | ((try simp only [Cnp, Imp]); grind)
  · simp (maxSteps := 2000000) (disch := first | assumption | (refine asm_intro ?_; assumption) | exact Nat.le_add_right _ _ | exact Nat.le_refl _ | omega | (simp (disch := first | exact Nat.le_add_right _ _ | omega) only [Le_upd hb, Le_app hb, Le_rfl, free_T hb, free_upd]; done) | fail) only [go_sem, push_cast, and_pos, Le_updF, Le_upd hb, free_T hb]
    refine vq_conv pok (E := (((Env.base _).add 35 _ W35_ok).add 14 _ W14_ok)) (PL := [(2, [], [], (.k 3 (.grp false 13 15 2 [14, 15] 16 none (.k 2 .nil) .nil))), (17, [0,1,2,3,4,5,6,7,8,9,10,11,12], [⟨0, [], []⟩, ⟨1, [], []⟩, ⟨2, [], []⟩, ⟨3, [], []⟩, ⟨4, [], []⟩, ⟨5, [], []⟩, ⟨6, [], []⟩, ⟨7, [], []⟩, ⟨8, [], []⟩, ⟨9, [], []⟩, ⟨10, [], []⟩, ⟨11, [], []⟩, ⟨12, [], []⟩], .nil)]) (by kernel_rfl) ?_
    simp (maxSteps := 2000000) (disch := first | assumption | (refine asm_intro ?_; assumption) | exact Nat.le_add_right _ _ | exact Nat.le_refl _ | omega | (simp (disch := first | exact Nat.le_add_right _ _ | omega) only [Le_upd hb, Le_app hb, Le_rfl, free_T hb, free_upd]; done) | fail) only [go_sem, push_cast, and_pos, Le_updF, Le_upd hb, free_T hb]
    have h0 : symL s.symbols = 0 := by rw [← hIi, List.drop_of_length_le hgei]; rfl
    refine tr_for (fun j => ∀ a b x y, b < a → a < j → s.symbols[a]? = some x → s.symbols[b]? = some y → x.name ≠ y.name) (s.symbols.length) (fun j => [(1, .pointer (some ⟨Bd, 0, none⟩)), (3, .int .i64 s.symbols.length), (5, .int .i64 j)]) (by simp) (by simp only [go_sem, push_cast, and_pos, Le_updF]) ?_
    intro j Bj hIj hij hBj
    refine vq_conv pok (E := (((Env.base _).add 35 _ W35_ok).add 14 _ W14_ok)) (PL := [(2, [], [], (.k 3 (.grp false 13 15 2 [14, 15] 16 none (.k 2 .nil) .nil))), (17, [0,1,2,3,4,5,6,7,8,9,10,11,12], [⟨0, [], []⟩, ⟨1, [], []⟩, ⟨2, [], []⟩, ⟨3, [], []⟩, ⟨4, [], []⟩, ⟨5, [], []⟩, ⟨6, [], []⟩, ⟨7, [], []⟩, ⟨8, [], []⟩, ⟨9, [], []⟩, ⟨10, [], []⟩, ⟨11, [], []⟩, ⟨12, [], []⟩], .nil)]) (by kernel_rfl) ?_
    rcases Nat.lt_or_ge j (s.symbols.length) with hltj | hgej
    · have e1 : s.symbols[j]? = some s.symbols[j] := List.getElem?_eq_getElem hltj
      simp (maxSteps := 2000000) (disch := first | assumption | (refine asm_intro ?_; assumption) | exact Nat.le_add_right _ _ | exact Nat.le_refl _ | omega | (simp (disch := first | exact Nat.le_add_right _ _ | omega) only [Le_upd hb, Le_app hb, Le_rfl, free_T hb, free_upd]; done) | fail) only [go_sem, push_cast, and_pos, Le_updF, Le_upd hb, free_T hb, e1]
      refine tr_for (fun k => ∀ b y, b < k → s.symbols[b]? = some y → s.symbols[j].name ≠ y.name) (j) (fun k => [(1, .pointer (some ⟨Bd, 0, none⟩)), (3, .int .i64 s.symbols.length), (5, .int .i64 j), (6, .int .i64 k)]) (by simp) (by simp only [go_sem, push_cast, and_pos, Le_updF]) ?_
      intro k Bk hIk hik hBk
      refine vq_conv pok (E := (((Env.base _).add 35 _ W35_ok).add 14 _ W14_ok)) (PL := [(2, [], [], (.k 3 (.grp false 13 15 2 [14, 15] 16 none (.k 2 .nil) .nil))), (17, [0,1,2,3,4,5,6,7,8,9,10,11,12], [⟨0, [], []⟩, ⟨1, [], []⟩, ⟨2, [], []⟩, ⟨3, [], []⟩, ⟨4, [], []⟩, ⟨5, [], []⟩, ⟨6, [], []⟩, ⟨7, [], []⟩, ⟨8, [], []⟩, ⟨9, [], []⟩, ⟨10, [], []⟩, ⟨11, [], []⟩, ⟨12, [], []⟩], .nil)]) (by kernel_rfl) ?_
      rcases Nat.lt_or_ge k (j) with hltk | hgek
      · have e2 : s.symbols[k]? = some (s.symbols[k]'(by omega)) := List.getElem?_eq_getElem _
        simp (maxSteps := 2000000) (disch := first | assumption | (refine asm_intro ?_; assumption) | exact Nat.le_add_right _ _ | exact Nat.le_refl _ | omega | (simp (disch := first | exact Nat.le_add_right _ _ | omega) only [Le_upd hb, Le_app hb, Le_rfl, free_T hb, free_upd]; done) | fail) only [go_sem, push_cast, and_pos, Le_updF, Le_upd hb, free_T hb, e1, e2]
        refine ⟨fun h => ?_, fun h => fun b y hb1 hb2 => ?_⟩
        · unfold sigG
          rw [if_neg (by simp [h0]), if_pos (nodup_map_not hltk hltj h)]
        · by_cases e : b = k
          · subst e; rw [e2] at hb2; cases hb2; exact h
          · exact hIk b y (by omega) hb2
      · simp (maxSteps := 2000000) (disch := first | assumption | (refine asm_intro ?_; assumption) | exact Nat.le_add_right _ _ | exact Nat.le_refl _ | omega | (simp (disch := first | exact Nat.le_add_right _ _ | omega) only [Le_upd hb, Le_app hb, Le_rfl, free_T hb, free_upd]; done) | fail) only [go_sem, push_cast, and_pos, Le_updF, Le_upd hb, free_T hb]
        intro a b x y h1 h2 h3 h4
        by_cases e : a = j
        · subst e; rw [e1] at h3; cases h3; exact hIk b y (by omega) h4
        · exact hIj a b x y h1 (by omega) h3 h4
    · simp (maxSteps := 2000000) (disch := first | assumption | (refine asm_intro ?_; assumption) | exact Nat.le_add_right _ _ | exact Nat.le_refl _ | omega | (simp (disch := first | exact Nat.le_add_right _ _ | omega) only [Le_upd hb, Le_app hb, Le_rfl, free_T hb, free_upd]; done) | fail) only [go_sem, push_cast, and_pos, Le_updF, Le_upd hb, free_T hb]
      refine vq_conv pok (E := (((Env.base _).add 35 _ W35_ok).add 14 _ W14_ok)) (PL := [(2, [], [], (.k 3 (.grp false 13 15 2 [14, 15] 16 none (.k 2 .nil) .nil))), (17, [0,1,2,3,4,5,6,7,8,9,10,11,12], [⟨0, [], []⟩, ⟨1, [], []⟩, ⟨2, [], []⟩, ⟨3, [], []⟩, ⟨4, [], []⟩, ⟨5, [], []⟩, ⟨6, [], []⟩, ⟨7, [], []⟩, ⟨8, [], []⟩, ⟨9, [], []⟩, ⟨10, [], []⟩, ⟨11, [], []⟩, ⟨12, [], []⟩], .nil)]) (by kernel_rfl) ?_
      simp (maxSteps := 2000000) (disch := first | assumption | (refine asm_intro ?_; assumption) | exact Nat.le_add_right _ _ | exact Nat.le_refl _ | omega | (simp (disch := first | exact Nat.le_add_right _ _ | omega) only [Le_upd hb, Le_app hb, Le_rfl, free_T hb, free_upd]; done) | fail) only [go_sem, push_cast, and_pos, Le_updF, Le_upd hb, free_T hb]
      have h7 : (s.symbols.map (·.name)).Nodup := nodup_map fun i j x y h1 h2 h3 h4 => hIj i j x y h1 (by omega) h3 h4
      have hg : sigG s = if s.symbols.any (fun x => decide (x.arity = 0)) = true then 0 else 4 := by
        unfold sigG
        rw [if_neg (by simp [h0]), if_neg (by simp [h7])]
      rw [hg]
      refine tr_for (fun l => ∀ b, b < l → ∀ y, s.symbols[b]? = some y → decide (y.arity = 0) = false) (s.symbols.length) (fun l => [(1, .pointer (some ⟨Bd, 0, none⟩)), (3, .int .i64 s.symbols.length), (7, .int .i64 l)]) (by simp) (by simp only [go_sem, push_cast, and_pos, Le_updF]) ?_
      intro l Bl hIl hil hBl
      refine vq_conv pok (E := (((Env.base _).add 35 _ W35_ok).add 14 _ W14_ok)) (PL := [(2, [], [], (.k 3 (.grp false 13 15 2 [14, 15] 16 none (.k 2 .nil) .nil))), (17, [0,1,2,3,4,5,6,7,8,9,10,11,12], [⟨0, [], []⟩, ⟨1, [], []⟩, ⟨2, [], []⟩, ⟨3, [], []⟩, ⟨4, [], []⟩, ⟨5, [], []⟩, ⟨6, [], []⟩, ⟨7, [], []⟩, ⟨8, [], []⟩, ⟨9, [], []⟩, ⟨10, [], []⟩, ⟨11, [], []⟩, ⟨12, [], []⟩], .nil)]) (by kernel_rfl) ?_
      rcases Nat.lt_or_ge l (s.symbols.length) with hltl | hgel
      · have e2 : s.symbols[l]? = some s.symbols[l] := List.getElem?_eq_getElem hltl
        simp (maxSteps := 2000000) (disch := first | assumption | (refine asm_intro ?_; assumption) | exact Nat.le_add_right _ _ | exact Nat.le_refl _ | omega | (simp (disch := first | exact Nat.le_add_right _ _ | omega) only [Le_upd hb, Le_app hb, Le_rfl, free_T hb, free_upd]; done) | fail) only [go_sem, push_cast, and_pos, Le_updF, Le_upd hb, free_T hb, e2]
        refine ⟨fun h => ?_, fun h => fun b hb1 y hb2 => ?_⟩
        · rw [if_pos (any_hit hltl (by simpa using h))]
        · by_cases e : b = l
          · subst e; rw [e2] at hb2; cases hb2; simpa using h
          · simpa using hIl b (by omega) y hb2
      · simp (maxSteps := 2000000) (disch := first | assumption | (refine asm_intro ?_; assumption) | exact Nat.le_add_right _ _ | exact Nat.le_refl _ | omega | (simp (disch := first | exact Nat.le_add_right _ _ | omega) only [Le_upd hb, Le_app hb, Le_rfl, free_T hb, free_upd]; done) | fail) only [go_sem, push_cast, and_pos, Le_updF, Le_upd hb, free_T hb]
        refine vq_conv pok (E := (((Env.base _).add 35 _ W35_ok).add 14 _ W14_ok)) (PL := [(2, [], [], (.k 3 (.grp false 13 15 2 [14, 15] 16 none (.k 2 .nil) .nil))), (17, [0,1,2,3,4,5,6,7,8,9,10,11,12], [⟨0, [], []⟩, ⟨1, [], []⟩, ⟨2, [], []⟩, ⟨3, [], []⟩, ⟨4, [], []⟩, ⟨5, [], []⟩, ⟨6, [], []⟩, ⟨7, [], []⟩, ⟨8, [], []⟩, ⟨9, [], []⟩, ⟨10, [], []⟩, ⟨11, [], []⟩, ⟨12, [], []⟩], .nil)]) (by kernel_rfl) ?_
        simp (maxSteps := 2000000) (disch := first | assumption | (refine asm_intro ?_; assumption) | exact Nat.le_add_right _ _ | exact Nat.le_refl _ | omega | (simp (disch := first | exact Nat.le_add_right _ _ | omega) only [Le_upd hb, Le_app hb, Le_rfl, free_T hb, free_upd]; done) | fail) only [go_sem, push_cast, and_pos, Le_updF, Le_upd hb, free_T hb]
        rw [if_neg (by rw [any_false fun j hj x hx => hIl j (by omega) x hx]; simp)]
def V69 : Trans := fun args H Bd K => ∃ (s : GSignature) (n : Int), args = [.agg (enc (s)).toArray, .int .i64 (n)] ∧ ((sm s ∧ R64 n) ∧ K (.bool (isSym s n)) H Bd)
@[go_sem ↓] theorem V69_eq (s_symbols : List GSymbol) (n : Int) (H : AH) (Bd : Nat) (K : Value → AH → Nat → Prop) : V69 [.agg #[lst (s_symbols)], .int .i64 (n)] H Bd K = ((sm (GSignature.mk s_symbols) ∧ R64 n) ∧ K (.bool (isSym (GSignature.mk s_symbols) n)) H Bd) := by
  refine propext ⟨fun h => ?_, fun h => ⟨_, _, rfl, h⟩⟩
  obtain ⟨s', n', e, h⟩ := h
  obtain ⟨ssymbols'⟩ := s'
  skip
  simp only [enc_GSignature, enc_int, enc_str, enc_list, enc_bool, enc_byte, List.cons.injEq, Value.agg.injEq, toArr_inj, Value.int.injEq, Value.bool.injEq, Value.string.injEq, Value.slice.injEq, Value.func.injEq, Value.pointer.injEq, Option.some.injEq, Addr.mk.injEq, lst_inj, true_and, and_true] at e
  obtain ⟨rfl, rfl⟩ := e
  exact h
def W69 : Trans := fun args H Bd K => ∃ (ps vn : Value), args = [ps, vn] ∧ Yld (cellsAt H 1 ps) fun cs => callW V69 [.agg cs.toArray, vn] H Bd K
@[go_sem ↓] theorem W69_eq (ps vn : Value) (H : AH) (Bd : Nat) (K : Value → AH → Nat → Prop) : W69 [ps, vn] H Bd K = (Yld (cellsAt H 1 ps) fun cs => callW V69 (idS [.agg cs.toArray, vn]) H Bd K) := by
  refine propext ⟨fun h => ?_, fun h => ⟨_, _, rfl, h⟩⟩
  obtain ⟨ps', vn', e, h⟩ := h
  simp only [List.cons.injEq, and_true] at e
  obtain ⟨rfl, rfl⟩ := e
  exact h
theorem W69_ok : OK 69 W69 := by
  rintro args H Bd K ⟨ps, vn, rfl, cs, es, h⟩
  obtain ⟨s, n, e, hpre, hK⟩ := h
  simp only [List.cons.injEq, and_true] at e
  obtain ⟨Es, rfl⟩ := e
  obtain rfl := agg_inj Es
  refine fn_pure pok ((Env.base _).add 14 _ W14_ok) [] _ hK Tryz.func69 rfl (rs := [.tmp 4]) rfl Tryz.ntmps69 (by simp) Tryz.call69 (by kernel_rfl) (fun ha hb => .bool _) (fun hb ha => ?_)
  have Ps := cellsAt_out es (NB.vpok (ha ps (by simp)))
  simp only [enc_GSignature] at Ps
  obtain ⟨h1, h2⟩ := hpre
  simp only [sm_GSignature] at h1
  have hlen := sm_len h1
  simp (maxSteps := 2000000) (disch := first | assumption | (refine asm_intro ?_; assumption) | exact Nat.le_add_right _ _ | exact Nat.le_refl _ | omega | (simp (disch := first | exact Nat.le_add_right _ _ | omega) only [Le_upd hb, Le_app hb, Le_rfl, free_T hb, free_upd]; done) | fail) only [go_sem, push_cast, and_pos, Le_updF, Le_upd hb, free_T hb, Ps.nil, Ps.fldL (m := 1) rfl, Ps.ldL (m := 1) rfl, Ps.ld0L (m := 1) rfl, Ps.cellsL (m := 1) rfl, Ps.cellsOL (m := 1) rfl]
  unfold isSym
  all_goals first | done | trivial | ((try simp only [Cnp, Imp]); grind)
def V36 : Trans := fun args H Bd K => ∃ (s : GSignature) (order : List Int), args = [.agg (enc (s)).toArray, lst (order)] ∧ ((sm s ∧ sm order ∧ rg order) ∧ K (.int .i64 (ordG s order)) H Bd)
@[go_sem ↓] theorem V36_eq (s_symbols : List GSymbol) (order : List Int) (H : AH) (Bd : Nat) (K : Value → AH → Nat → Prop) : V36 [.agg #[lst (s_symbols)], lst (order)] H Bd K = ((sm (GSignature.mk s_symbols) ∧ sm order ∧ rg order) ∧ K (.int .i64 (ordG (GSignature.mk s_symbols) order)) H Bd) := by
  refine propext ⟨fun h => ?_, fun h => ⟨_, _, rfl, h⟩⟩
  obtain ⟨s', order', e, h⟩ := h
  obtain ⟨ssymbols'⟩ := s'
  skip
  simp only [enc_GSignature, enc_int, enc_str, enc_list, enc_bool, enc_byte, List.cons.injEq, Value.agg.injEq, toArr_inj, Value.int.injEq, Value.bool.injEq, Value.string.injEq, Value.slice.injEq, Value.func.injEq, Value.pointer.injEq, Option.some.injEq, Addr.mk.injEq, lst_inj, true_and, and_true] at e
  obtain ⟨rfl, rfl⟩ := e
  exact h
def W36 : Trans := fun args H Bd K => ∃ (ps vorder : Value), args = [ps, vorder] ∧ Yld (cellsAt H 1 ps) fun cs => callW V36 [.agg cs.toArray, vorder] H Bd K
@[go_sem ↓] theorem W36_eq (ps vorder : Value) (H : AH) (Bd : Nat) (K : Value → AH → Nat → Prop) : W36 [ps, vorder] H Bd K = (Yld (cellsAt H 1 ps) fun cs => callW V36 (idS [.agg cs.toArray, vorder]) H Bd K) := by
  refine propext ⟨fun h => ?_, fun h => ⟨_, _, rfl, h⟩⟩
  obtain ⟨ps', vorder', e, h⟩ := h
  simp only [List.cons.injEq, and_true] at e
  obtain ⟨rfl, rfl⟩ := e
  exact h
set_option maxHeartbeats 2000000 in
theorem W36_ok : OK 36 W36 := by
  rintro args H Bd K ⟨ps, vorder, rfl, cs, es, h⟩
  obtain ⟨s, order, e, hpre, hK⟩ := h
  simp only [List.cons.injEq, and_true] at e
  obtain ⟨Es, rfl⟩ := e
  obtain rfl := agg_inj Es
  refine fn_pure pok ((Env.base _).add 69 _ W69_ok) [(14, [0,1,2,3,4,5,6,7,8], [⟨0, [], []⟩, ⟨1, [], []⟩, ⟨2, [], []⟩, ⟨3, [], []⟩, ⟨4, [], []⟩, ⟨5, [], []⟩, ⟨6, [], []⟩, ⟨7, [], []⟩, ⟨8, [], []⟩], .nil)] _ hK Tryz.func36 rfl (rs := [.tmp 4]) rfl Tryz.ntmps36 (by simp) Tryz.call36 (by kernel_rfl) (fun ha hb => .int _ _) (fun hb ha => ?_)
  have Ps := cellsAt_out es (NB.vpok (ha ps (by simp)))
  simp only [enc_GSignature] at Ps
  obtain ⟨h1, h2, h3⟩ := hpre
  have hss : sm s := h1
  simp only [sm_GSignature] at h1
  have hlen := sm_len h1
  have hlen2 := sm_len h2
  simp (maxSteps := 2000000) (disch := first | assumption | (refine asm_intro ?_; assumption) | exact Nat.le_add_right _ _ | exact Nat.le_refl _ | omega | (simp (disch := first | exact Nat.le_add_right _ _ | omega) only [Le_upd hb, Le_app hb, Le_rfl, free_T hb, free_upd]; done) | fail) only [go_sem, push_cast, and_pos, Le_updF, Le_upd hb, free_T hb, Ps.nil, Ps.fldL (m := 1) rfl, Ps.ldL (m := 1) rfl, Ps.ld0L (m := 1) rfl, Ps.cellsL (m := 1) rfl, Ps.cellsOL (m := 1) rfl]
  refine ⟨fun hq => ?_, fun hq => by unfold ordG; rw [if_pos (by omega)]⟩
  have hs : ordG s order = if order.any (fun n => !isSym s n) = true then 3 else if order.Nodup then 0 else 6 := by unfold ordG; rw [if_neg (by omega)]
  rw [hs]
  refine tr_for (fun i => ∀ b, b < i → ∀ y, order[b]? = some y → (!isSym s y) = false) (order.length) (fun i => [(0, ps), (1, lst order), (5, .int .i64 i)]) (by simp) (by simp only [go_sem, push_cast, and_pos, Le_updF]) ?_
  intro i Bi hIi hii hBi
  refine vq_conv pok (E := ((Env.base _).add 69 _ W69_ok)) (PL := [(14, [0,1,2,3,4,5,6,7,8], [⟨0, [], []⟩, ⟨1, [], []⟩, ⟨2, [], []⟩, ⟨3, [], []⟩, ⟨4, [], []⟩, ⟨5, [], []⟩, ⟨6, [], []⟩, ⟨7, [], []⟩, ⟨8, [], []⟩], .nil)]) (by kernel_rfl) ?_
  rcases Nat.lt_or_ge i (order.length) with hlti | hgei
  · have e1 : order[i]? = some order[i] := List.getElem?_eq_getElem hlti
    have hr : R64 order[i] := h3 _ (List.getElem_mem hlti)
    simp (maxSteps := 2000000) (disch := first | assumption | (refine asm_intro ?_; assumption) | exact Nat.le_add_right _ _ | exact Nat.le_refl _ | omega | (simp (disch := first | exact Nat.le_add_right _ _ | omega) only [Le_upd hb, Le_app hb, Le_rfl, free_T hb, free_upd]; done) | fail) only [go_sem, push_cast, and_pos, Le_updF, Le_upd hb, free_T hb, Ps.nil, Ps.fldL (m := 1) rfl, Ps.ldL (m := 1) rfl, Ps.ld0L (m := 1) rfl, Ps.cellsL (m := 1) rfl, Ps.cellsOL (m := 1) rfl, e1, hss, hr]
    refine ⟨fun h => fun b hb1 y hb2 => ?_, fun h => ?_⟩
    · by_cases e : b = i
      · subst e; rw [e1] at hb2; cases hb2; simpa using h
      · exact hIi b (by omega) y hb2
    · rw [if_pos (any_hit hlti (by simpa using h))]
  · simp (maxSteps := 2000000) (disch := first | assumption | (refine asm_intro ?_; assumption) | exact Nat.le_add_right _ _ | exact Nat.le_refl _ | omega | (simp (disch := first | exact Nat.le_add_right _ _ | omega) only [Le_upd hb, Le_app hb, Le_rfl, free_T hb, free_upd]; done) | fail) only [go_sem, push_cast, and_pos, Le_updF, Le_upd hb, free_T hb, Ps.nil, Ps.fldL (m := 1) rfl, Ps.ldL (m := 1) rfl, Ps.ld0L (m := 1) rfl, Ps.cellsL (m := 1) rfl, Ps.cellsOL (m := 1) rfl]
    refine vq_conv pok (E := ((Env.base _).add 69 _ W69_ok)) (PL := [(14, [0,1,2,3,4,5,6,7,8], [⟨0, [], []⟩, ⟨1, [], []⟩, ⟨2, [], []⟩, ⟨3, [], []⟩, ⟨4, [], []⟩, ⟨5, [], []⟩, ⟨6, [], []⟩, ⟨7, [], []⟩, ⟨8, [], []⟩], .nil)]) (by kernel_rfl) ?_
    simp (maxSteps := 2000000) (disch := first | assumption | (refine asm_intro ?_; assumption) | exact Nat.le_add_right _ _ | exact Nat.le_refl _ | omega | (simp (disch := first | exact Nat.le_add_right _ _ | omega) only [Le_upd hb, Le_app hb, Le_rfl, free_T hb, free_upd]; done) | fail) only [go_sem, push_cast, and_pos, Le_updF, Le_upd hb, free_T hb, Ps.nil, Ps.fldL (m := 1) rfl, Ps.ldL (m := 1) rfl, Ps.ld0L (m := 1) rfl, Ps.cellsL (m := 1) rfl, Ps.cellsOL (m := 1) rfl]
    rw [if_neg (by rw [any_false fun j hj x hx => hIi j (by omega) x hx]; simp)]
    refine tr_for (fun j => ∀ a b x y, b < a → a < j → order[a]? = some x → order[b]? = some y → x ≠ y) (order.length) (fun j => [(0, ps), (1, lst order), (6, .int .i64 j)]) (by simp) (by simp only [go_sem, push_cast, and_pos, Le_updF]) ?_
    intro j Bj hIj hij hBj
    refine vq_conv pok (E := ((Env.base _).add 69 _ W69_ok)) (PL := [(14, [0,1,2,3,4,5,6,7,8], [⟨0, [], []⟩, ⟨1, [], []⟩, ⟨2, [], []⟩, ⟨3, [], []⟩, ⟨4, [], []⟩, ⟨5, [], []⟩, ⟨6, [], []⟩, ⟨7, [], []⟩, ⟨8, [], []⟩], .nil)]) (by kernel_rfl) ?_
    rcases Nat.lt_or_ge j (order.length) with hltj | hgej
    · have e1 : order[j]? = some order[j] := List.getElem?_eq_getElem hltj
      simp (maxSteps := 2000000) (disch := first | assumption | (refine asm_intro ?_; assumption) | exact Nat.le_add_right _ _ | exact Nat.le_refl _ | omega | (simp (disch := first | exact Nat.le_add_right _ _ | omega) only [Le_upd hb, Le_app hb, Le_rfl, free_T hb, free_upd]; done) | fail) only [go_sem, push_cast, and_pos, Le_updF, Le_upd hb, free_T hb, Ps.nil, Ps.fldL (m := 1) rfl, Ps.ldL (m := 1) rfl, Ps.ld0L (m := 1) rfl, Ps.cellsL (m := 1) rfl, Ps.cellsOL (m := 1) rfl, e1]
      refine tr_for (fun k => ∀ b y, b < k → order[b]? = some y → order[j] ≠ y) (j) (fun k => [(0, ps), (1, lst order), (6, .int .i64 j), (7, .int .i64 k)]) (by simp) (by simp only [go_sem, push_cast, and_pos, Le_updF]) ?_
      intro k Bk hIk hik hBk
      refine vq_conv pok (E := ((Env.base _).add 69 _ W69_ok)) (PL := [(14, [0,1,2,3,4,5,6,7,8], [⟨0, [], []⟩, ⟨1, [], []⟩, ⟨2, [], []⟩, ⟨3, [], []⟩, ⟨4, [], []⟩, ⟨5, [], []⟩, ⟨6, [], []⟩, ⟨7, [], []⟩, ⟨8, [], []⟩], .nil)]) (by kernel_rfl) ?_
      rcases Nat.lt_or_ge k (j) with hltk | hgek
      · have e2 : order[k]? = some (order[k]'(by omega)) := List.getElem?_eq_getElem _
        simp (maxSteps := 2000000) (disch := first | assumption | (refine asm_intro ?_; assumption) | exact Nat.le_add_right _ _ | exact Nat.le_refl _ | omega | (simp (disch := first | exact Nat.le_add_right _ _ | omega) only [Le_upd hb, Le_app hb, Le_rfl, free_T hb, free_upd]; done) | fail) only [go_sem, push_cast, and_pos, Le_updF, Le_upd hb, free_T hb, Ps.nil, Ps.fldL (m := 1) rfl, Ps.ldL (m := 1) rfl, Ps.ld0L (m := 1) rfl, Ps.cellsL (m := 1) rfl, Ps.cellsOL (m := 1) rfl, e1, e2]
        refine ⟨fun h => ?_, fun h => fun b y hb1 hb2 => ?_⟩
        · rw [if_neg (nodup_not hltk hltj h)]
        · by_cases e : b = k
          · subst e; rw [e2] at hb2; cases hb2; exact h
          · exact hIk b y (by omega) hb2
      · simp (maxSteps := 2000000) (disch := first | assumption | (refine asm_intro ?_; assumption) | exact Nat.le_add_right _ _ | exact Nat.le_refl _ | omega | (simp (disch := first | exact Nat.le_add_right _ _ | omega) only [Le_upd hb, Le_app hb, Le_rfl, free_T hb, free_upd]; done) | fail) only [go_sem, push_cast, and_pos, Le_updF, Le_upd hb, free_T hb, Ps.nil, Ps.fldL (m := 1) rfl, Ps.ldL (m := 1) rfl, Ps.ld0L (m := 1) rfl, Ps.cellsL (m := 1) rfl, Ps.cellsOL (m := 1) rfl]
        intro a b x y h1 h2 h3 h4
        by_cases e : a = j
        · subst e; rw [e1] at h3; cases h3; exact hIk b y (by omega) h4
        · exact hIj a b x y h1 (by omega) h3 h4
    · simp (maxSteps := 2000000) (disch := first | assumption | (refine asm_intro ?_; assumption) | exact Nat.le_add_right _ _ | exact Nat.le_refl _ | omega | (simp (disch := first | exact Nat.le_add_right _ _ | omega) only [Le_upd hb, Le_app hb, Le_rfl, free_T hb, free_upd]; done) | fail) only [go_sem, push_cast, and_pos, Le_updF, Le_upd hb, free_T hb, Ps.nil, Ps.fldL (m := 1) rfl, Ps.ldL (m := 1) rfl, Ps.ld0L (m := 1) rfl, Ps.cellsL (m := 1) rfl, Ps.cellsOL (m := 1) rfl]
      refine vq_conv pok (E := ((Env.base _).add 69 _ W69_ok)) (PL := [(14, [0,1,2,3,4,5,6,7,8], [⟨0, [], []⟩, ⟨1, [], []⟩, ⟨2, [], []⟩, ⟨3, [], []⟩, ⟨4, [], []⟩, ⟨5, [], []⟩, ⟨6, [], []⟩, ⟨7, [], []⟩, ⟨8, [], []⟩], .nil)]) (by kernel_rfl) ?_
      simp (maxSteps := 2000000) (disch := first | assumption | (refine asm_intro ?_; assumption) | exact Nat.le_add_right _ _ | exact Nat.le_refl _ | omega | (simp (disch := first | exact Nat.le_add_right _ _ | omega) only [Le_upd hb, Le_app hb, Le_rfl, free_T hb, free_upd]; done) | fail) only [go_sem, push_cast, and_pos, Le_updF, Le_upd hb, free_T hb, Ps.nil, Ps.fldL (m := 1) rfl, Ps.ldL (m := 1) rfl, Ps.ld0L (m := 1) rfl, Ps.cellsL (m := 1) rfl, Ps.cellsOL (m := 1) rfl]
      rw [if_pos (nodup_of fun i j x y h1 h2 h3 => hIj i j x y h1 (by have := (List.getElem?_eq_some_iff.1 h2).1; omega) h2 h3)]
def V103 : Trans := fun args H Bd K => ∃ (s : GSignature) (n : Int), args = [.agg (enc (s)).toArray, .int .i64 (n)] ∧ ((sm s ∧ R64 n) ∧ K (.bool (isNode s n)) H Bd)
@[go_sem ↓] theorem V103_eq (s_symbols : List GSymbol) (n : Int) (H : AH) (Bd : Nat) (K : Value → AH → Nat → Prop) : V103 [.agg #[lst (s_symbols)], .int .i64 (n)] H Bd K = ((sm (GSignature.mk s_symbols) ∧ R64 n) ∧ K (.bool (isNode (GSignature.mk s_symbols) n)) H Bd) := by
  refine propext ⟨fun h => ?_, fun h => ⟨_, _, rfl, h⟩⟩
  obtain ⟨s', n', e, h⟩ := h
  obtain ⟨ssymbols'⟩ := s'
  skip
  simp only [enc_GSignature, enc_int, enc_str, enc_list, enc_bool, enc_byte, List.cons.injEq, Value.agg.injEq, toArr_inj, Value.int.injEq, Value.bool.injEq, Value.string.injEq, Value.slice.injEq, Value.func.injEq, Value.pointer.injEq, Option.some.injEq, Addr.mk.injEq, lst_inj, true_and, and_true] at e
  obtain ⟨rfl, rfl⟩ := e
  exact h
def W103 : Trans := fun args H Bd K => ∃ (ps vn : Value), args = [ps, vn] ∧ Yld (cellsAt H 1 ps) fun cs => callW V103 [.agg cs.toArray, vn] H Bd K
@[go_sem ↓] theorem W103_eq (ps vn : Value) (H : AH) (Bd : Nat) (K : Value → AH → Nat → Prop) : W103 [ps, vn] H Bd K = (Yld (cellsAt H 1 ps) fun cs => callW V103 (idS [.agg cs.toArray, vn]) H Bd K) := by
  refine propext ⟨fun h => ?_, fun h => ⟨_, _, rfl, h⟩⟩
  obtain ⟨ps', vn', e, h⟩ := h
  simp only [List.cons.injEq, and_true] at e
  obtain ⟨rfl, rfl⟩ := e
  exact h
theorem W103_ok : OK 103 W103 := by
  rintro args H Bd K ⟨ps, vn, rfl, cs, es, h⟩
  obtain ⟨s, n, e, hpre, hK⟩ := h
  simp only [List.cons.injEq, and_true] at e
  obtain ⟨Es, rfl⟩ := e
  obtain rfl := agg_inj Es
  refine fn_pure pok (((Env.base _).add 69 _ W69_ok).add 14 _ W14_ok) [(1, [], [], (.k 4 (.grp false 8 10 2 [9, 10] 11 none (.k 2 .nil) (.k 1 .nil))))] _ hK Tryz.func103 rfl (rs := [.tmp 4]) rfl Tryz.ntmps103 (by simp) Tryz.call103 (by kernel_rfl) (fun ha hb => .bool _) (fun hb ha => ?_)
  have Ps := cellsAt_out es (NB.vpok (ha ps (by simp)))
  simp only [enc_GSignature] at Ps
  obtain ⟨h1, h2⟩ := hpre
  simp (maxSteps := 2000000) (disch := first | assumption | (refine asm_intro ?_; assumption) | exact Nat.le_add_right _ _ | exact Nat.le_refl _ | omega | (simp (disch := first | exact Nat.le_add_right _ _ | omega) only [Le_upd hb, Le_app hb, Le_rfl, free_T hb, free_upd]; done) | fail) only [go_sem, push_cast, and_pos, Le_updF, Le_upd hb, free_T hb, Ps.nil, Ps.fldL (m := 1) rfl, Ps.ldL (m := 1) rfl, Ps.ld0L (m := 1) rfl, Ps.cellsL (m := 1) rfl, Ps.cellsOL (m := 1) rfl, h1, h2]
  simp [isNode]
def V104 : Trans := fun args H Bd K => ∃ (s : GSignature) (t : List Int) (a : Int), args = [.agg (enc (s)).toArray, lst (t), .int .i64 (a)] ∧ ((sm s ∧ sm t ∧ sigF s = 0 ∧ nodes s t ∧ 0 ≤ a ∧ a ≤ t.length) ∧ K (.int .i64 (ep s t 1 a.toNat)) H Bd)
@[go_sem ↓] theorem V104_eq (s_symbols : List GSymbol) (t : List Int) (a : Int) (H : AH) (Bd : Nat) (K : Value → AH → Nat → Prop) : V104 [.agg #[lst (s_symbols)], lst (t), .int .i64 (a)] H Bd K = ((sm (GSignature.mk s_symbols) ∧ sm t ∧ sigF (GSignature.mk s_symbols) = 0 ∧ nodes (GSignature.mk s_symbols) t ∧ 0 ≤ a ∧ a ≤ t.length) ∧ K (.int .i64 (ep (GSignature.mk s_symbols) t 1 a.toNat)) H Bd) := by
  refine propext ⟨fun h => ?_, fun h => ⟨_, _, _, rfl, h⟩⟩
  obtain ⟨s', t', a', e, h⟩ := h
  obtain ⟨ssymbols'⟩ := s'
  skip
  skip
  simp only [enc_GSignature, enc_int, enc_str, enc_list, enc_bool, enc_byte, List.cons.injEq, Value.agg.injEq, toArr_inj, Value.int.injEq, Value.bool.injEq, Value.string.injEq, Value.slice.injEq, Value.func.injEq, Value.pointer.injEq, Option.some.injEq, Addr.mk.injEq, lst_inj, true_and, and_true] at e
  obtain ⟨rfl, rfl, rfl⟩ := e
  exact h
def W104 : Trans := fun args H Bd K => ∃ (ps vt va : Value), args = [ps, vt, va] ∧ Yld (cellsAt H 1 ps) fun cs => callW V104 [.agg cs.toArray, vt, va] H Bd K
@[go_sem ↓] theorem W104_eq (ps vt va : Value) (H : AH) (Bd : Nat) (K : Value → AH → Nat → Prop) : W104 [ps, vt, va] H Bd K = (Yld (cellsAt H 1 ps) fun cs => callW V104 (idS [.agg cs.toArray, vt, va]) H Bd K) := by
  refine propext ⟨fun h => ?_, fun h => ⟨_, _, _, rfl, h⟩⟩
  obtain ⟨ps', vt', va', e, h⟩ := h
  simp only [List.cons.injEq, and_true] at e
  obtain ⟨rfl, rfl, rfl⟩ := e
  exact h
def Q104 (N : Nat) : Trans := fun args H Bd K => ∃ (s : GSignature) (t : List Int) (a : Int), args = [.agg (enc (s)).toArray, lst (t), .int .i64 (a)] ∧ (((sm s ∧ sm t ∧ sigF s = 0 ∧ nodes s t ∧ 0 ≤ a ∧ a ≤ t.length) ∧ (t.length + 1 - a.toNat) < N) ∧ K (.int .i64 (ep s t 1 a.toNat)) H Bd)
@[go_sem ↓] theorem Q104_eq (N : Nat) (s_symbols : List GSymbol) (t : List Int) (a : Int) (H : AH) (Bd : Nat) (K : Value → AH → Nat → Prop) : Q104 N [.agg #[lst (s_symbols)], lst (t), .int .i64 (a)] H Bd K = (((sm (GSignature.mk s_symbols) ∧ sm t ∧ sigF (GSignature.mk s_symbols) = 0 ∧ nodes (GSignature.mk s_symbols) t ∧ 0 ≤ a ∧ a ≤ t.length) ∧ (t.length + 1 - a.toNat) < N) ∧ K (.int .i64 (ep (GSignature.mk s_symbols) t 1 a.toNat)) H Bd) := by
  refine propext ⟨fun h => ?_, fun h => ⟨_, _, _, rfl, h⟩⟩
  obtain ⟨s', t', a', e, h⟩ := h
  obtain ⟨ssymbols'⟩ := s'
  skip
  skip
  simp only [enc_GSignature, enc_int, enc_str, enc_list, enc_bool, enc_byte, List.cons.injEq, Value.agg.injEq, toArr_inj, Value.int.injEq, Value.bool.injEq, Value.string.injEq, Value.slice.injEq, Value.func.injEq, Value.pointer.injEq, Option.some.injEq, Addr.mk.injEq, lst_inj, true_and, and_true] at e
  obtain ⟨rfl, rfl, rfl⟩ := e
  exact h
def R104 (N : Nat) : Trans := fun args H Bd K => ∃ (ps vt va : Value), args = [ps, vt, va] ∧ Yld (cellsAt H 1 ps) fun cs => callW (Q104 N) [.agg cs.toArray, vt, va] H Bd K
@[go_sem ↓] theorem R104_eq (N : Nat) (ps vt va : Value) (H : AH) (Bd : Nat) (K : Value → AH → Nat → Prop) : R104 N [ps, vt, va] H Bd K = (Yld (cellsAt H 1 ps) fun cs => callW (Q104 N) (idS [.agg cs.toArray, vt, va]) H Bd K) := by
  refine propext ⟨fun h => ?_, fun h => ⟨_, _, _, rfl, h⟩⟩
  obtain ⟨ps', vt', va', e, h⟩ := h
  simp only [List.cons.injEq, and_true] at e
  obtain ⟨rfl, rfl, rfl⟩ := e
  exact h
set_option maxHeartbeats 2000000 in
theorem R104_step (N : Nat) (ih : OK 104 (R104 N)) : OK 104 (R104 (N + 1)) := by
  rintro args H Bd K ⟨ps, vt, va, rfl, cs, es, h⟩
  obtain ⟨s, t, a, e, hpre, hK⟩ := h
  simp only [List.cons.injEq, and_true] at e
  obtain ⟨Es, rfl, rfl⟩ := e
  obtain rfl := agg_inj Es
  refine fn_pure pok ((Env.base _).add 104 _ ih) [(7, [0,1,2,3,4,5,6,7,8,9,10,11,12], [⟨0, [], []⟩, ⟨1, [], []⟩, ⟨2, [], []⟩, ⟨3, [], []⟩, ⟨4, [], []⟩, ⟨5, [], []⟩, ⟨6, [], []⟩, ⟨7, [], []⟩, ⟨8, [], []⟩, ⟨9, [], []⟩, ⟨10, [], []⟩, ⟨11, [], []⟩, ⟨12, [], []⟩], .nil)] _ hK Tryz.func104 rfl (rs := [.tmp 6]) rfl Tryz.ntmps104 (by simp) Tryz.call104 (by kernel_rfl) (fun ha hb => .int _ _) (fun hb ha => ?_)
  have Ps := cellsAt_out es (NB.vpok (ha ps (by simp)))
  simp only [enc_GSignature] at Ps
  obtain ⟨⟨h1, h2, h3, h4, h5, h6⟩, hrec⟩ := hpre
  have hss : sm s := h1
  simp only [sm_GSignature] at h1
  have hlen := sm_len h1
  have hs := sig_ok h3
  have hlt2 := sm_len h2
  obtain ⟨a, rfl⟩ := Int.eq_ofNat_of_zero_le h5
  simp only [Int.toNat_natCast] at hrec
  by_cases hlt : a < t.length
  · have e1 : t[a]? = some t[a] := List.getElem?_eq_getElem hlt
    have hn := h4 _ (List.getElem_mem hlt)
    by_cases hx : t[a] < 0
    · have e5 : ep s t 1 a = a + 1 := by rw [ep_node 0 e1, arN_neg hx, ep_zero (by omega)]; omega
      simp (maxSteps := 2000000) (disch := first | assumption | (refine asm_intro ?_; assumption) | exact Nat.le_add_right _ _ | exact Nat.le_refl _ | omega | (simp (disch := first | exact Nat.le_add_right _ _ | omega) only [Le_upd hb, Le_app hb, Le_rfl, free_T hb, free_upd]; done) | fail) only [go_sem, push_cast, and_pos, Le_updF, Le_upd hb, free_T hb, Ps.nil, Ps.fldL (m := 1) rfl, Ps.ldL (m := 1) rfl, Ps.ld0L (m := 1) rfl, Ps.cellsL (m := 1) rfl, Ps.cellsOL (m := 1) rfl, e1, hx, e5]
    · have e4 : t[a].toNat < s.symbols.length := by omega
      have e2 : s.symbols[t[a].toNat]? = some s.symbols[t[a].toNat] := List.getElem?_eq_getElem e4
      have ha := hs.nm _ (List.getElem_mem e4)
      have e5 : ep s t 1 a = ep s t (s.symbols[t[a].toNat].arity.toNat) (a + 1) := by rw [ep_node 0 e1, arN_sym (by omega) e2, Nat.zero_add]
      simp (maxSteps := 2000000) (disch := first | assumption | (refine asm_intro ?_; assumption) | exact Nat.le_add_right _ _ | exact Nat.le_refl _ | omega | (simp (disch := first | exact Nat.le_add_right _ _ | omega) only [Le_upd hb, Le_app hb, Le_rfl, free_T hb, free_upd]; done) | fail) only [go_sem, push_cast, and_pos, Le_updF, Le_upd hb, free_T hb, Ps.nil, Ps.fldL (m := 1) rfl, Ps.ldL (m := 1) rfl, Ps.ld0L (m := 1) rfl, Ps.cellsL (m := 1) rfl, Ps.cellsOL (m := 1) rfl, e1, hx]
      refine tr_for (fun i => 0 ≤ ep s t i (a + 1)) (s.symbols[t[a].toNat].arity.toNat) (fun i => [(0, ps), (1, lst t), (2, .int .i64 a), (7, .int .i64 (ep s t i (a + 1))), (8, .int .i64 i)]) ((by rw [ep_zero (by omega)]; omega)) (by simp only [go_sem, push_cast, and_pos, Le_updF, ep_zero (show a + 1 ≤ t.length by omega)]) ?_
      intro i Bi hIi hii hBi
      refine vq_conv pok (E := ((Env.base _).add 104 _ ih)) (PL := [(7, [0,1,2,3,4,5,6,7,8,9,10,11,12], [⟨0, [], []⟩, ⟨1, [], []⟩, ⟨2, [], []⟩, ⟨3, [], []⟩, ⟨4, [], []⟩, ⟨5, [], []⟩, ⟨6, [], []⟩, ⟨7, [], []⟩, ⟨8, [], []⟩, ⟨9, [], []⟩, ⟨10, [], []⟩, ⟨11, [], []⟩, ⟨12, [], []⟩], .nil)]) (by kernel_rfl) ?_
      rcases Nat.lt_or_ge i (s.symbols[t[a].toNat].arity.toNat) with hlti | hgei
      · rcases ep_cases (s := s) (t := t) i (show a + 1 ≤ t.length by omega) with ⟨q1, _⟩ | ⟨m, q1, q2, q3, _⟩
        · omega
        have hst : ep s t (i + 1) (a + 1) = ep s t 1 (a + 1 + m) := by rw [ep_add i 1 (show a + 1 ≤ t.length by omega), q3, if_neg (by omega), Int.toNat_natCast]
        have hc : (i : Int) < s.symbols[t[a].toNat].arity := by omega
        have hcv : ((a : Int) + 1 + m).toNat = a + 1 + m := by omega
        simp (maxSteps := 2000000) (disch := first | assumption | (refine asm_intro ?_; assumption) | exact Nat.le_add_right _ _ | exact Nat.le_refl _ | omega | (simp (disch := first | exact Nat.le_add_right _ _ | omega) only [Le_upd hb, Le_app hb, Le_rfl, free_T hb, free_upd]; done) | fail) only [go_sem, push_cast, and_pos, Le_updF, Le_upd hb, free_T hb, Ps.nil, Ps.fldL (m := 1) rfl, Ps.ldL (m := 1) rfl, Ps.ld0L (m := 1) rfl, Ps.cellsL (m := 1) rfl, Ps.cellsOL (m := 1) rfl, e1, e2, hx, hc, q3, hss, h2, h3, h4]
        rw [hcv, ← hst]
        refine ⟨fun h => ?_, fun h => ⟨by omega, rfl⟩⟩
        rw [e5, show s.symbols[t[a].toNat].arity.toNat = (i + 1) + (s.symbols[t[a].toNat].arity.toNat - (i + 1)) by omega, ep_add (i + 1) _ (show a + 1 ≤ t.length by omega), if_pos h]
      · have hc : ¬ (i : Int) < s.symbols[t[a].toNat].arity := by omega
        simp (maxSteps := 2000000) (disch := first | assumption | (refine asm_intro ?_; assumption) | exact Nat.le_add_right _ _ | exact Nat.le_refl _ | omega | (simp (disch := first | exact Nat.le_add_right _ _ | omega) only [Le_upd hb, Le_app hb, Le_rfl, free_T hb, free_upd]; done) | fail) only [go_sem, push_cast, and_pos, Le_updF, Le_upd hb, free_T hb, Ps.nil, Ps.fldL (m := 1) rfl, Ps.ldL (m := 1) rfl, Ps.ld0L (m := 1) rfl, Ps.cellsL (m := 1) rfl, Ps.cellsOL (m := 1) rfl, e1, e2, hx, hc]
        refine vq_conv pok (E := ((Env.base _).add 104 _ ih)) (PL := [(7, [0,1,2,3,4,5,6,7,8,9,10,11,12], [⟨0, [], []⟩, ⟨1, [], []⟩, ⟨2, [], []⟩, ⟨3, [], []⟩, ⟨4, [], []⟩, ⟨5, [], []⟩, ⟨6, [], []⟩, ⟨7, [], []⟩, ⟨8, [], []⟩, ⟨9, [], []⟩, ⟨10, [], []⟩, ⟨11, [], []⟩, ⟨12, [], []⟩], .nil)]) (by kernel_rfl) ?_
        simp (maxSteps := 2000000) (disch := first | assumption | (refine asm_intro ?_; assumption) | exact Nat.le_add_right _ _ | exact Nat.le_refl _ | omega | (simp (disch := first | exact Nat.le_add_right _ _ | omega) only [Le_upd hb, Le_app hb, Le_rfl, free_T hb, free_upd]; done) | fail) only [go_sem, push_cast, and_pos, Le_updF, Le_upd hb, free_T hb, Ps.nil, Ps.fldL (m := 1) rfl, Ps.ldL (m := 1) rfl, Ps.ld0L (m := 1) rfl, Ps.cellsL (m := 1) rfl, Ps.cellsOL (m := 1) rfl]
        rw [e5, show i = s.symbols[t[a].toNat].arity.toNat by omega]
  · have e5 : ep s t 1 a = -1 := ep_out 0 (by omega)
    simp (maxSteps := 2000000) (disch := first | assumption | (refine asm_intro ?_; assumption) | exact Nat.le_add_right _ _ | exact Nat.le_refl _ | omega | (simp (disch := first | exact Nat.le_add_right _ _ | omega) only [Le_upd hb, Le_app hb, Le_rfl, free_T hb, free_upd]; done) | fail) only [go_sem, push_cast, and_pos, Le_updF, Le_upd hb, free_T hb, Ps.nil, Ps.fldL (m := 1) rfl, Ps.ldL (m := 1) rfl, Ps.ld0L (m := 1) rfl, Ps.cellsL (m := 1) rfl, Ps.cellsOL (m := 1) rfl, hlt, e5]
theorem R104_zero : OK 104 (R104 0) := by
  rintro args H Bd K ⟨ps, vt, va, rfl, cs, es, h⟩
  obtain ⟨s, t, a, e, hpre, hK⟩ := h
  exact absurd hpre.2 (Nat.not_lt_zero _)
theorem R104_ok : ∀ N, OK 104 (R104 N)
  | 0 => R104_zero
  | N + 1 => R104_step N (R104_ok N)
theorem W104_ok : OK 104 W104 := by
  rintro args H Bd K ⟨ps, vt, va, rfl, cs, es, h⟩
  obtain ⟨s, t, a, e, hpre, hK⟩ := h
  exact R104_ok ((t.length + 1 - a.toNat) + 1) _ _ _ _ ⟨ps, vt, va, rfl, cs, es, s, t, a, e, ⟨hpre, Nat.lt_succ_self _⟩, hK⟩
def V73 : Trans := fun args H Bd K => ∃ (s : GSignature) (t : List Int), args = [.agg (enc (s)).toArray, lst (t)] ∧ ((sm s ∧ sm t ∧ rg t ∧ sigF s = 0) ∧ K (.int .i64 (termG s t)) H Bd)
@[go_sem ↓] theorem V73_eq (s_symbols : List GSymbol) (t : List Int) (H : AH) (Bd : Nat) (K : Value → AH → Nat → Prop) : V73 [.agg #[lst (s_symbols)], lst (t)] H Bd K = ((sm (GSignature.mk s_symbols) ∧ sm t ∧ rg t ∧ sigF (GSignature.mk s_symbols) = 0) ∧ K (.int .i64 (termG (GSignature.mk s_symbols) t)) H Bd) := by
  refine propext ⟨fun h => ?_, fun h => ⟨_, _, rfl, h⟩⟩
  obtain ⟨s', t', e, h⟩ := h
  obtain ⟨ssymbols'⟩ := s'
  skip
  simp only [enc_GSignature, enc_int, enc_str, enc_list, enc_bool, enc_byte, List.cons.injEq, Value.agg.injEq, toArr_inj, Value.int.injEq, Value.bool.injEq, Value.string.injEq, Value.slice.injEq, Value.func.injEq, Value.pointer.injEq, Option.some.injEq, Addr.mk.injEq, lst_inj, true_and, and_true] at e
  obtain ⟨rfl, rfl⟩ := e
  exact h
def W73 : Trans := fun args H Bd K => ∃ (ps vt : Value), args = [ps, vt] ∧ Yld (cellsAt H 1 ps) fun cs => callW V73 [.agg cs.toArray, vt] H Bd K
@[go_sem ↓] theorem W73_eq (ps vt : Value) (H : AH) (Bd : Nat) (K : Value → AH → Nat → Prop) : W73 [ps, vt] H Bd K = (Yld (cellsAt H 1 ps) fun cs => callW V73 (idS [.agg cs.toArray, vt]) H Bd K) := by
  refine propext ⟨fun h => ?_, fun h => ⟨_, _, rfl, h⟩⟩
  obtain ⟨ps', vt', e, h⟩ := h
  simp only [List.cons.injEq, and_true] at e
  obtain ⟨rfl, rfl⟩ := e
  exact h
set_option maxHeartbeats 2000000 in
theorem W73_ok : OK 73 W73 := by
  rintro args H Bd K ⟨ps, vt, rfl, cs, es, h⟩
  obtain ⟨s, t, e, hpre, hK⟩ := h
  simp only [List.cons.injEq, and_true] at e
  obtain ⟨Es, rfl⟩ := e
  obtain rfl := agg_inj Es
  refine fn_pure pok (((Env.base _).add 103 _ W103_ok).add 104 _ W104_ok) [(1, [], [], (.k 4 (.grp false 9 12 3 [10, 11, 12] 13 none (.k 3 .nil) .nil)))] _ hK Tryz.func73 rfl (rs := [.tmp 4]) rfl Tryz.ntmps73 (by simp) Tryz.call73 (by kernel_rfl) (fun ha hb => .int _ _) (fun hb ha => ?_)
  have Ps := cellsAt_out es (NB.vpok (ha ps (by simp)))
  simp only [enc_GSignature] at Ps
  obtain ⟨h1, h2, h3, h4⟩ := hpre
  have hss : sm s := h1
  have hlt2 := sm_len h2
  simp (maxSteps := 2000000) (disch := first | assumption | (refine asm_intro ?_; assumption) | exact Nat.le_add_right _ _ | exact Nat.le_refl _ | omega | (simp (disch := first | exact Nat.le_add_right _ _ | omega) only [Le_upd hb, Le_app hb, Le_rfl, free_T hb, free_upd]; done) | fail) only [go_sem, push_cast, and_pos, Le_updF, Le_upd hb, free_T hb, Ps.nil, Ps.fldL (m := 1) rfl, Ps.ldL (m := 1) rfl, Ps.ld0L (m := 1) rfl, Ps.cellsL (m := 1) rfl, Ps.cellsOL (m := 1) rfl, h2]
  refine ⟨fun hq => by unfold termG; rw [if_pos (by omega)], fun hq1 hq2 => ?_⟩
  have hs : termG s t = if t.any (fun n => !isNode s n) = true then 3 else if ep s t 1 0 = t.length then 0 else 1 := by unfold termG; rw [if_neg (by omega)]
  rw [hs]
  refine tr_for (fun i => ∀ j, j < i → ∀ x, t[j]? = some x → isNode s x = true) (t.length) (fun i => [(0, ps), (1, lst t), (5, .int .i64 i)]) (by simp) (by simp only [go_sem, push_cast, and_pos, Le_updF]) ?_
  intro i Bi hIi hii hBi
  refine vq_conv pok (E := (((Env.base _).add 103 _ W103_ok).add 104 _ W104_ok)) (PL := [(1, [], [], (.k 4 (.grp false 9 12 3 [10, 11, 12] 13 none (.k 3 .nil) .nil)))]) (by kernel_rfl) ?_
  rcases Nat.lt_or_ge i (t.length) with hlti | hgei
  · have e1 : t[i]? = some t[i] := List.getElem?_eq_getElem hlti
    have h5 := h3 _ (List.getElem_mem hlti)
    simp (maxSteps := 2000000) (disch := first | assumption | (refine asm_intro ?_; assumption) | exact Nat.le_add_right _ _ | exact Nat.le_refl _ | omega | (simp (disch := first | exact Nat.le_add_right _ _ | omega) only [Le_upd hb, Le_app hb, Le_rfl, free_T hb, free_upd]; done) | fail) only [go_sem, push_cast, and_pos, Le_updF, Le_upd hb, free_T hb, Ps.nil, Ps.fldL (m := 1) rfl, Ps.ldL (m := 1) rfl, Ps.ld0L (m := 1) rfl, Ps.cellsL (m := 1) rfl, Ps.cellsOL (m := 1) rfl, e1, hss, h5]
    refine ⟨h5, fun h j hj x hx => ?_, fun h => ?_⟩
    · by_cases e : j = i
      · subst e; rw [e1] at hx; cases hx; exact h
      · exact hIi j (by omega) x hx
    · rw [if_pos (any_hit hlti (by simpa using h))]
  · simp (maxSteps := 2000000) (disch := first | assumption | (refine asm_intro ?_; assumption) | exact Nat.le_add_right _ _ | exact Nat.le_refl _ | omega | (simp (disch := first | exact Nat.le_add_right _ _ | omega) only [Le_upd hb, Le_app hb, Le_rfl, free_T hb, free_upd]; done) | fail) only [go_sem, push_cast, and_pos, Le_updF, Le_upd hb, free_T hb, Ps.nil, Ps.fldL (m := 1) rfl, Ps.ldL (m := 1) rfl, Ps.ld0L (m := 1) rfl, Ps.cellsL (m := 1) rfl, Ps.cellsOL (m := 1) rfl]
    refine vq_conv pok (E := (((Env.base _).add 103 _ W103_ok).add 104 _ W104_ok)) (PL := [(1, [], [], (.k 4 (.grp false 9 12 3 [10, 11, 12] 13 none (.k 3 .nil) .nil)))]) (by kernel_rfl) ?_
    have hany : t.any (fun n => !isNode s n) = false := any_false fun j hj x hx => by rw [hIi j (by omega) x hx]; rfl
    have hnd := nodes_any hany
    simp (maxSteps := 2000000) (disch := first | assumption | (refine asm_intro ?_; assumption) | exact Nat.le_add_right _ _ | exact Nat.le_refl _ | omega | (simp (disch := first | exact Nat.le_add_right _ _ | omega) only [Le_upd hb, Le_app hb, Le_rfl, free_T hb, free_upd]; done) | fail) only [go_sem, push_cast, and_pos, Le_updF, Le_upd hb, free_T hb, Ps.nil, Ps.fldL (m := 1) rfl, Ps.ldL (m := 1) rfl, Ps.ld0L (m := 1) rfl, Ps.cellsL (m := 1) rfl, Ps.cellsOL (m := 1) rfl, hss, h2, h4, hnd, hany]
    refine ⟨fun h => ?_, fun h => ?_⟩
    · rw [if_pos h]
    · rw [if_neg h]

end Go.Proofs.YtliijoclogakdaaGreatDoor
