/- YtliijoclogakdaaGreatDoorA5 -/
import Derived.Test.YtliijoclogakdaaGreatDoorA4
set_option linter.unusedSimpArgs false
set_option linter.unusedVariables false
set_option maxRecDepth 20000
namespace Go.Proofs.YtliijoclogakdaaGreatDoor
open Go Go.SC

def W28 : Trans := fun args H Bd K => ∃ (x : GTheory) (y : GTheory), args = [.agg (enc (x)).toArray, .agg (enc (y)).toArray] ∧ ((sm x) ∧ K (.bool (decide (x = y))) H Bd)
@[go_sem ↓] theorem W28_eq (x_order : List Int) (x_equations : List GEquation) (x_rules : List GEquation) (y_order : List Int) (y_equations : List GEquation) (y_rules : List GEquation) (H : AH) (Bd : Nat) (K : Value → AH → Nat → Prop) : W28 [.agg #[lst (x_order), lst (x_equations), lst (x_rules)], .agg #[lst (y_order), lst (y_equations), lst (y_rules)]] H Bd K = ((sm (GTheory.mk x_order x_equations x_rules)) ∧ K (.bool (decide ((GTheory.mk x_order x_equations x_rules) = (GTheory.mk y_order y_equations y_rules)))) H Bd) := by
  refine propext ⟨fun h => ?_, fun h => ⟨_, _, rfl, h⟩⟩
  obtain ⟨x', y', e, h⟩ := h
  obtain ⟨xorder', xequations', xrules'⟩ := x'
  obtain ⟨yorder', yequations', yrules'⟩ := y'
  simp only [enc_GTheory, List.cons.injEq, Value.agg.injEq, toArr_inj, Value.int.injEq, Value.bool.injEq, Value.string.injEq, Value.slice.injEq, Value.func.injEq, Value.pointer.injEq, Option.some.injEq, Addr.mk.injEq, lst_inj, true_and, and_true] at e
  obtain ⟨⟨rfl, rfl, rfl⟩, ⟨rfl, rfl, rfl⟩⟩ := e
  exact h
theorem W28_ok : OK 28 W28 := by
  rintro args H Bd K ⟨x, y, rfl, hpre, hK⟩
  refine fn_pure pok (((Env.base _).add 64 _ W64_ok).add 65 _ W65_ok) [] _ hK Tryz.func28 rfl (rs := [.tmp 4]) rfl Tryz.ntmps28 (by simp) Tryz.call28 (by kernel_rfl) (fun ha hb => .bool _) (fun hb ha => ?_)
  simp only [sm_GTheory] at hpre
  simp (maxSteps := 2000000) (disch := first | assumption | (refine asm_intro ?_; assumption) | exact Nat.le_add_right _ _ | exact Nat.le_refl _ | omega | (simp (disch := first | exact Nat.le_add_right _ _ | omega) only [Le_upd hb, Le_app hb, Le_rfl, free_T hb, free_upd]; done) | fail) only [go_sem, push_cast, and_pos, Le_updF, Le_upd hb, free_T hb, hpre]
  cases x; cases y
  simp only [Cnp, GTheory.mk.injEq]
  constructor <;> intros <;> simp_all

def W29 : Trans := fun args H Bd K => ∃ (xs : List UInt8) (ys : List UInt8), args = [lst (xs), lst (ys)] ∧ ((sm xs) ∧ K (.bool (decide (xs = ys))) H Bd)
@[go_sem ↓] theorem W29_eq (xs : List UInt8) (ys : List UInt8) (H : AH) (Bd : Nat) (K : Value → AH → Nat → Prop) : W29 [lst (xs), lst (ys)] H Bd K = ((sm xs) ∧ K (.bool (decide (xs = ys))) H Bd) := by
  refine propext ⟨fun h => ?_, fun h => ⟨_, _, rfl, h⟩⟩
  obtain ⟨xs', ys', e, h⟩ := h
  skip
  skip
  simp only [List.cons.injEq, Value.agg.injEq, toArr_inj, Value.int.injEq, Value.bool.injEq, Value.string.injEq, Value.slice.injEq, Value.func.injEq, Value.pointer.injEq, Option.some.injEq, Addr.mk.injEq, lst_inj, true_and, and_true] at e
  obtain ⟨rfl, rfl⟩ := e
  exact h
theorem W29_ok : OK 29 W29 := by
  rintro args H Bd K ⟨xs, ys, rfl, hpre, hK⟩
  refine fn_pure pok (Env.base _) [(6, [0,1,2,3,4,5,6,7,8], [⟨0, [], []⟩, ⟨1, [], []⟩, ⟨2, [], []⟩, ⟨3, [], []⟩, ⟨4, [], []⟩, ⟨5, [], []⟩, ⟨6, [], []⟩, ⟨7, [], []⟩, ⟨8, [], []⟩], .nil)] _ hK Tryz.func29 rfl (rs := [.tmp 4]) rfl Tryz.ntmps29 (by simp) Tryz.call29 (by kernel_rfl) (fun ha hb => .bool _) (fun hb ha => ?_)
  have hlen := sm_len hpre
  simp (maxSteps := 2000000) (disch := first | assumption | (refine asm_intro ?_; assumption) | exact Nat.le_add_right _ _ | exact Nat.le_refl _ | omega | (simp (disch := first | exact Nat.le_add_right _ _ | omega) only [Le_upd hb, Le_app hb, Le_rfl, free_T hb, free_upd]; done) | fail) only [go_sem, push_cast, and_pos, Le_updF, Le_upd hb, free_T hb]
  refine Cnp.of (fun hl => ?_) (fun hl => cmp_len (by omega))
  have hl' : xs.length = ys.length := by omega
  refine tr_for (fun i => ∀ j, j < i → xs[j]? = ys[j]?) xs.length (fun i => [(0, lst xs), (1, lst ys), (5, .int .i64 i)]) (fun j h => by omega) (by simp only [go_sem, push_cast, and_pos, Le_updF]) ?_
  intro i B0 hI hi hB
  refine vq_conv pok (E := (Env.base _)) (PL := [(6, [0,1,2,3,4,5,6,7,8], [⟨0, [], []⟩, ⟨1, [], []⟩, ⟨2, [], []⟩, ⟨3, [], []⟩, ⟨4, [], []⟩, ⟨5, [], []⟩, ⟨6, [], []⟩, ⟨7, [], []⟩, ⟨8, [], []⟩], .nil)]) (by kernel_rfl) ?_
  rcases Nat.lt_or_ge i xs.length with hlt | hge
  · have e1 : xs[i]? = some xs[i] := List.getElem?_eq_getElem hlt
    have e2 : ys[i]? = some (ys[i]'(by omega)) := List.getElem?_eq_getElem _
    have hx := sm_mem hpre (List.getElem_mem hlt)
    simp (maxSteps := 2000000) (disch := first | assumption | (refine asm_intro ?_; assumption) | exact Nat.le_add_right _ _ | exact Nat.le_refl _ | omega | (simp (disch := first | exact Nat.le_add_right _ _ | omega) only [Le_upd hb, Le_app hb, Le_rfl, free_T hb, free_upd]; done) | fail) only [go_sem, push_cast, and_pos, Le_updF, Le_upd hb, free_T hb, e1, e2, hx]
    exact cmp_step hl' hI hlt (by omega) rfl fun h => h
  · simp (maxSteps := 2000000) (disch := first | assumption | (refine asm_intro ?_; assumption) | exact Nat.le_add_right _ _ | exact Nat.le_refl _ | omega | (simp (disch := first | exact Nat.le_add_right _ _ | omega) only [Le_upd hb, Le_app hb, Le_rfl, free_T hb, free_upd]; done) | fail) only [go_sem, push_cast, and_pos, Le_updF, Le_upd hb, free_T hb]
    refine vq_conv pok (E := (Env.base _)) (PL := [(6, [0,1,2,3,4,5,6,7,8], [⟨0, [], []⟩, ⟨1, [], []⟩, ⟨2, [], []⟩, ⟨3, [], []⟩, ⟨4, [], []⟩, ⟨5, [], []⟩, ⟨6, [], []⟩, ⟨7, [], []⟩, ⟨8, [], []⟩], .nil)]) (by kernel_rfl) ?_
    simp (maxSteps := 2000000) (disch := first | assumption | (refine asm_intro ?_; assumption) | exact Nat.le_add_right _ _ | exact Nat.le_refl _ | omega | (simp (disch := first | exact Nat.le_add_right _ _ | omega) only [Le_upd hb, Le_app hb, Le_rfl, free_T hb, free_upd]; done) | fail) only [go_sem, push_cast, and_pos, Le_updF, Le_upd hb, free_T hb]
    exact cmp_end hl' hI hge

def W66 : Trans := fun args H Bd K => ∃ (x : GRecord) (y : GRecord), args = [.agg (enc (x)).toArray, .agg (enc (y)).toArray] ∧ ((sm x) ∧ K (.bool (decide (x = y))) H Bd)
@[go_sem ↓] theorem W66_eq (x_term : List Int) (x_value : Int) (y_term : List Int) (y_value : Int) (H : AH) (Bd : Nat) (K : Value → AH → Nat → Prop) : W66 [.agg #[lst (x_term), .int .i64 (x_value)], .agg #[lst (y_term), .int .i64 (y_value)]] H Bd K = ((sm (GRecord.mk x_term x_value)) ∧ K (.bool (decide ((GRecord.mk x_term x_value) = (GRecord.mk y_term y_value)))) H Bd) := by
  refine propext ⟨fun h => ?_, fun h => ⟨_, _, rfl, h⟩⟩
  obtain ⟨x', y', e, h⟩ := h
  obtain ⟨xterm', xvalue'⟩ := x'
  obtain ⟨yterm', yvalue'⟩ := y'
  simp only [enc_GRecord, List.cons.injEq, Value.agg.injEq, toArr_inj, Value.int.injEq, Value.bool.injEq, Value.string.injEq, Value.slice.injEq, Value.func.injEq, Value.pointer.injEq, Option.some.injEq, Addr.mk.injEq, lst_inj, true_and, and_true] at e
  obtain ⟨⟨rfl, rfl⟩, ⟨rfl, rfl⟩⟩ := e
  exact h
theorem W66_ok : OK 66 W66 := by
  rintro args H Bd K ⟨x, y, rfl, hpre, hK⟩
  refine fn_pure pok ((Env.base _).add 64 _ W64_ok) [] _ hK Tryz.func66 rfl (rs := [.tmp 4]) rfl Tryz.ntmps66 (by simp) Tryz.call66 (by kernel_rfl) (fun ha hb => .bool _) (fun hb ha => ?_)
  simp only [sm_GRecord] at hpre
  simp (maxSteps := 2000000) (disch := first | assumption | (refine asm_intro ?_; assumption) | exact Nat.le_add_right _ _ | exact Nat.le_refl _ | omega | (simp (disch := first | exact Nat.le_add_right _ _ | omega) only [Le_upd hb, Le_app hb, Le_rfl, free_T hb, free_upd]; done) | fail) only [go_sem, push_cast, and_pos, Le_updF, Le_upd hb, free_T hb, hpre]
  cases x; cases y
  simp only [Cnp, GRecord.mk.injEq]
  constructor <;> intros <;> simp_all

def W30 : Trans := fun args H Bd K => ∃ (xs : List GRecord) (ys : List GRecord), args = [lst (xs), lst (ys)] ∧ ((sm xs) ∧ K (.bool (decide (xs = ys))) H Bd)
@[go_sem ↓] theorem W30_eq (xs : List GRecord) (ys : List GRecord) (H : AH) (Bd : Nat) (K : Value → AH → Nat → Prop) : W30 [lst (xs), lst (ys)] H Bd K = ((sm xs) ∧ K (.bool (decide (xs = ys))) H Bd) := by
  refine propext ⟨fun h => ?_, fun h => ⟨_, _, rfl, h⟩⟩
  obtain ⟨xs', ys', e, h⟩ := h
  skip
  skip
  simp only [List.cons.injEq, Value.agg.injEq, toArr_inj, Value.int.injEq, Value.bool.injEq, Value.string.injEq, Value.slice.injEq, Value.func.injEq, Value.pointer.injEq, Option.some.injEq, Addr.mk.injEq, lst_inj, true_and, and_true] at e
  obtain ⟨rfl, rfl⟩ := e
  exact h
theorem W30_ok : OK 30 W30 := by
  rintro args H Bd K ⟨xs, ys, rfl, hpre, hK⟩
  refine fn_pure pok ((Env.base _).add 66 _ W66_ok) [(6, [0,1,2,3,4,5,6,7,8,9], [⟨0, [], []⟩, ⟨1, [], []⟩, ⟨2, [], []⟩, ⟨3, [], []⟩, ⟨4, [], []⟩, ⟨5, [], []⟩, ⟨6, [], []⟩, ⟨7, [], []⟩, ⟨8, [], []⟩, ⟨9, [], []⟩], .nil)] _ hK Tryz.func30 rfl (rs := [.tmp 4]) rfl Tryz.ntmps30 (by simp) Tryz.call30 (by kernel_rfl) (fun ha hb => .bool _) (fun hb ha => ?_)
  have hlen := sm_len hpre
  simp (maxSteps := 2000000) (disch := first | assumption | (refine asm_intro ?_; assumption) | exact Nat.le_add_right _ _ | exact Nat.le_refl _ | omega | (simp (disch := first | exact Nat.le_add_right _ _ | omega) only [Le_upd hb, Le_app hb, Le_rfl, free_T hb, free_upd]; done) | fail) only [go_sem, push_cast, and_pos, Le_updF, Le_upd hb, free_T hb]
  refine Cnp.of (fun hl => ?_) (fun hl => cmp_len (by omega))
  have hl' : xs.length = ys.length := by omega
  refine tr_for (fun i => ∀ j, j < i → xs[j]? = ys[j]?) xs.length (fun i => [(0, lst xs), (1, lst ys), (5, .int .i64 i)]) (fun j h => by omega) (by simp only [go_sem, push_cast, and_pos, Le_updF]) ?_
  intro i B0 hI hi hB
  refine vq_conv pok (E := ((Env.base _).add 66 _ W66_ok)) (PL := [(6, [0,1,2,3,4,5,6,7,8,9], [⟨0, [], []⟩, ⟨1, [], []⟩, ⟨2, [], []⟩, ⟨3, [], []⟩, ⟨4, [], []⟩, ⟨5, [], []⟩, ⟨6, [], []⟩, ⟨7, [], []⟩, ⟨8, [], []⟩, ⟨9, [], []⟩], .nil)]) (by kernel_rfl) ?_
  rcases Nat.lt_or_ge i xs.length with hlt | hge
  · have e1 : xs[i]? = some xs[i] := List.getElem?_eq_getElem hlt
    have e2 : ys[i]? = some (ys[i]'(by omega)) := List.getElem?_eq_getElem _
    have hx := sm_mem hpre (List.getElem_mem hlt)
    simp (maxSteps := 2000000) (disch := first | assumption | (refine asm_intro ?_; assumption) | exact Nat.le_add_right _ _ | exact Nat.le_refl _ | omega | (simp (disch := first | exact Nat.le_add_right _ _ | omega) only [Le_upd hb, Le_app hb, Le_rfl, free_T hb, free_upd]; done) | fail) only [go_sem, push_cast, and_pos, Le_updF, Le_upd hb, free_T hb, e1, e2, hx]
    exact cmp_step hl' hI hlt (by omega) rfl fun h => h
  · simp (maxSteps := 2000000) (disch := first | assumption | (refine asm_intro ?_; assumption) | exact Nat.le_add_right _ _ | exact Nat.le_refl _ | omega | (simp (disch := first | exact Nat.le_add_right _ _ | omega) only [Le_upd hb, Le_app hb, Le_rfl, free_T hb, free_upd]; done) | fail) only [go_sem, push_cast, and_pos, Le_updF, Le_upd hb, free_T hb]
    refine vq_conv pok (E := ((Env.base _).add 66 _ W66_ok)) (PL := [(6, [0,1,2,3,4,5,6,7,8,9], [⟨0, [], []⟩, ⟨1, [], []⟩, ⟨2, [], []⟩, ⟨3, [], []⟩, ⟨4, [], []⟩, ⟨5, [], []⟩, ⟨6, [], []⟩, ⟨7, [], []⟩, ⟨8, [], []⟩, ⟨9, [], []⟩], .nil)]) (by kernel_rfl) ?_
    simp (maxSteps := 2000000) (disch := first | assumption | (refine asm_intro ?_; assumption) | exact Nat.le_add_right _ _ | exact Nat.le_refl _ | omega | (simp (disch := first | exact Nat.le_add_right _ _ | omega) only [Le_upd hb, Le_app hb, Le_rfl, free_T hb, free_upd]; done) | fail) only [go_sem, push_cast, and_pos, Le_updF, Le_upd hb, free_T hb]
    exact cmp_end hl' hI hge

def W8 : Trans := fun args H Bd K => ∃ (x : GBook) (y : GBook), args = [.agg (enc (x)).toArray, .agg (enc (y)).toArray] ∧ ((sm x) ∧ K (.bool (decide (x = y))) H Bd)
@[go_sem ↓] theorem W8_eq (x_symbols_symbols : List GSymbol) (x_version : Int) (x_theory_order : List Int) (x_theory_equations : List GEquation) (x_theory_rules : List GEquation) (x_moving : Bool) (x_next_order : List Int) (x_next_equations : List GEquation) (x_next_rules : List GEquation) (x_cursor : List UInt8) (x_records : List GRecord) (y_symbols_symbols : List GSymbol) (y_version : Int) (y_theory_order : List Int) (y_theory_equations : List GEquation) (y_theory_rules : List GEquation) (y_moving : Bool) (y_next_order : List Int) (y_next_equations : List GEquation) (y_next_rules : List GEquation) (y_cursor : List UInt8) (y_records : List GRecord) (H : AH) (Bd : Nat) (K : Value → AH → Nat → Prop) : W8 [.agg #[lst (x_symbols_symbols), .int .i64 (x_version), lst (x_theory_order), lst (x_theory_equations), lst (x_theory_rules), .bool (x_moving), lst (x_next_order), lst (x_next_equations), lst (x_next_rules), lst (x_cursor), lst (x_records)], .agg #[lst (y_symbols_symbols), .int .i64 (y_version), lst (y_theory_order), lst (y_theory_equations), lst (y_theory_rules), .bool (y_moving), lst (y_next_order), lst (y_next_equations), lst (y_next_rules), lst (y_cursor), lst (y_records)]] H Bd K = ((sm (GBook.mk (GSignature.mk x_symbols_symbols) x_version (GTheory.mk x_theory_order x_theory_equations x_theory_rules) x_moving (GTheory.mk x_next_order x_next_equations x_next_rules) x_cursor x_records)) ∧ K (.bool (decide ((GBook.mk (GSignature.mk x_symbols_symbols) x_version (GTheory.mk x_theory_order x_theory_equations x_theory_rules) x_moving (GTheory.mk x_next_order x_next_equations x_next_rules) x_cursor x_records) = (GBook.mk (GSignature.mk y_symbols_symbols) y_version (GTheory.mk y_theory_order y_theory_equations y_theory_rules) y_moving (GTheory.mk y_next_order y_next_equations y_next_rules) y_cursor y_records)))) H Bd) := by
  refine propext ⟨fun h => ?_, fun h => ⟨_, _, rfl, h⟩⟩
  obtain ⟨x', y', e, h⟩ := h
  obtain ⟨⟨xsymbolssymbols'⟩, xversion', ⟨xtheoryorder', xtheoryequations', xtheoryrules'⟩, xmoving', ⟨xnext_order', xnext_equations', xnext_rules'⟩, xcursor', xrecords'⟩ := x'
  obtain ⟨⟨ysymbolssymbols'⟩, yversion', ⟨ytheoryorder', ytheoryequations', ytheoryrules'⟩, ymoving', ⟨ynext_order', ynext_equations', ynext_rules'⟩, ycursor', yrecords'⟩ := y'
  simp only [enc_GBook, enc_GSignature, enc_GTheory, List.cons.injEq, Value.agg.injEq, toArr_inj, Value.int.injEq, Value.bool.injEq, Value.string.injEq, Value.slice.injEq, Value.func.injEq, Value.pointer.injEq, Option.some.injEq, Addr.mk.injEq, lst_inj, true_and, and_true] at e
  obtain ⟨⟨rfl, rfl, rfl, rfl, rfl, rfl, rfl, rfl, rfl, rfl, rfl⟩, ⟨rfl, rfl, rfl, rfl, rfl, rfl, rfl, rfl, rfl, rfl, rfl⟩⟩ := e
  exact h
set_option maxHeartbeats 2000000 in
theorem W8_ok : OK 8 W8 := by
  rintro args H Bd K ⟨x, y, rfl, hpre, hK⟩
  refine fn_pure pok (((((Env.base _).add 27 _ W27_ok).add 28 _ W28_ok).add 29 _ W29_ok).add 30 _ W30_ok) [] _ hK Tryz.func8 rfl (rs := [.tmp 4]) rfl Tryz.ntmps8 (by simp) Tryz.call8 (by kernel_rfl) (fun ha hb => .bool _) (fun hb ha => ?_)
  simp only [sm_GBook] at hpre
  simp (maxSteps := 2000000) (disch := first | assumption | (refine asm_intro ?_; assumption) | exact Nat.le_add_right _ _ | exact Nat.le_refl _ | omega | (simp (disch := first | exact Nat.le_add_right _ _ | omega) only [Le_upd hb, Le_app hb, Le_rfl, free_T hb, free_upd]; done) | fail) only [go_sem, push_cast, and_pos, Le_updF, Le_upd hb, free_T hb, hpre]
  cases x; cases y
  simp only [Cnp, GBook.mk.injEq]
  constructor <;> intros <;> simp_all

def W3 : Trans := fun args H Bd K => ∃ (x : GBook), args = [.agg (enc (x)).toArray] ∧ ((sm x ∧ rg x) ∧ K (.bool (true)) H Bd)
@[go_sem ↓] theorem W3_eq (x_symbols_symbols : List GSymbol) (x_version : Int) (x_theory_order : List Int) (x_theory_equations : List GEquation) (x_theory_rules : List GEquation) (x_moving : Bool) (x_next_order : List Int) (x_next_equations : List GEquation) (x_next_rules : List GEquation) (x_cursor : List UInt8) (x_records : List GRecord) (H : AH) (Bd : Nat) (K : Value → AH → Nat → Prop) : W3 [.agg #[lst (x_symbols_symbols), .int .i64 (x_version), lst (x_theory_order), lst (x_theory_equations), lst (x_theory_rules), .bool (x_moving), lst (x_next_order), lst (x_next_equations), lst (x_next_rules), lst (x_cursor), lst (x_records)]] H Bd K = ((sm (GBook.mk (GSignature.mk x_symbols_symbols) x_version (GTheory.mk x_theory_order x_theory_equations x_theory_rules) x_moving (GTheory.mk x_next_order x_next_equations x_next_rules) x_cursor x_records) ∧ rg (GBook.mk (GSignature.mk x_symbols_symbols) x_version (GTheory.mk x_theory_order x_theory_equations x_theory_rules) x_moving (GTheory.mk x_next_order x_next_equations x_next_rules) x_cursor x_records)) ∧ K (.bool (true)) H Bd) := by
  refine propext ⟨fun h => ?_, fun h => ⟨_, rfl, h⟩⟩
  obtain ⟨x', e, h⟩ := h
  obtain ⟨⟨xsymbolssymbols'⟩, xversion', ⟨xtheoryorder', xtheoryequations', xtheoryrules'⟩, xmoving', ⟨xnext_order', xnext_equations', xnext_rules'⟩, xcursor', xrecords'⟩ := x'
  simp only [enc_GBook, enc_GSignature, enc_GTheory, List.cons.injEq, Value.agg.injEq, toArr_inj, Value.int.injEq, Value.bool.injEq, Value.string.injEq, Value.slice.injEq, Value.func.injEq, Value.pointer.injEq, Option.some.injEq, Addr.mk.injEq, lst_inj, true_and, and_true] at e
  obtain ⟨rfl, rfl, rfl, rfl, rfl, rfl, rfl, rfl, rfl, rfl, rfl⟩ := e
  exact h
theorem W3_ok : OK 3 W3 := by
  rintro args H Bd K ⟨x, rfl, hpre, hK⟩
  refine fn_pure pok ((((((Env.base _).add 4 _ W4_ok).add 6 _ W6_ok).add 5 _ W5_ok).add 7 _ W7_ok).add 8 _ W8_ok) [(10, [0,1,2,3,4], [⟨0, [], []⟩, ⟨1, [], []⟩, ⟨2, [], [0]⟩, ⟨3, [], []⟩, ⟨4, [], []⟩], .nil)] _ hK Tryz.func3 rfl (rs := [.tmp 2]) rfl Tryz.ntmps3 (by simp) Tryz.call3 (by kernel_rfl) (fun ha hb => .bool _) (fun hb ha => ?_)
  have hpre2 := hpre
  obtain ⟨h0, h1⟩ := hpre
  have z0 := szP_or (tot x) (1048576)
  have y0 := szP_ub (tot x) (left := 1048576) (by omega)
  simp (maxSteps := 2000000) (disch := first | assumption | (refine asm_intro ?_; assumption) | exact Nat.le_add_right _ _ | exact Nat.le_refl _ | omega | (simp (disch := first | exact Nat.le_add_right _ _ | omega) only [Le_upd hb, Le_app hb, Le_rfl, free_T hb, free_upd]; done) | fail) only [go_sem, push_cast, and_pos, Le_updF, Le_upd hb, free_T hb, h0, h1]
  all_goals (simp only [Cnp, Imp]; (repeat' (first | apply And.intro | intro _)) <;> first | trivial | omega)

end Go.Proofs.YtliijoclogakdaaGreatDoor
